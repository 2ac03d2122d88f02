/- A past that knows a history: what each of its methods answers, in the history's words. -/
import Derived.Maps.RangeWalk
import Derived.Laws.IdiomRangeMap
import Derived.Sort.KeysCollected
import Derived.Sort.Walk0
import Derived.Test.YtacedfcckkpciaaGreatDoorPwLK
import Derived.Test.YtacedfcckkpciaaGreatDoorSortYK
namespace Go.Proofs.YtacedfcckkpciaaGreatDoor
open Go.RowKit Go.Deep Go.Shelf Go.Sort Go.Maps

theorem ranges_frame {P : Program} {k : TypeId} {R : Value → Option (DataW Unit × List MemPlace)} {F : Nat → Prop} {w w' : World} {b r n : Nat} {D : DataW Unit} {left : Lit → Bool} {cnt : Nat} (h : w.ranges P k R b r n D left cnt) (hf : Fr F w w') (hb : ¬ F b) (hr : ¬ F r) : w'.ranges P k R b r n D left cnt := by
  obtain ⟨es, clock, since, seen, c0, hb', F', hs, hD, hr', rest⟩ := h
  exact ⟨es, clock, since, seen, c0, hf.keeps hb' hb, F', hs, hD, hf.keeps hr' hr, rest⟩
/-- The step of a loop over a map, whatever its keys and elements. -/
theorem wpList_next_raw {P : Program} (w : World) {ops : Array Oper} {rest : List Oper} {o : Oper} {a : Act} {Q : Exit → Act → World → Prop} (hg : o.guard = none) (it : Operand) (hop : o.op = Op.next it false) (k : TypeId) (K : Keyed P k) (R : Value → Option (DataW Unit × List MemPlace)) (b r n : Nat) (D : DataW Unit) (left : Lit → Bool) (cnt : Nat)
    (hit : a.eval it = .pointer (some ⟨r, 0, none⟩)) (h : w.ranges P k R b r n D left cnt)
    (hDone : cnt = 0 → (∀ kl, left kl = false) → wpList P ops Q rest (a.put o.dst (.tuple #[.bool false])) w)
    (hMore : ∀ (key v : Value) (kl : Lit) (y : DataW Unit × List MemPlace) (w' : World) (cnt' : Nat), keyOf P k key = some kl → left kl = true → R v = some y → (∀ zd, D.atKey kl zd = y.1) → w'.ranges P k R b r n D (fun z => left z && !z.sameKey kl) cnt' → cnt' < cnt →
      w.grownBy w' (some r) → w'.heap.size = w.heap.size → (Instr.entry (.pointer (some ⟨r, 0, none⟩))).run P w' = .ok (.tuple #[key, v]) w' → wpList P ops Q rest (a.put o.dst (.tuple #[.bool true, key, v])) w') :
    wpList P ops Q (o :: rest) a w := by
  refine wpList_plain hg fun K' hK' => ?_
  unfold Oper.wp
  rcases h.next K o.type with ⟨h0, hl, hrun⟩ | ⟨key, v, kl, y, w', cnt', hkey, hlk, hv, hat, hrun, hrg, hlt, hgr, hsz, hen⟩
  · simp [execOp, hop, hit, hrun, Result.andThen]
    exact hK' _ _ (hDone h0 hl)
  · simp [execOp, hop, hit, hrun, Result.andThen]
    exact hK' _ _ (hMore key v kl y w' cnt' hkey hlk hv hat hrg hlt hgr hsz hen)

theorem infoKey : (Tryz.prog.info? 29).map (fun i => (i.zero, i.size, i.bytes)) = some (some (.agg #[.int .i64 0, .int .i64 0, .string ⟨#[]⟩, .int .i64 0]), 4, 40) := by kernel_rfl
theorem flatKeys_append (l m : List KeyP) : flatKeys (l ++ m) = flatKeys l ++ flatKeys m := by simp [flatKeys]
theorem flatKeys_length (l : List KeyP) : (flatKeys l).length = l.length * 4 := by
  induction l with
  | nil => rfl
  | cons p l ih => simp only [flatKeys, List.flatMap_cons, List.length_append] at *; rw [ih]; simp [encK]; omega
/-- One key more. -/
theorem appKey {W : World} {ops : Array Oper} {rest : List Oper} {o : Oper} {a : Act} {Q : Exit → Act → World → Prop} (hgd : o.guard = none) (s x : Operand)
    (ho : o.op = .call { callee := .builtin .append, args := #[s, x], argTypes := #[64, 64] }) (base : Nat) (v : Value) (l : List KeyP) (hs : a.eval s = v) (hown : W.ownsRow base 29 4 v l.length (flatKeys l))
    (b : Nat) (p : KeyP) (hx : a.eval x = .slice (some ⟨b, 0, none⟩) 1 1) (hc0 : W.cell? ⟨b, 0, none⟩ = some (.int .i64 p.kind)) (hc1 : W.cell? ⟨b, 1, none⟩ = some (.int .i64 p.a)) (hc2 : W.cell? ⟨b, 2, none⟩ = some (.string p.word)) (hc3 : W.cell? ⟨b, 3, none⟩ = some (.int .i64 p.b))
    (hbytes : (l.length + 1) * 40 ≤ 140737488355328) (hbase : base ≤ W.heap.size) (w0 : World) (hB : Below base w0 W)
    (h : ∀ v' w', w'.ownsRow base 29 4 v' (l ++ [p]).length (flatKeys (l ++ [p])) → Below base w0 w' → W.heap.size ≤ w'.heap.size → W.grownBy w' v.ownBlock → wpList Tryz.prog ops Q rest (a.put o.dst v') w') : wpList Tryz.prog ops Q (o :: rest) a W := by
  refine app1 hgd s x _ ho base 29 Tryz.underlying64 infoKey rfl (by decide) (by decide) v l.length (flatKeys l) hs hown b (encK p) hx rfl (fun u hu => ?_) (fun j u hu => ?_) hbytes hbase w0 hB fun v' w' h2 h3 h4 h5 h6 => h v' w' ?_ h3 h4 h6
  · simp [encK] at hu; rcases hu with rfl | rfl | rfl | rfl <;> rfl
  · match j, hu with
    | 0, hu => simp [encK] at hu; subst hu; exact hc0
    | 1, hu => simp [encK] at hu; subst hu; exact hc1
    | 2, hu => simp [encK] at hu; subst hu; exact hc2
    | 3, hu => simp [encK] at hu; subst hu; exact hc3
  · rw [flatKeys_append, List.length_append]
    have e : flatKeys [p] = encK p := by simp [flatKeys]
    rw [e]; exact h2

/-! ### Who has come -/
structure KL (ts : List Tr) (p : KeyP → Prop) (left : Lit → Bool) (U : List KeyP) : Prop where
  nod : U.Nodup
  mem : ∀ k, k ∈ U ↔ (∃ x ∈ ts, x.key = k ∧ left (kK k) = false) ∧ p k
theorem kK_same {x y : KeyP} (hx : keyB x = true) (hy : keyB y = true) : (kK x).sameKey (kK y) = decide (x = y) := by
  rw [Bool.eq_iff_iff]
  simp only [decide_eq_true_eq]
  constructor
  · intro h; exact kK_inj hx hy (WideAt.sameKey_eq h)
  · intro h; subst h; exact WideAt.sameKey_self (kK_key _)
theorem KL.start {ts : List Tr} {p : KeyP → Prop} {left : Lit → Bool} (h : ∀ x ∈ ts, left (kK x.key) = true) : KL ts p left [] :=
  ⟨List.nodup_nil, fun k => ⟨(fun h => by cases h), (fun ⟨⟨x, hx, e, hl⟩, _⟩ => by subst e; rw [h x hx] at hl; cases hl)⟩⟩
theorem KL.old {ts : List Tr} {p : KeyP → Prop} {left : Lit → Bool} {U : List KeyP} (h : KL ts p left U) {x : Tr} (hx : x ∈ ts) (hl : left (kK x.key) = true) : x.key ∉ U := fun hm => by
  obtain ⟨⟨y, _, _, hy⟩, _⟩ := (h.mem _).1 hm
  rw [hl] at hy; cases hy
theorem left_step {ts : List Tr} (hk : ∀ x ∈ ts, keyB x.key = true) {left : Lit → Bool} {x y : Tr} (hx : x ∈ ts) (hy : y ∈ ts) : (left (kK y.key) && !(kK y.key).sameKey (kK x.key)) = false ↔ left (kK y.key) = false ∨ y.key = x.key := by
  rw [kK_same (hk y hy) (hk x hx)]
  cases left (kK y.key) <;> simp
theorem KL.yes {ts : List Tr} (hk : ∀ x ∈ ts, keyB x.key = true) {p : KeyP → Prop} {left : Lit → Bool} {U : List KeyP} (h : KL ts p left U) {x : Tr} (hx : x ∈ ts) (hl : left (kK x.key) = true) (hp : p x.key) : KL ts p (fun z => left z && !z.sameKey (kK x.key)) (U ++ [x.key]) := by
  refine ⟨List.nodup_append.2 ⟨h.nod, by simp, fun a ha b hb e => ?_⟩, fun k => ?_⟩
  · simp at hb; subst hb; subst e; exact h.old hx hl ha
  · rw [List.mem_append, h.mem]
    constructor
    · rintro (⟨⟨y, hy, e, hl'⟩, hp'⟩ | e)
      · subst e
        exact ⟨⟨y, hy, rfl, (left_step hk hx hy).2 (.inl hl')⟩, hp'⟩
      · simp at e; subst e
        exact ⟨⟨x, hx, rfl, (left_step hk hx hx).2 (.inr rfl)⟩, hp⟩
    · rintro ⟨⟨y, hy, e, hl'⟩, hp'⟩
      subst e
      rcases (left_step hk hx hy).1 hl' with e | e
      · exact .inl ⟨⟨y, hy, rfl, e⟩, hp'⟩
      · exact .inr (by simp [e])
theorem KL.no {ts : List Tr} (hk : ∀ x ∈ ts, keyB x.key = true) {p : KeyP → Prop} {left : Lit → Bool} {U : List KeyP} (h : KL ts p left U) {x : Tr} (hx : x ∈ ts) (hp : ¬ p x.key) : KL ts p (fun z => left z && !z.sameKey (kK x.key)) U := by
  refine ⟨h.nod, fun k => ?_⟩
  rw [h.mem]
  constructor
  · rintro ⟨⟨y, hy, e, hl'⟩, hp'⟩
    subst e
    exact ⟨⟨y, hy, rfl, (left_step hk hx hy).2 (.inl hl')⟩, hp'⟩
  · rintro ⟨⟨y, hy, e, hl'⟩, hp'⟩
    subst e
    rcases (left_step hk hx hy).1 hl' with e | e
    · exact ⟨⟨y, hy, rfl, e⟩, hp'⟩
    · rw [e] at hp'; exact absurd hp' hp

theorem ownsRow_frame {F : Nat → Prop} {w w' : World} {base : Nat} {e : TypeId} {size : Nat} {v : Value} {n : Nat} {xs : List Value} (h : w.ownsRow base e size v n xs) (hf : Fr F w w') (hn : ∀ g, base ≤ g → ¬ F g) : w'.ownsRow base e size v n xs :=
  ⟨h.1, h.2.imp id fun ⟨g, cap, cur, h1, h2, h3, h4⟩ => ⟨g, cap, cur, h1, h2, hf.keeps h3 (hn g h2), h4⟩⟩
/-- What Keys answers. -/
def keyE (s : Pst) (a t : Int) : Int := if askE s a ≠ 0 then askE s a else if timeB t then 0 else 1
def KeysPost (s : Pst) (a t : Int) (w : World) (e : Ending) (w' : World) : Prop :=
  ∃ v L, e = .returned (.tuple #[v, .nilIface]) ∧ L.Pairwise (fun x y => keyLess x y = true) ∧ (∀ k, k ∈ L ↔ keyB k = true ∧ (valueP s.vs k a t).size ≠ 0) ∧ w'.ownsRow w.heap.size 29 4 v L.length (flatKeys L) ∧ (L.length : Int) ≤ s.next ∧ Below w.heap.size w w'
theorem keys_end {pb po : Nat} {R : Rest} {s : Pst} {g : Gh} {w : World} (h : PastAt w pb po R s g) {a t : Int} {U : List KeyP} {left : Lit → Bool} (hU : KL g.ts (fun k => (valueP s.vs k a t).size ≠ 0) left U) (hl : ∀ kl, left kl = false) (k : KeyP) : k ∈ U ↔ keyB k = true ∧ (valueP s.vs k a t).size ≠ 0 := by
  rw [hU.mem]
  constructor
  · rintro ⟨⟨x, hx, e, _⟩, hp⟩; subst e; exact ⟨h.keyOk x hx, hp⟩
  · rintro ⟨hk, hp⟩
    refine ⟨?_, hp⟩
    cases hy : treeFor g.ts k with
    | some x => exact ⟨x, (treeFor_some hy).1, (treeFor_some hy).2, hl _⟩
    | none =>
      exfalso
      have hti : itemsK s.vs k = [] := by
        cases e : itemsK s.vs k with
        | nil => rfl
        | cons z l =>
          obtain ⟨v, hv, hvk, _⟩ := mem_itemsK.1 (show z ∈ itemsK s.vs k by rw [e]; simp)
          obtain ⟨z', hz', e'⟩ := h.all v hv
          exact absurd (e'.trans hvk) (treeFor_none hy z' hz')
      have h0 : atL (itemsK s.vs k) t = [] := by
        have h1 := atL_length (itemsK s.vs k) t
        have h3 : (itemsK s.vs k).length = 0 := by rw [hti]; rfl
        exact List.eq_nil_of_length_eq_zero (by omega)
      unfold valueP at hp
      rw [h0] at hp
      exact hp rfl

set_option maxRecDepth 100000 in
set_option maxHeartbeats 2000000 in
theorem pkeys_bad (a t : Int) (pb po : Nat) (R : Rest) (s : Pst) (g : Gh) (w : World) (h : PastAt w pb po R s g) (hb : keyE s a t ≠ 0) :
    Calls Tryz.prog 21 #[.pointer (some ⟨pb, po, none⟩), .int .i64 a, .int .i64 t] w fun e w' => e = .returned (.tuple #[.slice none 0 0, errV (keyE s a t)]) ∧ w = w' := by
  have hR := pright_any pb po R s g a w h
  by_cases ha : askE s a = 0
  · have ht : timeB t = false := by
      cases hk : timeB t with
      | false => rfl
      | true => exact absurd (by unfold keyE; rw [if_neg (by simpa using ha), if_pos hk]) hb
    have e : keyE s a t = 1 := by unfold keyE; rw [if_neg (by simpa using ha), if_neg (by rw [ht]; decide)]
    rw [e]
    rw [ha, errN_0] at hR
    have HR := Lib.hid hR
    unfold errV
    clear hR ha h e hb
    by_cases h1 : t < -1099511627776
    · clear ht
      go_enter Tryz.func21, Tryz.ntmps21
      go_wp2_with fail
      refine HR.out.mono ?_
      rintro e w1 ⟨rfl, rfl⟩
      go_wp2_with fail
      go_ret2
      exact ⟨rfl, rfl⟩
    · have h2 : 1099511627776 ≤ t := by unfold timeB at ht; simp at ht; omega
      have h1' : decide (t < -1099511627776) = false := by simpa using h1
      clear ht h1
      go_enter Tryz.func21, Tryz.ntmps21
      go_wp2_with fail
      refine HR.out.mono ?_
      rintro e w1 ⟨rfl, rfl⟩
      go_wp2_with fail
      go_ret2
      exact ⟨rfl, rfl⟩
  · have e : keyE s a t = askE s a := by unfold keyE; rw [if_pos ha]
    rw [e]
    rw [errN_ne ha] at hR
    obtain ⟨n, hn⟩ : ∃ n, n = askE s a := ⟨_, rfl⟩
    rw [← hn] at hR ⊢
    unfold errV at *
    have HR := Lib.hid hR
    clear hR hn ha h e hb
    go_enter Tryz.func21, Tryz.ntmps21
    go_wp2_with fail
    refine HR.out.mono ?_
    rintro e w1 ⟨rfl, rfl⟩
    go_wp2_with fail
    go_ret2
    exact ⟨rfl, rfl⟩

set_option maxRecDepth 100000 in
set_option maxHeartbeats 4000000 in
theorem pkeys_some (a t : Int) (pb po : Nat) (R : Rest) (s : Pst) (g : Gh) (tm : Nat) (w : World) (h : PastAt w pb po R s g) (htm : g.tm = some tm) (ha : askE s a = 0) (ht : timeB t = true) (hn : s.next ≤ 4000) :
    Calls Tryz.prog 21 #[.pointer (some ⟨pb, po, none⟩), .int .i64 a, .int .i64 t] w (KeysPost s a t w) := by
  obtain ⟨i0, hi, hz0, hz1, hz2⟩ := info_parts infoKey
  have hR := pright_any pb po R s g a w h
  rw [ha, errN_0] at hR
  have HR := Lib.hid hR
  have ht' : -1099511627776 ≤ t ∧ t < 1099511627776 := by simpa [timeB] using ht
  obtain ⟨ht1, ht2⟩ := ht'
  have ht3 : decide (t < -1099511627776) = false := by simp; omega
  have ht4 : decide (1099511627776 ≤ t) = false := by simp; omega
  obtain ⟨_, _, _, _, c4⟩ := past_cells h.len h.cells
  rw [htm] at c4
  have htr := h.trees
  rw [htm] at htr
  obtain ⟨Dt, hown, hD⟩ := htr
  have hhas : ∀ x ∈ g.ts, Maps.has Dt (kK x.key) = true := fun x hx => (hD.has _ (kK_key _)).2 ⟨x, hx, rfl⟩
  have hsz := hD.size
  have htl := h.tlen
  have hlen : g.ts.length ≤ 4000 := by omega
  have hlt := h.lt tm (.inr (.inr (.inl htm)))
  have HD := Lib.hid hD
  have HP := Lib.hid h
  have HST := Lib.hid (KL.start (p := fun k => (valueP s.vs k a t).size ≠ 0) hhas)
  have HSZ := Lib.hid hsz
  have HA := Lib.hid ha
  have HTT := Lib.hid ht
  clear hR h htm ha ht hD hhas hsz
  go_enter Tryz.func21, Tryz.ntmps21
  go_wp2_with fail
  refine HR.out.mono ?_
  rintro e w1 ⟨rfl, rfl⟩
  go_wp2_with (at_range; refine wpList_range_own _ rfl _ 25 rfl 29 89 keyLaw Tryz.underlying25 treeR tm g.ts.length Dt rfl hown ?_; intro w2 hrg hgr hs2)
  go_frame
  have hB2 : Below w.heap.size w w2 := ⟨hgr.os, hgr.tape, hgr.output, hgr.size, fun i hi' => hgr.block i hi' (by simp)⟩
  have HB2 := Lib.hid hB2
  have HRG := Lib.hid hrg
  have HS2 := Lib.hid hs2
  obtain ⟨r, hr⟩ : ∃ r, r = w.heap.size := ⟨_, rfl⟩
  have hrg' : w2.ranges Tryz.prog 29 treeR tm r g.ts.length Dt (Maps.has Dt) (Maps.size Dt) := by rw [hr]; exact hrg
  have HRG' := Lib.hid hrg'
  have HRE := Lib.hid hr
  rw [← hr]
  clear hgr hB2 hrg hs2 hown c4 hrg' hr
  go_loopw [9] (fun v wr => ∃ (left : Lit → Bool) (cnt : Nat) (U : List KeyP), wr.ranges Tryz.prog 29 treeR tm r g.ts.length Dt left cnt ∧ KL g.ts (fun k => (valueP s.vs k a t).size ≠ 0) left U ∧ U.length + cnt ≤ g.ts.length ∧ wr.ownsRow (r + 1) 29 4 v U.length (flatKeys U) ∧ Below r w wr ∧ r < wr.heap.size ∧ (∀ q, left q = true → Maps.has Dt q = true)) (fun _ wr => wr.rangeLeft tm r)
  case atStart => exact ⟨_, _, [], HRG'.out, HST.out, by rw [HSZ.out]; simp, World.ownsRow_nil _ _ _ _, by rw [HRE.out]; exact HB2.out, by have := HS2.out; have := HRE.out; omega, fun _ e => e⟩
  case round =>
    obtain ⟨left, cnt, U, hrg, hKL, hcnt, hownU, hBr, hrl, hsub⟩ := hrel
    have HKL := Lib.hid hKL
    have HBR := Lib.hid hBr
    have HSUB := Lib.hid hsub
    have HRGW := Lib.hid hrg
    clear hKL hBr hsub
    go_wp2_with (at_next; refine wpList_next_raw _ rfl _ rfl 29 keyLaw treeR tm r g.ts.length Dt left cnt rfl hrg ?_ ?_)
    · intro hc0 hl0
      have HL0 := Lib.hid hl0
      clear hl0 hc0 hrg
      go_wp2_with fail
      have hle : U.length ≤ 4000 := by omega
      refine (sortKeys_own (r + 1) u9 U wr hownU (by omega) (by omega)).mono ?_
      rintro e w5 ⟨rfl, own5, b5⟩
      have HO5 := Lib.hid own5
      have HB5 := Lib.hid b5
      clear own5 b5
      go_wp2_with fail
      go_ret2
      refine ⟨_, sortKeys U, rfl, sortKeys_sorted HKL.out.nod, fun k => ?_, ?_, ?_, ?_⟩
      · rw [(sortKeys_perm U).mem_iff]
        exact keys_end HP.out HKL.out HL0.out k
      · rw [(sortKeys_perm U).length_eq]
        exact ownsRow_base HO5.out (by rw [HRE.out]; omega)
      · rw [(sortKeys_perm U).length_eq]; omega
      · have h1 : Below w.heap.size w wr := by rw [← HRE.out]; exact HBR.out
        exact h1.trans (HB5.out.mono (by rw [HRE.out]; omega))
    · intro key v kl y1 y2 w3 cnt3 hkey hlk hv hat hrg3 hlt3 hgr3 hs3 hen
      obtain ⟨x, hx, e⟩ := HD.out.got (keyLaw.key hkey) (HSUB.out _ hlk)
      have ek : key = keyV x.key := keyLaw.inj hkey (by rw [← e]; exact keyOf_key (HP.out.keyOk x hx))
      subst ek
      have ekl : kl = kK x.key := e.symm
      subst ekl
      have hF3 : Fr (· = r) wr w3 := Fr.ofGrown hgr3
      have hB3 : Below r w w3 := HBR.out.trans (hF3.below (B := r) (fun k _ e => by omega) (by omega))
      have hown3 := ownsRow_frame hownU hF3 (fun g hg e => by omega)
      have hkb := HP.out.keyOk x hx
      have hsub3 : ∀ q, (left q && !q.sameKey (kK x.key)) = true → Maps.has Dt q = true := fun q hq => HSUB.out q (by rw [Bool.and_eq_true] at hq; exact hq.1)
      obtain ⟨W4, hW4⟩ : ∃ W4, W4 = w3.alloc (.cells #[.int .i64 x.key.kind, .int .i64 x.key.a, .string x.key.word, .int .i64 x.key.b] 29) := ⟨_, rfl⟩
      have hB4 : Below w3.heap.size w3 W4 := by rw [hW4]; exact (Below.refl _ _).alloc (Nat.le_refl _) _
      have hs4 : W4.heap.size = w3.heap.size + 1 := by rw [hW4]; simp
      have hkc := cells4 (show W4.heap[w3.heap.size]? = _ by rw [hW4]; exact block_alloc_new w3 _)
      have hBw4 : Below w.heap.size w W4 := by
        have h1 : Below w.heap.size w w3 := by rw [← HRE.out]; exact hB3
        exact h1.trans (hB4.mono (by have := HRE.out; omega))
      have hval := pvalue_any x.key a t pb po R s g W4 (HP.out.below hBw4) (by have := (wfkey hkb).2; unfold maxLen; omega) hn
      rw [valV_ok HA.out hkb HTT.out] at hval
      obtain ⟨vx, hvx⟩ : ∃ vx, vx = valueP s.vs x.key a t := ⟨_, rfl⟩
      rw [← hvx] at hval
      have HVAL := Lib.hid hval
      have HVX := Lib.hid hvx
      have HW4 := Lib.hid hW4
      have HB4 := Lib.hid hB4
      have HKC := Lib.hid hkc
      have HRG3 := Lib.hid hrg3
      have HS3 := Lib.hid hs3
      have HB3 := Lib.hid hB3
      have HSUB3 := Lib.hid hsub3
      have HX := Lib.hid hx
      have HLK := Lib.hid hlk
      have hrl3 : r < w3.heap.size := by omega
      have hsl4 : w3.heap.size < W4.heap.size := by omega
      have htr : tm < r := by have := HRE.out; omega
      have hown4 := ownsRow_below hown3 hB4
      clear hval hvx hW4 hB4 hkc hrg3 hs3 hB3 hsub3 hat hkey e hv hgr3 hF3 hx hlk hkb hs4 hBw4 hown3 hownU hrg
      unfold keyV at hen
      have frame : ∀ W, Below (r + 1) w3 W → W.ranges Tryz.prog 29 treeR tm r g.ts.length Dt (fun z => left z && !z.sameKey (kK x.key)) cnt3 := fun W hB => ranges_frame HRG3.out (Fr.ofBelow hB) (by omega) (by omega)
      have HFRM := Lib.hid frame
      clear frame
      by_cases h0 : vx.size = 0
      · have hv1 := empty_true h0
        have hv2 : (!vx.toList.isEmpty) = false := by rw [hv1]; rfl
        have hkl := KL.no HP.out.keyOk HKL.out HX.out (x := x) (by rw [← HVX.out]; exact fun h => h h0)
        have HKL2 := Lib.hid hkl
        clear h0 hkl
        go_wp2_with fail
        rw [← HW4.out]
        refine HVAL.out.mono ?_
        rintro e w5 ⟨rfl, b5⟩
        have hB5 : Below (r + 1) w3 w5 := (HB4.out.mono (by omega)).trans (b5.mono (by omega))
        have hown5 := ownsRow_below hown4 b5
        have HB5 := Lib.hid hB5
        have hs5 := b5.size
        clear b5 hB5
        go_wp2_with fail
        go_roundw
        case rel => exact ⟨_, cnt3, U, HFRM.out _ HB5.out, HKL2.out, by omega, hown5, HB3.out.trans (HB5.out.mono (by omega)), by omega, HSUB3.out⟩
        case measure => rw [(HFRM.out _ HB5.out).left_eq, HRGW.out.left_eq]; exact hlt3
      · have hv1 := empty_false h0
        have hv2 : (!vx.toList.isEmpty) = true := by rw [hv1]; rfl
        have hkl := KL.yes HP.out.keyOk HKL.out HX.out HLK.out (by rw [← HVX.out]; exact h0)
        have HKL2 := Lib.hid hkl
        clear h0 hkl
        go_wp2_with fail
        rw [← HW4.out]
        refine HVAL.out.mono ?_
        rintro e w5 ⟨rfl, b5⟩
        have hB5 : Below (r + 1) w3 w5 := (HB4.out.mono (by omega)).trans (b5.mono (by omega))
        have hown5 := ownsRow_below hown4 b5
        have HB5 := Lib.hid hB5
        have hs5 := b5.size
        obtain ⟨kc0, kc1, kc2, kc3⟩ := HKC.out
        have k0 := below_cell b5 hsl4 kc0
        have k1 := below_cell b5 hsl4 kc1
        have k2 := below_cell b5 hsl4 kc2
        have k3 := below_cell b5 hsl4 kc3
        have hsl5 : w3.heap.size < w5.heap.size := by omega
        clear b5 hB5 kc0 kc1 kc2 kc3
        go_wp2_with (at_builtin; refine appKey rfl _ _ rfl (r + 1) _ U rfl (hown5.alloc _) w5.heap.size x.key rfl (by simp) (by simp) (by simp) (by simp) (by omega) (by simp; omega) w5 ((Below.refl _ _).alloc (by omega) _) ?_; intro v' w6 hown6 hB6 hs6 hg6)
        have hB7 : Below (r + 1) w3 w6 := HB5.out.trans hB6
        have hs7 := hB7.size
        go_roundw
        case rel => exact ⟨_, cnt3, U ++ [x.key], HFRM.out _ hB7, HKL2.out, by rw [List.length_append]; simp; omega, hown6, HB3.out.trans (hB7.mono (by omega)), by omega, HSUB3.out⟩
        case measure => rw [(HFRM.out _ hB7).left_eq, HRGW.out.left_eq]; exact hlt3

set_option maxRecDepth 100000 in
set_option maxHeartbeats 2000000 in
theorem pkeys_none (a t : Int) (pb po : Nat) (R : Rest) (s : Pst) (g : Gh) (w : World) (h : PastAt w pb po R s g) (htm : g.tm = none) (ha : askE s a = 0) (ht : timeB t = true) :
    Calls Tryz.prog 21 #[.pointer (some ⟨pb, po, none⟩), .int .i64 a, .int .i64 t] w (KeysPost s a t w) := by
  have hR := pright_any pb po R s g a w h
  rw [ha, errN_0] at hR
  have HR := Lib.hid hR
  have ht' : -1099511627776 ≤ t ∧ t < 1099511627776 := by simpa [timeB] using ht
  obtain ⟨ht1, ht2⟩ := ht'
  have ht3 : decide (t < -1099511627776) = false := by simp; omega
  have ht4 : decide (1099511627776 ≤ t) = false := by simp; omega
  obtain ⟨_, _, _, _, c4⟩ := past_cells h.len h.cells
  rw [htm] at c4
  have hvs : s.vs = [] := by
    have h1 := h.vers
    rw [h.both.2 htm] at h1; exact h1
  have hnv : ∀ k, (valueP s.vs k a t).size = 0 := fun k => by
    have : atL (itemsK s.vs k) t = [] := by
      have h1 := atL_length (itemsK s.vs k) t
      have h3 : (itemsK s.vs k).length = 0 := by rw [hvs]; rfl
      exact List.eq_nil_of_length_eq_zero (by omega)
    unfold valueP; rw [this]; rfl
  have hs := sortKeys_own (w.heap.size + 1) (.slice none 0 0) []
  have r1 := run_range_nilMap (P := Tryz.prog) w 25 29 89 Tryz.underlying25
  have r2 := fun ty => run_next_nilMap (P := Tryz.prog) w ty 0 0 #[]
  have HNV := Lib.hid hnv
  have hn0 := h.ids.next0
  have HS := Lib.hid hs
  clear hR h htm ha ht hvs hnv hs
  go_enter Tryz.func21, Tryz.ntmps21
  go_wp2_with fail
  refine HR.out.mono ?_
  rintro e w1 ⟨rfl, rfl⟩
  go_wp2_with fail
  refine wp_loop_rounds 1 ?_
  rw [rounds_succ]
  go_wp2_with fail
  refine (HS.out _ (World.ownsRow_nil _ _ _ _) (by simp) (by decide)).mono ?_
  rintro e w5 ⟨rfl, own5, b5⟩
  have HO5 := Lib.hid own5
  have HB5 := Lib.hid b5
  clear own5 b5
  go_wp2_with fail
  go_ret2
  refine ⟨_, [], rfl, .nil, fun k => ⟨(fun h => by cases h), (fun h => absurd (HNV.out k) h.2)⟩, World.ownsRow_nil _ _ _ _, by simpa using hn0, ?_⟩
  exact ((Below.refl _ w).alloc (Nat.le_refl _) _).trans (HB5.out.mono (by omega))
theorem pkeys_ok (a t : Int) (pb po : Nat) (R : Rest) (s : Pst) (g : Gh) (w : World) (h : PastAt w pb po R s g) (ha : askE s a = 0) (ht : timeB t = true) (hn : s.next ≤ 4000) :
    Calls Tryz.prog 21 #[.pointer (some ⟨pb, po, none⟩), .int .i64 a, .int .i64 t] w (KeysPost s a t w) := by
  cases htm : g.tm with
  | none => exact pkeys_none a t pb po R s g w h htm ha ht
  | some tm => exact pkeys_some a t pb po R s g tm w h htm ha ht hn
end Go.Proofs.YtacedfcckkpciaaGreatDoor

namespace Go.Proofs.YtacedfcckkpciaaGreatDoor
open Go.RowKit Go.Deep Go.Shelf Go.Sort Go.Maps

/-! ### The library: maps.Keys, slices.Sorted -/
theorem mapsKeys_any (mb : Option Nat) (W : World) : Calls Tryz.prog 39 #[.map mb] W fun e w' => e = .returned (.func (.func 73) #[] #[.pointer (some ⟨W.heap.size, 0, none⟩)]) ∧ w' = W.alloc (.cells #[.map mb] 57) :=
  callsIn_wide.1 (AnyZ.keys_in Tryz.keysT Fence.wide 5 trivial rfl mb W)
theorem sortsT (m : Nat) : AnyZ.SortsIn Tryz.prog Tryz.sortedT_ren Fence.wide m :=
  ⟨fun blk off cap ss W hH hblk hsz => callsIn_wide.2 (AnyM.slices_Sort_string Tryz.sortT blk off cap ss W hH hblk hsz),
   fun p cap W => callsIn_wide.2 (AnyM.slices_Sort_string_none Tryz.sortT p cap W)⟩
def encStr' (l : List UInt8) : Value := Go.Proofs.encStr l
set_option maxHeartbeats 1000000 in
theorem sortedKeys_any (b nn : Nat) (D0 : DataW Unit) (R : Value → Option (DataW Unit × List MemPlace)) (w : World) (hown : w.ownsMap Tryz.prog 9 R b nn D0) (hmax : Maps.size D0 ≤ maxLen) (hbytes : Maps.size D0 * 16 ≤ 140737488355328) :
    Calls Tryz.prog 38 #[.func (.func 73) #[] #[.pointer (some ⟨w.heap.size, 0, none⟩)]] (w.alloc (.cells #[.map (some b)] 57)) fun e w' => ∃ (v : Value) (ss : List (List UInt8)), e = .returned v ∧ ss.Perm (strKeys D0) ∧
      w'.ownsRow (w.alloc (.cells #[.map (some b)] 57)).heap.size 9 1 v ss.length ((ss.mergeSort (fun x y => decide (x ≤ y))).map Go.Proofs.encStr) ∧ Below (w.alloc (.cells #[.map (some b)] 57)).heap.size (w.alloc (.cells #[.map (some b)] 57)) w' := by
  have hbl := hown.lt
  have hseq : SeqGives Fence.wide 2 Tryz.prog 73 #[.pointer (some ⟨w.heap.size, 0, none⟩)] Go.Proofs.encStr (fun ss => ss.Perm (strKeys D0)) (Maps.size D0) (w.alloc (.cells #[.map (some b)] 57)) :=
    AnyZ.keys_gives (ρ := Tryz.keysT_ren) { Tryz.keysT with } Fence.wide _ trivial rfl (by omega) w.heap.size b nn D0 _ (by simp) (by simp) (by
      obtain ⟨es, clock, hb, Ft, hs, hD⟩ := hown
      exact ⟨es, clock, (Below.heap_alloc _ _ b hbl).trans hb, Ft, hs, hD⟩)
  refine (callsIn_wide.1 (AnyZ.sorted_in Tryz.sortedT Fence.wide 5 trivial trivial trivial trivial rfl (by omega) (sortsT _) (enters_of Tryz.func72 (by kernel_rfl) rfl) 73 #[.pointer (some ⟨w.heap.size, 0, none⟩)] trivial (enters_of Tryz.func73 (by kernel_rfl) rfl) _ _ hmax hbytes _ hseq)).mono ?_
  rintro e w' ⟨v, ss, h1, h2, h3, _, h4⟩
  exact ⟨v, ss, h1, h2, h3, h4⟩

/-! ### A set of texts in a map -/
def sK (x : ByteArray) : Lit := .string x.data.toList
theorem sK_key (x : ByteArray) : WideAt.IsKeyLit (sK x) := by trivial
theorem sK_inj {x y : ByteArray} (h : sK x = sK y) : x = y := bytes_ext (by simpa [sK] using h)
def boolD : DataW Unit := .lit (.bool true)
def boolR : Value → Option (DataW Unit × List MemPlace)
  | .bool b => some (.lit (.bool b), [])
  | _ => none
theorem strLaw : Keyed Tryz.prog 9 := string_keyed Tryz.underlying9
theorem keyOf_str {x : ByteArray} (h : x.size ≤ maxLen) : keyOf Tryz.prog 9 (.string x) = some (sK x) := by
  simp [keyOf, Tryz.underlying9, mapKey, h, sK]
/-- The map has just these texts. -/
structure HadIs (w : World) (b n : Nat) (L : List ByteArray) : Prop where
  nod : L.Nodup
  own : ∃ D, w.ownsMap Tryz.prog 9 boolR b n D ∧ MapOf sK (fun _ => boolD) D L
theorem HadIs.frame {F : Nat → Prop} {w w' : World} {b n : Nat} {L : List ByteArray} (h : HadIs w b n L) (hf : Fr F w w') (hn : ¬ F b) : HadIs w' b n L := by
  obtain ⟨D, h1, h2⟩ := h.own
  exact ⟨h.nod, D, owns_frame h1 hf hn, h2⟩
/-- One text more, perhaps there already. -/
theorem had_put {D : DataW Unit} {L : List ByteArray} (hn : L.Nodup) (h : MapOf sK (fun _ => boolD) D L) (x : ByteArray) : ∃ L', L'.Nodup ∧ MapOf sK (fun _ => boolD) (D.put (sK x) boolD) L' ∧ ∀ y, y ∈ L' ↔ y = x ∨ y ∈ L := by
  by_cases hx : x ∈ L
  · obtain ⟨l1, l2, rfl⟩ := List.append_of_mem hx
    have hp : (l1 ++ x :: l2).Perm (x :: (l1 ++ l2)) := List.perm_middle
    have hn' := hp.nodup_iff.1 hn
    obtain ⟨n1, _⟩ := List.nodup_cons.1 hn'
    have h' := (h.perm hp).over x rfl (sK_key x) (fun y hy e => n1 (by rw [← sK_inj e]; exact hy))
    refine ⟨x :: (l1 ++ l2), hn', h', fun y => ?_⟩
    simp only [List.mem_cons, List.mem_append]
    constructor
    · rintro (h | h | h)
      · exact .inl h
      · exact .inr (.inl h)
      · exact .inr (.inr (.inr h))
    · rintro (h | h | h | h)
      · exact .inl h
      · exact .inr (.inl h)
      · exact .inl h
      · exact .inr (.inr h)
  · exact ⟨x :: L, List.nodup_cons.2 ⟨hx, hn⟩, h.put x (sK_key x) (fun y hy e => hx (by rw [← sK_inj e]; exact hy)), fun y => by simp⟩
/-- The keys, sorted: these texts, in order, each once. -/
theorem had_sorted {w : World} {b n : Nat} {D : DataW Unit} {L : List ByteArray} (hn : L.Nodup) (hown : w.ownsMap Tryz.prog 9 boolR b n D) (h : MapOf sK (fun _ => boolD) D L) {ss : List (List UInt8)} (hs : ss.Perm (strKeys D)) :
    ∃ S : List ByteArray, (ss.mergeSort (fun x y => decide (x ≤ y))).map Go.Proofs.encStr = S.map Value.string ∧ S.length = ss.length ∧ S.Pairwise bLess ∧ ∀ x, x ∈ S ↔ x ∈ L := by
  have hp : (L.map (·.data.toList)).Perm (strKeys D) := by
    obtain ⟨es, rfl, e1, _⟩ := hown.entries strLaw
    obtain ⟨es', e2, e3⟩ := hown.keysOf
    cases e2
    refine perm_strKeys e1 (fun p hp => ?_) ?_ (fun x => ?_)
    · obtain ⟨v, hv⟩ := e3 p hp
      obtain ⟨y, _, hy, _⟩ := Maps.keyOf_str Tryz.underlying9 hv
      exact ⟨y, hy⟩
    · exact List.pairwise_map.2 (hn.imp fun {a b} hab e => hab (bytes_ext e))
    · rw [h.has _ (by trivial)]
      simp only [List.mem_map, sK, Lit.string.injEq]
  have hq : (ss.mergeSort (fun x y => decide (x ≤ y))).Perm (L.map (·.data.toList)) := (List.mergeSort_perm _ _).trans (hs.trans hp.symm)
  have hso : (ss.mergeSort (fun x y => decide (x ≤ y))).Pairwise fun a b => decide (a ≤ b) = true :=
    List.pairwise_mergeSort (fun a b c h1 h2 => by simp only [decide_eq_true_eq] at *; exact List.le_trans h1 h2) (fun a b => by simp only [Bool.or_eq_true, decide_eq_true_eq]; exact List.le_total a b) ss
  have hnd : (ss.mergeSort (fun x y => decide (x ≤ y))).Nodup := hq.nodup_iff.2 (List.pairwise_map.2 (hn.imp fun {a b} hab e => hab (bytes_ext e)))
  refine ⟨(ss.mergeSort (fun x y => decide (x ≤ y))).map fun l => ⟨l.toArray⟩, ?_, by simp, ?_, fun x => ?_⟩
  · rw [List.map_map]; rfl
  · rw [List.pairwise_map]
    refine (hso.and hnd).imp fun {a b} h => ?_
    unfold bLess
    rw [bytesLess_eq]
    simp only [decide_eq_true_eq]
    obtain ⟨h1, h2⟩ := h
    simp only [decide_eq_true_eq] at h1
    exact Std.lt_of_le_of_ne h1 h2
  · rw [List.mem_map]
    constructor
    · rintro ⟨l, hl, rfl⟩
      obtain ⟨y, hy, rfl⟩ := List.mem_map.1 (hq.mem_iff.1 hl)
      exact hy
    · intro hx
      exact ⟨x.data.toList, hq.mem_iff.2 (List.mem_map.2 ⟨x, hx, rfl⟩), rfl⟩

/-! ### Plain -/
def everT (vs : List Ver) (a b : Int) (ids : List Int) : List ByteArray := (ids.filter (everB vs a b)).map fun id => (verAt vs id).val
theorem everT_all (vs : List Ver) (k : KeyP) (a b f t : Int) : everT vs a b (meetsL (itemsK vs k) f t) = everU vs k a b f t := rfl
theorem everT_yes {vs : List Ver} {a b : Int} {ids : List Int} {j : Nat} {id : Int} {v : Ver} (h : ids[j]? = some id) (hv : verAt vs id = v) (hs : everB vs a b id = true) : everT vs a b (ids.take (j + 1)) = everT vs a b (ids.take j) ++ [v.val] := by
  unfold everT
  rw [List.take_succ_eq_append_getElem (List.getElem?_eq_some_iff.1 h).1, (List.getElem?_eq_some_iff.1 h).2, List.filter_append, List.map_append]
  congr 1
  rw [List.filter_cons_of_pos hs]
  simp [hv]
theorem everT_no {vs : List Ver} {a b : Int} {ids : List Int} {j : Nat} {id : Int} (h : ids[j]? = some id) (hs : everB vs a b id = false) : everT vs a b (ids.take (j + 1)) = everT vs a b (ids.take j) := by
  unfold everT
  rw [List.take_succ_eq_append_getElem (List.getElem?_eq_some_iff.1 h).1, (List.getElem?_eq_some_iff.1 h).2, List.filter_append, List.map_append, List.filter_cons_of_neg (by rw [hs]; decide)]
  simp
end Go.Proofs.YtacedfcckkpciaaGreatDoor

namespace Go.Proofs.YtacedfcckkpciaaGreatDoor
open Go.RowKit Go.Deep Go.Shelf Go.Sort Go.Maps

/-- What Ever answers as an error. -/
def everE (s : Pst) (k : KeyP) (a b f t : Int) : Int := if askE s a ≠ 0 then askE s a else if askE s b ≠ 0 then askE s b else if b < a then 10 else if keyB k && rightB f t then 0 else 1
theorem arrInt2 (x y : Int) : ∀ w, (Instr.index 100 (.agg #[.int .i64 x, .int .i64 y]) (.int .i64 0)).run Tryz.prog w = .ok (.int .i64 x) w ∧ (Instr.index 100 (.agg #[.int .i64 x, .int .i64 y]) (.int .i64 1)).run Tryz.prog w = .ok (.int .i64 y) w := fun w => ⟨by kernel_rfl, by kernel_rfl⟩
set_option maxRecDepth 100000 in
set_option maxHeartbeats 4000000 in
theorem pever_bad (k : KeyP) (a b f t : Int) (pb po : Nat) (R : Rest) (s : Pst) (g : Gh) (w : World) (h : PastAt w pb po R s g) (hs : k.word.size ≤ maxLen) (hb : everE s k a b f t ≠ 0) :
    Calls Tryz.prog 15 #[.pointer (some ⟨pb, po, none⟩), .agg #[.int .i64 k.kind, .int .i64 k.a, .string k.word, .int .i64 k.b], .int .i64 a, .int .i64 b, .agg #[.int .i64 f, .int .i64 t]] w fun e w' => e = .returned (.tuple #[.slice none 0 0, errV (everE s k a b f t)]) ∧ Below w.heap.size w w' := by
  have i0 := fun w => (arrInt2 a b w).1
  have i1 := fun w => (arrInt2 a b w).2
  have hR := fun W (hB : Below w.heap.size w W) => pright_any pb po R s g a W (h.below hB)
  have hR2 := fun W (hB : Below w.heap.size w W) => pright_any pb po R s g b W (h.below hB)
  have hB0 : Below w.heap.size w ((w.alloc (.cells #[.int .i64 k.kind, .int .i64 k.a, .string k.word, .int .i64 k.b] 29)).alloc (.cells #[.int .i64 f, .int .i64 t] 44)) := ((Below.refl _ w).alloc (Nat.le_refl _) _).alloc (by simp) _
  have HB0 := Lib.hid hB0
  unfold errV
  clear hB0
  by_cases ha : askE s a = 0
  · rw [ha, errN_0] at hR
    have HR := Lib.hid hR
    clear hR
    by_cases hb2 : askE s b = 0
    · rw [hb2, errN_0] at hR2
      have HR2 := Lib.hid hR2
      clear hR2
      by_cases hlt : b < a
      · have e : everE s k a b f t = 10 := by unfold everE; rw [if_neg (by simpa using ha), if_neg (by simpa using hb2), if_pos hlt]
        rw [e]
        clear e hb ha hb2 h hs
        go_enter Tryz.func15, Tryz.ntmps15
        go_wp2_with fail
        refine wp_loop_rounds 3 ?_
        rw [rounds_succ]
        go_wp2_with fail
        refine (HR.out _ HB0.out).mono ?_
        rintro e w1 ⟨rfl, rfl⟩
        go_wp2_with fail
        rw [rounds_succ]
        go_wp2_with fail
        refine (HR2.out _ HB0.out).mono ?_
        rintro e w1 ⟨rfl, rfl⟩
        go_wp2_with fail
        rw [rounds_succ]
        go_wp2_with fail
        go_ret2
        exact ⟨rfl, HB0.out⟩
      · have hlt' : decide (b < a) = false := by simpa using hlt
        have hbad : (keyB k && rightB f t) = false := by
          cases hx : keyB k && rightB f t with
          | false => rfl
          | true => exact absurd (by unfold everE; rw [if_neg (by simpa using ha), if_neg (by simpa using hb2), if_neg hlt, if_pos hx]) hb
        have e : everE s k a b f t = 1 := by unfold everE; rw [if_neg (by simpa using ha), if_neg (by simpa using hb2), if_neg hlt, if_neg (by rw [hbad]; decide)]
        rw [e]
        have hK := fun W => fkey_any k.kind k.a k.b k.word W hs
        rw [show (⟨k.kind, k.a, k.word, k.b⟩ : KeyP) = k from rfl] at hK
        have hRR := fun W => right_any f t W
        clear e hb ha hb2 h hs hlt
        cases hk : keyB k
        · rw [hk] at hK
          have HK := Lib.hid hK
          clear hbad hk hK hRR
          go_enter Tryz.func15, Tryz.ntmps15
          go_wp2_with fail
          refine wp_loop_rounds 3 ?_
          rw [rounds_succ]
          go_wp2_with fail
          refine (HR.out _ HB0.out).mono ?_
          rintro e w1 ⟨rfl, rfl⟩
          go_wp2_with fail
          rw [rounds_succ]
          go_wp2_with fail
          refine (HR2.out _ HB0.out).mono ?_
          rintro e w1 ⟨rfl, rfl⟩
          go_wp2_with fail
          rw [rounds_succ]
          go_wp2_with fail
          refine (HK.out _).mono ?_
          rintro e w2 ⟨rfl, b2⟩
          have HB2 := Lib.hid (HB0.out.trans (b2.mono (by simp; omega)))
          clear b2
          go_wp2_with fail
          go_ret2
          exact ⟨rfl, HB2.out⟩
        · rw [hk] at hK hbad
          have hr : rightB f t = false := by simpa using hbad
          rw [hr] at hRR
          have HK := Lib.hid hK
          have HRR := Lib.hid hRR
          clear hbad hk hK hRR hr
          go_enter Tryz.func15, Tryz.ntmps15
          go_wp2_with fail
          refine wp_loop_rounds 3 ?_
          rw [rounds_succ]
          go_wp2_with fail
          refine (HR.out _ HB0.out).mono ?_
          rintro e w1 ⟨rfl, rfl⟩
          go_wp2_with fail
          rw [rounds_succ]
          go_wp2_with fail
          refine (HR2.out _ HB0.out).mono ?_
          rintro e w1 ⟨rfl, rfl⟩
          go_wp2_with fail
          rw [rounds_succ]
          go_wp2_with fail
          refine (HK.out _).mono ?_
          rintro e w2 ⟨rfl, b2⟩
          have s0 := (b2.cell (p := ⟨w.heap.size + 1, 0, none⟩) (by simp)).trans (show _ = some (.int .i64 f) by simp)
          have s1 := (b2.cell (p := ⟨w.heap.size + 1, 1, none⟩) (by simp)).trans (show _ = some (.int .i64 t) by simp)
          have HB2 := Lib.hid (HB0.out.trans (b2.mono (by simp; omega)))
          have hs2 := b2.size
          simp at hs2
          have hsl : w.heap.size + 1 < w2.heap.size := by omega
          clear b2 hs2
          go_wp2_with fail
          refine (HRR.out _).mono ?_
          rintro e w3 ⟨rfl, b3⟩
          have HB3 := Lib.hid (HB2.out.trans (b3.mono HB2.out.size))
          clear b3 s0 s1
          go_wp2_with fail
          go_ret2
          exact ⟨rfl, HB3.out⟩
    · have e : everE s k a b f t = askE s b := by unfold everE; rw [if_neg (by simpa using ha), if_pos hb2]
      rw [e]
      rw [errN_ne hb2] at hR2
      obtain ⟨n, hn⟩ : ∃ n, n = askE s b := ⟨_, rfl⟩
      rw [← hn] at hR2 ⊢
      unfold errV at *
      have HR2 := Lib.hid hR2
      clear hR2 hn ha hb2 h e hb
      go_enter Tryz.func15, Tryz.ntmps15
      go_wp2_with fail
      refine wp_loop_rounds 3 ?_
      rw [rounds_succ]
      go_wp2_with fail
      refine (HR.out _ HB0.out).mono ?_
      rintro e w1 ⟨rfl, rfl⟩
      go_wp2_with fail
      rw [rounds_succ]
      go_wp2_with fail
      refine (HR2.out _ HB0.out).mono ?_
      rintro e w1 ⟨rfl, rfl⟩
      go_wp2_with fail
      go_ret2
      exact ⟨rfl, HB0.out⟩
  · have e : everE s k a b f t = askE s a := by unfold everE; rw [if_pos ha]
    rw [e]
    rw [errN_ne ha] at hR
    obtain ⟨n, hn⟩ : ∃ n, n = askE s a := ⟨_, rfl⟩
    rw [← hn] at hR ⊢
    unfold errV at *
    have HR := Lib.hid hR
    clear hR hR2 hn ha h e hb
    go_enter Tryz.func15, Tryz.ntmps15
    go_wp2_with fail
    refine wp_loop_rounds 3 ?_
    rw [rounds_succ]
    go_wp2_with fail
    refine (HR.out _ HB0.out).mono ?_
    rintro e w1 ⟨rfl, rfl⟩
    go_wp2_with fail
    go_ret2
    exact ⟨rfl, HB0.out⟩
end Go.Proofs.YtacedfcckkpciaaGreatDoor

namespace Go.Proofs.YtacedfcckkpciaaGreatDoor
open Go.RowKit Go.Deep Go.Shelf Go.Sort Go.Maps

def EverPost (vs : List Ver) (k : KeyP) (a b f t : Int) (w : World) (e : Ending) (w' : World) : Prop :=
  ∃ (v : Value) (S : List ByteArray), e = .returned (.tuple #[v, .nilIface]) ∧ S.Pairwise bLess ∧ (∀ x, x ∈ S ↔ x ∈ everU vs k a b f t) ∧ w'.ownsRow w.heap.size 9 1 v S.length (S.map Value.string) ∧ Below w.heap.size w w'
theorem rightB_bounds {f t : Int} (h : rightB f t = true) : -1099511627776 ≤ f ∧ f < t ∧ t ≤ 1099511627776 := by unfold rightB at h; simp at h; omega
theorem everB_iff (vs : List Ver) (a b : Int) {id : Int} {v : Ver} (h : verAt vs id = v) : everB vs a b id = (decide (v.bg ≤ b) && (decide (v.en = 0) || decide (a < v.en))) := by unfold everB; rw [h]

set_option maxRecDepth 100000 in
set_option maxHeartbeats 4000000 in
theorem pever_none (k : KeyP) (a b f t : Int) (pb po : Nat) (R : Rest) (s : Pst) (g : Gh) (w : World) (h : PastAt w pb po R s g) (ha : askE s a = 0) (hb : askE s b = 0) (hab : ¬ b < a) (hk : keyB k = true) (hr : rightB f t = true) (hy : treeFor g.ts k = none) :
    Calls Tryz.prog 15 #[.pointer (some ⟨pb, po, none⟩), .agg #[.int .i64 k.kind, .int .i64 k.a, .string k.word, .int .i64 k.b], .int .i64 a, .int .i64 b, .agg #[.int .i64 f, .int .i64 t]] w (EverPost s.vs k a b f t w) := by
  have i0 := fun w => (arrInt2 a b w).1
  have i1 := fun w => (arrInt2 a b w).2
  have hmm := @run_makeMap Tryz.prog
  have hR := fun W (hB : Below w.heap.size w W) => pright_any pb po R s g a W (h.below hB)
  have hR2 := fun W (hB : Below w.heap.size w W) => pright_any pb po R s g b W (h.below hB)
  rw [ha, errN_0] at hR
  rw [hb, errN_0] at hR2
  have hlt' : decide (b < a) = false := by simpa using hab
  have hs : k.word.size ≤ maxLen := by have := (wfkey hk).2; unfold maxLen; omega
  have hK := fun W => fkey_any k.kind k.a k.b k.word W hs
  rw [show (⟨k.kind, k.a, k.word, k.b⟩ : KeyP) = k from rfl, hk] at hK
  have hRR := fun W => right_any f t W
  rw [hr] at hRR
  have hlk : ∀ W, Below w.heap.size w W → (Instr.lookup 25 (.map g.tm) (.agg #[.int .i64 k.kind, .int .i64 k.a, .string k.word, .int .i64 k.b]) false).run Tryz.prog W = .ok (.pointer none) W := fun W hB => by
    have := tree_look (h.below hB).trees h.keyOk hk
    rw [trPtr_none hy] at this
    exact this
  have hc : ∀ W, Below w.heap.size w W → W.cell? ⟨pb, po + 4, none⟩ = some (.map g.tm) := fun W hB => (past_cells (h.below hB).len (h.below hB).cells).2.2.2.2
  have hti : itemsK s.vs k = [] := by
    cases e : itemsK s.vs k with
    | nil => rfl
    | cons z l =>
      obtain ⟨v, hv, hvk, _⟩ := mem_itemsK.1 (show z ∈ itemsK s.vs k by rw [e]; simp)
      obtain ⟨z', hz', e'⟩ := h.all v hv
      exact absurd (e'.trans hvk) (treeFor_none hy z' hz')
  have hU : everU s.vs k a b f t = [] := by
    have h2 := meetsL_length (itemsK s.vs k) f t
    have h3 : (itemsK s.vs k).length = 0 := by rw [hti]; rfl
    have h4 : meetsL (itemsK s.vs k) f t = [] := List.eq_nil_of_length_eq_zero (by omega)
    unfold everU; rw [h4]; rfl
  have hB0 : Below w.heap.size w ((w.alloc (.cells #[.int .i64 k.kind, .int .i64 k.a, .string k.word, .int .i64 k.b] 29)).alloc (.cells #[.int .i64 f, .int .i64 t] 44)) := ((Below.refl _ w).alloc (Nat.le_refl _) _).alloc (by simp) _
  have HB0 := Lib.hid hB0
  have HR := Lib.hid hR
  have HR2 := Lib.hid hR2
  have HK := Lib.hid hK
  have HRR := Lib.hid hRR
  have HLK := Lib.hid hlk
  have HC := Lib.hid hc
  have HU := Lib.hid hU
  clear hB0 hR hR2 hK hRR hlk hc hU hti h ha hb hab hk hr hy hs
  go_enter Tryz.func15, Tryz.ntmps15
  go_wp2_with fail
  refine wp_loop_rounds 3 ?_
  rw [rounds_succ]
  go_wp2_with fail
  refine (HR.out _ HB0.out).mono ?_
  rintro e w1 ⟨rfl, rfl⟩
  go_wp2_with fail
  rw [rounds_succ]
  go_wp2_with fail
  refine (HR2.out _ HB0.out).mono ?_
  rintro e w1 ⟨rfl, rfl⟩
  go_wp2_with fail
  rw [rounds_succ]
  go_wp2_with fail
  refine (HK.out _).mono ?_
  rintro e w2 ⟨rfl, b2⟩
  have k0 := (b2.cell (p := ⟨w.heap.size, 0, none⟩) (by simp; omega)).trans (show _ = some (.int .i64 k.kind) by simp)
  have k1 := (b2.cell (p := ⟨w.heap.size, 1, none⟩) (by simp; omega)).trans (show _ = some (.int .i64 k.a) by simp)
  have k2 := (b2.cell (p := ⟨w.heap.size, 2, none⟩) (by simp; omega)).trans (show _ = some (.string k.word) by simp)
  have k3 := (b2.cell (p := ⟨w.heap.size, 3, none⟩) (by simp; omega)).trans (show _ = some (.int .i64 k.b) by simp)
  have s0 := (b2.cell (p := ⟨w.heap.size + 1, 0, none⟩) (by simp)).trans (show _ = some (.int .i64 f) by simp)
  have s1 := (b2.cell (p := ⟨w.heap.size + 1, 1, none⟩) (by simp)).trans (show _ = some (.int .i64 t) by simp)
  have HB2 := Lib.hid (HB0.out.trans (b2.mono (by simp; omega)))
  have hs2 := b2.size
  simp at hs2
  have hsl : w.heap.size + 1 < w2.heap.size := by omega
  clear b2 hs2
  go_wp2_with fail
  refine (HRR.out _).mono ?_
  rintro e w3 ⟨rfl, b3⟩
  have k0 := below_cell b3 (by omega) k0
  have k1 := below_cell b3 (by omega) k1
  have k2 := below_cell b3 (by omega) k2
  have k3 := below_cell b3 (by omega) k3
  have hsl3 : w.heap.size < w3.heap.size := by have := b3.size; omega
  have HB3 := Lib.hid (HB2.out.trans (b3.mono HB2.out.size))
  clear b3 s0 s1 hsl
  obtain ⟨W4, hW4⟩ : ∃ W4, W4 = w3.alloc (.map #[] 0) := ⟨_, rfl⟩
  have hB4 : Below w3.heap.size w3 W4 := by rw [hW4]; exact (Below.refl _ _).alloc (Nat.le_refl _) _
  have hBw4 : Below w.heap.size w W4 := HB3.out.trans (hB4.mono (by omega))
  have k0 := below_cell hB4 hsl3 k0
  have k1 := below_cell hB4 hsl3 k1
  have k2 := below_cell hB4 hsl3 k2
  have k3 := below_cell hB4 hsl3 k3
  have c4 := HC.out W4 hBw4
  have hl := fun n => HLK.out (W4.drewN n) (below_drewN' hBw4 n)
  have ho4 : W4.ownsMap Tryz.prog 9 boolR w3.heap.size 0 (.map []) := by rw [hW4]; exact World.ownsMap_made _ _ _ _
  have HW4 := Lib.hid hW4
  have HB4 := Lib.hid hBw4
  have HO4 := Lib.hid ho4
  clear hW4 hB4 hBw4 ho4
  go_wp2_with fail
  rw [← HW4.out]
  go_quiet (fail)
  revert nq; intro n1
  clear hl c4
  obtain ⟨W5, hW5⟩ : ∃ W5, W5 = W4.drewN n1 := ⟨_, rfl⟩
  have ho5 : W5.ownsMap Tryz.prog 9 boolR w3.heap.size 0 (.map []) := by rw [hW5]; exact owns_frame HO4.out (Fr.drewN (Fr.refl (fun _ => False) W4) n1) (fun e => e)
  have hB5 : Below w.heap.size w W5 := by rw [hW5]; exact below_drewN' HB4.out n1
  have HO5 := Lib.hid ho5
  have HB5 := Lib.hid hB5
  rw [← hW5]
  clear hW5 ho5 hB5 k0 k1 k2 k3
  go_wp2_with fail
  refine (mapsKeys_any (some w3.heap.size) W5).mono ?_
  rintro e w6 ⟨rfl, rfl⟩
  go_wp2_with fail
  refine (sortedKeys_any w3.heap.size 0 (.map []) boolR W5 HO5.out (by decide) (by decide)).mono ?_
  rintro e w7 ⟨v, ss, rfl, hss, own7, b7⟩
  obtain ⟨S, e1, e2, e3, e4⟩ := had_sorted (L := []) List.nodup_nil HO5.out mapOf_nil hss
  rw [e1, ← e2] at own7
  have HO7 := Lib.hid own7
  have HB7 := Lib.hid (HB5.out.trans ((below_over b7).mono HB5.out.size))
  have HE := Lib.hid (And.intro e3 e4)
  have hs5 := HB5.out.size
  clear hss own7 b7 e1 e2 e3 e4
  go_wp2_with fail
  go_ret2
  exact ⟨_, S, rfl, HE.out.1, fun x => by rw [HE.out.2 x, HU.out], ownsRow_base HO7.out (by simp; omega), HB7.out⟩

structure ELoop (vs : List Ver) (a b : Int) (ids : List Int) (hb : Nat) (w5 : World) (j n : Nat) (L : List ByteArray) (wr : World) : Prop where
  had : HadIs wr hb n L
  mem : ∀ x, x ∈ L ↔ x ∈ everT vs a b (ids.take j)
  le : n ≤ j
  fr : Fr (· = hb) w5 wr
set_option maxRecDepth 100000 in
set_option maxHeartbeats 8000000 in
theorem pever_some (k : KeyP) (a b f t : Int) (pb po : Nat) (R : Rest) (s : Pst) (g : Gh) (y : Tr) (w : World) (h : PastAt w pb po R s g) (hW : Wf s) (ha : askE s a = 0) (hb : askE s b = 0) (hab : ¬ b < a) (hk : keyB k = true) (hr : rightB f t = true) (hn : s.next ≤ 4000) (hy : treeFor g.ts k = some y) :
    Calls Tryz.prog 15 #[.pointer (some ⟨pb, po, none⟩), .agg #[.int .i64 k.kind, .int .i64 k.a, .string k.word, .int .i64 k.b], .int .i64 a, .int .i64 b, .agg #[.int .i64 f, .int .i64 t]] w (EverPost s.vs k a b f t w) := by
  have i0 := fun w => (arrInt2 a b w).1
  have i1 := fun w => (arrInt2 a b w).2
  have hmm := @run_makeMap Tryz.prog
  have hR := fun W (hB : Below w.heap.size w W) => pright_any pb po R s g a W (h.below hB)
  have hR2 := fun W (hB : Below w.heap.size w W) => pright_any pb po R s g b W (h.below hB)
  rw [ha, errN_0] at hR
  rw [hb, errN_0] at hR2
  have hlt' : decide (b < a) = false := by simpa using hab
  have hs : k.word.size ≤ maxLen := by have := (wfkey hk).2; unfold maxLen; omega
  have hK := fun W => fkey_any k.kind k.a k.b k.word W hs
  rw [show (⟨k.kind, k.a, k.word, k.b⟩ : KeyP) = k from rfl, hk] at hK
  have hRR := fun W => right_any f t W
  rw [hr] at hRR
  have hlk : ∀ W, Below w.heap.size w W → (Instr.lookup 25 (.map g.tm) (.agg #[.int .i64 k.kind, .int .i64 k.a, .string k.word, .int .i64 k.b]) false).run Tryz.prog W = .ok (.pointer (some ⟨y.tb, 0, none⟩)) W := fun W hB => by
    have := tree_look (h.below hB).trees h.keyOk hk
    rw [trPtr_some hy] at this
    exact this
  obtain ⟨hym, hyk⟩ := treeFor_some hy
  have hc : ∀ W, Below w.heap.size w W → W.cell? ⟨pb, po + 4, none⟩ = some (.map g.tm) := fun W hB => (past_cells (h.below hB).len (h.below hB).cells).2.2.2.2
  have hc3 : ∀ W, Below w.heap.size w W → W.cell? ⟨pb, po + 3, none⟩ = some (.map g.am) := fun W hB => (past_cells (h.below hB).len (h.below hB).cells).2.2.2.1
  have hT : ∀ W, Below w.heap.size w W → TreeAt W y.tb (itemsK s.vs k) y.t y.mb := fun W hB => by
    have := (h.below hB).tree y hym
    rw [hyk] at this; exact this
  have hvl : ∀ W, Below w.heap.size w W → ∀ v ∈ s.vs, (Instr.lookup 24 (.map g.am) (.int .i64 v.id) false).run Tryz.prog W = .ok (verV v) W := fun W hB v hv => by
    have hvs := (h.below hB).vers
    have hr := h.ids.rng v hv
    cases ham : g.am with
    | none => rw [ham] at hvs; have e : s.vs = [] := hvs; rw [e] at hv; cases hv
    | some am => rw [ham] at hvs; exact ver_look hvs hv ⟨by omega, by omega⟩
  have hil := items_len h.ids k
  have hle := meetsL_length (itemsK s.vs k) f t
  have hB0 : Below w.heap.size w ((w.alloc (.cells #[.int .i64 k.kind, .int .i64 k.a, .string k.word, .int .i64 k.b] 29)).alloc (.cells #[.int .i64 f, .int .i64 t] 44)) := ((Below.refl _ w).alloc (Nat.le_refl _) _).alloc (by simp) _
  have HB0 := Lib.hid hB0
  have HR := Lib.hid hR
  have HR2 := Lib.hid hR2
  have HK := Lib.hid hK
  have HRR := Lib.hid hRR
  have HLK := Lib.hid hlk
  have HC := Lib.hid hc
  have HC3 := Lib.hid hc3
  have HT := Lib.hid hT
  have HVL := Lib.hid hvl
  have HP := Lib.hid h
  have HWF := Lib.hid hW
  have HRB := Lib.hid hr
  clear hB0 hR hR2 hK hRR hlk hc hc3 hT hvl hW h ha hb hab hk hr hy hs hym hyk
  go_enter Tryz.func15, Tryz.ntmps15
  go_wp2_with fail
  refine wp_loop_rounds 3 ?_
  rw [rounds_succ]
  go_wp2_with fail
  refine (HR.out _ HB0.out).mono ?_
  rintro e w1 ⟨rfl, rfl⟩
  go_wp2_with fail
  rw [rounds_succ]
  go_wp2_with fail
  refine (HR2.out _ HB0.out).mono ?_
  rintro e w1 ⟨rfl, rfl⟩
  go_wp2_with fail
  rw [rounds_succ]
  go_wp2_with fail
  refine (HK.out _).mono ?_
  rintro e w2 ⟨rfl, b2⟩
  have k0 := (b2.cell (p := ⟨w.heap.size, 0, none⟩) (by simp; omega)).trans (show _ = some (.int .i64 k.kind) by simp)
  have k1 := (b2.cell (p := ⟨w.heap.size, 1, none⟩) (by simp; omega)).trans (show _ = some (.int .i64 k.a) by simp)
  have k2 := (b2.cell (p := ⟨w.heap.size, 2, none⟩) (by simp; omega)).trans (show _ = some (.string k.word) by simp)
  have k3 := (b2.cell (p := ⟨w.heap.size, 3, none⟩) (by simp; omega)).trans (show _ = some (.int .i64 k.b) by simp)
  have s0 := (b2.cell (p := ⟨w.heap.size + 1, 0, none⟩) (by simp)).trans (show _ = some (.int .i64 f) by simp)
  have s1 := (b2.cell (p := ⟨w.heap.size + 1, 1, none⟩) (by simp)).trans (show _ = some (.int .i64 t) by simp)
  have HB2 := Lib.hid (HB0.out.trans (b2.mono (by simp; omega)))
  have hs2 := b2.size
  simp at hs2
  have hsl : w.heap.size + 1 < w2.heap.size := by omega
  clear b2 hs2
  go_wp2_with fail
  refine (HRR.out _).mono ?_
  rintro e w3 ⟨rfl, b3⟩
  have k0 := below_cell b3 (by omega) k0
  have k1 := below_cell b3 (by omega) k1
  have k2 := below_cell b3 (by omega) k2
  have k3 := below_cell b3 (by omega) k3
  have hsl3 : w.heap.size < w3.heap.size := by have := b3.size; omega
  have HB3 := Lib.hid (HB2.out.trans (b3.mono HB2.out.size))
  have s0 := below_cell b3 (by omega) s0
  have s1 := below_cell b3 (by omega) s1
  have hsl3' : w.heap.size + 1 < w3.heap.size := by have := b3.size; omega
  clear b3 hsl
  obtain ⟨W4, hW4⟩ : ∃ W4, W4 = w3.alloc (.map #[] 0) := ⟨_, rfl⟩
  have hB4 : Below w3.heap.size w3 W4 := by rw [hW4]; exact (Below.refl _ _).alloc (Nat.le_refl _) _
  have hBw4 : Below w.heap.size w W4 := HB3.out.trans (hB4.mono (by omega))
  have k0 := below_cell hB4 hsl3 k0
  have k1 := below_cell hB4 hsl3 k1
  have k2 := below_cell hB4 hsl3 k2
  have k3 := below_cell hB4 hsl3 k3
  have s0 := below_cell hB4 hsl3' s0
  have s1 := below_cell hB4 hsl3' s1
  have hs4 : W4.heap.size = w3.heap.size + 1 := by rw [hW4]; simp
  have HS4 := Lib.hid hs4
  have c4 := HC.out W4 hBw4
  have hl := fun n => HLK.out (W4.drewN n) (below_drewN' hBw4 n)
  have ho4 : W4.ownsMap Tryz.prog 9 boolR w3.heap.size 0 (.map []) := by rw [hW4]; exact World.ownsMap_made _ _ _ _
  have HW4 := Lib.hid hW4
  have HB4 := Lib.hid hBw4
  have HO4 := Lib.hid ho4
  clear hW4 hB4 hBw4 ho4 hs4
  go_wp2_with fail
  rw [← HW4.out]
  go_quiet (fail)
  revert nq; intro n1
  clear hl c4
  obtain ⟨W5, hW5⟩ : ∃ W5, W5 = W4.drewN n1 := ⟨_, rfl⟩
  have ho5 : W5.ownsMap Tryz.prog 9 boolR w3.heap.size 0 (.map []) := by rw [hW5]; exact owns_frame HO4.out (Fr.drewN (Fr.refl (fun _ => False) W4) n1) (fun e => e)
  have hB5 : Below w.heap.size w W5 := by rw [hW5]; exact below_drewN' HB4.out n1
  have hB45 : Below W4.heap.size W4 W5 := by rw [hW5]; exact below_drewN' (Below.refl _ _) n1
  have hsl4 : w.heap.size + 1 < W4.heap.size := by have := HS4.out; omega
  have s0 := below_cell hB45 hsl4 s0
  have s1 := below_cell hB45 hsl4 s1
  have hs5 : W5.heap.size = w3.heap.size + 1 := by rw [hW5]; exact HS4.out
  have HO5 := Lib.hid ho5
  have HB5 := Lib.hid hB5
  have HS5 := Lib.hid hs5
  obtain ⟨hb, hhb⟩ : ∃ hb, hb = w3.heap.size := ⟨_, rfl⟩
  have HHB := Lib.hid hhb
  rw [← hW5, ← hhb]
  clear hW5 ho5 hB5 hB45 hs5 hhb k0 k1 k2 k3
  go_wp2_with fail
  refine (tmeets_any f t W5 y.tb (itemsK s.vs k) y.t y.mb (HT.out _ HB5.out) (by omega)).mono ?_
  rintro e w6 ⟨v6, rfl, own6, b6⟩
  obtain ⟨ids, hids⟩ : ∃ ids, ids = meetsL (itemsK s.vs k) f t := ⟨_, rfl⟩
  rw [← hids] at own6
  obtain ⟨ao, cap, rfl, hcs⟩ := ownsRow_intsB own6
  have hlen : ids.length < 4001 := by rw [hids]; omega
  have hst : ELoop s.vs a b ids hb w6 0 0 [] w6 := ⟨⟨List.nodup_nil, .map [], owns_frame (F := fun _ => False) (by rw [HHB.out]; exact HO5.out) (Fr.new b6) (fun e => e), mapOf_nil⟩, fun x => ⟨(fun h => by cases h), (fun h => by cases h)⟩, Nat.le_refl _, Fr.refl _ _⟩
  have hB6 : Below w.heap.size w w6 := HB5.out.trans (b6.mono HB5.out.size)
  have hs6 : hb < w6.heap.size := by have := b6.size; have := HS5.out; have := HHB.out; omega
  have hhw : w.heap.size < hb := by have := HHB.out; omega
  have HIDS := Lib.hid hids
  have HCS := Lib.hid hcs
  have HST := Lib.hid hst
  have HB6 := Lib.hid hB6
  clear own6 b6 hids hcs hst hB6 s0 s1 hle
  go_wp2_with fail
  go_loopw [61] (fun i wr => ∃ (j n : Nat) (L : List ByteArray), j ≤ ids.length ∧ i = .int .i64 j ∧ ELoop s.vs a b ids hb w6 j n L wr) (fun i _ => ids.length - (intOf i).toNat)
  case atStart => exact ⟨0, 0, [], by omega, rfl, HST.out⟩
  case round =>
    obtain ⟨j, n, L, hj, rfl, hL⟩ := hrel
    have HL := Lib.hid hL
    have hsr := hL.fr.size
    have hBw : Below w.heap.size w wr := HB6.out.trans (hL.fr.below (B := w.heap.size) (fun i _ e => by omega) (by omega))
    have HBW := Lib.hid hBw
    clear hL
    by_cases hlt : j < ids.length
    · obtain ⟨id, hid⟩ : ∃ id, ids[j]? = some id := ⟨_, List.getElem?_eq_getElem hlt⟩
      obtain ⟨bi, rfl, hbi, hcell⟩ := HCS.out j id hid
      have hcw := HL.out.fr.cell hcell (fun e => by have := HS5.out; have := HHB.out; omega)
      have hbw : bi < wr.heap.size := World.block_lt_of_cell? wr _ hcw
      obtain ⟨x, hx, e, hx3, hx4⟩ := (mem_meetsL HRB.out).1 (show id ∈ meetsL (itemsK s.vs k) f t by rw [← HIDS.out]; exact List.mem_of_getElem? hid)
      obtain ⟨v, hv, hvk, rfl⟩ := mem_itemsK.1 hx
      change v.id = id at e
      subst e
      have hva := HP.out.ids.verAt hv
      have hl := HVL.out wr hBw v hv
      unfold verV at hl
      have c3 := HC3.out wr hBw
      have heb := everB_iff s.vs a b hva
      have hvv := HWF.out.vals v hv
      have hsz : v.val.size ≤ maxLen := by unfold wordB at hvv; simp at hvv; unfold maxLen; omega
      have HVA := Lib.hid hva
      have HID := Lib.hid hid
      have HSZ := Lib.hid hsz
      clear hva hid hcell hBw hv hvk hx hx3 hx4 hvv hsz
      by_cases q1 : v.bg ≤ b
      · by_cases q2 : v.en = 0
        · have q2' : (v.en == 0) = true := by simpa using q2
          rw [show (decide (v.bg ≤ b) && (decide (v.en = 0) || decide (a < v.en))) = true by simp [q1, q2]] at heb
          clear q2
          have HEB := Lib.hid heb
          have hnx := everT_yes HID.out HVA.out HEB.out
          obtain ⟨D, hown, hD⟩ := HL.out.had.own
          obtain ⟨L', n', hD', hm'⟩ := had_put HL.out.had.nod hD v.val
          have hmem : ∀ z, z ∈ L' ↔ z ∈ everT s.vs a b (ids.take (j + 1)) := fun z => by rw [hnx, hm', List.mem_append, HL.out.mem]; simp [or_comm]
          have HMEM := Lib.hid hmem
          have HD' := Lib.hid hD'
          have HN' := Lib.hid n'
          have hnl := HL.out.le
          clear heb hnx hmem hD hD' n' hm'
          go_wp2_with (at_mapUpdate; refine wpList_mapUpdate_own _ rfl _ _ _ 57 rfl 9 4 strLaw Tryz.underlying57 boolR hb n D rfl (hown.alloc _) (by unfold maxLen; omega) _ _ _ rfl rfl (keyOf_str HSZ.out) boolD [] rfl ?_; intro w7 hown7 hgrow7)
          have F7 : Fr (· = hb) wr w7 := ((Fr.refl _ _).alloc _).trans (Fr.ofGrown hgrow7)
          go_roundw
          case rel => exact ⟨j + 1, n + 1, L', by omega, by go_num, ⟨HN'.out, _, hown7, HD'.out⟩, HMEM.out, by omega, HL.out.fr.trans F7⟩
          case measure => simp [intOf]; omega
        · have q2' : (v.en == 0) = false := by simpa using q2
          by_cases q3 : a < v.en
          · rw [show (decide (v.bg ≤ b) && (decide (v.en = 0) || decide (a < v.en))) = true by simp [q1, q3]] at heb
            clear q2
            have HEB := Lib.hid heb
            have hnx := everT_yes HID.out HVA.out HEB.out
            obtain ⟨D, hown, hD⟩ := HL.out.had.own
            obtain ⟨L', n', hD', hm'⟩ := had_put HL.out.had.nod hD v.val
            have hmem : ∀ z, z ∈ L' ↔ z ∈ everT s.vs a b (ids.take (j + 1)) := fun z => by rw [hnx, hm', List.mem_append, HL.out.mem]; simp [or_comm]
            have HMEM := Lib.hid hmem
            have HD' := Lib.hid hD'
            have HN' := Lib.hid n'
            have hnl := HL.out.le
            clear heb hnx hmem hD hD' n' hm'
            go_wp2_with (at_mapUpdate; refine wpList_mapUpdate_own _ rfl _ _ _ 57 rfl 9 4 strLaw Tryz.underlying57 boolR hb n D rfl (hown.alloc _) (by unfold maxLen; omega) _ _ _ rfl rfl (keyOf_str HSZ.out) boolD [] rfl ?_; intro w7 hown7 hgrow7)
            have F7 : Fr (· = hb) wr w7 := ((Fr.refl _ _).alloc _).trans (Fr.ofGrown hgrow7)
            go_roundw
            case rel => exact ⟨j + 1, n + 1, L', by omega, by go_num, ⟨HN'.out, _, hown7, HD'.out⟩, HMEM.out, by omega, HL.out.fr.trans F7⟩
            case measure => simp [intOf]; omega
          · have q3' : decide (a < v.en) = false := by simpa using q3
            rw [show (decide (v.bg ≤ b) && (decide (v.en = 0) || decide (a < v.en))) = false by simp [q2, q3]] at heb
            clear q2 q3
            have HEB := Lib.hid heb
            have hnx := everT_no HID.out HEB.out
            have hmem : ∀ z, z ∈ L ↔ z ∈ everT s.vs a b (ids.take (j + 1)) := by rw [hnx]; exact HL.out.mem
            have HMEM := Lib.hid hmem
            clear heb hnx hmem
            go_wp2_with fail
            have F7 : Fr (· = hb) wr (wr.alloc (.cells #[.int .i64 v.key.kind, .int .i64 v.key.a, .string v.key.word, .int .i64 v.key.b, .string v.val, .int .i64 v.bg, .int .i64 v.en] 92)) := (Fr.refl _ _).alloc _
            have F8 : Fr (fun _ => False) wr (wr.alloc (.cells #[.int .i64 v.key.kind, .int .i64 v.key.a, .string v.key.word, .int .i64 v.key.b, .string v.val, .int .i64 v.bg, .int .i64 v.en] 92)) := (Fr.refl _ _).alloc _
            go_roundw
            case rel => exact ⟨j + 1, n, L, by omega, by go_num, HL.out.had.frame F8 (fun e => e), HMEM.out, by have := HL.out.le; omega, HL.out.fr.trans F7⟩
            case measure => simp [intOf]; omega
      · have q1' : decide (v.bg ≤ b) = false := by simpa using q1
        rw [show (decide (v.bg ≤ b) && (decide (v.en = 0) || decide (a < v.en))) = false by simp [q1]] at heb
        clear q1
        have HEB := Lib.hid heb
        have hnx := everT_no HID.out HEB.out
        have hmem : ∀ z, z ∈ L ↔ z ∈ everT s.vs a b (ids.take (j + 1)) := by rw [hnx]; exact HL.out.mem
        have HMEM := Lib.hid hmem
        clear heb hnx hmem
        go_wp2_with fail
        have F7 : Fr (· = hb) wr (wr.alloc (.cells #[.int .i64 v.key.kind, .int .i64 v.key.a, .string v.key.word, .int .i64 v.key.b, .string v.val, .int .i64 v.bg, .int .i64 v.en] 92)) := (Fr.refl _ _).alloc _
        have F8 : Fr (fun _ => False) wr (wr.alloc (.cells #[.int .i64 v.key.kind, .int .i64 v.key.a, .string v.key.word, .int .i64 v.key.b, .string v.val, .int .i64 v.bg, .int .i64 v.en] 92)) := (Fr.refl _ _).alloc _
        go_roundw
        case rel => exact ⟨j + 1, n, L, by omega, by go_num, HL.out.had.frame F8 (fun e => e), HMEM.out, by have := HL.out.le; omega, HL.out.fr.trans F7⟩
        case measure => simp [intOf]; omega
    · obtain ⟨D, hown, hD⟩ := HL.out.had.own
      have hsz := hD.size
      have hUe : ∀ z, z ∈ L ↔ z ∈ everU s.vs k a b f t := fun z => by
        have h1 := HL.out.mem z
        rw [List.take_of_length_le (by omega), HIDS.out, everT_all] at h1
        exact h1
      have hsd : Maps.size D ≤ 4001 := by have := hown.size_le; have := HL.out.le; omega
      have HUE := Lib.hid hUe
      have HDD := Lib.hid hD
      have hw8 := hBw.size
      clear hUe hD hsz hBw
      go_wp2_with fail
      refine (mapsKeys_any (some hb) wr).mono ?_
      rintro e w8 ⟨rfl, rfl⟩
      go_wp2_with fail
      refine (sortedKeys_any hb n D boolR wr hown (by unfold maxLen; omega) (by omega)).mono ?_
      rintro e w9 ⟨v9, ss, rfl, hss, own9, b9⟩
      obtain ⟨S, e1, e2, e3, e4⟩ := had_sorted HL.out.had.nod hown HDD.out hss
      rw [e1, ← e2] at own9
      have HO9 := Lib.hid own9
      have HB9 := Lib.hid (HBW.out.trans ((below_over b9).mono HBW.out.size))
      have HE := Lib.hid (And.intro e3 e4)
      clear hss own9 b9 e1 e2 e3 e4 hown
      go_wp2_with fail
      go_ret2
      exact ⟨_, S, rfl, HE.out.1, fun x => by rw [HE.out.2 x, HUE.out], ownsRow_base HO9.out (by simp; omega), HB9.out⟩
theorem pever_ok (k : KeyP) (a b f t : Int) (pb po : Nat) (R : Rest) (s : Pst) (g : Gh) (w : World) (h : PastAt w pb po R s g) (hW : Wf s) (ha : askE s a = 0) (hb : askE s b = 0) (hab : ¬ b < a) (hk : keyB k = true) (hr : rightB f t = true) (hn : s.next ≤ 4000) :
    Calls Tryz.prog 15 #[.pointer (some ⟨pb, po, none⟩), .agg #[.int .i64 k.kind, .int .i64 k.a, .string k.word, .int .i64 k.b], .int .i64 a, .int .i64 b, .agg #[.int .i64 f, .int .i64 t]] w (EverPost s.vs k a b f t w) := by
  cases hy : treeFor g.ts k with
  | none => exact pever_none k a b f t pb po R s g w h ha hb hab hk hr hy
  | some y => exact pever_some k a b f t pb po R s g y w h hW ha hb hab hk hr hn hy
end Go.Proofs.YtacedfcckkpciaaGreatDoor

namespace Go.Proofs.YtacedfcckkpciaaGreatDoor
open Go.RowKit Go.Deep Go.Shelf Go.Sort Go.Maps

def badB (a : Int) (v : Ver) : Bool := decide (0 < v.en) && decide (v.en ≤ a)
/-- What is left, once those that are no more left to come are looked at. -/
def gonS (s : Pst) (a : Int) (left : Lit → Bool) : Pst := { s with gone := a, vs := s.vs.filter fun v => left (vK v) || !badB a v }
theorem gonS_all {s : Pst} {a : Int} {left : Lit → Bool} (h : ∀ v ∈ s.vs, left (vK v) = true) : gonS s a left = { s with gone := a } := by
  unfold gonS
  congr 1
  rw [List.filter_eq_self]
  intro v hv
  rw [h v hv]; rfl
theorem gonS_end {s : Pst} {a : Int} {left : Lit → Bool} (h : ∀ q, left q = false) : gonS s a left = forgetP a s := by
  unfold gonS forgetP
  congr 1
  refine List.filter_congr fun v _ => ?_
  rw [h]
  unfold badB
  simp
theorem kI_same {x y : Int} : (kI x).sameKey (kI y) = decide (x = y) := by
  rw [Bool.eq_iff_iff]
  simp only [decide_eq_true_eq]
  constructor
  · intro h
    have := WideAt.sameKey_eq h
    simpa [kI] using this
  · intro h; subst h; exact WideAt.sameKey_self kI_key
theorem gonS_keep {s : Pst} {a : Int} {left : Lit → Bool} {v : Ver} (hd : (s.vs.map (·.id)).Nodup) (hv : v ∈ s.vs) (hl : left (vK v) = true) (hb : badB a v = false) : gonS s a (fun z => left z && !z.sameKey (kI v.id)) = gonS s a left := by
  unfold gonS
  congr 1
  refine List.filter_congr fun u hu => ?_
  show ((left (vK u) && !(vK u).sameKey (kI v.id)) || !badB a u) = (left (vK u) || !badB a u)
  rw [show (vK u).sameKey (kI v.id) = decide (u.id = v.id) from kI_same]
  by_cases e : u.id = v.id
  · have : u = v := nodup_inj (·.id) s.vs hd u hu v hv e
    subst this
    rw [hl, hb]; simp
  · simp [e]
theorem gonS_drop {s : Pst} {a : Int} {left : Lit → Bool} {v : Ver} (hd : (s.vs.map (·.id)).Nodup) (hv : v ∈ s.vs) (hb : badB a v = true) : gonS s a (fun z => left z && !z.sameKey (kI v.id)) = dropV (gonS s a left) v.id := by
  unfold gonS dropV
  simp only
  congr 1
  rw [List.filter_filter]
  refine List.filter_congr fun u hu => ?_
  show ((left (vK u) && !(vK u).sameKey (kI v.id)) || !badB a u) = (decide (u.id ≠ v.id) && (left (vK u) || !badB a u))
  rw [show (vK u).sameKey (kI v.id) = decide (u.id = v.id) from kI_same]
  by_cases e : u.id = v.id
  · have : u = v := nodup_inj (·.id) s.vs hd u hu v hv e
    subst this
    simp [hb]
  · simp [e]
/-- What Forget answers as an error. -/
def forgE (s : Pst) (a : Int) : Int := if a < 0 ∨ s.now < a then 2 else if a < s.gone then 10 else 0
set_option maxRecDepth 100000 in
theorem pforget_bad (a : Int) (pb po : Nat) (R : Rest) (s : Pst) (g : Gh) (w : World) (h : PastAt w pb po R s g) (hb : forgE s a ≠ 0) :
    Calls Tryz.prog 19 #[.pointer (some ⟨pb, po, none⟩), .int .i64 a] w fun e w' => e = .returned (errV (forgE s a)) ∧ w = w' := by
  obtain ⟨c0, c1, _, _, _⟩ := past_cells h.len h.cells
  clear h
  unfold errV
  by_cases h0 : a < 0
  · have e : forgE s a = 2 := by unfold forgE; rw [if_pos (.inl h0)]
    rw [e]
    clear e hb
    go_enter Tryz.func19, Tryz.ntmps19
    go_wp2
    go_ret
    exact ⟨rfl, rfl⟩
  · have h0' : decide (a < 0) = false := by simpa using h0
    by_cases h1 : s.now < a
    · have e : forgE s a = 2 := by unfold forgE; rw [if_pos (.inr h1)]
      rw [e]
      clear e hb
      go_enter Tryz.func19, Tryz.ntmps19
      go_wp2
      go_ret
      exact ⟨rfl, rfl⟩
    · have h1' : decide (s.now < a) = false := by simpa using h1
      have h2 : a < s.gone := by
        by_cases h2 : a < s.gone
        · exact h2
        · exact absurd (by unfold forgE; rw [if_neg (by omega), if_neg h2]) hb
      have e : forgE s a = 10 := by unfold forgE; rw [if_neg (by omega), if_pos h2]
      rw [e]
      clear e hb
      go_enter Tryz.func19, Tryz.ntmps19
      go_wp2
      go_ret
      exact ⟨rfl, rfl⟩
theorem forget_place {w : World} {pb po : Nat} {R : Rest} {s : Pst} {g : Gh} (h : PastAt w pb po R s g) (a : Int) : PastAt (w.setCell ⟨pb, po + 1, none⟩ (.int .i64 a)) pb po R { s with gone := a } g ∧ Fr (g.foot pb) w (w.setCell ⟨pb, po + 1, none⟩ (.int .i64 a)) := by
  obtain ⟨h1, h2⟩ := PastI.place (s' := { s with gone := a }) (i := po + 1) (v := .int .i64 a) h.toPastI (by rw [pcells_set1 h.len]) ⟨h.ids.nod, h.ids.rng, h.ids.key, h.ids.next0, h.ids.len⟩ rfl
  exact ⟨⟨h1, h.tlen⟩, h2⟩

set_option maxRecDepth 100000 in
set_option maxHeartbeats 2000000 in
theorem pforget_none (a : Int) (pb po : Nat) (R : Rest) (s : Pst) (g : Gh) (w : World) (h : PastAt w pb po R s g) (ham : g.am = none) (h0 : 0 ≤ a) (h1 : a ≤ s.now) (h2 : s.gone ≤ a) :
    Calls Tryz.prog 19 #[.pointer (some ⟨pb, po, none⟩), .int .i64 a] w (PDone .nilIface pb po R (forgetP a s) g w) := by
  obtain ⟨c0, c1, _, c3, _⟩ := past_cells h.len h.cells
  rw [ham] at c3
  have f1 := past_free h.cells (po + 1)
  have hpl := lt_of_block h.cells
  have h0' : decide (a < 0) = false := by simp; omega
  have h1' : decide (s.now < a) = false := by simp; omega
  have h2' : decide (a < s.gone) = false := by simp; omega
  obtain ⟨P1, F1⟩ := forget_place h a
  obtain ⟨W1, hW1⟩ : ∃ W1, W1 = w.setCell ⟨pb, po + 1, none⟩ (.int .i64 a) := ⟨_, rfl⟩
  rw [← hW1] at P1 F1
  have hvs : s.vs = [] := by have := h.vers; rw [ham] at this; exact this
  have hf : forgetP a s = { s with gone := a } := by unfold forgetP; rw [hvs]; rfl
  have r1 := run_range_nilMap (P := Tryz.prog) w 24 3 92 Tryz.underlying24
  have r1' := run_range_nilMap (P := Tryz.prog) (w.setCell ⟨pb, po + 1, none⟩ (.int .i64 a)) 24 3 92 Tryz.underlying24
  have r2 : ∀ ty, (Instr.next (.pointer (some ⟨w.heap.size, 0, none⟩)) false ty).run Tryz.prog ((w.setCell ⟨pb, po + 1, none⟩ (.int .i64 a)).alloc (.mapIter none 0 #[] 0)) = .ok (.tuple #[.bool false]) ((w.setCell ⟨pb, po + 1, none⟩ (.int .i64 a)).alloc (.mapIter none 0 #[] 0)) := fun ty => by
    have := run_next_nilMap (P := Tryz.prog) (w.setCell ⟨pb, po + 1, none⟩ (.int .i64 a)) ty 0 0 #[]
    simpa using this
  have HP1 := Lib.hid P1
  have HF1 := Lib.hid F1
  have HW1 := Lib.hid hW1
  have HF := Lib.hid hf
  clear P1 F1 hW1 hvs hf h ham
  go_enter Tryz.func19, Tryz.ntmps19
  go_wp2_with fail
  refine wp_loop_rounds 1 ?_
  rw [rounds_succ]
  go_wp2_with fail
  rw [← HW1.out]
  go_ret
  refine ⟨g, rfl, ?_, HF1.out.alloc _, Grows.refl _ _ _⟩
  rw [HF.out]
  exact HP1.out.below ((Below.refl _ _).alloc (Nat.le_refl _) _)

structure FLoop (pb po : Nat) (R : Rest) (s : Pst) (g : Gh) (a : Int) (am r n : Nat) (w : World) (left : Lit → Bool) (cnt : Nat) (D : DataW Unit) (g' : Gh) (wr : World) : Prop where
  at' : PastAt wr pb po R (gonS s a left) g'
  rg : wr.ranges Tryz.prog 3 verR am r n D left cnt
  mp : MapOf vK verD D (gonS s a left).vs
  am : g'.am = some am
  sub : ∀ q, left q = true → Maps.has D q = true
  fr : Fr (g.foot pb) w wr
  ft : ∀ j, g'.foot pb j → g.foot pb j
theorem floop_drop {pb po : Nat} {R : Rest} {s : Pst} {g : Gh} {a : Int} {am r n : Nat} {w : World} {left : Lit → Bool} {cnt cnt' : Nat} {D : DataW Unit} {g' g'' : Gh} {wr w' : World} {v : Ver} (h : FLoop pb po R s g a am r n w left cnt D g' wr) (hd : (s.vs.map (·.id)).Nodup) (hv : v ∈ s.vs) (hb : badB a v = true) (hl : left (vK v) = true)
    (P : PastAt w' pb po R (dropV (gonS s a left) v.id) g'') (ea : g''.am = some am) (hf : Fr (g.foot pb) w w') (ft : ∀ j, g''.foot pb j → g'.foot pb j) (rg : w'.ranges Tryz.prog 3 verR am r n (D.del (kI v.id)) (fun z => left z && !z.sameKey (kI v.id)) cnt') :
    FLoop pb po R s g a am r n w (fun z => left z && !z.sameKey (kI v.id)) cnt' (D.del (kI v.id)) g'' w' := by
  have e := gonS_drop (left := left) hd hv hb
  have hvm : v ∈ (gonS s a left).vs := List.mem_filter.2 ⟨hv, by rw [hl]; rfl⟩
  refine ⟨by rw [e]; exact P, rg, ?_, ea, fun q hq => ?_, hf, fun j hj => h.ft j (ft j hj)⟩
  · rw [e]
    exact (h.mp.perm (dropV_perm h.at'.ids.nod hvm)).del kI_key (fun u hu => kI_ne (mem_drop.1 hu).2)
  · rw [Bool.and_eq_true, Bool.not_eq_true'] at hq
    have hne : q ≠ kI v.id := fun e' => by
      rw [e', WideAt.sameKey_self kI_key] at hq
      cases hq.2
    rw [has_del_other hne]
    exact h.sub q hq.1

set_option maxRecDepth 100000 in
set_option maxHeartbeats 8000000 in
theorem pforget_some (a : Int) (pb po : Nat) (R : Rest) (s : Pst) (g : Gh) (am : Nat) (w : World) (h : PastAt w pb po R s g) (ham : g.am = some am) (h0 : 0 ≤ a) (h1 : a ≤ s.now) (h2 : s.gone ≤ a) (hn : s.next ≤ 4000) :
    Calls Tryz.prog 19 #[.pointer (some ⟨pb, po, none⟩), .int .i64 a] w (PDone .nilIface pb po R (forgetP a s) g w) := by
  obtain ⟨c0, c1, _, c3, _⟩ := past_cells h.len h.cells
  rw [ham] at c3
  have f1 := past_free h.cells (po + 1)
  have hpl := lt_of_block h.cells
  have h0' : decide (a < 0) = false := by simp; omega
  have h1' : decide (s.now < a) = false := by simp; omega
  have h2' : decide (a < s.gone) = false := by simp; omega
  obtain ⟨P1, F1⟩ := forget_place h a
  obtain ⟨W1, hW1⟩ : ∃ W1, W1 = w.setCell ⟨pb, po + 1, none⟩ (.int .i64 a) := ⟨_, rfl⟩
  rw [← hW1] at P1 F1
  have hs1 : W1.heap.size = w.heap.size := by rw [hW1]; simp
  have hvs := P1.vers
  rw [ham] at hvs
  obtain ⟨D, hown, hD⟩ := hvs
  have hown' : (w.setCell ⟨pb, po + 1, none⟩ (.int .i64 a)).ownsMap Tryz.prog 3 verR am s.vs.length D := by rw [← hW1]; exact hown
  have hhas : ∀ v ∈ s.vs, Maps.has D (vK v) = true := fun v hv => (hD.has _ kI_key).2 ⟨v, hv, rfl⟩
  have hg0 := gonS_all (a := a) hhas
  have hlt0 := h.lt
  have hamlt := h.lt am (.inr (.inl ham))
  have HP := Lib.hid h
  have HP1 := Lib.hid P1
  have HF1 := Lib.hid F1
  have HW1 := Lib.hid hW1
  have HS1 := Lib.hid hs1
  have HD := Lib.hid hD
  have HG0 := Lib.hid hg0
  have HLT := Lib.hid hlt0
  have HAM := Lib.hid ham
  clear P1 F1 hW1 hown hD hhas hg0 hlt0 h ham hs1
  go_enter Tryz.func19, Tryz.ntmps19
  go_wp2_with (at_range; refine wpList_range_own _ rfl _ 24 rfl 3 92 intLaw Tryz.underlying24 verR am s.vs.length D rfl hown' ?_; intro w2 hrg hgr hs2)
  try go_frame
  obtain ⟨r, hr⟩ : ∃ r, r = w.heap.size := ⟨_, rfl⟩
  have hsz1 : (w.setCell ⟨pb, po + 1, none⟩ (.int .i64 a)).heap.size = r := by rw [hr]; simp
  rw [hsz1] at hrg hs2
  have hgr1 : W1.grownBy w2 none := by rw [HW1.out]; exact hgr
  have hB2 : Below W1.heap.size W1 w2 := ⟨hgr1.os, hgr1.tape, hgr1.output, hgr1.size, fun i hi' => hgr1.block i hi' (by simp)⟩
  have P2 := HP1.out.below hB2
  have hst : FLoop pb po R s g a am r s.vs.length w (Maps.has D) (Maps.size D) D g w2 := ⟨by rw [HG0.out]; exact P2, hrg, by rw [HG0.out]; exact HD.out, HAM.out, fun _ e => e, HF1.out.trans (Fr.new hB2), fun _ e => e⟩
  have HST := Lib.hid hst
  have HRE := Lib.hid hr
  have hrl : r < w2.heap.size := by omega
  have hwr : r = w.heap.size := hr
  have hwr1 : w.heap.size ≤ r := by omega
  have hwr2 : r ≤ w.heap.size := by omega
  first | rw [← hr] | skip
  clear hgr hgr1 hB2 P2 hst hrg hs2 hown' c0 c1 c3 f1 hsz1 hr hwr
  go_loopw [5] (fun u wr => ∃ (left : Lit → Bool) (cnt : Nat) (D : DataW Unit) (g' : Gh), FLoop pb po R s g a am r s.vs.length w left cnt D g' wr ∧ r < wr.heap.size) (fun _ wr => wr.rangeLeft am r)
  case atStart => exact ⟨_, _, _, g, HST.out, hrl⟩
  case round =>
    obtain ⟨left, cnt, D', g', hL, hrw⟩ := hrel
    have HL := Lib.hid hL
    have hrg := hL.rg
    clear hL
    go_wp2_with (at_next; refine wpList_next_raw _ rfl _ rfl 3 intLaw verR am r s.vs.length D' left cnt rfl hrg ?_ ?_)
    · intro hc0 hl0
      have hend : PDone .nilIface pb po R (forgetP a s) g w (.returned .nilIface) wr := ⟨g', rfl, by rw [← gonS_end hl0]; exact HL.out.at', HL.out.fr, fun j hj => .inl (HL.out.ft j hj)⟩
      have HE := Lib.hid hend
      clear hl0 hc0 hrg hend
      go_wp2_with fail
      go_ret
      exact HE.out
    · intro key v kl y1 y2 w3 cnt3 hkey hlk hv hat hrg3 hlt3 hgr3 hs3 hen
      obtain ⟨x, hx, e⟩ := HL.out.mp.got (intLaw.key hkey) (HL.out.sub _ hlk)
      have hxs : x ∈ s.vs := (List.mem_filter.1 hx).1
      have hrng := HP.out.ids.rng x hxs
      have hib : i64 x.id := ⟨by omega, by omega⟩
      have ek : key = .int .i64 x.id := intLaw.inj hkey (by rw [← e]; exact keyOf_int_mk Tryz.underlying3 (wfI hib))
      subst ek
      have ekl : kl = kI x.id := e.symm
      subst ekl
      have ev : v = verV x := by
        have h5 := HL.out.mp.at' x hx (verD noVer)
        have h6 := hat (verD noVer)
        rw [show D'.atKey (kI x.id) (verD noVer) = verD x from h5] at h6
        rw [← h6] at hv
        exact verR_inv hv
      subst ev
      have hF3 : Fr (· = r) wr w3 := Fr.ofGrown hgr3
      have hrf : ∀ j, g'.foot pb j → j < r := fun j hj => by have := HLT.out j (HL.out.ft j hj); omega
      have P3 := HL.out.at'.frame hF3 (fun j hj e' => by have := hrf j hj; omega)
      have HKEY := Lib.hid hkey
      have HLK := Lib.hid hlk
      have HRG3 := Lib.hid hrg3
      have HF3 := Lib.hid hF3
      have HP3 := Lib.hid P3
      have HX := Lib.hid hx
      have HXS := Lib.hid hxs
      have HIB := Lib.hid hib
      have HRF := Lib.hid hrf
      have hrw3 : r < w3.heap.size := by omega
      have hmeas := hrg.left_eq
      have HMS := Lib.hid hmeas
      clear hkey hlk hv hat hgr3 hs3 e hx hxs hrng hib hF3 hrf P3 hrg3 hrg hmeas
      unfold verV at hen ⊢
      cases hbad : badB a x
      · have hkeep : FLoop pb po R s g a am r s.vs.length w (fun z => left z && !z.sameKey (kI x.id)) cnt3 D' g' w3 := by
          have e1 := gonS_keep (left := left) HP.out.ids.nod HXS.out HLK.out hbad
          refine ⟨by rw [e1]; exact HP3.out, HRG3.out, by rw [e1]; exact HL.out.mp, HL.out.am, fun q hq => HL.out.sub q (by rw [Bool.and_eq_true] at hq; exact hq.1), HL.out.fr.next HF3.out (fun j hj e => by omega), HL.out.ft⟩
        have hkeep2 : ∀ W, Below w3.heap.size w3 W → FLoop pb po R s g a am r s.vs.length w (fun z => left z && !z.sameKey (kI x.id)) cnt3 D' g' W := fun W hB =>
          ⟨hkeep.at'.below hB, ranges_frame hkeep.rg (Fr.new (F := fun _ => False) hB) (fun e => e) (fun e => e), hkeep.mp, hkeep.am, hkeep.sub, hkeep.fr.trans (Fr.new hB), hkeep.ft⟩
        have HKP := Lib.hid hkeep2
        clear hkeep hkeep2
        by_cases q1 : 0 < x.en
        · have q2 : decide (x.en ≤ a) = false := by
            unfold badB at hbad
            simpa [q1] using hbad
          clear hbad
          go_wp2_with fail
          go_roundw
          case rel => exact ⟨_, cnt3, D', g', HKP.out _ ((Below.refl _ _).alloc (Nat.le_refl _) _), by simp; omega⟩
          case measure =>
            have := (HKP.out _ ((Below.refl _ w3).alloc (Nat.le_refl _) (.cells #[.int .i64 x.key.kind, .int .i64 x.key.a, .string x.key.word, .int .i64 x.key.b, .string x.val, .int .i64 x.bg, .int .i64 x.en] 92))).rg.left_eq
            rw [this, HMS.out]; exact hlt3
        · have q2 : decide (0 < x.en) = false := by simpa using q1
          clear hbad q1
          go_wp2_with fail
          go_roundw
          case rel => exact ⟨_, cnt3, D', g', HKP.out _ ((Below.refl _ _).alloc (Nat.le_refl _) _), by simp; omega⟩
          case measure =>
            have := (HKP.out _ ((Below.refl _ w3).alloc (Nat.le_refl _) (.cells #[.int .i64 x.key.kind, .int .i64 x.key.a, .string x.key.word, .int .i64 x.key.b, .string x.val, .int .i64 x.bg, .int .i64 x.en] 92))).rg.left_eq
            rw [this, HMS.out]; exact hlt3
      · have q1 : 0 < x.en := by unfold badB at hbad; simp at hbad; exact hbad.1
        have q2 : x.en ≤ a := by unfold badB at hbad; simp at hbad; exact hbad.2
        have HBAD := Lib.hid hbad
        have hkb := HP.out.ids.key x HXS.out
        obtain ⟨y, hy⟩ : ∃ y, treeFor g'.ts x.key = some y := by
          cases hy : treeFor g'.ts x.key with
          | some y => exact ⟨y, rfl⟩
          | none =>
            obtain ⟨z, hz, e⟩ := HP3.out.all x HX.out
            exact absurd e (treeFor_none hy z hz)
        obtain ⟨hym, hyk⟩ := treeFor_some hy
        obtain ⟨W4, hW4⟩ : ∃ W4, W4 = w3.alloc (.cells #[.int .i64 x.key.kind, .int .i64 x.key.a, .string x.key.word, .int .i64 x.key.b, .string x.val, .int .i64 x.bg, .int .i64 x.en] 92) := ⟨_, rfl⟩
        have hB4 : Below w3.heap.size w3 W4 := by rw [hW4]; exact (Below.refl _ _).alloc (Nat.le_refl _) _
        have hs4 : W4.heap.size = w3.heap.size + 1 := by rw [hW4]; simp
        have hvc : W4.heap[w3.heap.size]? = some (.cells #[.int .i64 x.key.kind, .int .i64 x.key.a, .string x.key.word, .int .i64 x.key.b, .string x.val, .int .i64 x.bg, .int .i64 x.en] 92 (0, 0)) := by rw [hW4]; exact block_alloc_new w3 _
        have P4 := HP3.out.below hB4
        have P4d := P4.below (Below.refl _ W4).drew
        have hlk : (Instr.lookup 25 (.map g'.tm) (.agg #[.int .i64 x.key.kind, .int .i64 x.key.a, .string x.key.word, .int .i64 x.key.b]) false).run Tryz.prog W4.drew = .ok (.pointer (some ⟨y.tb, 0, none⟩)) W4.drew := by
          have := tree_look P4d.trees P4d.keyOk hkb
          rw [trPtr_some hy] at this
          exact this
        have hT4 : TreeAt W4.drew y.tb ((x.fr, x.id, x.to) :: itemsK (dropV (gonS s a left) x.id).vs x.key) y.t y.mb := by
          have := P4d.tree y hym
          rw [hyk] at this
          exact this.perm' (items_drop HP3.out.ids.nod HX.out)
        have hilen : ((itemsK (gonS s a left).vs x.key).length : Int) ≤ s.next := items_len HP3.out.ids x.key
        have hil2 : ((itemsK (dropV (gonS s a left) x.id).vs x.key).length : Int) < s.next := by
          have := (items_drop HP3.out.ids.nod HX.out).length_eq
          rw [List.length_cons] at this
          omega
        obtain ⟨_, _, _, _, c4⟩ := past_cells P4.len P4.cells
        have v0 := block_cell hvc 0
        have v1 := block_cell hvc 1
        have v2 := block_cell hvc 2
        have v3 := block_cell hvc 3
        have v6 := block_cell hvc 6
        simp only [List.getElem?_toArray, List.getElem?_cons_zero, List.getElem?_cons_succ] at v0 v1 v2 v3 v6
        have hsl : w3.heap.size < W4.heap.size := by omega
        have hrg4 := ranges_frame HRG3.out (Fr.new (F := fun _ => False) hB4) (fun e => e) (fun e => e)
        have hF4 : Fr (g.foot pb) w W4.drew := ((HL.out.fr.next HF3.out (fun j hj e => by omega)).trans (Fr.new hB4)).drew
        have HRG4 := Lib.hid hrg4
        have HF4 := Lib.hid hF4
        have HP4 := Lib.hid P4d
        have HT4 := Lib.hid hT4
        have HW4 := Lib.hid hW4
        have HYM := Lib.hid hym
        have HYK := Lib.hid hyk
        clear hbad hkb hy hym hyk hW4 hB4 hs4 hvc P4 P4d hT4 hilen hrg4 hF4
        go_wp2_with fail
        rw [← HW4.out]
        refine wp_region_tail 8 (by kernel_rfl) (by kernel_rfl) ?_
        simp only [List.take_succ_cons, List.take_zero, List.drop_succ_cons, List.drop_zero]
        repeat still_step
        refine wpStill_nil ?_
        go_wp2_with fail
        refine (tdrop_ok x.id x.fr x.to HIB.out W4.drew y.tb (itemsK (dropV (gonS s a left) x.id).vs x.key) y.t y.mb HT4.out (by omega)).mono ?_
        rintro e w5 ⟨t5, m5, rfl, T5, F5, G5⟩
        have F5' : Fr y.foot W4.drew w5 := F5
        have hyf : ∀ j, y.foot j → g'.foot pb j := fun j hj => .inr (.inr (.inr ⟨y, HYM.out, hj⟩))
        have hyr : ¬ y.foot r := fun e => by have := HRF.out r (hyf r e); omega
        have hya : ¬ y.foot am := fun e => (HP4.out.ne y HYM.out am e).2.1 HL.out.am
        have hc5 := F5'.keeps HP4.out.cells (fun e => (HP4.out.ne y HYM.out pb e).1 rfl)
        have hrg5 := ranges_frame HRG4.out ((Fr.drew (Fr.refl _ W4)).trans F5') hya hyr
        obtain ⟨_, _, _, c3, _⟩ := past_cells HP4.out.len hc5
        rw [HL.out.am] at c3
        have HT5 := Lib.hid T5
        have HF5 := Lib.hid F5'
        have HG5 := Lib.hid G5
        clear T5 F5 F5' G5 hyf hyr hya hc5 c4 v0 v1 v2 v3 v6 hlk
        go_wp2_with (at_delete; refine wpList_delete_ranges _ rfl _ _ 24 3 rfl 92 intLaw Tryz.underlying24 verR am r s.vs.length D' (fun z => left z && !z.sameKey (kI x.id)) cnt3 rfl hrg5 _ _ rfl (keyOf_int_mk Tryz.underlying3 (wfI HIB.out)) ?_; intro w6 cnt6 hrg6 hle6 hturn6)
        have hrg7 : w6.ranges Tryz.prog 3 verR am r s.vs.length (D'.del (kI x.id)) (fun z => left z && !z.sameKey (kI x.id)) cnt6 := by
          have := hrg6
          rw [show (Lit.int IntKind.i64 x.id) = kI x.id from rfl, Maps.strike_twice left (kI x.id)] at this
          exact this
        have F6 : Fr (· = am) w5 w6 := Fr.ofGrown hturn6.grown
        obtain ⟨g6, P6, a6, t6, F6', ft6, K6⟩ := past_drop (n := s.vs.length) HP4.out HL.out.am HYM.out HYK.out HX.out HT5.out HF5.out HG5.out HL.out.mp hrg7.owns F6
        have hnew : FLoop pb po R s g a am r s.vs.length w (fun z => left z && !z.sameKey (kI x.id)) cnt6 (D'.del (kI x.id)) g6 w6 :=
          floop_drop HL.out HP.out.ids.nod HXS.out HBAD.out HLK.out P6 (a6.trans HL.out.am) (HF4.out.trans (F6'.mono (fun j _ hj => HL.out.ft j hj))) ft6 hrg7
        have hs6 := F6'.size
        have hsl6 : r < w6.heap.size := by have : W4.drew.heap.size = W4.heap.size := rfl; omega
        refine ⟨?_, by rw [hnew.rg.left_eq, HMS.out]; omega⟩
        repeat apply Exists.intro
        exact ⟨⟨_, cnt6, _, g6, hnew, hsl6⟩, rfl⟩
theorem pforget_ok (a : Int) (pb po : Nat) (R : Rest) (s : Pst) (g : Gh) (w : World) (h : PastAt w pb po R s g) (hn : s.next ≤ 4000) (hb : forgE s a = 0) :
    Calls Tryz.prog 19 #[.pointer (some ⟨pb, po, none⟩), .int .i64 a] w (PDone .nilIface pb po R (forgetP a s) g w) := by
  have hx : 0 ≤ a ∧ a ≤ s.now ∧ s.gone ≤ a := by
    unfold forgE at hb
    split at hb
    · cases hb
    · split at hb
      · cases hb
      · omega
  cases ham : g.am with
  | none => exact pforget_none a pb po R s g w h ham hx.1 hx.2.1 hx.2.2
  | some am => exact pforget_some a pb po R s g am w h ham hx.1 hx.2.1 hx.2.2 hn
end Go.Proofs.YtacedfcckkpciaaGreatDoor

namespace Go.Proofs.YtacedfcckkpciaaGreatDoor
open Go.RowKit Go.Deep Go.Shelf Go.Sort Go.Maps

/-- In memory: a past of that history. -/
structure PastIs (w : World) (pb po : Nat) (R : Rest) (hist : List (List OpP)) (s : Pst) (g : Gh) : Prop where
  at' : PastAt w pb po R s g
  wf : Wf s
  told : Told hist s
  next : s.next ≤ 24 * s.now
  len : hist.length ≤ 150
theorem PastIs.now {w : World} {pb po : Nat} {R : Rest} {hist : List (List OpP)} {s : Pst} {g : Gh} (h : PastIs w pb po R hist s g) : s.now = hist.length := h.told.now
theorem PastIs.nx {w : World} {pb po : Nat} {R : Rest} {hist : List (List OpP)} {s : Pst} {g : Gh} (h : PastIs w pb po R hist s g) : s.next ≤ 3600 := by
  have h1 := h.next; have h2 := h.now; have h3 := h.len; omega
theorem PastIs.below {w w' : World} {pb po : Nat} {R : Rest} {hist : List (List OpP)} {s : Pst} {g : Gh} (h : PastIs w pb po R hist s g) (hb : Below w.heap.size w w') : PastIs w' pb po R hist s g := ⟨h.at'.below hb, h.wf, h.told, h.next, h.len⟩
theorem PastIs.frame {F : Nat → Prop} {w w' : World} {pb po : Nat} {R : Rest} {hist : List (List OpP)} {s : Pst} {g : Gh} (h : PastIs w pb po R hist s g) (hf : Fr F w w') (hn : ∀ k, g.foot pb k → ¬ F k) : PastIs w' pb po R hist s g := ⟨h.at'.frame hf hn, h.wf, h.told, h.next, h.len⟩
theorem wf0 : Wf ⟨0, 0, 0, []⟩ := ⟨List.nodup_nil, (fun _ h => by cases h), (fun _ h => by cases h), (fun _ h => by cases h), (fun _ h => by cases h), (fun _ h => by cases h), (fun _ h => by cases h), Int.le_refl _, Int.le_refl _, Int.le_refl _⟩
theorem told0 : Told [] ⟨0, 0, 0, []⟩ := ⟨rfl, Int.le_refl _, Int.le_refl _, fun k n t x _ hn => by
  constructor
  · rintro ⟨v, hv, _⟩; cases hv
  · rintro ⟨h1, h2⟩
    simp [saidH, saidL] at h2
    rw [← h2] at h1
    exact absurd rfl h1⟩
theorem past_is_new {w : World} {pb po : Nat} {R : Rest} (hl : R.pre.length = po) (h : w.heap[pb]? = some (.cells (pcells R 0 0 0 none none) R.ty (0, 0))) : PastIs w pb po R [] ⟨0, 0, 0, []⟩ noGh :=
  ⟨past_new hl h, wf0, told0, by decide, by decide⟩
theorem foot_new {pb k : Nat} (h : noGh.foot pb k) : k = pb := by
  rcases h with h | h | h | ⟨x, hx, _⟩
  · exact h
  · cases h
  · cases h
  · cases hx

def CommitIs (pb po : Nat) (R : Rest) (hist : List (List OpP)) (s : Pst) (g : Gh) (l : List OpP) (w : World) (e : Ending) (w' : World) : Prop :=
  ∃ s' g', e = .returned .nilIface ∧ PastIs w' pb po R (hist ++ [l]) s' g' ∧ s'.gone = s.gone ∧ Fr (g.foot pb) w w' ∧ Grows g g' pb w
theorem commit_is (ao : Option Addr) (c : Nat) (l : List OpP) (pb po : Nat) (R : Rest) (hist : List (List OpP)) (s : Pst) (g : Gh) (w : World) (h : PastIs w pb po R hist s g) (hl : opsAt w ao l) (hsep : SepOps ao g pb) (hg : PowTab w) (hok : okL l = true) (hn : hist.length < 150) :
    Calls Tryz.prog 11 #[.pointer (some ⟨pb, po, none⟩), .slice ao l.length c] w (CommitIs pb po R hist s g l w) := by
  have hnow := h.now
  have h1 := h.next
  refine (pcommit_ok ao c l pb po R s g w h.at' h.wf hl hsep hg hok (by omega) (by omega)).mono ?_
  rintro e w' ⟨g', rfl, P, F, G⟩
  obtain ⟨c1, c2, c3, c4, c5⟩ := commit_ok h.wf h.told (okL_iff.1 hok).2
  have hl8 := (okL_iff.1 hok).1.2
  exact ⟨_, g', rfl, ⟨P, c1, c2, by rw [c4]; omega, by rw [List.length_append]; simp; omega⟩, c5, F, G⟩
theorem value_is (k : KeyP) (n : Nat) (t : Int) (pb po : Nat) (R : Rest) (hist : List (List OpP)) (s : Pst) (g : Gh) (w : World) (h : PastIs w pb po R hist s g) (hk : keyB k = true) (ht : timeB t = true) (h1 : s.gone ≤ n) (h2 : n ≤ hist.length) :
    Calls Tryz.prog 9 #[.pointer (some ⟨pb, po, none⟩), .agg #[.int .i64 k.kind, .int .i64 k.a, .string k.word, .int .i64 k.b], .int .i64 (n : Nat), .int .i64 t] w fun e w' => e = .returned (.tuple #[.string (saidH hist k n t), .nilIface]) ∧ Below w.heap.size w w' := by
  have ha : askE s n = 0 := by unfold askE; rw [if_neg (by have := h.now; omega), if_neg (by omega)]
  have := pvalue_any k n t pb po R s g w h.at' (by have := (wfkey hk).2; unfold maxLen; omega) (by have := h.nx; omega)
  rw [valV_ok ha hk ht, value_told h.wf h.told ht h1 h2] at this
  exact this
/-- A piece of a past. -/
def pcB (p : Pc) : Bool := rightB p.fr p.to && wordB p.val
theorem pieces_pcB {s : Pst} (h : Wf s) {k : KeyP} {a : Int} {L : List Pc} (hp : L.Perm (piecesU s.vs k a)) (hs : L.Pairwise fun p q => p.fr ≤ q.fr) : ∀ p ∈ joinP L, pcB p = true := by
  have hr : Rows L := rows_of (fun p hp => (piecesU_good h hp).1) (piecesU_apart h k a) hp hs
  obtain ⟨c1, c2⟩ := join_spec hr
  intro p hpm
  have hg := (c1.good p hpm).1
  obtain ⟨q, hq, q1, q2⟩ := (c2 p.fr p.val).1 ⟨p, hpm, ⟨Int.le_refl _, hg⟩, rfl⟩
  obtain ⟨q', hq', q1', q2'⟩ := (c2 (p.to - 1) p.val).1 ⟨p, hpm, ⟨by omega, by omega⟩, rfl⟩
  obtain ⟨_, r1, r2⟩ := piecesU_good h (hp.mem_iff.1 hq)
  obtain ⟨_, r1', _⟩ := piecesU_good h (hp.mem_iff.1 hq')
  have b1 := rightB_bounds r1
  have b2 := rightB_bounds r1'
  have b3 := q1.1
  have b4 := q1'.2
  unfold pcB rightB
  rw [← q2, r2]
  simp; omega
def PiecesIs (hist : List (List OpP)) (k : KeyP) (n : Nat) (w : World) (e : Ending) (w' : World) : Prop :=
  ∃ (v : Value) (L : List Pc), e = .returned (.tuple #[v, .nilIface]) ∧ PiecesOf hist k n L ∧ (∀ p ∈ L, pcB p = true) ∧ L.length ≤ 3600 ∧ w'.ownsRow w.heap.size 52 3 v L.length (flatP L) ∧ Below w.heap.size w w'
theorem pieces_is (k : KeyP) (n : Nat) (pb po : Nat) (R : Rest) (hist : List (List OpP)) (s : Pst) (g : Gh) (w : World) (h : PastIs w pb po R hist s g) (hk : keyB k = true) (h1 : s.gone ≤ n) (h2 : n ≤ hist.length) :
    Calls Tryz.prog 13 #[.pointer (some ⟨pb, po, none⟩), .agg #[.int .i64 k.kind, .int .i64 k.a, .string k.word, .int .i64 k.b], .int .i64 (n : Nat)] w (PiecesIs hist k n w) := by
  have ha : askE s n = 0 := by unfold askE; rw [if_neg (by have := h.now; omega), if_neg (by omega)]
  have hnx := h.nx
  refine (pPieces_ok k n pb po R s g w h.at' h.wf ha hk (by omega)).mono ?_
  rintro e w' ⟨v, L, rfl, hp, hs, hown, hb⟩
  refine ⟨v, joinP L, rfl, pieces_told h.wf h.told h1 h2 hp hs, pieces_pcB h.wf hp hs, ?_, hown, hb⟩
  have e1 := joinP_length L
  have e2 := hp.length_eq
  have e3 := piecesU_length h.wf k n
  have e4 := h.at'.ids.len
  omega
theorem pieces_gone (k : KeyP) (n : Nat) (pb po : Nat) (R : Rest) (hist : List (List OpP)) (s : Pst) (g : Gh) (w : World) (h : PastIs w pb po R hist s g) (hk : keyB k = true) (h1 : (n : Int) < s.gone) (h2 : n ≤ hist.length) :
    Calls Tryz.prog 13 #[.pointer (some ⟨pb, po, none⟩), .agg #[.int .i64 k.kind, .int .i64 k.a, .string k.word, .int .i64 k.b], .int .i64 (n : Nat)] w fun e w' => e = .returned (.tuple #[.slice none 0 0, errV 7]) ∧ Below w.heap.size w w' := by
  have ha : askE s n = 7 := by unfold askE; rw [if_neg (by have := h.now; omega), if_pos h1]
  have e : pieE s k n = 7 := by unfold pieE; rw [ha]; rfl
  have := pPieces_bad k n pb po R s g w h.at' (by have := (wfkey hk).2; unfold maxLen; omega) (by rw [e]; decide)
  rw [e] at this
  exact this
def KeysOut (hist : List (List OpP)) (n : Nat) (t : Int) (w : World) (e : Ending) (w' : World) : Prop :=
  ∃ (v : Value) (L : List KeyP), e = .returned (.tuple #[v, .nilIface]) ∧ KeysIs hist n t L ∧ (∀ k ∈ L, keyB k = true) ∧ L.length ≤ 3600 ∧ w'.ownsRow w.heap.size 29 4 v L.length (flatKeys L) ∧ Below w.heap.size w w'
/-- Of a key that may not be nothing was said. -/
theorem said_key {hist : List (List OpP)} (hok : ∀ l ∈ hist, l.all opB = true) {k : KeyP} {n : Nat} {t : Int} (h : (saidH hist k n t).size ≠ 0) : keyB k = true := by
  have : ∀ (l : List OpP) (x : ByteArray), l.all opB = true → (saidL l k t x).size ≠ 0 → keyB k = true ∨ x.size ≠ 0 := fun l => by
    induction l with
    | nil => intro x _ h; exact .inr h
    | cons o l ih =>
      intro x ha h
      simp only [List.all_cons, Bool.and_eq_true] at ha
      unfold saidL at h
      rw [List.foldl_cons] at h
      rcases ih _ ha.2 h with h1 | h1
      · exact .inl h1
      · split at h1
        · rename_i hk
          exact .inl (by rw [hk.1]; exact op_key ha.1)
        · exact .inr h1
  unfold saidH at h
  rcases this _ _ (List.all_eq_true.2 fun o ho => by
    obtain ⟨l, hl, ho⟩ := List.mem_flatten.1 ho
    exact List.all_eq_true.1 (hok l (List.mem_of_mem_take hl)) o ho) h with h1 | h1
  · exact h1
  · exact absurd rfl h1
theorem keys_is (n : Nat) (t : Int) (pb po : Nat) (R : Rest) (hist : List (List OpP)) (s : Pst) (g : Gh) (w : World) (h : PastIs w pb po R hist s g) (hok : ∀ l ∈ hist, l.all opB = true) (ht : timeB t = true) (h1 : s.gone ≤ n) (h2 : n ≤ hist.length) :
    Calls Tryz.prog 21 #[.pointer (some ⟨pb, po, none⟩), .int .i64 (n : Nat), .int .i64 t] w (KeysOut hist n t w) := by
  have ha : askE s n = 0 := by unfold askE; rw [if_neg (by have := h.now; omega), if_neg (by omega)]
  have hnx := h.nx
  refine (pkeys_ok n t pb po R s g w h.at' ha ht (by omega)).mono ?_
  rintro e w' ⟨v, L, rfl, hp, hm, hown, hll, hb⟩
  refine ⟨v, L, rfl, ⟨hp, fun k => ?_⟩, fun k hk => ((hm k).1 hk).1, by omega, hown, hb⟩
  rw [hm, value_told h.wf h.told ht h1 h2]
  exact ⟨fun h => h.2, fun h => ⟨said_key hok h, h⟩⟩
def ForgetIs (pb po : Nat) (R : Rest) (hist : List (List OpP)) (a : Int) (g : Gh) (w : World) (e : Ending) (w' : World) : Prop :=
  ∃ s' g', e = .returned .nilIface ∧ PastIs w' pb po R hist s' g' ∧ s'.gone = a ∧ Fr (g.foot pb) w w' ∧ Grows g g' pb w
theorem forget_is (a : Int) (pb po : Nat) (R : Rest) (hist : List (List OpP)) (s : Pst) (g : Gh) (w : World) (h : PastIs w pb po R hist s g) (h1 : s.gone ≤ a) (h2 : a ≤ s.now) :
    Calls Tryz.prog 19 #[.pointer (some ⟨pb, po, none⟩), .int .i64 a] w (ForgetIs pb po R hist a g w) := by
  have hg := h.told.gone0
  have hnx := h.nx
  refine (pforget_ok a pb po R s g w h.at' (by omega) (by unfold forgE; rw [if_neg (by omega), if_neg (by omega)])).mono ?_
  rintro e w' ⟨g', rfl, P, F, G⟩
  obtain ⟨f1, f2⟩ := forget_ok h.wf h.told h1 h2
  exact ⟨_, g', rfl, ⟨P, f1, f2, h.next, h.len⟩, rfl, F, G⟩
def EverOut (hist : List (List OpP)) (k : KeyP) (n m : Nat) (f t : Int) (w : World) (e : Ending) (w' : World) : Prop :=
  ∃ (v : Value) (S : List ByteArray), e = .returned (.tuple #[v, .nilIface]) ∧ EversIs hist k n m f t S ∧ w'.ownsRow w.heap.size 9 1 v S.length (S.map Value.string) ∧ Below w.heap.size w w'
theorem ever_is (k : KeyP) (n m : Nat) (f t : Int) (pb po : Nat) (R : Rest) (hist : List (List OpP)) (s : Pst) (g : Gh) (w : World) (h : PastIs w pb po R hist s g) (hk : keyB k = true) (hr : rightB f t = true) (h1 : s.gone ≤ n) (hnm : n ≤ m) (h2 : m ≤ hist.length) :
    Calls Tryz.prog 15 #[.pointer (some ⟨pb, po, none⟩), .agg #[.int .i64 k.kind, .int .i64 k.a, .string k.word, .int .i64 k.b], .int .i64 (n : Nat), .int .i64 (m : Nat), .agg #[.int .i64 f, .int .i64 t]] w (EverOut hist k n m f t w) := by
  have ha : askE s n = 0 := by unfold askE; rw [if_neg (by have := h.now; omega), if_neg (by omega)]
  have hb : askE s m = 0 := by unfold askE; rw [if_neg (by have := h.now; omega), if_neg (by omega)]
  have hnx := h.nx
  refine (pever_ok k n m f t pb po R s g w h.at' h.wf ha hb (by omega) hk hr (by omega)).mono ?_
  rintro e w' ⟨v, S, rfl, hp, hm, hown, hbl⟩
  exact ⟨v, S, rfl, ⟨hp, fun x => by rw [hm, ever_told h.wf h.told h1 hnm h2 hr]⟩, hown, hbl⟩
end Go.Proofs.YtacedfcckkpciaaGreatDoor
