/- Of which keys anything was said (Keys). -/
import Derived.LoopTactic
import Derived.Maps.RangeWalk
import Derived.Laws.IdiomRangeMap
import Derived.Test.YtflhpmgjehjjkaaGreatDoorFcKJo
import Derived.Test.YtflhpmgjehjjkaaGreatDoorFactMJo
import Derived.Test.YtflhpmgjehjjkaaGreatDoorSortKJo
import Derived.Test.YtflhpmgjehjjkaaGreatDoorBesideJo
import Derived.Test.YtflhpmgjehjjkaaGreatDoorPwEJo
import Derived.Test.YtflhpmgjehjjkaaGreatDoorPwIJo
namespace Go.Proofs.YtflhpmgjehjjkaaGreatDoor
open Go.RowKit Go.Shelf Go.Sort

set_option maxHeartbeats 1000000 in
theorem fcmp_lays (k a b k' a' b' : Int) (s s' : ByteArray) (w : World) :
    Calls Tryz.prog 100 #[.agg #[.int .i64 k, .int .i64 a, .string s, .int .i64 b], .agg #[.int .i64 k', .int .i64 a', .string s', .int .i64 b']] w fun e w' => e = .returned (.int .i64 (keyCmp ⟨k, a, s, b⟩ ⟨k', a', s', b'⟩)) ∧ Lays w w' := by
  have i1 := fun w => (cmpArr k k' a a' w).1
  have i2 := fun w => (cmpArr k k' a a' w).2
  have b2 : Lays w ((w.alloc (.cells #[.int .i64 k, .int .i64 a, .string s, .int .i64 b] 44)).alloc (.cells #[.int .i64 k', .int .i64 a', .string s', .int .i64 b'] 44)) := ((Lays.refl w).alloc _).alloc _
  have b3 : Lays w (((w.alloc (.cells #[.int .i64 k, .int .i64 a, .string s, .int .i64 b] 44)).alloc (.cells #[.int .i64 k', .int .i64 a', .string s', .int .i64 b'] 44)).alloc (.cells #[.int .i64 k, .int .i64 k'] 45)) := b2.alloc _
  have b4 : Lays w ((((w.alloc (.cells #[.int .i64 k, .int .i64 a, .string s, .int .i64 b] 44)).alloc (.cells #[.int .i64 k', .int .i64 a', .string s', .int .i64 b'] 44)).alloc (.cells #[.int .i64 k, .int .i64 k'] 45)).alloc (.cells #[.int .i64 a, .int .i64 a'] 45)) := b3.alloc _
  by_cases h1 : k = k'
  · subst h1
    by_cases h2 : a = a'
    · subst h2
      by_cases h3 : s = s'
      · subst h3
        by_cases h4 : b = b'
        · subst h4
          have e : keyCmp ⟨k, a, s, b⟩ ⟨k, a, s, b⟩ = 0 := by unfold keyCmp; simp
          rw [e]; clear e
          go_enter Tryz.func100, Tryz.ntmps100
          go_wp2
          refine wp_loop_rounds 3 ?_
          rw [rounds_succ]
          go_wp2
          rw [rounds_succ]
          go_wp2
          rw [rounds_succ]
          go_wp2
          go_ret
          exact ⟨rfl, b4⟩
        · have e : keyCmp ⟨k, a, s, b⟩ ⟨k, a, s, b'⟩ = sgn (decide (b' < b)) := by unfold keyCmp; simp [h4]
          rw [e]; clear e
          have n4 : (b != b') = true := by simpa using h4
          have n5 : ((b : Int) == b') = false := by simpa using h4
          go_enter Tryz.func100, Tryz.ntmps100
          go_wp2
          refine wp_loop_rounds 3 ?_
          rw [rounds_succ]
          go_wp2
          rw [rounds_succ]
          go_wp2
          rw [rounds_succ]
          go_wp2_with (go_at_call 146; refine (sign_any _ _).mono ?_; rintro e w' ⟨rfl, rfl⟩)
          go_ret
          exact ⟨rfl, b4⟩
      · have n3 : (!s.toList == s'.toList) = true := by
          have : ¬ s.toList = s'.toList := fun e => h3 (bytes_ext (by rw [← ByteArray.toList_eq, ← ByteArray.toList_eq]; exact e))
          simpa using this
        have n4 : (s.toList == s'.toList) = false := by simpa using n3
        have e : keyCmp ⟨k, a, s, b⟩ ⟨k, a, s', b'⟩ = sgn (!(Op.bytesLess s.toList s'.toList || (s.toList == s'.toList))) := by
          have h : (!(Op.bytesLess s.toList s'.toList || (s.toList == s'.toList))) = Op.bytesLess s'.data.toList s.data.toList := by
            rw [n4, Bool.or_false, ByteArray.toList_eq, ByteArray.toList_eq]
            rcases bless_tri s.data.toList s'.data.toList with h | h | h
            · rw [h, bless_asymm _ _ h]; rfl
            · exact absurd (bytes_ext h) h3
            · rw [h, bless_asymm _ _ h]; rfl
          rw [h]
          unfold keyCmp; simp [h3]
        rw [e]; clear e
        go_enter Tryz.func100, Tryz.ntmps100
        go_wp2
        refine wp_loop_rounds 3 ?_
        rw [rounds_succ]
        go_wp2
        rw [rounds_succ]
        go_wp2
        rw [rounds_succ]
        go_wp2_with (go_at_call 146; refine (sign_any _ _).mono ?_; rintro e w' ⟨rfl, rfl⟩)
        go_ret
        exact ⟨by rw [n4, Bool.or_false]; rfl, b4⟩
    · have e : keyCmp ⟨k, a, s, b⟩ ⟨k, a', s', b'⟩ = sgn (decide (a' < a)) := by unfold keyCmp; simp [h2]
      rw [e]; clear e
      have n4 : (a != a') = true := by simpa using h2
      go_enter Tryz.func100, Tryz.ntmps100
      go_wp2
      refine wp_loop_rounds 3 ?_
      rw [rounds_succ]
      go_wp2
      rw [rounds_succ]
      go_wp2_with (go_at_call 146; refine (sign_any _ _).mono ?_; rintro e w' ⟨rfl, rfl⟩)
      go_ret
      exact ⟨rfl, b4⟩
  · have e : keyCmp ⟨k, a, s, b⟩ ⟨k', a', s', b'⟩ = sgn (decide (k' < k)) := by unfold keyCmp; simp [h1]
    rw [e]; clear e
    have n4 : (k != k') = true := by simpa using h1
    go_enter Tryz.func100, Tryz.ntmps100
    go_wp2
    refine wp_loop_rounds 3 ?_
    rw [rounds_succ]
    go_wp2_with (go_at_call 146; refine (sign_any _ _).mono ?_; rintro e w' ⟨rfl, rfl⟩)
    go_ret
    exact ⟨rfl, b3⟩

def encK (k : KeyP) : List Value := [.int .i64 k.kind, .int .i64 k.a, .string k.word, .int .i64 k.b]
def flatKeys (l : List KeyP) : List Value := l.flatMap encK
theorem cmpK_lt (x y : KeyP) : ltOf keyCmp x y = keyLess x y := by
  unfold ltOf
  rw [cmp_less]
  cases h : keyLess x y
  · by_cases e : x = y
    · simp [e]
    · simp [e]
  · simp
theorem swoK : SWO (ltOf keyCmp) where
  irrefl x := by rw [cmpK_lt]; exact keyLess_irrefl x
  trans x y z h1 h2 := by rw [cmpK_lt] at *; exact keyLess_trans x y z h1 h2
  ntrans x y z h1 h2 := by
    rw [cmpK_lt] at *
    cases h : keyLess x z with
    | false => rfl
    | true =>
      rcases keyLess_tri x y with h3 | h3 | h3
      · rw [h1] at h3; cases h3
      · subst h3; rw [h2] at h; cases h
      · rw [keyLess_trans y x z h3 h] at h2; cases h2
theorem totK (x y : KeyP) (h1 : ltOf keyCmp x y = false) (h2 : ltOf keyCmp y x = false) : x = y := by
  rw [cmpK_lt] at *
  rcases keyLess_tri x y with h3 | h3 | h3
  · rw [h1] at h3; cases h3
  · exact h3
  · rw [h2] at h3; cases h3
def sortKeys (l : List KeyP) : List KeyP := l.mergeSort fun x y => !(ltOf keyCmp) y x
theorem sortKeys_perm (l : List KeyP) : (sortKeys l).Perm l := List.mergeSort_perm _ _
theorem sortKeys_sorted {l : List KeyP} (hn : l.Nodup) : (sortKeys l).Pairwise fun x y => keyLess x y = true := by
  have h1 := List.pairwise_mergeSort (le := fun x y : KeyP => !(ltOf keyCmp) y x) (fun a b c h1 h2 => by
    rw [cmpK_lt, Bool.not_eq_true'] at *
    cases h : keyLess c a with
    | false => rfl
    | true =>
      rcases keyLess_tri b c with h3 | h3 | h3
      · rw [keyLess_trans b c a h3 h] at h1; cases h1
      · subst h3; rw [h1] at h; cases h
      · rw [h2] at h3; cases h3) (fun a b => by
    rw [cmpK_lt, cmpK_lt]
    cases h : keyLess b a with
    | false => simp
    | true => rw [keyLess_asymm b a h]; rfl) l
  have h2 : (sortKeys l).Nodup := (sortKeys_perm l).nodup_iff.2 hn
  refine (h1.and h2).imp fun {a b} h => ?_
  obtain ⟨h3, h4⟩ := h
  rw [cmpK_lt, Bool.not_eq_true'] at h3
  rcases keyLess_tri a b with h5 | h5 | h5
  · exact h5
  · exact absurd h5 h4
  · rw [h3] at h5; cases h5
theorem sortKeys_own (base : Nat) (v : Value) (l : List KeyP) (w : World) (hown : w.ownsRow base 44 4 v l.length (flatKeys l)) (hb : base ≤ w.heap.size) (hsz : l.length < 4611686018427387904) :
    Calls Tryz.prog 99 #[v, .func (.func 100) #[] #[]] w fun e' w' => e' = .returned (.tuple #[]) ∧ w'.ownsRow base 44 4 v l.length (flatKeys (sortKeys l)) ∧ Below base w w' :=
  sortFunc_own Tryz.sortKey 4 (by decide) Tryz.isAgg44 Tryz.sizeOf44 encK (fun _ => rfl) (fun x v hv => by simp [encK] at hv; rcases hv with rfl | rfl | rfl | rfl <;> rfl) keyCmp swoK totK 100 #[] (enters_of Tryz.func100 (by kernel_rfl) rfl)
    (fun W x y => fcmp_lays x.kind x.a x.b y.kind y.a y.b x.word y.word W) base 44 v l w hown hb hsz
end Go.Proofs.YtflhpmgjehjjkaaGreatDoor

namespace Go.Proofs.YtflhpmgjehjjkaaGreatDoor
open Go.RowKit Go.Deep Go.Shelf Go.Sort Go.Maps



end Go.Proofs.YtflhpmgjehjjkaaGreatDoor

namespace Go.Proofs.YtflhpmgjehjjkaaGreatDoor
open Go.RowKit Go.Deep Go.Shelf Go.Sort Go.Maps



end Go.Proofs.YtflhpmgjehjjkaaGreatDoor

namespace Go.Proofs.YtflhpmgjehjjkaaGreatDoor
open Go.RowKit Go.Deep Go.Shelf Go.Sort Go.Maps

/-- A list of pieces that is read. -/
def PcsAt (w : World) (ao : Option Addr) (l : List Pc) : Prop := ∀ j p, l[j]? = some p → ∃ b, ao = some ⟨b, 0, none⟩ ∧ w.cell? ⟨b, j * 3, none⟩ = some (.int .i64 p.fr) ∧ w.cell? ⟨b, j * 3 + 1, none⟩ = some (.int .i64 p.to) ∧ w.cell? ⟨b, j * 3 + 2, none⟩ = some (.string p.val)
theorem PcsAt.below {w w' : World} {ao : Option Addr} {l : List Pc} (h : PcsAt w ao l) (hb : Below w.heap.size w w') : PcsAt w' ao l := fun j p hp => by
  obtain ⟨b, h1, h2, h3, h4⟩ := h j p hp
  have hl := World.block_lt_of_cell? w _ h2
  exact ⟨b, h1, below_cell hb hl h2, below_cell hb hl h3, below_cell hb hl h4⟩


end Go.Proofs.YtflhpmgjehjjkaaGreatDoor

namespace Go.Proofs.YtflhpmgjehjjkaaGreatDoor
open Go.RowKit Go.Deep Go.Shelf Go.Sort Go.Maps

theorem ranges_frame {P : Program} {k : TypeId} {R : Value → Option (DataW Unit × List MemPlace)} {F : Nat → Prop} {w w' : World} {b r n : Nat} {D : DataW Unit} {left : Lit → Bool} {cnt : Nat} (h : w.ranges P k R b r n D left cnt) (hf : Fr F w w') (hb : ¬ F b) (hr : ¬ F r) : w'.ranges P k R b r n D left cnt := by
  obtain ⟨es, clock, since, seen, c0, hb', F', hs, hD, hr', rest⟩ := h
  exact ⟨es, clock, since, seen, c0, hf.keeps hb' hb, F', hs, hD, hf.keeps hr' hr, rest⟩
/-- The step of a loop over a map, whatever its keys and elements. -/
theorem wpList_next_raw {P : Program} (w : World) {ops : Array Oper} {rest : List Oper} {o : Oper} {a : Act} {Q : Exit → Act → World → Prop} (hg : o.guard = none) (it : Operand) (hop : o.op = Op.next it false) (k : TypeId) (K : Keyed P k) (R : Value → Option (DataW Unit × List MemPlace)) (b r n : Nat) (D : DataW Unit) (left : Lit → Bool) (cnt : Nat)
    (hit : a.eval it = .pointer (some ⟨r, 0, none⟩)) (h : w.ranges P k R b r n D left cnt)
    (hDone : cnt = 0 → (∀ kl, left kl = false) → wpList P ops Q rest (a.put o.dst (.tuple #[.bool false])) w)
    (hMore : ∀ (key v : Value) (kl : Lit) (y : DataW Unit × List MemPlace) (w' : World) (cnt' : Nat), keyOf P k key = some kl → left kl = true → R v = some y → (∀ zd, D.atKey kl zd = y.1) → w'.ranges P k R b r n D (fun z => left z && !z.sameKey kl) cnt' → cnt' < cnt →
      w.grownBy w' (some r) → w'.heap.size = w.heap.size → (Instr.entry (.pointer (some ⟨r, 0, none⟩))).run P w' = .ok (.tuple #[key, v]) w' → wpList P ops Q rest (a.put o.dst (.tuple #[.bool true, key, v])) w') :
    wpList P ops Q (o :: rest) a w := by
  refine wpList_plain hg fun K' hK' => ?_
  unfold Oper.wp
  rcases h.next K o.type with ⟨h0, hl, hrun⟩ | ⟨key, v, kl, y, w', cnt', hkey, hlk, hv, hat, hrun, hrg, hlt, hgr, hsz, hen⟩
  · simp [execOp, hop, hit, hrun, Result.andThen]
    exact hK' _ _ (hDone h0 hl)
  · simp [execOp, hop, hit, hrun, Result.andThen]
    exact hK' _ _ (hMore key v kl y w' cnt' hkey hlk hv hat hrg hlt hgr hsz hen)

theorem infoKey : (Tryz.prog.info? 44).map (fun i => (i.zero, i.size, i.bytes)) = some (some (.agg #[.int .i64 0, .int .i64 0, .string ⟨#[]⟩, .int .i64 0]), 4, 40) := by kernel_rfl
theorem flatKeys_append (l m : List KeyP) : flatKeys (l ++ m) = flatKeys l ++ flatKeys m := by simp [flatKeys]
theorem flatKeys_length (l : List KeyP) : (flatKeys l).length = l.length * 4 := by
  induction l with
  | nil => rfl
  | cons p l ih => simp only [flatKeys, List.flatMap_cons, List.length_append] at *; rw [ih]; simp [encK]; omega
/-- One key more. -/
theorem appKey {W : World} {ops : Array Oper} {rest : List Oper} {o : Oper} {a : Act} {Q : Exit → Act → World → Prop} (hgd : o.guard = none) (s x : Operand)
    (ho : o.op = .call { callee := .builtin .append, args := #[s, x], argTypes := #[41, 41] }) (base : Nat) (v : Value) (l : List KeyP) (hs : a.eval s = v) (hown : W.ownsRow base 44 4 v l.length (flatKeys l))
    (b : Nat) (p : KeyP) (hx : a.eval x = .slice (some ⟨b, 0, none⟩) 1 1) (hc0 : W.cell? ⟨b, 0, none⟩ = some (.int .i64 p.kind)) (hc1 : W.cell? ⟨b, 1, none⟩ = some (.int .i64 p.a)) (hc2 : W.cell? ⟨b, 2, none⟩ = some (.string p.word)) (hc3 : W.cell? ⟨b, 3, none⟩ = some (.int .i64 p.b))
    (hbytes : (l.length + 1) * 40 ≤ 140737488355328) (hbase : base ≤ W.heap.size) (w0 : World) (hB : Below base w0 W)
    (h : ∀ v' w', w'.ownsRow base 44 4 v' (l ++ [p]).length (flatKeys (l ++ [p])) → Below base w0 w' → W.heap.size ≤ w'.heap.size → W.grownBy w' v.ownBlock → wpList Tryz.prog ops Q rest (a.put o.dst v') w') : wpList Tryz.prog ops Q (o :: rest) a W := by
  refine app1 hgd s x _ ho base 44 Tryz.underlying41 infoKey rfl (by decide) (by decide) v l.length (flatKeys l) hs hown b (encK p) hx rfl (fun u hu => ?_) (fun j u hu => ?_) hbytes hbase w0 hB fun v' w' h2 h3 h4 h5 h6 => h v' w' ?_ h3 h4 h6
  · simp [encK] at hu; rcases hu with rfl | rfl | rfl | rfl <;> rfl
  · match j, hu with
    | 0, hu => simp [encK] at hu; subst hu; exact hc0
    | 1, hu => simp [encK] at hu; subst hu; exact hc1
    | 2, hu => simp [encK] at hu; subst hu; exact hc2
    | 3, hu => simp [encK] at hu; subst hu; exact hc3
  · rw [flatKeys_append, List.length_append]
    have e : flatKeys [p] = encK p := by simp [flatKeys]
    rw [e]; exact h2

/-! ### Who has come -/
structure KL (ts : List Tr) (p : KeyP → Prop) (left : Lit → Bool) (U : List KeyP) : Prop where
  nod : U.Nodup
  mem : ∀ k, k ∈ U ↔ (∃ x ∈ ts, x.key = k ∧ left (kK k) = false) ∧ p k
theorem kK_same {x y : KeyP} (hx : keyB x = true) (hy : keyB y = true) : (kK x).sameKey (kK y) = decide (x = y) := by
  rw [Bool.eq_iff_iff]
  simp only [decide_eq_true_eq]
  constructor
  · intro h; exact kK_inj hx hy (WideAt.sameKey_eq h)
  · intro h; subst h; exact WideAt.sameKey_self (kK_key _)
theorem KL.start {ts : List Tr} {p : KeyP → Prop} {left : Lit → Bool} (h : ∀ x ∈ ts, left (kK x.key) = true) : KL ts p left [] :=
  ⟨List.nodup_nil, fun k => ⟨(fun h => by cases h), (fun ⟨⟨x, hx, e, hl⟩, _⟩ => by subst e; rw [h x hx] at hl; cases hl)⟩⟩
theorem KL.old {ts : List Tr} {p : KeyP → Prop} {left : Lit → Bool} {U : List KeyP} (h : KL ts p left U) {x : Tr} (_hx : x ∈ ts) (hl : left (kK x.key) = true) : x.key ∉ U := fun hm => by
  obtain ⟨⟨y, _, _, hy⟩, _⟩ := (h.mem _).1 hm
  rw [hl] at hy; cases hy
theorem left_step {ts : List Tr} (hk : ∀ x ∈ ts, keyB x.key = true) {left : Lit → Bool} {x y : Tr} (hx : x ∈ ts) (hy : y ∈ ts) : (left (kK y.key) && !(kK y.key).sameKey (kK x.key)) = false ↔ left (kK y.key) = false ∨ y.key = x.key := by
  rw [kK_same (hk y hy) (hk x hx)]
  cases left (kK y.key) <;> simp
theorem KL.yes {ts : List Tr} (hk : ∀ x ∈ ts, keyB x.key = true) {p : KeyP → Prop} {left : Lit → Bool} {U : List KeyP} (h : KL ts p left U) {x : Tr} (hx : x ∈ ts) (hl : left (kK x.key) = true) (hp : p x.key) : KL ts p (fun z => left z && !z.sameKey (kK x.key)) (U ++ [x.key]) := by
  refine ⟨List.nodup_append.2 ⟨h.nod, by simp, fun a ha b hb e => ?_⟩, fun k => ?_⟩
  · simp at hb; subst hb; subst e; exact h.old hx hl ha
  · rw [List.mem_append, h.mem]
    constructor
    · rintro (⟨⟨y, hy, e, hl'⟩, hp'⟩ | e)
      · subst e
        exact ⟨⟨y, hy, rfl, (left_step hk hx hy).2 (.inl hl')⟩, hp'⟩
      · simp at e; subst e
        exact ⟨⟨x, hx, rfl, (left_step hk hx hx).2 (.inr rfl)⟩, hp⟩
    · rintro ⟨⟨y, hy, e, hl'⟩, hp'⟩
      subst e
      rcases (left_step hk hx hy).1 hl' with e | e
      · exact .inl ⟨⟨y, hy, rfl, e⟩, hp'⟩
      · exact .inr (by simp [e])
theorem KL.no {ts : List Tr} (hk : ∀ x ∈ ts, keyB x.key = true) {p : KeyP → Prop} {left : Lit → Bool} {U : List KeyP} (h : KL ts p left U) {x : Tr} (hx : x ∈ ts) (hp : ¬ p x.key) : KL ts p (fun z => left z && !z.sameKey (kK x.key)) U := by
  refine ⟨h.nod, fun k => ?_⟩
  rw [h.mem]
  constructor
  · rintro ⟨⟨y, hy, e, hl'⟩, hp'⟩
    subst e
    exact ⟨⟨y, hy, rfl, (left_step hk hx hy).2 (.inl hl')⟩, hp'⟩
  · rintro ⟨⟨y, hy, e, hl'⟩, hp'⟩
    subst e
    rcases (left_step hk hx hy).1 hl' with e | e
    · exact ⟨⟨y, hy, rfl, e⟩, hp'⟩
    · rw [e] at hp'; exact absurd hp' hp

theorem ownsRow_frame {F : Nat → Prop} {w w' : World} {base : Nat} {e : TypeId} {size : Nat} {v : Value} {n : Nat} {xs : List Value} (h : w.ownsRow base e size v n xs) (hf : Fr F w w') (hn : ∀ g, base ≤ g → ¬ F g) : w'.ownsRow base e size v n xs :=
  ⟨h.1, h.2.imp id fun ⟨g, cap, cur, h1, h2, h3, h4⟩ => ⟨g, cap, cur, h1, h2, hf.keeps h3 (hn g h2), h4⟩⟩
/-- What Keys answers. -/
def keyE (s : Pst) (a t : Int) : Int := if askE s a ≠ 0 then askE s a else if timeB t then 0 else 1
def KeysPost (s : Pst) (a t : Int) (w : World) (e : Ending) (w' : World) : Prop :=
  ∃ v L, e = .returned (.tuple #[v, .nilIface]) ∧ L.Pairwise (fun x y => keyLess x y = true) ∧ (∀ k, k ∈ L ↔ keyB k = true ∧ (valueP s.vs k a t).size ≠ 0) ∧ w'.ownsRow w.heap.size 44 4 v L.length (flatKeys L) ∧ (L.length : Int) ≤ s.next ∧ Below w.heap.size w w'
theorem keys_end {pb po : Nat} {R : Rest} {s : Pst} {g : Gh} {w : World} (h : PastAt w pb po R s g) {a t : Int} {U : List KeyP} {left : Lit → Bool} (hU : KL g.ts (fun k => (valueP s.vs k a t).size ≠ 0) left U) (hl : ∀ kl, left kl = false) (k : KeyP) : k ∈ U ↔ keyB k = true ∧ (valueP s.vs k a t).size ≠ 0 := by
  rw [hU.mem]
  constructor
  · rintro ⟨⟨x, hx, e, _⟩, hp⟩; subst e; exact ⟨h.keyOk x hx, hp⟩
  · rintro ⟨hk, hp⟩
    refine ⟨?_, hp⟩
    cases hy : treeFor g.ts k with
    | some x => exact ⟨x, (treeFor_some hy).1, (treeFor_some hy).2, hl _⟩
    | none =>
      exfalso
      have hti : itemsK s.vs k = [] := by
        cases e : itemsK s.vs k with
        | nil => rfl
        | cons z l =>
          obtain ⟨v, hv, hvk, _⟩ := mem_itemsK.1 (show z ∈ itemsK s.vs k by rw [e]; simp)
          obtain ⟨z', hz', e'⟩ := h.all v hv
          exact absurd (e'.trans hvk) (treeFor_none hy z' hz')
      have h0 : atL (itemsK s.vs k) t = [] := by
        have h1 := atL_length (itemsK s.vs k) t
        have h3 : (itemsK s.vs k).length = 0 := by rw [hti]; rfl
        exact List.eq_nil_of_length_eq_zero (by omega)
      unfold valueP at hp
      rw [h0] at hp
      exact hp rfl

set_option maxRecDepth 100000 in
set_option maxHeartbeats 2000000 in
theorem pkeys_bad (a t : Int) (pb po : Nat) (R : Rest) (s : Pst) (g : Gh) (w : World) (h : PastAt w pb po R s g) (hb : keyE s a t ≠ 0) :
    Calls Tryz.prog 50 #[.pointer (some ⟨pb, po, none⟩), .int .i64 a, .int .i64 t] w fun e w' => e = .returned (.tuple #[.slice none 0 0, errV (keyE s a t)]) ∧ w = w' := by
  have hR := pright_any pb po R s g a w h
  by_cases ha : askE s a = 0
  · have ht : timeB t = false := by
      cases hk : timeB t with
      | false => rfl
      | true => exact absurd (by unfold keyE; rw [if_neg (by simpa using ha), if_pos hk]) hb
    have e : keyE s a t = 1 := by unfold keyE; rw [if_neg (by simpa using ha), if_neg (by rw [ht]; decide)]
    rw [e]
    rw [ha, errN_0] at hR
    have HR := Lib.hid hR
    unfold errV
    clear hR ha h e hb
    by_cases h1 : t < -1099511627776
    · clear ht
      go_enter Tryz.func50, Tryz.ntmps50
      go_wp2_with fail
      refine HR.out.mono ?_
      rintro e w1 ⟨rfl, rfl⟩
      go_wp2_with fail
      go_ret2
      exact ⟨rfl, rfl⟩
    · have h2 : 1099511627776 ≤ t := by unfold timeB at ht; simp at ht; omega
      have h1' : decide (t < -1099511627776) = false := by simpa using h1
      clear ht h1
      go_enter Tryz.func50, Tryz.ntmps50
      go_wp2_with fail
      refine HR.out.mono ?_
      rintro e w1 ⟨rfl, rfl⟩
      go_wp2_with fail
      go_ret2
      exact ⟨rfl, rfl⟩
  · have e : keyE s a t = askE s a := by unfold keyE; rw [if_pos ha]
    rw [e]
    rw [errN_ne ha] at hR
    obtain ⟨n, hn⟩ : ∃ n, n = askE s a := ⟨_, rfl⟩
    rw [← hn] at hR ⊢
    unfold errV at *
    have HR := Lib.hid hR
    clear hR hn ha h e hb
    go_enter Tryz.func50, Tryz.ntmps50
    go_wp2_with fail
    refine HR.out.mono ?_
    rintro e w1 ⟨rfl, rfl⟩
    go_wp2_with fail
    go_ret2
    exact ⟨rfl, rfl⟩

set_option maxRecDepth 100000 in
set_option maxHeartbeats 4000000 in
theorem pkeys_some (a t : Int) (pb po : Nat) (R : Rest) (s : Pst) (g : Gh) (tm : Nat) (w : World) (h : PastAt w pb po R s g) (htm : g.tm = some tm) (ha : askE s a = 0) (ht : timeB t = true) (hn : s.next ≤ 4000) :
    Calls Tryz.prog 50 #[.pointer (some ⟨pb, po, none⟩), .int .i64 a, .int .i64 t] w (KeysPost s a t w) := by
  obtain ⟨i0, hi, hz0, hz1, hz2⟩ := info_parts infoKey
  have hR := pright_any pb po R s g a w h
  rw [ha, errN_0] at hR
  have HR := Lib.hid hR
  have ht' : -1099511627776 ≤ t ∧ t < 1099511627776 := by simpa [timeB] using ht
  obtain ⟨ht1, ht2⟩ := ht'
  have ht3 : decide (t < -1099511627776) = false := by simp; omega
  have ht4 : decide (1099511627776 ≤ t) = false := by simp; omega
  obtain ⟨_, _, _, _, c4⟩ := past_cells h.len h.cells
  rw [htm] at c4
  have htr := h.trees
  rw [htm] at htr
  obtain ⟨Dt, hown, hD⟩ := htr
  have hhas : ∀ x ∈ g.ts, Maps.has Dt (kK x.key) = true := fun x hx => (hD.has _ (kK_key _)).2 ⟨x, hx, rfl⟩
  have hsz := hD.size
  have htl := h.tlen
  have hlen : g.ts.length ≤ 4000 := by omega
  have hlt := h.lt tm (.inr (.inr (.inl htm)))
  have HD := Lib.hid hD
  have HP := Lib.hid h
  have HST := Lib.hid (KL.start (p := fun k => (valueP s.vs k a t).size ≠ 0) hhas)
  have HSZ := Lib.hid hsz
  have HA := Lib.hid ha
  have HTT := Lib.hid ht
  clear hR h htm ha ht hD hhas hsz
  go_enter Tryz.func50, Tryz.ntmps50
  go_wp2_with fail
  refine HR.out.mono ?_
  rintro e w1 ⟨rfl, rfl⟩
  go_wp2_with (at_range; refine wpList_range_own _ rfl _ 25 rfl 44 176 keyLaw Tryz.underlying25 treeR tm g.ts.length Dt rfl hown ?_; intro w2 hrg hgr hs2)
  go_frame
  have hB2 : Below w.heap.size w w2 := ⟨hgr.os, hgr.tape, hgr.output, hgr.size, fun i hi' => hgr.block i hi' (by simp)⟩
  have HB2 := Lib.hid hB2
  have HRG := Lib.hid hrg
  have HS2 := Lib.hid hs2
  obtain ⟨r, hr⟩ : ∃ r, r = w.heap.size := ⟨_, rfl⟩
  have hrg' : w2.ranges Tryz.prog 44 treeR tm r g.ts.length Dt (Maps.has Dt) (Maps.size Dt) := by rw [hr]; exact hrg
  have HRG' := Lib.hid hrg'
  have HRE := Lib.hid hr
  rw [← hr]
  clear hgr hB2 hrg hs2 hown c4 hrg' hr
  go_loopw [9] (fun v wr => ∃ (left : Lit → Bool) (cnt : Nat) (U : List KeyP), wr.ranges Tryz.prog 44 treeR tm r g.ts.length Dt left cnt ∧ KL g.ts (fun k => (valueP s.vs k a t).size ≠ 0) left U ∧ U.length + cnt ≤ g.ts.length ∧ wr.ownsRow (r + 1) 44 4 v U.length (flatKeys U) ∧ Below r w wr ∧ r < wr.heap.size ∧ (∀ q, left q = true → Maps.has Dt q = true)) (fun _ wr => wr.rangeLeft tm r)
  case atStart => exact ⟨_, _, [], HRG'.out, HST.out, by rw [HSZ.out]; simp, World.ownsRow_nil _ _ _ _, by rw [HRE.out]; exact HB2.out, by have := HS2.out; have := HRE.out; omega, fun _ e => e⟩
  case round =>
    obtain ⟨left, cnt, U, hrg, hKL, hcnt, hownU, hBr, hrl, hsub⟩ := hrel
    have HKL := Lib.hid hKL
    have HBR := Lib.hid hBr
    have HSUB := Lib.hid hsub
    have HRGW := Lib.hid hrg
    clear hKL hBr hsub
    go_wp2_with (at_next; refine wpList_next_raw _ rfl _ rfl 44 keyLaw treeR tm r g.ts.length Dt left cnt rfl hrg ?_ ?_)
    · intro hc0 hl0
      have HL0 := Lib.hid hl0
      clear hl0 hc0 hrg
      go_wp2_with fail
      have hle : U.length ≤ 4000 := by omega
      refine (sortKeys_own (r + 1) u9 U wr hownU (by omega) (by omega)).mono ?_
      rintro e w5 ⟨rfl, own5, b5⟩
      have HO5 := Lib.hid own5
      have HB5 := Lib.hid b5
      clear own5 b5
      go_wp2_with fail
      go_ret2
      refine ⟨_, sortKeys U, rfl, sortKeys_sorted HKL.out.nod, fun k => ?_, ?_, ?_, ?_⟩
      · rw [(sortKeys_perm U).mem_iff]
        exact keys_end HP.out HKL.out HL0.out k
      · rw [(sortKeys_perm U).length_eq]
        exact ownsRow_base HO5.out (by rw [HRE.out]; omega)
      · rw [(sortKeys_perm U).length_eq]; omega
      · have h1 : Below w.heap.size w wr := by rw [← HRE.out]; exact HBR.out
        exact h1.trans (HB5.out.mono (by rw [HRE.out]; omega))
    · intro key v kl y1 y2 w3 cnt3 hkey hlk hv hat hrg3 hlt3 hgr3 hs3 hen
      obtain ⟨x, hx, e⟩ := HD.out.got (keyLaw.key hkey) (HSUB.out _ hlk)
      have ek : key = keyV x.key := keyLaw.inj hkey (by rw [← e]; exact keyOf_key (HP.out.keyOk x hx))
      subst ek
      have ekl : kl = kK x.key := e.symm
      subst ekl
      have hF3 : Fr (· = r) wr w3 := Fr.ofGrown hgr3
      have hB3 : Below r w w3 := HBR.out.trans (hF3.below (B := r) (fun k _ e => by omega) (by omega))
      have hown3 := ownsRow_frame hownU hF3 (fun g hg e => by omega)
      have hkb := HP.out.keyOk x hx
      have hsub3 : ∀ q, (left q && !q.sameKey (kK x.key)) = true → Maps.has Dt q = true := fun q hq => HSUB.out q (by rw [Bool.and_eq_true] at hq; exact hq.1)
      obtain ⟨W4, hW4⟩ : ∃ W4, W4 = w3.alloc (.cells #[.int .i64 x.key.kind, .int .i64 x.key.a, .string x.key.word, .int .i64 x.key.b] 44) := ⟨_, rfl⟩
      have hB4 : Below w3.heap.size w3 W4 := by rw [hW4]; exact (Below.refl _ _).alloc (Nat.le_refl _) _
      have hs4 : W4.heap.size = w3.heap.size + 1 := by rw [hW4]; simp
      have hkc := cells4 (show W4.heap[w3.heap.size]? = _ by rw [hW4]; exact block_alloc_new w3 _)
      have hBw4 : Below w.heap.size w W4 := by
        have h1 : Below w.heap.size w w3 := by rw [← HRE.out]; exact hB3
        exact h1.trans (hB4.mono (by have := HRE.out; omega))
      have hval := pvalue_any x.key a t pb po R s g W4 (HP.out.below hBw4) (by have := (wfkey hkb).2; unfold maxLen; omega) hn
      rw [valV_ok HA.out hkb HTT.out] at hval
      obtain ⟨vx, hvx⟩ : ∃ vx, vx = valueP s.vs x.key a t := ⟨_, rfl⟩
      rw [← hvx] at hval
      have HVAL := Lib.hid hval
      have HVX := Lib.hid hvx
      have HW4 := Lib.hid hW4
      have HB4 := Lib.hid hB4
      have HKC := Lib.hid hkc
      have HRG3 := Lib.hid hrg3
      have HS3 := Lib.hid hs3
      have HB3 := Lib.hid hB3
      have HSUB3 := Lib.hid hsub3
      have HX := Lib.hid hx
      have HLK := Lib.hid hlk
      have hrl3 : r < w3.heap.size := by omega
      have hsl4 : w3.heap.size < W4.heap.size := by omega
      have htr : tm < r := by have := HRE.out; omega
      have hown4 := ownsRow_below hown3 hB4
      clear hval hvx hW4 hB4 hkc hrg3 hs3 hB3 hsub3 hat hkey e hv hgr3 hF3 hx hlk hkb hs4 hBw4 hown3 hownU hrg
      unfold keyV at hen
      have frame : ∀ W, Below (r + 1) w3 W → W.ranges Tryz.prog 44 treeR tm r g.ts.length Dt (fun z => left z && !z.sameKey (kK x.key)) cnt3 := fun W hB => ranges_frame HRG3.out (Fr.ofBelow hB) (by omega) (by omega)
      have HFRM := Lib.hid frame
      clear frame
      by_cases h0 : vx.size = 0
      · have hv1 := empty_true h0
        have hv2 : (!vx.toList.isEmpty) = false := by rw [hv1]; rfl
        have hkl := KL.no HP.out.keyOk HKL.out HX.out (x := x) (by rw [← HVX.out]; exact fun h => h h0)
        have HKL2 := Lib.hid hkl
        clear h0 hkl
        go_wp2_with fail
        rw [← HW4.out]
        refine HVAL.out.mono ?_
        rintro e w5 ⟨rfl, b5⟩
        have hB5 : Below (r + 1) w3 w5 := (HB4.out.mono (by omega)).trans (b5.mono (by omega))
        have hown5 := ownsRow_below hown4 b5
        have HB5 := Lib.hid hB5
        have hs5 := b5.size
        clear b5 hB5
        go_wp2_with fail
        go_roundw
        case rel => exact ⟨_, cnt3, U, HFRM.out _ HB5.out, HKL2.out, by omega, hown5, HB3.out.trans (HB5.out.mono (by omega)), by omega, HSUB3.out⟩
        case measure => rw [(HFRM.out _ HB5.out).left_eq, HRGW.out.left_eq]; exact hlt3
      · have hv1 := empty_false h0
        have hv2 : (!vx.toList.isEmpty) = true := by rw [hv1]; rfl
        have hkl := KL.yes HP.out.keyOk HKL.out HX.out HLK.out (by rw [← HVX.out]; exact h0)
        have HKL2 := Lib.hid hkl
        clear h0 hkl
        go_wp2_with fail
        rw [← HW4.out]
        refine HVAL.out.mono ?_
        rintro e w5 ⟨rfl, b5⟩
        have hB5 : Below (r + 1) w3 w5 := (HB4.out.mono (by omega)).trans (b5.mono (by omega))
        have hown5 := ownsRow_below hown4 b5
        have HB5 := Lib.hid hB5
        have hs5 := b5.size
        obtain ⟨kc0, kc1, kc2, kc3⟩ := HKC.out
        have k0 := below_cell b5 hsl4 kc0
        have k1 := below_cell b5 hsl4 kc1
        have k2 := below_cell b5 hsl4 kc2
        have k3 := below_cell b5 hsl4 kc3
        have hsl5 : w3.heap.size < w5.heap.size := by omega
        clear b5 hB5 kc0 kc1 kc2 kc3
        go_wp2_with (at_builtin; refine appKey rfl _ _ rfl (r + 1) _ U rfl (hown5.alloc _) w5.heap.size x.key rfl (by simp) (by simp) (by simp) (by simp) (by omega) (by simp; omega) w5 ((Below.refl _ _).alloc (by omega) _) ?_; intro v' w6 hown6 hB6 hs6 hg6)
        have hB7 : Below (r + 1) w3 w6 := HB5.out.trans hB6
        have hs7 := hB7.size
        go_roundw
        case rel => exact ⟨_, cnt3, U ++ [x.key], HFRM.out _ hB7, HKL2.out, by rw [List.length_append]; simp; omega, hown6, HB3.out.trans (hB7.mono (by omega)), by omega, HSUB3.out⟩
        case measure => rw [(HFRM.out _ hB7).left_eq, HRGW.out.left_eq]; exact hlt3

set_option maxRecDepth 100000 in
set_option maxHeartbeats 2000000 in
theorem pkeys_none (a t : Int) (pb po : Nat) (R : Rest) (s : Pst) (g : Gh) (w : World) (h : PastAt w pb po R s g) (htm : g.tm = none) (ha : askE s a = 0) (ht : timeB t = true) :
    Calls Tryz.prog 50 #[.pointer (some ⟨pb, po, none⟩), .int .i64 a, .int .i64 t] w (KeysPost s a t w) := by
  have hR := pright_any pb po R s g a w h
  rw [ha, errN_0] at hR
  have HR := Lib.hid hR
  have ht' : -1099511627776 ≤ t ∧ t < 1099511627776 := by simpa [timeB] using ht
  obtain ⟨ht1, ht2⟩ := ht'
  have ht3 : decide (t < -1099511627776) = false := by simp; omega
  have ht4 : decide (1099511627776 ≤ t) = false := by simp; omega
  obtain ⟨_, _, _, _, c4⟩ := past_cells h.len h.cells
  rw [htm] at c4
  have hvs : s.vs = [] := by
    have h1 := h.vers
    rw [h.both.2 htm] at h1; exact h1
  have hnv : ∀ k, (valueP s.vs k a t).size = 0 := fun k => by
    have : atL (itemsK s.vs k) t = [] := by
      have h1 := atL_length (itemsK s.vs k) t
      have h3 : (itemsK s.vs k).length = 0 := by rw [hvs]; rfl
      exact List.eq_nil_of_length_eq_zero (by omega)
    unfold valueP; rw [this]; rfl
  have hs := sortKeys_own (w.heap.size + 1) (.slice none 0 0) []
  have r1 := run_range_nilMap (P := Tryz.prog) w 25 44 176 Tryz.underlying25
  have r2 := fun ty => run_next_nilMap (P := Tryz.prog) w ty 0 0 #[]
  have HNV := Lib.hid hnv
  have hn0 := h.ids.next0
  have HS := Lib.hid hs
  clear hR h htm ha ht hvs hnv hs
  go_enter Tryz.func50, Tryz.ntmps50
  go_wp2_with fail
  refine HR.out.mono ?_
  rintro e w1 ⟨rfl, rfl⟩
  go_wp2_with fail
  refine wp_loop_rounds 1 ?_
  rw [rounds_succ]
  go_wp2_with fail
  refine (HS.out _ (World.ownsRow_nil _ _ _ _) (by simp) (by decide)).mono ?_
  rintro e w5 ⟨rfl, own5, b5⟩
  have HO5 := Lib.hid own5
  have HB5 := Lib.hid b5
  clear own5 b5
  go_wp2_with fail
  go_ret2
  refine ⟨_, [], rfl, .nil, fun k => ⟨(fun h => by cases h), (fun h => absurd (HNV.out k) h.2)⟩, World.ownsRow_nil _ _ _ _, by simpa using hn0, ?_⟩
  exact ((Below.refl _ w).alloc (Nat.le_refl _) _).trans (HB5.out.mono (by omega))
theorem pkeys_ok (a t : Int) (pb po : Nat) (R : Rest) (s : Pst) (g : Gh) (w : World) (h : PastAt w pb po R s g) (ha : askE s a = 0) (ht : timeB t = true) (hn : s.next ≤ 4000) :
    Calls Tryz.prog 50 #[.pointer (some ⟨pb, po, none⟩), .int .i64 a, .int .i64 t] w (KeysPost s a t w) := by
  cases htm : g.tm with
  | none => exact pkeys_none a t pb po R s g w h htm ha ht
  | some tm => exact pkeys_some a t pb po R s g tm w h htm ha ht hn
end Go.Proofs.YtflhpmgjehjjkaaGreatDoor
