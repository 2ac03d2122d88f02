/- The reference past, walked: Keys. -/
import Derived.Test.YtacedfcckkpciaaGreatDoorRpML
import Derived.Test.YtacedfcckkpciaaGreatDoorRpFL
import Derived.Test.YtacedfcckkpciaaGreatDoorSqGL
import Derived.Test.YtacedfcckkpciaaGreatDoorRpDL
namespace Go.Proofs.YtacedfcckkpciaaGreatDoor
open Go.RowKit Go.Deep Go.Shelf Go.Sort Go.Maps

/-- The map has just these keys. -/
structure KadIs (w : World) (b n : Nat) (L : List KeyP) : Prop where
  nod : L.Nodup
  ok : ∀ x ∈ L, keyB x = true
  own : ∃ D, w.ownsMap Tryz.prog 29 boolR b n D ∧ MapOf kK (fun _ => boolD) D L
theorem KadIs.frame {F : Nat → Prop} {w w' : World} {b n : Nat} {L : List KeyP} (h : KadIs w b n L) (hf : Fr F w w') (hn : ¬ F b) : KadIs w' b n L := by
  obtain ⟨D, h1, h2⟩ := h.own
  exact ⟨h.nod, h.ok, D, owns_frame h1 hf hn, h2⟩
/-- One key more, perhaps there already. -/
theorem kad_put {D : DataW Unit} {L : List KeyP} (hn : L.Nodup) (hok : ∀ x ∈ L, keyB x = true) (h : MapOf kK (fun _ => boolD) D L) (x : KeyP) (hx : keyB x = true) : ∃ L', L'.Nodup ∧ (∀ y ∈ L', keyB y = true) ∧ MapOf kK (fun _ => boolD) (D.put (kK x) boolD) L' ∧ ∀ y, y ∈ L' ↔ y = x ∨ y ∈ L := by
  by_cases hm : x ∈ L
  · obtain ⟨l1, l2, rfl⟩ := List.append_of_mem hm
    have hp : (l1 ++ x :: l2).Perm (x :: (l1 ++ l2)) := List.perm_middle
    have hn' := hp.nodup_iff.1 hn
    obtain ⟨n1, _⟩ := List.nodup_cons.1 hn'
    have h' := (h.perm hp).over x rfl (kK_key x) (fun y hy e => n1 (by rw [← kK_inj (hok y (hp.mem_iff.2 (List.mem_cons_of_mem _ hy))) hx e]; exact hy))
    refine ⟨x :: (l1 ++ l2), hn', fun y hy => hok y (hp.mem_iff.2 hy), h', fun y => ?_⟩
    simp only [List.mem_cons, List.mem_append]
    constructor
    · rintro (h | h | h)
      · exact .inl h
      · exact .inr (.inl h)
      · exact .inr (.inr (.inr h))
    · rintro (h | h | h | h)
      · exact .inl h
      · exact .inr (.inl h)
      · exact .inl h
      · exact .inr (.inr h)
  · refine ⟨x :: L, List.nodup_cons.2 ⟨hm, hn⟩, fun y hy => ?_, h.put x (kK_key x) (fun y hy e => hm (by rw [← kK_inj (hok y hy) hx e]; exact hy)), fun y => List.mem_cons⟩
    rcases List.mem_cons.1 hy with rfl | hy
    · exact hx
    · exact hok y hy
set_option maxRecDepth 100000 in
theorem zeroBoolK (w : World) : (zeroValue 4).run Tryz.prog w = .ok (.bool false) w := by kernel_rfl
set_option maxRecDepth 100000 in
theorem kad_look {w : World} {b n : Nat} {L : List KeyP} (h : KadIs w b n L) {x : KeyP} (hx : keyB x = true) : (Instr.lookup 177 (.map (some b)) (.agg #[.int .i64 x.kind, .int .i64 x.a, .string x.word, .int .i64 x.b]) false).run Tryz.prog w = .ok (.bool (decide (x ∈ L))) w := by
  obtain ⟨D, hown, hD⟩ := h.own
  obtain ⟨u, ps, hr, hu⟩ := hown.lookup keyLaw Tryz.underlying177 (zeroBoolK w) (zd := .lit (.bool false)) (zp := []) rfl (keyOf_key hx)
  have e1 : (D.atKey (kK x) (.lit (.bool false))) = .lit (.bool (decide (x ∈ L))) := by
    by_cases hm : x ∈ L
    · rw [hD.at' x hm, decide_eq_true hm]; rfl
    · rw [decide_eq_false hm]
      exact atKey_of_not_has (hD.none (kK_key x) fun y hy e => hm (by rw [← kK_inj (h.ok y hy) hx e]; exact hy)) _
  rw [e1] at hu
  unfold boolR at hu
  split at hu
  · rename_i c
    simp only [Option.some.injEq, Prod.mk.injEq] at hu
    have e := hu.1
    injection e with e1
    injection e1 with e2
    subst e2
    exact hr
  · cases hu
/-! ### Which keys have been seen -/
def seenO (hist : List (List OpP)) (i q : Nat) : List OpP := (hist.take i).flatten ++ ((hist[i]?).getD []).take q
theorem seenO_zero (hist : List (List OpP)) : seenO hist 0 0 = [] := by simp [seenO]
theorem seenO_op {hist : List (List OpP)} {i q : Nat} {tx : List OpP} {o : OpP} (h : hist[i]? = some tx) (ho : tx[q]? = some o) : seenO hist i (q + 1) = seenO hist i q ++ [o] := by
  unfold seenO
  rw [h, Option.getD_some, List.take_add_one, ho]
  simp
theorem seenO_tx {hist : List (List OpP)} {i : Nat} {tx : List OpP} (h : hist[i]? = some tx) : seenO hist i tx.length = seenO hist (i + 1) 0 := by
  unfold seenO
  rw [h, Option.getD_some, List.take_of_length_le (Nat.le_refl _), List.take_add_one, h]
  simp
theorem seenO_all {hist : List (List OpP)} : seenO hist hist.length 0 = hist.flatten := by simp [seenO]
theorem said_noneL {k : KeyP} {t : Int} : ∀ {l : List OpP} {x : ByteArray}, (∀ o ∈ l, o.key ≠ k) → saidL l k t x = x
  | [], _, _ => rfl
  | o :: l, x, h => by
    show List.foldl _ (if k = o.key ∧ o.fr ≤ t ∧ t < o.to then o.value else x) l = x
    rw [if_neg (fun e => h o (by simp) e.1.symm)]
    exact said_noneL fun o ho => h o (List.mem_cons_of_mem _ ho)
theorem said_seen {hist : List (List OpP)} {k : KeyP} {a : Nat} {t : Int} (h : (saidH hist k a t).size ≠ 0) : ∃ o ∈ hist.flatten, o.key = k := by
  rcases Classical.em (∃ o ∈ hist.flatten, o.key = k) with h1 | h1
  · exact h1
  · exfalso
    apply h
    have : saidH hist k a t = ⟨#[]⟩ := said_noneL fun o ho e => h1 ⟨o, by
      obtain ⟨l, hl, ho⟩ := List.mem_flatten.1 ho
      exact List.mem_flatten.2 ⟨l, List.mem_of_mem_take hl, ho⟩, e⟩
    rw [this]; rfl
/-- What is gathered, all in all. -/
structure GK (hist : List (List OpP)) (a : Nat) (t : Int) (i q : Nat) (M U : List KeyP) : Prop where
  mem : ∀ k, k ∈ M ↔ ∃ o ∈ seenO hist i q, o.key = k
  nod : U.Nodup
  out : ∀ k, k ∈ U ↔ k ∈ M ∧ (saidH hist k a t).size ≠ 0
theorem GK.zero (hist : List (List OpP)) (a : Nat) (t : Int) : GK hist a t 0 0 [] [] :=
  ⟨fun k => ⟨(fun h => by cases h), fun ⟨o, ho, _⟩ => by rw [seenO_zero] at ho; cases ho⟩, List.nodup_nil, fun k => ⟨(fun h => by cases h), (fun h => by cases h.1)⟩⟩
theorem GK.tx {hist : List (List OpP)} {a : Nat} {t : Int} {i : Nat} {M U : List KeyP} {tx : List OpP} (h : GK hist a t i tx.length M U) (htx : hist[i]? = some tx) : GK hist a t (i + 1) 0 M U :=
  ⟨fun k => by rw [h.mem, seenO_tx htx], h.nod, h.out⟩
/-- One that is there already. -/
theorem GK.old {hist : List (List OpP)} {a : Nat} {t : Int} {i q : Nat} {M M' U : List KeyP} {tx : List OpP} {o : OpP} (h : GK hist a t i q M U) (htx : hist[i]? = some tx) (ho : tx[q]? = some o) (hm : o.key ∈ M) (hM : ∀ y, y ∈ M' ↔ y = o.key ∨ y ∈ M) : GK hist a t i (q + 1) M' U := by
  have e : ∀ y, y ∈ M' ↔ y ∈ M := fun y => by rw [hM]; exact ⟨fun h => h.elim (fun e => by rw [e]; exact hm) id, .inr⟩
  refine ⟨fun k => ?_, h.nod, fun k => by rw [h.out, e]⟩
  rw [e, h.mem, seenO_op htx ho]
  constructor
  · rintro ⟨o', ho', e'⟩; exact ⟨o', by simp [ho'], e'⟩
  · rintro ⟨o', ho', e'⟩
    rcases List.mem_append.1 ho' with h1 | h1
    · exact ⟨o', h1, e'⟩
    · simp at h1; subst h1; subst e'; exact (h.mem _).1 hm
theorem GK.new {hist : List (List OpP)} {a : Nat} {t : Int} {i q : Nat} {M M' U : List KeyP} {tx : List OpP} {o : OpP} (h : GK hist a t i q M U) (htx : hist[i]? = some tx) (ho : tx[q]? = some o) (hM : ∀ y, y ∈ M' ↔ y = o.key ∨ y ∈ M) (k : KeyP) : k ∈ M' ↔ ∃ o' ∈ seenO hist i (q + 1), o'.key = k := by
  rw [hM, h.mem, seenO_op htx ho]
  constructor
  · rintro (e | ⟨o', ho', e⟩)
    · exact ⟨o, by simp, e.symm⟩
    · exact ⟨o', by simp [ho'], e⟩
  · rintro ⟨o', ho', e'⟩
    rcases List.mem_append.1 ho' with h1 | h1
    · exact .inr ⟨o', h1, e'⟩
    · simp at h1; subst h1; exact .inl e'.symm
theorem GK.no {hist : List (List OpP)} {a : Nat} {t : Int} {i q : Nat} {M M' U : List KeyP} {tx : List OpP} {o : OpP} (h : GK hist a t i q M U) (htx : hist[i]? = some tx) (ho : tx[q]? = some o) (h0 : (saidH hist o.key a t).size = 0) (hM : ∀ y, y ∈ M' ↔ y = o.key ∨ y ∈ M) : GK hist a t i (q + 1) M' U := by
  refine ⟨h.new htx ho hM, h.nod, fun k => ?_⟩
  rw [h.out, hM]
  constructor
  · rintro ⟨h1, h2⟩; exact ⟨.inr h1, h2⟩
  · rintro ⟨rfl | h1, h2⟩
    · exact absurd h0 h2
    · exact ⟨h1, h2⟩
theorem GK.yes {hist : List (List OpP)} {a : Nat} {t : Int} {i q : Nat} {M M' U : List KeyP} {tx : List OpP} {o : OpP} (h : GK hist a t i q M U) (htx : hist[i]? = some tx) (ho : tx[q]? = some o) (hm : o.key ∉ M) (h0 : (saidH hist o.key a t).size ≠ 0) (hM : ∀ y, y ∈ M' ↔ y = o.key ∨ y ∈ M) : GK hist a t i (q + 1) M' (U ++ [o.key]) := by
  refine ⟨h.new htx ho hM, List.nodup_append.2 ⟨h.nod, by simp, fun x hx y hy e => ?_⟩, fun k => ?_⟩
  · simp at hy; subst hy; subst e; exact hm ((h.out _).1 hx).1
  · rw [List.mem_append, h.out, hM]
    constructor
    · rintro (⟨h1, h2⟩ | e)
      · exact ⟨.inr h1, h2⟩
      · simp at e; subst e; exact ⟨.inl rfl, h0⟩
    · rintro ⟨rfl | h1, h2⟩
      · exact .inr (by simp)
      · exact .inl ⟨h1, h2⟩
theorem GK.all {hist : List (List OpP)} {a : Nat} {t : Int} {M U : List KeyP} (h : GK hist a t hist.length 0 M U) (k : KeyP) : k ∈ U ↔ (saidH hist k a t).size ≠ 0 := by
  rw [h.out, h.mem, seenO_all]
  exact ⟨fun h => h.2, fun h => ⟨said_seen h, h⟩⟩
end Go.Proofs.YtacedfcckkpciaaGreatDoor

namespace Go.Proofs.YtacedfcckkpciaaGreatDoor
open Go.RowKit Go.Deep Go.Shelf Go.Sort Go.Maps

def keyRE (hist : List (List OpP)) (known a t : Int) : Int := if askR hist.length known a ≠ 0 then askR hist.length known a else if timeB t then 0 else 1
theorem keyRE_0 {hist : List (List OpP)} {known a t : Int} (h : keyRE hist known a t = 0) : askR hist.length known a = 0 ∧ timeB t = true := by
  unfold keyRE at h
  rcases Decidable.em (askR hist.length known a = 0) with e | e
  · rw [if_neg (by rw [e]; decide)] at h
    cases hb : timeB t with
    | true => exact ⟨e, rfl⟩
    | false => rw [hb] at h; exact absurd h (by decide)
  · rw [if_pos e] at h; exact absurd h e
def KeysR (hist : List (List OpP)) (a : Nat) (t : Int) (w : World) (e : Ending) (w' : World) : Prop :=
  ∃ (v : Value) (S : List KeyP), e = .returned (.tuple #[v, .int .i64 0]) ∧ KeysIs hist a t S ∧ w'.ownsRow w.heap.size 29 4 v S.length (flatKeys S) ∧ Below w.heap.size w w'
/-- The loops' state. -/
structure KQ (hist : List (List OpP)) (a : Nat) (t : Int) (w : World) (mb i q c : Nat) (M U : List KeyP) (v : Value) (X : World) : Prop where
  kad : KadIs X mb c M
  gk : GK hist a t i q M U
  box : X.heap[mb + 1]? = some (.cells #[v] 64 (0, 0))
  row : X.ownsRow (mb + 2) 29 4 v U.length (flatKeys U)
  cnt : c ≤ i * 8 + q
  len : U.length ≤ i * 8 + q
  hm : w.heap.size ≤ mb
  be : Below w.heap.size w X
theorem KQ.below {hist : List (List OpP)} {a : Nat} {t : Int} {w : World} {mb i q c : Nat} {M U : List KeyP} {v : Value} {X Y : World} (h : KQ hist a t w mb i q c M U v X) (b : Below X.heap.size X Y) : KQ hist a t w mb i q c M U v Y :=
  ⟨h.kad.frame (F := fun _ => False) (Fr.new b) (fun e => e), h.gk, (b.block _ (lt_of_block h.box)).trans h.box, ownsRow_below h.row b, h.cnt, h.len, h.hm, h.be.trans (b.mono h.be.size)⟩
/-- Behind the map's store. -/
theorem KQ.put {hist : List (List OpP)} {a : Nat} {t : Int} {w : World} {mb i q c : Nat} {M U : List KeyP} {v : Value} {X Y : World} (h : KQ hist a t w mb i q c M U v X) (hg : X.grownBy Y (some mb)) {M' : List KeyP} (hk : KadIs Y mb (c + 1) M') (g' : GK hist a t i (q + 1) M' U) : KQ hist a t w mb i (q + 1) (c + 1) M' U v Y := by
  have hf : Fr (· = mb) X Y := Fr.ofGrown hg
  exact ⟨hk, g', hf.keeps h.box (by omega), ownsRow_frame h.row hf (fun g hg e => by omega), by have := h.cnt; omega, by have := h.len; omega, h.hm, h.be.trans (hf.below (fun k _ e => by have := h.hm; omega) h.be.size)⟩
theorem KQ.tx {hist : List (List OpP)} {a : Nat} {t : Int} {w : World} {mb i c : Nat} {M U : List KeyP} {v : Value} {X : World} {tx : List OpP} (h : KQ hist a t w mb i tx.length c M U v X) (htx : hist[i]? = some tx) (h8 : tx.length ≤ 8) : KQ hist a t w mb (i + 1) 0 c M U v X :=
  ⟨h.kad, h.gk.tx htx, h.box, h.row, by have := h.cnt; omega, by have := h.len; omega, h.hm, h.be⟩
theorem ownsRow_shape {w : World} {base : Nat} {e : TypeId} {size : Nat} {v : Value} {n : Nat} {xs : List Value} (h : w.ownsRow base e size v n xs) : ∃ a m c, v = .slice a m c := by
  rcases h.2 with ⟨rfl, _⟩ | ⟨g, cap, cur, rfl, _⟩
  · exact ⟨_, _, _, rfl⟩
  · exact ⟨_, _, _, rfl⟩
/-- Behind an append and its store. -/
structure KA (w : World) (mb c : Nat) (M U : List KeyP) (v : Value) (X : World) : Prop where
  kad : KadIs X mb c M
  box : X.heap[mb + 1]? = some (.cells #[v] 64 (0, 0))
  row : X.ownsRow (mb + 2) 29 4 v U.length (flatKeys U)
  be : Below w.heap.size w X
theorem KQ.app {hist : List (List OpP)} {a : Nat} {t : Int} {w : World} {mb i q c : Nat} {M U : List KeyP} {v v' : Value} {X W6 : World} {U' : List KeyP} (h : KQ hist a t w mb i q c M U v X) (hB : Below (mb + 2) X W6) (hrow : W6.ownsRow (mb + 2) 29 4 v' U'.length (flatKeys U')) : KA w mb c M U' v' (W6.setCell ⟨mb + 1, 0, none⟩ v') := by
  have hf : Fr (· = mb + 1) W6 (W6.setCell ⟨mb + 1, 0, none⟩ v') := Fr.setCell (F := (· = mb + 1)) (Fr.refl _ W6) (p := ⟨mb + 1, 0, none⟩) (fun _ => rfl) v'
  have hbox := (hB.block (mb + 1) (by omega)).trans h.box
  refine ⟨(h.kad.frame (Fr.ofBelow hB) (by omega)).frame hf (by omega), ?_, ownsRow_frame hrow hf (fun g hg e => by omega), (h.be.trans (hB.mono (by have := h.hm; omega))).trans (hf.below (fun k _ e => by have := h.hm; omega) (by have := h.be.size; have := hB.size; omega))⟩
  have := block_set hbox 0 v'
  simpa using this
theorem KQ.yes {hist : List (List OpP)} {a : Nat} {t : Int} {w : World} {mb i q c : Nat} {M U : List KeyP} {v v' : Value} {X W7 Y : World} {M' : List KeyP} {k : KeyP} (h : KQ hist a t w mb i q c M U v X) (hA : KA w mb c M (U ++ [k]) v' W7) (hg : W7.grownBy Y (some mb)) (hk : KadIs Y mb (c + 1) M') (g' : GK hist a t i (q + 1) M' (U ++ [k])) : KQ hist a t w mb i (q + 1) (c + 1) M' (U ++ [k]) v' Y := by
  have hf : Fr (· = mb) W7 Y := Fr.ofGrown hg
  exact ⟨hk, g', hf.keeps hA.box (by omega), ownsRow_frame hA.row hf (fun g hg e => by omega), by have := h.cnt; omega, by have := h.len; rw [List.length_append]; simp; omega, h.hm, hA.be.trans (hf.below (fun k _ e => by have := h.hm; omega) hA.be.size)⟩
section
variable {F : Nat → Prop} {rb : Nat} {hist : List (List OpP)} {known : Int}
set_option maxRecDepth 100000 in
theorem rpkeys_bad (a t : Int) (w : World) (h : RP F w rb hist known) (hb : keyRE hist known a t ≠ 0) :
    Calls Tryz.prog 54 #[.pointer (some ⟨rb, 0, none⟩), .int .i64 a, .int .i64 t] w fun e w' => e = .returned (.tuple #[.slice none 0 0, .int .i64 (keyRE hist known a t)]) ∧ w = w' := by
  have hA := rpask_any a w h
  have hT := rtimed_any t w
  by_cases ha : askR hist.length known a = 0
  · have ht : timeB t = false := by
      cases hk : timeB t with
      | false => rfl
      | true => exact absurd (by unfold keyRE; rw [if_neg (by rw [ha]; decide), if_pos hk]) hb
    have e : keyRE hist known a t = 1 := by unfold keyRE; rw [if_neg (by rw [ha]; decide), ht]; rfl
    rw [e]
    rw [ha] at hA
    rw [ht] at hT
    have HA := Lib.hid hA
    have HT := Lib.hid hT
    clear hA hT ha ht e hb h
    go_enter Tryz.func54, Tryz.ntmps54
    go_wp2_with fail
    refine HA.out.mono ?_
    rintro e w1 ⟨rfl, rfl⟩
    go_wp2_with fail
    refine HT.out.mono ?_
    rintro e w1 ⟨rfl, rfl⟩
    go_wp2_with fail
    go_ret2
    exact ⟨rfl, rfl⟩
  · have e : keyRE hist known a t = askR hist.length known a := by unfold keyRE; rw [if_pos ha]
    rw [e]
    obtain ⟨n, hn⟩ : ∃ n, n = askR hist.length known a := ⟨_, rfl⟩
    rw [← hn] at hA ha ⊢
    have HA := Lib.hid hA
    have n1 : (n == 0) = false := by simpa using ha
    have n2 : (n != 0) = true := by simpa using ha
    clear hA hT ha e hb h hn
    go_enter Tryz.func54, Tryz.ntmps54
    go_wp2_with fail
    refine HA.out.mono ?_
    rintro e w1 ⟨rfl, rfl⟩
    go_wp2_with fail
    go_ret2
    exact ⟨rfl, rfl⟩
set_option maxRecDepth 100000 in
set_option maxHeartbeats 8000000 in
theorem rpkeys_ok (a : Nat) (t : Int) (w : World) (h : RP F w rb hist known) (hb : keyRE hist known a t = 0) :
    Calls Tryz.prog 54 #[.pointer (some ⟨rb, 0, none⟩), .int .i64 (a : Nat), .int .i64 t] w (KeysR hist a t w) := by
  have hmm := @run_makeMap Tryz.prog
  obtain ⟨e1, e2⟩ := keyRE_0 hb
  have hA := rpask_any a w h
  rw [e1] at hA
  have hT := rtimed_any t w
  rw [e2] at hT
  obtain ⟨q1, q2, q3⟩ := askR_0 e1
  have hah : a ≤ hist.length := by omega
  obtain ⟨ao, c, ⟨c0, c1⟩, ⟨hc1, hc2⟩, hget⟩ := h.get
  have hl := h.lt
  have hlen := h.len
  unfold maxLen at hc2
  have HG := Lib.hid hget
  have HOK := Lib.hid h.ok
  have HP := Lib.hid h
  obtain ⟨mb, hmb⟩ : ∃ mb, mb = w.heap.size := ⟨_, rfl⟩
  obtain ⟨W2, hW2⟩ : ∃ W2, W2 = (w.alloc (.map #[] 0)).alloc (.cells #[.slice none 0 0] 64) := ⟨_, rfl⟩
  have hB2 : Below w.heap.size w W2 := by rw [hW2]; exact ((Below.refl _ _).alloc (Nat.le_refl _) _).alloc (by simp) _
  have ho : (w.alloc (.map #[] 0)).ownsMap Tryz.prog 29 boolR mb 0 (.map []) := by rw [hmb]; exact World.ownsMap_made _ _ _ _
  have hQ : KQ hist a t w mb 0 0 0 [] [] (.slice none 0 0) W2 := by
    refine ⟨⟨List.nodup_nil, (fun _ h => by cases h), _, owns_frame (F := fun _ => False) ho (by rw [hW2]; exact (Fr.refl _ _).alloc _) (fun e => e), mapOf_nil⟩, GK.zero _ _ _, ?_, World.ownsRow_nil _ _ _ _, Nat.zero_le _, Nat.zero_le _, by omega, hB2⟩
    rw [hW2, hmb]
    have := block_alloc_new (w.alloc (.map #[] 0)) (.cells #[.slice none 0 0] 64)
    simpa using this
  have HA := Lib.hid hA
  have HT := Lib.hid hT
  have HW2 := Lib.hid hW2
  have HMB := Lib.hid hmb
  have HQ := Lib.hid hQ
  clear h hA hT hget hb e1 e2 q1 q2 q3 c1 hW2 hmb hB2 ho hQ
  go_enter Tryz.func54, Tryz.ntmps54
  go_wp2_with fail
  refine HA.out.mono ?_
  rintro e w1 ⟨rfl, rfl⟩
  go_wp2_with fail
  refine HT.out.mono ?_
  rintro e w1 ⟨rfl, rfl⟩
  go_wp2_with fail
  rw [← HW2.out, ← HMB.out]
  go_loopw [30] (fun vi X => ∃ (i cc : Nat) (M U : List KeyP) (v : Value), i ≤ hist.length ∧ vi = .int .i64 i ∧ KQ hist a t w1 mb i 0 cc M U v X) (fun vi _ => hist.length - (intOf vi).toNat)
  case atStart => exact ⟨0, 0, [], [], _, Nat.zero_le _, rfl, HQ.out⟩
  case round =>
    obtain ⟨i, cc, M, U, v, hi, rfl, hq⟩ := hrel
    have HQ1 := Lib.hid hq
    clear hq
    by_cases hlt : i < hist.length
    · obtain ⟨tx, htx⟩ : ∃ tx, hist[i]? = some tx := ⟨_, List.getElem?_eq_getElem hlt⟩
      obtain ⟨b0, b, cap, rfl, hb0, hc, hbb, ho⟩ := HG.out i tx htx
      have hokt := okL_iff.1 (HOK.out tx (List.mem_of_getElem? htx))
      have ht8 : tx.length ≤ 8 := hokt.1.2
      have c2 := below_cell HQ1.out.be hb0 hc
      have hb02 : b0 < wr.heap.size := Nat.lt_of_lt_of_le hb0 HQ1.out.be.size
      have i0 : (0 : Int) ≤ (i : Int) := by omega
      have i1 : (i : Int) < (hist.length : Int) := by omega
      have HO := Lib.hid ho
      have HTX := Lib.hid htx
      have HOKT := Lib.hid hokt
      clear hc ho htx hokt
      go_wp2_with fail
      go_loopw [36] (fun vi X => ∃ (q cc : Nat) (M U : List KeyP) (v : Value), q ≤ tx.length ∧ vi = .int .i64 q ∧ KQ hist a t w1 mb i q cc M U v X) (fun vi _ => tx.length - (intOf vi).toNat)
      case atStart => exact ⟨0, cc, M, U, v, Nat.zero_le _, rfl, HQ1.out⟩
      case round =>
        clear HQ1 c2
        obtain ⟨q, cc, M, U, v, hq, rfl, hQ⟩ := hrel
        have HQ2 := Lib.hid hQ
        clear hQ
        by_cases hqt : q < tx.length
        · obtain ⟨bq, f, n, o1, sx, m, x1, x2, u, g1, e1, hbl, d0, d1, d2, d3, d4, d5, d6⟩ := opsAt_get (HO.out.below HQ2.out.be) hqt
          cases e1
          simp only [Nat.zero_add] at d0 d1 d2 d3 d4 d5 d6
          have hkb : keyB ⟨n, o1, sx, m⟩ = true := op_key (List.all_eq_true.1 HOKT.out.2 _ (List.mem_of_getElem? g1.out))
          obtain ⟨W4, hW4⟩ : ∃ W4, W4 = wr.alloc (.cells #[.int .i64 n, .int .i64 o1, .string sx, .int .i64 m, .int .i64 x1, .int .i64 x2, .string u] 46) := ⟨_, rfl⟩
          have hB4 : Below wr.heap.size wr W4 := by rw [hW4]; exact (Below.refl _ _).alloc (Nat.le_refl _) _
          have hQ4 := HQ2.out.below hB4
          have hpb : W4.heap[wr.heap.size]? = some (.cells #[.int .i64 n, .int .i64 o1, .string sx, .int .i64 m, .int .i64 x1, .int .i64 x2, .string u] 46 (0, 0)) := by rw [hW4]; exact block_alloc_new _ _
          obtain ⟨p, hp⟩ : ∃ p, p = wr.heap.size := ⟨_, rfl⟩
          rw [← hp] at hpb
          have k0 : W4.cell? ⟨p, 0, none⟩ = some (.int .i64 n) := block_cell hpb 0
          have k1 : W4.cell? ⟨p, 1, none⟩ = some (.int .i64 o1) := block_cell hpb 1
          have k2 : W4.cell? ⟨p, 2, none⟩ = some (.string sx) := block_cell hpb 2
          have k3 : W4.cell? ⟨p, 3, none⟩ = some (.int .i64 m) := block_cell hpb 3
          have hpl : p < W4.heap.size := lt_of_block hpb
          have hlook := kad_look hQ4.kad hkb
          have qq0 : (0 : Int) ≤ (q : Int) := by omega
          have qq1 : (q : Int) < (tx.length : Int) := by omega
          have hmbl : mb + 1 < p := by have := lt_of_block HQ2.out.box; omega
          have HRL := Lib.hid (fun (r : Nat) (hr : v.ownBlock = some r) => show r < p from by rw [hp]; exact (HQ2.out.row.lt r hr).2)
          have HKB := Lib.hid hkb
          have HW4 := Lib.hid hW4
          have HQ4 := Lib.hid hQ4
          have HPB := Lib.hid hpb
          have HPE := Lib.hid hp
          have hcc : cc ≤ 1208 := by have := HQ2.out.cnt; omega
          have hUl : U.length ≤ 1208 := by have := HQ2.out.len; omega
          clear hkb hW4 hB4 hQ4 hpb hp HQ2
          by_cases hm : (⟨n, o1, sx, m⟩ : KeyP) ∈ M
          · rw [decide_eq_true hm] at hlook
            obtain ⟨D, hown, hD⟩ := HQ4.out.kad.own
            obtain ⟨M', n', o', hD', hm'⟩ := kad_put HQ4.out.kad.nod HQ4.out.kad.ok hD ⟨n, o1, sx, m⟩ HKB.out
            have HD' := Lib.hid hD'
            have HN' := Lib.hid n'
            have HO' := Lib.hid o'
            have HMM := Lib.hid hm'
            have HOW := Lib.hid hown
            have HM := Lib.hid hm
            clear hD hD' n' o' hm' hown hm
            go_upto_region 14 with fail
            rw [← HW4.out, ← HPE.out]
            go_wp2_with (at_mapUpdate; refine wpList_mapUpdate_own _ rfl _ _ _ 177 rfl 29 4 keyLaw Tryz.underlying177 boolR mb cc D rfl HOW.out (by unfold maxLen; omega) _ _ _ rfl rfl (keyOf_key (k := ⟨n, o1, sx, m⟩) HKB.out) boolD [] rfl ?_; intro w9 hown9 hgrow9)
            exact ⟨⟨q + 1, cc + 1, M', U, v, by omega, by go_num, HQ4.out.put hgrow9 ⟨HN'.out, HO'.out, _, hown9, HD'.out⟩ (HQ4.out.gk.old (o := ⟨⟨n, o1, sx, m⟩, x1, x2, u⟩) HTX.out g1.out HM.out HMM.out)⟩, by simp [intOf]; omega⟩
          · rw [decide_eq_false hm] at hlook
            have hcs := rpsaid_any ⟨n, o1, sx, m⟩ a t W4 (HP.out.below HQ4.out.be) hah
            obtain ⟨x, hx⟩ : ∃ x, x = saidH hist ⟨n, o1, sx, m⟩ a t := ⟨_, rfl⟩
            rw [← hx] at hcs
            have HX := Lib.hid hx
            have HM := Lib.hid hm
            clear hx hm
            by_cases h0 : x.size = 0
            · have hv1 := empty_true h0
              have hv2 : (!x.toList.isEmpty) = false := by rw [hv1]; rfl
              have HZ := Lib.hid h0
              clear h0
              go_upto_region 14 with fail
              rw [← HW4.out, ← HPE.out]
              go_wp2_with (first
                | (go_at_call 89; (with_reducible refine hcs.mono ?_); rintro e w5 ⟨rfl, b5⟩; have HQ5 := Lib.hid (HQ4.out.below b5); have j0 := below_cell b5 hpl k0; have j1 := below_cell b5 hpl k1; have j2 := below_cell b5 hpl k2; have j3 := below_cell b5 hpl k3; have hpl5 := Nat.lt_of_lt_of_le hpl b5.size; obtain ⟨D, hown, hD⟩ := HQ5.out.kad.own; obtain ⟨M', n', o', hD', hm'⟩ := kad_put HQ5.out.kad.nod HQ5.out.kad.ok hD ⟨n, o1, sx, m⟩ HKB.out; have HD' := Lib.hid hD'; have HN' := Lib.hid n'; have HO' := Lib.hid o'; have HMM := Lib.hid hm'; have HOW := Lib.hid hown; clear b5 hD hD' n' o' hm' hown)
                | (at_mapUpdate; refine wpList_mapUpdate_own _ rfl _ _ _ 177 rfl 29 4 keyLaw Tryz.underlying177 boolR mb cc D rfl HOW.out (by unfold maxLen; omega) _ _ _ rfl rfl (keyOf_key (k := ⟨n, o1, sx, m⟩) HKB.out) boolD [] rfl ?_; intro w9 hown9 hgrow9))
              exact ⟨⟨q + 1, cc + 1, M', U, v, by omega, by go_num, HQ5.out.put hgrow9 ⟨HN'.out, HO'.out, _, hown9, HD'.out⟩ (HQ5.out.gk.no (o := ⟨⟨n, o1, sx, m⟩, x1, x2, u⟩) HTX.out g1.out (by show (saidH hist ⟨n, o1, sx, m⟩ a t).size = 0; rw [← HX.out]; exact HZ.out) HMM.out)⟩, by simp [intOf]; omega⟩
            · have hv1 := empty_false h0
              have hv2 : (!x.toList.isEmpty) = true := by rw [hv1]; rfl
              have HZ := Lib.hid h0
              clear h0
              go_upto_region 14 with fail
              rw [← HW4.out, ← HPE.out]
              go_wp2_with (first
                | (go_at_call 89; (with_reducible refine hcs.mono ?_); rintro e w5 ⟨rfl, b5⟩; have HQ5 := Lib.hid (HQ4.out.below b5); have j0 := below_cell b5 hpl k0; have j1 := below_cell b5 hpl k1; have j2 := below_cell b5 hpl k2; have j3 := below_cell b5 hpl k3; have hpl5 := Nat.lt_of_lt_of_le hpl b5.size; have HROW := Lib.hid HQ5.out.row; have bx := block_cell HQ5.out.box 0; have bl := lt_of_block HQ5.out.box; have HPB5 := Lib.hid ((b5.block _ hpl).trans HPB.out); have HPL5 := Lib.hid hpl5; clear b5)
                | (at_builtin; refine appKey rfl _ _ rfl (mb + 2) _ U rfl (HROW.out.alloc _) w5.heap.size ⟨n, o1, sx, m⟩ rfl (by simp) (by simp) (by simp) (by simp) (by omega) (by simp; omega) w5 ((Below.refl _ _).alloc (by omega) _) ?_; intro v' w6 hown6 hB6 hs6 hg6; obtain ⟨a6, n6, c6, hv6⟩ := ownsRow_shape hown6; subst hv6; have b6 := (hB6.block (mb + 1) (by omega)).trans HQ5.out.box; have bc := block_cell b6 0; have bf := block_free b6 0; have bl6 := lt_of_block b6; have P6 := (hg6.block p (by simp; omega) (fun e => by have := HRL.out p e.symm; omega)).trans (block_alloc HPB5.out _); have HKA := Lib.hid (HQ5.out.app hB6 hown6); have P7 := block_set_other P6 (p := ⟨mb + 1, 0, none⟩) (by show p ≠ mb + 1; omega) (.slice a6 n6 c6); obtain ⟨W7, hW7⟩ : ∃ W7, W7 = w6.setCell ⟨mb + 1, 0, none⟩ (.slice a6 n6 c6) := ⟨_, rfl⟩; rw [← hW7] at HKA P7; have HW7 := Lib.hid hW7; have z0 := block_cell P7 0; have z1 := block_cell P7 1; have z2 := block_cell P7 2; have z3 := block_cell P7 3; have zl := lt_of_block P7; obtain ⟨D, hown, hD⟩ := HKA.out.kad.own; obtain ⟨M', n', o', hD', hm'⟩ := kad_put HKA.out.kad.nod HKA.out.kad.ok hD ⟨n, o1, sx, m⟩ HKB.out; have HD' := Lib.hid hD'; have HN' := Lib.hid n'; have HO' := Lib.hid o'; have HMM := Lib.hid hm'; have HOW := Lib.hid hown; clear hown6 hB6 hs6 hg6 b6 hW7 P6 P7 hD hD' n' o' hm' hown)
                | (rw [← HW7.out])
                | (at_mapUpdate; refine wpList_mapUpdate_own _ rfl _ _ _ 177 rfl 29 4 keyLaw Tryz.underlying177 boolR mb cc D rfl HOW.out (by unfold maxLen; omega) _ _ _ rfl rfl (keyOf_key (k := ⟨n, o1, sx, m⟩) HKB.out) boolD [] rfl ?_; intro w9 hown9 hgrow9))
              exact ⟨⟨q + 1, cc + 1, M', U ++ [⟨n, o1, sx, m⟩], .slice a6 n6 c6, by omega, by go_num, HQ5.out.yes HKA.out hgrow9 ⟨HN'.out, HO'.out, _, hown9, HD'.out⟩ (HQ5.out.gk.yes (o := ⟨⟨n, o1, sx, m⟩, x1, x2, u⟩) HTX.out g1.out HM.out (by show (saidH hist ⟨n, o1, sx, m⟩ a t).size ≠ 0; rw [← HX.out]; exact HZ.out) HMM.out)⟩, by simp [intOf]; omega⟩
        · obtain rfl : q = tx.length := by omega
          go_wp2_with fail
          exact ⟨⟨i + 1, cc, M, U, v, by omega, by go_num, HQ2.out.tx HTX.out ht8⟩, by simp [intOf]; omega⟩
    · obtain rfl : i = hist.length := by omega
      have bx := block_cell HQ1.out.box 0
      have bl := lt_of_block HQ1.out.box
      have hU : U.length < 4611686018427387904 := by have := HQ1.out.len; omega
      have hcs := rsortKeys_own (mb + 1) (mb + 2) v U wr HQ1.out.row bx (by omega) (by omega) HQ1.out.gk.nod hU
      go_wp2_with (go_at_call 94; (with_reducible refine hcs.mono ?_); rintro e w5 ⟨rfl, ⟨S, hS1, hS2, hS3, hS4⟩, b5⟩; have q5 := (b5.block (mb + 1) (by omega)).trans HQ1.out.box; have bx5 := block_cell q5 0; have bl5 := lt_of_block q5; have HS2 := Lib.hid hS2; have HS3 := Lib.hid hS3; have HS4 := Lib.hid hS4; have B5 := Lib.hid b5; clear b5 q5 hS1 hS2 hS3 hS4)
      go_ret2
      have hmm := HQ1.out.hm
      exact ⟨v, S, rfl, ⟨HS2.out, fun k => (HS3.out k).trans (HQ1.out.gk.all k)⟩, ownsRow_mono HS4.out (by omega), HQ1.out.be.trans (B5.out.mono (by omega))⟩
end
end Go.Proofs.YtacedfcckkpciaaGreatDoor
