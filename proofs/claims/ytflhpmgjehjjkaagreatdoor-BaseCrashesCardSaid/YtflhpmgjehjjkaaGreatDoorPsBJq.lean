/- keep's changes by numbers: a few keys, and the transactions they make (in plain words). -/
import Derived.Test.YtflhpmgjehjjkaaGreatDoorPsAJq
import Derived.Test.YtflhpmgjehjjkaaGreatDoorPickJq
namespace Go.Proofs.YtflhpmgjehjjkaaGreatDoor
open Go.RowKit Go.Deep Go.Shelf Go.Sort Go.Maps

/-- A change by numbers. -/
structure SayP where
  key : Int
  fr : Int
  many : Int
  value : Int
  last : Int
structure SayP.Ok (s : SayP) : Prop where
  key : i64B s.key
  fr : i64B s.fr
  many : i64B s.many
  value : i64B s.value
  last : i64B s.last
def sayCells (s : SayP) : List Value := [.int .i64 s.key, .int .i64 s.fr, .int .i64 s.many, .int .i64 s.value, .int .i64 s.last]
def saysAt (w : World) (ao : Option Addr) (l : List SayP) : Prop := ∀ i s, l[i]? = some s → ∃ b f, ao = some ⟨b, f, none⟩ ∧ ∀ j u, (sayCells s)[j]? = some u → w.cell? ⟨b, f + i * 5 + j, none⟩ = some u
theorem saysAt.below {w w' : World} {ao : Option Addr} {l : List SayP} (h : saysAt w ao l) (hb : Below w.heap.size w w') : saysAt w' ao l :=
  fun i o hi => let ⟨b, f, h1, h2⟩ := h i o hi
    ⟨b, f, h1, fun j u hj => (hb.cell (p := ⟨b, _, none⟩) (World.block_lt_of_cell? w _ (h2 j u hj))).trans (h2 j u hj)⟩
theorem saysAt_get {w : World} {ao : Option Addr} {l : List SayP} (h : saysAt w ao l) {k : Nat} (hk : k < l.length) :
    ∃ b f n a m v u, Hid (l[k]? = some ⟨n, a, m, v, u⟩) ∧ ao = some ⟨b, f, none⟩ ∧ b < w.heap.size ∧ w.cell? ⟨b, f + k * 5, none⟩ = some (.int .i64 n) ∧ w.cell? ⟨b, f + k * 5 + 1, none⟩ = some (.int .i64 a) ∧ w.cell? ⟨b, f + k * 5 + 2, none⟩ = some (.int .i64 m) ∧
      w.cell? ⟨b, f + k * 5 + 3, none⟩ = some (.int .i64 v) ∧ w.cell? ⟨b, f + k * 5 + 4, none⟩ = some (.int .i64 u) := by
  obtain ⟨n, a, m, v, u, hg⟩ : ∃ n a m v u, l[k]? = some ⟨n, a, m, v, u⟩ := ⟨l[k].key, l[k].fr, l[k].many, l[k].value, l[k].last, List.getElem?_eq_getElem hk⟩
  obtain ⟨b, f, h1, h2⟩ := h k _ hg
  have c0 := h2 0 _ rfl
  exact ⟨b, f, n, a, m, v, u, hg, h1, World.block_lt_of_cell? w _ c0, c0, h2 1 _ rfl, h2 2 _ rfl, h2 3 _ rfl, h2 4 _ rfl⟩

/-! ### Keys -/
def keyN (p : Int) : KeyP := if p < 4 then ⟨1, p, ⟨#[]⟩, 0⟩ else if p < 7 then ⟨2, p - 4, ⟨#[116, 111]⟩, (p - 3) % 4⟩ else ⟨3, p - 7, ⟨#[110, 97, 109, 101]⟩, 0⟩
def keyP (n : Int) : KeyP := keyN (pickI n 9)
theorem keyN_B {p : Int} (h : 0 ≤ p ∧ p < 9) : keyB (keyN p) = true := by
  have : ∀ i : Fin 9, keyB (keyN (i.val : Int)) = true := by decide +kernel
  have h1 := this ⟨p.toNat, by omega⟩
  have e : ((p.toNat : Nat) : Int) = p := by omega
  simpa [e] using h1
theorem keyP_B (n : Int) : keyB (keyP n) = true := keyN_B (pickI_lt n 9 (by decide) (by decide))

/-! ### Values -/
def valN (p : Int) : ByteArray := if p = 0 then ⟨#[]⟩ else if p = 1 then ⟨#[97]⟩ else if p = 2 then ⟨#[98]⟩ else ⟨#[99]⟩
theorem valN_B {p : Int} (h : 0 ≤ p ∧ p < 4) : (decide ((valN p).size = 0) || wordB (valN p)) = true := by
  have : ∀ i : Fin 4, (decide ((valN (i.val : Int)).size = 0) || wordB (valN (i.val : Int))) = true := by decide +kernel
  have h1 := this ⟨p.toNat, by omega⟩
  have e : ((p.toNat : Nat) : Int) = p := by omega
  simpa [e] using h1
def sayOp (s : SayP) : OpP := ⟨keyP s.key, pickI s.fr 50, pickI s.fr 50 + 1 + pickI s.many 20, valN (pickI s.value 4)⟩
theorem sayOp_B (s : SayP) : opB (sayOp s) = true := by
  have h1 := pickI_lt s.fr 50 (by decide) (by decide)
  have h2 := pickI_lt s.many 20 (by decide) (by decide)
  unfold opB
  rw [Bool.and_eq_true, Bool.and_eq_true]
  refine ⟨keyP_B _, ?_, valN_B (pickI_lt s.value 4 (by decide) (by decide))⟩
  unfold spanB sayOp
  simp only [decide_eq_true_eq]
  omega
/-! ### Transactions -/
/-- A transaction ends here. -/
def endsB (n m i : Nat) (last : Int) : Bool := decide (m = 8) || (decide (pickI last 2 = 0) || decide (i + 1 = n))
/-- One change more: of n, the i-th. -/
def stepT (n i : Nat) (c : List (List OpP) × List OpP) (s : SayP) : List (List OpP) × List OpP :=
  if endsB n (c.2.length + 1) i s.last then (c.1 ++ [c.2 ++ [sayOp s]], []) else (c.1, c.2 ++ [sayOp s])
def stepsT (l : List SayP) : Nat → List (List OpP) × List OpP
  | 0 => ([], [])
  | k + 1 => match l[k]? with
    | some s => stepT l.length k (stepsT l k) s
    | none => stepsT l k
def opsT (l : List SayP) : List (List OpP) := (stepsT l l.length).1
theorem stepsT_succ {l : List SayP} {k : Nat} {s : SayP} (h : l[k]? = some s) : stepsT l (k + 1) = stepT l.length k (stepsT l k) s := by rw [stepsT, h]
structure StepOk (k : Nat) (c : List (List OpP) × List OpP) : Prop where
  len : c.1.length ≤ k
  tx : ∀ t ∈ c.1, okL t = true
  cur : c.2.length < 8
  ops : c.2.all opB = true
theorem stepsT_ok (l : List SayP) : ∀ k, StepOk k (stepsT l k) := fun k => by
  induction k with
  | zero => exact ⟨Nat.le_refl _, (fun _ h => by cases h), (by show 0 < 8; decide), rfl⟩
  | succ k ih =>
    rw [stepsT]
    cases h : l[k]? with
    | none => exact ⟨Nat.le_succ_of_le ih.len, ih.tx, ih.cur, ih.ops⟩
    | some s =>
      simp only
      have ha : (((stepsT l k).2 ++ [sayOp s]).all opB) = true := by rw [List.all_append, ih.ops]; simp [sayOp_B]
      have hl : ((stepsT l k).2 ++ [sayOp s]).length = (stepsT l k).2.length + 1 := by simp
      unfold stepT
      split
      · refine ⟨by simp; exact ih.len, fun t ht => ?_, by simp, rfl⟩
        rcases List.mem_append.1 ht with ht | ht
        · exact ih.tx t ht
        · rw [List.mem_singleton.1 ht]
          exact okL_iff.2 ⟨by have := ih.cur; omega, ha⟩
      · rename_i he
        have : ¬ (stepsT l k).2.length + 1 = 8 := fun e => he (by unfold endsB; simp [e])
        exact ⟨Nat.le_succ_of_le ih.len, ih.tx, by have := ih.cur; show ((stepsT l k).2 ++ [sayOp s]).length < 8; omega, ha⟩
theorem opsT_ok (l : List SayP) : ∀ t ∈ opsT l, okL t = true := (stepsT_ok l _).tx
theorem opsT_len (l : List SayP) : (opsT l).length ≤ l.length := (stepsT_ok l _).len

/-! ### The walk: keyOf -/
set_option maxRecDepth 100000 in
set_option maxHeartbeats 1000000 in
theorem keyOf_any (n : Int) (w : World) (hn : i64B n) :
    Calls Tryz.prog 34 #[.int .i64 n] w fun e w' => e = .returned (.agg #[.int .i64 (keyP n).kind, .int .i64 (keyP n).a, .string (keyP n).word, .int .i64 (keyP n).b]) ∧ Below w.heap.size w w' := by
  have hp := pickI_lt n 9 (by decide) (by decide)
  have cp := fun W => pick_any n 9 W hn.1 (by have := hn.2; omega) (by decide) (by decide)
  have E := Lib.hid (show keyP n = keyN (pickI n 9) from rfl)
  generalize pickI n 9 = p at *
  rcases Decidable.em (p < 4) with h4 | h4
  · have EK := Lib.hid (E.out.trans (show keyN p = ⟨1, p, ⟨#[]⟩, 0⟩ by unfold keyN; rw [if_pos h4]))
    clear E
    go_enter Tryz.func34, Tryz.ntmps34
    go_wp2_with fail
    refine (cp _).mono ?_
    rintro e w1 ⟨rfl, rfl⟩
    go_wp2_with fail
    exact bodyPost_ret (v := .agg #[.int .i64 1, .int .i64 p, .string ⟨#[]⟩, .int .i64 0]) (by simp [results, Tryz.results34, go_sem]) rfl ⟨by rw [EK.out], by repeat (first | exact (Below.refl _ w).alloc (Nat.le_refl _) _ | refine Below.setCell ?_ (Nat.le_refl _) _)⟩
  · rcases Decidable.em (p < 7) with h7 | h7
    · have EK := Lib.hid (E.out.trans (show keyN p = ⟨2, p - 4, ⟨#[116, 111]⟩, (p - 3) % 4⟩ by unfold keyN; rw [if_neg h4, if_pos h7]))
      clear E
      go_enter Tryz.func34, Tryz.ntmps34
      go_wp2_with fail
      refine (cp _).mono ?_
      rintro e w1 ⟨rfl, rfl⟩
      go_wp2_with fail
      exact bodyPost_ret (v := .agg #[.int .i64 2, .int .i64 (p - 4), .string ⟨#[116, 111]⟩, .int .i64 ((p - 3) % 4)]) (by simp [results, Tryz.results34, go_sem]) rfl ⟨by rw [EK.out], by repeat (first | exact (Below.refl _ w).alloc (Nat.le_refl _) _ | refine Below.setCell ?_ (Nat.le_refl _) _)⟩
    · have EK := Lib.hid (E.out.trans (show keyN p = ⟨3, p - 7, ⟨#[110, 97, 109, 101]⟩, 0⟩ by unfold keyN; rw [if_neg h4, if_neg h7]))
      clear E
      go_enter Tryz.func34, Tryz.ntmps34
      go_wp2_with fail
      refine (cp _).mono ?_
      rintro e w1 ⟨rfl, rfl⟩
      go_wp2_with fail
      exact bodyPost_ret (v := .agg #[.int .i64 3, .int .i64 (p - 7), .string ⟨#[110, 97, 109, 101]⟩, .int .i64 0]) (by simp [results, Tryz.results34, go_sem]) rfl ⟨by rw [EK.out], by repeat (first | exact (Below.refl _ w).alloc (Nat.le_refl _) _ | refine Below.setCell ?_ (Nat.le_refl _) _)⟩
end Go.Proofs.YtflhpmgjehjjkaaGreatDoor
