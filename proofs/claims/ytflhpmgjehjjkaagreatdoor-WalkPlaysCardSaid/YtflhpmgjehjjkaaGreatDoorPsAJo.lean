/- A past that knows a history: what each of its methods answers, in the history's words. -/
import Derived.Test.YtflhpmgjehjjkaaGreatDoorPwNJo
namespace Go.Proofs.YtflhpmgjehjjkaaGreatDoor
open Go.RowKit Go.Deep Go.Shelf Go.Sort Go.Maps

theorem arrInt2 (x y : Int) : ∀ w, (Instr.index 45 (.agg #[.int .i64 x, .int .i64 y]) (.int .i64 0)).run Tryz.prog w = .ok (.int .i64 x) w ∧ (Instr.index 45 (.agg #[.int .i64 x, .int .i64 y]) (.int .i64 1)).run Tryz.prog w = .ok (.int .i64 y) w := fun w => ⟨by kernel_rfl, by kernel_rfl⟩
end Go.Proofs.YtflhpmgjehjjkaaGreatDoor

namespace Go.Proofs.YtflhpmgjehjjkaaGreatDoor
open Go.RowKit Go.Deep Go.Shelf Go.Sort Go.Maps



end Go.Proofs.YtflhpmgjehjjkaaGreatDoor

namespace Go.Proofs.YtflhpmgjehjjkaaGreatDoor
open Go.RowKit Go.Deep Go.Shelf Go.Sort Go.Maps




end Go.Proofs.YtflhpmgjehjjkaaGreatDoor

namespace Go.Proofs.YtflhpmgjehjjkaaGreatDoor
open Go.RowKit Go.Deep Go.Shelf Go.Sort Go.Maps

/-- In memory: a past of that history. -/
structure PastIs (w : World) (pb po : Nat) (R : Rest) (hist : List (List OpP)) (s : Pst) (g : Gh) : Prop where
  at' : PastAt w pb po R s g
  wf : Wf s
  told : Told hist s
  next : s.next ≤ 24 * s.now
  len : hist.length ≤ 150
theorem PastIs.now {w : World} {pb po : Nat} {R : Rest} {hist : List (List OpP)} {s : Pst} {g : Gh} (h : PastIs w pb po R hist s g) : s.now = hist.length := h.told.now
theorem PastIs.nx {w : World} {pb po : Nat} {R : Rest} {hist : List (List OpP)} {s : Pst} {g : Gh} (h : PastIs w pb po R hist s g) : s.next ≤ 3600 := by
  have h1 := h.next; have h2 := h.now; have h3 := h.len; omega
theorem PastIs.below {w w' : World} {pb po : Nat} {R : Rest} {hist : List (List OpP)} {s : Pst} {g : Gh} (h : PastIs w pb po R hist s g) (hb : Below w.heap.size w w') : PastIs w' pb po R hist s g := ⟨h.at'.below hb, h.wf, h.told, h.next, h.len⟩
theorem PastIs.frame {F : Nat → Prop} {w w' : World} {pb po : Nat} {R : Rest} {hist : List (List OpP)} {s : Pst} {g : Gh} (h : PastIs w pb po R hist s g) (hf : Fr F w w') (hn : ∀ k, g.foot pb k → ¬ F k) : PastIs w' pb po R hist s g := ⟨h.at'.frame hf hn, h.wf, h.told, h.next, h.len⟩
theorem wf0 : Wf ⟨0, 0, 0, []⟩ := ⟨List.nodup_nil, (fun _ h => by cases h), (fun _ h => by cases h), (fun _ h => by cases h), (fun _ h => by cases h), (fun _ h => by cases h), (fun _ h => by cases h), Int.le_refl _, Int.le_refl _, Int.le_refl _⟩
theorem told0 : Told [] ⟨0, 0, 0, []⟩ := ⟨rfl, Int.le_refl _, Int.le_refl _, fun k n t x _ hn => by
  constructor
  · rintro ⟨v, hv, _⟩; cases hv
  · rintro ⟨h1, h2⟩
    simp [saidH, saidL] at h2
    rw [← h2] at h1
    exact absurd rfl h1⟩
theorem past_is_new {w : World} {pb po : Nat} {R : Rest} (hl : R.pre.length = po) (h : w.heap[pb]? = some (.cells (pcells R 0 0 0 none none) R.ty (0, 0))) : PastIs w pb po R [] ⟨0, 0, 0, []⟩ noGh :=
  ⟨past_new hl h, wf0, told0, by decide, by decide⟩
theorem foot_new {pb k : Nat} (h : noGh.foot pb k) : k = pb := by
  rcases h with h | h | h | ⟨x, hx, _⟩
  · exact h
  · cases h
  · cases h
  · cases hx

def CommitIs (pb po : Nat) (R : Rest) (hist : List (List OpP)) (s : Pst) (g : Gh) (l : List OpP) (w : World) (e : Ending) (w' : World) : Prop :=
  ∃ s' g', e = .returned .nilIface ∧ PastIs w' pb po R (hist ++ [l]) s' g' ∧ s'.gone = s.gone ∧ Fr (g.foot pb) w w' ∧ Grows g g' pb w
theorem commit_is (ao : Option Addr) (c : Nat) (l : List OpP) (pb po : Nat) (R : Rest) (hist : List (List OpP)) (s : Pst) (g : Gh) (w : World) (h : PastIs w pb po R hist s g) (hl : opsAt w ao l) (hsep : SepOps ao g pb) (hg : PowTab w) (hok : okL l = true) (hn : hist.length < 150) :
    Calls Tryz.prog 9 #[.pointer (some ⟨pb, po, none⟩), .slice ao l.length c] w (CommitIs pb po R hist s g l w) := by
  have hnow := h.now
  have h1 := h.next
  refine (pcommit_ok ao c l pb po R s g w h.at' h.wf hl hsep hg hok (by omega) (by omega)).mono ?_
  rintro e w' ⟨g', rfl, P, F, G⟩
  obtain ⟨c1, c2, c3, c4, c5⟩ := commit_ok h.wf h.told (okL_iff.1 hok).2
  have hl8 := (okL_iff.1 hok).1.2
  exact ⟨_, g', rfl, ⟨P, c1, c2, by rw [c4]; omega, by rw [List.length_append]; simp; omega⟩, c5, F, G⟩
theorem value_is (k : KeyP) (n : Nat) (t : Int) (pb po : Nat) (R : Rest) (hist : List (List OpP)) (s : Pst) (g : Gh) (w : World) (h : PastIs w pb po R hist s g) (hk : keyB k = true) (ht : timeB t = true) (h1 : s.gone ≤ n) (h2 : n ≤ hist.length) :
    Calls Tryz.prog 51 #[.pointer (some ⟨pb, po, none⟩), .agg #[.int .i64 k.kind, .int .i64 k.a, .string k.word, .int .i64 k.b], .int .i64 (n : Nat), .int .i64 t] w fun e w' => e = .returned (.tuple #[.string (saidH hist k n t), .nilIface]) ∧ Below w.heap.size w w' := by
  have ha : askE s n = 0 := by unfold askE; rw [if_neg (by have := h.now; omega), if_neg (by omega)]
  have := pvalue_any k n t pb po R s g w h.at' (by have := (wfkey hk).2; unfold maxLen; omega) (by have := h.nx; omega)
  rw [valV_ok ha hk ht, value_told h.wf h.told ht h1 h2] at this
  exact this
def KeysOut (hist : List (List OpP)) (n : Nat) (t : Int) (w : World) (e : Ending) (w' : World) : Prop :=
  ∃ (v : Value) (L : List KeyP), e = .returned (.tuple #[v, .nilIface]) ∧ KeysIs hist n t L ∧ (∀ k ∈ L, keyB k = true) ∧ L.length ≤ 3600 ∧ w'.ownsRow w.heap.size 44 4 v L.length (flatKeys L) ∧ Below w.heap.size w w'
/-- Of a key that may not be nothing was said. -/
theorem said_key {hist : List (List OpP)} (hok : ∀ l ∈ hist, l.all opB = true) {k : KeyP} {n : Nat} {t : Int} (h : (saidH hist k n t).size ≠ 0) : keyB k = true := by
  have : ∀ (l : List OpP) (x : ByteArray), l.all opB = true → (saidL l k t x).size ≠ 0 → keyB k = true ∨ x.size ≠ 0 := fun l => by
    induction l with
    | nil => intro x _ h; exact .inr h
    | cons o l ih =>
      intro x ha h
      simp only [List.all_cons, Bool.and_eq_true] at ha
      unfold saidL at h
      rw [List.foldl_cons] at h
      rcases ih _ ha.2 h with h1 | h1
      · exact .inl h1
      · split at h1
        · rename_i hk
          exact .inl (by rw [hk.1]; exact op_key ha.1)
        · exact .inr h1
  unfold saidH at h
  rcases this _ _ (List.all_eq_true.2 fun o ho => by
    obtain ⟨l, hl, ho⟩ := List.mem_flatten.1 ho
    exact List.all_eq_true.1 (hok l (List.mem_of_mem_take hl)) o ho) h with h1 | h1
  · exact h1
  · exact absurd rfl h1
theorem keys_is (n : Nat) (t : Int) (pb po : Nat) (R : Rest) (hist : List (List OpP)) (s : Pst) (g : Gh) (w : World) (h : PastIs w pb po R hist s g) (hok : ∀ l ∈ hist, l.all opB = true) (ht : timeB t = true) (h1 : s.gone ≤ n) (h2 : n ≤ hist.length) :
    Calls Tryz.prog 50 #[.pointer (some ⟨pb, po, none⟩), .int .i64 (n : Nat), .int .i64 t] w (KeysOut hist n t w) := by
  have ha : askE s n = 0 := by unfold askE; rw [if_neg (by have := h.now; omega), if_neg (by omega)]
  have hnx := h.nx
  refine (pkeys_ok n t pb po R s g w h.at' ha ht (by omega)).mono ?_
  rintro e w' ⟨v, L, rfl, hp, hm, hown, hll, hb⟩
  refine ⟨v, L, rfl, ⟨hp, fun k => ?_⟩, fun k hk => ((hm k).1 hk).1, by omega, hown, hb⟩
  rw [hm, value_told h.wf h.told ht h1 h2]
  exact ⟨fun h => h.2, fun h => ⟨said_key hok h, h⟩⟩
end Go.Proofs.YtflhpmgjehjjkaaGreatDoor
