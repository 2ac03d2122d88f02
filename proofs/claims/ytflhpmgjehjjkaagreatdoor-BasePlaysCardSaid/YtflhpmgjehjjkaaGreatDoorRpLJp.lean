/- Plain law, no program in it: all that was told between two counts, of times of a span, is told at the span's beginning or at an end within it. -/
import Derived.Test.YtflhpmgjehjjkaaGreatDoorRpNJp
namespace Go.Proofs.YtflhpmgjehjjkaaGreatDoor
open Go
theorem near_end : ∀ (E : List Int) (f y : Int), f <= y -> ∃ e, (e = f \/ e ∈ E) /\ f <= e /\ e <= y /\ ∀ x ∈ E, ¬ (e < x /\ x <= y)
 | [], f, y, h => ⟨f, .inl rfl, Int.le_refl _, h, fun x hx => by cases hx⟩
 | a :: E, f, y, h => by
   obtain ⟨e, h1, h2, h3, h4⟩ := near_end E f y h
   by_cases ha : e < a /\ a <= y
   · refine ⟨a, .inr (by simp), by omega, ha.2, fun x hx hh => ?_⟩
     rcases List.mem_cons.1 hx with rfl | hx
     · omega
     · exact h4 x hx ⟨by omega, hh.2⟩
   · refine ⟨e, h1.imp id (List.mem_cons_of_mem _), h2, h3, fun x hx hh => ?_⟩
     rcases List.mem_cons.1 hx with rfl | hx
     · exact ha hh
     · exact h4 x hx hh
def evB (hist : List (List OpP)) (k : KeyP) (E : List Int) (f t : Int) (n i j : Nat) (x : ByteArray) : Prop :=
 (∃ i' : Nat, n <= i' /\ i' < i /\ ∃ e ∈ E, (f <= e /\ e < t) /\ saidH hist k i' e = x) \/ ∃ e ∈ E.take j, (f <= e /\ e < t) /\ saidH hist k i e = x
section
variable {hist : List (List OpP)} {k : KeyP} {E : List Int} {f t : Int} {n i j : Nat}
theorem evB_zero (x : ByteArray) : ¬ evB hist k E f t n n 0 x := by
 rintro (⟨i', h1, h2, _⟩ | ⟨e, he, _⟩)
 · omega
 · simp at he
theorem evB_in {e : Int} (h : E[j]? = some e) (he : f <= e /\ e < t) (x : ByteArray) : evB hist k E f t n i (j + 1) x ↔ x = saidH hist k i e \/ evB hist k E f t n i j x := by
 have ht : E.take (j + 1) = E.take j ++ [e] := by rw [List.take_add_one, h]; rfl
 unfold evB
 rw [ht]
 constructor
 · rintro (h1 | ⟨e', he', h2, h3⟩)
   · exact .inr (.inl h1)
   · rcases List.mem_append.1 he' with h4 | h4
     · exact .inr (.inr ⟨e', h4, h2, h3⟩)
     · rw [List.mem_singleton.1 h4] at h3; exact .inl h3.symm
 · rintro (rfl | h1 | ⟨e', he', h2, h3⟩)
   · exact .inr ⟨e, by simp, he, rfl⟩
   · exact .inl h1
   · exact .inr ⟨e', List.mem_append.2 (.inl he'), h2, h3⟩
theorem evB_out {e : Int} (h : E[j]? = some e) (he : ¬ (f <= e /\ e < t)) (x : ByteArray) : evB hist k E f t n i (j + 1) x ↔ evB hist k E f t n i j x := by
 have ht : E.take (j + 1) = E.take j ++ [e] := by rw [List.take_add_one, h]; rfl
 unfold evB
 rw [ht]
 constructor
 · rintro (h1 | ⟨e', he', h2, h3⟩)
   · exact .inl h1
   · rcases List.mem_append.1 he' with h4 | h4
     · exact .inr ⟨e', h4, h2, h3⟩
     · rw [List.mem_singleton.1 h4] at h2; exact absurd h2 he
 · rintro (h1 | ⟨e', he', h2, h3⟩)
   · exact .inl h1
   · exact .inr ⟨e', List.mem_append.2 (.inl he'), h2, h3⟩
theorem evB_next (hni : n <= i) (x : ByteArray) : evB hist k E f t n i E.length x ↔ evB hist k E f t n (i + 1) 0 x := by
 unfold evB
 rw [List.take_of_length_le (Nat.le_refl _)]
 constructor
 · rintro (⟨i', h1, h2, r⟩ | ⟨e, he, r⟩)
   · exact .inl ⟨i', h1, by omega, r⟩
   · exact .inl ⟨i, hni, by omega, e, he, r⟩
 · rintro (⟨i', h1, h2, e, he, r⟩ | ⟨e, he, _⟩)
   · rcases Nat.lt_or_ge i' i with h | h
     · exact .inl ⟨i', h1, h, e, he, r⟩
     · have : i' = i := by omega
       subst this; exact .inr ⟨e, he, r⟩
   · simp at he
theorem evB_all {m : Nat} (hE : ∀ e, isEnd hist.flatten k e -> e ∈ E) {x : ByteArray} (hx : x.size ≠ 0) : evB hist k (E ++ [f]) f t n (m + 1) 0 x ↔ EverIs hist k n m f t x := by
 constructor
 · rintro (⟨i', h1, h2, e, _, h3, h4⟩ | ⟨e, he, _⟩)
   · exact ⟨hx, i', h1, by omega, e, h3.1, h3.2, h4⟩
   · simp at he
 · rintro ⟨_, i', h1, h2, y, h3, h4, h5⟩
   obtain ⟨e, q1, q2, q3, q4⟩ := near_end E f y h3
   refine .inl ⟨i', h1, by omega, e, ?_, ⟨q2, by omega⟩, ?_⟩
   · rcases q1 with rfl | q1
     · simp
     · exact List.mem_append.2 (.inl q1)
   · rw [<- h5]
     exact saidL_same _ k e y _ q3 fun z hz hh => q4 z (hE z (isEnd_take hz)) hh
end
end Go.Proofs.YtflhpmgjehjjkaaGreatDoor
