/- As XDag, where the operations' slots lie anywhere: among them a variable that the region makes (an alloc into a slot ahead of the row). Over any program. -/
import Derived.Test.YtflhpmgjehjjkaaGreatDoorDag2Jo
namespace Go.Proofs.YtflhpmgjehjjkaaGreatDoor
open Go.RowKit


section
variable {P : Program} {Q : Exit → Act → World → Prop} {F : List Value → Act} {sl : Nat → Nat} {out : Nat → Bool} {a0 : Act} {C : World → Prop} {Rel : World → World → Prop} {φ : Nat → World → Value → Prop}

/-- One operation, whatever has come up so far beyond what it waits for. -/
def DagStepS (P : Program) (Q : Exit → Act → World → Prop) (sl : Nat → Nat) (out : Nat → Bool) (a0 : Act) (C : World → Prop) (Rel : World → World → Prop) (φ : Nat → World → Value → Prop) (i : Nat) (o : Oper) : Prop :=
  ∀ (A : Act) (w : World) (K : Act → World → Prop), C w → (∀ t, out t = true → A.eval (.tmp t) = a0.eval (.tmp t)) → (∀ j : Nat, o.after.any (fun e => Region.binds .any e && e.on == j) = true → φ j w (A.eval (.tmp (sl j)))) →
    (∀ v w', C w' → Rel w w' → φ i w' v → K (A.put o.dst v) w') → o.wp P A w K Q
def DagStepsS (P : Program) (Q : Exit → Act → World → Prop) (sl : Nat → Nat) (out : Nat → Bool) (a0 : Act) (C : World → Prop) (Rel : World → World → Prop) (φ : Nat → World → Value → Prop) : Nat → List Oper → Prop
  | _, [] => True
  | i, o :: l => DagStepS P Q sl out a0 C Rel φ i o ∧ DagStepsS P Q sl out a0 C Rel φ (i + 1) l
theorem DagStepsS.get : ∀ {l : List Oper} {k : Nat}, DagStepsS P Q sl out a0 C Rel φ k l → ∀ i o, l[i]? = some o → DagStepS P Q sl out a0 C Rel φ (k + i) o
  | [], _, _, i, o, h => by simp at h
  | a :: l, k, h, 0, o, ho => by simp at ho; subst ho; exact h.1
  | a :: l, k, h, i + 1, o, ho => by
    have := DagStepsS.get h.2 i o (by simpa using ho)
    rwa [show k + 1 + i = k + (i + 1) by omega] at this




end
/-! ### One slot ahead of the row (a variable that the region makes), the others in a row -/
section
variable {P : Program} {Q : Exit → Act → World → Prop} {df : List Deferred}
end
end Go.Proofs.YtflhpmgjehjjkaaGreatDoor
