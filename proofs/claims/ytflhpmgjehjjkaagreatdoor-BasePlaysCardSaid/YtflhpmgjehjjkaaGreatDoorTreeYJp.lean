/- Plain law, no program in it: trees that are kept low by turns are low: one side is never more than one higher than the other one, and there are at least 2^(high/2) - 1 nodes. -/
import Derived.Test.YtflhpmgjehjjkaaGreatDoorTreeNJp
namespace Go.Proofs.YtflhpmgjehjjkaaGreatDoor
open Go.Deep
def BalT : BT Nd -> Prop
 | .nil => True
 | .node _ _ _ l r => hiT l - hiT r <= 1 /\ hiT r - hiT l <= 1 /\ BalT l /\ BalT r
theorem hi_nil : hiT .nil = 0 := rfl
theorem hi_mk (b : Nat) (a : Nd) (l r : BT Nd) : hiT (mkT b a l r) = 1 + max (hiT l) (hiT r) := rfl
theorem bal_mk {b : Nat} {a : Nd} {l r : BT Nd} (h1 : hiT l - hiT r <= 1) (h2 : hiT r - hiT l <= 1) (hl : BalT l) (hr : BalT r) : BalT (mkT b a l r) := ⟨h1, h2, hl, hr⟩
theorem hi_node {b o : Nat} {a : Nd} {l r : BT Nd} (h : FitT (.node b o a l r)) : hiT (.node b o a l r) = 1 + max (hiT l) (hiT r) := h.2.2.1
theorem turnR_bal {b : Nat} {a : Nd} {l r : BT Nd} (fl : FitT l) (fr : FitT r) (hl : BalT l) (hr : BalT r) (hd : hiT l - hiT r = 2) :
  BalT (turnR b a (upL l) r) /\ hiT l <= hiT (turnR b a (upL l) r) /\ hiT (turnR b a (upL l) r) <= 1 + hiT l := by
 cases l with
 | nil => have := hi_nonneg fr; rw [hi_nil] at hd; omega
 | node xb xo xa xl xr =>
   have e := hi_node fl
   obtain ⟨b1, b2, b3, b4⟩ := hl
   rw [e] at hd ⊢
   unfold upL
   dsimp only
   split
   · rename_i hc
     cases xr with
     | nil => have := hi_nonneg fl.2.2.2.1; rw [hi_nil] at hc; omega
     | node yb yo ya yl yr =>
       have e2 := hi_node fl.2.2.2.2
       obtain ⟨c1, c2, c3, c4⟩ := b4
       rw [e2] at b1 b2 hc hd ⊢
       refine ⟨bal_mk ?_ ?_ (bal_mk ?_ ?_ b3 c3) (bal_mk ?_ ?_ c4 hr), ?_, ?_⟩ <;> simp only [turnL, turnR, mkT, hiT, fitN] at * <;> omega
   · rename_i hc
     refine ⟨bal_mk ?_ ?_ b3 (bal_mk ?_ ?_ b4 hr), ?_, ?_⟩ <;> simp only [turnR, mkT, hiT, fitN] at * <;> omega
theorem turnL_bal {b : Nat} {a : Nd} {l r : BT Nd} (fl : FitT l) (fr : FitT r) (hl : BalT l) (hr : BalT r) (hd : hiT r - hiT l = 2) :
  BalT (turnL b a l (upR r)) /\ hiT r <= hiT (turnL b a l (upR r)) /\ hiT (turnL b a l (upR r)) <= 1 + hiT r := by
 cases r with
 | nil => have := hi_nonneg fl; rw [hi_nil] at hd; omega
 | node xb xo xa xl xr =>
   have e := hi_node fr
   obtain ⟨b1, b2, b3, b4⟩ := hr
   rw [e] at hd ⊢
   unfold upR
   dsimp only
   split
   · rename_i hc
     cases xl with
     | nil => have := hi_nonneg fr.2.2.2.2; rw [hi_nil] at hc; omega
     | node yb yo ya yl yr =>
       have e2 := hi_node fr.2.2.2.1
       obtain ⟨c1, c2, c3, c4⟩ := b3
       rw [e2] at b1 b2 hc hd ⊢
       refine ⟨bal_mk ?_ ?_ (bal_mk ?_ ?_ hl c3) (bal_mk ?_ ?_ c4 b4), ?_, ?_⟩ <;> simp only [turnL, turnR, mkT, hiT, fitN] at * <;> omega
   · rename_i hc
     refine ⟨bal_mk ?_ ?_ (bal_mk ?_ ?_ hl b3) b4, ?_, ?_⟩ <;> simp only [turnL, mkT, hiT, fitN] at * <;> omega
theorem level_bal {b : Nat} {a : Nd} {l r : BT Nd} (fl : FitT l) (fr : FitT r) (hl : BalT l) (hr : BalT r) (h1 : hiT l - hiT r <= 2) (h2 : hiT r - hiT l <= 2) :
  BalT (levelT b a l r) /\ max (hiT l) (hiT r) <= hiT (levelT b a l r) /\ hiT (levelT b a l r) <= 1 + max (hiT l) (hiT r) ∧
  (hiT l - hiT r <= 1 -> hiT r - hiT l <= 1 -> hiT (levelT b a l r) = 1 + max (hiT l) (hiT r)) := by
 unfold levelT
 split
 · obtain ⟨p, q, s⟩ := turnR_bal (b := b) (a := fitN a l r) fl fr hl hr (by omega)
   exact ⟨p, by omega, by omega, fun _ _ => by omega⟩
 · split
   · obtain ⟨p, q, s⟩ := turnL_bal (b := b) (a := fitN a l r) fl fr hl hr (by omega)
     exact ⟨p, by omega, by omega, fun _ _ => by omega⟩
   · exact ⟨bal_mk (by omega) (by omega) hl hr, by rw [hi_mk]; omega, by rw [hi_mk]; omega, fun _ _ => hi_mk _ _ _ _⟩
theorem add_bal (nb : Nat) (x : It) : ∀ {t : BT Nd}, FitT t -> BalT t -> BalT (addT nb x t) /\ hiT t <= hiT (addT nb x t) /\ hiT (addT nb x t) <= 1 + hiT t
 | .nil, _, _ => ⟨⟨by decide, by decide, trivial, trivial⟩, by simp only [addT, mkT, hiT, fitN]; omega, by simp only [addT, mkT, hiT, fitN]; omega⟩
 | .node b o a l r, h, hb => by
   have e := hi_node h
   obtain ⟨b1, b2, b3, b4⟩ := hb
   obtain ⟨p1, p2, p3⟩ := add_bal nb x h.2.2.2.1 b3
   obtain ⟨q1, q2, q3⟩ := add_bal nb x h.2.2.2.2 b4
   rw [e]
   unfold addT
   split
   · obtain ⟨s1, s2, s3, s4⟩ := level_bal (b := b) (a := a) (add_fit nb x h.2.2.2.1) h.2.2.2.2 p1 b4 (by omega) (by omega)
     refine ⟨s1, ?_, ?_⟩
     · by_cases c : hiT (addT nb x l) - hiT r <= 1
       · rw [s4 c (by omega)]; omega
       · omega
     · by_cases c : hiT (addT nb x l) - hiT r <= 1
       · rw [s4 c (by omega)]; omega
       · omega
   · obtain ⟨s1, s2, s3, s4⟩ := level_bal (b := b) (a := a) h.2.2.2.1 (add_fit nb x h.2.2.2.2) b3 q1 (by omega) (by omega)
     refine ⟨s1, ?_, ?_⟩
     · by_cases c : hiT (addT nb x r) - hiT l <= 1
       · rw [s4 (by omega) c]; omega
       · omega
     · by_cases c : hiT (addT nb x r) - hiT l <= 1
       · rw [s4 (by omega) c]; omega
       · omega
theorem drop_bal : ∀ {t : BT Nd} (x : It), FitT t -> BalT t -> FitT (dropT t x) /\ BalT (dropT t x) /\ hiT (dropT t x) <= hiT t /\ hiT t <= 1 + hiT (dropT t x)
 | .nil, _, _, _ => ⟨trivial, trivial, by simp only [dropT, hiT]; omega, by simp only [dropT, hiT]; omega⟩
 | .node b o a l r, x, h, hb => by
   have e := hi_node h
   have n1 := hi_nonneg h.2.2.2.1
   have n2 := hi_nonneg h.2.2.2.2
   obtain ⟨b1, b2, b3, b4⟩ := hb
   rw [e]
   unfold dropT
   split
   · split
     · rename_i hn
       rw [isNil_iff] at hn
       subst hn
       simp only [hiT] at *
       exact ⟨h.2.2.2.2, b4, by omega, by omega⟩
     · split
       · rename_i hn
         rw [isNil_iff] at hn
         subst hn
         simp only [hiT] at *
         exact ⟨h.2.2.2.1, b3, by omega, by omega⟩
       · obtain ⟨q0, q1, q2, q3⟩ := drop_bal (firstT x r) h.2.2.2.2 b4
         obtain ⟨s1, s2, s3, s4⟩ := level_bal (b := b) (a := ⟨(firstT x r).2.1, (firstT x r).1, (firstT x r).2.2, a.last, a.high⟩) h.2.2.2.1 q0 b3 q1 (by omega) (by omega)
         refine ⟨level_fit h.2.2.2.1 q0, s1, ?_, ?_⟩
         · by_cases c : hiT l - hiT (dropT r (firstT x r)) <= 1
           · rw [s4 c (by omega)]; omega
           · omega
         · by_cases c : hiT l - hiT (dropT r (firstT x r)) <= 1
           · rw [s4 c (by omega)]; omega
           · omega
   · split
     · obtain ⟨q0, q1, q2, q3⟩ := drop_bal x h.2.2.2.1 b3
       obtain ⟨s1, s2, s3, s4⟩ := level_bal (b := b) (a := a) q0 h.2.2.2.2 q1 b4 (by omega) (by omega)
       refine ⟨level_fit q0 h.2.2.2.2, s1, ?_, ?_⟩
       · by_cases c : hiT r - hiT (dropT l x) <= 1
         · rw [s4 (by omega) c]; omega
         · omega
       · by_cases c : hiT r - hiT (dropT l x) <= 1
         · rw [s4 (by omega) c]; omega
         · omega
     · obtain ⟨q0, q1, q2, q3⟩ := drop_bal x h.2.2.2.2 b4
       obtain ⟨s1, s2, s3, s4⟩ := level_bal (b := b) (a := a) h.2.2.2.1 q0 b3 q1 (by omega) (by omega)
       refine ⟨level_fit h.2.2.2.1 q0, s1, ?_, ?_⟩
       · by_cases c : hiT l - hiT (dropT r x) <= 1
         · rw [s4 c (by omega)]; omega
         · omega
       · by_cases c : hiT l - hiT (dropT r x) <= 1
         · rw [s4 c (by omega)]; omega
         · omega
end Go.Proofs.YtflhpmgjehjjkaaGreatDoor
