/- Plain law, no program in it: spans by numbers, in whichever order; who of them has a time. -/
import Derived.Test.YtcdgochkcfogiaaTreeT
import Derived.Test.YtcdgochkcfogiaaPick
namespace Go.Proofs.Ytcdgochkcfogiaa
open Go.RowKit Go.Deep

/-- A rotation of the numbers below n. -/
theorem rot_perm (n r : Nat) (hr : r < n) : ((List.range n).map fun i => (i + r) % n).Perm (List.range n) := by
  have e : ((List.range n).map fun i => (i + r) % n) = List.range' r (n - r) ++ List.range r := by
    apply List.ext_getElem?
    intro i
    by_cases h1 : i < n - r
    · have h2 : i < n := by omega
      rw [List.getElem?_append_left (by simpa using h1)]
      simp [h1, h2]
      rw [Nat.mod_eq_of_lt (by omega)]; omega
    · rw [List.getElem?_append_right (by simp; omega)]
      by_cases h2 : i < n
      · have h3 : i - (n - r) < r := by omega
        simp [h2, h3]
        rw [Nat.mod_eq_sub_mod (by omega), Nat.mod_eq_of_lt (by omega)]; omega
      · rw [List.getElem?_eq_none (by simp; omega), List.getElem?_eq_none (by simp; omega)]
  rw [e]
  have e2 : List.range n = List.range r ++ List.range' r (n - r) := by
    rw [List.range_eq_range', List.range_eq_range']
    have := List.range'_append_1 (s := 0) (m := r) (n := n - r)
    rw [Nat.zero_add] at this
    rw [this]
    congr 1; omega
  rw [e2]
  exact List.perm_append_comm

def hits (p : Nat → Bool) (n : Nat) : List Nat := (List.range n).filter p
theorem hits_succ (p : Nat → Bool) (n : Nat) : hits p (n + 1) = hits p n ++ if p n then [n] else [] := by
  unfold hits
  rw [List.range_succ, List.filter_append]
  cases h : p n <;> simp [h]
theorem hits_prefix (p : Nat → Bool) (k : Nat) : ∀ d, ∃ r, hits p (k + d) = hits p k ++ r
  | 0 => ⟨[], by simp⟩
  | d + 1 => by
    obtain ⟨r, hr⟩ := hits_prefix p k d
    exact ⟨r ++ if p (k + d) then [k + d] else [], by rw [← Nat.add_assoc, hits_succ, hr, List.append_assoc]⟩
theorem hits_get (p : Nat → Bool) (k n : Nat) (hk : k < n) (hp : p k = true) : (hits p n)[(hits p k).length]? = some k := by
  obtain ⟨r, hr⟩ := hits_prefix p (k + 1) (n - (k + 1))
  rw [show k + 1 + (n - (k + 1)) = n by omega] at hr
  rw [hr, hits_succ, hp]
  simp
theorem hits_lt (p : Nat → Bool) (k n : Nat) (hk : k < n) (hp : p k = true) : (hits p k).length < (hits p n).length := by
  have := hits_get p k n hk hp
  exact (List.getElem?_eq_some_iff.1 this).1
theorem hits_sorted (p : Nat → Bool) (n : Nat) : (hits p n).Pairwise (· < ·) := List.Pairwise.filter _ List.pairwise_lt_range
def hitsI (p : Nat → Bool) (n : Nat) : List Int := (hits p n).map fun i : Nat => (i : Int)

/-- Spans by numbers from d on. -/
def fitP (p : Int × Int) : Int × Int := (pickI p.1 200, pickI p.1 200 + 1 + pickI p.2 50)
def itemAt (l : List (Int × Int)) (d : Int) (i : Nat) : It := ((fitP (l.getD i (0, 0))).1, d + (i : Int), (fitP (l.getD i (0, 0))).2)
def itemsOf (l : List (Int × Int)) (d : Int) (k : Nat) : List It := (List.range k).map (itemAt l d)
def rotOf (l : List (Int × Int)) (d : Int) (r k : Nat) : List It := (List.range k).map fun i => itemAt l d ((i + r) % l.length)
theorem rotOf_perm (l : List (Int × Int)) (d : Int) (r : Nat) (hr : r < l.length) : (rotOf l d r l.length).Perm (itemsOf l d l.length) := by
  have : rotOf l d r l.length = ((List.range l.length).map fun i => (i + r) % l.length).map (itemAt l d) := by simp [rotOf, List.map_map, Function.comp_def]
  rw [this]
  exact (rot_perm l.length r hr).map _
def hasAt (l : List (Int × Int)) (f t : Int) (i : Nat) : Bool := meetsT f t (itemAt l 0 i)
theorem meets_items {L : List It} {l : List (Int × Int)} {n : Nat} (hp : L.Perm (itemsOf l 0 n)) (f t : Int) (hr : rightB f t = true) : meetsL L f t = hitsI (hasAt l f t) n := by
  unfold meetsL
  rw [if_pos hr]
  have e : ((itemsOf l 0 n).filter (meetsT f t)).map (·.2.1) = hitsI (hasAt l f t) n := by
    unfold itemsOf hitsI hits
    rw [List.filter_map, List.map_map]
    apply List.map_congr_left
    intro i _
    simp [itemAt]
  refine sortI_eq (((hp.filter _).map _).trans (.of_eq e)) ?_
  unfold hitsI
  rw [List.pairwise_map]
  exact (hits_sorted _ n).imp (by intro a b h; omega)
theorem at_items {L : List It} {l : List (Int × Int)} {n : Nat} (hp : L.Perm (itemsOf l 0 n)) (x : Int) (h1 : -1099511627776 ≤ x) (h2 : x < 1099511627776) : atL L x = hitsI (hasAt l x (x + 1)) n := by
  unfold atL
  rw [if_pos ⟨h1, h2⟩]
  exact meets_items hp x (x + 1) (by unfold rightB; simp; omega)
theorem hitsI_length (p : Nat → Bool) (n : Nat) : (hitsI p n).length = (hits p n).length := by simp [hitsI]
theorem hitsI_get (p : Nat → Bool) (k n : Nat) (hk : k < n) (hp : p k = true) : (hitsI p n)[(hits p k).length]? = some (k : Int) := by simp [hitsI, hits_get p k n hk hp]
theorem hits_le (p : Nat → Bool) (n : Nat) : (hits p n).length ≤ n := by have := List.length_filter_le p (List.range n); simpa [hits] using this
end Go.Proofs.Ytcdgochkcfogiaa
