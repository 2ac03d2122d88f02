/- slices.SortFunc at a slice of the call's own whose elements take k cells: the slice owns the sorted list; nothing else that was there changes. For any program. -/
import Derived.Shelf.SlSortCmp.NoneTotal
import Derived.Sort.OwnSortedInts
import Derived.Test.YtflhpmgjehjjkaaGreatDoorKitJp
namespace Go.Proofs.YtflhpmgjehjjkaaGreatDoor
open Go.RowKit Go.Shelf Go.Sort
def Lays (w w' : World) : Prop := ∃ q os, w' = grow (w.drewN q) os
theorem Lays.refl (w : World) : Lays w w := ⟨0, #[], by simp [grow, World.drewN]⟩
theorem Lays.alloc {a w : World} (h : Lays a w) (o : Obj) : Lays a (w.alloc o) := by
 obtain ⟨q, os, rfl⟩ := h
 exact ⟨q, os ++ #[o], by rw [alloc_eq_grow, grow_grow]⟩
theorem Lays.drewN {a w : World} (h : Lays a w) (n : Nat) : Lays a (w.drewN n) := by
 obtain ⟨q, os, rfl⟩ := h
 exact ⟨q + n, os, by simp [grow, World.drewN, Nat.add_assoc]⟩
theorem Lays.drew {a w : World} (h : Lays a w) : Lays a w.drew := h.drewN 1
theorem Lays.below {a w : World} (h : Lays a w) : Below a.heap.size a w := by
 obtain ⟨q, os, rfl⟩ := h
 exact ⟨rfl, rfl, rfl, by simp [grow, World.drewN], fun k hk => by simp [grow, World.drewN, Array.getElem?_append, hk]⟩
section
variable {α : Type} (enc : α -> List Value) (k : Nat) (hk : ∀ x, (enc x).length = k) (h0 : 0 < k)
include hk in
theorem flatMap_len (l : List α) : (l.flatMap enc).length = l.length * k := by
 induction l with
 | nil => simp
 | cons a l ih => rw [List.flatMap_cons, List.length_append, ih, hk, List.length_cons, Nat.add_mul]; omega
include hk h0 in
theorem flatMap_get : ∀ (l : List α) (t : Nat), (l.flatMap enc)[t]? = (l[t / k]?).bind fun x => (enc x)[t % k]?
 | [], t => by simp
 | a :: l, t => by
   rw [List.flatMap_cons]
   by_cases ht : t < k
   · rw [List.getElem?_append_left (by rw [hk]; exact ht), Nat.div_eq_of_lt ht, Nat.mod_eq_of_lt ht]; simp
   · rw [List.getElem?_append_right (by rw [hk]; omega), hk, flatMap_get l (t - k)]
     have e1 : t / k = (t - k) / k + 1 := by rw [<- Nat.add_div_right _ h0]; congr 1; omega
     have e2 : t % k = (t - k) % k := by rw [<- Nat.add_mod_right (t - k)]; congr 1; omega
     rw [e1, e2]; simp
include hk h0 in
theorem flatK_toList [Inhabited α] (l : List α) : (flatK enc k l.toArray).toList = l.flatMap enc := by
 apply List.ext_getElem?
 intro t
 rw [flatMap_get enc k hk h0]
 by_cases ht : t < l.length * k
 · have hd : t / k < l.length := Nat.div_lt_of_lt_mul (by rw [Nat.mul_comm]; exact ht)
   have hm : t % k < k := Nat.mod_lt _ h0
   simp [flatK, ht, hd, hk, hm]
 · have hd : ¬ t / k < l.length := fun h => ht (by
   have h1 := Nat.div_add_mod t k
   have h2 := Nat.mod_lt t h0
   have h3 : k * (t / k) + k <= k * l.length := by rw [<- Nat.mul_succ]; exact Nat.mul_le_mul_left _ h
   rw [Nat.mul_comm l.length]; omega)
   rw [List.getElem?_eq_none (by simp; omega)]
   simp [List.getElem?_eq_none (Nat.le_of_not_lt hd)]
end
theorem heap_putRow {w : World} {g n : Nat} {os : Array Obj} {cur : Array Value} {e : TypeId} {fr : Nat × Nat} (F : Array Value) (hb : w.heap[g]? = some (.cells cur e fr)) :
  (grow (putRow id (Sort.ahead w n) g 0 F) os).heap[g]? = some (.cells (putCells id 0 F cur) e fr) := by
 have hg : g < w.heap.size := (Array.getElem?_eq_some_iff.1 hb).1
 rw [heap_grow_old _ _ (by simpa using hg)]
 simp [putRow, mapBlock, Sort.ahead, Array.getElem?_modify, hb, onCells]
theorem grownBy_putRow {w : World} {g n : Nat} {os : Array Obj} (F : Array Value) : w.grownBy (grow (putRow id (Sort.ahead w n) g 0 F) os) (some g) := by
 refine ⟨rfl, rfl, rfl, by simp, fun k hk hne => ?_⟩
 rw [heap_grow_old _ _ (by simpa using hk)]
 have : g ≠ k := fun e => hne (by rw [e])
 simp [putRow, mapBlock, Sort.ahead, Array.getElem?_modify, this]
theorem take_putCells_id (cur F : Array Value) (h : F.size <= cur.size) : (putCells id 0 F cur).toList.take F.size = F.toList := by
 apply List.ext_getElem?
 intro j
 by_cases hj : j < F.size
 · rw [List.getElem?_take_of_lt hj, Array.getElem?_toList]
   simp [putCells, hj, show j < cur.size by omega]
 · rw [List.getElem?_take_eq_none (by omega), List.getElem?_eq_none (by simp; omega)]
theorem sortFunc_own {P : Program} {ρ : Ren} {α : Type} [Inhabited α] (L : SlLaysF0.n6 P ρ) (k : Nat) (h0 : 0 < k) (aE : ∀ w, (isAgg (ρ.t 24)).run P w = .ok true w) (zE : ∀ w, (Go.sizeOf (ρ.t 24)).run P w = .ok k w) (enc : α -> List Value)
  (hk : ∀ x, (enc x).length = k) (h1 : ∀ x, ∀ v ∈ enc x, v.oneCell' = true) (cf : α -> α -> Int) (hO : SWO (ltOf cf)) (hT : ∀ x y, (ltOf cf) x y = false -> (ltOf cf) y x = false -> x = y) (g : Nat) (cb : Array Value) (eg : ∀ args w, (callFunc g args).run P w = .ok (.enter g args) w)
  (hcmp : ∀ (W : World) (x y : α), Calls P g (#[.agg (enc x).toArray, .agg (enc y).toArray] ++ cb) W fun e w' => e = .returned (.int .i64 (cf x y)) /\ Lays W w')
  (base : Nat) (e : TypeId) (v : Value) (l : List α) (w : World) (hown : w.ownsRow base e k v l.length (l.flatMap enc)) (hb : base <= w.heap.size) (hsz : l.length < 4611686018427387904) :
  Calls P (ρ.f 6) #[v, .func (.func g) #[] cb] w fun e' w' => e' = .returned (.tuple #[]) /\ w'.ownsRow base e k v l.length ((l.mergeSort fun x y => !(ltOf cf) y x).flatMap enc) /\ Below base w w' := by
 rcases hown.2 with ⟨rfl, hn⟩ | ⟨g0, cap, cur, rfl, hbg, hh, hnc, hcm, hcs, htk⟩
 · have hl : l = [] := List.eq_nil_of_length_eq_zero hn
   subst hl
   refine (AnyF.slices_SortFunc_none L none 0 _ w).mono ?_
   rintro e w' ⟨rfl, rfl⟩
   exact ⟨rfl, by simpa using hown, Below.refl _ _⟩
 · have hgl : g0 < w.heap.size := (Array.getElem?_eq_some_iff.1 hh).1
   have hF : (flatK enc k l.toArray).toList = l.flatMap enc := flatK_toList enc k hk h0 l
   have hH : HoldsK enc k w g0 0 l.toArray := by
    intro j hj
    have hj' : j < l.length * k := by simpa using hj
    rw [Nat.zero_add]
    refine ⟨?_, hown.frozenAt j⟩
    rw [hown.cellAt j hj', <- hF]
    simp [hj']
   refine (AnyQ.slices_SortFunc_total L k aE zE enc hk h1 cf hO g cb g0 0 cap l.toArray w eg (fun m os dk _ x y => hcmp _ x y) hH hgl (by simpa using hsz) hT).mono ?_
   rintro e' w' ⟨rfl, n, os, rfl⟩
   have hF' := flatK_toList enc k hk h0 (l.mergeSort fun x y => !(ltOf cf) y x)
   have hsize : (flatK enc k (l.mergeSort fun x y => !(ltOf cf) y x).toArray).size = l.length * k := by simp
   refine ⟨rfl, ⟨by rw [flatMap_len enc k hk]; simp, .inr ⟨g0, cap, _, rfl, hbg, heap_putRow _ hh, hnc, hcm, by simp [putCells, hcs], ?_⟩⟩, (Below.refl base w).grown (grownBy_putRow _) hb (fun k hk => by cases hk; exact hbg)⟩
   have := take_putCells_id cur (flatK enc k (l.mergeSort fun x y => !(ltOf cf) y x).toArray) (by rw [hsize, hcs]; exact Nat.mul_le_mul_right _ hnc)
   rw [hsize, hF'] at this
   exact this
end Go.Proofs.YtflhpmgjehjjkaaGreatDoor
