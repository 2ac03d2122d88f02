/- span.Set's Both and Minus. -/
import Derived.Test.YtmmkjokgjhcdlaaDoorSetD
import Derived.Test.YtmmkjokgjhcdlaaDoorKit2
namespace Go.Proofs.YtmmkjokgjhcdlaaDoor
open Go.RowKit Go.Shelf Go.Sort

def meetL (a b : Int × Int) : List (Int × Int) := part1 (imax a.1 b.1) (imin a.2 b.2)
def bothL (l m : List (Int × Int)) : List (Int × Int) := l.flatMap fun a => m.flatMap (meetL a)
theorem flatMap_snoc {α β : Type} (f : α → List β) (l : List α) (k : Nat) (x : α) (h : l[k]? = some x) : (l.take (k + 1)).flatMap f = (l.take k).flatMap f ++ f x := by
  rw [List.take_add_one, h]; simp
theorem flatMap_le {α β : Type} (f : α → List β) (c : Nat) (hf : ∀ x, (f x).length ≤ c) (l : List α) : (l.flatMap f).length ≤ l.length * c := by
  induction l with
  | nil => simp
  | cons a l ih => rw [List.flatMap_cons, List.length_append, List.length_cons, Nat.add_mul]; have := hf a; omega
theorem meetL_le (a b : Int × Int) : (meetL a b).length ≤ 1 := part1_le _ _
theorem bothL_le (l m : List (Int × Int)) (hl : l.length ≤ 60) (hm : m.length ≤ 60) : (bothL l m).length ≤ 3600 := by
  have h1 : ∀ a, (m.flatMap (meetL a)).length ≤ 60 := fun a => by have := flatMap_le (meetL a) 1 (meetL_le a) m; omega
  have h2 := flatMap_le _ 60 h1 l
  have h3 : l.length * 60 ≤ 60 * 60 := Nat.mul_le_mul_right _ hl
  unfold bothL; omega
theorem meetL_right (a b : Int × Int) (ha : rightB a.1 a.2 = true) (hb : rightB b.1 b.2 = true) : rightL (meetL a b) := by
  intro p hp
  unfold meetL part1 at hp
  split at hp
  · simp at hp; subst hp
    unfold rightB imax imin at *
    simp only [decide_eq_true_eq] at *
    omega
  · cases hp
theorem bothL_right (l m : List (Int × Int)) (hl : rightL l) (hm : rightL m) : rightL (bothL l m) := by
  intro p hp
  unfold bothL at hp
  obtain ⟨a, ha, hp⟩ := List.mem_flatMap.1 hp
  obtain ⟨b, hb, hp⟩ := List.mem_flatMap.1 hp
  exact meetL_right a b (hl a ha) (hm b hb) p hp

theorem alloc_cell {w : World} {b o : Nat} {v : Value} (h : w.cell? ⟨b, o, none⟩ = some v) (ob : Obj) : (w.alloc ob).cell? ⟨b, o, none⟩ = some v :=
  below_cell ((Below.refl _ _).alloc (Nat.le_refl _) _) (World.block_lt_of_cell? w _ h) h
theorem grown_cell {w w' : World} {v : Value} (hg : w.grownBy w' v.ownBlock) {b o : Nat} {u : Value} (ha : Apart v b) (h : w.cell? ⟨b, o, none⟩ = some u) : w'.cell? ⟨b, o, none⟩ = some u := hg.cell h (fun e => ha e.symm)

set_option maxRecDepth 100000 in
set_option maxHeartbeats 400000 in
theorem both_any (ba bb : Nat) (l m : List (Int × Int)) (w : World) (ha : setAt w ba l) (hb : setAt w bb m) (hl : rightL l) (hm : rightL m) :
    Calls Tryd.prog 17 #[.pointer (some ⟨ba, 0, none⟩), .pointer (some ⟨bb, 0, none⟩)] w fun e w' => setRes w (bothL l m) e w' := by
  have hlt1 := ha.lt
  have hlt2 := hb.lt
  obtain ⟨a1, c1, k1, s1, n1, l1⟩ := ha
  obtain ⟨a2, c2, k2, s2, n2, l2⟩ := hb
  have hr := bothL_right l m hl hm
  have HR := Lib.hid hr
  clear n1 n2 hr hl hm
  go_enter Tryd.func17, Tryd.ntmps17
  go_wp2
  go_loopw [6, 18] (fun v i wr => ∃ k out, k ≤ l.length ∧ i = .int .i64 k ∧ Hid (out = bothL (l.take k) m) ∧ wr.ownsRow w.heap.size 29 2 v out.length (flat out) ∧ Below w.heap.size w wr) (fun _ i _ => l.length - (intOf i).toNat)
  case atStart => exact ⟨0, [], by omega, rfl, rfl, World.ownsRow_nil _ _ _ _, Below.refl _ _⟩
  case round =>
    obtain ⟨k, out, hk, rfl, hout, hown, hB⟩ := hrel
    have hsz := hB.size
    by_cases hlt : k < l.length
    · obtain ⟨b, o, x1, y1, g1, rfl, d1, d2⟩ := spansAt_get s1 hlt
      have hb := World.block_lt_of_cell? w _ d1
      have d1 := below_cell hB hb d1
      have d2 := below_cell hB hb d2
      have e2 := below_cell hB hlt2 k2
      have hbb : bb < wr.heap.size := by omega
      have hsn : bothL (l.take (k + 1)) m = out ++ m.flatMap (meetL (x1, y1)) := by rw [hout.out]; exact flatMap_snoc _ l k (x1, y1) g1.out
      have HS := Lib.hid hsn
      clear hsn
      have hole : out.length ≤ 3600 := by rw [hout.out]; exact bothL_le _ _ (by rw [List.length_take]; omega) l2
      obtain ⟨wo, rfl⟩ : ∃ wo : World, wo = wr := ⟨_, rfl⟩
      go_wp2
      go_loopw [6, 27] (fun v i wr => ∃ j out1, j ≤ m.length ∧ i = .int .i64 j ∧ Hid (out1 = out ++ (m.take j).flatMap (meetL (x1, y1))) ∧ wr.ownsRow w.heap.size 29 2 v out1.length (flat out1) ∧ Below w.heap.size w wr ∧
          wr.cell? ⟨wo.heap.size, 0, none⟩ = some (.int .i64 x1) ∧ wr.cell? ⟨wo.heap.size, 1, none⟩ = some (.int .i64 y1) ∧ wo.heap.size < wr.heap.size ∧ Apart v wo.heap.size) (fun _ i _ => m.length - (intOf i).toNat)
      case atStart => exact ⟨0, out, by omega, rfl, by show _ = _; simp, hown.alloc _, hB.alloc hsz _, by simp, by simp, by simp, apart_new hown (Nat.le_refl _)⟩
      case round =>
        obtain ⟨j, out1, hj, rfl, hout1, hown1, hB1, f1, f2, hlo, hap⟩ := hrel
        have hsz1 := hB1.size
        by_cases hlt1' : j < m.length
        · obtain ⟨b2, o2, x2, y2, g2, rfl, d3, d4⟩ := spansAt_get s2 hlt1'
          have hb2 : b2 < w.heap.size := World.block_lt_of_cell? w _ d3
          have hb2' : b2 < wr.heap.size := by omega
          have d3 := below_cell hB1 hb2 d3
          have d4 := below_cell hB1 hb2 d4
          have hsn : out ++ (m.take (j + 1)).flatMap (meetL (x1, y1)) = out1 ++ meetL (x1, y1) (x2, y2) := by rw [hout1.out, flatMap_snoc _ m j (x2, y2) g2.out, List.append_assoc]
          have hole1 : out1.length ≤ 3660 := by
            have := flatMap_le (meetL (x1, y1)) 1 (meetL_le (x1, y1)) (m.take j)
            rw [List.length_take] at this
            rw [hout1.out, List.length_append]; omega
          have hltw : wo.heap.size < wr.heap.size := hlo
          by_cases hov : imax x1 x2 < imin y1 y2
          · have hm1 : meetL (x1, y1) (x2, y2) = [(imax x1 x2, imin y1 y2)] := by unfold meetL part1; rw [if_pos hov]
            rw [hm1] at hsn
            have HS1 := Lib.hid hsn
            have HOV := Lib.hid hov
            clear hsn hm1 hov
            go_wp2_with (first
              | (go_at_call 35; refine (meet_yes x1 y1 x2 y2 _ HOV.out).mono ?_; rintro e w1 ⟨rfl, hb1⟩; have hq1 := hb1.size; have hq2 : wr.heap.size < w1.heap.size := (by simp at hq1; omega); have hbo := below_over hb1)
              | (at_builtin; refine appSpanF rfl _ _ rfl w.heap.size _ out1 rfl (((ownsRow_below hown1 hbo).alloc _).alloc _) (w1.heap.size + 1) (imax x1 x2) (imin y1 y2) rfl (cell2a (by simp)) (cell2b (by simp)) (by omega) (by simp; omega) w (((below_trans hB1 hsz1 hbo).alloc (by omega) _).alloc (by simp; omega) _) ?_; intro v' w3 h1 h2 h3 h4 h5))
            refine ⟨⟨j + 1, out1 ++ [(imax x1 x2, imin y1 y2)], by omega, by go_num, (by show _ = _; rw [HS1.out]), h1, h2, ?_, ?_, ?_, ?_⟩, by simp [intOf]; omega⟩
            · exact grown_cell h4 hap (alloc_cell (alloc_cell (below_cell hbo hlo f1) _) _)
            · exact grown_cell h4 hap (alloc_cell (alloc_cell (below_cell hbo hlo f2) _) _)
            · simp at h3; omega
            · exact h5 _ (by simp; omega) hap
          · have hm1 : meetL (x1, y1) (x2, y2) = [] := by unfold meetL part1; rw [if_neg hov]
            rw [hm1, List.append_nil] at hsn
            have HS1 := Lib.hid hsn
            have hno : imin y1 y2 ≤ imax x1 x2 := by omega
            have HOV := Lib.hid hno
            clear hsn hm1 hov hno
            go_wp2_with (go_at_call 35; refine (meet_no x1 y1 x2 y2 _ HOV.out).mono ?_; rintro e w1 ⟨rfl, hb1⟩; have hq1 := hb1.size; have hq2 : wr.heap.size < w1.heap.size := (by simp at hq1; omega); have hbo := below_over hb1)
            refine ⟨⟨j + 1, out1, by omega, by go_num, (by show _ = _; rw [HS1.out]), (ownsRow_below hown1 hbo).alloc _, (below_trans hB1 hsz1 hbo).alloc (by omega) _, alloc_cell (below_cell hbo hlo f1) _, alloc_cell (below_cell hbo hlo f2) _, by simp; omega, hap⟩, by simp [intOf]; omega⟩
        · have he : out1 = bothL (l.take (k + 1)) m := by rw [HS.out, hout1.out, List.take_of_length_le (by omega)]
          have HE := Lib.hid he
          clear he
          go_wp2
          refine ⟨⟨k + 1, out1, by omega, by go_num, HE, hown1, hB1⟩, by simp [intOf]; omega⟩
    · have he : out = bothL l m := by rw [hout.out, List.take_of_length_le (by omega)]
      have hole : out.length ≤ 3600 := by rw [he]; exact bothL_le _ _ l1 l2
      obtain ⟨ao, cp, rfl, hsp⟩ := ownsRow_spans hown
      have HRO : Hid (rightL out) := by rw [he]; exact HR
      have HE := Lib.hid he
      clear he
      go_wp2_with (go_at_call 7; ((with_reducible refine (of_res out ao cp _ hsp HRO.out (by omega)).mono ?_); rintro e w2 ⟨rx, ry, rfl, hb2, hres⟩))
      go_ret2
      have ho := hres.later hB
      rw [HE.out] at ho
      exact ⟨_, _, rfl, below_step hB hb2, ho⟩
end Go.Proofs.YtmmkjokgjhcdlaaDoor
