/- span.Of: the set of some spans. -/
import Derived.Test.YtmmkjokgjhcdlaaDoorSetA
import Derived.Test.YtmmkjokgjhcdlaaDoorSetB
import Derived.StillTailTactics
import Derived.Deep.RegionLaw
namespace Go.Proofs.YtmmkjokgjhcdlaaDoor
open Go.RowKit Go.Shelf Go.Sort

/-- One span more, as a step of a region that draws its order. -/
theorem stepSpan {W : World} {ops : Array Oper} {o : Oper} {a : Act} {K : Act → World → Prop} {Q : Exit → Act → World → Prop} {E : Prop} (hgd : o.guard = none) (s x : Operand)
    (ho : o.op = .call { callee := .builtin .append, args := #[s, x], argTypes := #[22, 22] }) (base : Nat) (v : Value) (l : List (Int × Int)) (hs : a.eval s = v) (hown : W.ownsRow base 29 2 v l.length (flat l))
    (b : Nat) (f t : Int) (hx : a.eval x = .slice (some ⟨b, 0, none⟩) 1 1) (hc1 : W.cell? ⟨b, 0, none⟩ = some (.int .i64 f)) (hc2 : W.cell? ⟨b, 1, none⟩ = some (.int .i64 t))
    (hbytes : (l.length + 1) * 16 ≤ 140737488355328) (hbase : base ≤ W.heap.size)
    (h : ∀ v' w', w'.ownsRow base 29 2 v' (l ++ [(f, t)]).length (flat (l ++ [(f, t)])) → W.grownBy w' v.ownBlock → (∃ g cap, v' = .slice (some ⟨g, 0, none⟩) (l.length + 1) cap) → K (a.put o.dst v') w') : if Region.wanted o (yielded ops a.tmps) = true then Oper.wp Tryd.prog o a W K Q else E := by
  have hw : Region.wanted o (yielded ops a.tmps) = true := by simp [Region.wanted, hgd]
  rw [if_pos hw]
  obtain ⟨i0, hi, hz0, hz1, hz2⟩ := info_parts infoSpan
  refine wp_append_own _ s x 22 ho base 29 i0 (.agg #[.int .i64 0, .int .i64 0]) 2 16 Tryd.underlying22 hi hz0 hz1 hz2 rfl (by decide) v l.length (flat l) hs hown ⟨b, 0, none⟩ 1 1 [.int .i64 f, .int .i64 t] hx rfl (fun j u hu => ?_) (fun u hu => ?_) (by unfold maxLen; omega) hbytes hbase ?_
  · have : ∀ k, (⟨b, 0, none⟩ : Addr).add k = ⟨b, k, none⟩ := fun k => by unfold Addr.add; split <;> simp_all
    rw [this]
    match j, hu with
    | 0, hu => simp at hu; subst hu; exact hc1
    | 1, hu => simp at hu; subst hu; exact hc2
  · simp at hu; rcases hu with rfl | rfl <;> rfl
  · intro v' w' h2 h3 _
    refine h v' w' ?_ h3 (ownsRow_succ h2)
    rw [flat_append, List.length_append]; exact h2

/-- A set at an address: its spans. -/
def setAt (w : World) (b : Nat) (l : List (Int × Int)) : Prop :=
  ∃ ao cap, w.cell? ⟨b, 0, none⟩ = some (.slice ao l.length cap) ∧ spansAt w ao l ∧ (ao = none → cap = 0) ∧ l.length ≤ 60

/-- A span more, at the end of spans that rise. -/
def mgStep (out : List (Int × Int)) (x : Int × Int) : List (Int × Int) :=
  match out.getLast? with
  | some a => if x.1 ≤ a.2 then out.dropLast ++ [(a.1, imax a.2 x.2)] else out ++ [x]
  | none => [x]
def mergeS (l : List (Int × Int)) : List (Int × Int) := l.foldl mgStep []
theorem mgStep_nil (x : Int × Int) : mgStep [] x = [x] := rfl
theorem mgStep_snoc (m : List (Int × Int)) (a x : Int × Int) : mgStep (m ++ [a]) x = if x.1 ≤ a.2 then m ++ [(a.1, imax a.2 x.2)] else m ++ [a, x] := by
  unfold mgStep; simp
theorem mgStep_len (out : List (Int × Int)) (x : Int × Int) : (mgStep out x).length ≤ out.length + 1 := by
  rcases List.eq_nil_or_concat out with rfl | ⟨m, a, rfl⟩
  · simp [mgStep_nil]
  · rw [List.concat_eq_append, mgStep_snoc]; split <;> simp
theorem mergeS_snoc (l : List (Int × Int)) (k : Nat) (x : Int × Int) (h : l[k]? = some x) : mergeS (l.take (k + 1)) = mgStep (mergeS (l.take k)) x := by
  rw [List.take_add_one, h]; simp [mergeS, List.foldl_append]
theorem mergeS_len (l : List (Int × Int)) : (mergeS l).length ≤ l.length := by
  have : ∀ (l out : List (Int × Int)), (l.foldl mgStep out).length ≤ out.length + l.length := by
    intro l
    induction l with
    | nil => intro out; simp
    | cons x l ih => intro out; have := ih (mgStep out x); have := mgStep_len out x; simp only [List.foldl_cons, List.length_cons]; omega
  simpa [mergeS] using this l []

def rightL (l : List (Int × Int)) : Prop := ∀ p ∈ l, rightB p.1 p.2 = true

theorem ownsRow_drewN {w : World} {base : Nat} {e : TypeId} {size : Nat} {v : Value} {n : Nat} {xs : List Value} (h : w.ownsRow base e size v n xs) (q : Nat) : (w.drewN q).ownsRow base e size v n xs := h
theorem boxed_drewN {w : World} {B : Nat} {t : TypeId} {v : Value} (h : Boxed w B t v) (q : Nat) : Boxed (w.drewN q) B t v := h
theorem boxed_setOther {w : World} {B g j : Nat} {t : TypeId} {v u : Value} (h : Boxed w B t v) (hne : g ≠ B) : Boxed (w.setCell ⟨g, j, none⟩ u) B t v := by
  show (w.setCell ⟨g, j, none⟩ u).heap[B]? = _
  rw [Below.heap_setCell _ _ _ _ (fun e => hne e.symm)]; exact h
theorem boxed_row {X Y : World} {B : Nat} {t e : TypeId} {size n : Nat} {v u : Value} {xs : List Value} (hbx : Boxed X B t u) (hown : X.ownsRow (B + 1) e size v n xs) (hg : X.grownBy Y v.ownBlock) : Boxed Y B t u :=
  hbx.kept hg (fun e => by have := hown.lt B e.symm; omega)
theorem ownsRow_other {w : World} {B : Nat} {e : TypeId} {size : Nat} {v : Value} {n : Nat} {xs : List Value} (h : w.ownsRow (B + 1) e size v n xs) (u : Value) : (w.setCell ⟨B, 0, none⟩ u).ownsRow (B + 1) e size v n xs :=
  ownsRow_setCell_other h (fun e => by have := h.lt B e; omega) u

set_option maxRecDepth 100000 in
set_option maxHeartbeats 400000 in
theorem of_any (l : List (Int × Int)) (ao : Option Addr) (cap : Nat) (w : World) (hl : spansAt w ao l) (hr : rightL l) (hlen : l.length * 16 ≤ 140737488355328) :
    Calls Tryd.prog 7 #[.slice ao l.length cap] w fun e w' => Below w.heap.size w w' ∧
      ((∃ b, e = .returned (.tuple #[.pointer (some ⟨b, 0, none⟩), .nilIface]) ∧ w.heap.size ≤ b ∧ setAt w' b (mergeS (sortS l))) ∨
       (60 < (mergeS (sortS l)).length ∧ e = .returned (.tuple #[.pointer none, .iface 23 (.int .i64 4)]))) := by
  go_enter Tryd.func7, Tryd.ntmps7
  go_wp2
  go_loopw [12] (fun i wr => ∃ k : Nat, k ≤ l.length ∧ i = .int .i64 k ∧ Below w.heap.size w wr) (fun i _ => l.length - (intOf i).toNat)
  case atStart => exact ⟨0, by omega, rfl, Below.refl _ _⟩
  case round =>
    obtain ⟨k, hk, rfl, hB⟩ := hrel
    have hsz := hB.size
    by_cases hlt : k < l.length
    · obtain ⟨b, o, x, y, g1, rfl, c1, c2⟩ := spansAt_get hl hlt
      have hb := World.block_lt_of_cell? w _ c1
      have c1 := below_cell hB hb c1
      have c2 := below_cell hB hb c2
      have hxy : rightB x y = true := hr (x, y) (List.mem_iff_getElem?.2 ⟨k, g1.out⟩)
      go_wp2_with (go_at_call 24; refine (right_any x y _).mono ?_; rintro e w1 ⟨rfl, hb1⟩)
      refine ⟨⟨k + 1, by omega, by go_num, ?_⟩, by simp [intOf]; omega⟩
      exact (hB.alloc hsz _).trans (hb1.mono (by simp; omega))
    · go_wp2_with fail
      refine (clone_any ao l cap _ (hl.below hB) hlen).mono ?_
      rintro e w1 ⟨v1, rfl, ho1, hb1⟩
      have hB1 := hB.trans (hb1.mono hsz)
      go_wp2_with fail
      refine (sortSpans_own w.heap.size _ l _ (ownsRow_mono ho1 hsz) hB1.size (by omega)).mono ?_
      rintro e w2 ⟨rfl, ho2, hb2⟩
      have hB2 := hB1.trans hb2
      obtain ⟨ss, hss⟩ : ∃ ss, ss = sortS l := ⟨_, rfl⟩
      rw [← hss] at ho2
      have hsl : ss.length = l.length := by rw [hss]; simp [sortS]
      have hslen : ss.length * 16 ≤ 140737488355328 := by omega
      have HSS := Lib.hid hss
      clear hss
      obtain ⟨asl, cs, rfl, hsp⟩ := ownsRow_spans ho2
      clear ho2 ho1 hb1 hb2 hB1 hB hsz hl hr hlen hlt hk hsl
      obtain ⟨W, rfl⟩ : ∃ W, W = w2 := ⟨_, rfl⟩
      have hszW := hB2.size
      go_wp2
      go_loopw [33] (fun i wr => ∃ k : Nat, k ≤ ss.length ∧ i = .int .i64 k ∧ ∃ v out, Hid (out = mergeS (ss.take k)) ∧ Boxed wr W.heap.size 57 v ∧ wr.ownsRow (W.heap.size + 1) 29 2 v out.length (flat out) ∧ Below W.heap.size W wr) (fun i _ => ss.length - (intOf i).toNat)
      case atStart => exact ⟨0, by omega, rfl, _, [], rfl, Boxed.new _ _ _, World.ownsRow_nil _ _ _ _, (Below.refl _ _).alloc (Nat.le_refl _) _⟩
      case round =>
        obtain ⟨k, hk, rfl, v, out, hout, hbx, hown, hB⟩ := hrel
        have hlt0 := hbx.lt
        have hsz := hB.size
        obtain ⟨av, cv, rfl, _, _⟩ := ownsRow_slice hown
        have cb := hbx.cell
        have fb := hbx.frozen
        by_cases hlt : k < ss.length
        · obtain ⟨b, o, x, y, g1, rfl, c1, c2⟩ := spansAt_get hsp hlt
          have hb := World.block_lt_of_cell? W _ c1
          have c1 := below_cell hB hb c1
          have c2 := below_cell hB hb c2
          have hsn := mergeS_snoc ss k (x, y) g1.out
          rw [← hout.out] at hsn
          have hol : out.length ≤ k := by rw [hout.out]; have := mergeS_len (ss.take k); rw [List.length_take] at this; omega
          rcases List.eq_nil_or_concat out with rfl | ⟨m, a, rfl⟩
          · have HS := Lib.hid hsn
            clear hsn
            go_wp2
            go_quiet (fail)
            go_wp2
            go_region_law (refine stepSpan rfl _ _ rfl (W.heap.size + 1) _ [] rfl ?_ (wr.heap.size + 1) x y rfl ?_ ?_ (by decide) ?_ ?_; (exact (ownsRow_drewN (hown.alloc _) _).alloc _); (exact cell2a (World.size_alloc ..)); (exact cell2b (World.size_alloc ..)); (exact Nat.le_trans hlt0 (Nat.le_of_lt (by simp; omega))); intro v' w3 h1 h2 h3; obtain ⟨g', c', rfl⟩ := h3; have hb3 := boxed_row ((boxed_drewN (hbx.alloc _) _).alloc _) ((ownsRow_drewN (hown.alloc _) _).alloc _) h2; have cb3 := hb3.cell; have fb3 := hb3.frozen; have hB3 := (((below_drewN (hB.alloc hsz _) _).alloc (by simp; omega) _).grown h2 (by simp; omega) (fun k hk => Nat.le_of_succ_le (hown.lt k hk).1)))
            all_goals
              go_wp2
              refine ⟨⟨k + 1, by omega, by go_num, _, [(x, y)], (by show _ = _; rw [HS.out]; rfl), hb3.set _, ownsRow_other h1 _, hB3.setCell (p := ⟨W.heap.size, 0, none⟩) (Nat.le_refl _) _⟩, by simp [intOf]; omega⟩
          · obtain ⟨a1, a2⟩ := a
            rw [List.concat_eq_append] at *
            rw [mgStep_snoc] at hsn
            have hown0 := hown
            rw [List.length_append] at hown hol hbx cb
            simp only [List.length_cons, List.length_nil, Nat.zero_add] at hol hbx cb
            obtain ⟨g, hg⟩ : ∃ g, av = some ⟨g, 0, none⟩ := by obtain ⟨g, c, h⟩ := ownsRow_succ hown; cases h; exact ⟨g, rfl⟩
            subst hg
            have hgb := (hown.lt g rfl)
            have hgl := hgb.2
            have hfr := hown.frozenAt (m.length * 2 + 1)
            have hcl : wr.cell? ⟨g, m.length * 2 + 1, none⟩ = some (.int .i64 a2) := by
              rw [hown.cellAt (m.length * 2 + 1) (by simp; omega), flat_append]
              rw [List.getElem?_append_right (by rw [flat_length]; omega), flat_length]; simp [flat]
            by_cases hxa : x ≤ a2
            · rw [if_pos hxa] at hsn
              have HS := Lib.hid hsn
              clear hsn
              go_wp2
              go_quiet (fail)
              go_wp2
              go_region
              all_goals
                go_wp2
                have hst := ((ownsRow_drewN (hown.alloc (.cells #[.int .i64 x, .int .i64 y] 29)) (nq + 1)).stored (m.length * 2 + 1) (.int .i64 (imax a2 y))).1
                rw [flat_setLast] at hst
                refine ⟨⟨k + 1, by omega, by go_num, _, m ++ [(a1, imax a2 y)], (by show _ = _; rw [HS.out]), boxed_setOther (boxed_drewN (hbx.alloc _) _) (by omega), by rw [List.length_append]; exact hst, (below_drewN (hB.alloc hsz _) _).setCell (p := ⟨g, m.length * 2 + 1, none⟩) (Nat.le_of_succ_le hgb.1) _⟩, by simp [intOf]; omega⟩
            · rw [if_neg hxa] at hsn
              have HS := Lib.hid hsn
              clear hsn
              go_wp2
              go_quiet (fail)
              go_wp2
              go_region_law (refine stepSpan rfl _ _ rfl (W.heap.size + 1) _ (m ++ [(a1, a2)]) rfl ?_ (wr.heap.size + 1) x y rfl ?_ ?_ ?_ ?_ ?_; (rw [List.length_append]; exact (ownsRow_drewN (hown.alloc _) _).alloc _); (exact cell2a (World.size_alloc ..)); (exact cell2b (World.size_alloc ..)); (simp; omega); (exact Nat.le_trans hlt0 (Nat.le_of_lt (by simp; omega))); intro v' w3 h1 h2 h3; obtain ⟨g', c', rfl⟩ := h3; have hb3 := boxed_row ((boxed_drewN (hbx.alloc _) _).alloc _) ((ownsRow_drewN (hown.alloc _) _).alloc _) h2; have cb3 := hb3.cell; have fb3 := hb3.frozen; have hB3 := (((below_drewN (hB.alloc hsz _) _).alloc (by simp; omega) _).grown h2 (by simp; omega) (fun k hk => Nat.le_of_succ_le (hown.lt k hk).1)))
              all_goals
                go_wp2
                rw [show (m ++ [(a1, a2)]).length = m.length + 1 by simp] at h1
                refine ⟨⟨k + 1, by omega, by go_num, _, (m ++ [(a1, a2)]) ++ [(x, y)], (by show _ = _; rw [HS.out]; simp), hb3.set _, ownsRow_other h1 _, hB3.setCell (p := ⟨W.heap.size, 0, none⟩) (Nat.le_refl _) _⟩, by simp [intOf]; omega⟩
        · have ho : out = mergeS (sortS l) := by have h := hout.out; rw [List.take_of_length_le (by omega), HSS.out] at h; exact h
          have HO := Lib.hid ho
          clear ho hout
          obtain ⟨av', cv', e', hs', hn'⟩ := ownsRow_spansN hown
          cases e'
          have hB5 := hB2.trans (hB.mono hszW)
          by_cases h60 : out.length ≤ 60
          · go_wp2
            go_ret2
            refine ⟨hB5, .inl ⟨_, rfl, hszW, ?_⟩⟩
            rw [← HO.out]
            exact ⟨av, cv, cb, hs', hn', h60⟩
          · go_wp2
            go_ret2
            refine ⟨hB5, .inr ⟨?_, rfl⟩⟩
            rw [← HO.out]
            omega
end Go.Proofs.YtmmkjokgjhcdlaaDoor
