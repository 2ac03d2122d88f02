/- PastForgets is proved: whatever slice of Says, whatever slice of numbers and whatever number come in, the call returns true, and each argument reads afterwards as it read before; the package-level variables that the row lists are tied to the program's text by the card. There are no other conditions. -/
import Derived.SevenTiedAt
import Derived.ChangeSame
import Derived.ChangeVars
import Derived.JoinedOf
import Derived.RowKit
import Derived.RowKitTokens
import Derived.LaidLaws
import Derived.LaidHandle
import Derived.LaidSub
import Derived.Lay
import Derived.Stop.Joined
import Derived.Test.YtacedfcckkpciaaGreatDoorPsGJ
import Derived.Test.YtacedfcckkpciaaGreatDoorSayOJ
import Derived.Test.YtacedfcckkpciaaGreatDoorTie
import Derived.Test.YtacedfcckkpciaaGreatDoorCards
namespace Go.Proofs.YtacedfcckkpciaaGreatDoor
open Go Go.ChangeShapes Go.WideShapes Go.ChangeAt Go.RowKit Go.Joins

theorem ownPf : ownKnob Tryz.prog.godebug = none := by kernel_rfl
theorem laidOutPf : laidOutB Tryz.prog = true := by kernel_rfl
theorem etPf : Tryz.prog.globalNamed "errors.errorType" = some 0 := by kernel_rfl
theorem rtPf : (Tryz.prog.cutTypes.find? (·.1 == "internal/reflectlite.rtype")).map (·.2) = some 200 := by kernel_rfl
theorem oneRowPf : ((List.range Tryz.prog.types.size).filter fun t => Tryz.prog.rowNamed t [101, 114, 114, 111, 114]) = [34] := by kernel_rfl

theorem errVar_of_laidPf {W : World} (h : laidMetH Tryz.prog Rows.pastForgetsRow.laid W) : ErrVar W := by
  have h' : laidMet Tryz.prog _ W ∧ handlesMet Tryz.prog [("errors.errorType", Rows.laid_errors_errorType)] W := h.filter fun x => x.1 == "errors.errorType"
  obtain ⟨name, u, ty, e1, e2, e3, e4, e5⟩ := h'.2 _ (List.mem_singleton.2 rfl)
  have en : name = [101, 114, 114, 111, 114] := (Option.some.inj e1).symm
  subst en
  obtain rfl := Option.some.inj (rtPf.symm.trans e2)
  have hm : ty ∈ (List.range Tryz.prog.types.size).filter fun t => Tryz.prog.rowNamed t [101, 114, 114, 111, 114] := List.mem_filter.2 ⟨List.mem_range.2 e3, e4⟩
  rw [oneRowPf] at hm
  obtain rfl := List.mem_singleton.1 hm
  have hh : typeHandle Tryz.prog 34 = .pointer (some ⟨7, 34, none⟩) := by kernel_rfl
  rw [hh] at e5
  have := World.var?_cell etPf e5 0
  unfold ErrVar
  simpa using this
theorem powTab_of_laidPf {W : World} (h : laidMetH Tryz.prog Rows.pastForgetsRow.laid W) : PowTab W := by
  have h' : laidMet Tryz.prog [("internal/strconv.uint64pow10", Rows.laid_internal_strconv_uint64pow10)] W := h.filter fun x => x.1 == "internal/strconv.uint64pow10"
  exact Lib.tabIs_of_head (g := 1) (t := 295) (e := 222) (n := 20) (rest := []) (by kernel_rfl) (by kernel_rfl) Tryz.underlying295 Tryz.underlying222 (by kernel_rfl) (by kernel_rfl) (by
    have e : (Rows.laid_internal_strconv_uint64pow10 : DataW Unit) = Lib.tabData .u64 Lib.pow10Tab := by kernel_rfl
    rw [← e]; exact h')

/-- A world that meets the condition: the handle, then the plain tables. -/
noncomputable def handleWorldPf (os : Os) : World :=
  let w0 := World.holding Tryz.prog os ⟨#[], #[], []⟩
  { w0 with heap := w0.heap.modify 0 fun
      | .cells _ t frozen => .cells #[.iface 200 (.agg #[.pointer (some ⟨7, 34, none⟩)])] t frozen
      | o => o }
noncomputable def laidWorldPf (os : Os) : World := (handleWorldPf os).layVars Tryz.prog (Rows.pastForgetsRow.laid.filter fun x => x.2.handleName?.isNone)
theorem laidWorldPf_met (os : Os) (args : Array Value) : laidMetH Tryz.prog Rows.pastForgetsRow.laid ((laidWorldPf os).forCall (fun _ _ => 0) ⟨#[], args, []⟩).memory := by
  have hd : laidMet Tryz.prog (Rows.pastForgetsRow.laid.filter fun x => x.2.handleName?.isNone) (laidWorldPf os) := by
    refine laidMet_layVars (w0 := handleWorldPf os) ((Rows.pastForgetsRow.laid.filter fun x => x.2.handleName?.isNone).map (·.1)) [] ?_ ?_ ?_ ?_
    · have e1 : ((Rows.pastForgetsRow.laid.filter fun x => x.2.handleName?.isNone).filter fun x => ((Rows.pastForgetsRow.laid.filter fun x => x.2.handleName?.isNone).map (·.1)).contains x.1) = (Rows.pastForgetsRow.laid.filter fun x => x.2.handleName?.isNone) := List.filter_eq_self.2 fun x hx => List.contains_iff_mem.2 (List.mem_map.2 ⟨x, hx, rfl⟩)
      rw [e1]; rfl
    · kernel_rfl
    · kernel_rfl
    · have e2 : ((Rows.pastForgetsRow.laid.filter fun x => x.2.handleName?.isNone).filter fun x => !((Rows.pastForgetsRow.laid.filter fun x => x.2.handleName?.isNone).map (·.1)).contains x.1) = [] := List.filter_eq_nil_iff.2 fun x hx => by rw [List.contains_iff_mem.2 (List.mem_map.2 ⟨x, hx, rfl⟩)]; simp
      rw [e2]; exact LaidIn.none
  exact laidMetH_of_parts (hd.of_heap (by simp [World.memory, World.forCall, Input.heap])) (by kernel_rfl)

set_option maxRecDepth 100000 in
theorem pastForgets_lifted (os : Os) (started : os.Started) (H : Type) (enc : TypeId × Value → H) :
    ReturnsInHanded {} Tryz.checked os 4 .any (fun w args => (Rows.pastForgetsSpec.pre enc Tryz.prog Tryz.f4 [] false w args ∧ laidMetH Tryz.prog Rows.pastForgetsRow.laid w) ∧ sizedMet enc Tryz.prog Tryz.f4 (OpenSpec.ofChange Rows.pastForgetsSpec) false w args)
      (Rows.pastForgetsSpec.post enc Tryz.prog Tryz.f4 false true false false) := by
  refine returnsInHanded_of_change_and (C := Tryz.checked) (X := fun w _ => laidMetH Tryz.prog Rows.pastForgetsRow.laid w) (fun _ _ _ hh h => h.of_heap hh) ownPf started (by kernel_rfl) Tryz.func4
    (ChangeSpec.witness_at (enc := enc) (C := Tryz.checked) (os := os) (X := fun w _ => laidMetH Tryz.prog Rows.pastForgetsRow.laid w) false (laidWorldPf os) #[.slice none 0 0, .slice none 0 0, .int .i64 0] 8 rfl (by kernel_rfl) (by kernel_rfl) (by kernel_rfl) (by kernel_rfl) (by kernel_rfl) (laidWorldPf_met os _)) ?_
  intro W base args ds gs before hval0 hW _ _ hL _
  have hval : ∀ (j : Nat) t v, Tryz.f4.params[j]? = some t → args[j]? = some v → Value.okWide Tryz.prog W .any base t v := hval0
  have hW' := hW
  obtain ⟨p, q, hA0, hV, rfl, _, _⟩ := hW
  have hA : DataW.TrodAll enc Tryz.prog W 0 (fun _ => true) true Tryz.f4.params.toList args.toList ds p := hA0
  rw [Tryz.params4] at hA hval
  obtain ⟨v0, v1, v2, d0, d1, d2, p0, p1, p2, rfl, rfl, rfl, h0, h1, h2⟩ := trodAll_three hA
  obtain ⟨rfl, rfl⟩ := trodVars_none hV
  have h0k := h0
  have h1k := h1
  have h2k := h2
  obtain ⟨a0, l0, c0, rfl, s0, i0, m0⟩ := open_says (okWide_slice Tryz.underlying22 (hval 0 22 v0 rfl rfl)) h0
  obtain ⟨a1, l1, c1, rfl, s1, i1, m1⟩ := open_intsL (okWide_slice Tryz.underlying59 (hval 1 59 v1 rfl rfl)) h1
  obtain ⟨x, rfl, hx2, hx3, wx⟩ := open_int Tryz.underlying3 (hval 2 3 v2 rfl rfl) h2
  have hlt : ∀ x ∈ p0 ++ p1 ++ p2, x.block < W.heap.size := fun x hx => by have := hW'.lt x (by simpa using hx); simpa using this
  clear hA0 hval0 h0 h1 h2
  simp only [List.append_nil] at hW'
  refine (pastForgets_walk l0 l1 x a0 a1 c0 c1 W s0 m0 s1 m1 i0 (fun x h => by have := i1 x h; unfold i64B; omega) (wf_i64S wx) (powTab_of_laidPf hL) (errVar_of_laidPf hL)).mono fun e W' ⟨he, hb⟩ => ?_
  subst he
  have t0 := Below.trod laidOutPf (by kernel_rfl) (of_decide_eq_true (by kernel_rfl)) h0k hb (fun x hx => hlt x (by simp [hx]))
  have t1 := Below.trod laidOutPf (by kernel_rfl) (of_decide_eq_true (by kernel_rfl)) h1k hb (fun x hx => hlt x (by simp [hx]))
  have t2 := Below.trod laidOutPf (by kernel_rfl) (of_decide_eq_true (by kernel_rfl)) h2k hb (fun x hx => hlt x (by simp [hx]))
  exact ⟨_, rfl, _, _, _, [], _, [], hW', trodAll_mk1 (shut_bool Tryz.underlying4 _), trodAll_mk3 t0 t1 t2, rfl, hb.frame _, fun h => by cases h⟩

theorem pastForgets_row : Rows.PastForgetsSaid :=
  OpenClaim.holds_of_wide 4 Tryz.f4 rfl rfl rfl rfl rfl rfl rfl ⟨rfl, rfl, rfl, rfl, rfl⟩ rfl rfl rfl rfl rfl (by kernel_rfl) Tryz.func4 (by kernel_rfl)
    (of_decide_eq_true (by kernel_rfl)) (by unfold Func.isWrapper; first | (rw [if_pos (by decide +kernel)]; kernel_rfl) | (rw [if_neg (by decide +kernel)]; exact ⟨rfl, rfl⟩))
    (fun os started H enc _ => pastForgets_lifted os started H enc)

theorem pastForgets_holds : Rows.PastForgetsCardSaid :=
  Claim7.holds_tied_plain_at .later [] [.data, .data, .data, .data, .handle, .pinned] true (true, "9edad2126b3e84dfafb1e16180421f2ff1676d7957f7175d5bae2cab91916939") true
    pastForgets_row (fun _ h => by cases h) (by kernel_rfl) (fun _ h => by cases h) pastForgets_row_tie rfl ⟨rfl, rfl⟩ (by kernel_rfl) rfl
    (fun f fn hf hfn => by
      obtain rfl : f = 4 := Option.some.inj ((show Tryz.prog.funcNamed "palimpsest/palimpsestkeep.PastForgets" = some 4 by kernel_rfl).symm.trans hf) |>.symm
      obtain rfl : fn = Tryz.f4 := (Option.some.inj (Tryz.func4.symm.trans hfn)).symm
      exact ⟨by kernel_rfl, fun j t ht => by
        rw [Tryz.params4] at ht
        rcases j with _ | _ | _ | j
        · have : t = 22 := by simpa using ht.symm
          subst this
          exact (show Tryz.prog.wantsStandIn 22 = false by kernel_rfl)
        · have : t = 59 := by simpa using ht.symm
          subst this
          exact (show Tryz.prog.wantsStandIn 59 = false by kernel_rfl)
        · have : t = 3 := by simpa using ht.symm
          subst this
          exact (show Tryz.prog.wantsStandIn 3 = false by kernel_rfl)
        · simp at ht⟩)
    (by kernel_rfl)
#print axioms pastForgets_holds
end Go.Proofs.YtacedfcckkpciaaGreatDoor
