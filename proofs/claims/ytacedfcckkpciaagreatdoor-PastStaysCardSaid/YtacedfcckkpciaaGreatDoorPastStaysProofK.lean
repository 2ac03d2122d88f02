/- PastStays is proved: whatever slice of Says and whatever number come in, the call returns true, and each argument reads afterwards as it read before; the package-level variables that the row lists are tied to the program's text by the card. There are no other conditions. -/
import Derived.SevenTiedAt
import Derived.ChangeSame
import Derived.ChangeVars
import Derived.JoinedOf
import Derived.RowKit
import Derived.RowKitTokens
import Derived.LaidLaws
import Derived.LaidHandle
import Derived.LaidSub
import Derived.Lay
import Derived.Stop.Joined
import Derived.Test.YtacedfcckkpciaaGreatDoorStWK
import Derived.Test.YtacedfcckkpciaaGreatDoorSayOK
import Derived.Test.YtacedfcckkpciaaGreatDoorTie
import Derived.Test.YtacedfcckkpciaaGreatDoorCards
namespace Go.Proofs.YtacedfcckkpciaaGreatDoor
open Go Go.ChangeShapes Go.WideShapes Go.ChangeAt Go.RowKit Go.Joins

theorem ownPy : ownKnob Tryz.prog.godebug = none := by kernel_rfl
theorem laidOutPy : laidOutB Tryz.prog = true := by kernel_rfl
theorem powTab_of_laidPy {W : World} (h : laidMetH Tryz.prog Rows.pastStaysRow.laid W) : PowTab W := by
  have h' : laidMet Tryz.prog [("internal/strconv.uint64pow10", Rows.laid_internal_strconv_uint64pow10)] W := h.filter fun x => x.1 == "internal/strconv.uint64pow10"
  exact Lib.tabIs_of_head (g := 1) (t := 295) (e := 222) (n := 20) (rest := []) (by kernel_rfl) (by kernel_rfl) Tryz.underlying295 Tryz.underlying222 (by kernel_rfl) (by kernel_rfl) (by
    have e : (Rows.laid_internal_strconv_uint64pow10 : DataW Unit) = Lib.tabData .u64 Lib.pow10Tab := by kernel_rfl
    rw [← e]; exact h')

/-- A world that meets the condition: the plain tables. -/
noncomputable def handleWorldPy (os : Os) : World := World.holding Tryz.prog os ⟨#[], #[], []⟩
noncomputable def laidWorldPy (os : Os) : World := (handleWorldPy os).layVars Tryz.prog (Rows.pastStaysRow.laid.filter fun x => x.2.handleName?.isNone)
theorem laidWorldPy_met (os : Os) (args : Array Value) : laidMetH Tryz.prog Rows.pastStaysRow.laid ((laidWorldPy os).forCall (fun _ _ => 0) ⟨#[], args, []⟩).memory := by
  have hd : laidMet Tryz.prog (Rows.pastStaysRow.laid.filter fun x => x.2.handleName?.isNone) (laidWorldPy os) := by
    refine laidMet_layVars (w0 := handleWorldPy os) ((Rows.pastStaysRow.laid.filter fun x => x.2.handleName?.isNone).map (·.1)) [] ?_ ?_ ?_ ?_
    · have e1 : ((Rows.pastStaysRow.laid.filter fun x => x.2.handleName?.isNone).filter fun x => ((Rows.pastStaysRow.laid.filter fun x => x.2.handleName?.isNone).map (·.1)).contains x.1) = (Rows.pastStaysRow.laid.filter fun x => x.2.handleName?.isNone) := List.filter_eq_self.2 fun x hx => List.contains_iff_mem.2 (List.mem_map.2 ⟨x, hx, rfl⟩)
      rw [e1]; rfl
    · kernel_rfl
    · kernel_rfl
    · have e2 : ((Rows.pastStaysRow.laid.filter fun x => x.2.handleName?.isNone).filter fun x => !((Rows.pastStaysRow.laid.filter fun x => x.2.handleName?.isNone).map (·.1)).contains x.1) = [] := List.filter_eq_nil_iff.2 fun x hx => by rw [List.contains_iff_mem.2 (List.mem_map.2 ⟨x, hx, rfl⟩)]; simp
      rw [e2]; exact LaidIn.none
  exact laidMetH_of_parts (hd.of_heap (by simp [World.memory, World.forCall, Input.heap])) (by kernel_rfl)

set_option maxRecDepth 100000 in
theorem pastStays_lifted (os : Os) (started : os.Started) (H : Type) (enc : TypeId × Value → H) :
    ReturnsInHanded {} Tryz.checked os 3 .any (fun w args => (Rows.pastStaysSpec.pre enc Tryz.prog Tryz.f3 [] false w args ∧ laidMetH Tryz.prog Rows.pastStaysRow.laid w) ∧ sizedMet enc Tryz.prog Tryz.f3 (OpenSpec.ofChange Rows.pastStaysSpec) false w args)
      (Rows.pastStaysSpec.post enc Tryz.prog Tryz.f3 false true false false) := by
  refine returnsInHanded_of_change_and (C := Tryz.checked) (X := fun w _ => laidMetH Tryz.prog Rows.pastStaysRow.laid w) (fun _ _ _ hh h => h.of_heap hh) ownPy started (by kernel_rfl) Tryz.func3
    (ChangeSpec.witness_at (enc := enc) (C := Tryz.checked) (os := os) (X := fun w _ => laidMetH Tryz.prog Rows.pastStaysRow.laid w) false (laidWorldPy os) #[.slice none 0 0, .int .i64 0] 8 rfl (by kernel_rfl) (by kernel_rfl) (by kernel_rfl) (by kernel_rfl) (by kernel_rfl) (laidWorldPy_met os _)) ?_
  intro W base args ds gs before hval0 hW _ _ hL _
  have hval : ∀ (j : Nat) t v, Tryz.f3.params[j]? = some t → args[j]? = some v → Value.okWide Tryz.prog W .any base t v := hval0
  have hW' := hW
  obtain ⟨p, q, hA0, hV, rfl, _, _⟩ := hW
  have hA : DataW.TrodAll enc Tryz.prog W 0 (fun _ => true) true Tryz.f3.params.toList args.toList ds p := hA0
  rw [Tryz.params3] at hA hval
  obtain ⟨v0, v1, d0, d1, p0, p1, rfl, rfl, rfl, h0, h1⟩ := trodAll_two hA
  obtain ⟨rfl, rfl⟩ := trodVars_none hV
  have h0k := h0
  have h1k := h1
  obtain ⟨a0, l0, c0, rfl, s0, i0, m0⟩ := open_says (okWide_slice Tryz.underlying22 (hval 0 22 v0 rfl rfl)) h0
  obtain ⟨x, rfl, hx2, hx3, wx⟩ := open_int Tryz.underlying3 (hval 1 3 v1 rfl rfl) h1
  have hlt : ∀ x ∈ p0 ++ p1, x.block < W.heap.size := fun x hx => by have := hW'.lt x (by simpa using hx); simpa using this
  clear hA0 hval0 h0 h1
  simp only [List.append_nil] at hW'
  refine (pastStays_walk l0 x a0 c0 W s0 m0 i0 (wf_i64S wx) (powTab_of_laidPy hL)).mono fun e W' ⟨he, hb⟩ => ?_
  subst he
  have t0 := Below.trod laidOutPy (by kernel_rfl) (of_decide_eq_true (by kernel_rfl)) h0k hb (fun x hx => hlt x (by simp [hx]))
  have t1 := Below.trod laidOutPy (by kernel_rfl) (of_decide_eq_true (by kernel_rfl)) h1k hb (fun x hx => hlt x (by simp [hx]))
  exact ⟨_, rfl, _, _, _, [], _, [], hW', trodAll_mk1 (shut_bool Tryz.underlying4 _), trodAll_mk2 t0 t1, rfl, hb.frame _, fun h => by cases h⟩

theorem pastStays_row : Rows.PastStaysSaid :=
  OpenClaim.holds_of_wide 3 Tryz.f3 rfl rfl rfl rfl rfl rfl rfl ⟨rfl, rfl, rfl, rfl, rfl⟩ rfl rfl rfl rfl rfl (by kernel_rfl) Tryz.func3 (by kernel_rfl)
    (of_decide_eq_true (by kernel_rfl)) (by unfold Func.isWrapper; first | (rw [if_pos (by decide +kernel)]; kernel_rfl) | (rw [if_neg (by decide +kernel)]; exact ⟨rfl, rfl⟩))
    (fun os started H enc _ => pastStays_lifted os started H enc)

theorem pastStays_holds : Rows.PastStaysCardSaid :=
  Claim7.holds_tied_plain_at .later [] [.data, .data, .data, .data, .pinned] true (true, "9edad2126b3e84dfafb1e16180421f2ff1676d7957f7175d5bae2cab91916939") true
    pastStays_row (fun _ h => by cases h) (by kernel_rfl) (fun _ h => by cases h) pastStays_row_tie rfl ⟨rfl, rfl⟩ (by kernel_rfl) rfl
    (fun f fn hf hfn => by
      obtain rfl : f = 3 := Option.some.inj ((show Tryz.prog.funcNamed "palimpsest/palimpsestkeep.PastStays" = some 3 by kernel_rfl).symm.trans hf) |>.symm
      obtain rfl : fn = Tryz.f3 := (Option.some.inj (Tryz.func3.symm.trans hfn)).symm
      exact ⟨by kernel_rfl, fun j t ht => by
        rw [Tryz.params3] at ht
        rcases j with _ | _ | j
        · have : t = 22 := by simpa using ht.symm
          subst this
          exact (show Tryz.prog.wantsStandIn 22 = false by kernel_rfl)
        · have : t = 3 := by simpa using ht.symm
          subst this
          exact (show Tryz.prog.wantsStandIn 3 = false by kernel_rfl)
        · simp at ht⟩)
    (by kernel_rfl)
#print axioms pastStays_holds
end Go.Proofs.YtacedfcckkpciaaGreatDoor
