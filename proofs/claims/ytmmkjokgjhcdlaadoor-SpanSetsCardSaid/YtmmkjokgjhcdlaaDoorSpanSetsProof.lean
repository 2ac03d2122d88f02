/- SpanSets is proved: whatever two slices of spans and number come in, the call returns true, and each argument reads afterwards as it read before; the one package-level variable that the row lists (errors.errorType) is tied to the program's text by the card. There are no other conditions. -/
import Derived.Test.YtmmkjokgjhcdlaaDoorSsB
import Derived.Test.YtmmkjokgjhcdlaaDoorSsC
import Derived.Test.YtmmkjokgjhcdlaaDoorSetT
import Derived.Test.YtmmkjokgjhcdlaaDoorTie
import Derived.Test.YtmmkjokgjhcdlaaDoorCards
import Derived.SevenTiedAt
import Derived.ChangeSame
import Derived.ChangeVars
import Derived.JoinedOf
import Derived.RowKit
import Derived.RowKitTokens
import Derived.LaidLaws
import Derived.LaidHandle
import Derived.Stop.Joined
namespace Go.Proofs.YtmmkjokgjhcdlaaDoor
open Go Go.ChangeShapes Go.WideShapes Go.ChangeAt Go.RowKit Go.Joins

theorem ownSets : ownKnob Tryd.prog.godebug = none := by kernel_rfl
theorem laidOutSets : laidOutB Tryd.prog = true := by kernel_rfl
theorem et0 : Tryd.prog.globalNamed "errors.errorType" = some 0 := by kernel_rfl
theorem rt0 : (Tryd.prog.cutTypes.find? (·.1 == "internal/reflectlite.rtype")).map (·.2) = some 123 := by kernel_rfl
theorem oneRow0 : ((List.range Tryd.prog.types.size).filter fun t => Tryd.prog.rowNamed t [101, 114, 114, 111, 114]) = [33] := by kernel_rfl

/-- What the row's condition gives a walk: the variable's one cell. -/
theorem errVar_of_laid {W : World} (h : laidMetH Tryd.prog Rows.spanSetsRow.laid W) : ErrVar W := by
  have h' : laidMet Tryd.prog [] W ∧ handlesMet Tryd.prog Rows.spanSetsRow.laid W := h
  obtain ⟨name, u, ty, e1, e2, e3, e4, e5⟩ := h'.2 _ (List.mem_singleton.2 rfl)
  have en : name = [101, 114, 114, 111, 114] := (Option.some.inj e1).symm
  subst en
  obtain rfl := Option.some.inj (rt0.symm.trans e2)
  have hm : ty ∈ (List.range Tryd.prog.types.size).filter fun t => Tryd.prog.rowNamed t [101, 114, 114, 111, 114] := List.mem_filter.2 ⟨List.mem_range.2 e3, e4⟩
  rw [oneRow0] at hm
  obtain rfl := List.mem_singleton.1 hm
  have hh : typeHandle Tryd.prog 33 = .pointer (some ⟨1, 33, none⟩) := by kernel_rfl
  rw [hh] at e5
  have := World.var?_cell et0 e5 0
  unfold ErrVar
  simpa using this

/-- A world that meets the condition. -/
noncomputable def laidWorld0 (os : Os) : World :=
  let w0 := World.holding Tryd.prog os ⟨#[], #[], []⟩
  { w0 with heap := w0.heap.modify 0 fun
      | .cells _ t frozen => .cells #[.iface 123 (.agg #[.pointer (some ⟨1, 33, none⟩)])] t frozen
      | o => o }
theorem laidWorld0_met (os : Os) (args : Array Value) : laidMetH Tryd.prog Rows.spanSetsRow.laid ((laidWorld0 os).forCall (fun _ _ => 0) ⟨#[], args, []⟩).memory :=
  laidMetH_of_parts (laidMet_nil _ _) (by kernel_rfl)

theorem spanSets_walk (x y : List (Int × Int)) (ax ay : Option Addr) (cx cy : Nat) (t : Int) (w : World) (hg : ErrVar w) (hx : spansAt w ax x) (hy : spansAt w ay y) (mx : x.length ≤ maxLen) (my : y.length ≤ maxLen) :
    Calls Tryd.prog 3 #[.slice ax x.length cx, .slice ay y.length cy, .int .i64 t] w fun e w' => e = .returned (.bool true) ∧ Below w.heap.size w w' := by
  by_cases hl : 90 < x.length ∨ 90 < y.length
  · exact spanSets_long x.length y.length ax ay cx cy t w mx my hl
  · rcases right_or_bad x with hr | ⟨j, hj⟩
    · by_cases h60 : (canon x).length ≤ 60
      · exact spanSets_good x y ax ay cx cy t w hg hx hy hr (by omega) (by omega) h60
      · exact spanSets_many x y ax ay cx cy t w hg hx hr (by omega) (by omega) (by omega)
    · exact spanSets_bad x y j ax ay cx cy t w hg hx hj (by omega) (by omega)

set_option maxRecDepth 100000 in
theorem spanSets_lifted (os : Os) (started : os.Started) (H : Type) (enc : TypeId × Value → H) :
    ReturnsInHanded {} Tryd.checked os 3 .any (fun w args => (Rows.spanSetsSpec.pre enc Tryd.prog Tryd.f3 [] false w args ∧ laidMetH Tryd.prog Rows.spanSetsRow.laid w) ∧ sizedMet enc Tryd.prog Tryd.f3 (OpenSpec.ofChange Rows.spanSetsSpec) false w args)
      (Rows.spanSetsSpec.post enc Tryd.prog Tryd.f3 false true false false) := by
  refine returnsInHanded_of_change_and (C := Tryd.checked) (X := fun w _ => laidMetH Tryd.prog Rows.spanSetsRow.laid w) (fun _ _ _ hh h => h.of_heap hh) ownSets started (by kernel_rfl) Tryd.func3
    (ChangeSpec.witness_at (enc := enc) (C := Tryd.checked) (os := os) (X := fun w _ => laidMetH Tryd.prog Rows.spanSetsRow.laid w) false (laidWorld0 os) #[.slice none 0 0, .slice none 0 0, .int .i64 0] 8 rfl (by kernel_rfl) (by kernel_rfl) (by kernel_rfl) (by kernel_rfl) (by kernel_rfl) (laidWorld0_met os _)) ?_
  intro W base args ds gs before hval0 hW _ _ hL _
  have hval : ∀ (j : Nat) t v, Tryd.f3.params[j]? = some t → args[j]? = some v → Value.okWide Tryd.prog W .any base t v := hval0
  have hW' := hW
  obtain ⟨p, q, hA0, hV, rfl, _, _⟩ := hW
  have hA : DataW.TrodAll enc Tryd.prog W 0 (fun _ => true) true Tryd.f3.params.toList args.toList ds p := hA0
  rw [Tryd.params3] at hA hval
  obtain ⟨v0, v1, v2, d0, d1, d2, p0, p1, p2, rfl, rfl, rfl, h0, h1, h2⟩ := trodAll_three hA
  obtain ⟨rfl, rfl⟩ := trodVars_none hV
  have h0k := h0
  have h1k := h1
  have h2k := h2
  obtain ⟨a0, l0, c0, rfl, s0, _, m0⟩ := open_spans (okWide_slice Tryd.underlying22 (hval 0 22 v0 rfl rfl)) h0
  obtain ⟨a1, l1, c1, rfl, s1, _, m1⟩ := open_spans (okWide_slice Tryd.underlying22 (hval 1 22 v1 rfl rfl)) h1
  obtain ⟨x, rfl, hx2, hx3, wx⟩ := open_int Tryd.underlying3 (hval 2 3 v2 rfl rfl) h2
  have hlt : ∀ x ∈ p0 ++ p1 ++ p2, x.block < W.heap.size := fun x hx => by have := hW'.lt x (by simpa using hx); simpa using this
  clear hA0 hval0 h0 h1 h2
  simp only [List.append_nil] at hW'
  refine (spanSets_walk l0 l1 a0 a1 c0 c1 x W (errVar_of_laid hL) s0 s1 m0 m1).mono fun e W' ⟨he, hb⟩ => ?_
  subst he
  have t0 := Below.trod laidOutSets (by kernel_rfl) (of_decide_eq_true (by kernel_rfl)) h0k hb (fun x hx => hlt x (by simp [hx]))
  have t1 := Below.trod laidOutSets (by kernel_rfl) (of_decide_eq_true (by kernel_rfl)) h1k hb (fun x hx => hlt x (by simp [hx]))
  have t2 := Below.trod laidOutSets (by kernel_rfl) (of_decide_eq_true (by kernel_rfl)) h2k hb (fun x hx => hlt x (by simp [hx]))
  exact ⟨_, rfl, _, _, _, [], _, [], hW', trodAll_mk1 (shut_bool Tryd.underlying4 _), trodAll_mk3 t0 t1 t2, rfl, hb.frame _, fun h => by cases h⟩

theorem spanSets_row : Rows.SpanSetsSaid :=
  OpenClaim.holds_of_wide 3 Tryd.f3 rfl rfl rfl rfl rfl rfl rfl ⟨rfl, rfl, rfl, rfl, rfl⟩ rfl rfl rfl rfl rfl (by kernel_rfl) Tryd.func3 (by kernel_rfl)
    (of_decide_eq_true (by kernel_rfl)) (by unfold Func.isWrapper; first | (rw [if_pos (by decide +kernel)]; kernel_rfl) | (rw [if_neg (by decide +kernel)]; exact ⟨rfl, rfl⟩))
    (fun os started H enc _ => spanSets_lifted os started H enc)

theorem spanSets_holds : Rows.SpanSetsCardSaid :=
  Claim7.holds_tied_plain_at .later [] [.handle] true (true, "b02e655f2f8edfd983968d6bfe6eec8a8f045c625cc84fa6e7e593084232627c") true
    spanSets_row (fun _ h => by cases h) (by kernel_rfl) (fun _ h => by cases h) spanSets_row_tie rfl ⟨rfl, rfl⟩ (by kernel_rfl) rfl
    (fun f fn hf hfn => by
      obtain rfl : f = 3 := Option.some.inj ((show Tryd.prog.funcNamed "palimpsest/palimpsestlaw.SpanSets" = some 3 by kernel_rfl).symm.trans hf) |>.symm
      obtain rfl : fn = Tryd.f3 := (Option.some.inj (Tryd.func3.symm.trans hfn)).symm
      exact ⟨by kernel_rfl, fun j t ht => by
        rw [Tryd.params3] at ht
        rcases j with _ | _ | _ | j
        · have : t = 22 := by simpa using ht.symm
          subst this
          exact (show Tryd.prog.wantsStandIn 22 = false by kernel_rfl)
        · have : t = 22 := by simpa using ht.symm
          subst this
          exact (show Tryd.prog.wantsStandIn 22 = false by kernel_rfl)
        · have : t = 3 := by simpa using ht.symm
          subst this
          exact (show Tryd.prog.wantsStandIn 3 = false by kernel_rfl)
        · simp at ht⟩)
    (by kernel_rfl)
#print axioms spanSets_holds
end Go.Proofs.YtmmkjokgjhcdlaaDoor
