/- FactReads is proved: whatever text comes in, the call returns true, and the argument reads afterwards as it read before; the package-level variables that the row lists are tied to the program's text by the card. There are no other conditions. -/
import Derived.Test.YtjgmgaleaihjpaaGreatDoorRdC
import Derived.Test.YtjgmgaleaihjpaaGreatDoorTie
import Derived.Test.YtjgmgaleaihjpaaGreatDoorCards
import Derived.SevenTiedAt
import Derived.ChangeSame
import Derived.ChangeVars
import Derived.ChangeMaps5
import Derived.JoinedOf
import Derived.HandedShaped
import Derived.Shelf.Vars
import Derived.RowKit
import Derived.RowKitTokens
import Derived.LaidLaws
import Derived.LaidHandle
import Derived.LaidSub
import Derived.Lay
import Derived.Stop.Joined
namespace Go.Proofs.YtjgmgaleaihjpaaGreatDoor
open Go Go.ChangeShapes Go.WideShapes Go.RowKit

section
variable {H : Type} {enc : TypeId × Value → H}
/-- The wrap whose contract is handed what the row lists, the sizes and the world's shape. -/
theorem returns_and_shaped {a : Assume} {C : Checked} {os : Os} {f : FuncId} {fn : Func} {s : ChangeSpec} {conds : List PathCond} {apart fresh handsOn again : Bool} {X : World → Array Value → Prop}
    (hX : ∀ (w w' : World) (args : Array Value), w.heap = w'.heap → X w args → X w' args)
    (own : ownKnob C.prog.godebug = none) (started : os.Started) (noInit : C.prog.inits.idxOf? f = none) (hfn : C.prog.funcs[f]? = some fn)
    (witness : ∃ (w : World) (tape : Tape) (i : Input), w.os = os ∧ (w.forCall tape i).Shaped C.prog ∧ i.vars = [] ∧ Input.okWide C.prog (w.forCall tape i) .any w.heap.size f i ∧
      ((s.pre enc C.prog fn conds apart (w.forCall tape i).memory i.args ∧ X (w.forCall tape i).memory i.args) ∧ sizedMet enc C.prog fn (OpenSpec.ofChange s) apart (w.forCall tape i).memory i.args) ∧ a.holds C.prog (lone (Frame.enter C.prog f i.args .normal) [] (w.forCall tape i)))
    (contract : ∀ (W : World) (base : Nat) (args : Array Value) (ds gs : List (DataW H)) (before : List MemPlace),
      (∀ (j : Nat) t v, fn.params[j]? = some t → args[j]? = some v → Value.okWide C.prog W .any base t v) →
      DataW.Whole enc C.prog fn.params.toList s.vars apart W args.toList ds gs before →
      (DataW.weightsEach C.prog (fn.params.toList ++ s.plain.varTypes C.prog) (ds ++ gs)).all (· ≤ reachBytes) = true → X W args → W.ShapedOpen C.prog →
      Calls C.prog f args W fun e W' => ∃ v, e = .returned v ∧ s.post enc C.prog fn apart fresh handsOn again W args v W') :
    ReturnsInHanded a C os f .any (fun w args => (s.pre enc C.prog fn conds apart w args ∧ X w args) ∧ sizedMet enc C.prog fn (OpenSpec.ofChange s) apart w args) (s.post enc C.prog fn apart fresh handsOn again) := by
  refine returnsInHanded_of_calls own started noInit witness ?_
  intro w tape i _ hsh _ hok hpre _
  obtain ⟨_, _, _, fn', hfn', _, _, _, _, hval⟩ := hok
  have e : fn' = fn := Option.some.inj (hfn'.symm.trans hfn)
  subst e
  obtain ⟨⟨⟨ds, gs, before, hw, _⟩, hx⟩, hz⟩ := hpre
  have hw' := DataW.Whole.of_heap (w' := w.forCall tape i) (by rfl) hw
  refine (contract (w.forCall tape i) w.heap.size i.args ds gs before hval hw' (hz.weights hw) (hX _ _ _ (by rfl) hx) hsh).mono fun e W' ⟨v, he, hp⟩ => ?_
  subst he
  exact ChangeSpec.post_blind hp

/-- A variable that is listed as an interface value holds one. -/
theorem iface_of_laid {P : Program} {n nm : String} {d : DataW Unit} {W : World} {g : Nat} {ti : TypeId} {ms : Array (String × TypeId)} (h : laidMet P [(n, .iface nm d)] W)
    (hg : P.globalNamed n = some g) (ht : (P.globals[g]?).map (·.type) = some ti) (hi : P.underlying ti = some (.interface ms)) : ∃ t p, W.cell? ⟨g, 0, none⟩ = some (.iface t p) := by
  obtain ⟨ps, ⟨g0, t0, cs0, f0, p0, q0, hg0, ht0, hv0, hd0, _, _⟩, _, _⟩ := h
  obtain rfl := Option.some.inj (hg.symm.trans hg0)
  obtain rfl := Option.some.inj (ht.symm.trans ht0)
  obtain ⟨_, u, v, e, _, _⟩ := iface_of_trod hi hd0
  obtain ⟨l0⟩ := cs0
  obtain rfl : l0 = [.iface u v] := e
  exact ⟨u, v, by simpa using World.var?_cell hg hv0 0⟩
end
theorem ownFx : ownKnob Tryz.prog.godebug = none := by kernel_rfl
theorem laidOutFx : laidOutB Tryz.prog = true := by kernel_rfl
theorem etFx : Tryz.prog.globalNamed "errors.errorType" = some 6 := by kernel_rfl
theorem rtFx : (Tryz.prog.cutTypes.find? (·.1 == "internal/reflectlite.rtype")).map (·.2) = some 159 := by kernel_rfl
theorem oneRowFx : ((List.range Tryz.prog.types.size).filter fun t => Tryz.prog.rowNamed t [101, 114, 114, 111, 114]) = [27] := by kernel_rfl

theorem errVar_of_laidFx {W : World} (h : laidMetH Tryz.prog Rows.factReadsRow.laid W) : ErrVar W := by
  have h' : laidMet Tryz.prog _ W ∧ handlesMet Tryz.prog [("errors.errorType", Rows.laid_errors_errorType)] W := h.filter fun x => x.1 == "errors.errorType"
  obtain ⟨name, u, ty, e1, e2, e3, e4, e5⟩ := h'.2 _ (List.mem_singleton.2 rfl)
  have en : name = [101, 114, 114, 111, 114] := (Option.some.inj e1).symm
  subst en
  obtain rfl := Option.some.inj (rtFx.symm.trans e2)
  have hm : ty ∈ (List.range Tryz.prog.types.size).filter fun t => Tryz.prog.rowNamed t [101, 114, 114, 111, 114] := List.mem_filter.2 ⟨List.mem_range.2 e3, e4⟩
  rw [oneRowFx] at hm
  obtain rfl := List.mem_singleton.1 hm
  have hh : typeHandle Tryz.prog 27 = .pointer (some ⟨9, 27, none⟩) := by kernel_rfl
  rw [hh] at e5
  have := World.var?_cell etFx e5 0
  unfold ErrVar
  simpa using this
theorem powTab_of_laidFx {W : World} (h : laidMetH Tryz.prog Rows.factReadsRow.laid W) : PowTab W := by
  have h' : laidMet Tryz.prog [("internal/strconv.uint64pow10", Rows.laid_internal_strconv_uint64pow10)] W := h.filter fun x => x.1 == "internal/strconv.uint64pow10"
  exact Lib.tabIs_of_head (g := 3) (t := 120) (e := 101) (n := 20) (rest := []) (by kernel_rfl) (by kernel_rfl) Tryz.underlying120 Tryz.underlying101 (by kernel_rfl) (by kernel_rfl) (by
    have e : (Rows.laid_internal_strconv_uint64pow10 : DataW Unit) = Lib.tabData .u64 Lib.pow10Tab := by kernel_rfl
    rw [← e]; exact h')

theorem numVars_of_laidFx {W : World} (h : laidMetH Tryz.prog Rows.factReadsRow.laid W) (hs : W.ShapedOpen Tryz.prog) : NumVars W where
  syn := iface_of_laid (n := "strconv.ErrSyntax") (h.filter fun x => x.1 == "strconv.ErrSyntax") (by kernel_rfl) (ti := 27) (by kernel_rfl) Tryz.underlying27
  rng := iface_of_laid (n := "strconv.ErrRange") (h.filter fun x => x.1 == "strconv.ErrRange") (by kernel_rfl) (ti := 27) (by kernel_rfl) Tryz.underlying27
  len := cell_of_shapedOpen_int (t := 3) (zero := #[.int .i64 0]) hs (by decide +kernel) (by kernel_rfl) rfl (by kernel_rfl) (by kernel_rfl) Tryz.underlying3


/-- A world that meets the condition: the handle, then the plain tables. -/
noncomputable def handleWorldFx (os : Os) : World :=
  let w0 := World.holding Tryz.prog os ⟨#[], #[], []⟩
  { w0 with heap := w0.heap.modify 6 fun
      | .cells _ t frozen => .cells #[.iface 159 (.agg #[.pointer (some ⟨9, 27, none⟩)])] t frozen
      | o => o }
noncomputable def laidWorldFx (os : Os) : World := (handleWorldFx os).layVars Tryz.prog (Rows.factReadsRow.laid.filter fun x => x.2.handleName?.isNone)
theorem laidWorldFx_met (os : Os) (args : Array Value) : laidMetH Tryz.prog Rows.factReadsRow.laid ((laidWorldFx os).forCall (fun _ _ => 0) ⟨#[], args, []⟩).memory := by
  have hd : laidMet Tryz.prog (Rows.factReadsRow.laid.filter fun x => x.2.handleName?.isNone) (laidWorldFx os) := by
    refine laidMet_layVars (w0 := handleWorldFx os) ((Rows.factReadsRow.laid.filter fun x => x.2.handleName?.isNone).map (·.1)) [] ?_ ?_ ?_ ?_
    · have e1 : ((Rows.factReadsRow.laid.filter fun x => x.2.handleName?.isNone).filter fun x => ((Rows.factReadsRow.laid.filter fun x => x.2.handleName?.isNone).map (·.1)).contains x.1) = (Rows.factReadsRow.laid.filter fun x => x.2.handleName?.isNone) := List.filter_eq_self.2 fun x hx => List.contains_iff_mem.2 (List.mem_map.2 ⟨x, hx, rfl⟩)
      rw [e1]; rfl
    · kernel_rfl
    · kernel_rfl
    · have e2 : ((Rows.factReadsRow.laid.filter fun x => x.2.handleName?.isNone).filter fun x => !((Rows.factReadsRow.laid.filter fun x => x.2.handleName?.isNone).map (·.1)).contains x.1) = [] := List.filter_eq_nil_iff.2 fun x hx => by rw [List.contains_iff_mem.2 (List.mem_map.2 ⟨x, hx, rfl⟩)]; simp
      rw [e2]; exact LaidIn.none
  exact laidMetH_of_parts (hd.of_heap (by simp [World.memory, World.forCall, Input.heap])) (by kernel_rfl)

set_option maxRecDepth 100000 in
theorem factReads_lifted (os : Os) (started : os.Started) (H : Type) (enc : TypeId × Value → H) :
    ReturnsInHanded {} Tryz.checked os 3 .any (fun w args => (Rows.factReadsSpec.pre enc Tryz.prog Tryz.f3 [] false w args ∧ laidMetH Tryz.prog Rows.factReadsRow.laid w) ∧ sizedMet enc Tryz.prog Tryz.f3 (OpenSpec.ofChange Rows.factReadsSpec) false w args)
      (Rows.factReadsSpec.post enc Tryz.prog Tryz.f3 false true false false) := by
  refine returns_and_shaped (C := Tryz.checked) (X := fun w _ => laidMetH Tryz.prog Rows.factReadsRow.laid w) (fun _ _ _ hh h => h.of_heap hh) ownFx started (by kernel_rfl) Tryz.func3
    (ChangeSpec.witness_at (enc := enc) (C := Tryz.checked) (os := os) (X := fun w _ => laidMetH Tryz.prog Rows.factReadsRow.laid w) false (laidWorldFx os) #[.string ⟨#[]⟩] 8 rfl (by kernel_rfl) (by kernel_rfl) (by kernel_rfl) (by kernel_rfl) (by kernel_rfl) (laidWorldFx_met os _)) ?_
  intro W base args ds gs before hval0 hW _ hL hsh
  have hval : ∀ (j : Nat) t v, Tryz.f3.params[j]? = some t → args[j]? = some v → Value.okWide Tryz.prog W .any base t v := hval0
  have hW' := hW
  obtain ⟨p, q, hA0, hV, rfl, _, _⟩ := hW
  have hA : DataW.TrodAll enc Tryz.prog W 0 (fun _ => true) true Tryz.f3.params.toList args.toList ds p := hA0
  rw [Tryz.params3] at hA hval
  obtain ⟨v0, d0, rfl, rfl, h0⟩ := trodAll_one hA
  obtain ⟨rfl, rfl⟩ := trodVars_none hV
  have h0k := h0
  obtain ⟨s, rfl, _, _, ms⟩ := ChangeMaps.open_string Tryz.underlying9 (hval 0 9 v0 rfl rfl) h0
  have hlt : ∀ x ∈ p, x.block < W.heap.size := fun x hx => by have := hW'.lt x (by simpa using hx); simpa using this
  clear hA0 hval0 h0
  simp only [List.append_nil] at hW'
  refine (factReads_walk s W (errVar_of_laidFx hL) (powTab_of_laidFx hL) (numVars_of_laidFx hL hsh) ms).mono fun e W' ⟨he, hb⟩ => ?_
  subst he
  have t0 := Below.trod laidOutFx (by kernel_rfl) (of_decide_eq_true (by kernel_rfl)) h0k hb hlt
  exact ⟨_, rfl, _, _, _, [], _, [], hW', trodAll_mk1 (shut_bool Tryz.underlying4 _), trodAll_mk1 t0, rfl, hb.frame _, fun h => by cases h⟩

theorem factReads_row : Rows.FactReadsSaid :=
  OpenClaim.holds_of_wide 3 Tryz.f3 rfl rfl rfl rfl rfl rfl rfl ⟨rfl, rfl, rfl, rfl, rfl⟩ rfl rfl rfl rfl rfl (by kernel_rfl) Tryz.func3 (by kernel_rfl)
    (of_decide_eq_true (by kernel_rfl)) (by unfold Func.isWrapper; first | (rw [if_pos (by decide +kernel)]; kernel_rfl) | (rw [if_neg (by decide +kernel)]; exact ⟨rfl, rfl⟩))
    (fun os started H enc _ => factReads_lifted os started H enc)

theorem factReads_holds : Rows.FactReadsCardSaid :=
  Claim7.holds_tied_plain_at .later [] [.data, .data, .data, .data, .handle, .sentinel, .sentinel, .pinned] true (true, "e876fe6ccdcf502fbc00e27519f516e0e3232d34e726d53d376f4ec78f359c04") true
    factReads_row (fun _ h => by cases h) (by kernel_rfl) (fun _ h => by cases h) factReads_row_tie rfl ⟨rfl, rfl⟩ (by kernel_rfl) rfl
    (fun f fn hf hfn => by
      obtain rfl : f = 3 := Option.some.inj ((show Tryz.prog.funcNamed "palimpsest/palimpsestlaw.FactReads" = some 3 by kernel_rfl).symm.trans hf) |>.symm
      obtain rfl : fn = Tryz.f3 := (Option.some.inj (Tryz.func3.symm.trans hfn)).symm
      exact ⟨by kernel_rfl, fun j t ht => by
        rw [Tryz.params3] at ht
        rcases j with _ | j
        · have : t = 9 := by simpa using ht.symm
          subst this
          exact (show Tryz.prog.wantsStandIn 9 = false by kernel_rfl)
        · simp at ht⟩)
    (by kernel_rfl)
#print axioms factReads_holds
end Go.Proofs.YtjgmgaleaihjpaaGreatDoor
