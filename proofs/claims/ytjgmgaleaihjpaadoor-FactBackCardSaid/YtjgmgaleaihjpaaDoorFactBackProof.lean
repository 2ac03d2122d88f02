/- FactBack is proved: whatever slice of changes, whatever text and whichever three keys come in, the call returns true, and each argument reads afterwards as it read before; the package-level variables that the row lists are tied to the program's text by the card. There are no other conditions. -/
import Derived.Test.YtjgmgaleaihjpaaDoorFcQ
import Derived.Test.YtjgmgaleaihjpaaDoorFcO
import Derived.Test.YtjgmgaleaihjpaaDoorTie
import Derived.Test.YtjgmgaleaihjpaaDoorCards
import Derived.SevenTiedAt
import Derived.ChangeSame
import Derived.ChangeVars
import Derived.ChangeMaps5
import Derived.JoinedOf
import Derived.HandedShaped
import Derived.Shelf.Vars
import Derived.RowKit
import Derived.RowKitTokens
import Derived.LaidLaws
import Derived.LaidHandle
import Derived.LaidSub
import Derived.Lay
import Derived.Stop.Joined
namespace Go.Proofs.YtjgmgaleaihjpaaDoor
open Go Go.ChangeShapes Go.WideShapes Go.ChangeAt Go.RowKit Go.Joins

section
variable {H : Type} {enc : TypeId × Value → H}
/-- The wrap whose contract is handed what the row lists, the sizes and the world's shape. -/
theorem returns_and_shaped {a : Assume} {C : Checked} {os : Os} {f : FuncId} {fn : Func} {s : ChangeSpec} {conds : List PathCond} {apart fresh handsOn again : Bool} {X : World → Array Value → Prop}
    (hX : ∀ (w w' : World) (args : Array Value), w.heap = w'.heap → X w args → X w' args)
    (own : ownKnob C.prog.godebug = none) (started : os.Started) (noInit : C.prog.inits.idxOf? f = none) (hfn : C.prog.funcs[f]? = some fn)
    (witness : ∃ (w : World) (tape : Tape) (i : Input), w.os = os ∧ (w.forCall tape i).Shaped C.prog ∧ i.vars = [] ∧ Input.okWide C.prog (w.forCall tape i) .any w.heap.size f i ∧
      ((s.pre enc C.prog fn conds apart (w.forCall tape i).memory i.args ∧ X (w.forCall tape i).memory i.args) ∧ sizedMet enc C.prog fn (OpenSpec.ofChange s) apart (w.forCall tape i).memory i.args) ∧ a.holds C.prog (lone (Frame.enter C.prog f i.args .normal) [] (w.forCall tape i)))
    (contract : ∀ (W : World) (base : Nat) (args : Array Value) (ds gs : List (DataW H)) (before : List MemPlace),
      (∀ (j : Nat) t v, fn.params[j]? = some t → args[j]? = some v → Value.okWide C.prog W .any base t v) →
      DataW.Whole enc C.prog fn.params.toList s.vars apart W args.toList ds gs before →
      (DataW.weightsEach C.prog (fn.params.toList ++ s.plain.varTypes C.prog) (ds ++ gs)).all (· ≤ reachBytes) = true → X W args → W.ShapedOpen C.prog →
      Calls C.prog f args W fun e W' => ∃ v, e = .returned v ∧ s.post enc C.prog fn apart fresh handsOn again W args v W') :
    ReturnsInHanded a C os f .any (fun w args => (s.pre enc C.prog fn conds apart w args ∧ X w args) ∧ sizedMet enc C.prog fn (OpenSpec.ofChange s) apart w args) (s.post enc C.prog fn apart fresh handsOn again) := by
  refine returnsInHanded_of_calls own started noInit witness ?_
  intro w tape i _ hsh _ hok hpre _
  obtain ⟨_, _, _, fn', hfn', _, _, _, _, hval⟩ := hok
  have e : fn' = fn := Option.some.inj (hfn'.symm.trans hfn)
  subst e
  obtain ⟨⟨⟨ds, gs, before, hw, _⟩, hx⟩, hz⟩ := hpre
  have hw' := DataW.Whole.of_heap (w' := w.forCall tape i) (by rfl) hw
  refine (contract (w.forCall tape i) w.heap.size i.args ds gs before hval hw' (hz.weights hw) (hX _ _ _ (by rfl) hx) hsh).mono fun e W' ⟨v, he, hp⟩ => ?_
  subst he
  exact ChangeSpec.post_blind hp

/-- A variable that is listed as an interface value holds one. -/
theorem iface_of_laid {P : Program} {n nm : String} {d : DataW Unit} {W : World} {g : Nat} {ti : TypeId} {ms : Array (String × TypeId)} (h : laidMet P [(n, .iface nm d)] W)
    (hg : P.globalNamed n = some g) (ht : (P.globals[g]?).map (·.type) = some ti) (hi : P.underlying ti = some (.interface ms)) : ∃ t p, W.cell? ⟨g, 0, none⟩ = some (.iface t p) := by
  obtain ⟨ps, ⟨g0, t0, cs0, f0, p0, q0, hg0, ht0, hv0, hd0, _, _⟩, _, _⟩ := h
  obtain rfl := Option.some.inj (hg.symm.trans hg0)
  obtain rfl := Option.some.inj (ht.symm.trans ht0)
  obtain ⟨_, u, v, e, _, _⟩ := iface_of_trod hi hd0
  obtain ⟨l0⟩ := cs0
  obtain rfl : l0 = [.iface u v] := e
  exact ⟨u, v, by simpa using World.var?_cell hg hv0 0⟩

set_option maxRecDepth 100000 in
/-- A key's word is among the weights. -/
theorem key_weight {W : World} {sp : Nat → Bool} {held : Bool} {base : Nat} {k a b : Int} {s : ByteArray} {d : DataW H} {p : List MemPlace}
    (h : DataW.Trod enc Tryd.prog W base sp held 24 (.agg #[.int .i64 k, .int .i64 a, .string s, .int .i64 b]) d p) : s.size ∈ d.weights Tryd.prog 24 := by
  obtain ⟨fuel, h⟩ := h
  obtain ⟨xs, n, _, hx, _, hxl, hf⟩ := DataW.trod_struct Tryd.underlying24 h
  obtain ⟨rfl, _⟩ := Prod.mk.inj hx
  have g2 := hf 2 _ rfl
  simp [cellsStrO, Value.cells] at g2
  match xs, hxl with
  | [y0, y1, y2, y3], _ =>
    obtain ⟨x2, e2, w2, _⟩ := DataW.trod_string Tryd.underlying9 g2.symm.symm
    simp at e2 w2
    obtain rfl := e2
    clear hf
    unfold DataW.weights
    rw [Tryd.underlying24]
    refine DataW.weights_mem_each (j := 2) rfl rfl _ ?_
    show _ ∈ DataW.weights _ _ y2.1
    rw [w2]
    unfold DataW.weights
    exact List.mem_singleton.2 (by rw [Array.length_toList]; rfl)
end

theorem ownFb : ownKnob Tryd.prog.godebug = none := by kernel_rfl
theorem laidOutFb : laidOutB Tryd.prog = true := by kernel_rfl
theorem powTab_of_laidFb {W : World} (h : laidMetH Tryd.prog Rows.factBackRow.laid W) : PowTab W := by
  have h' : laidMet Tryd.prog [("internal/strconv.uint64pow10", Rows.laid_internal_strconv_uint64pow10)] W := h.filter fun x => x.1 == "internal/strconv.uint64pow10"
  exact Lib.tabIs_of_head (g := 3) (t := 146) (e := 117) (n := 20) (rest := []) (by kernel_rfl) (by kernel_rfl) Tryd.underlying146 Tryd.underlying117 (by kernel_rfl) (by kernel_rfl) (by
    have e : (Rows.laid_internal_strconv_uint64pow10 : DataW Unit) = Lib.tabData .u64 Lib.pow10Tab := by kernel_rfl
    rw [← e]; exact h')
theorem numVars_of_laidFb {W : World} (h : laidMetH Tryd.prog Rows.factBackRow.laid W) (hs : W.ShapedOpen Tryd.prog) : NumVars W where
  syn := iface_of_laid (n := "strconv.ErrSyntax") (h.filter fun x => x.1 == "strconv.ErrSyntax") (by kernel_rfl) (ti := 33) (by kernel_rfl) Tryd.underlying33
  rng := iface_of_laid (n := "strconv.ErrRange") (h.filter fun x => x.1 == "strconv.ErrRange") (by kernel_rfl) (ti := 33) (by kernel_rfl) Tryd.underlying33
  len := cell_of_shapedOpen_int (t := 3) (zero := #[.int .i64 0]) hs (by decide +kernel) (by kernel_rfl) rfl (by kernel_rfl) (by kernel_rfl) Tryd.underlying3

/-- A world that meets the condition. -/
noncomputable def laidWorldFb (os : Os) : World := World.laidAll Tryd.prog os Rows.factBackRow.laid
theorem laidWorldFb_met (os : Os) (args : Array Value) : laidMetH Tryd.prog Rows.factBackRow.laid ((laidWorldFb os).forCall (fun _ _ => 0) ⟨#[], args, []⟩).memory := 
  laidMetH_of_parts (laidMet_laidAll args (by kernel_rfl) (by kernel_rfl)) (by kernel_rfl)

set_option maxRecDepth 100000 in
theorem factBack_lifted (os : Os) (started : os.Started) (H : Type) (enc : TypeId × Value → H) :
    ReturnsInHanded {} Tryd.checked os 4 .any (fun w args => (Rows.factBackSpec.pre enc Tryd.prog Tryd.f4 [] false w args ∧ laidMetH Tryd.prog Rows.factBackRow.laid w) ∧ sizedMet enc Tryd.prog Tryd.f4 (OpenSpec.ofChange Rows.factBackSpec) false w args)
      (Rows.factBackSpec.post enc Tryd.prog Tryd.f4 false true false false) := by
  refine returns_and_shaped (C := Tryd.checked) (X := fun w _ => laidMetH Tryd.prog Rows.factBackRow.laid w) (fun _ _ _ hh h => h.of_heap hh) ownFb started (by kernel_rfl) Tryd.func4
    (ChangeSpec.witness_at (enc := enc) (C := Tryd.checked) (os := os) (X := fun w _ => laidMetH Tryd.prog Rows.factBackRow.laid w) false (laidWorldFb os) #[.slice none 0 0, .string ⟨#[]⟩, .agg #[.int .i64 0, .int .i64 0, .string ⟨#[]⟩, .int .i64 0], .agg #[.int .i64 0, .int .i64 0, .string ⟨#[]⟩, .int .i64 0], .agg #[.int .i64 0, .int .i64 0, .string ⟨#[]⟩, .int .i64 0]] 8 (World.laidAll_os _ _ _) (by kernel_rfl) (by kernel_rfl) (by kernel_rfl) (by kernel_rfl) (by kernel_rfl) (laidWorldFb_met os _)) ?_
  intro W base args ds gs before hval0 hW hz hL hsh
  have hval : ∀ (j : Nat) t v, Tryd.f4.params[j]? = some t → args[j]? = some v → Value.okWide Tryd.prog W .any base t v := hval0
  have hW' := hW
  obtain ⟨p, q, hA0, hV, rfl, _, _⟩ := hW
  have hA : DataW.TrodAll enc Tryd.prog W 0 (fun _ => true) true Tryd.f4.params.toList args.toList ds p := hA0
  have hpar : Tryd.f4.params = #[22, 9, 24, 24, 24] := Tryd.params4
  rw [hpar] at hA hval
  obtain ⟨v0, l1, d0, e1, p0, q1, ha0, rfl, rfl, h0, hA⟩ := trodAll_cons hA
  obtain ⟨v1, l2, d1, e2, p1, q2, rfl, rfl, rfl, h1, hA⟩ := trodAll_cons hA
  obtain ⟨v2, l3, d2, e3, p2, q3, rfl, rfl, rfl, h2, hA⟩ := trodAll_cons hA
  obtain ⟨v3, l4, d3, e4, p3, q4, rfl, rfl, rfl, h3, hA⟩ := trodAll_cons hA
  obtain ⟨v4, l5, d4, e5, p4, q5, rfl, rfl, rfl, h4, hA⟩ := trodAll_cons hA
  obtain ⟨rfl, rfl, rfl⟩ := trodAll_nil hA
  obtain rfl : args = #[v0, v1, v2, v3, v4] := by cases args; simpa using ha0
  obtain ⟨rfl, rfl⟩ := trodVars_none hV
  have h0k := h0
  have h1k := h1
  have h2k := h2
  have h3k := h3
  have h4k := h4
  obtain ⟨a0, l0, c0, rfl, s0, m0⟩ := open_ops (okWide_slice Tryd.underlying22 (hval 0 22 v0 rfl rfl)) h0
  obtain ⟨s, rfl, _, _, ms⟩ := ChangeMaps.open_string Tryd.underlying9 (hval 1 9 v1 rfl rfl) h1
  obtain ⟨x, rfl, mx⟩ := open_key (hval 2 24 v2 rfl rfl) h2
  obtain ⟨y, rfl, my⟩ := open_key (hval 3 24 v3 rfl rfl) h3
  obtain ⟨z, rfl, mz⟩ := open_key (hval 4 24 v4 rfl rfl) h4
  have hz' : (DataW.weightsEach Tryd.prog [22, 9, 24, 24, 24] [d0, d1, d2, d3, d4]).all (· ≤ reachBytes) = true := by
    have := hz
    rw [show Tryd.checked.prog = Tryd.prog from rfl, hpar] at this
    exact this
  have wx : x.word.size ≤ reachBytes := of_decide_eq_true (List.all_eq_true.1 hz' _ (DataW.weights_mem_each (j := 2) rfl rfl _ (key_weight h2k)))
  have wy : y.word.size ≤ reachBytes := of_decide_eq_true (List.all_eq_true.1 hz' _ (DataW.weights_mem_each (j := 3) rfl rfl _ (key_weight h3k)))
  have wz : z.word.size ≤ reachBytes := of_decide_eq_true (List.all_eq_true.1 hz' _ (DataW.weights_mem_each (j := 4) rfl rfl _ (key_weight h4k)))
  have hlt : ∀ x ∈ p0 ++ (p1 ++ (p2 ++ (p3 ++ p4))), x.block < W.heap.size := fun x hx => by have := hW'.lt x (by simpa using hx); simpa using this
  clear hA0 hval0 h0 h1 h2 h3 h4
  simp only [List.append_nil] at hW'
  refine (factBack_walk a0 c0 l0 s x.kind x.a x.b y.kind y.a y.b z.kind z.a z.b x.word y.word z.word W (powTab_of_laidFb hL) (numVars_of_laidFb hL hsh) s0 m0 ms mx my mz (by unfold reachBytes at wx wy wz; unfold maxLen; omega)).mono fun e W' ⟨he, hb⟩ => ?_
  subst he
  have t0 := Below.trod laidOutFb (by kernel_rfl) (of_decide_eq_true (by kernel_rfl)) h0k hb (fun x hx => hlt x (by simp [hx]))
  have t1 := Below.trod laidOutFb (by kernel_rfl) (of_decide_eq_true (by kernel_rfl)) h1k hb (fun x hx => hlt x (by simp [hx]))
  have t2 := Below.trod laidOutFb (by kernel_rfl) (of_decide_eq_true (by kernel_rfl)) h2k hb (fun x hx => hlt x (by simp [hx]))
  have t3 := Below.trod laidOutFb (by kernel_rfl) (of_decide_eq_true (by kernel_rfl)) h3k hb (fun x hx => hlt x (by simp [hx]))
  have t4 := Below.trod laidOutFb (by kernel_rfl) (of_decide_eq_true (by kernel_rfl)) h4k hb (fun x hx => hlt x (by simp [hx]))
  exact ⟨_, rfl, _, _, _, [], _, [], hW', trodAll_mk1 (shut_bool Tryd.underlying4 _), ⟨_, _, t0, ⟨_, _, t1, trodAll_mk3 t2 t3 t4, rfl⟩, rfl⟩, rfl, hb.frame _, fun h => by cases h⟩

theorem factBack_row : Rows.FactBackSaid :=
  OpenClaim.holds_of_wide 4 Tryd.f4 rfl rfl rfl rfl rfl rfl rfl ⟨rfl, rfl, rfl, rfl, rfl⟩ rfl rfl rfl rfl rfl (by kernel_rfl) Tryd.func4 (by kernel_rfl)
    (of_decide_eq_true (by kernel_rfl)) (by unfold Func.isWrapper; first | (rw [if_pos (by decide +kernel)]; kernel_rfl) | (rw [if_neg (by decide +kernel)]; exact ⟨rfl, rfl⟩))
    (fun os started H enc _ => factBack_lifted os started H enc)

theorem factBack_holds : Rows.FactBackCardSaid :=
  Claim7.holds_tied_plain_at .later [] [.data, .data, .data, .data, .sentinel, .sentinel, .pinned] true (true, "cfe8a3d0ef90386d84f8d4cbce8ea5c17965d9622e38af3cc6f684b13b530fa4") true
    factBack_row (fun _ h => by cases h) (by kernel_rfl) (fun _ h => by cases h) factBack_row_tie rfl ⟨rfl, rfl⟩ (by kernel_rfl) rfl
    (fun f fn hf hfn => by
      obtain rfl : f = 4 := Option.some.inj ((show Tryd.prog.funcNamed "palimpsest/palimpsestkeep.FactBack" = some 4 by kernel_rfl).symm.trans hf) |>.symm
      obtain rfl : fn = Tryd.f4 := (Option.some.inj (Tryd.func4.symm.trans hfn)).symm
      exact ⟨by kernel_rfl, fun j t ht => by
        rw [Tryd.params4] at ht
        rcases j with _ | _ | _ | _ | _ | j
        · have : t = 22 := by simpa using ht.symm
          subst this
          exact (show Tryd.prog.wantsStandIn 22 = false by kernel_rfl)
        · have : t = 9 := by simpa using ht.symm
          subst this
          exact (show Tryd.prog.wantsStandIn 9 = false by kernel_rfl)
        · have : t = 24 := by simpa using ht.symm
          subst this
          exact (show Tryd.prog.wantsStandIn 24 = false by kernel_rfl)
        · have : t = 24 := by simpa using ht.symm
          subst this
          exact (show Tryd.prog.wantsStandIn 24 = false by kernel_rfl)
        · have : t = 24 := by simpa using ht.symm
          subst this
          exact (show Tryd.prog.wantsStandIn 24 = false by kernel_rfl)
        · simp at ht⟩)
    (by kernel_rfl)
#print axioms factBack_holds
end Go.Proofs.YtjgmgaleaihjpaaDoor
