/- Steps and questions that come in, opened. -/
import Derived.Deep.SlicePairs
import Derived.ProofKit
import Derived.Lib.SmallJoins
import Derived.Test.YtflhpmgjehjjkaaGreatDoorPpAJp
import Derived.Test.YtflhpmgjehjjkaaGreatDoorFcOJp
import Derived.Test.YtflhpmgjehjjkaaGreatDoorRpHJp
namespace Go.Proofs.YtflhpmgjehjjkaaGreatDoor
open Go.ChangeShapes Go.WideShapes Go.ChangeAt Go.RowKit Go.Joins Go.Deep
theorem wf_i64O {n : Int} (h : (Lit.int .i64 n).wf = true) : i64 n := by
 simp [Lit.wf, IntKind.min, IntKind.max, IntKind.bits, IntKind.signed] at h
 unfold i64
 omega
theorem cellsStep : Tryz.prog.cellsOf 103 = 4 := by kernel_rfl
theorem cellsAsk : Tryz.prog.cellsOf 110 = 9 := by kernel_rfl
theorem cellsOpsS : Tryz.prog.cellsOf 33 = 1 := by kernel_rfl
set_option maxRecDepth 100000 in
theorem ops_trod {H : Type} {enc : TypeId × Value -> H} {W : World} {fuel : Nat} {cs : List Value} {x : DataW H × List MemPlace} (h : DataW.trod enc Tryz.prog W 0 (fun _ => true) true fuel 33 cs = some x) :
  ∃ ao l cap, cs = [.slice ao l.length cap] /\ opsAt W ao l /\ l.length <= maxLen := by
 rcases Go.Deep.open_slice Tryz.underlying33 h with ⟨hc, _⟩ | ⟨a, len, cap, m, n, D, Pl, hc, hb, hl, hm, hmm, _, hx⟩
 · exact ⟨none, [], 0, hc, (fun i p h => by simp at h), Nat.zero_le _⟩
 · simp only [if_true] at hmm
   have key : ∀ i, i < len -> ∃ o : OpP, ∀ j u, (opCells o)[j]? = some u -> W.cell? (a.add (i * 7 + j)) = some u := by
    intro i hi
    obtain ⟨cs', h1, h2⟩ := hx i (by omega)
    rw [cellsOp] at h1
    obtain ⟨_, hlen, hcell⟩ := World.cells?_some h1
    obtain ⟨o, ho⟩ := op_trod h2
    refine ⟨o, fun j u hj => ?_⟩
    have hj7 : j < 7 := (List.getElem?_eq_some_iff.1 hj).1
    have c := hcell j (by omega)
    rw [add_add] at c
    rw [ho, hj] at c
    exact c
   obtain ⟨q, hq⟩ := choose_lt key
   refine ⟨some a, (List.range len).map q, cap, by rw [hc]; simp, ?_, by simp; omega⟩
   intro i o ho
   simp only [List.getElem?_map, Option.map_eq_some_iff] at ho
   obtain ⟨i', hi', rfl⟩ := ho
   obtain ⟨hlt, rfl⟩ := List.getElem?_eq_some_iff.1 hi'
   simp only [List.length_range] at hlt
   simp only [List.getElem_range] at *
   have z0 := hq 0 (by omega) 0 _ rfl
   have hs := World.cell?_spot z0
   obtain ⟨b, f, sp⟩ := a
   have hsp : sp = none := by simpa [Addr.add] using hs
   subst hsp
   have ha : ∀ k, (⟨b, f, none⟩ : Addr).add k = ⟨b, f + k, none⟩ := fun k => by unfold Addr.add; split <;> simp_all
   refine ⟨b, f, rfl, fun j u hj => ?_⟩
   have := hq i hlt j u hj
   rw [ha, <- Nat.add_assoc] at this
   exact this
set_option maxRecDepth 100000 in
theorem step_trod {H : Type} {enc : TypeId × Value -> H} {W : World} {fuel : Nat} {cs : List Value} {x : DataW H × List MemPlace} (h : DataW.trod enc Tryz.prog W 0 (fun _ => true) true fuel 103 cs = some x) :
  ∃ s : StepP, ∃ oo oc, cs = [.int .i64 s.what, .int .i64 s.n, .int .i64 s.torn, .slice oo s.ops.length oc] /\ opsAt W oo s.ops /\ s.ops.length <= maxLen /\ (i64 s.n /\ i64 s.torn) := by
 obtain ⟨xs, n, _, _, hl, hxl, hf⟩ := DataW.trod_struct Tryz.underlying103 h
 rw [cellsStep] at hl
 match xs, hxl, cs, hl with
 | [y0, y1, y2, y3], _, [v0, v1, v2, v3], _ =>
   have g0 := hf 0 _ rfl
   have g1 := hf 1 _ rfl
   have g2 := hf 2 _ rfl
   have g3 := hf 3 _ rfl
   simp [cellsIntO, cellsOpsS] at g0 g1 g2 g3
   obtain ⟨x0, e0, _, _⟩ := DataW.trod_int Tryz.underlying3 g0
   obtain ⟨x1, e1, _, w1⟩ := DataW.trod_int Tryz.underlying3 g1
   obtain ⟨x2, e2, _, w2⟩ := DataW.trod_int Tryz.underlying3 g2
   obtain ⟨oo, l, oc, e3, ho, hm⟩ := ops_trod g3
   simp at e0 e1 e2 e3
   exact ⟨⟨x0, x1, x2, l⟩, oo, oc, by simp [e0, e1, e2, e3], ho, hm, wf_i64O w1, wf_i64O w2⟩
set_option maxRecDepth 100000 in
theorem ask_trod {H : Type} {enc : TypeId × Value -> H} {W : World} {sp : Nat -> Bool} {held : Bool} {base fuel : Nat} {cs : List Value} {x : DataW H × List MemPlace} (h : DataW.trod enc Tryz.prog W base sp held fuel 110 cs = some x) :
  ∃ s : AskP, cs = askCells s /\ s.key.word.size <= maxLen := by
 obtain ⟨xs, n, _, _, hl, hxl, hf⟩ := DataW.trod_struct Tryz.underlying110 h
 rw [cellsAsk] at hl
 match xs, hxl, cs, hl with
 | [y0, y1, y2, y3, y4], _, [v0, v1, v2, v3, v4, v5, v6, v7, v8], _ =>
   have g0 := hf 0 _ rfl
   have g1 := hf 1 _ rfl
   have g2 := hf 2 _ rfl
   have g3 := hf 3 _ rfl
   have g4 := hf 4 _ rfl
   simp [cellsKey, cellsIntO, cellsSpanO] at g0 g1 g2 g3 g4
   obtain ⟨k, ek, hk⟩ := key_trod g0
   obtain ⟨x1, e1, _, _⟩ := DataW.trod_int Tryz.underlying3 g1
   obtain ⟨x2, e2, _, _⟩ := DataW.trod_int Tryz.underlying3 g2
   obtain ⟨x3, e3, _, _⟩ := DataW.trod_int Tryz.underlying3 g3
   obtain ⟨zs, m, _, _, _, hzl, hf2⟩ := DataW.trod_struct Tryz.underlying68 g4
   match zs, hzl with
   | [z0, z1], _ =>
     have t0 := hf2 0 _ rfl
     have t1 := hf2 1 _ rfl
     simp [cellsIntO] at t0 t1
     obtain ⟨x4, e4, _, _⟩ := DataW.trod_int Tryz.underlying3 t0
     obtain ⟨x5, e5, _, _⟩ := DataW.trod_int Tryz.underlying3 t1
     simp at e1 e2 e3 e4 e5
     simp [keyCells] at ek
     obtain ⟨k0, k1, k2, k3⟩ := ek
     exact ⟨⟨k, x1, x2, x3, x4, x5⟩, by simp [askCells, k0, k1, k2, k3, e1, e2, e3, e4, e5], hk⟩
set_option maxRecDepth 100000 in
theorem open_stepsI {H : Type} {enc : TypeId × Value -> H} {W : World} {v : Value} {d : DataW H} {p : List MemPlace} (hv : ∃ a len cap, v = .slice a len cap)
  (h : DataW.Trod enc Tryz.prog W 0 (fun _ => true) true 98 v d p) : ∃ ao l cap, v = .slice ao l.length cap /\ stepsAt W ao l /\ l.length <= maxLen /\ ∀ x ∈ l, i64 x.n /\ i64 x.torn := by
 obtain ⟨fuel, h⟩ := h
 obtain ⟨a0, len0, cap0, rfl⟩ := hv
 rcases Go.Deep.open_slice Tryz.underlying98 h with ⟨hc, _⟩ | ⟨a, len, cap, m, n, D, Pl, hc, hb, hl, hm, hmm, _, hx⟩
 · simp [Value.cells] at hc
   obtain ⟨rfl, rfl, rfl⟩ := hc
   exact ⟨none, [], 0, rfl, (fun i p h => by simp at h), Nat.zero_le _, fun x hx => by cases hx⟩
 · simp [Value.cells] at hc
   obtain ⟨rfl, rfl, rfl⟩ := hc
   simp only [if_true] at hmm
   have key : ∀ i, i < len0 -> ∃ o : StepP × Option Addr × Nat, (∀ j u, ([.int .i64 o.1.what, .int .i64 o.1.n, .int .i64 o.1.torn, .slice o.2.1 o.1.ops.length o.2.2] : List Value)[j]? = some u -> W.cell? (a.add (i * 4 + j)) = some u) /\ opsAt W o.2.1 o.1.ops /\ o.1.ops.length <= maxLen /\ (i64 o.1.n /\ i64 o.1.torn) := by
    intro i hi
    obtain ⟨cs', h1, h2⟩ := hx i (by omega)
    rw [cellsStep] at h1
    obtain ⟨_, hlen, hcell⟩ := World.cells?_some h1
    obtain ⟨s, oo, oc, ho, h3, h4, h5⟩ := step_trod h2
    refine ⟨⟨s, oo, oc⟩, fun j u hj => ?_, h3, h4, h5⟩
    have hj4 : j < 4 := (List.getElem?_eq_some_iff.1 hj).1
    have c := hcell j (by omega)
    rw [add_add] at c
    rw [ho] at c
    exact c.trans hj
   haveI : Inhabited (StepP × Option Addr × Nat) := ⟨⟨⟨0, 0, 0, []⟩, none, 0⟩⟩
   obtain ⟨q, hq⟩ := choose_lt key
   refine ⟨some a, (List.range len0).map fun i => (q i).1, cap0, by simp, ?_, by simp; omega, fun x hx => by obtain ⟨i, hi, rfl⟩ := List.mem_map.1 hx; exact (hq i (List.mem_range.1 hi)).2.2.2⟩
   intro i o ho
   simp only [List.getElem?_map, Option.map_eq_some_iff] at ho
   obtain ⟨i', hi', rfl⟩ := ho
   obtain ⟨hlt, rfl⟩ := List.getElem?_eq_some_iff.1 hi'
   simp only [List.length_range] at hlt
   simp only [List.getElem_range] at *
   have z0 := (hq 0 (by omega)).1 0 _ rfl
   have hs := World.cell?_spot z0
   obtain ⟨b, f, sp⟩ := a
   have hsp : sp = none := by simpa [Addr.add] using hs
   subst hsp
   have ha : ∀ k, (⟨b, f, none⟩ : Addr).add k = ⟨b, f + k, none⟩ := fun k => by unfold Addr.add; split <;> simp_all
   obtain ⟨hc, ho, hm, _⟩ := hq i hlt
   have hc' : ∀ j u, ([.int .i64 (q i).1.what, .int .i64 (q i).1.n, .int .i64 (q i).1.torn, .slice (q i).2.1 (q i).1.ops.length (q i).2.2] : List Value)[j]? = some u -> W.cell? ⟨b, f + i * 4 + j, none⟩ = some u := fun j u hj => by
    have := hc j u hj
    rw [ha, <- Nat.add_assoc] at this
    exact this
   exact ⟨b, f, rfl, (q i).2.1, (q i).2.2, hc' 0 _ rfl, hc' 1 _ rfl, hc' 2 _ rfl, hc' 3 _ rfl, ho, hm⟩
set_option maxRecDepth 100000 in
theorem open_asks {H : Type} {enc : TypeId × Value -> H} {W : World} {v : Value} {d : DataW H} {p : List MemPlace} (hv : ∃ a len cap, v = .slice a len cap)
  (h : DataW.Trod enc Tryz.prog W 0 (fun _ => true) true 99 v d p) : ∃ ao l cap, v = .slice ao l.length cap /\ asksAt W ao l /\ (∀ x ∈ l, x.key.word.size <= maxLen) /\ l.length <= maxLen := by
 obtain ⟨fuel, h⟩ := h
 obtain ⟨a0, len0, cap0, rfl⟩ := hv
 rcases Go.Deep.open_slice Tryz.underlying99 h with ⟨hc, _⟩ | ⟨a, len, cap, m, n, D, Pl, hc, hb, hl, hm, hmm, _, hx⟩
 · simp [Value.cells] at hc
   obtain ⟨rfl, rfl, rfl⟩ := hc
   exact ⟨none, [], 0, rfl, (fun i p h => by simp at h), (fun x h => by cases h), Nat.zero_le _⟩
 · simp [Value.cells] at hc
   obtain ⟨rfl, rfl, rfl⟩ := hc
   simp only [if_true] at hmm
   have key : ∀ i, i < len0 -> ∃ o : AskP, (∀ j u, (askCells o)[j]? = some u -> W.cell? (a.add (i * 9 + j)) = some u) /\ o.key.word.size <= maxLen := by
    intro i hi
    obtain ⟨cs', h1, h2⟩ := hx i (by omega)
    rw [cellsAsk] at h1
    obtain ⟨_, hlen, hcell⟩ := World.cells?_some h1
    obtain ⟨o, ho, hk⟩ := ask_trod h2
    refine ⟨o, fun j u hj => ?_, hk⟩
    have hj9 : j < 9 := (List.getElem?_eq_some_iff.1 hj).1
    have c := hcell j (by omega)
    rw [add_add] at c
    rw [ho, hj] at c
    exact c
   haveI : Inhabited AskP := ⟨⟨⟨0, 0, ⟨#[]⟩, 0⟩, 0, 0, 0, 0, 0⟩⟩
   obtain ⟨q, hq⟩ := choose_lt key
   refine ⟨some a, (List.range len0).map q, cap0, by simp, ?_, ?_, by simp; omega⟩
   · intro i o ho
     simp only [List.getElem?_map, Option.map_eq_some_iff] at ho
     obtain ⟨i', hi', rfl⟩ := ho
     obtain ⟨hlt, rfl⟩ := List.getElem?_eq_some_iff.1 hi'
     simp only [List.length_range] at hlt
     simp only [List.getElem_range] at *
     have z0 := (hq 0 (by omega)).1 0 _ rfl
     have hs := World.cell?_spot z0
     obtain ⟨b, f, sp⟩ := a
     have hsp : sp = none := by simpa [Addr.add] using hs
     subst hsp
     have ha : ∀ k, (⟨b, f, none⟩ : Addr).add k = ⟨b, f + k, none⟩ := fun k => by unfold Addr.add; split <;> simp_all
     refine ⟨b, f, rfl, fun j u hj => ?_⟩
     have := (hq i hlt).1 j u hj
     rw [ha, <- Nat.add_assoc] at this
     exact this
   · intro x hx
     obtain ⟨i, hi, rfl⟩ := List.mem_map.1 hx
     exact (hq i (List.mem_range.1 hi)).2
end Go.Proofs.YtflhpmgjehjjkaaGreatDoor
