/- What fact.Read calls of the library: strings.SplitSeq and strings.Split at a sign, strconv.Atoi at whatever text. The conditions: the library's variables that are named hold errors, and a number. -/
import Derived.RangeFuncBox
import Derived.RangeFuncNested
import Derived.RangeFuncBound
import Derived.RangeFuncCalls
import Derived.RangeFuncLeaves
import Derived.Lib.IndexBytes
import Derived.Shelf.Abstract
import Derived.Shelf.RegionOpen
import Derived.WalkKit
import Derived.OwnWalkIn
import Derived.TacticsInMore
import Derived.LoopNIn
import Derived.LoopIn
import Derived.Test.YtflhpmgjehjjkaaGreatDoorFactMJp
import Derived.Test.YtflhpmgjehjjkaaGreatDoorKitJp
import Derived.Test.YtflhpmgjehjjkaaGreatDoorShelfJp
import Derived.Test.YtflhpmgjehjjkaaGreatDoorFcHJp
namespace Go.Proofs.YtflhpmgjehjjkaaGreatDoor
open Go.RowKit
def KeepB (b : Nat) (W W' : World) : Prop := ∀ k, b <= k -> k <= b + 2 -> W'.heap[k]? = W.heap[k]?
theorem KeepB.refl (b : Nat) (W : World) : KeepB b W W := fun _ _ _ => rfl
theorem KeepB.trans {b : Nat} {A B C : World} (h : KeepB b A B) (k : KeepB b B C) : KeepB b A C := fun i h1 h2 => (k i h1 h2).trans (h i h1 h2)
theorem KeepB.cell {b : Nat} {W W' : World} (h : KeepB b W W') {k : Nat} {v : Value} (h1 : b <= k) (h2 : k <= b + 2) (hc : W.cell? ⟨k, 0, none⟩ = some v) : W'.cell? ⟨k, 0, none⟩ = some v :=
 (World.cell?_of_block (w := W) (a := ⟨k, 0, none⟩) (h k h1 h2)).trans hc
theorem KeepB.frozen {b : Nat} {W W' : World} (h : KeepB b W W') {k : Nat} {v : Bool} (h1 : b <= k) (h2 : k <= b + 2) (hc : W.frozen? ⟨k, 0, none⟩ = v) : W'.frozen? ⟨k, 0, none⟩ = v :=
 (World.frozen?_of_block (w := W) (a := ⟨k, 0, none⟩) (h k h1 h2)).trans hc
structure ItBox (b : Nat) (c : UInt8) (s : List UInt8) (W : World) : Prop where
 s0 : W.cell? ⟨b, 0, none⟩ = some (.string ⟨s.toArray⟩)
 f0 : W.frozen? ⟨b, 0, none⟩ = false
 s1 : W.cell? ⟨b + 1, 0, none⟩ = some (.string ⟨#[c]⟩)
 s2 : W.cell? ⟨b + 2, 0, none⟩ = some (.int .i64 0)
theorem ItBox.keep {b : Nat} {c : UInt8} {s : List UInt8} {W W' : World} (h : ItBox b c s W) (k : KeepB b W W') : ItBox b c s W' :=
 ⟨k.cell (Nat.le_refl _) (by omega) h.s0, k.frozen (Nat.le_refl _) (by omega) h.f0, k.cell (by omega) (by omega) h.s1, k.cell (by omega) (by omega) h.s2⟩
def SplitIt (F : Fence) (n : Nat) (P : Program) (gf : Nat) (b : Nat) (c : UInt8) (s : List UInt8) : Prop :=
 ∀ (l : Nat) (J Jx : List (List UInt8) -> World -> Prop) (W : World),
   (∀ pre W v, J pre W -> J pre (W.setCell ⟨b, 0, none⟩ v)) -> (∀ pre W W', J pre W -> Below W.heap.size W W' -> J pre W') →
   (∀ pre x q W1, J pre W1 -> pre ++ x :: q = cutC c s -> YieldAt F (n - 1) P l #[.string ⟨x.toArray⟩] W1 fun e W' =>
    (e = .returned (.bool true) /\ J (pre ++ [x]) W' /\ KeepB b W1 W') \/ (e = .returned (.bool false) /\ Jx (pre ++ [x]) W')) →
   ItBox b c s W -> J [] W →
   CallsIn F n P gf #[.func (.yield l) #[] #[], .pointer (some ⟨b + 1, 0, none⟩), .pointer (some ⟨b, 0, none⟩), .pointer (some ⟨b + 2, 0, none⟩)] W fun e W' =>
    (∃ v, e = .returned v) /\ (J (cutC c s) W' \/ ∃ pre, Jx pre W')
def splPost (b : Nat) (I Ix : List (List UInt8) -> World -> Prop) (xs : List (List UInt8)) (W : World) : Exit -> Act -> World -> Prop
 | .normal, _, W' => KeepsOthers W W' /\ KeepB b W W' /\ I xs W'
 | .ret, _, W' => KeepsOthers W W' /\ Ix xs W'
 | _, _, _ => False
variable {F : Fence} {n : Nat} {P : Program}
theorem wp_splitRange {g : Operand} {t : Tmp} {assign body : Code} {Q : Exit -> Act -> World -> Prop} {a : Act} {w : World} (hro : F.round = none) (h1 : 1 <= n) {gf b : Nat} {c : UInt8} {s : List UInt8}
  (hg : a.eval g = .func (.func gf) #[] #[.pointer (some ⟨b + 1, 0, none⟩), .pointer (some ⟨b, 0, none⟩), .pointer (some ⟨b + 2, 0, none⟩)]) (hFg : F.fn gf) (eg : ∀ args w, (callFunc gf args).run P w = .ok (.enter gf args) w)
  (hseq : SplitIt F (n - 1) P gf b c s) (hb : b + 2 < w.heap.size) (hbox : ItBox b c s w)
  (I Ix : List (List UInt8) -> World -> Prop) (hIs : ∀ pre W v, I pre W -> I pre (W.setCell ⟨b, 0, none⟩ v)) (hIb : ∀ pre W W', I pre W -> Below W.heap.size W W' -> I pre W')
  (hIp : ∀ pre W l o o', I pre W -> w.heap.size <= l -> W.heap[l]? = some o -> o.isCells = false -> I pre (W.putObj l o')) (hIxp : ∀ pre W l o o', Ix pre W -> w.heap.size <= l -> W.heap[l]? = some o -> o.isCells = false -> Ix pre (W.putObj l o'))
  (h0 : I [] w) (a₁ : List UInt8 -> Act)
  (hassign : ∀ (l : Nat) (x : List UInt8) (W : World) (K : Act -> World -> Prop), K (a₁ x) W →
   assign.wpIn (F.inRound l) (n - 1 - 1) P (Exit.then K (fun _ _ _ => False)) { tmps := a.tmps.setIfInBounds t (.string ⟨x.toArray⟩), defers := [] } W)
  (hbody : ∀ (l : Nat) (pre : List (List UInt8)) (x : List UInt8) (q : List (List UInt8)) (W : World), I pre W -> pre ++ x :: q = cutC c s -> body.wpIn (F.inRound l) (n - 1 - 1) P (splPost b I Ix (pre ++ [x]) W) (a₁ x) W)
  (hdone : ∀ (D : Nat) (W : World), w.heap.size <= D -> I (cutC c s) W -> W.heap[D]? = some (.deferred (some [])) -> Q .normal { a with defers := { target := .collected D, args := #[] } :: a.defers } W)
  (hstop : ∀ (D : Nat) (pre : List (List UInt8)) (W : World), w.heap.size <= D -> Ix pre W -> W.heap[D]? = some (.deferred (some [])) -> Code.ret.wpIn F n P Q { a with defers := { target := .collected D, args := #[] } :: a.defers } W) :
  (Code.rangeFunc g #[t] assign body).wpIn F n P Q a w := by
 refine wpIn_rangeFunc fun fn hfn => ?_
 rw [hro]
 -- the record of the loop, at each state
 obtain ⟨R, hR⟩ : ∃ R : LoopState -> Option Code -> Loop, R = fun st pe => ⟨st, pe, fn, a.tmps, #[t], assign, body, w.heap.size⟩ := ⟨_, rfl⟩
 have hR1 : ∀ st pe st', { R st pe with state := st' } = R st' pe := fun st pe st' => by rw [hR]
 have hR2 : ∀ st pe st' pe', { R st pe with state := st', pending := pe' } = R st' pe' := fun st pe st' pe' => by rw [hR]
 obtain ⟨l, hl0⟩ : ∃ l, l = w.heap.size + 1 := ⟨_, rfl⟩
 obtain ⟨V, hV⟩ : ∃ V, (w.alloc (.deferred (some []))).alloc (.loop (R .ready none)) = V := ⟨_, rfl⟩
 have bV : Below w.heap.size w V := by rw [<- hV]; exact ((Below.refl _ w).alloc (Nat.le_refl _) _).alloc (by simp) _
 have vL : V.heap[l]? = some (.loop (R .ready none)) := by
  rw [<- hV, hl0]; have := World.alloc_heap_new (w.alloc (.deferred (some []))) (.loop (R .ready none)); rwa [World.size_alloc] at this
 have vD : V.heap[w.heap.size]? = some (.deferred (some [])) := by
  rw [<- hV]; exact (Below.heap_alloc _ _ _ (by simp)).trans (World.alloc_heap_new w _)
 have keepL : ∀ {W : World} {k : Nat} {o : Obj} (u : Value), W.heap[k]? = some o -> w.heap.size <= k -> (W.setCell ⟨b, 0, none⟩ u).heap[k]? = some o := fun u h hk => (Below.heap_setCell _ _ _ _ (by simp; omega)).trans h
 have belL : ∀ {W W' : World} {k : Nat} {o : Obj}, W.heap[k]? = some o -> Below W.heap.size W W' -> W'.heap[k]? = some o := fun h hB => (hB.block _ (Array.getElem?_eq_some_iff.1 h).1).trans h
 refine ⟨l, [{ target := .collected w.heap.size, args := #[] }], V, { target := .fn (.func gf) #[.pointer (some ⟨b + 1, 0, none⟩), .pointer (some ⟨b, 0, none⟩), .pointer (some ⟨b + 2, 0, none⟩)], args := #[.func (.yield l) #[] #[]] }, V, gf,
  #[.func (.yield l) #[] #[], .pointer (some ⟨b + 1, 0, none⟩), .pointer (some ⟨b, 0, none⟩), .pointer (some ⟨b + 2, 0, none⟩)], V, ?_, ?_, ?_, ?_, fun _ => h1, ?_⟩
 · rw [<- hV, hR, hl0]; exact run_enterLoop_outer _ _ _ _ _
 · simp only [resolve, hg]; simp [go_sem]
 · intro f' hf'; simp [Target.leads] at hf'; subst hf'; exact hFg
 · simp [invoke, go_sem, eg]
 refine (hseq l (fun pre W => I pre W /\ W.heap[l]? = some (.loop (R .ready none)) /\ W.heap[w.heap.size]? = some (.deferred (some [])))
  (fun pre W => Ix pre W /\ W.heap[l]? = some (.loop (R .done (some .ret))) /\ W.heap[w.heap.size]? = some (.deferred (some []))) V
  (fun pre W v h => ⟨hIs pre W v h.1, keepL v h.2.1 (by omega), keepL v h.2.2 (Nat.le_refl _)⟩) (fun pre W W' h hB => ⟨hIb pre W W' h.1 hB, belL h.2.1 hB, belL h.2.2 hB⟩) ?_
  (hbox.keep fun k h2 h3 => bV.block k (by omega)) ⟨hIb [] w V h0 bV, vL, vD⟩).mono ?_
 · rintro pre x q W ⟨hi, hl, hd⟩ hq
   have hlt : l < W.heap.size := (Array.getElem?_eq_some_iff.1 hl).1
   have hy : (Instr.yield l #[.string ⟨x.toArray⟩]).run P W = .ok (.round l fn (a.tmps.setIfInBounds t (.string ⟨x.toArray⟩)) assign body) W := by
    have hy := run_yield (P := P) (args := #[.string ⟨x.toArray⟩]) hl (by rw [hR]; rfl)
    rw [hR] at hy
    simpa using hy
   refine ⟨fn, _, assign, body, hy, roundIn_of_wpIn hfn (hassign l x W _ ?_)⟩
   refine ⟨_, run_beginRound hl (by rw [hR]), ?_⟩
   rw [hR1]
   obtain ⟨W2, hW2⟩ : ∃ W2, W.putObj l (.loop (R .busy none)) = W2 := ⟨_, rfl⟩
   rw [hW2]
   have l2 : W2.heap[l]? = some (.loop (R .busy none)) := by rw [<- hW2]; exact World.putObj_heap_same hlt
   have d2 : W2.heap[w.heap.size]? = some (.deferred (some [])) := by rw [<- hW2]; exact (World.putObj_heap_other (by omega)).trans hd
   have i2 : I pre W2 := by rw [<- hW2]; exact hIp pre W l _ _ hi (by omega) hl rfl
   have k2 : KeepB b W W2 := fun k h2 h3 => by rw [<- hW2]; exact World.putObj_heap_other (by omega)
   refine wpIn_mono (hbody l pre x q W2 i2 hq) ?_
   rintro e a3 W3 hp
   cases e with
   | normal =>
     obtain ⟨ko, kb, hi3⟩ := hp
     have l3 := ko.same _ _ l2 rfl
     have d3 := ko.same _ _ d2 rfl
     have he := run_endRound (P := P) none l3
     rw [hR2] at he
     refine ⟨_, _, he, .inl ⟨rfl, ⟨hIp _ W3 l _ _ hi3 (by omega) l3 rfl, World.putObj_heap_same (Array.getElem?_eq_some_iff.1 l3).1, (World.putObj_heap_other (by omega)).trans d3⟩, ?_⟩⟩
     exact (k2.trans kb).trans fun k h2 h3 => World.putObj_heap_other (by omega)
   | ret =>
     obtain ⟨ko, hi3⟩ := hp
     have l3 := ko.same _ _ l2 rfl
     have d3 := ko.same _ _ d2 rfl
     have he := run_endRound (P := P) (some .ret) l3
     rw [hR2] at he
     exact ⟨_, _, he, .inr ⟨rfl, hIxp _ W3 l _ _ hi3 (by omega) l3 rfl, World.putObj_heap_same (Array.getElem?_eq_some_iff.1 l3).1, (World.putObj_heap_other (by omega)).trans d3⟩⟩
   | exit id => exact hp.elim
   | goto t => exact hp.elim
   | panic ch => exact hp.elim
   | outgrown => exact hp.elim
 · rintro e W2 ⟨⟨v, rfl⟩, (⟨hi, hl, hd⟩ | ⟨pre, hi, hl, hd⟩)⟩
   · have he := run_endLoop (P := P) hl (by rw [hR]; simp)
     rw [hR1] at he
     have hp : (R .ready none).pending = none := by rw [hR]
     rw [hp] at he
     refine ⟨none, _, he, ?_⟩
     exact hdone _ _ (Nat.le_refl _) (hIp _ W2 l _ _ hi (by omega) hl rfl) ((World.putObj_heap_other (by omega)).trans hd)
   · have he := run_endLoop (P := P) hl (by rw [hR]; simp)
     rw [hR1] at he
     have hp : (R .done (some .ret)).pending = some .ret := by rw [hR]
     rw [hp] at he
     refine ⟨some .ret, _, he, ?_⟩
     exact hstop _ pre _ (Nat.le_refl _) (hIxp _ W2 l _ _ hi (by omega) hl rfl) ((World.putObj_heap_other (by omega)).trans hd)
end Go.Proofs.YtflhpmgjehjjkaaGreatDoor
namespace Go.Proofs.YtflhpmgjehjjkaaGreatDoor
open Go.RowKit Go.Shelf
attribute [local go_sem] Oper.semAt_some
theorem cut_step (c : UInt8) (s : List UInt8) : (c ∉ s /\ cutC c s = [s] /\ Lib.indexByte s c = -1) \/ ∃ p r, s = p ++ c :: r /\ cutC c s = p :: cutC c r /\ Lib.indexByte s c = (p.length : Int) := by
 rw [<- Lib.index_one]
 rcases first_sign c s with h | ⟨p, r, rfl, hp⟩
 · exact .inl ⟨h, cutC_last c s h, (index_one c s).1 h⟩
 · exact .inr ⟨p, r, rfl, cutC_free c p r hp, (index_one c _).2 p r rfl hp⟩
def leftB (b : Nat) (W : World) : Nat := match W.cell? ⟨b, 0, none⟩ with | some (.string x) => x.size | _ => 0
theorem leftB_eq {b : Nat} {c : UInt8} {s : List UInt8} {W : World} (h : ItBox b c s W) : leftB b W = s.length := by
 unfold leftB; rw [h.s0]; simp [ByteArray.size]
set_option maxRecDepth 100000 in
set_option maxHeartbeats 1000000 in
theorem splitIt_any (n : Nat) (b : Nat) (c : UInt8) (s : List UInt8) (hs : s.length <= maxLen) : SplitIt Fence.wide n Tryz.prog 269 b c s := by
 unfold maxLen at hs
 intro l J Jx W hJs hJb hY hbox h0
 refine callsIn_of_wp Tryz.func269 rfl trivial ?_ rfl
 simp only [Tryz.ntmps269, List.size_toArray, List.length_cons, List.length_nil, Nat.reduceAdd, Nat.reduceSub, Array.replicate_succ, Array.replicate_zero, List.push_toArray, List.append_toArray, List.nil_append, List.cons_append]
 have HJs := Lib.hid hJs
 have HJb := Lib.hid hJb
 have HY := Lib.hid hY
 have HBox := Lib.hid hbox
 clear hJs hJb hY
 obtain ⟨q0, f0, q1, q2⟩ := hbox
 gi_wp2
 gi_loopw [7] (fun _ wr => ∃ (pre : List (List UInt8)) (r : List UInt8), ItBox b c r wr /\ Hid (pre ++ cutC c r = cutC c s) /\ r.length <= s.length /\ J pre wr) (fun _ wr => leftB b wr)
 case atStart => exact ⟨[], s, HBox.out, Lib.hid rfl, Nat.le_refl _, h0⟩
 case round =>
  obtain ⟨pre, r, hb, hcut, hle, hJ⟩ := hrel
  have HBr := Lib.hid hb
  obtain ⟨r0, g0, r1, r2⟩ := hb
  rcases cut_step c r with ⟨hno, hc, hidx⟩ | ⟨p, r', rfl, hc, hidx⟩
  · obtain ⟨fn, tmps, assign, body, hy, hR⟩ := HY.out pre r [] wr hJ (by rw [<- hcut.out, hc])
    have hI := Tryz.strings_Index_one ⟨r.toArray⟩ c wr
    simp only [hidx] at hI
    have HI := Lib.hid hI
    clear hI hidx
    gi_wp2_with (refine ⟨trivial, (fun h => by cases h), ?_⟩; refine (callsIn_wide.2 HI.out).mono ?_; rintro e w' ⟨rfl, rfl⟩)
    refine ⟨(fun h => by cases h), hR.mono ?_⟩
    rintro e W' (⟨rfl, hJ', hk⟩ | ⟨rfl, hJx'⟩)
    · have HJ := Lib.hid hJ'
      clear hJ' hk
      gi_wp2
      go_end0
      exact ⟨⟨_, rfl⟩, .inl (by rw [<- hcut.out, hc]; exact HJ.out)⟩
    · have HJ := Lib.hid hJx'
      clear hJx'
      gi_wp2
      go_end0
      exact ⟨⟨_, rfl⟩, .inr ⟨_, HJ.out⟩⟩
  · obtain ⟨fn, tmps, assign, body, hy, hR⟩ := HY.out pre p (cutC c r') wr hJ (by rw [<- hcut.out, hc])
    have hI := Tryz.strings_Index_one ⟨(p ++ c :: r').toArray⟩ c wr
    simp only [hidx] at hI
    have HI := Lib.hid hI
    have e1 : (⟨(p ++ c :: r').toArray⟩ : ByteArray).size = p.length + (r'.length + 1) := by simp [ByteArray.size]
    have e2 : (⟨(p ++ c :: r').toArray⟩ : ByteArray).extract 0 p.length = ⟨p.toArray⟩ := bytes_ext (by simp)
    have e3 : (⟨(p ++ c :: r').toArray⟩ : ByteArray).extract (p.length + 1) (p.length + (r'.length + 1)) = ⟨r'.toArray⟩ := by
     have h : p.length + (r'.length + 1) - (p.length + 1) = r'.length := by omega
     exact bytes_ext (by simp [h])
    have hlen : p.length + (r'.length + 1) <= s.length := by simpa using hle
    have HE2 := Lib.hid e2
    have HE3 := Lib.hid e3
    rw [<- e2] at hy
    clear hI hidx e2 e3
    gi_wp2_with (refine ⟨trivial, (fun h => by cases h), ?_⟩; refine (callsIn_wide.2 HI.out).mono ?_; rintro e w' ⟨rfl, rfl⟩)
    refine ⟨(fun h => by cases h), hR.mono ?_⟩
    rintro e W' (⟨rfl, hJ', hk⟩ | ⟨rfl, hJx'⟩)
    · have HB' := HBr.out.keep hk
      obtain ⟨v0, g0', v1, v2⟩ := HB'
      have HJ := Lib.hid hJ'
      have hnew : ItBox b c r' (W'.setCell ⟨b, 0, none⟩ (.string ⟨r'.toArray⟩)) := ⟨World.cell?_setCell_same _ _ _ v0, by simpa using g0', (World.cell?_setCell_other _ _ _ _ (by simp)).trans v1, (World.cell?_setCell_other _ _ _ _ (by simp)).trans v2⟩
      have HN := Lib.hid hnew
      clear hJ' hk hnew
      gi_wp2
      rw [HE3.out]
      go_roundw
      case rel => exact ⟨pre ++ [p], r', HN.out, Lib.hid (by rw [<- hcut.out, hc]; simp), by omega, HJs.out _ _ _ HJ.out⟩
      case measure => rw [leftB_eq HN.out, leftB_eq HBr.out]; simp; omega
    · have HJ := Lib.hid hJx'
      clear hJx'
      gi_wp2
      refine bodyPost_ret (results_none rfl _ _ _) rfl ?_
      exact ⟨⟨_, rfl⟩, .inr ⟨_, HJ.out⟩⟩
end Go.Proofs.YtflhpmgjehjjkaaGreatDoor
namespace Go.Proofs.YtflhpmgjehjjkaaGreatDoor
open Go.RowKit
structure NumVars (w : World) : Prop where
 syn : ∃ t p, w.cell? ⟨1, 0, none⟩ = some (.iface t p)
 rng : ∃ t p, w.cell? ⟨2, 0, none⟩ = some (.iface t p)
 len : ∃ m, w.cell? ⟨4, 0, none⟩ = some (.int .i64 m)
theorem NumVars.below {w w' : World} (h : NumVars w) (hb : Below w.heap.size w w') : NumVars w' := by
 obtain ⟨⟨t, p, h1⟩, ⟨t', p', h2⟩, ⟨m, h3⟩⟩ := h
 exact ⟨⟨t, p, below_cell hb (World.block_lt_of_cell? w _ h1) h1⟩, ⟨t', p', below_cell hb (World.block_lt_of_cell? w _ h2) h2⟩, ⟨m, below_cell hb (World.block_lt_of_cell? w _ h3) h3⟩⟩
theorem atoi_any (s : ByteArray) (w : World) (hs : s.size <= 100000) (hv : NumVars w) :
  Calls Tryz.prog 123 #[.string s] w fun e w' => (∃ v err, e = .returned (.tuple #[.int .i64 v, err]) /\ ((num? s.data.toList = some v /\ err = .nilIface) \/ (num? s.data.toList = none /\ ∃ t p, err = .iface t p))) /\ Below w.heap.size w w' := by
 obtain ⟨⟨t, p, h1⟩, ⟨t', p', h2⟩, _⟩ := hv
 cases h : Lib.atoiAll s.data.toList
 · rename_i v
   exact (Tryz.strconv_Atoi_ok s (by omega) v h w).mono fun e w' ⟨he, hw⟩ => ⟨⟨v, _, he, .inl ⟨by unfold num?; rw [h], rfl⟩⟩, by
    rcases hw with rfl | ⟨t, rfl⟩
    · exact Below.refl _ _
    · exact Lib.bytesWorld_below _ _ _⟩
 · exact (Tryz.strconv_Atoi_syntax s (by omega) h _ w h1 (.inr ⟨_, _, rfl⟩)).mono fun e w' ⟨N, he, _, _, hb⟩ => ⟨⟨_, _, he, .inr ⟨by unfold num?; rw [h], _, _, rfl⟩⟩, hb⟩
 · exact (Tryz.strconv_Atoi_range s (by omega) h _ w h2 (.inr ⟨_, _, rfl⟩)).mono fun e w' ⟨N, he, _, _, hb⟩ => ⟨⟨_, _, he, .inr ⟨by unfold num?; rw [h], _, _, rfl⟩⟩, hb⟩
theorem split_any (c : UInt8) (s : ByteArray) (w : World) (hs : s.size <= 100000) (hv : NumVars w) :
  Calls Tryz.prog 120 #[.string s, .string ⟨#[c]⟩] w fun e w' => ∃ l : List ByteArray, l.map (·.data.toList) = cutC c s.data.toList /\ e = .returned (.slice (some ⟨w.heap.size, 0, none⟩) l.length l.length) /\ w' = w.alloc (.cells (l.map Value.string).toArray 9) := by
 obtain ⟨_, _, ⟨m, h3⟩⟩ := hv
 refine (Tryz.strings_Split s ⟨#[c]⟩ m w (by omega) h3 (Nat.le_refl 1)).mono fun e w' ⟨he, hw⟩ => ⟨_, splitB_eq c s, ?_, hw⟩
 rw [he]
 have : (Lib.splitB ⟨#[c]⟩ 0 (Lib.countB s ⟨#[c]⟩) s).length = Lib.countB s ⟨#[c]⟩ + 1 := Lib.splitB_all ⟨#[c]⟩ (Nat.le_refl 1) 0 _ s rfl
 rw [this]
theorem splitSeq_any (s : ByteArray) (c : UInt8) (w : World) : Calls Tryz.prog 170 #[.string s, .string ⟨#[c]⟩] w fun e w' =>
  e = .returned (.func (.func 269) #[] #[.pointer (some ⟨w.heap.size + 1, 0, none⟩), .pointer (some ⟨w.heap.size, 0, none⟩), .pointer (some ⟨w.heap.size + 2, 0, none⟩)]) ∧
    w' = ((w.alloc (.cells #[.string s] 9)).alloc (.cells #[.string ⟨#[c]⟩] 9)).alloc (.cells #[.int .i64 0] 3) := by
 have h : Calls Tryz.prog 223 #[.string s, .string ⟨#[c]⟩, .int .i64 0] w fun e w' =>
  e = .returned (.func (.func 269) #[] #[.pointer (some ⟨w.heap.size + 1, 0, none⟩), .pointer (some ⟨w.heap.size, 0, none⟩), .pointer (some ⟨w.heap.size + 2, 0, none⟩)]) ∧
    w' = ((w.alloc (.cells #[.string s] 9)).alloc (.cells #[.string ⟨#[c]⟩] 9)).alloc (.cells #[.int .i64 0] 3) := by
  go_enter Tryz.func223, Tryz.ntmps223
  go_wp2
  go_ret
  exact ⟨rfl, rfl⟩
 go_enter Tryz.func170, Tryz.ntmps170
 go_wp2_with (go_at_call 223; refine h.mono ?_; rintro e w' ⟨rfl, rfl⟩)
 go_ret
 exact ⟨rfl, rfl⟩
end Go.Proofs.YtflhpmgjehjjkaaGreatDoor
