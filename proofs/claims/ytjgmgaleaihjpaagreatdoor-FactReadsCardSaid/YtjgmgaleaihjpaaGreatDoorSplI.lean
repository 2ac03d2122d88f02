/- strings.SplitSeq at a sign: its iterator hands out the pieces of the text, one behind the other. -/
import Derived.Test.YtjgmgaleaihjpaaGreatDoorSplR
import Derived.Test.YtjgmgaleaihjpaaGreatDoorShelf
import Derived.Lib.IndexBytes
import Derived.Shelf.Abstract
import Derived.Shelf.RegionOpen
import Derived.WalkKit
import Derived.OwnWalkIn
import Derived.TacticsInMore
import Derived.LoopNIn
import Derived.LoopIn
namespace Go.Proofs.YtjgmgaleaihjpaaGreatDoor
open Go.RowKit Go.Shelf
attribute [local go_sem] Oper.semAt_some

theorem cut_step (c : UInt8) (s : List UInt8) : (c ∉ s ∧ cutC c s = [s] ∧ Lib.indexByte s c = -1) ∨ ∃ p r, s = p ++ c :: r ∧ cutC c s = p :: cutC c r ∧ Lib.indexByte s c = (p.length : Int) := by
  rw [← Lib.index_one]
  rcases first_sign c s with h | ⟨p, r, rfl, hp⟩
  · exact .inl ⟨h, cutC_last c s h, (index_one c s).1 h⟩
  · exact .inr ⟨p, r, rfl, cutC_free c p r hp, (index_one c _).2 p r rfl hp⟩

/-- How long the text is that is left. -/
def leftB (b : Nat) (W : World) : Nat := match W.cell? ⟨b, 0, none⟩ with | some (.string x) => x.size | _ => 0
theorem leftB_eq {b : Nat} {c : UInt8} {s : List UInt8} {W : World} (h : ItBox b c s W) : leftB b W = s.length := by
  unfold leftB; rw [h.s0]; simp [ByteArray.size]
set_option maxRecDepth 100000 in
set_option maxHeartbeats 1000000 in
theorem splitIt_any (n : Nat) (b : Nat) (c : UInt8) (s : List UInt8) (hs : s.length ≤ maxLen) : SplitIt Fence.wide n Tryz.prog 44 b c s := by
  unfold maxLen at hs
  intro l J Jx W hJs hJb hY hbox h0
  refine callsIn_of_wp Tryz.func44 rfl trivial ?_ rfl
  simp only [Tryz.ntmps44, List.size_toArray, List.length_cons, List.length_nil, Nat.reduceAdd, Nat.reduceSub, Array.replicate_succ, Array.replicate_zero, List.push_toArray, List.append_toArray, List.nil_append, List.cons_append]
  have HJs := Lib.hid hJs
  have HJb := Lib.hid hJb
  have HY := Lib.hid hY
  have HBox := Lib.hid hbox
  clear hJs hJb hY
  obtain ⟨q0, f0, q1, q2⟩ := hbox
  gi_wp2
  gi_loopw [7] (fun _ wr => ∃ (pre : List (List UInt8)) (r : List UInt8), ItBox b c r wr ∧ Hid (pre ++ cutC c r = cutC c s) ∧ r.length ≤ s.length ∧ J pre wr) (fun _ wr => leftB b wr)
  case atStart => exact ⟨[], s, HBox.out, Lib.hid rfl, Nat.le_refl _, h0⟩
  case round =>
    obtain ⟨pre, r, hb, hcut, hle, hJ⟩ := hrel
    have HBr := Lib.hid hb
    obtain ⟨r0, g0, r1, r2⟩ := hb
    rcases cut_step c r with ⟨hno, hc, hidx⟩ | ⟨p, r', rfl, hc, hidx⟩
    · obtain ⟨fn, tmps, assign, body, hy, hR⟩ := HY.out pre r [] wr hJ (by rw [← hcut.out, hc])
      have hI := Tryz.strings_Index_one ⟨r.toArray⟩ c wr
      simp only [hidx] at hI
      have HI := Lib.hid hI
      clear hI hidx
      gi_wp2_with (refine ⟨trivial, (fun h => by cases h), ?_⟩; refine (callsIn_wide.2 HI.out).mono ?_; rintro e w' ⟨rfl, rfl⟩)
      refine ⟨(fun h => by cases h), hR.mono ?_⟩
      rintro e W' (⟨rfl, hJ', hk⟩ | ⟨rfl, hJx'⟩)
      · have HJ := Lib.hid hJ'
        clear hJ' hk
        gi_wp2
        go_end0
        exact ⟨⟨_, rfl⟩, .inl (by rw [← hcut.out, hc]; exact HJ.out)⟩
      · have HJ := Lib.hid hJx'
        clear hJx'
        gi_wp2
        go_end0
        exact ⟨⟨_, rfl⟩, .inr ⟨_, HJ.out⟩⟩
    · obtain ⟨fn, tmps, assign, body, hy, hR⟩ := HY.out pre p (cutC c r') wr hJ (by rw [← hcut.out, hc])
      have hI := Tryz.strings_Index_one ⟨(p ++ c :: r').toArray⟩ c wr
      simp only [hidx] at hI
      have HI := Lib.hid hI
      have e1 : (⟨(p ++ c :: r').toArray⟩ : ByteArray).size = p.length + (r'.length + 1) := by simp [ByteArray.size]
      have e2 : (⟨(p ++ c :: r').toArray⟩ : ByteArray).extract 0 p.length = ⟨p.toArray⟩ := bytes_ext (by simp)
      have e3 : (⟨(p ++ c :: r').toArray⟩ : ByteArray).extract (p.length + 1) (p.length + (r'.length + 1)) = ⟨r'.toArray⟩ := by
        have h : p.length + (r'.length + 1) - (p.length + 1) = r'.length := by omega
        exact bytes_ext (by simp [h])
      have hlen : p.length + (r'.length + 1) ≤ s.length := by simpa using hle
      have HE2 := Lib.hid e2
      have HE3 := Lib.hid e3
      rw [← e2] at hy
      clear hI hidx e2 e3
      gi_wp2_with (refine ⟨trivial, (fun h => by cases h), ?_⟩; refine (callsIn_wide.2 HI.out).mono ?_; rintro e w' ⟨rfl, rfl⟩)
      refine ⟨(fun h => by cases h), hR.mono ?_⟩
      rintro e W' (⟨rfl, hJ', hk⟩ | ⟨rfl, hJx'⟩)
      · have HB' := HBr.out.keep hk
        obtain ⟨v0, g0', v1, v2⟩ := HB'
        have HJ := Lib.hid hJ'
        have hnew : ItBox b c r' (W'.setCell ⟨b, 0, none⟩ (.string ⟨r'.toArray⟩)) := ⟨World.cell?_setCell_same _ _ _ v0, by simpa using g0', (World.cell?_setCell_other _ _ _ _ (by simp)).trans v1, (World.cell?_setCell_other _ _ _ _ (by simp)).trans v2⟩
        have HN := Lib.hid hnew
        clear hJ' hk hnew
        gi_wp2
        rw [HE3.out]
        go_roundw
        case rel => exact ⟨pre ++ [p], r', HN.out, Lib.hid (by rw [← hcut.out, hc]; simp), by omega, HJs.out _ _ _ HJ.out⟩
        case measure => rw [leftB_eq HN.out, leftB_eq HBr.out]; simp; omega
      · have HJ := Lib.hid hJx'
        clear hJx'
        gi_wp2
        refine bodyPost_ret (results_none rfl _ _ _) rfl ?_
        exact ⟨⟨_, rfl⟩, .inr ⟨_, HJ.out⟩⟩
end Go.Proofs.YtjgmgaleaihjpaaGreatDoor
