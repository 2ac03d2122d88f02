/- FactReads' own walk: whatever text comes in, the call returns true. The conditions: the library's tables and variables that it reads are as its own text lays them. -/
import Derived.Test.YtjgmgaleaihjpaaGreatDoorRdB
import Derived.Test.YtjgmgaleaihjpaaGreatDoorErrC
namespace Go.Proofs.YtjgmgaleaihjpaaGreatDoor
open Go.RowKit

set_option maxRecDepth 100000 in
set_option maxHeartbeats 2000000 in
theorem factReads_walk (s : ByteArray) (w : World) (hg : ErrVar w) (ht : PowTab w) (hv : NumVars w) (hs : s.size ≤ maxLen) :
    Calls Tryz.prog 3 #[.string s] w fun e w' => e = .returned (.bool true) ∧ Below w.heap.size w w' := by
  unfold maxLen at hs
  have HG := Lib.hid hg
  have HT := Lib.hid ht
  have HV := Lib.hid hv
  clear hg ht hv
  by_cases h8 : 800 < s.size
  · go_enter Tryz.func3, Tryz.ntmps3
    go_wp2
    go_ret
    exact ⟨rfl, Below.refl _ _⟩
  have HR := Lib.hid (rread_any s w (by omega) HT.out HV.out)
  have HF := Lib.hid fun X (hX : Below w.heap.size w X) => fread_any s X (by omega) (HT.out.below hX) (HV.out.below hX)
  have HE := Lib.hid (readF_eq_readR s.data.toList)
  go_enter Tryz.func3, Tryz.ntmps3
  go_wp2_with fail
  refine HR.out.mono ?_
  rintro e w1 ⟨(⟨L, ao, cap, rfl, hr, ho⟩ | ⟨rfl, hr⟩), b1⟩
  · have HB1 := Lib.hid b1
    have HO1 := Lib.hid ho
    have HR1 := Lib.hid hr
    clear b1 ho hr
    go_wp2_with fail
    refine (HF.out w1 HB1.out).mono ?_
    rintro e w2 ⟨(⟨M, bo, dap, rfl, hf, hm⟩ | ⟨rfl, hf⟩), b2⟩
    · obtain rfl : M = L := by rw [HE.out, HR1.out] at hf; exact (Option.some.inj hf).symm
      have hM : M.length ≤ maxLen := by
        have := (okT_iff _ _).1 ((readF_iff _ _).1 hf)
        unfold maxLen; omega
      have HB2 := Lib.hid (below_trans HB1.out HB1.out.size b2)
      have HO2 := Lib.hid (HO1.out.below b2)
      have HM2 := Lib.hid hm
      clear b2 hf hm
      go_wp2_with fail
      refine (bare_any .nilIface 0 (-1) 0 w2 (HG.out.below HB2.out) (.inl ⟨rfl, rfl, rfl⟩)).mono ?_
      rintro e w3 ⟨rfl, b3⟩
      have HS := Lib.hid (same_any bo ao dap cap M M w3 (HM2.out.below b3) (HO2.out.below b3) hM hM)
      have HB3 := Lib.hid (below_trans HB2.out HB2.out.size b3)
      clear b3
      simp only [show ((0 : Int) == 0 && (-1 : Int) == -1) = true from rfl]
      go_wp2_with fail
      refine HS.out.mono ?_
      rintro e w4 ⟨⟨r, rfl, hr⟩, b4⟩
      obtain rfl : r = true := hr.2 trivial
      have HB4 := Lib.hid (below_trans HB3.out HB3.out.size b4)
      clear b4 hr
      go_wp2_with fail
      go_ret
      exact ⟨rfl, HB4.out⟩
    · rw [HE.out, HR1.out] at hf; cases hf
  · have HB1 := Lib.hid b1
    have HR1 := Lib.hid hr
    clear b1 hr
    go_wp2_with fail
    refine (HF.out w1 HB1.out).mono ?_
    rintro e w2 ⟨(⟨M, bo, dap, rfl, hf, hm⟩ | ⟨rfl, hf⟩), b2⟩
    · rw [HE.out, HR1.out] at hf; cases hf
    · have HB2 := Lib.hid (below_trans HB1.out HB1.out.size b2)
      clear b2 hf
      go_wp2_with fail
      refine (bare_any (.iface 23 (.int .i64 3)) 3 (-1) 3 w2 (HG.out.below HB2.out) (.inr (.inl ⟨rfl, rfl⟩))).mono ?_
      rintro e w3 ⟨rfl, b3⟩
      have HS := Lib.hid (same_any none none 0 0 [] [] w3 (fun i p h => by simp at h) (fun i p h => by simp at h) (Nat.zero_le _) (Nat.zero_le _))
      have HB3 := Lib.hid (below_trans HB2.out HB2.out.size b3)
      clear b3
      simp only [show ((3 : Int) == 3 && (-1 : Int) == -1) = true from rfl]
      go_wp2_with fail
      refine HS.out.mono ?_
      rintro e w4 ⟨⟨r, rfl, hr⟩, b4⟩
      obtain rfl : r = true := hr.2 trivial
      have HB4 := Lib.hid (below_trans HB3.out HB3.out.size b4)
      clear b4 hr
      go_wp2_with fail
      go_ret
      exact ⟨rfl, HB4.out⟩
end Go.Proofs.YtjgmgaleaihjpaaGreatDoor
