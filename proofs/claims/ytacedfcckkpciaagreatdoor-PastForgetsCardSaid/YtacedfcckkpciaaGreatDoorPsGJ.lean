/- PastForgets, walked. -/
import Derived.Deep.DeepCutAuto
import Derived.Test.YtacedfcckkpciaaGreatDoorPsDJ
import Derived.Test.YtacedfcckkpciaaGreatDoorPsEJ
import Derived.Test.YtacedfcckkpciaaGreatDoorPcEqJ
import Derived.Test.YtacedfcckkpciaaGreatDoorErrCJ
namespace Go.Proofs.YtacedfcckkpciaaGreatDoor
open Go.RowKit Go.Deep Go.Shelf Go.Sort Go.Maps

/-- Two pasts, apart; all that was there when the transactions were made is as it was, but for the pasts' own blocks. -/
structure PF (Z : World) (pa pb : Nat) (R : Rest) (hist : List (List OpP)) (sa : Pst) (ga : Gh) (sb : Pst) (gb : Gh) (w : World) : Prop where
  a : PastIs w pa 0 R hist sa ga
  b : PastIs w pb 0 R hist sb gb
  ga0 : sa.gone = 0
  sep : ∀ k, ga.foot pa k → ¬ gb.foot pb k
  fa : ∀ k, ga.foot pa k → k = pa ∨ Z.heap.size ≤ k
  fb : ∀ k, gb.foot pb k → k = pb ∨ Z.heap.size ≤ k
  fr : Fr (fun k => k = pa ∨ k = pb) Z w
variable {Z w : World} {pa pb : Nat} {R : Rest} {hist : List (List OpP)} {sa sb : Pst} {ga gb : Gh}
theorem PF.below {w' : World} (h : PF Z pa pb R hist sa ga sb gb w) (hb : Below w.heap.size w w') : PF Z pa pb R hist sa ga sb gb w' :=
  ⟨h.a.below hb, h.b.below hb, h.ga0, h.sep, h.fa, h.fb, h.fr.next (Fr.new hb : Fr (fun k => k = pa ∨ k = pb) w w') (fun _ _ h => h)⟩
theorem PF.opsA (h : PF Z pa pb R hist sa ga sb gb w) {z : Nat} {b : Nat} (hz : pa < z ∧ pb < z) (hb : z ≤ b ∧ b < Z.heap.size) {t : List OpP} (ht : opsAt Z (some ⟨b, 0, none⟩) t) : opsAt w (some ⟨b, 0, none⟩) t := fun i o hi => by
  obtain ⟨b', f, e, hc⟩ := ht i o hi
  cases e
  exact ⟨b, 0, rfl, fun j u hj => (World.cell?_of_block (a := ⟨b, _, none⟩) (h.fr.block b hb.2 (by omega))).trans (hc j u hj)⟩
theorem PF.sepA (h : PF Z pa pb R hist sa ga sb gb w) {z : Nat} {b : Nat} (hz : pa < z ∧ pb < z) (hb : z ≤ b ∧ b < Z.heap.size) : SepOps (some ⟨b, 0, none⟩) ga pa := fun b' f e hf => by
  cases e
  rcases h.fa _ hf with h1 | h1 <;> omega
theorem PF.sepB (h : PF Z pa pb R hist sa ga sb gb w) {z : Nat} {b : Nat} (hz : pa < z ∧ pb < z) (hb : z ≤ b ∧ b < Z.heap.size) : SepOps (some ⟨b, 0, none⟩) gb pb := fun b' f e hf => by
  cases e
  rcases h.fb _ hf with h1 | h1 <;> omega
/-- Between the two commits the first past knows one transaction more. -/
structure PF2 (Z : World) (pa pb : Nat) (R : Rest) (ha hb : List (List OpP)) (sa : Pst) (ga : Gh) (sb : Pst) (gb : Gh) (w : World) : Prop where
  a : PastIs w pa 0 R ha sa ga
  b : PastIs w pb 0 R hb sb gb
  ga0 : sa.gone = 0
  sep : ∀ k, ga.foot pa k → ¬ gb.foot pb k
  fa : ∀ k, ga.foot pa k → k = pa ∨ Z.heap.size ≤ k
  fb : ∀ k, gb.foot pb k → k = pb ∨ Z.heap.size ≤ k
  fr : Fr (fun k => k = pa ∨ k = pb) Z w
theorem PF.stepA (h : PF Z pa pb R hist sa ga sb gb w) {hist' : List (List OpP)} {sa' : Pst} {ga' : Gh} {w' : World} (hp : PastIs w' pa 0 R hist' sa' ga') (hg : sa'.gone = sa.gone) (hf : Fr (ga.foot pa) w w') (hG : Grows ga ga' pa w) : PF2 Z pa pb R hist' hist sa' ga' sb gb w' where
  a := hp
  b := h.b.frame hf fun k hk hka => h.sep k hka hk
  ga0 := hg.trans h.ga0
  sep k hk hkb := by
    rcases hG k hk with h1 | h1
    · exact h.sep k h1 hkb
    · have := h.b.at'.lt k hkb; omega
  fa k hk := by
    rcases hG k hk with h1 | h1
    · exact h.fa k h1
    · exact .inr (Nat.le_trans h.fr.size h1)
  fb := h.fb
  fr := h.fr.next hf fun k hk hka => by
    rcases h.fa k hka with h1 | h1
    · exact .inl h1
    · omega
theorem PF2.stepB {ha hb : List (List OpP)} (h : PF2 Z pa pb R ha hb sa ga sb gb w) {sb' : Pst} {gb' : Gh} {w' : World} (hp : PastIs w' pb 0 R ha sb' gb') (hf : Fr (gb.foot pb) w w') (hG : Grows gb gb' pb w) : PF Z pa pb R ha sa ga sb' gb' w' where
  a := h.a.frame hf fun k hk hkb => h.sep k hk hkb
  b := hp
  ga0 := h.ga0
  sep k hka hk := by
    rcases hG k hk with h1 | h1
    · exact h.sep k hka h1
    · have := h.a.at'.lt k hka; omega
  fa := h.fa
  fb k hk := by
    rcases hG k hk with h1 | h1
    · exact h.fb k h1
    · exact .inr (Nat.le_trans h.fr.size h1)
  fr := h.fr.next hf fun k hk hkb => by
    rcases h.fb k hkb with h1 | h1
    · exact .inr h1
    · omega
theorem PF.two (h : PF Z pa pb R hist sa ga sb gb w) : PF2 Z pa pb R hist hist sa ga sb gb w := ⟨h.a, h.b, h.ga0, h.sep, h.fa, h.fb, h.fr⟩
theorem PF2.opsA {ha hb' : List (List OpP)} (h : PF2 Z pa pb R ha hb' sa ga sb gb w) {z : Nat} {b : Nat} (hz : pa < z ∧ pb < z) (hb : z ≤ b ∧ b < Z.heap.size) {t : List OpP} (ht : opsAt Z (some ⟨b, 0, none⟩) t) : opsAt w (some ⟨b, 0, none⟩) t := fun i o hi => by
  obtain ⟨b', f, e, hc⟩ := ht i o hi
  cases e
  exact ⟨b, 0, rfl, fun j u hj => (World.cell?_of_block (a := ⟨b, _, none⟩) (h.fr.block b hb.2 (by omega))).trans (hc j u hj)⟩
theorem PF2.sepB {ha hb' : List (List OpP)} (h : PF2 Z pa pb R ha hb' sa ga sb gb w) {z : Nat} {b : Nat} (hz : pa < z ∧ pb < z) (hb : z ≤ b ∧ b < Z.heap.size) : SepOps (some ⟨b, 0, none⟩) gb pb := fun b' f e hf => by
  cases e
  rcases h.fb _ hf with h1 | h1 <;> omega
end Go.Proofs.YtacedfcckkpciaaGreatDoor

namespace Go.Proofs.YtacedfcckkpciaaGreatDoor
open Go.RowKit Go.Deep Go.Shelf Go.Sort Go.Maps

/-- A list of keys that is read. -/
def KysAt (w : World) (ao : Option Addr) (l : List KeyP) : Prop := ∀ j p, l[j]? = some p → ∃ b, ao = some ⟨b, 0, none⟩ ∧ w.cell? ⟨b, j * 4, none⟩ = some (.int .i64 p.kind) ∧ w.cell? ⟨b, j * 4 + 1, none⟩ = some (.int .i64 p.a) ∧ w.cell? ⟨b, j * 4 + 2, none⟩ = some (.string p.word) ∧ w.cell? ⟨b, j * 4 + 3, none⟩ = some (.int .i64 p.b)
theorem flatKeys_get : ∀ (l : List KeyP) (i : Nat) (p : KeyP), l[i]? = some p → (flatKeys l)[i * 4]? = some (.int .i64 p.kind) ∧ (flatKeys l)[i * 4 + 1]? = some (.int .i64 p.a) ∧ (flatKeys l)[i * 4 + 2]? = some (.string p.word) ∧ (flatKeys l)[i * 4 + 3]? = some (.int .i64 p.b)
  | [], i, p, h => by simp at h
  | q :: l, 0, p, h => by simp at h; subst h; simp [flatKeys, encK]
  | q :: l, i + 1, p, h => by
    have := flatKeys_get l i p (by simpa using h)
    rw [show (i + 1) * 4 = i * 4 + 4 by omega, show i * 4 + 4 + 1 = i * 4 + 1 + 4 by omega, show i * 4 + 4 + 2 = i * 4 + 2 + 4 by omega, show i * 4 + 4 + 3 = i * 4 + 3 + 4 by omega]
    simpa [flatKeys, encK] using this
theorem ownsRow_kys {w : World} {base n : Nat} {v : Value} {l : List KeyP} {e : TypeId} (h : w.ownsRow base e 4 v n (flatKeys l)) : ∃ ao cap, v = .slice ao l.length cap ∧ KysAt w ao l := by
  have hn : n = l.length := by have := h.1; rw [flatKeys_length] at this; omega
  subst hn
  obtain ⟨ao, cap, rfl, hc⟩ := ownsRow_at h
  refine ⟨ao, cap, rfl, fun i p hp => ?_⟩
  obtain ⟨f1, f2, f3, f4⟩ := flatKeys_get l i p hp
  obtain ⟨b, h1, hb, h2⟩ := hc _ _ f1
  obtain ⟨b', h1', _, h2'⟩ := hc _ _ f2
  obtain ⟨b'', h1'', _, h2''⟩ := hc _ _ f3
  obtain ⟨b3, h13, _, h23⟩ := hc _ _ f4
  rw [h1] at h1' h1'' h13; cases h1'; cases h1''; cases h13
  exact ⟨b, h1, h2, h2', h2'', h23⟩
theorem KysAt.below {w w' : World} {ao : Option Addr} {l : List KeyP} (h : KysAt w ao l) (hb : Below w.heap.size w w') : KysAt w' ao l := fun j p hp => by
  obtain ⟨b, h1, h2, h3, h4, h5⟩ := h j p hp
  have hl := World.block_lt_of_cell? w _ h2
  exact ⟨b, h1, below_cell hb hl h2, below_cell hb hl h3, below_cell hb hl h4, below_cell hb hl h5⟩

set_option maxRecDepth 100000 in
set_option maxHeartbeats 4000000 in
theorem pastForgets_walk (l : List SayP) (at_ : List Int) (key : Int) (ao ai : Option Addr) (cap capi : Nat) (w : World) (hl : saysAt w ao l) (hlm : l.length ≤ maxLen) (hai : intsAt w ai at_) (ham : at_.length ≤ maxLen) (hi : ∀ s ∈ l, s.Ok) (hia : ∀ x ∈ at_, i64B x) (hk : i64B key) (hg : PowTab w) (hv : ErrVar w) :
    Calls Tryz.prog 4 #[.slice ao l.length cap, .slice ai at_.length capi, .int .i64 key] w fun e w' => e = .returned (.bool true) ∧ Below w.heap.size w w' := by
  unfold maxLen at hlm ham
  have HL := Lib.hid hl
  have HA := Lib.hid hai
  have HI := Lib.hid hi
  have HIA := Lib.hid hia
  have HG := Lib.hid hg
  have HV := Lib.hid hv
  clear hl hai hi hia hg hv
  by_cases hs : l.length ≤ 50 ∧ at_.length ≤ 60
  · obtain ⟨hs1, hs2⟩ := hs
    have HSD := Lib.hid (said_any w HG.out)
    go_enter Tryz.func4, Tryz.ntmps4
    go_wp2_with fail
    refine HSD.out.mono ?_
    rintro e W1 ⟨rfl, b1⟩
    have B1 := Lib.hid b1
    have KK := Lib.hid fun X => keyOf_any key X hk
    clear b1
    go_wp2_with fail
    obtain ⟨V, hV⟩ : ∃ V, V = (W1.alloc (.cells #[.int .i64 0, .int .i64 0, .int .i64 0, .map none, .map none] 27)).alloc (.cells #[.int .i64 0, .int .i64 0, .int .i64 0, .map none, .map none] 27) := ⟨_, rfl⟩
    rw [← hV]
    obtain ⟨pa, hpa⟩ : ∃ pa, pa = W1.heap.size := ⟨_, rfl⟩
    rw [← hpa]
    have hVs : V.heap.size = pa + 2 := by rw [hV, hpa]; simp
    have ha : V.heap[pa]? = some (.cells (pcells ⟨[], [], 27⟩ 0 0 0 none none) 27 (0, 0)) := by
      rw [hV, hpa, Below.heap_alloc _ _ _ (by simp)]
      exact heap_alloc_new _ _
    have hb : V.heap[pa + 1]? = some (.cells (pcells ⟨[], [], 27⟩ 0 0 0 none none) 27 (0, 0)) := by
      rw [hV, hpa]
      have := heap_alloc_new (W1.alloc (.cells #[.int .i64 0, .int .i64 0, .int .i64 0, .map none, .map none] 27)) (.cells #[.int .i64 0, .int .i64 0, .int .i64 0, .map none, .map none] 27)
      rw [show (W1.alloc (.cells #[.int .i64 0, .int .i64 0, .int .i64 0, .map none, .map none] 27)).heap.size = W1.heap.size + 1 by simp] at this
      exact this
    have bV : Below W1.heap.size W1 V := by rw [hV]; exact ((Below.refl _ _).alloc (Nat.le_refl _) _).alloc (by simp) _
    have HPA := Lib.hid hpa
    have HVS := Lib.hid hVs
    have HBV := Lib.hid bV
    have KA := Lib.hid ha
    have KB := Lib.hid hb
    clear hV hpa hVs ha hb bV
    refine (KK.out V).mono ?_
    rintro e W2 ⟨rfl, b2⟩
    obtain ⟨q, hq⟩ : ∃ q, q = keyP key := ⟨_, rfl⟩
    have hqB : keyB q = true := by rw [hq]; exact keyP_B key
    rw [← hq]
    obtain ⟨kk, ka, kw, kb⟩ := q
    have B2 := Lib.hid b2
    have QB := Lib.hid hqB
    clear b2 hq hqB KK
    simp only
    go_wp2_with fail
    obtain ⟨kx, hkx⟩ : ∃ kx, kx = W2.heap.size := ⟨_, rfl⟩
    obtain ⟨W3, hW3⟩ : ∃ W3, W3 = W2.alloc (.cells #[.int .i64 kk, .int .i64 ka, .string kw, .int .i64 kb] 29) := ⟨_, rfl⟩
    rw [← hkx, ← hW3]
    have b3 : Below W2.heap.size W2 W3 := by rw [hW3]; exact (Below.refl _ _).alloc (Nat.le_refl _) _
    have s3 : W3.heap.size = kx + 1 := by rw [hW3, hkx]; simp
    have k3x : W3.heap[kx]? = some (.cells #[.int .i64 kk, .int .i64 ka, .string kw, .int .i64 kb] 29 (0, 0)) := by rw [hW3, hkx]; exact heap_alloc_new _ _
    have hkp : pa + 2 ≤ kx := by rw [hkx, ← HVS.out]; exact B2.out.size
    have b13 : Below W1.heap.size W1 W3 := below_trans HBV.out HBV.out.size (below_trans B2.out B2.out.size b3)
    have bV3 : Below V.heap.size V W3 := below_trans B2.out B2.out.size b3
    have b03 : Below w.heap.size w W3 := below_trans B1.out B1.out.size b13
    have OP := Lib.hid (ops_any l ao cap W3 (HL.out.below b03) hs1 HI.out)
    have B03 := Lib.hid b03
    have BV3 := Lib.hid bV3
    have S3 := Lib.hid s3
    have K3 := Lib.hid k3x
    clear hW3 hkx b3 s3 k3x b13 bV3 b03
    refine OP.out.mono ?_
    rintro e Z ⟨v, rfl, ⟨ta, tc, rfl, hT⟩, bZ⟩
    have bVZ : Below V.heap.size V Z := below_trans BV3.out BV3.out.size bZ
    have hZs : kx + 1 ≤ Z.heap.size := by rw [← S3.out]; exact bZ.size
    have hP0 : PF Z pa (pa + 1) ⟨[], [], 27⟩ [] ⟨0, 0, 0, []⟩ noGh ⟨0, 0, 0, []⟩ noGh Z :=
      ⟨past_is_new rfl ((bVZ.block pa (by rw [HVS.out]; omega)).trans KA.out), past_is_new rfl ((bVZ.block (pa + 1) (by rw [HVS.out]; omega)).trans KB.out), rfl,
       (fun k h1 h2 => by have := foot_new h1; have := foot_new h2; omega), (fun k h => .inl (foot_new h)), (fun k h => .inl (foot_new h)), Fr.refl _ _⟩
    have hKZ : Z.heap[kx]? = some (.cells #[.int .i64 kk, .int .i64 ka, .string kw, .int .i64 kb] 29 (0, 0)) := (bZ.block kx (by rw [S3.out]; omega)).trans K3.out
    rw [S3.out] at hT
    have b0Z : Below w.heap.size w Z := below_trans B03.out B03.out.size bZ
    have hwp : w.heap.size ≤ pa := by rw [HPA.out]; exact B1.out.size
    have HT := Lib.hid hT
    have HP0 := Lib.hid hP0
    have HKZ := Lib.hid hKZ
    have B0Z := Lib.hid b0Z
    have hTl : (opsT l).length ≤ 50 := Nat.le_trans (opsT_len l) hs1
    have HOK := Lib.hid (opsT_ok l)
    clear bZ bVZ hP0 hKZ hT b0Z OP
    generalize opsT l = T at *
    go_wp2_with fail
    go_loopw [11] (fun i wr => ∃ j : Nat, j ≤ T.length ∧ i = .int .i64 j ∧ ∃ sa ga sb gb, PF Z pa (pa + 1) ⟨[], [], 27⟩ (T.take j) sa ga sb gb wr) (fun i _ => T.length - (intOf i).toNat)
    case atStart => exact ⟨0, Nat.zero_le _, rfl, _, _, _, _, by rw [List.take_zero]; exact HP0.out⟩
    case round =>
      obtain ⟨j, hj, rfl, sa, ga, sb, gb, hP⟩ := hrel
      by_cases hlt : j < T.length
      · obtain ⟨t, ht⟩ : ∃ t, T[j]? = some t := ⟨_, List.getElem?_eq_getElem hlt⟩
        obtain ⟨b0, b, cap2, rfl, hb0, hc, hbb, ho⟩ := HT.out j t ht
        have htk : T.take (j + 1) = T.take j ++ [t] := by rw [List.take_add_one, ht]; rfl
        have hokt := HOK.out t (List.mem_of_getElem? ht)
        have hjl : (T.take j).length = j := by rw [List.length_take]; omega
        have bw : ∀ X, Fr (fun k => k = pa ∨ k = pa + 1) Z X → Below w.heap.size w X := fun X hX => B0Z.out.trans (hX.below (fun k _ h => by omega) B0Z.out.size)
        have hcell : ∀ X, Fr (fun k => k = pa ∨ k = pa + 1) Z X → X.cell? ⟨b0, j, none⟩ = some (.slice (some ⟨b, 0, none⟩) t.length cap2) := fun X hX =>
          (World.cell?_of_block (a := ⟨b0, j, none⟩) (hX.block b0 hb0.2 (by omega))).trans hc
        have c1 := hcell wr hP.fr
        have CA := Lib.hid (commit_is (some ⟨b, 0, none⟩) cap2 t pa 0 ⟨[], [], 27⟩ (T.take j) sa ga wr hP.a (hP.opsA (z := kx + 1) (by omega) hbb ho) (hP.sepA (z := kx + 1) (by omega) hbb) (HG.out.below (bw wr hP.fr)) hokt (by omega))
        have HP := Lib.hid hP
        have HTK := Lib.hid htk
        have HBW := Lib.hid bw
        have HCL := Lib.hid hcell
        have HO := Lib.hid ho
        have HJ := Lib.hid hjl
        clear hP htk bw hcell ho hc hjl
        have j0 : (0 : Int) ≤ (j : Int) := by omega
        have j1 : (j : Int) < (T.length : Int) := by omega
        go_wp2_with fail
        refine CA.out.mono ?_
        rintro e X1 ⟨sa1, ga1, rfl, pA, gA, fA, GA⟩
        have h2 := HP.out.stepA pA gA fA GA
        have c1 := HCL.out X1 h2.fr
        have CB := Lib.hid (commit_is (some ⟨b, 0, none⟩) cap2 t (pa + 1) 0 ⟨[], [], 27⟩ (T.take j) sb gb X1 h2.b (h2.opsA (z := kx + 1) (by omega) hbb HO.out) (h2.sepB (z := kx + 1) (by omega) hbb) (HG.out.below (HBW.out X1 h2.fr)) hokt (by rw [HJ.out]; omega))
        have H2 := Lib.hid h2
        clear pA gA fA GA h2 CA
        go_wp2_with fail
        refine CB.out.mono ?_
        rintro e X2 ⟨sb1, gb1, rfl, pB, gB, fB, GB⟩
        have h3 := H2.out.stepB pB fB GB
        rw [← HTK.out] at h3
        have H3 := Lib.hid h3
        have hAX := HA.out.below (HBW.out X2 h3.fr)
        clear pB gB fB GB h3 H2 CB HP
        go_upto_region 13 with fail
        go_cut [69] (fun v wx => wx = X2 ∧ ∃ B : Bool, v = .bool B ∧ (B = true → 0 < at_.length))
        case first =>
          rcases Nat.eq_zero_or_pos at_.length with hz | hz
          · go_wp2_with fail
            go_meet
            exact ⟨rfl, _, rfl, fun h => by simp at h⟩
          · obtain ⟨bi, oi, x, g, rfl, ci⟩ := intsAt_get hAX (k := j % at_.length) (Nat.mod_lt _ hz)
            have hx := HIA.out x (List.mem_of_getElem? g.out)
            have PK := Lib.hid fun X => pick_any x 3 X hx.1 (by have := hx.2; omega) (by decide) (by decide)
            generalize pickI x 3 = p3 at *
            have e0 : (0 : Int) ≤ (j : Int) % (at_.length : Int) := Int.emod_nonneg _ (by omega)
            have e1 : (j : Int) % (at_.length : Int) < (at_.length : Int) := Int.emod_lt_of_pos _ (by omega)
            go_wp2_with fail
            refine (PK.out X2).mono ?_
            rintro e w1 ⟨rfl, rfl⟩
            go_wp2_with fail
            go_meet
            exact ⟨rfl, _, rfl, fun _ => hz⟩
        case rest =>
          obtain ⟨hwc, B, rfl, hBz⟩ := hcut
          have hwc := hwc.symm
          subst hwc
          have HBZ := Lib.hid hBz
          clear hBz
          go_upto_if 69 with fail
          go_cut [12] (fun _ wx => ∃ sb2 gb2, PF Z pa (pa + 1) ⟨[], [], 27⟩ (T.take (j + 1)) sa1 ga1 sb2 gb2 wx)
          case first =>
            cases B
            · go_wp2_with fail
              go_meet
              exact ⟨_, _, H3.out⟩
            · have hz := HBZ.out rfl
              obtain ⟨bi, oi, x, g, rfl, ci⟩ := intsAt_get hAX (k := j % at_.length) (Nat.mod_lt _ hz)
              have hx := HIA.out x (List.mem_of_getElem? g.out)
              have e0 : (0 : Int) ≤ (j : Int) % (at_.length : Int) := Int.emod_nonneg _ (by omega)
              have e1 : (j : Int) % (at_.length : Int) < (at_.length : Int) := Int.emod_lt_of_pos _ (by omega)
              have hnow := H3.out.b.now
              have hg0 := H3.out.b.told.gone0
              have hg1 := H3.out.b.told.gone1
              have hlen : (T.take (j + 1)).length ≤ 50 := by rw [List.length_take]; omega
              have hd : (0 : Int) < sb1.now - sb1.gone + 1 ∧ sb1.now - sb1.gone + 1 < 1000 := by omega
              have CKn := Lib.hid fun X : InC (Bel X2) => (pknown_any (pa + 1) 0 ⟨[], [], 27⟩ sb1 gb1 X.w (H3.out.b.at'.below X.ok)).mono fun e w' (h : _ ∧ _) => (⟨h.1, h.2.symm⟩ : _ ∧ w' = X.w)
              have CNw := Lib.hid fun X : InC (Bel X2) => (pnow_any (pa + 1) 0 ⟨[], [], 27⟩ sb1 gb1 X.w (H3.out.b.at'.below X.ok)).mono fun e w' (h : _ ∧ _) => (⟨h.1, h.2.symm⟩ : _ ∧ w' = X.w)
              have CPk := Lib.hid fun X : InC (Bel X2) => (pick_any x (sb1.now - sb1.gone + 1) X.w hx.1 (by have := hx.2; omega) hd.1 hd.2).mono fun e w' (h : _ ∧ _) => (⟨h.1, h.2.symm⟩ : _ ∧ w' = X.w)
              have hpk := pickI_lt x (sb1.now - sb1.gone + 1) hd.1 hd.2
              generalize pickI x (sb1.now - sb1.gone + 1) = m at *
              have wr1 : IntKind.i64.wrap (sb1.now - sb1.gone) = sb1.now - sb1.gone := IntWalk.i64_in _ (by omega)
              have wr2 : IntKind.i64.wrap (sb1.now - sb1.gone + 1) = sb1.now - sb1.gone + 1 := IntWalk.i64_in _ (by omega)
              have wr3 : IntKind.i64.wrap (sb1.gone + m) = sb1.gone + m := IntWalk.i64_in _ (by omega)
              have qx : ∀ X : InC (Bel X2), X.w.cell? ⟨bi, oi + j % at_.length, none⟩ = some (.int .i64 x) := fun X => X.cell ci
              clear hnow hlen hg0 hg1
              go_wp2_with fail
              refine wp_region_in (S := Bel X2) (by kernel_rfl) (by kernel_rfl) (bel_drew (Below.refl _ X2)) (fun hne => ?_)
              repeat (go_big_quiet_step (first | (go_at_call 18; exact InC.call_same (CKn.out _)) | (go_at_call 16; exact InC.call_same (CNw.out _)) | (go_at_call 17; exact InC.call_same (CPk.out _))))
              refine wpQuiet_nil ?_
              rintro _ ⟨X, rfl⟩
              have h4 := H3.out.below X.ok
              have CF := Lib.hid (forget_is (sb1.gone + m) (pa + 1) 0 ⟨[], [], 27⟩ (T.take (j + 1)) sb1 gb1 X.w h4.b (by omega) (by omega))
              have H4 := Lib.hid h4
              clear h4 CKn CNw CPk qx
              go_wp2_with fail
              refine CF.out.mono ?_
              rintro e X5 ⟨sb2, gb2, rfl, pB, hgn, fB, GB⟩
              have h5 := H4.out.two.stepB pB fB GB
              have CK2 := pknown_any (pa + 1) 0 ⟨[], [], 27⟩ sb2 gb2 X5 h5.b.at'
              rw [hgn] at CK2
              have CK2 := Lib.hid CK2
              have H5 := Lib.hid h5
              clear h5 pB hgn fB GB CF H4
              go_wp2_with fail
              refine CK2.out.mono ?_
              rintro e w6 ⟨rfl, rfl⟩
              go_wp2_with fail
              go_meet
              exact ⟨_, _, H5.out⟩
          case rest =>
            obtain ⟨sb2, gb2, h5⟩ := hcut
            have hna := h5.a.now
            rw [show (T.take (j + 1)).length = j + 1 by rw [List.length_take]; omega] at hna
            have hgl : sb2.gone ≤ (j : Int) + 1 := by
              have h1 := h5.b.told.gone1
              have h2 := h5.b.now
              rw [show (T.take (j + 1)).length = j + 1 by rw [List.length_take]; omega] at h2
              omega
            have hg0 := h5.b.told.gone0
            have H5 := Lib.hid h5
            have hlen : (T.take (j + 1)).length = j + 1 := by rw [List.length_take]; omega
            have HLEN := Lib.hid hlen
            have HOKH := Lib.hid (fun (l : List OpP) (hl : l ∈ T.take (j + 1)) => (okL_iff.1 (HOK.out l (List.mem_of_mem_take hl))).2)
            generalize hHist : T.take (j + 1) = hist at *
            have HHI := Lib.hid hHist
            clear h5 H3 hlen hHist
            go_wp2_with fail
            go_loopw [13] (fun i wr => ∃ n : Nat, n ≤ j + 2 ∧ i = .int .i64 n ∧ PF Z pa (pa + 1) ⟨[], [], 27⟩ hist sa1 ga1 sb2 gb2 wr) (fun i _ => j + 2 - (intOf i).toNat)
            case atStart => exact ⟨0, Nat.zero_le _, rfl, H5.out⟩
            case round =>
              obtain ⟨n, hn, rfl, hP⟩ := hrel
              have CN := pnow_any pa 0 ⟨[], [], 27⟩ sa1 ga1 wr hP.a.at'
              rw [hna] at CN
              have CN := Lib.hid CN
              have HP := Lib.hid hP
              clear hP
              by_cases hle : n ≤ j + 1
              · have hle1 : (n : Int) ≤ (j : Int) + 1 := by omega
                go_wp2_with fail
                refine CN.out.mono ?_
                rintro e w1 ⟨rfl, rfl⟩
                have kxb := (HP.out.fr.block kx (lt_of_block HKZ.out) (by omega)).trans HKZ.out
                have k0 : wr.cell? ⟨kx, 0, none⟩ = some (.int .i64 kk) := by simp [World.cell?, kxb]
                have k1 : wr.cell? ⟨kx, 1, none⟩ = some (.int .i64 ka) := by simp [World.cell?, kxb]
                have k2 : wr.cell? ⟨kx, 2, none⟩ = some (.string kw) := by simp [World.cell?, kxb]
                have k3 : wr.cell? ⟨kx, 3, none⟩ = some (.int .i64 kb) := by simp [World.cell?, kxb]
                have hkl : kx < wr.heap.size := lt_of_block kxb
                have CA := Lib.hid (pieces_is ⟨kk, ka, kw, kb⟩ n pa 0 ⟨[], [], 27⟩ hist sa1 ga1 wr HP.out.a QB.out (by rw [HP.out.ga0]; omega) (by rw [HLEN.out]; exact hle))
                clear kxb
                go_wp2_with fail
                refine CA.out.mono ?_
                rintro e w1 ⟨v, L, rfl, hL, _, hLl, hown, b1⟩
                obtain ⟨ao, cap, rfl, hat⟩ := ownsRow_pcs hown
                have h1 := HP.out.below b1
                have k0 := below_cell b1 hkl k0
                have k1 := below_cell b1 hkl k1
                have k2 := below_cell b1 hkl k2
                have k3 := below_cell b1 hkl k3
                have hk1 : kx < w1.heap.size := Nat.lt_of_lt_of_le hkl b1.size
                have HL1 := Lib.hid hL
                have HAT := Lib.hid hat
                have H1 := Lib.hid h1
                clear b1 hown hL hat h1 CA CN HP
                by_cases hg : (n : Int) < sb2.gone
                · have CB := Lib.hid (pieces_gone ⟨kk, ka, kw, kb⟩ n (pa + 1) 0 ⟨[], [], 27⟩ hist sb2 gb2 w1 H1.out.b QB.out hg (by rw [HLEN.out]; exact hle))
                  unfold errV at CB
                  go_wp2_with fail
                  refine CB.out.mono ?_
                  rintro e w2 ⟨rfl, b2⟩
                  have H2 := Lib.hid (H1.out.below b2)
                  have CKn := Lib.hid fun X : InC (Bel w2) => (pknown_any (pa + 1) 0 ⟨[], [], 27⟩ sb2 gb2 X.w (H2.out.b.at'.below X.ok)).mono fun e w' (h : _ ∧ _) => (⟨h.1, h.2.symm⟩ : _ ∧ w' = X.w)
                  clear b2 CB
                  go_wp2_with fail
                  refine wp_region_in (S := Bel w2) (by kernel_rfl) (by kernel_rfl) (bel_drew (Below.refl _ w2)) (fun hne => ?_)
                  repeat (go_big_quiet_step ((go_at_call 18; exact InC.call_same (CKn.out _))))
                  refine wpQuiet_nil ?_
                  rintro _ ⟨X, rfl⟩
                  have h3 := H2.out.below X.ok
                  have CT := Lib.hid (tell_any (.iface 62 (.int .i64 7)) 7 (-1) X.w (HV.out.below (HBW.out X.w h3.fr)) (Or.inr (Or.inl ⟨rfl, rfl⟩)))
                  have HX := Lib.hid h3
                  clear h3 CKn
                  go_wp2_with fail
                  refine CT.out.mono ?_
                  rintro e w4 ⟨rfl, b4⟩
                  have H4 := Lib.hid (HX.out.below b4)
                  clear b4
                  go_wp2_with fail
                  exact ⟨⟨n + 1, by omega, by go_num, H4.out⟩, by simp [intOf]; omega⟩
                · have hg' : sb2.gone ≤ (n : Int) := by omega
                  have CB := Lib.hid (pieces_is ⟨kk, ka, kw, kb⟩ n (pa + 1) 0 ⟨[], [], 27⟩ hist sb2 gb2 w1 H1.out.b QB.out hg' (by rw [HLEN.out]; exact hle))
                  go_wp2_with fail
                  refine CB.out.mono ?_
                  rintro e w2 ⟨v2, M, rfl, hM, _, _, hown, b2⟩
                  obtain ⟨bo, cap2, rfl, hbt⟩ := ownsRow_pcs hown
                  have hLM : L = M := HL1.out.one hM fun _ => rfl
                  subst hLM
                  have H2 := Lib.hid (H1.out.below b2)
                  have HAT2 := Lib.hid (HAT.out.below b2)
                  have HBT := Lib.hid hbt
                  have CKn := Lib.hid fun X : InC (Bel w2) => (pknown_any (pa + 1) 0 ⟨[], [], 27⟩ sb2 gb2 X.w (H2.out.b.at'.below X.ok)).mono fun e w' (h : _ ∧ _) => (⟨h.1, h.2.symm⟩ : _ ∧ w' = X.w)
                  clear b2 CB hown hbt hM k0 k1 k2 k3
                  go_wp2_with fail
                  refine wp_region_in (S := Bel w2) (by kernel_rfl) (by kernel_rfl) (bel_drew (Below.refl _ w2)) (fun hne => ?_)
                  repeat (go_big_quiet_step ((go_at_call 18; exact InC.call_same (CKn.out _))))
                  refine wpQuiet_nil ?_
                  rintro _ ⟨X, rfl⟩
                  have H3 := Lib.hid (H2.out.below X.ok)
                  have HA3 := Lib.hid (HAT2.out.below X.ok)
                  have HB3 := Lib.hid (HBT.out.below X.ok)
                  clear CKn H2 HAT2 HBT H1 HAT
                  generalize X.w = w3 at *
                  go_wp2_with fail
                  go_loopw [18] (fun i wr => ∃ q : Nat, q ≤ L.length ∧ i = .int .i64 q ∧ Below w3.heap.size w3 wr) (fun i _ => L.length - (intOf i).toNat)
                  case atStart => exact ⟨0, Nat.zero_le _, rfl, Below.refl _ _⟩
                  case round =>
                    obtain ⟨q, hq, rfl, hb⟩ := hrel
                    by_cases hql : q < L.length
                    · obtain ⟨p, hp⟩ : ∃ p, L[q]? = some p := ⟨_, List.getElem?_eq_getElem hql⟩
                      obtain ⟨f, t, u⟩ := p
                      obtain ⟨ba, rfl, a0, a1, a2⟩ := (HA3.out.below hb) q _ hp
                      obtain ⟨bb, rfl, c0, c1, c2⟩ := (HB3.out.below hb) q _ hp
                      simp only at a0 a1 a2 c0 c1 c2
                      have HB := Lib.hid hb
                      have q0 : (0 : Int) ≤ (q : Int) := by omega
                      have q1 : (q : Int) < (L.length : Int) := by omega
                      have qa0 := fun X : InC (Bel wr) => X.cell a0
                      have qc0 := fun X : InC (Bel wr) => X.cell c0
                      have qa1 := fun X : InC (Bel wr) => X.cell a1
                      have qc1 := fun X : InC (Bel wr) => X.cell c1
                      have qa2 := fun X : InC (Bel wr) => X.cell a2
                      have qc2 := fun X : InC (Bel wr) => X.cell c2
                      clear hp hb
                      go_wp2_with fail
                      refine wp_region_in (S := Bel wr) (by kernel_rfl) (by kernel_rfl) (bel_drew (Below.refl _ wr)) (fun hne => ?_)
                      repeat (go_big_quiet_step (fail))
                      refine wpQuiet_nil ?_
                      rintro _ ⟨X, rfl⟩
                      go_wp2_with fail
                      exact ⟨⟨q + 1, by omega, by go_num, HB.out.trans (X.ok.mono HB.out.size)⟩, by simp [intOf]; omega⟩
                    · obtain rfl : q = L.length := by omega
                      have H6 := Lib.hid (H3.out.below hb)
                      clear hb H3 HA3 HB3
                      have PK := Lib.hid fun X => pick_any ((j : Int) * 7) 60 X (by omega) (by omega) (by decide) (by decide)
                      have pb60 := pickI_lt ((j : Int) * 7) 60 (by decide) (by decide)
                      have wr7 : IntKind.i64.wrap ((j : Int) * 7) = (j : Int) * 7 := IntWalk.i64_in _ (by omega)
                      generalize pickI ((j : Int) * 7) 60 = pv at *
                      have htb : timeB pv = true := by unfold timeB; simp; omega
                      have KA := Lib.hid (keys_is n pv pa 0 ⟨[], [], 27⟩ hist sa1 ga1 wr H6.out.a HOKH.out htb (by rw [H6.out.ga0]; omega) (by rw [HLEN.out]; exact hle))
                      go_wp2_with fail
                      refine (PK.out wr).mono ?_
                      rintro e w4 ⟨rfl, rfl⟩
                      go_wp2_with fail
                      refine KA.out.mono ?_
                      rintro e w5 ⟨v5, U, rfl, hU, _, _, hown, b5⟩
                      obtain ⟨uo, cap5, rfl, hut⟩ := ownsRow_kys hown
                      have H7 := Lib.hid (H6.out.below b5)
                      have HU := Lib.hid hU
                      have HUT := Lib.hid hut
                      have KB := Lib.hid (keys_is n pv (pa + 1) 0 ⟨[], [], 27⟩ hist sb2 gb2 w5 H7.out.b HOKH.out htb hg' (by rw [HLEN.out]; exact hle))
                      clear hown hU hut b5 KA H6
                      go_wp2_with fail
                      refine (PK.out w5).mono ?_
                      rintro e w4 ⟨rfl, rfl⟩
                      go_wp2_with fail
                      refine KB.out.mono ?_
                      rintro e w6 ⟨v6, U2, rfl, hU2, _, _, hown, b6⟩
                      obtain ⟨vo, cap6, rfl, hvt⟩ := ownsRow_kys hown
                      have hUU : U = U2 := HU.out.one hU2 fun _ => rfl
                      subst hUU
                      have H8 := Lib.hid (H7.out.below b6)
                      have HU6 := Lib.hid (HUT.out.below b6)
                      have HV6 := Lib.hid hvt
                      clear hown hU2 hvt b6 KB H7 PK
                      go_wp2_with fail
                      go_loopw [21] (fun i wr => ∃ q : Nat, q ≤ U.length ∧ i = .int .i64 q ∧ Below w6.heap.size w6 wr) (fun i _ => U.length - (intOf i).toNat)
                      case atStart => exact ⟨0, Nat.zero_le _, rfl, Below.refl _ _⟩
                      case round =>
                        obtain ⟨q, hq, rfl, hb⟩ := hrel
                        by_cases hql : q < U.length
                        · obtain ⟨p, hp⟩ : ∃ p, U[q]? = some p := ⟨_, List.getElem?_eq_getElem hql⟩
                          obtain ⟨f, t, u, g⟩ := p
                          obtain ⟨ba, rfl, a0, a1, a2, a3⟩ := (HU6.out.below hb) q _ hp
                          obtain ⟨bb, rfl, c0, c1, c2, c3⟩ := (HV6.out.below hb) q _ hp
                          simp only at a0 a1 a2 a3 c0 c1 c2 c3
                          have HB := Lib.hid hb
                          have q0 : (0 : Int) ≤ (q : Int) := by omega
                          have q1 : (q : Int) < (U.length : Int) := by omega
                          have qa0 := fun X : InC (Bel wr) => X.cell a0
                          have qc0 := fun X : InC (Bel wr) => X.cell c0
                          have qa1 := fun X : InC (Bel wr) => X.cell a1
                          have qc1 := fun X : InC (Bel wr) => X.cell c1
                          have qa2 := fun X : InC (Bel wr) => X.cell a2
                          have qc2 := fun X : InC (Bel wr) => X.cell c2
                          have qa3 := fun X : InC (Bel wr) => X.cell a3
                          have qc3 := fun X : InC (Bel wr) => X.cell c3
                          have nk := fun W => neq_keyS W u f t g
                          clear hp hb
                          go_wp2_with fail
                          refine wp_region_in (S := Bel wr) (by kernel_rfl) (by kernel_rfl) (bel_drew (Below.refl _ wr)) (fun hne => ?_)
                          repeat (go_big_quiet_step (fail))
                          refine wpQuiet_nil ?_
                          rintro _ ⟨X, rfl⟩
                          go_wp2_with fail
                          exact ⟨⟨q + 1, by omega, by go_num, HB.out.trans (X.ok.mono HB.out.size)⟩, by simp [intOf]; omega⟩
                        · obtain rfl : q = U.length := by omega
                          have H9 := Lib.hid (H8.out.below hb)
                          clear hb H8 HU6 HV6
                          go_wp2_with fail
                          exact ⟨⟨n + 1, by omega, by go_num, H9.out⟩, by simp [intOf]; omega⟩
              · have hgt : (j : Int) + 1 < (n : Int) := by omega
                go_wp2_with fail
                refine CN.out.mono ?_
                rintro e w1 ⟨rfl, rfl⟩
                go_wp2_with fail
                exact ⟨⟨j + 1, by omega, by go_num, sa1, ga1, sb2, gb2, by rw [HHI.out]; exact HP.out⟩, by simp [intOf]; omega⟩
      · have hbb := B0Z.out.trans (hP.fr.below (B := w.heap.size) (fun k _ h => by omega) B0Z.out.size)
        have CA := pnow_any pa 0 ⟨[], [], 27⟩ sa ga wr hP.a.at'
        have CB := pnow_any (pa + 1) 0 ⟨[], [], 27⟩ sb gb wr hP.b.at'
        rw [hP.a.now] at CA
        rw [hP.b.now] at CB
        have CA := Lib.hid CA
        have CB := Lib.hid CB
        have HBB := Lib.hid hbb
        obtain rfl : j = T.length := by omega
        clear hP hbb
        go_wp2_with fail
        refine CA.out.mono ?_
        rintro e w1 ⟨rfl, rfl⟩
        go_wp2_with fail
        refine CB.out.mono ?_
        rintro e w1 ⟨rfl, rfl⟩
        go_wp2_with fail
        go_ret
        exact ⟨rfl, HBB.out⟩
  · go_enter Tryz.func4, Tryz.ntmps4
    by_cases hs1 : l.length ≤ 50
    · have hs2 : ¬ at_.length ≤ 60 := fun h => hs ⟨hs1, h⟩
      go_wp2_with fail
      go_ret
      exact ⟨rfl, Below.refl _ _⟩
    · go_wp2_with fail
      go_ret
      exact ⟨rfl, Below.refl _ _⟩
end Go.Proofs.YtacedfcckkpciaaGreatDoor
