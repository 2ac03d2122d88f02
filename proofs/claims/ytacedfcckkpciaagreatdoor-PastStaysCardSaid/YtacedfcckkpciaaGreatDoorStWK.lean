/- PastStays, walked. -/
import Derived.Laws.EntriesVeiled
import Derived.Deep.RegionHeld3
import Derived.Deep.DeepCutAuto
import Derived.Test.YtacedfcckkpciaaGreatDoorStCK
import Derived.Test.YtacedfcckkpciaaGreatDoorPsDK
import Derived.Test.YtacedfcckkpciaaGreatDoorPsEK
import Derived.Test.YtacedfcckkpciaaGreatDoorFcKK
namespace Go.Proofs.YtacedfcckkpciaaGreatDoor
open Go.RowKit Go.Deep Go.Shelf Go.Sort Go.Maps

/-- The piece that was read last. -/
def lastP (L : List Pc) (q : Nat) : Pc := if q = 0 then ⟨0, 0, ⟨#[]⟩⟩ else (L[q - 1]?).getD ⟨0, 0, ⟨#[]⟩⟩
/-- What is said is not long. -/
theorem said_len {hist : List (List OpP)} (hok : ∀ l ∈ hist, l.all opB = true) (k : KeyP) (n : Nat) (t : Int) : (saidH hist k n t).size ≤ 100 := by
  have : ∀ (l : List OpP) (x : ByteArray), l.all opB = true → x.size ≤ 100 → (saidL l k t x).size ≤ 100 := fun l => by
    induction l with
    | nil => intro x _ h; exact h
    | cons o l ih =>
      intro x ha h
      simp only [List.all_cons, Bool.and_eq_true] at ha
      unfold saidL
      rw [List.foldl_cons]
      refine ih _ ha.2 ?_
      split
      · have h3 : o.value.size = 0 ∨ wordB o.value = true := by
          have := ha.1
          unfold opB at this
          simp only [Bool.and_eq_true, Bool.or_eq_true, decide_eq_true_eq] at this
          exact this.2.2
        rcases h3 with h3 | h3
        · omega
        · unfold wordB at h3
          simp only [Bool.and_eq_true, decide_eq_true_eq] at h3
          omega
      · exact h
  exact this _ _ (List.all_eq_true.2 fun o ho => by
    obtain ⟨l, hl, ho⟩ := List.mem_flatten.1 ho
    exact List.all_eq_true.1 (hok l (List.mem_of_mem_take hl)) o ho) (by decide)
set_option maxRecDepth 100000 in
theorem zeroBool (w : World) : (zeroValue 4).run Tryz.prog w = .ok (.bool false) w := by kernel_rfl
set_option maxRecDepth 100000 in
theorem had_look {w : World} {b n : Nat} {L : List ByteArray} (h : HadIs w b n L) {x : ByteArray} (hx : x ∈ L) (hs : x.size ≤ maxLen) : (Instr.lookup 57 (.map (some b)) (.string x) false).run Tryz.prog w = .ok (.bool true) w := by
  obtain ⟨D, hown, hD⟩ := h.own
  obtain ⟨u, ps, hr, hu⟩ := hown.lookup strLaw Tryz.underlying57 (zeroBool w) (zd := .lit (.bool false)) (zp := []) rfl (keyOf_str hs)
  rw [hD.at' x hx _] at hu
  unfold boolR at hu
  split at hu
  · rename_i c
    simp only [Option.some.injEq, Prod.mk.injEq] at hu
    have e := hu.1
    unfold boolD at e
    injection e with e1
    injection e1 with e2
    subst e2
    exact hr
  · cases hu
theorem setPc {w w1 : World} {B g : Nat} {ty : TypeId} {a0 a1 a2 : Value} (hC : Below B w w1) (hB : B ≤ g) (h : w1.heap[g]? = some (.cells #[a0, a1, a2] ty (0, 0))) (v0 v1 v2 : Value) :
    Below B w (((w1.setCell ⟨g, 0, none⟩ v0).setCell ⟨g, 1, none⟩ v1).setCell ⟨g, 2, none⟩ v2) ∧
    (((w1.setCell ⟨g, 0, none⟩ v0).setCell ⟨g, 1, none⟩ v1).setCell ⟨g, 2, none⟩ v2).heap[g]? = some (.cells #[v0, v1, v2] ty (0, 0)) :=
  ⟨Below.setCell (Below.setCell (Below.setCell hC hB _) hB _) hB _,
   by have := block_set (block_set (block_set h 0 v0) 1 v1) 2 v2
      simpa using this⟩
set_option maxRecDepth 100000 in
set_option maxHeartbeats 16000000 in
theorem pastStays_walk (l : List SayP) (key : Int) (ao : Option Addr) (cap : Nat) (w : World) (hl : saysAt w ao l) (hlm : l.length ≤ maxLen) (hi : ∀ s ∈ l, s.Ok) (hk : i64B key) (hg : PowTab w) :
    Calls Tryz.prog 3 #[.slice ao l.length cap, .int .i64 key] w fun e w' => e = .returned (.bool true) ∧ Below w.heap.size w w' := by
  unfold maxLen at hlm
  have HL := Lib.hid hl
  have HI := Lib.hid hi
  have HG := Lib.hid hg
  clear hl hi hg
  by_cases hs1 : l.length ≤ 50
  · have HSD := Lib.hid (said_any w HG.out)
    have hmf : ∀ (fn : Fn) (first cap : Array Value) (w : World), (Instr.makeFunc fn first cap).run Tryz.prog w = .ok (.func fn first cap) w := fun _ _ _ _ => rfl
    go_enter Tryz.func3, Tryz.ntmps3
    go_wp2_with fail
    refine HSD.out.mono ?_
    rintro e W1 ⟨rfl, b1⟩
    have B1 := Lib.hid b1
    have KK := Lib.hid fun X => keyOf_any key X hk
    clear b1
    go_wp2_with fail
    obtain ⟨V, hV⟩ : ∃ V, V = W1.alloc (.cells #[.int .i64 0, .int .i64 0, .int .i64 0, .map none, .map none] 27) := ⟨_, rfl⟩
    rw [← hV]
    obtain ⟨pb, hpb⟩ : ∃ pb, pb = W1.heap.size := ⟨_, rfl⟩
    rw [← hpb]
    have hVs : V.heap.size = pb + 1 := by rw [hV, hpb]; simp
    have ha : V.heap[pb]? = some (.cells (pcells ⟨[], [], 27⟩ 0 0 0 none none) 27 (0, 0)) := by
      rw [hV, hpb]
      exact heap_alloc_new _ _
    have bV : Below W1.heap.size W1 V := by rw [hV]; exact (Below.refl _ _).alloc (Nat.le_refl _) _
    have HPB := Lib.hid hpb
    have HVS := Lib.hid hVs
    have HBV := Lib.hid bV
    have KA := Lib.hid ha
    clear hV hpb hVs ha bV
    refine (KK.out V).mono ?_
    rintro e W2 ⟨rfl, b2⟩
    obtain ⟨q, hq⟩ : ∃ q, q = keyP key := ⟨_, rfl⟩
    have hqB : keyB q = true := by rw [hq]; exact keyP_B key
    rw [← hq]
    obtain ⟨kk, ka, kw, kb⟩ := q
    have B2 := Lib.hid b2
    have QB := Lib.hid hqB
    clear b2 hq hqB KK
    simp only
    go_wp2_with fail
    obtain ⟨kx, hkx⟩ : ∃ kx, kx = W2.heap.size := ⟨_, rfl⟩
    obtain ⟨W3, hW3⟩ : ∃ W3, W3 = W2.alloc (.cells #[.int .i64 kk, .int .i64 ka, .string kw, .int .i64 kb] 29) := ⟨_, rfl⟩
    rw [← hkx, ← hW3]
    have b3 : Below W2.heap.size W2 W3 := by rw [hW3]; exact (Below.refl _ _).alloc (Nat.le_refl _) _
    have s3 : W3.heap.size = kx + 1 := by rw [hW3, hkx]; simp
    have k3x : W3.heap[kx]? = some (.cells #[.int .i64 kk, .int .i64 ka, .string kw, .int .i64 kb] 29 (0, 0)) := by rw [hW3, hkx]; exact heap_alloc_new _ _
    have hkp : pb + 1 ≤ kx := by rw [hkx, ← HVS.out]; exact B2.out.size
    have bV3 : Below V.heap.size V W3 := below_trans B2.out B2.out.size b3
    have b13 : Below W1.heap.size W1 W3 := below_trans HBV.out HBV.out.size bV3
    have b03 : Below w.heap.size w W3 := below_trans B1.out B1.out.size b13
    have hP3 : PastIs W3 pb 0 ⟨[], [], 27⟩ [] ⟨0, 0, 0, []⟩ noGh := past_is_new rfl ((bV3.block pb (by rw [HVS.out]; omega)).trans KA.out)
    have hwp : w.heap.size ≤ pb := by rw [HPB.out]; exact B1.out.size
    have B03 := Lib.hid b03
    have S3 := Lib.hid s3
    have K3 := Lib.hid k3x
    have P3 := Lib.hid hP3
    have C0 := strow_any ⟨kk, ka, kw, kb⟩ 0 kx pb ⟨[], [], 27⟩ [] _ _ W3 hP3 k3x QB.out (by decide) (by decide)
    rw [show ((0 : Nat) : Int) = 0 from rfl] at C0
    have C0 := Lib.hid C0
    clear hW3 hkx b3 s3 k3x b13 bV3 b03 hP3 HSD HBV HVS KA B2
    refine C0.out.mono ?_
    rintro e W4 ⟨br, cr, rfl, hbr, htx, b4⟩
    rw [S3.out] at hbr b4
    have hU : ∀ o : Obj, (kx + 1 ≤ br ∧ br < (W4.alloc o).heap.size) ∧ Apart (.slice none 0 0) br ∧ ¬ (noGh.foot pb br) ∧ textsIn (W4.alloc o) br (rowT [] ⟨kk, ka, kw, kb⟩ 0) := fun o =>
      ⟨⟨hbr.1, by simp; omega⟩, apart_nil _, (fun h => by have := foot_new h; omega), htx.same (Below.heap_alloc _ _ _ hbr.2)⟩
    have hz4 : kx + 1 ≤ W4.heap.size := by rw [← S3.out]; exact b4.size
    have hFl : ∀ o : Obj, ∀ b, noGh.foot pb b → b < (W4.alloc o).heap.size := fun o b h => by have := foot_new h; simp; omega
    have HU := Lib.hid hU
    have HFL := Lib.hid hFl
    have B4 := Lib.hid b4
    clear hU htx b4 C0 hFl hbr
    go_wp2_with (at_builtin; refine appRowF rfl _ _ rfl (kx + 1) [] (noGh.foot pb) (.slice none 0 0) rfl (RowsIn.nil _ _ _) W4.heap.size rfl (rowT [] ⟨kk, ka, kw, kb⟩ 0) br cr (by simp [rowT_len]) (HU.out _) (HFL.out _) (by decide) (by simp; omega) ?_; intro v5 w5 hR hF hv5; have HR := Lib.hid hR; have HF := Lib.hid hF; have HV5 := Lib.hid hv5; clear hR hF hv5)
    have b45 : Below W4.heap.size W4 w5 := by
      refine ((Below.refl _ _).alloc (Nat.le_refl _) _).trans ⟨HF.out.os, HF.out.tape, HF.out.output, HF.out.size, fun k hk => HF.out.block k (by simp; omega) (by simp [Value.ownBlock])⟩
    have b35 : Below W3.heap.size W3 w5 := by
      rw [S3.out]
      exact below_trans B4.out hz4 b45
    have b05 : Below w.heap.size w w5 := below_trans B03.out B03.out.size b35
    have OP := Lib.hid (ops_any l ao cap w5 (HL.out.below b05) hs1 HI.out)
    have P5 := Lib.hid (P3.out.below b35)
    have K5 := Lib.hid ((b35.block kx (by rw [S3.out]; omega)).trans K3.out)
    have B05 := Lib.hid b05
    clear b45 b35 b05 HF B4 HU HFL HV5 B03 P3 K3
    go_wp2_with fail
    refine OP.out.mono ?_
    rintro e Z ⟨v, rfl, ⟨ta, tc, rfl, hT⟩, bZ⟩
    have hr0 : rowT [] ⟨kk, ka, kw, kb⟩ 0 = rowT (opsT l) ⟨kk, ka, kw, kb⟩ 0 := by rw [← rowT_take (opsT l) _ (Nat.le_refl 0), List.take_zero]
    have hR := HR.out
    rw [hr0] at hR
    have hTl : (opsT l).length ≤ 50 := Nat.le_trans (opsT_len l) hs1
    have HOK := Lib.hid (opsT_ok l)
    generalize opsT l = T at *
    obtain ⟨zo, hzo⟩ : ∃ zo, zo = w5.heap.size := ⟨_, rfl⟩
    rw [← hzo] at hT
    have hkz : kx < zo := by rw [hzo]; exact lt_of_block K5.out
    have hS0 : SS Z (kx + 1) zo pb ⟨[], [], 27⟩ T ⟨kk, ka, kw, kb⟩ 0 1 ⟨0, 0, 0, []⟩ noGh v5 Z :=
      ⟨by rw [List.take_zero]; exact P5.out.below bZ, rfl, hR.below bZ, (fun b h => .inl (foot_new h)), (fun b h => by
        obtain ⟨⟨hs, h1, _⟩, _⟩ := hR
        exact .inl (by rw [hzo]; exact (h1.lt b h).2)), Fr.refl _ _⟩
    have hKZ := (bZ.block kx (by rw [← hzo]; exact hkz)).trans K5.out
    have bZ0 : Below w.heap.size w Z := below_trans B05.out B05.out.size bZ
    have hZs : zo ≤ Z.heap.size := by rw [hzo]; exact bZ.size
    have HT := Lib.hid hT
    have HS0 := Lib.hid hS0
    have HKZ := Lib.hid hKZ
    have BZ0 := Lib.hid bZ0
    clear bZ hr0 hR HR hT hzo hS0 hKZ bZ0 OP K5 P5 B05
    go_wp2_with fail
    go_loopw [7, 12] (fun v i wr => ∃ j : Nat, j ≤ T.length ∧ i = .int .i64 j ∧ ∃ s g, SS Z (kx + 1) zo pb ⟨[], [], 27⟩ T ⟨kk, ka, kw, kb⟩ j (j + 1) s g v wr) (fun _ i _ => T.length - (intOf i).toNat)
    case atStart => exact ⟨0, Nat.zero_le _, rfl, _, _, HS0.out⟩
    case round =>
      obtain ⟨j, hj, rfl, s, g, hP⟩ := hrel
      obtain ⟨va, vc, hv, hget⟩ := hP.rows.get
      rw [rowsT_len] at hv
      subst hv
      have HGET := Lib.hid hget
      clear hget
      have bw : ∀ {j m s g v X}, SS Z (kx + 1) zo pb ⟨[], [], 27⟩ T ⟨kk, ka, kw, kb⟩ j m s g v X → Below w.heap.size w X := fun hX => BZ0.out.trans (hX.fr.below (fun k _ h => by omega) BZ0.out.size)
      by_cases hlt : j < T.length
      · obtain ⟨t, ht⟩ : ∃ t, T[j]? = some t := ⟨_, List.getElem?_eq_getElem hlt⟩
        obtain ⟨b0, b, cap2, rfl, hb0, hc, hbb, ho⟩ := HT.out j t ht
        have hokt := HOK.out t (List.mem_of_getElem? ht)
        have ht8 : t.length ≤ 8 := (okL_iff.1 hokt).1.2
        have hjl : (T.take j).length = j := by rw [List.length_take]; omega
        have hjl2 : (T.take (j + 1)).length = j + 1 := by rw [List.length_take]; omega
        have hcell : ∀ {m s g v X}, ∀ j', SS Z (kx + 1) zo pb ⟨[], [], 27⟩ T ⟨kk, ka, kw, kb⟩ j' m s g v X → X.cell? ⟨b0, j, none⟩ = some (.slice (some ⟨b, 0, none⟩) t.length cap2) := fun j' hX =>
          (World.cell?_of_block (a := ⟨b0, j, none⟩) (hX.fr.block b0 hb0.2 (by omega))).trans hc
        have c1 := hcell j hP
        have hpz : pb < zo := by omega
        have CA := Lib.hid (commit_is (some ⟨b, 0, none⟩) cap2 t pb 0 ⟨[], [], 27⟩ (T.take j) s g wr hP.p (hP.ops hpz hbb ho) (hP.sep hpz hbb) (HG.out.below (bw hP)) hokt (by omega))
        have HP := Lib.hid hP
        have HTJ := Lib.hid ht
        have HC := Lib.hid hc
        have HO := Lib.hid ho
        have hb0s : b0 < wr.heap.size := World.block_lt_of_cell? wr _ c1
        have j0 : (0 : Int) ≤ (j : Int) := by omega
        have j1 : (j : Int) < (T.length : Int) := by omega
        clear hP ht hc ho
        go_wp2_with fail
        refine CA.out.mono ?_
        rintro e X1 ⟨s1, g1, rfl, pA, gA, fA, GA⟩
        have h2 := HP.out.commit HTJ.out pA gA fA GA
        have CR := strow_any ⟨kk, ka, kw, kb⟩ (j + 1) kx pb ⟨[], [], 27⟩ (T.take (j + 1)) s1 g1 X1 h2.p ((h2.fr.block kx (by omega) (by omega)).trans HKZ.out) QB.out (by rw [h2.gone]; omega) (by omega)
        rw [rowT_take T _ (Nat.le_refl (j + 1)), show ((j + 1 : Nat) : Int) = (j : Int) + 1 from by omega] at CR
        have CR := Lib.hid CR
        have wj : IntKind.i64.wrap ((j : Int) + 1) = (j : Int) + 1 := IntWalk.i64_in _ (by omega)
        have H2 := Lib.hid h2
        clear pA gA fA GA h2 CA HP
        go_wp2_with fail
        refine CR.out.mono ?_
        rintro e X2 ⟨br, cr, rfl, hbr, htx, b2⟩
        have h3 := H2.out.below b2
        have c2 := hcell (j + 1) h3
        have hb02 : b0 < X2.heap.size := World.block_lt_of_cell? X2 _ c2
        have hap : Apart (.slice va (j + 1) vc) br := fun e => by
          obtain ⟨⟨hs, h1, _⟩, _⟩ := H2.out.rows
          have := (h1.lt br e).2; omega
        have hnf : ¬ g1.foot pb br := fun h => by have := H2.out.p.at'.lt br h; omega
        have hkbr : kx + 1 ≤ br := by have := H2.out.fr.size; omega
        have HX := Lib.hid htx
        have H3 := Lib.hid h3
        clear htx b2 h3 CR H2 c1
        go_wp2_with fail
        go_loopw [15] (fun i wr => ∃ y : Nat, y ≤ 75 ∧ i = .int .i64 y ∧ Below X2.heap.size X2 wr) (fun i _ => 75 - (intOf i).toNat)
        case atStart => exact ⟨0, Nat.zero_le _, rfl, Below.refl _ _⟩
        case round =>
          obtain ⟨y, hy, rfl, hb⟩ := hrel
          have HB := Lib.hid hb
          by_cases hy75 : y < 75
          · have y0 : (0 : Int) ≤ (y : Int) := by omega
            have y1 : (y : Int) < 75 := by omega
            have c3 := below_cell hb hb02 c2
            have hb03 : b0 < wr.heap.size := Nat.lt_of_lt_of_le hb02 hb.size
            clear hb
            go_wp2_with fail
            go_loopw [16, 87] (fun tv i wr => ∃ q : Nat, q ≤ t.length ∧ i = .int .i64 q ∧ (∃ B, tv = .bool B ∧ B = touchB (t.take q) ⟨kk, ka, kw, kb⟩ y) ∧ Below X2.heap.size X2 wr) (fun _ i _ => t.length - (intOf i).toNat)
            case atStart => exact ⟨0, Nat.zero_le _, rfl, ⟨false, rfl, rfl⟩, HB.out⟩
            case round =>
              obtain ⟨q, hq, rfl, ⟨B, rfl, hBq⟩, hb⟩ := hrel
              by_cases hqt : q < t.length
              · obtain ⟨bq, f, n, a, sx, m, x, z, u, g1, e1, hbl, d0, d1, d2, d3, d4, d5, d6⟩ := opsAt_get ((H3.out.ops hpz hbb HO.out).below (hb.mono (Nat.le_refl _))) hqt
                cases e1
                simp only [Nat.zero_add] at d0 d1 d2 d3 d4 d5 d6
                have kxb := (hb.block kx (Nat.lt_of_lt_of_le (by omega) H3.out.fr.size)).trans ((H3.out.fr.block kx (by omega) (by omega)).trans HKZ.out)
                have k0 : wr.cell? ⟨kx, 0, none⟩ = some (.int .i64 kk) := by simp [World.cell?, kxb]
                have k1 : wr.cell? ⟨kx, 1, none⟩ = some (.int .i64 ka) := by simp [World.cell?, kxb]
                have k2 : wr.cell? ⟨kx, 2, none⟩ = some (.string kw) := by simp [World.cell?, kxb]
                have k3 : wr.cell? ⟨kx, 3, none⟩ = some (.int .i64 kb) := by simp [World.cell?, kxb]
                have hkl : kx < wr.heap.size := lt_of_block kxb
                have hst := touchB_take (k := ⟨kk, ka, kw, kb⟩) (t := (y : Int)) g1.out
                rw [← hBq] at hst
                have q0 : (0 : Int) ≤ (q : Int) := by omega
                have q1 : (q : Int) < (t.length : Int) := by omega
                have HST := Lib.hid hst
                have HBq := Lib.hid hb
                have bA : ∀ o : Obj, Below X2.heap.size X2 (wr.alloc o) := fun o => hb.alloc hb.size o
                have HBA := Lib.hid bA
                clear kxb hb hBq hst bA
                cases B
                · by_cases hkey : (⟨n, a, sx, m⟩ : KeyP) = ⟨kk, ka, kw, kb⟩
                  · have hkq : keyEqB n a m kk ka kb sx kw = true := by rw [keyEqB_iff]; exact decide_eq_true hkey
                    have HH := Lib.hid fun X => has_any x z (y : Int) X
                    have hsp : hasB x z (y : Int) = decide (x ≤ (y : Int) ∧ (y : Int) < z) := by unfold hasB; simp
                    rw [show decide ((⟨n, a, sx, m⟩ : KeyP) = ⟨kk, ka, kw, kb⟩) = true from decide_eq_true hkey, ← hsp] at HST
                    clear hkey hsp
                    generalize hasB x z (y : Int) = hb at *
                    go_wp2_with fail
                    refine (HH.out _).mono ?_
                    rintro e w7 ⟨rfl, b7⟩
                    have HB7 := Lib.hid (below_trans (HBA.out _) (HBA.out _).size b7)
                    clear b7
                    go_wp2_with fail
                    exact ⟨⟨q + 1, by omega, by go_num, ⟨_, rfl, HST.out.symm⟩, HB7.out⟩, by simp [intOf]; omega⟩
                  · have hkq : keyEqB n a m kk ka kb sx kw = false := by rw [keyEqB_iff]; exact decide_eq_false hkey
                    rw [show decide ((⟨n, a, sx, m⟩ : KeyP) = ⟨kk, ka, kw, kb⟩) = false from decide_eq_false hkey] at HST
                    clear hkey
                    go_wp2_with fail
                    exact ⟨⟨q + 1, by omega, by go_num, ⟨_, rfl, HST.out.symm⟩, HBA.out _⟩, by simp [intOf]; omega⟩
                · go_wp2_with fail
                  exact ⟨⟨q + 1, by omega, by go_num, ⟨_, rfl, HST.out.symm⟩, HBA.out _⟩, by simp [intOf]; omega⟩
              · obtain rfl : q = t.length := by omega
                rw [List.take_of_length_le (Nat.le_refl _)] at hBq
                obtain ⟨va', vc', hv, hget⟩ := (H3.out.rows.below hb).get
                rw [rowsT_len] at hv
                cases hv
                obtain ⟨bv, bj, cj, rfl, hbv, cv, hbj, htj⟩ := hget j _ (rowsT_get T ⟨kk, ka, kw, kb⟩ (by omega))
                rw [rowT_len] at cv
                have e1 := htj y _ (rowT_get T ⟨kk, ka, kw, kb⟩ j hy75)
                have hbrl : br < wr.heap.size := Nat.lt_of_lt_of_le hbr.2 hb.size
                have e2 := (HX.out.same (hb.block br hbr.2)) y _ (rowT_get T ⟨kk, ka, kw, kb⟩ (j + 1) hy75)
                have HB2 := Lib.hid hb
                have j2 : (j : Int) < (j : Int) + 1 := by omega
                clear hget htj hb
                cases B
                · rw [saidH_stays HTJ.out hBq.symm] at e2
                  generalize saidH T ⟨kk, ka, kw, kb⟩ j (y : Int) = xs at e1 e2
                  have x1 := fun X : InC (Bel wr) => X.cell e1
                  have x2 := fun X : InC (Bel wr) => X.cell e2
                  have x3 := fun X : InC (Bel wr) => X.cell cv
                  clear hBq
                  go_wp2_with fail
                  refine wp_region_in (S := Bel wr) (by kernel_rfl) (by kernel_rfl) (bel_drew (Below.refl _ wr)) (fun hne => ?_)
                  repeat (go_big_quiet_step (fail))
                  refine wpQuiet_nil ?_
                  rintro _ ⟨X, rfl⟩
                  go_wp2_with fail
                  exact ⟨⟨y + 1, by omega, by go_num, HB2.out.trans (X.ok.mono HB2.out.size)⟩, by simp [intOf]; omega⟩
                · clear hBq
                  go_wp2_with fail
                  refine wp_region_in (S := Bel wr) (by kernel_rfl) (by kernel_rfl) (bel_drew (Below.refl _ wr)) (fun hne => ?_)
                  repeat (go_big_quiet_step (fail))
                  refine wpQuiet_nil ?_
                  rintro _ ⟨X, rfl⟩
                  go_wp2_with fail
                  exact ⟨⟨y + 1, by omega, by go_num, HB2.out.trans (X.ok.mono HB2.out.size)⟩, by simp [intOf]; omega⟩
          · obtain rfl : y = 75 := by omega
            have h4 := fun o : Obj => H3.out.below (HB.out.alloc HB.out.size o)
            have hrw : ∀ o : Obj, (kx + 1 ≤ br ∧ br < (wr.alloc o).heap.size) ∧ Apart (.slice va (j + 1) vc) br ∧ ¬ (g1.foot pb br) ∧ textsIn (wr.alloc o) br (rowT T ⟨kk, ka, kw, kb⟩ (j + 1)) := fun o =>
              ⟨⟨hkbr, Nat.lt_of_lt_of_le hbr.2 (HB.out.alloc HB.out.size o).size⟩, hap, hnf, HX.out.same ((HB.out.alloc HB.out.size o).block br hbr.2)⟩
            have hFl : ∀ o : Obj, ∀ c, g1.foot pb c → c < (wr.alloc o).heap.size := fun o c h => (h4 o).p.at'.lt c h
            have hzz : ∀ o : Obj, kx + 1 ≤ (wr.alloc o).heap.size := fun o => by have := (h4 o).fr.size; omega
            have H4 := Lib.hid h4
            have HRW := Lib.hid hrw
            have HFL := Lib.hid hFl
            have HZZ := Lib.hid hzz
            clear h4 hrw hFl hzz
            go_wp2_with (at_builtin; refine appRowF rfl _ _ rfl (kx + 1) (rowsT T ⟨kk, ka, kw, kb⟩ (j + 1)) (g1.foot pb) _ rfl (H4.out _).rows wr.heap.size rfl (rowT T ⟨kk, ka, kw, kb⟩ (j + 1)) br cr (by simp [rowT_len]) (HRW.out _) (HFL.out _) (by rw [rowsT_len]; omega) (HZZ.out _) ?_; intro v6 w6 hR hF hv6; have H6 := Lib.hid ((H4.out _).more hR hF hv6); clear hR hF hv6)
            exact ⟨⟨j + 1, by omega, by go_num, _, _, H6.out⟩, by simp [intOf]; omega⟩
      · obtain rfl : j = T.length := by omega
        have hget := HGET.out
        generalize wr = w8 at *
        have hTT : T.take T.length = T := List.take_of_length_le (Nat.le_refl _)
        have hPP := hP.p
        rw [hTT] at hPP
        have hgo := hP.gone
        have hrow : ∀ X, Below w8.heap.size w8 X → ∀ a, a < T.length + 1 → ∃ bv bj cj, va = some ⟨bv, 0, none⟩ ∧ bv < X.heap.size ∧ X.cell? ⟨bv, a, none⟩ = some (.slice (some ⟨bj, 0, none⟩) 75 cj) ∧ bj < X.heap.size ∧ textsIn X bj (rowT T ⟨kk, ka, kw, kb⟩ a) := fun X hX a ha => by
          obtain ⟨bv, bj, cj, e, h1, h2, h3, h4⟩ := hget a _ (rowsT_get T ⟨kk, ka, kw, kb⟩ ha)
          rw [rowT_len] at h2
          exact ⟨bv, bj, cj, e, Nat.lt_of_lt_of_le h1 hX.size, below_cell hX h1 h2, Nat.lt_of_lt_of_le h3 hX.size, h4.same (hX.block bj h3)⟩
        have hkx : ∀ X, Below w8.heap.size w8 X → X.heap[kx]? = some (.cells #[.int .i64 kk, .int .i64 ka, .string kw, .int .i64 kb] 29 (0, 0)) := fun X hX =>
          (hX.block kx (by have := hP.fr.size; omega)).trans ((hP.fr.block kx (by omega) (by omega)).trans HKZ.out)
        have b08 := bw hP
        have HROW := Lib.hid hrow
        have HKX := Lib.hid hkx
        have HPP := Lib.hid hPP
        have B08 := Lib.hid b08
        clear hP hget HGET hrow hkx hPP hTT b08 bw HS0 HT HKZ
        go_wp2_with fail
        go_loopw [19] (fun i X => ∃ a : Nat, a ≤ T.length + 1 ∧ i = .int .i64 a ∧ Below w8.heap.size w8 X) (fun i _ => T.length + 1 - (intOf i).toNat)
        case atStart => exact ⟨0, Nat.zero_le _, rfl, Below.refl _ _⟩
        case round =>
          obtain ⟨a, ha, rfl, hb⟩ := hrel
          by_cases hlt : a < T.length + 1
          · have a0 : (0 : Int) ≤ (a : Int) := by omega
            have a1 : (a : Int) < (T.length : Int) + 1 := by omega
            have CR := Lib.hid (strow_any ⟨kk, ka, kw, kb⟩ a kx pb ⟨[], [], 27⟩ T s g wr (HPP.out.below hb) (HKX.out wr hb) QB.out (by rw [hgo]; omega) (by omega))
            have HB := Lib.hid hb
            clear hb
            go_wp2_with fail
            refine CR.out.mono ?_
            rintro e X9 ⟨ba, ca, rfl, hba, htx, b9⟩
            have h9 := below_trans HB.out HB.out.size b9
            have CP := Lib.hid (pieces_is ⟨kk, ka, kw, kb⟩ a pb 0 ⟨[], [], 27⟩ T s g X9 (HPP.out.below h9) QB.out (by rw [hgo]; omega) (by omega))
            have kxb := HKX.out X9 h9
            have k0 : X9.cell? ⟨kx, 0, none⟩ = some (.int .i64 kk) := by simp [World.cell?, kxb]
            have k1 : X9.cell? ⟨kx, 1, none⟩ = some (.int .i64 ka) := by simp [World.cell?, kxb]
            have k2 : X9.cell? ⟨kx, 2, none⟩ = some (.string kw) := by simp [World.cell?, kxb]
            have k3 : X9.cell? ⟨kx, 3, none⟩ = some (.int .i64 kb) := by simp [World.cell?, kxb]
            have hkl : kx < X9.heap.size := lt_of_block kxb
            have H9 := Lib.hid h9
            have HTX := Lib.hid htx
            clear h9 htx b9 kxb CR HB
            go_wp2_with fail
            refine CP.out.mono ?_
            rintro e X10 ⟨v10, L, rfl, hL, hLB, hLl, hown, b10⟩
            obtain ⟨po, pc, rfl, hpt⟩ := ownsRow_pcs hown
            have H10 := Lib.hid (below_trans H9.out H9.out.size b10)
            have hba2 := Nat.lt_of_lt_of_le hba.2 b10.size
            have HT10 := Lib.hid (HTX.out.same (b10.block ba hba.2))
            have HPT := Lib.hid hpt
            have HL' := Lib.hid hL
            have HLB := Lib.hid hLB
            clear hown hpt hL hLB b10 CP k0 k1 k2 k3 HTX H9
            go_wp2_with fail
            obtain ⟨c24, hc24⟩ : ∃ c24, c24 = X10.heap.size := ⟨_, rfl⟩
            rw [← hc24]
            have HC24 := Lib.hid hc24
            clear hc24
            go_loopw [25] (fun i X => ∃ q : Nat, q ≤ L.length ∧ i = .int .i64 q ∧ X.heap[c24]? = some (.cells #[.int .i64 (lastP L q).fr, .int .i64 (lastP L q).to, .string (lastP L q).val] 52 (0, 0)) ∧ Below X10.heap.size X10 X) (fun i _ => L.length - (intOf i).toNat)
            case atStart => exact ⟨0, Nat.zero_le _, rfl, by rw [HC24.out]; exact heap_alloc_new _ _, (Below.refl _ _).alloc (Nat.le_refl _) _⟩
            case round =>
              obtain ⟨q, hq, rfl, hbx, hb⟩ := hrel
              by_cases hql : q < L.length
              · obtain ⟨p, hp⟩ : ∃ p, L[q]? = some p := ⟨_, List.getElem?_eq_getElem hql⟩
                have hgood := HL'.out.canon.good p (List.mem_of_getElem? hp)
                have hpB := HLB.out p (List.mem_of_getElem? hp)
                have hnx : lastP L (q + 1) = p := by unfold lastP; rw [if_neg (by omega), Nat.add_sub_cancel, hp]; rfl
                have hpr : 0 < q → (lastP L q).to ≤ p.fr ∧ ((lastP L q).to = p.fr → (lastP L q).val ≠ p.val) := fun h0 => by
                  obtain ⟨q', rfl⟩ : ∃ q', q = q' + 1 := ⟨q - 1, by omega⟩
                  obtain ⟨p0, hp0⟩ : ∃ p0, L[q']? = some p0 := ⟨_, List.getElem?_eq_getElem (by omega)⟩
                  have e : lastP L (q' + 1) = p0 := by unfold lastP; rw [if_neg (by omega), Nat.add_sub_cancel, hp0]; rfl
                  rw [e]; exact HL'.out.canon.two hp0 hp
                obtain ⟨pk, rfl, d0, d1, d2⟩ := (HPT.out.below hb) q _ hp
                obtain ⟨f, t, u⟩ := p
                simp only at d0 d1 d2 hpr
                generalize hp0 : lastP L q = p0 at *
                obtain ⟨f0, t0, u0⟩ := p0
                simp only at hbx hpr
                have l0 : wr.cell? ⟨c24, 0, none⟩ = some (.int .i64 f0) := by simp [World.cell?, hbx]
                have l1 : wr.cell? ⟨c24, 1, none⟩ = some (.int .i64 t0) := by simp [World.cell?, hbx]
                have l2 : wr.cell? ⟨c24, 2, none⟩ = some (.string u0) := by simp [World.cell?, hbx]
                have z0 : wr.frozen? ⟨c24, 0, none⟩ = false := by simp [World.frozen?, hbx]
                have z1 : wr.frozen? ⟨c24, 1, none⟩ = false := by simp [World.frozen?, hbx]
                have z2 : wr.frozen? ⟨c24, 2, none⟩ = false := by simp [World.frozen?, hbx]
                have hcl : c24 < wr.heap.size := lt_of_block hbx
                have hu0 : u.size ≠ 0 := hgood.2
                have hrt : rightB f t = true := by have := hpB; unfold pcB at this; simp at this; exact this.1
                have HR := fun X => right_any f t X
                rw [hrt] at HR
                have HR := Lib.hid HR
                have hul : u.toList.isEmpty = false := by
                  cases e : u.toList with
                  | nil => exact absurd (by rw [ByteArray.toList_eq] at e; simpa using congrArg List.length e) hu0
                  | cons x l => rfl
                have q0 : (0 : Int) ≤ (q : Int) := by omega
                have q1 : (q : Int) < (L.length : Int) := by omega
                have HB := Lib.hid hb
                have HBX := Lib.hid hbx
                have HNX := Lib.hid hnx
                have HPR := Lib.hid hpr
                clear hb hbx hnx hpr hp hgood hpB hrt hp0
                have hb8 : ∀ o, Below X10.heap.size X10 (wr.alloc o) := fun o => HB.out.alloc HB.out.size o
                have HB8 := Lib.hid hb8
                have hbx8 : ∀ o, (wr.alloc o).heap[c24]? = some (.cells #[.int .i64 f0, .int .i64 t0, .string u0] 52 (0, 0)) := fun o => block_alloc HBX.out o
                have HBX8 := Lib.hid hbx8
                clear hb8 hbx8
                go_wp2_with fail
                refine (HR.out _).mono ?_
                rintro e w7 ⟨rfl, b7⟩
                have h7 := below_trans (HB8.out _) (HB8.out _).size b7
                have x7 := (b7.block c24 (by simp; omega)).trans (HBX8.out _)
                have n7 : ∀ i, (w7.cell? ⟨wr.heap.size, i, none⟩) = #[.int .i64 f, .int .i64 t, .string u][i]? := fun i => (World.cell?_of_block (a := ⟨wr.heap.size, i, none⟩) (b7.block wr.heap.size (by simp))).trans (block_cell (block_alloc_new _ _) i)
                have m0 := n7 0
                have m1 := n7 1
                have m2 := n7 2
                simp at m0 m1 m2
                have l0 : w7.cell? ⟨c24, 0, none⟩ = some (.int .i64 f0) := by simp [World.cell?, x7]
                have l1 : w7.cell? ⟨c24, 1, none⟩ = some (.int .i64 t0) := by simp [World.cell?, x7]
                have l2 : w7.cell? ⟨c24, 2, none⟩ = some (.string u0) := by simp [World.cell?, x7]
                have z0 : w7.frozen? ⟨c24, 0, none⟩ = false := by simp [World.frozen?, x7]
                have z1 : w7.frozen? ⟨c24, 1, none⟩ = false := by simp [World.frozen?, x7]
                have z2 : w7.frozen? ⟨c24, 2, none⟩ = false := by simp [World.frozen?, x7]
                have hc7 : c24 < w7.heap.size := lt_of_block x7
                have hw7 : wr.heap.size < w7.heap.size := by have := b7.size; simp at this; omega
                have H7 := Lib.hid h7
                have X7 := Lib.hid x7
                clear h7 x7 n7 b7
                obtain ⟨y1, y2⟩ := setPc H7.out (by rw [HC24.out]; exact Nat.le_refl _) X7.out (.int .i64 f) (.int .i64 t) (.string u)
                have Y1 := Lib.hid y1
                have Y2 := Lib.hid y2
                clear y1 y2
                by_cases hq0 : q = 0
                · have hqn : ¬ (0 : Int) < (q : Int) := by omega
                  have hqm : ¬ 0 < q := by omega
                  clear hq0
                  go_wp2_with fail
                  exact ⟨⟨q + 1, by omega, by go_num, by rw [HNX.out]; exact Y2.out, Y1.out⟩, by simp [intOf]; omega⟩
                · obtain ⟨p1, p2⟩ := HPR.out (by omega)
                  have hqp : (0 : Int) < (q : Int) := by omega
                  have hqm : 0 < q := by omega
                  clear hq0
                  by_cases htf : t0 = f
                  · have hne : (u0.toList == u.toList) = false := by
                      have : ¬ u0.toList = u.toList := fun e => p2 htf (bytes_ext (by rw [← ByteArray.toList_eq, ← ByteArray.toList_eq]; exact e))
                      simpa using this
                    clear p2
                    go_wp2_with fail
                    exact ⟨⟨q + 1, by omega, by go_num, by rw [HNX.out]; exact Y2.out, Y1.out⟩, by simp [intOf]; omega⟩
                  · clear p2
                    go_wp2_with fail
                    exact ⟨⟨q + 1, by omega, by go_num, by rw [HNX.out]; exact Y2.out, Y1.out⟩, by simp [intOf]; omega⟩
              · obtain rfl : q = L.length := by omega
                have h11 := below_trans H10.out H10.out.size hb
                have hsz11 := hb.size
                have hba3 := Nat.lt_of_lt_of_le hba2 hsz11
                have ht11 := HT10.out.same (hb.block ba hba2)
                have hp11 := HPT.out.below hb
                have H11 := Lib.hid h11
                have HT11 := Lib.hid ht11
                have HP11 := Lib.hid hp11
                clear h11 ht11 hp11 hbx hb
                generalize wr = X11 at *
                go_wp2_with fail
                go_loopw [27] (fun i X => ∃ y : Nat, y ≤ 75 ∧ i = .int .i64 y ∧ Below X11.heap.size X11 X) (fun i _ => 75 - (intOf i).toNat)
                case atStart => exact ⟨0, Nat.zero_le _, rfl, Below.refl _ _⟩
                case round =>
                  obtain ⟨y, hy, rfl, hb⟩ := hrel
                  by_cases hy75 : y < 75
                  · have y0 : (0 : Int) ≤ (y : Int) := by omega
                    have y1 : (y : Int) < 75 := by omega
                    have hw := below_trans H11.out H11.out.size hb
                    obtain ⟨bv, bj, cj, rfl, hbv, cv, hbj, htj⟩ := HROW.out wr hw a hlt
                    have e1 := htj y _ (rowT_get T ⟨kk, ka, kw, kb⟩ a hy75)
                    have e2 := (HT11.out.same (hb.block ba hba3)) y _ (rowT_get T ⟨kk, ka, kw, kb⟩ a hy75)
                    have hpv := pieceVal_is HL'.out (y : Int)
                    generalize saidH T ⟨kk, ka, kw, kb⟩ a (y : Int) = xs at e1 e2 hpv
                    have x1 := fun X : InC (Bel wr) => X.cell e1
                    have x2 := fun X : InC (Bel wr) => X.cell e2
                    have x3 := fun X : InC (Bel wr) => X.cell cv
                    have HPV := Lib.hid hpv
                    have HB := Lib.hid hb
                    have hbl : ba < wr.heap.size := Nat.lt_of_lt_of_le hba3 hb.size
                    have HE2 := Lib.hid e2
                    clear hpv hb hw htj
                    go_wp2_with fail
                    refine wp_region_in (S := Bel wr) (by kernel_rfl) (by kernel_rfl) (bel_drew (Below.refl _ wr)) (fun hne => ?_)
                    repeat (go_big_quiet_step (fail))
                    refine wpQuiet_nil ?_
                    rintro _ ⟨X, rfl⟩
                    have hb12 := HB.out.trans (X.ok.mono HB.out.size)
                    have e3 := X.cell HE2.out
                    have hbl2 : ba < X.w.heap.size := Nat.lt_of_lt_of_le hbl X.ok.size
                    have HB12 := Lib.hid hb12
                    have HE3 := Lib.hid e3
                    clear x1 x2 x3 hb12 e3 e1 e2 cv HE2 HB
                    generalize X.w = X12 at *
                    go_wp2_with fail
                    go_loopw [28, 29] (fun vv i X => ∃ q : Nat, q ≤ L.length ∧ i = .int .i64 q ∧ (∃ x, vv = .string x ∧ x = pieceVal (L.take q) (y : Int)) ∧ Below X12.heap.size X12 X) (fun _ i _ => L.length - (intOf i).toNat)
                    case atStart => exact ⟨0, Nat.zero_le _, rfl, ⟨_, rfl, rfl⟩, Below.refl _ _⟩
                    case round =>
                      obtain ⟨q, hq, rfl, ⟨x, rfl, hx⟩, hb⟩ := hrel
                      by_cases hql : q < L.length
                      · obtain ⟨p, hp⟩ : ∃ p, L[q]? = some p := ⟨_, List.getElem?_eq_getElem hql⟩
                        have hb' := below_trans HB12.out HB12.out.size hb
                        obtain ⟨pk, rfl, d0, d1, d2⟩ := (HP11.out.below hb') q _ hp
                        have hst := pieceVal_take hp (y : Int)
                        obtain ⟨f, t, u⟩ := p
                        simp only at d0 d1 d2 hst
                        rw [← hx] at hst
                        have HH := Lib.hid fun X => has_any f t (y : Int) X
                        have hsp : hasB f t (y : Int) = decide (f ≤ (y : Int) ∧ (y : Int) < t) := rfl
                        have q0 : (0 : Int) ≤ (q : Int) := by omega
                        have q1 : (q : Int) < (L.length : Int) := by omega
                        have HB := Lib.hid hb
                        have hpl : pk < wr.heap.size := World.block_lt_of_cell? wr _ d0
                        clear hb hb' hp hx
                        by_cases hh : f ≤ (y : Int) ∧ (y : Int) < t
                        · rw [if_pos hh] at hst
                          rw [decide_eq_true hh] at hsp
                          rw [hsp] at HH
                          have HST := Lib.hid hst
                          clear hst hsp hh
                          go_wp2_with fail
                          refine (HH.out _).mono ?_
                          rintro e w7 ⟨rfl, b7⟩
                          have d2 := below_cell b7 hpl d2
                          have hpl7 := Nat.lt_of_lt_of_le hpl b7.size
                          have HB7 := Lib.hid (below_trans HB.out HB.out.size b7)
                          clear b7 d0 d1
                          go_wp2_with fail
                          exact ⟨⟨q + 1, by omega, by go_num, ⟨_, rfl, HST.out.symm⟩, HB7.out⟩, by simp [intOf]; omega⟩
                        · rw [if_neg hh] at hst
                          rw [decide_eq_false hh] at hsp
                          rw [hsp] at HH
                          have HST := Lib.hid hst
                          clear hst hsp hh
                          go_wp2_with fail
                          refine (HH.out _).mono ?_
                          rintro e w7 ⟨rfl, b7⟩
                          have HB7 := Lib.hid (below_trans HB.out HB.out.size b7)
                          clear b7 d0 d1 d2
                          go_wp2_with fail
                          exact ⟨⟨q + 1, by omega, by go_num, ⟨_, rfl, HST.out.symm⟩, HB7.out⟩, by simp [intOf]; omega⟩
                      · obtain rfl : q = L.length := by omega
                        rw [List.take_of_length_le (Nat.le_refl _), HPV.out] at hx
                        subst hx
                        have e4 := below_cell hb hbl2 HE3.out
                        have hbl4 := Nat.lt_of_lt_of_le hbl2 hb.size
                        have HB := Lib.hid (below_trans HB12.out HB12.out.size hb)
                        clear hb
                        go_wp2_with fail
                        exact ⟨⟨y + 1, by omega, by go_num, HB.out⟩, by simp [intOf]; omega⟩
                  · obtain rfl : y = 75 := by omega
                    have HB := Lib.hid (below_trans H11.out H11.out.size hb)
                    clear hb
                    go_wp2_with fail
                    exact ⟨⟨a + 1, by omega, by go_num, HB.out⟩, by simp [intOf]; omega⟩
          · obtain rfl : a = T.length + 1 := by omega
            have HB := Lib.hid hb
            clear hb
            generalize wr = W12 at *
            have kxb := HKX.out W12 HB.out
            have k0 : W12.cell? ⟨kx, 0, none⟩ = some (.int .i64 kk) := by simp [World.cell?, kxb]
            have k1 : W12.cell? ⟨kx, 1, none⟩ = some (.int .i64 ka) := by simp [World.cell?, kxb]
            have k2 : W12.cell? ⟨kx, 2, none⟩ = some (.string kw) := by simp [World.cell?, kxb]
            have k3 : W12.cell? ⟨kx, 3, none⟩ = some (.int .i64 kb) := by simp [World.cell?, kxb]
            have hkl : kx < W12.heap.size := lt_of_block kxb
            have CN := fun X (hX : Below W12.heap.size W12 X) => pnow_any pb 0 ⟨[], [], 27⟩ s g X (HPP.out.below (below_trans HB.out HB.out.size hX)).at'
            rw [HPP.out.now] at CN
            have CE := fun X (hX : Below W12.heap.size W12 X) => ever_is ⟨kk, ka, kw, kb⟩ 0 T.length 0 75 pb 0 ⟨[], [], 27⟩ T s g X (HPP.out.below (below_trans HB.out HB.out.size hX)) QB.out (by decide) (by rw [hgo]; exact Int.le_refl _) (Nat.zero_le _) (Nat.le_refl _)
            rw [show ((0 : Nat) : Int) = 0 from rfl] at CE
            have CN := Lib.hid CN
            have CE := Lib.hid CE
            clear kxb
            have keep : ∀ {X Y : World}, (X.cell? ⟨kx, 0, none⟩ = some (.int .i64 kk) ∧ X.cell? ⟨kx, 1, none⟩ = some (.int .i64 ka) ∧ X.cell? ⟨kx, 2, none⟩ = some (.string kw) ∧ X.cell? ⟨kx, 3, none⟩ = some (.int .i64 kb) ∧ kx < X.heap.size ∧ Below W12.heap.size W12 X) → Below X.heap.size X Y → (Y.cell? ⟨kx, 0, none⟩ = some (.int .i64 kk) ∧ Y.cell? ⟨kx, 1, none⟩ = some (.int .i64 ka) ∧ Y.cell? ⟨kx, 2, none⟩ = some (.string kw) ∧ Y.cell? ⟨kx, 3, none⟩ = some (.int .i64 kb) ∧ kx < Y.heap.size ∧ Below W12.heap.size W12 Y) := fun h hb =>
              ⟨below_cell hb h.2.2.2.2.1 h.1, below_cell hb h.2.2.2.2.1 h.2.1, below_cell hb h.2.2.2.2.1 h.2.2.1, below_cell hb h.2.2.2.2.1 h.2.2.2.1, Nat.lt_of_lt_of_le h.2.2.2.2.1 hb.size, below_trans h.2.2.2.2.2 h.2.2.2.2.2.size hb⟩
            go_wp2_with fail
            go_region_held3 (fun X => X.cell? ⟨kx, 0, none⟩ = some (.int .i64 kk) ∧ X.cell? ⟨kx, 1, none⟩ = some (.int .i64 ka) ∧ X.cell? ⟨kx, 2, none⟩ = some (.string kw) ∧ X.cell? ⟨kx, 3, none⟩ = some (.int .i64 kb) ∧ kx < X.heap.size ∧ Below W12.heap.size W12 X)
              (first | exact ⟨k0, k1, k2, k3, hkl, (Below.refl _ _).drew⟩ | exact hS2 | exact hS1)
              (first
                | (go_at_call 16; ((with_reducible refine (CN.out _ (Below.refl _ _).drew).mono ?_); rintro e x1 ⟨rfl, rfl⟩); have hS1 := keep ⟨k0, k1, k2, k3, hkl, (Below.refl _ _)⟩ ((Below.refl _ W12).drew))
                | (go_at_call 15; ((with_reducible refine (CE.out _ (Below.refl _ _).drew).mono ?_); rintro e x2 ⟨v2, S, rfl, hE, hown, b2⟩); have hS2 := keep hS1 b2))
            have HSN : Hid (S.length ≤ 9223372036854775807) := Lib.hid (by
              rcases hown.2 with ⟨_, h0⟩ | ⟨_, _, _, _, _, _, h1, h2, _⟩
              · omega
              · unfold maxLen at h2; omega)
            obtain ⟨so, sc, rfl, _, hsc⟩ := ownsRow_slice hown
            have B2 := Lib.hid (below_trans HB.out HB.out.size hS2.2.2.2.2.2)
            have hSl : ∀ X, Below x2.heap.size x2 X → ∀ i x, S[i]? = some x → ∃ b, so = some ⟨b, 0, none⟩ ∧ b < X.heap.size ∧ X.cell? ⟨b, i, none⟩ = some (.string x) := fun X hX i x hx => by
              obtain ⟨b, e, hc⟩ := hsc i (.string x) (by rw [List.getElem?_map, hx]; rfl)
              exact ⟨b, e, Nat.lt_of_lt_of_le (World.block_lt_of_cell? x2 _ hc) hX.size, below_cell hX (World.block_lt_of_cell? x2 _ hc) hc⟩
            have HSL := Lib.hid hSl
            have HE := Lib.hid hE
            have hmm := @run_makeMap Tryz.prog
            obtain ⟨mb, hmb⟩ : ∃ mb, mb = x2.heap.size := ⟨_, rfl⟩
            obtain ⟨W13, hW13⟩ : ∃ W13, W13 = x2.alloc (.map #[] 0) := ⟨_, rfl⟩
            have ho13 : W13.ownsMap Tryz.prog 9 boolR mb 0 (.map []) := by rw [hW13, hmb]; exact World.ownsMap_made _ _ _ _
            have hb13 : Below x2.heap.size x2 W13 := by rw [hW13]; exact (Below.refl _ _).alloc (Nat.le_refl _) _
            have hSn : S.length ≤ 9223372036854775807 := HSN.out
            have HMB := Lib.hid hmb
            have HW13 := Lib.hid hW13
            have HO13 := Lib.hid ho13
            have HB13 := Lib.hid hb13
            clear hS1 hown hSl hsc hE hmb hW13 ho13 hb13 k0 k1 k2 k3 CN CE keep b2
            go_wp2_with fail
            rw [← HW13.out, ← HMB.out]
            go_loopw [33] (fun i X => ∃ a : Nat, a ≤ T.length + 1 ∧ i = .int .i64 a ∧ ∃ (n : Nat) (M : List ByteArray), HadIs X mb n M ∧ (∀ x, x ∈ M ↔ everBelow T ⟨kk, ka, kw, kb⟩ a 0 x) ∧ n ≤ a * 75 ∧ Below x2.heap.size x2 X) (fun i _ => T.length + 1 - (intOf i).toNat)
            case atStart => exact ⟨0, Nat.zero_le _, rfl, 0, [], ⟨List.nodup_nil, _, HO13.out, mapOf_nil⟩, fun x => ⟨(fun h => by cases h), fun h => absurd h (everBelow_zero T _ x)⟩, Nat.zero_le _, HB13.out⟩
            case round =>
              obtain ⟨a, ha, rfl, n, M, hM, hmem, hn, hb⟩ := hrel
              by_cases hlt : a < T.length + 1
              · have a0 : (0 : Int) ≤ (a : Int) := by omega
                have a1 : (a : Int) < (T.length : Int) + 1 := by omega
                have HM := Lib.hid hM
                have HMEM := Lib.hid hmem
                have HBX := Lib.hid hb
                clear hM hmem hb
                go_wp2_with fail
                go_loopw [34] (fun i X => ∃ y : Nat, y ≤ 75 ∧ i = .int .i64 y ∧ ∃ (n : Nat) (M : List ByteArray), HadIs X mb n M ∧ (∀ x, x ∈ M ↔ everBelow T ⟨kk, ka, kw, kb⟩ a y x) ∧ n ≤ a * 75 + y ∧ Below x2.heap.size x2 X) (fun i _ => 75 - (intOf i).toNat)
                case atStart => exact ⟨0, Nat.zero_le _, rfl, n, M, HM.out, HMEM.out, hn, HBX.out⟩
                case round =>
                  obtain ⟨y, hy, rfl, n, M, hM, hmem, hn, hb⟩ := hrel
                  by_cases hy75 : y < 75
                  · have y0 : (0 : Int) ≤ (y : Int) := by omega
                    have y1 : (y : Int) < 75 := by omega
                    obtain ⟨bv, bj, cj, rfl, hbv, cv, hbj, htj⟩ := HROW.out wr (below_trans B2.out B2.out.size hb) a hlt
                    have e1 := htj y _ (rowT_get T ⟨kk, ka, kw, kb⟩ a hy75)
                    have hst := everBelow_step T ⟨kk, ka, kw, kb⟩ a hy75
                    have hsz := said_len (fun l hl => (okL_iff.1 (HOK.out l hl)).2) ⟨kk, ka, kw, kb⟩ a (y : Int)
                    generalize saidH T ⟨kk, ka, kw, kb⟩ a (y : Int) = x at e1 hst hsz
                    have hszm : x.size ≤ maxLen := by unfold maxLen; omega
                    have HSZ := Lib.hid hszm
                    have HST := Lib.hid hst
                    have HMEM := Lib.hid hmem
                    have HB2 := Lib.hid hb
                    clear htj hst hszm hmem hsz
                    rcases Nat.eq_zero_or_pos x.size with hx0 | hx0
                    · have hxe : x.toList.isEmpty = true := by rw [size0 hx0, ByteArray.toList_eq]; rfl
                      have hmem : ∀ z, z ∈ M ↔ everBelow T ⟨kk, ka, kw, kb⟩ a (y + 1) z := fun z => by
                        rw [HST.out, HMEM.out]
                        exact ⟨.inr, fun h => h.elim (fun ⟨h1, h2⟩ => absurd (by rw [h2]; exact hx0) h1) id⟩
                      have HM2 := Lib.hid hmem
                      have HM := Lib.hid hM
                      clear hx0 hb hM hmem
                      go_wp2_with fail
                      exact ⟨⟨y + 1, by omega, by go_num, n, M, HM.out, HM2.out, by omega, HB2.out⟩, by simp [intOf]; omega⟩
                    · have hxe : x.toList.isEmpty = false := by
                        cases e : x.toList with
                        | nil => exact absurd (by rw [ByteArray.toList_eq] at e; simpa using congrArg List.length e : x.size = 0) (by omega)
                        | cons _ _ => rfl
                      obtain ⟨D, hown, hD⟩ := hM.own
                      obtain ⟨L', n', hD', hm'⟩ := had_put hM.nod hD x
                      have hmem : ∀ z, z ∈ L' ↔ everBelow T ⟨kk, ka, kw, kb⟩ a (y + 1) z := fun z => by
                        rw [HST.out, hm', HMEM.out]
                        exact ⟨fun h => h.elim (fun e => .inl ⟨by rw [e]; omega, e⟩) .inr, fun h => h.elim (fun e => .inl e.2) .inr⟩
                      have HM2 := Lib.hid hmem
                      have HD' := Lib.hid hD'
                      have HN' := Lib.hid n'
                      have HOW := Lib.hid hown
                      clear hx0 hb hM hmem hD hD' n' hm' hown
                      go_wp2_with (at_mapUpdate; refine wpList_mapUpdate_own _ rfl _ _ _ 57 rfl 9 4 strLaw Tryz.underlying57 boolR mb n D rfl HOW.out (by unfold maxLen; omega) _ _ _ rfl rfl (keyOf_str HSZ.out) boolD [] rfl ?_; intro w7 hown7 hgrow7)
                      have hb7 := HB2.out.grown hgrow7 HB2.out.size (fun k e => by cases e; rw [HMB.out]; exact Nat.le_refl _)
                      exact ⟨⟨y + 1, by omega, by go_num, n + 1, L', ⟨HN'.out, _, hown7, HD'.out⟩, HM2.out, by omega, hb7⟩, by simp [intOf]; omega⟩
                  · obtain rfl : y = 75 := by omega
                    have hmem2 := fun z => (hmem z).trans (everBelow_next T ⟨kk, ka, kw, kb⟩ a z)
                    have HM := Lib.hid hM
                    have HM2 := Lib.hid hmem2
                    have HB2 := Lib.hid hb
                    clear hM hmem hmem2 hb
                    go_wp2_with fail
                    exact ⟨⟨a + 1, by omega, by go_num, n, M, HM.out, HM2.out, by omega, HB2.out⟩, by simp [intOf]; omega⟩
              · obtain rfl : a = T.length + 1 := by omega
                have hSM : ∀ x, x ∈ S ↔ x ∈ M := fun x => by rw [HE.out.2, hmem, everBelow_all]
                have hlen := perm_nodup HE.out.1 hM.nod hSM
                have HM := Lib.hid hM
                have HSM := Lib.hid hSM
                have HLEN := Lib.hid hlen
                have HB14 := Lib.hid hb
                clear hM hmem hSM hlen hb
                generalize wr = W14 at *
                go_wp2_with fail
                go_loopw [35] (fun v X => ∃ i : Nat, i ≤ S.length ∧ v = .int .i64 i ∧ Below W14.heap.size W14 X) (fun v _ => S.length - (intOf v).toNat)
                case atStart => exact ⟨0, Nat.zero_le _, rfl, Below.refl _ _⟩
                case round =>
                  obtain ⟨i, hi, rfl, hb⟩ := hrel
                  by_cases hil : i < S.length
                  · obtain ⟨x, hx⟩ : ∃ x, S[i]? = some x := ⟨_, List.getElem?_eq_getElem hil⟩
                    obtain ⟨sb, rfl, hsb, c0⟩ := HSL.out wr (below_trans HB14.out HB14.out.size hb) i x hx
                    have hxM : x ∈ M := (HSM.out x).1 (List.mem_of_getElem? hx)
                    have hxs : x.size ≤ maxLen := by
                      obtain ⟨_, i', _, _, y', _, _, e⟩ := (HE.out.2 x).1 (List.mem_of_getElem? hx)
                      rw [← e]
                      have := said_len (fun l hl => (okL_iff.1 (HOK.out l hl)).2) ⟨kk, ka, kw, kb⟩ i' y'
                      unfold maxLen; omega
                    have hlk : ∀ X : InC (Bel wr), (Instr.lookup 57 (.map (some mb)) (.string x) false).run Tryz.prog X.w = .ok (.bool true) X.w := fun X =>
                      had_look ((HM.out.frame (F := fun _ => False) (Fr.new hb) (fun e => e)).frame (F := fun _ => False) (Fr.new X.ok) (fun e => e)) hxM hxs
                    have q0 := fun X : InC (Bel wr) => X.cell c0
                    have i0 : (0 : Int) ≤ (i : Int) := by omega
                    have i1 : (i : Int) < (S.length : Int) := by omega
                    have HB := Lib.hid hb
                    by_cases hz : i = 0
                    · have hzn : ¬ (0 : Int) < (i : Int) := by omega
                      have hzm : ¬ 0 < i := by omega
                      clear hb hx hxM hxs hz
                      go_wp2_with fail
                      refine wp_region_in (S := Bel wr) (by kernel_rfl) (by kernel_rfl) (bel_drew (Below.refl _ wr)) (fun hne => ?_)
                      repeat (go_big_quiet_step (fail))
                      refine wpQuiet_nil ?_
                      rintro _ ⟨X, rfl⟩
                      go_wp2_with fail
                      go_roundw
                      case rel =>
                        (repeat apply Exists.intro)
                        exact ⟨⟨i + 1, by omega, by go_num, HB.out.trans (X.ok.mono HB.out.size)⟩, rfl⟩
                      case measure => simp [intOf]; omega
                    · have hzn : (0 : Int) < (i : Int) := by omega
                      have hzm : 0 < i := by omega
                      obtain ⟨x', hx'⟩ : ∃ x', S[i - 1]? = some x' := ⟨_, List.getElem?_eq_getElem (by omega)⟩
                      obtain ⟨sb', e, _, c1⟩ := HSL.out wr (below_trans HB14.out HB14.out.size hb) (i - 1) x' hx'
                      cases e
                      have q1 := fun X : InC (Bel wr) => X.cell c1
                      have hlt2 : bLess x' x := by
                        obtain ⟨i1, e1⟩ := List.getElem?_eq_some_iff.1 hx'
                        obtain ⟨i2, e2⟩ := List.getElem?_eq_some_iff.1 hx
                        have := List.pairwise_iff_getElem.1 HE.out.1 (i - 1) i i1 i2 (by omega)
                        rw [e1, e2] at this; exact this
                      have hgq : Op.bytesLess x'.toList x.toList = true := by rw [ByteArray.toList_eq, ByteArray.toList_eq]; exact hlt2
                      have w1 : IntKind.i64.wrap ((i : Int) - 1) = (i : Int) - 1 := IntWalk.i64_in _ (by omega)
                      have w2 : (0 : Int) ≤ (i : Int) - 1 := by omega
                      have w3 : (i : Int) - 1 < (S.length : Int) := by omega
                      have w4 : ((i : Int) - 1).toNat = i - 1 := by omega
                      clear hb hx hxM hxs hz hlt2 hx'
                      go_wp2_with fail
                      refine wp_region_in (S := Bel wr) (by kernel_rfl) (by kernel_rfl) (bel_drew (Below.refl _ wr)) (fun hne => ?_)
                      repeat (go_big_quiet_step (fail))
                      refine wpQuiet_nil ?_
                      rintro _ ⟨X, rfl⟩
                      go_wp2_with fail
                      exact ⟨⟨i + 1, by omega, by go_num, HB.out.trans (X.ok.mono HB.out.size)⟩, by simp [intOf]; omega⟩
                  · obtain rfl : i = S.length := by omega
                    obtain ⟨D, hown, hD⟩ := (HM.out.frame (F := fun _ => False) (Fr.new hb) (fun e => e)).own
                    have hsd : Maps.size D = S.length := by rw [hD.size, HLEN.out]
                    have bf := below_trans B08.out B08.out.size (below_trans B2.out B2.out.size (below_trans HB14.out HB14.out.size hb))
                    have HOW := Lib.hid hown
                    have BF := Lib.hid bf
                    clear hown hD bf hb
                    go_wp2_with (at_len; refine wpList_len_own _ rfl _ 57 rfl 9 4 Tryz.underlying57 _ mb _ D rfl HOW.out ?_)
                    go_ret
                    exact ⟨rfl, BF.out⟩
  · go_enter Tryz.func3, Tryz.ntmps3
    go_wp2_with fail
    go_ret
    exact ⟨rfl, Below.refl _ _⟩
end Go.Proofs.YtacedfcckkpciaaGreatDoor
