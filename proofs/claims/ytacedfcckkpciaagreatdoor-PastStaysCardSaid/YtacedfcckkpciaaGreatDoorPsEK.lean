/- keep's first fact: what was said, and said otherwise (said). -/
import Derived.Test.YtacedfcckkpciaaGreatDoorPsAK
namespace Go.Proofs.YtacedfcckkpciaaGreatDoor
open Go.RowKit Go.Deep Go.Shelf Go.Sort Go.Maps

def k3 : KeyP := ⟨1, 3, ⟨#[]⟩, 0⟩
def sd1 : List OpP := [⟨k3, 0, 10, ⟨#[97]⟩⟩]
def sd2 : List OpP := [⟨k3, 5, 20, ⟨#[98]⟩⟩]
theorem sd1_ok : okL sd1 = true := by decide +kernel
theorem sd2_ok : okL sd2 = true := by decide +kernel
theorem k3_B : keyB k3 = true := by decide +kernel
theorem sd_v1 : saidH ([] ++ [sd1] ++ [sd2]) k3 1 7 = ⟨#[97]⟩ := by decide +kernel
theorem sd_v2 : saidH ([] ++ [sd1] ++ [sd2]) k3 2 7 = ⟨#[98]⟩ := by decide +kernel
theorem sd_said (t : Int) : saidH ([] ++ [sd1] ++ [sd2]) k3 2 t = if 5 ≤ t ∧ t < 20 then ⟨#[98]⟩ else if 0 ≤ t ∧ t < 10 then ⟨#[97]⟩ else ⟨#[]⟩ := by
  simp [saidH, saidL, sd1, sd2]
theorem sd_pieces : PiecesOf ([] ++ [sd1] ++ [sd2]) k3 2 [⟨0, 5, ⟨#[97]⟩⟩, ⟨5, 20, ⟨#[98]⟩⟩] where
  canon := ⟨fun p hp => by simp at hp; rcases hp with rfl | rfl <;> exact ⟨by decide, by decide⟩, by simp⟩
  cov t x := by
    rw [sd_said, Cov.cons, Cov.cons]
    have h0 : ¬ Cov [] t x := fun ⟨p, hp, _⟩ => by cases hp
    simp only [h0, or_false, Pc.has]
    by_cases h1 : 5 ≤ t ∧ t < 20
    · rw [if_pos h1]
      constructor
      · rintro (⟨h2, rfl⟩ | ⟨_, rfl⟩)
        · omega
        · exact ⟨by decide, rfl⟩
      · rintro ⟨_, rfl⟩; exact .inr ⟨h1, rfl⟩
    · rw [if_neg h1]
      by_cases h2 : 0 ≤ t ∧ t < 10
      · rw [if_pos h2]
        constructor
        · rintro (⟨_, rfl⟩ | ⟨h3, _⟩)
          · exact ⟨by decide, rfl⟩
          · exact absurd h3 h1
        · rintro ⟨_, rfl⟩; exact .inl ⟨by omega, rfl⟩
      · rw [if_neg h2]
        constructor
        · rintro (⟨h3, _⟩ | ⟨h3, _⟩)
          · omega
          · exact absurd h3 h1
        · rintro ⟨h3, rfl⟩; exact absurd rfl h3
theorem opsAt_one (V : World) (ty : TypeId) (o : OpP) : opsAt (V.alloc (.cells #[.int .i64 o.key.kind, .int .i64 o.key.a, .string o.key.word, .int .i64 o.key.b, .int .i64 o.fr, .int .i64 o.to, .string o.value] ty)) (some ⟨V.heap.size, 0, none⟩) [o] := by
  intro i o' hi
  match i, hi with
  | 0, hi =>
    simp at hi; subst hi
    refine ⟨V.heap.size, 0, rfl, fun j y h => ?_⟩
    have e : (opCells o)[j]? = #[.int .i64 o.key.kind, .int .i64 o.key.a, .string o.key.word, .int .i64 o.key.b, .int .i64 o.fr, .int .i64 o.to, .string o.value][j]? := by simp [opCells]
    rw [e] at h
    simpa using h
  | i + 1, hi => simp at hi
set_option maxRecDepth 100000 in
set_option maxHeartbeats 4000000 in
theorem said_any (w : World) (hg : PowTab w) : Calls Tryz.prog 6 #[] w fun e w' => e = .returned (.bool true) ∧ Below w.heap.size w w' := by
  have HG := Lib.hid hg
  clear hg
  go_enter Tryz.func6, Tryz.ntmps6
  go_wp2_with fail
  obtain ⟨W, hW⟩ : ∃ W, W = ((w.alloc (.cells #[.int .i64 0, .int .i64 0, .int .i64 0, .map none, .map none] 27)).alloc (.cells #[.int .i64 1, .int .i64 3, .string ⟨#[]⟩, .int .i64 0] 29)).alloc (.cells #[.int .i64 1, .int .i64 3, .string ⟨#[]⟩, .int .i64 0, .int .i64 0, .int .i64 10, .string ⟨#[97]⟩] 46) := ⟨_, rfl⟩
  rw [← hW]
  obtain ⟨pb, hpb⟩ : ∃ pb, pb = w.heap.size := ⟨_, rfl⟩
  rw [← hpb]
  have hs : W.heap.size = pb + 3 := by rw [hW, hpb]; simp
  have hpa : W.heap[pb]? = some (.cells (pcells ⟨[], [], 27⟩ 0 0 0 none none) 27 (0, 0)) := by
    rw [hW, hpb, Below.heap_alloc _ _ _ (by simp; omega), Below.heap_alloc _ _ _ (by simp)]
    exact heap_alloc_new _ _
  have hP := past_is_new (R := ⟨[], [], 27⟩) (po := 0) rfl hpa
  have hkk : W.heap[pb + 1]? = some (.cells #[.int .i64 1, .int .i64 3, .string ⟨#[]⟩, .int .i64 0] 29 (0, 0)) := by
    rw [hW, hpb, Below.heap_alloc _ _ _ (by simp)]
    have := heap_alloc_new (w.alloc (.cells #[.int .i64 0, .int .i64 0, .int .i64 0, .map none, .map none] 27)) (.cells #[.int .i64 1, .int .i64 3, .string ⟨#[]⟩, .int .i64 0] 29)
    simpa using this
  have bW : Below w.heap.size w W := by rw [hW]; exact (((Below.refl _ w).alloc (Nat.le_refl _) _).alloc (by simp) _).alloc (by simp; omega) _
  have ho : opsAt W (some ⟨pb + 1 + 1, 0, none⟩) sd1 := by
    intro i o hi
    match i, hi with
    | 0, hi =>
      simp [sd1] at hi; subst hi
      refine ⟨pb + 1 + 1, 0, rfl, fun j u hj => ?_⟩
      rw [hW, hpb]
      have : ∀ V : World, V.heap.size = w.heap.size + 1 + 1 → (V.alloc (.cells #[.int .i64 1, .int .i64 3, .string ⟨#[]⟩, .int .i64 0, .int .i64 0, .int .i64 10, .string ⟨#[97]⟩] 46)).cell? ⟨V.heap.size, j, none⟩ = some u := fun V _ => by
        have h7 : (opCells ⟨k3, 0, 10, ⟨#[97]⟩⟩)[j]? = #[.int .i64 1, .int .i64 3, .string ⟨#[]⟩, .int .i64 0, .int .i64 0, .int .i64 10, .string ⟨#[97]⟩][j]? := by simp [opCells, k3]
        rw [h7] at hj
        simpa using hj
      have h8 := this ((w.alloc (.cells #[.int .i64 0, .int .i64 0, .int .i64 0, .map none, .map none] 27)).alloc (.cells #[.int .i64 1, .int .i64 3, .string ⟨#[]⟩, .int .i64 0] 29)) (by simp)
      simpa using h8
    | i + 1, hi => simp [sd1] at hi
  have C1 := Lib.hid (commit_is (some ⟨pb + 1 + 1, 0, none⟩) 1 sd1 pb 0 ⟨[], [], 27⟩ [] _ _ W hP ho (fun b f e hf => by cases e; have := foot_new hf; omega) (HG.out.below bW) sd1_ok (by decide))
  have HBW := Lib.hid bW
  have HPB := Lib.hid hpb
  have HS := Lib.hid hs
  clear hW hP ho hpa bW hpb hs
  refine C1.out.mono ?_
  rintro e W2 ⟨s1, g1, rfl, P1, hgo1, F1, G1⟩
  have hkk2 := F1.keeps hkk (fun h => by have := foot_new h; omega)
  have k0 : W2.cell? ⟨pb + 1, 0, none⟩ = some (.int .i64 1) := by simp [World.cell?, hkk2]
  have k1 : W2.cell? ⟨pb + 1, 1, none⟩ = some (.int .i64 3) := by simp [World.cell?, hkk2]
  have k2 : W2.cell? ⟨pb + 1, 2, none⟩ = some (.string ⟨#[]⟩) := by simp [World.cell?, hkk2]
  have k4 : W2.cell? ⟨pb + 1, 3, none⟩ = some (.int .i64 0) := by simp [World.cell?, hkk2]
  have hp2 : pb + 1 < W2.heap.size := (Array.getElem?_eq_some_iff.1 hkk2).1
  have HP1 := Lib.hid P1
  have HK2 := Lib.hid hkk2
  have HF1 := Lib.hid F1
  have HG1 := Lib.hid G1
  have hG1 := Lib.hid hgo1
  clear hkk hkk2 P1 F1 G1 hgo1
  have B2 : Below w.heap.size w W2 := HBW.out.trans (HF1.out.below (fun k _ h => by rw [foot_new h, HPB.out]; exact Nat.le_refl _) (by rw [HS.out, HPB.out]; omega))
  have HB2 := Lib.hid B2
  clear B2
  go_wp2_with fail
  obtain ⟨V, hV⟩ : ∃ V, V = W2.alloc (.cells #[.int .i64 1, .int .i64 3, .string ⟨#[]⟩, .int .i64 0, .int .i64 5, .int .i64 20, .string ⟨#[98]⟩] 46) := ⟨_, rfl⟩
  have bV : Below W2.heap.size W2 V := by rw [hV]; exact (Below.refl _ _).alloc (Nat.le_refl _) _
  have hoV : opsAt V (some ⟨W2.heap.size, 0, none⟩) sd2 := by rw [hV]; exact opsAt_one W2 _ ⟨k3, 5, 20, ⟨#[98]⟩⟩
  rw [← hV]
  have C2 := Lib.hid (commit_is (some ⟨W2.heap.size, 0, none⟩) 1 sd2 pb 0 ⟨[], [], 27⟩ ([] ++ [sd1]) _ _ V (HP1.out.below bV) hoV (fun b f e hf => by cases e; exact absurd (HP1.out.at'.lt _ hf) (Nat.lt_irrefl _)) (HG.out.below (below_trans HB2.out HB2.out.size bV)) sd2_ok (by decide))
  have HBV := Lib.hid bV
  clear hoV hV
  refine C2.out.mono ?_
  rintro e W3 ⟨s2, g2, rfl, P2, hgo2, F2, G2⟩
  have hkk3 := F2.keeps ((bV.block _ hp2).trans HK2.out) (fun h => by
    rcases HG1.out _ h with h1 | h1
    · have := foot_new h1; omega
    · rw [HS.out] at h1; omega)
  have k0 : W3.cell? ⟨pb + 1, 0, none⟩ = some (.int .i64 1) := by simp [World.cell?, hkk3]
  have k1 : W3.cell? ⟨pb + 1, 1, none⟩ = some (.int .i64 3) := by simp [World.cell?, hkk3]
  have k2 : W3.cell? ⟨pb + 1, 2, none⟩ = some (.string ⟨#[]⟩) := by simp [World.cell?, hkk3]
  have k4 : W3.cell? ⟨pb + 1, 3, none⟩ = some (.int .i64 0) := by simp [World.cell?, hkk3]
  have hp3 : pb + 1 < W3.heap.size := (Array.getElem?_eq_some_iff.1 hkk3).1
  have B3 : Below w.heap.size w W3 := (below_trans HB2.out HB2.out.size bV).trans (F2.below (fun k _ h => by
    rcases HG1.out _ h with h1 | h1
    · rw [foot_new h1, HPB.out]; exact Nat.le_refl _
    · rw [HS.out] at h1; have := HPB.out; omega) (Nat.le_trans HB2.out.size bV.size))
  have hgo : s2.gone ≤ 0 := by rw [hgo2, hG1.out]; exact Int.le_refl _
  have HB3 := Lib.hid B3
  have V1 := Lib.hid fun X (hX : Below W3.heap.size W3 X) => value_is k3 1 7 pb 0 ⟨[], [], 27⟩ _ s2 g2 X (P2.below hX) k3_B (by decide) (by omega) (by decide)
  have V2 := Lib.hid fun X (hX : Below W3.heap.size W3 X) => value_is k3 2 7 pb 0 ⟨[], [], 27⟩ _ s2 g2 X (P2.below hX) k3_B (by decide) (by omega) (by decide)
  have V3 := Lib.hid fun X (hX : Below W3.heap.size W3 X) => pieces_is k3 2 pb 0 ⟨[], [], 27⟩ _ s2 g2 X (P2.below hX) k3_B (by omega) (by decide)
  clear bV hkk3 P2 hgo2 F2 G2 B3 hgo HP1 HK2 HF1 HG1 hG1 C1 C2
  go_wp2_with fail
  refine (V1.out _ (Below.refl _ _)).mono ?_
  rintro e W4 ⟨rfl, b4⟩
  rw [sd_v1]
  have k0 := below_cell b4 hp3 k0
  have k1 := below_cell b4 hp3 k1
  have k2 := below_cell b4 hp3 k2
  have k4 := below_cell b4 hp3 k4
  have q4 := Lib.hid b4
  clear b4
  go_wp2_with fail
  refine (V2.out _ q4.out).mono ?_
  rintro e W5 ⟨rfl, b5⟩
  rw [sd_v2]
  have hp4 : pb + 1 < W4.heap.size := Nat.lt_of_lt_of_le hp3 q4.out.size
  have k0 := below_cell b5 hp4 k0
  have k1 := below_cell b5 hp4 k1
  have k2 := below_cell b5 hp4 k2
  have k4 := below_cell b5 hp4 k4
  have q5 := Lib.hid (below_trans q4.out q4.out.size b5)
  clear b5
  go_wp2_with fail
  refine (V3.out _ q5.out).mono ?_
  rintro e W6 ⟨v, L, rfl, hL, _, _, hown, b6⟩
  have hLL : L = [⟨0, 5, ⟨#[97]⟩⟩, ⟨5, 20, ⟨#[98]⟩⟩] := hL.one sd_pieces fun _ => rfl
  subst hLL
  have q6 := Lib.hid (below_trans HB3.out HB3.out.size (below_trans q5.out q5.out.size b6))
  obtain ⟨ao, cap, rfl, _, hc⟩ := ownsRow_slice hown
  obtain ⟨b, rfl, c0⟩ := hc 0 _ rfl
  obtain ⟨_, e1, c1⟩ := hc 1 _ rfl
  cases e1
  obtain ⟨_, e1, c2⟩ := hc 2 _ rfl
  cases e1
  clear hL b6 hown hc V1 V2 V3
  go_wp2_with fail
  go_ret
  exact ⟨rfl, q6.out⟩
end Go.Proofs.YtacedfcckkpciaaGreatDoor
