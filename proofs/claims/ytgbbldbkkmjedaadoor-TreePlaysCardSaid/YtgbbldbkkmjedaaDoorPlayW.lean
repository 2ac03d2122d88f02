/- TreePlays: the walk. -/
import Derived.Test.YtgbbldbkkmjedaaDoorPlayS
import Derived.Test.YtgbbldbkkmjedaaDoorPlayN
import Derived.Test.YtgbbldbkkmjedaaDoorCls
import Derived.BigRegion
import Derived.BigQuiet
namespace Go.Proofs.YtgbbldbkkmjedaaDoor
open Go.RowKit Go.Deep Go.Shelf Go.Sort

/-- A slice of Puts: what, number, from, to. -/
abbrev PutV := Int × Int × Int × Int
def putsAt (w : World) (ao : Option Addr) (l : List PutV) : Prop :=
  ∀ i p, l[i]? = some p → ∃ b o, ao = some ⟨b, o, none⟩ ∧ w.cell? ⟨b, o + i * 4, none⟩ = some (.int .i64 p.1) ∧ w.cell? ⟨b, o + i * 4 + 1, none⟩ = some (.int .i64 p.2.1) ∧ w.cell? ⟨b, o + i * 4 + 2, none⟩ = some (.int .i64 p.2.2.1) ∧ w.cell? ⟨b, o + i * 4 + 3, none⟩ = some (.int .i64 p.2.2.2)
def i64P (l : List PutV) : Prop := ∀ p ∈ l, i64 p.1 ∧ i64 p.2.1 ∧ i64 p.2.2.1 ∧ i64 p.2.2.2
theorem errIs_val (w : World) (n : Int) : ErrIs w (errVal n) n (-1) := by
  unfold errVal
  split
  · rename_i h; exact Or.inl ⟨rfl, h, rfl⟩
  · exact Or.inr (Or.inl ⟨rfl, rfl⟩)
/-- What the loops keep. -/
def St (w : World) (B : Nat) (wr : World) : Prop := ∃ R, GoodR R ∧ Play (fun _ => False) B B (B + 1) R R wr ∧ Below w.heap.size w wr
theorem bare_same (v : Value) (n : Int) (w : World) (hg : ErrVar w) (h : ErrIs w v n (-1)) : Calls Tryd.prog 7 #[v, .int .i64 n] w fun e w' => e = .returned (.bool true) ∧ Below w.heap.size w w' := by
  have := bare_any v n (-1) n w hg h
  simpa using this
theorem neq_self (a b : Int) : (!(a == a && b == b)) = false := by simp
theorem errVal_show (n : Int) : ∃ v, errVal n = v := ⟨_, rfl⟩

theorem play_new (w : World) : Play (fun _ => False) w.heap.size w.heap.size (w.heap.size + 1) [] [] ((w.alloc (.cells #[.pointer none, .map none] 26)).alloc (.cells #[.slice none 0 0, .slice none 0 0] 31)) := by
  have hn : ((w.alloc (.cells #[.pointer none, .map none] 26)).alloc (.cells #[.slice none 0 0, .slice none 0 0] 31)).heap[w.heap.size + 1]? = some (.cells #[.slice none 0 0, .slice none 0 0] 31 (0, 0)) := by
    have := block_alloc_new (w.alloc (.cells #[.pointer none, .map none] 26)) (.cells #[.slice none 0 0, .slice none 0 0] 31)
    simpa using this
  refine ⟨⟨.nil, none, .slice none 0 0, .slice none 0 0, tree_new (block_alloc (block_alloc_new w _) _), ⟨hn, World.ownsRow_nil _ _ _ _, World.ownsRow_nil _ _ _ _, by omega, by simp, Or.inl ⟨rfl, rfl⟩⟩, ?_, ?_, fun k hk => hk.elim⟩, by simp; omega, by omega, fun k hk => hk.elim⟩
  · rintro k (e | e | e); omega; cases e; cases e
  · rintro k (e | e | e) (e' | e' | e')
    · omega
    all_goals (first | (cases e'; done) | (cases e; done))
theorem fill_nat (fill : Int) : ∃ m : Nat, wrap64 ((IntKind.u64.wrap fill).tmod 4002) = (m : Int) ∧ m < 4002 := by
  have h : 0 ≤ IntKind.u64.wrap fill := by unfold IntKind.wrap; simp [IntKind.signed, IntKind.bits]; omega
  generalize IntKind.u64.wrap fill = u at *
  refine ⟨(u.tmod 4002).toNat, ?_, ?_⟩
  · rw [Int.tmod_eq_emod_of_nonneg h]
    unfold wrap64; omega
  · rw [Int.tmod_eq_emod_of_nonneg h]; omega

set_option maxRecDepth 100000 in
set_option maxHeartbeats 8000000 in
theorem treePlays_walk (l : List PutV) (a0 : Option Addr) (c0 : Nat) (fill : Int) (w : World) (hg : ErrVar w) (h0 : putsAt w a0 l) (m0 : l.length ≤ maxLen) (i0 : i64P l) (_hf : -9223372036854775808 ≤ fill ∧ fill < 9223372036854775808) :
    Calls Tryd.prog 3 #[.slice a0 l.length c0, .int .i64 fill] w fun e w' => e = .returned (.bool true) ∧ Below w.heap.size w w' := by
  unfold maxLen at m0
  by_cases g0 : 120 < l.length
  · go_enter Tryd.func3, Tryd.ntmps3
    go_wp2_with fail
    go_ret
    exact ⟨rfl, Below.refl _ _⟩
  have I0 := Lib.hid i0
  have H0 := Lib.hid h0
  have HG := Lib.hid hg
  clear i0 h0 hg
  go_enter Tryd.func3, Tryd.ntmps3
  go_wp2_with fail
  obtain ⟨m, hm, hm2⟩ := fill_nat fill
  rw [hm]
  clear hm
  obtain ⟨W2, hW2⟩ : ∃ W2, W2 = (w.alloc (.cells #[.pointer none, .map none] 26)).alloc (.cells #[.slice none 0 0, .slice none 0 0] 31) := ⟨_, rfl⟩
  have hSt : St w w.heap.size W2 := ⟨[], ⟨List.Pairwise.nil, (fun x hx => by cases hx), (by simp)⟩, by rw [hW2]; exact play_new w, by rw [hW2]; exact ((Below.refl _ w).alloc (Nat.le_refl _) _).alloc (by simp) _⟩
  rw [← hW2]
  have HSt := Lib.hid hSt
  obtain ⟨B, hB⟩ : ∃ B, B = w.heap.size := ⟨_, rfl⟩
  rw [← hB] at HSt ⊢
  have HBe := Lib.hid hB
  clear hSt hW2 hB
  go_loopw [7] (fun i wr => ∃ k : Nat, k ≤ m ∧ i = .int .i64 k ∧ St w B wr) (fun i _ => m - (intOf i).toNat)
  case atStart => exact ⟨0, by omega, rfl, HSt.out⟩
  case round =>
    obtain ⟨k, hk, rfl, hS⟩ := hrel
    clear HSt
    by_cases hlt : k < m
    · obtain ⟨R, hR, hP, hBl⟩ := hS
      have P0 := hP.fresh (w' := wr.alloc (.cells #[.int .i64 k, .int .i64 ((k : Int) + 5)] 34)) ((Below.refl _ _).alloc (Nat.le_refl _) _) wr.heap.size (Nat.le_refl _) (by simp)
      have B0 := hBl.alloc hBl.size (.cells #[.int .i64 k, .int .i64 ((k : Int) + 5)] 34)
      have k1 : (wr.alloc (.cells #[.int .i64 k, .int .i64 ((k : Int) + 5)] 34)).cell? ⟨wr.heap.size, 0, none⟩ = some (.int .i64 k) := by simp
      have k2 : (wr.alloc (.cells #[.int .i64 k, .int .i64 ((k : Int) + 5)] 34)).cell? ⟨wr.heap.size, 1, none⟩ = some (.int .i64 ((k : Int) + 5)) := by simp
      have HR := Lib.hid hR
      have HP := Lib.hid P0
      have HB := Lib.hid B0
      have hlen := hR.len
      have hsB : B ≤ wr.heap.size := hP.hb
      have hwk : IntKind.i64.wrap (10000 + (k : Int)) = 10000 + (k : Int) := by have := IntKind.wrap_i64 (10000 + (k : Int)); omega
      clear hR hP hBl P0 B0
      go_wp2_with fail
      obtain ⟨sb, hsb⟩ : ∃ sb, sb = wr.heap.size := ⟨_, rfl⟩
      obtain ⟨V, hV⟩ : ∃ V, V = wr.alloc (.cells #[.int .i64 k, .int .i64 ((k : Int) + 5)] 34) := ⟨_, rfl⟩
      rw [← hsb] at HP k1 k2 hsB ⊢
      rw [← hV] at HP HB k1 k2 ⊢
      clear hV hsb
      go_region_held3 (fun W => W.cell? ⟨sb, 0, none⟩ = some (.int .i64 k) ∧ W.cell? ⟨sb, 1, none⟩ = some (.int .i64 ((k : Int) + 5)))
        (first | exact ⟨k1, k2⟩ | exact hS1 | exact hS2 | exact hS3)
        (first
          | (go_at_call 8; (with_reducible refine (play_addT (by exact HP.out.drew) (10000 + (k : Int)) (k : Int) ((k : Int) + 5)).mono ?_); rintro e w1 ⟨rfl, P1', b1, f1⟩; have P1 := Lib.hid (P1'.permL (addR_perm (.refl R) _ _ _)); have hS1 : w1.cell? ⟨sb, 0, none⟩ = some (.int .i64 k) ∧ w1.cell? ⟨sb, 1, none⟩ = some (.int .i64 ((k : Int) + 5)) := ⟨(World.cell?_of_block (w := V) (a := ⟨sb, 0, none⟩) (f1 sb rfl)).trans k1, (World.cell?_of_block (w := V) (a := ⟨sb, 1, none⟩) (f1 sb rfl)).trans k2⟩; have q1 : Below w.heap.size w w1 := HB.out.drew.trans (HBe.out ▸ b1); clear P1' b1 f1)
          | (go_at_call 9; (with_reducible refine (play_addR (by exact P1.out) HR.out.srt (by omega) (10000 + (k : Int)) (k : Int) ((k : Int) + 5)).mono ?_); rintro e w2 ⟨rfl, P2', b2, f2⟩; have P2 := Lib.hid P2'; have hS2 : w2.cell? ⟨sb, 0, none⟩ = some (.int .i64 k) ∧ w2.cell? ⟨sb, 1, none⟩ = some (.int .i64 ((k : Int) + 5)) := ⟨(World.cell?_of_block (a := ⟨sb, 0, none⟩) (f2 sb rfl)).trans hS1.1, (World.cell?_of_block (a := ⟨sb, 1, none⟩) (f2 sb rfl)).trans hS1.2⟩; have q2 : Below w.heap.size w w2 := q1.trans (HBe.out ▸ b2); clear P2' b2 f2)
          | (go_at_call 7; (with_reducible refine (bare_same _ _ _ (HG.out.below q2) (errIs_val _ _)).mono ?_); rintro e w3 ⟨rfl, b3⟩; have P3 := Lib.hid (P2.out.below b3); have q3 := Lib.hid (below_step q2 b3); have hS3 : w3.cell? ⟨sb, 0, none⟩ = some (.int .i64 k) ∧ w3.cell? ⟨sb, 1, none⟩ = some (.int .i64 ((k : Int) + 5)) := ⟨below_cell b3 (World.block_lt_of_cell? w2 _ hS2.1) hS2.1, below_cell b3 (World.block_lt_of_cell? w2 _ hS2.1) hS2.2⟩; clear b3 P2))
      have HS3 := Lib.hid (show St w B w3 from ⟨_, HR.out.add _ _ _, P3.out.forget, q3.out⟩)
      clear hS3 hS2 hS1 k1 k2 HP P3 q3 q2 q1
      go_wp2_with fail
      exact ⟨⟨k + 1, by omega, by go_num, HS3.out⟩, by simp [intOf]; omega⟩
    · have HS := Lib.hid hS
      clear hS
      go_wp2_with fail
      go_loopw [9] (fun i wr => ∃ k : Nat, k ≤ l.length ∧ i = .int .i64 k ∧ St w B wr) (fun i _ => l.length - (intOf i).toNat)
      case atStart => exact ⟨0, by omega, rfl, HS.out⟩
      case round =>
        obtain ⟨k, hk, rfl, hS⟩ := hrel
        clear HS
        by_cases hlt : k < l.length
        · obtain ⟨R, hR, hP, hBl⟩ := hS
          obtain ⟨p, hp⟩ : ∃ p, l[k]? = some p := ⟨_, List.getElem?_eq_getElem hlt⟩
          obtain ⟨b, o, rfl, d0, d1, d2, d3⟩ := H0.out _ _ hp
          have hb : b < w.heap.size := World.block_lt_of_cell? w _ d0
          have d0 := below_cell hBl hb d0
          have d1 := below_cell hBl hb d1
          have d2 := below_cell hBl hb d2
          have d3 := below_cell hBl hb d3
          obtain ⟨j0, j1, j2, j3⟩ := I0.out p (List.mem_of_getElem? hp)
          obtain ⟨wh, id, f, t⟩ := p
          dsimp only at d0 d1 d2 d3 j0 j1 j2 j3
          have P0 := hP.fresh (w' := wr.alloc (.cells #[.int .i64 wh, .int .i64 id, .int .i64 f, .int .i64 t] 42)) ((Below.refl _ _).alloc (Nat.le_refl _) _) wr.heap.size (Nat.le_refl _) (by simp)
          have B0 := hBl.alloc hBl.size (.cells #[.int .i64 wh, .int .i64 id, .int .i64 f, .int .i64 t] 42)
          have e0 : (wr.alloc (.cells #[.int .i64 wh, .int .i64 id, .int .i64 f, .int .i64 t] 42)).cell? ⟨wr.heap.size, 0, none⟩ = some (.int .i64 wh) := by simp
          have e1 : (wr.alloc (.cells #[.int .i64 wh, .int .i64 id, .int .i64 f, .int .i64 t] 42)).cell? ⟨wr.heap.size, 1, none⟩ = some (.int .i64 id) := by simp
          have e2 : (wr.alloc (.cells #[.int .i64 wh, .int .i64 id, .int .i64 f, .int .i64 t] 42)).cell? ⟨wr.heap.size, 2, none⟩ = some (.int .i64 f) := by simp
          have e3 : (wr.alloc (.cells #[.int .i64 wh, .int .i64 id, .int .i64 f, .int .i64 t] 42)).cell? ⟨wr.heap.size, 3, none⟩ = some (.int .i64 t) := by simp
          have hpl : wr.heap.size < (wr.alloc (.cells #[.int .i64 wh, .int .i64 id, .int .i64 f, .int .i64 t] 42)).heap.size := by simp
          have HR := Lib.hid hR
          have HP := Lib.hid P0
          have HB := Lib.hid B0
          have J0 := Lib.hid j0
          have J1 := Lib.hid j1
          have hlen := hR.len
          clear hR hP hBl P0 B0 hp j0 j1 j2 j3
          go_wp2_with fail
          obtain ⟨pb, hpb⟩ : ∃ pb, pb = wr.heap.size := ⟨_, rfl⟩
          obtain ⟨V, hV⟩ : ∃ V, V = wr.alloc (.cells #[.int .i64 wh, .int .i64 id, .int .i64 f, .int .i64 t] 42) := ⟨_, rfl⟩
          rw [← hpb] at HP e0 e1 e2 e3 hpl ⊢
          rw [← hV] at HP HB e0 e1 e2 e3 hpl ⊢
          clear hV hpb d0 d1 d2 d3
          have C1 := play_spanR HP.out HR.out id
          have C2 := fun W (hW : Below V.heap.size V W) => play_spanT (HP.out.below hW) HR.out id J1.out
          have C3 := fun W (hW : Below w.heap.size w W) => bare_same _ _ W (HG.out.below hW) (errIs_span W R id)
          generalize spanS R id = sp at *
          generalize errVal (spanE R id) = ev at *
          generalize spanE R id = en at *
          obtain ⟨s1, s2⟩ := sp
          dsimp only at C1 C2
          refine C1.mono ?_
          rintro e w2 ⟨rfl, b2⟩
          have a2 := b2.alloc b2.size (.cells #[.int .i64 s1, .int .i64 s2] 34)
          have m1 : (w2.alloc (.cells #[.int .i64 s1, .int .i64 s2] 34)).cell? ⟨w2.heap.size, 0, none⟩ = some (.int .i64 s1) := by simp
          have m2 : (w2.alloc (.cells #[.int .i64 s1, .int .i64 s2] 34)).cell? ⟨w2.heap.size, 1, none⟩ = some (.int .i64 s2) := by simp
          have ms : w2.heap.size < (w2.alloc (.cells #[.int .i64 s1, .int .i64 s2] 34)).heap.size := by simp
          have e1' := below_cell b2 hpl e1
          have hpl2 : pb < w2.heap.size := Nat.lt_of_lt_of_le hpl b2.size
          clear b2
          go_wp2_with fail
          obtain ⟨x2, hx2⟩ : ∃ x, x = w2.heap.size := ⟨_, rfl⟩
          obtain ⟨V2, hV2⟩ : ∃ V, V = w2.alloc (.cells #[.int .i64 s1, .int .i64 s2] 34) := ⟨_, rfl⟩
          rw [← hx2] at m1 m2 ms ⊢
          rw [← hV2] at m1 m2 ms a2 ⊢
          clear hx2 hV2 e1'
          refine (C2 _ a2).mono ?_
          rintro e w3 ⟨rfl, b3⟩
          have n1 : (w3.alloc (.cells #[.int .i64 s1, .int .i64 s2] 34)).cell? ⟨w3.heap.size, 0, none⟩ = some (.int .i64 s1) := by simp
          have n2 : (w3.alloc (.cells #[.int .i64 s1, .int .i64 s2] 34)).cell? ⟨w3.heap.size, 1, none⟩ = some (.int .i64 s2) := by simp
          have ns : w3.heap.size < (w3.alloc (.cells #[.int .i64 s1, .int .i64 s2] 34)).heap.size := by simp
          have bb3 : Below V2.heap.size V2 (w3.alloc (.cells #[.int .i64 s1, .int .i64 s2] 34)) := b3.alloc b3.size _
          have m1' := below_cell bb3 ms m1
          have m2' := below_cell bb3 ms m2
          have ms' : x2 < (w3.alloc (.cells #[.int .i64 s1, .int .i64 s2] 34)).heap.size := Nat.lt_of_lt_of_le ms bb3.size
          have a3 := a2.trans (bb3.mono a2.size)
          clear b3 bb3 m1 m2 ms a2 C1 C2
          go_wp2_with fail
          obtain ⟨x3, hx3⟩ : ∃ x, x = w3.heap.size := ⟨_, rfl⟩
          obtain ⟨V3, hV3⟩ : ∃ V, V = w3.alloc (.cells #[.int .i64 s1, .int .i64 s2] 34) := ⟨_, rfl⟩
          rw [← hx3] at n1 n2 ns ⊢
          rw [← hV3] at n1 n2 ns m1' m2' ms' a3 ⊢
          clear hx3 hV3
          refine (C3 _ (below_step HB.out a3)).mono ?_
          rintro e w4 ⟨rfl, b4⟩
          have n1' := below_cell b4 ns n1
          have n2' := below_cell b4 ns n2
          have m1 := below_cell b4 ms' m1'
          have m2 := below_cell b4 ms' m2'
          have a4 := a3.trans (b4.mono a3.size)
          have f0 := below_cell a4 hpl e0
          have f1 := below_cell a4 hpl e1
          have f2 := below_cell a4 hpl e2
          have f3 := below_cell a4 hpl e3
          have HP4 := Lib.hid (HP.out.below a4)
          have HB4 := Lib.hid (below_step HB.out a4)
          have hne := neq_self s1 s2
          clear n1 n2 m1' m2' b4 a3 a4 e0 e1 e2 e3 C3 HP HB ns ms' hpl
          have hw : wh = 0 ∨ wh = 1 ∨ (wh ≠ 0 ∧ wh ≠ 1) := by omega
          rcases hw with hw | hw | ⟨hw, hw'⟩
          all_goals first
            | (have hz : wh = 0 := hw
               subst hz
               clear hw
               go_wp2_with fail
               go_region_held3 (fun W => W.cell? ⟨pb, 1, none⟩ = some (.int .i64 id) ∧ W.cell? ⟨pb, 2, none⟩ = some (.int .i64 f) ∧ W.cell? ⟨pb, 3, none⟩ = some (.int .i64 t))
                (first | exact ⟨f1, f2, f3⟩ | exact hS1 | exact hS2 | exact hS3)
                (first
                  | (go_at_call 8; (with_reducible refine (play_addT (by exact HP4.out.drew) id f t).mono ?_); rintro e w5 ⟨rfl, P1', b1, g1⟩; have P1 := Lib.hid (P1'.permL (addR_perm (.refl R) _ _ _)); have hS1 : w5.cell? ⟨pb, 1, none⟩ = some (.int .i64 id) ∧ w5.cell? ⟨pb, 2, none⟩ = some (.int .i64 f) ∧ w5.cell? ⟨pb, 3, none⟩ = some (.int .i64 t) := ⟨(World.cell?_of_block (w := w4) (a := ⟨pb, 1, none⟩) (g1 pb rfl)).trans f1, (World.cell?_of_block (w := w4) (a := ⟨pb, 2, none⟩) (g1 pb rfl)).trans f2, (World.cell?_of_block (w := w4) (a := ⟨pb, 3, none⟩) (g1 pb rfl)).trans f3⟩; have q1 : Below w.heap.size w w5 := HB4.out.drew.trans (HBe.out ▸ b1); clear P1' b1 g1)
                  | (go_at_call 9; (with_reducible refine (play_addR (by exact P1.out) HR.out.srt (by omega) id f t).mono ?_); rintro e w6 ⟨rfl, P2', b2, g2⟩; have P2 := Lib.hid P2'; have hS2 : w6.cell? ⟨pb, 1, none⟩ = some (.int .i64 id) ∧ w6.cell? ⟨pb, 2, none⟩ = some (.int .i64 f) ∧ w6.cell? ⟨pb, 3, none⟩ = some (.int .i64 t) := ⟨(World.cell?_of_block (a := ⟨pb, 1, none⟩) (g2 pb rfl)).trans hS1.1, (World.cell?_of_block (a := ⟨pb, 2, none⟩) (g2 pb rfl)).trans hS1.2.1, (World.cell?_of_block (a := ⟨pb, 3, none⟩) (g2 pb rfl)).trans hS1.2.2⟩; have q2 : Below w.heap.size w w6 := q1.trans (HBe.out ▸ b2); clear P2' b2 g2)
                  | (go_at_call 7; (with_reducible refine (bare_same _ _ _ (HG.out.below q2) (errIs_val _ _)).mono ?_); rintro e w7 ⟨rfl, b3⟩; have P3 := Lib.hid (P2.out.below b3); have q3 := Lib.hid (below_step q2 b3); have hp6 : pb < w6.heap.size := World.block_lt_of_cell? w6 _ hS2.1; have hS3 : w7.cell? ⟨pb, 1, none⟩ = some (.int .i64 id) ∧ w7.cell? ⟨pb, 2, none⟩ = some (.int .i64 f) ∧ w7.cell? ⟨pb, 3, none⟩ = some (.int .i64 t) := ⟨below_cell b3 hp6 hS2.1, below_cell b3 hp6 hS2.2.1, below_cell b3 hp6 hS2.2.2⟩; clear b3 P2 hp6))
               have KEY := Lib.hid (show ∃ R5, GoodR R5 ∧ Play (· = pb) B B (B + 1) R5 R5 w7 ∧ Below w.heap.size w w7 ∧ w7.cell? ⟨pb, 2, none⟩ = some (.int .i64 f) ∧ w7.cell? ⟨pb, 3, none⟩ = some (.int .i64 t) from ⟨addR R id f t, HR.out.add id f t, P3.out, q3.out, hS3.2.1, hS3.2.2⟩)
               clear hS3 hS2 hS1 f0 f1 f2 f3 HP4 HB4 P3 q3 q2 q1 P1
               generalize w7 = V5 at KEY ⊢)
            | (have hz : wh = 1 := hw
               subst hz
               clear hw
               go_wp2_with fail
               go_region_held3 (fun W => W.cell? ⟨pb, 1, none⟩ = some (.int .i64 id) ∧ W.cell? ⟨pb, 2, none⟩ = some (.int .i64 f) ∧ W.cell? ⟨pb, 3, none⟩ = some (.int .i64 t))
                (first | exact ⟨f1, f2, f3⟩ | exact hS1 | exact hS2 | exact hS3)
                (first
                  | (go_at_call 12; (with_reducible refine (play_dropT_any (by exact HP4.out.drew) HR.out id J1.out).mono ?_); rintro e w5 ⟨rfl, P1', b1, g1⟩; have P1 := Lib.hid (P1'); have hS1 : w5.cell? ⟨pb, 1, none⟩ = some (.int .i64 id) ∧ w5.cell? ⟨pb, 2, none⟩ = some (.int .i64 f) ∧ w5.cell? ⟨pb, 3, none⟩ = some (.int .i64 t) := ⟨(World.cell?_of_block (w := w4) (a := ⟨pb, 1, none⟩) (g1 pb rfl)).trans f1, (World.cell?_of_block (w := w4) (a := ⟨pb, 2, none⟩) (g1 pb rfl)).trans f2, (World.cell?_of_block (w := w4) (a := ⟨pb, 3, none⟩) (g1 pb rfl)).trans f3⟩; have q1 : Below w.heap.size w w5 := HB4.out.drew.trans (HBe.out ▸ b1); clear P1' b1 g1)
                  | (go_at_call 13; (with_reducible refine (play_dropR (by exact P1.out) HR.out id).mono ?_); rintro e w6 ⟨rfl, P2', b2, g2⟩; have P2 := Lib.hid P2'; have hS2 : w6.cell? ⟨pb, 1, none⟩ = some (.int .i64 id) ∧ w6.cell? ⟨pb, 2, none⟩ = some (.int .i64 f) ∧ w6.cell? ⟨pb, 3, none⟩ = some (.int .i64 t) := ⟨(World.cell?_of_block (a := ⟨pb, 1, none⟩) (g2 pb rfl)).trans hS1.1, (World.cell?_of_block (a := ⟨pb, 2, none⟩) (g2 pb rfl)).trans hS1.2.1, (World.cell?_of_block (a := ⟨pb, 3, none⟩) (g2 pb rfl)).trans hS1.2.2⟩; have q2 : Below w.heap.size w w6 := q1.trans (HBe.out ▸ b2); clear P2' b2 g2)
                  | (go_at_call 7; (with_reducible refine (bare_same _ _ _ (HG.out.below q2) (errIs_val _ _)).mono ?_); rintro e w7 ⟨rfl, b3⟩; have P3 := Lib.hid (P2.out.below b3); have q3 := Lib.hid (below_step q2 b3); have hp6 : pb < w6.heap.size := World.block_lt_of_cell? w6 _ hS2.1; have hS3 : w7.cell? ⟨pb, 1, none⟩ = some (.int .i64 id) ∧ w7.cell? ⟨pb, 2, none⟩ = some (.int .i64 f) ∧ w7.cell? ⟨pb, 3, none⟩ = some (.int .i64 t) := ⟨below_cell b3 hp6 hS2.1, below_cell b3 hp6 hS2.2.1, below_cell b3 hp6 hS2.2.2⟩; clear b3 P2 hp6))
               have KEY := Lib.hid (show ∃ R5, GoodR R5 ∧ Play (· = pb) B B (B + 1) R5 R5 w7 ∧ Below w.heap.size w w7 ∧ w7.cell? ⟨pb, 2, none⟩ = some (.int .i64 f) ∧ w7.cell? ⟨pb, 3, none⟩ = some (.int .i64 t) from ⟨dropR R id, HR.out.drop id, P3.out, q3.out, hS3.2.1, hS3.2.2⟩)
               clear hS3 hS2 hS1 f0 f1 f2 f3 HP4 HB4 P3 q3 q2 q1 P1
               generalize w7 = V5 at KEY ⊢)
            | (have hz : wh ≠ 0 := hw
               have hd0 : (wh == 0) = false := by simpa using hw
               have hd1 : (wh == 1) = false := by simpa using hw'
               clear hw hw' hz
               have KEY := Lib.hid (show ∃ R5, GoodR R5 ∧ Play (· = pb) B B (B + 1) R5 R5 w4 ∧ Below w.heap.size w w4 ∧ w4.cell? ⟨pb, 2, none⟩ = some (.int .i64 f) ∧ w4.cell? ⟨pb, 3, none⟩ = some (.int .i64 t) from ⟨R, HR.out, HP4.out, HB4.out, f2, f3⟩)
               clear f1 f2 f3 HB4 HP4
               generalize w4 = V5 at *)
          all_goals
            obtain ⟨R5, hR5, hP5, hB5, u2, u3⟩ := KEY.out
            obtain ⟨ao, cap, c0⟩ := hP5.lenR
            have HR5 := Lib.hid hR5
            have HP5 := Lib.hid hP5
            have HB5 := Lib.hid hB5
            have hlen5 := hR5.len
            have hpV : pb < V5.heap.size := World.block_lt_of_cell? V5 _ u2
            clear KEY hR5 hP5 hB5
            go_wp2_with fail
            clear c0
            go_loop [16, 17] (fun bv kv => ∃ (c q : Nat), bv = .int .i64 c ∧ kv = .int .i64 q ∧ c ≤ 4002 ∧ q ≤ 4001 ∧ Hid (q = (R5.length + 1) / 2 ^ c)) (fun _ kv => (intOf kv).toNat)
            case' atStart => exact ⟨0, R5.length + 1, rfl, by go_num, by omega, by omega, by simp [Hid]⟩
            case' round =>
              obtain ⟨c, q, rfl, rfl, hc4, hq4, hq⟩ := hrel
              by_cases hq0 : 0 < q
              · have hpow : 2 ^ c ≤ R5.length + 1 := by
                  have h1 := hq.out
                  rw [h1] at hq0
                  exact (Nat.div_pos_iff.1 hq0).2
                have hcb : c < 4002 := by have := Nat.lt_two_pow_self (n := c); omega
                have hqi : (0 : Int) < (q : Int) := by omega
                have hdiv : (q : Int).tdiv 2 = ((q / 2 : Nat) : Int) := by rw [Int.tdiv_eq_ediv_of_nonneg (by omega)]; omega
                have hnx : Hid (q / 2 = (R5.length + 1) / 2 ^ (c + 1)) := by
                  show q / 2 = _
                  rw [hq.out, Nat.div_div_eq_div_mul, Nat.pow_succ]
                clear hpow
                go_wp2_with fail
                exact ⟨⟨c + 1, q / 2, by go_num, by go_num, by omega, by omega, hnx⟩, by simp [intOf]; omega⟩
              · have hcl : R5.length + 1 < 2 ^ c := by
                  have h1 := hq.out
                  have h2 : q = 0 := by omega
                  rw [h2] at h1
                  exact (Nat.div_eq_zero_iff.1 h1.symm).resolve_left (by have := Nat.two_pow_pos c; omega)
                have hqz : q = 0 := by omega
                subst hqz
                have HCL := Lib.hid hcl
                clear hcl hq hq0
                by_cases hn : R5.length = 0
                · have hR0 : R5 = [] := List.eq_nil_of_length_eq_zero hn
                  subst hR0
                  have CC := fun (X : InC (Bel V5)) => play_nil (HP5.out.below X.ok) f t
                  have CS := fun (X : InC (Bel V5)) => same_any [] none none 0 0 X.w (fun i x h => by simp at h) (fun i x h => by simp at h) (by simp)
                  have HCC := Lib.hid CC
                  have HCS := Lib.hid CS
                  clear CC CS
                  go_wp2_with fail
                  refine wp_region_in (S := Bel V5) (by kernel_rfl) (by kernel_rfl) (bel_drew (Below.refl _ _)) (fun hne => ?_)
                  have v2 : ∀ X : InC (Bel V5), X.w.cell? ⟨pb, 2, none⟩ = some (.int .i64 f) := fun X => X.cell u2
                  have v3 : ∀ X : InC (Bel V5), X.w.cell? ⟨pb, 3, none⟩ = some (.int .i64 t) := fun X => X.cell u3
                  repeat (go_big_quiet_step (first
                    | (go_at_call 15; exact InC.call (HCC.out _).1)
                    | (go_at_call 17; exact InC.call (HCC.out _).2.1)
                    | (go_at_call 16; exact InC.call (HCC.out _).2.2.1)
                    | (go_at_call 18; exact InC.call (HCC.out _).2.2.2.1)
                    | (go_at_call 19; exact InC.call (HCC.out _).2.2.2.2.1)
                    | (go_at_call 20; exact InC.call (HCC.out _).2.2.2.2.2)
                    | (go_at_call 14; exact InC.call (HCS.out _))))
                  refine wpQuiet_nil ?_
                  rintro _ ⟨X, rfl⟩
                  have HSt := Lib.hid (show St w B X.w from ⟨[], HR5.out, (HP5.out.below X.ok).forget, HB5.out.trans (X.ok.mono HB5.out.size)⟩)
                  clear v2 v3
                  go_wp2_with fail
                  exact ⟨⟨k + 1, by omega, by go_num, HSt.out⟩, by simp [intOf]; omega⟩
                · obtain ⟨hi, i0', i1', i2', i3', CH⟩ := play_high HP5.out
                  have hhi := i3' c HCL.out
                  have hh1 := i2' (by omega)
                  have CM1 := fun W (hW : Below V5.heap.size V5 W) => play_meetsT (HP5.out.below hW) f t (by omega)
                  have CM2 := fun W (hW : Below V5.heap.size V5 W) => play_meetsR (HP5.out.below hW) f t (by omega)
                  have CA1 := fun W (hW : Below V5.heap.size V5 W) => play_atT (HP5.out.below hW) f (by omega)
                  have CA2 := fun W (hW : Below V5.heap.size V5 W) => play_atR (HP5.out.below hW) f (by omega)
                  have CN := fun W (hW : Below V5.heap.size V5 W) => play_many (HP5.out.below hW)
                  have hX := selR_len (rmB f t) R5
                  have hY := selR_len (raB f) R5
                  simp only [meets_sel (.refl R5) HR5.out f t] at CM1
                  simp only [at_sel (.refl R5) HR5.out f] at CA1
                  generalize selR (rmB f t) R5 = X at *
                  generalize selR (raB f) R5 = Y at *
                  have hn0 : ((R5.length : Int) == 0) = false := by simpa using hn
                  have hn1 : (0 : Int) < (R5.length : Int) := by omega
                  have hnn : ((R5.length : Int) != (R5.length : Int)) = false := by simp
                  have hb1 : decide (hi < 1) = false := by simp; omega
                  have hb2 : decide (2 * (c : Int) < hi) = false := by simp; omega
                  have CMH1 := Lib.hid CM1
                  have CMH2 := Lib.hid CM2
                  have CAH1 := Lib.hid CA1
                  have CAH2 := Lib.hid CA2
                  have CNH := Lib.hid CN
                  have CHH := Lib.hid CH
                  clear CM1 CM2 CA1 CA2 CN CH i3' i2'
                  go_wp2_with fail
                  go_region_held3 (fun W => W.cell? ⟨pb, 2, none⟩ = some (.int .i64 f) ∧ W.cell? ⟨pb, 3, none⟩ = some (.int .i64 t))
                    (first | exact ⟨u2, u3⟩ | exact hS8 | exact hS6 | exact hS5 | exact hS4 | exact hS3 | exact hS2 | exact hS1)
                    (first
                      | (go_at_call 15; (with_reducible refine (CMH1.out _ (Below.refl _ _).drew).mono ?_); rintro e x1 ⟨a1, c1, rfl, y1, b1⟩; have q1 : Below V5.heap.size V5 x1 := (Below.refl _ _).drew.trans b1; have hS1 : x1.cell? ⟨pb, 2, none⟩ = some (.int .i64 f) ∧ x1.cell? ⟨pb, 3, none⟩ = some (.int .i64 t) := ⟨below_cell q1 hpV u2, below_cell q1 hpV u3⟩; clear b1)
                      | (go_at_call 16; (with_reducible refine (CMH2.out _ q1).mono ?_); rintro e x2 ⟨a2, c2, rfl, y2, b2⟩; have z1 := y1.below b2; have q2 := below_step q1 b2; have hS2 : x2.cell? ⟨pb, 2, none⟩ = some (.int .i64 f) ∧ x2.cell? ⟨pb, 3, none⟩ = some (.int .i64 t) := ⟨below_cell q2 hpV u2, below_cell q2 hpV u3⟩; clear b2 y1 hS1)
                      | (go_at_call 14; with_reducible refine (same_any X a1 a2 c1 c2 x2 z1 y2 (by unfold maxLen; omega)).mono ?_; rintro e x3 ⟨rfl, b3⟩; have q3 := below_step q2 b3; have hS3 : x3.cell? ⟨pb, 2, none⟩ = some (.int .i64 f) ∧ x3.cell? ⟨pb, 3, none⟩ = some (.int .i64 t) := ⟨below_cell q3 hpV u2, below_cell q3 hpV u3⟩; clear b3 hS2 z1 y2)
                      | (go_at_call 17; (with_reducible refine (CAH1.out _ q3).mono ?_); rintro e x4 ⟨a4, c4, rfl, y4, b4⟩; have q4 := below_step q3 b4; have hS4 : x4.cell? ⟨pb, 2, none⟩ = some (.int .i64 f) ∧ x4.cell? ⟨pb, 3, none⟩ = some (.int .i64 t) := ⟨below_cell q4 hpV u2, below_cell q4 hpV u3⟩; clear b4 hS3)
                      | (go_at_call 18; (with_reducible refine (CAH2.out _ q4).mono ?_); rintro e x5 ⟨a5, c5, rfl, y5, b5⟩; have z4 := y4.below b5; have q5 := below_step q4 b5; have hS5 : x5.cell? ⟨pb, 2, none⟩ = some (.int .i64 f) ∧ x5.cell? ⟨pb, 3, none⟩ = some (.int .i64 t) := ⟨below_cell q5 hpV u2, below_cell q5 hpV u3⟩; clear b5 y4 hS4)
                      | (go_at_call 14; with_reducible refine (same_any Y a4 a5 c4 c5 x5 z4 y5 (by unfold maxLen; omega)).mono ?_; rintro e x6 ⟨rfl, b6⟩; have q6 := below_step q5 b6; have hS6 : x6.cell? ⟨pb, 2, none⟩ = some (.int .i64 f) ∧ x6.cell? ⟨pb, 3, none⟩ = some (.int .i64 t) := ⟨below_cell q6 hpV u2, below_cell q6 hpV u3⟩; clear b6 hS5 z4 y5)
                      | (go_at_call 19; (with_reducible refine (CNH.out _ q6).mono ?_); rintro e x7 ⟨rfl, rfl⟩)
                      | (go_at_call 20; (with_reducible refine (CHH.out _ q6).mono ?_); rintro e x8 ⟨rfl, rfl⟩))
                  have HSt := Lib.hid (show St w B x6 from ⟨R5, HR5.out, (HP5.out.below q6).forget, HB5.out.trans (q6.mono HB5.out.size)⟩)
                  clear hS6
                  go_wp2_with fail
                  exact ⟨⟨k + 1, by omega, by go_num, HSt.out⟩, by simp [intOf]; omega⟩
        · obtain ⟨R, hR, hP, hBl⟩ := hS
          go_wp2_with fail
          go_ret
          exact ⟨rfl, hBl⟩
end Go.Proofs.YtgbbldbkkmjedaaDoor
