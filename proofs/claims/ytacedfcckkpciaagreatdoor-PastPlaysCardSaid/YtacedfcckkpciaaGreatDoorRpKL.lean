/- The reference past, walked: Ever. -/
import Derived.Deep.RegionHeld3
import Derived.Deep.DeepCutAuto
import Derived.Test.YtacedfcckkpciaaGreatDoorRpJL
import Derived.Test.YtacedfcckkpciaaGreatDoorRpLL
import Derived.Test.YtacedfcckkpciaaGreatDoorPwNL
import Derived.Test.YtacedfcckkpciaaGreatDoorRpIL
import Derived.Test.YtacedfcckkpciaaGreatDoorRpFL
import Derived.Test.YtacedfcckkpciaaGreatDoorAppL
import Derived.Test.YtacedfcckkpciaaGreatDoorRpML
import Derived.Test.YtacedfcckkpciaaGreatDoorPwML
namespace Go.Proofs.YtacedfcckkpciaaGreatDoor
open Go.RowKit Go.Deep Go.Shelf Go.Sort Go.Maps

def EverR (hist : List (List OpP)) (k : KeyP) (n m : Nat) (f t : Int) (w : World) (e : Ending) (w' : World) : Prop :=
  ∃ (v : Value) (S : List ByteArray), e = .returned (.tuple #[v, .int .i64 0]) ∧ EversIs hist k n m f t S ∧ w'.ownsRow w.heap.size 9 1 v S.length (S.map Value.string) ∧ Below w.heap.size w w'
/-- A list of numbers that is read. -/
def IntsIn (w : World) (ao : Option Addr) (l : List Int) : Prop := ∀ (j : Nat) x, l[j]? = some x → ∃ b, ao = some ⟨b, 0, none⟩ ∧ w.cell? ⟨b, j, none⟩ = some (.int .i64 x)
theorem IntsIn.below {w w' : World} {ao : Option Addr} {l : List Int} (h : IntsIn w ao l) (hb : Below w.heap.size w w') : IntsIn w' ao l := fun j p hp => by
  obtain ⟨b, h1, h2⟩ := h j p hp
  exact ⟨b, h1, below_cell hb (World.block_lt_of_cell? w _ h2) h2⟩
theorem said_lenR {hist : List (List OpP)} (hok : ∀ l ∈ hist, l.all opB = true) (k : KeyP) (n : Nat) (t : Int) : (saidH hist k n t).size ≤ 100 := by
  have : ∀ (l : List OpP) (x : ByteArray), l.all opB = true → x.size ≤ 100 → (saidL l k t x).size ≤ 100 := fun l => by
    induction l with
    | nil => intro x _ h; exact h
    | cons o l ih =>
      intro x ha h
      simp only [List.all_cons, Bool.and_eq_true] at ha
      unfold saidL
      rw [List.foldl_cons]
      refine ih _ ha.2 ?_
      split
      · have h3 : o.value.size = 0 ∨ wordB o.value = true := by
          have := ha.1
          unfold opB at this
          simp only [Bool.and_eq_true, Bool.or_eq_true, decide_eq_true_eq] at this
          exact this.2.2
        rcases h3 with h3 | h3
        · omega
        · unfold wordB at h3
          simp only [Bool.and_eq_true, decide_eq_true_eq] at h3
          omega
      · exact h
  exact this _ _ (List.all_eq_true.2 fun o ho => by
    obtain ⟨l, hl, ho⟩ := List.mem_flatten.1 ho
    exact List.all_eq_true.1 (hok l (List.mem_of_mem_take hl)) o ho) (by decide)
theorem ownsRow_intsIn {w : World} {base n : Nat} {v : Value} {l : List Int} {e : TypeId} (h : w.ownsRow base e 1 v n (l.map (Value.int .i64))) : ∃ ao cap, v = .slice ao l.length cap ∧ IntsIn w ao l := by
  obtain ⟨ao, cap, h1, h2⟩ := ownsRow_intsB h
  exact ⟨ao, cap, h1, fun j x hx => by obtain ⟨b, e, _, hc⟩ := h2 j x hx; exact ⟨b, e, hc⟩⟩

section
variable {F : Nat → Prop} {rb : Nat} {hist : List (List OpP)} {known : Int}
set_option maxRecDepth 100000 in
set_option maxHeartbeats 8000000 in
theorem rpever_ok (k : KeyP) (n m : Nat) (f t : Int) (w : World) (h : RP F w rb hist known) (hs : k.word.size ≤ maxLen) (hb : everRE hist known k n m f t = 0) :
    Calls Tryz.prog 52 #[.pointer (some ⟨rb, 0, none⟩), .agg #[.int .i64 k.kind, .int .i64 k.a, .string k.word, .int .i64 k.b], .int .i64 (n : Nat), .int .i64 (m : Nat), .agg #[.int .i64 f, .int .i64 t]] w (EverR hist k n m f t w) := by
  obtain ⟨kk, ka, kw, kb⟩ := k
  obtain ⟨i0, hi, hz0, hz1, hz2⟩ := info_parts infoInt
  have hmm := @run_makeMap Tryz.prog
  obtain ⟨W0, hW0⟩ : ∃ W0, W0 = ((w.alloc (.cells #[.int .i64 kk, .int .i64 ka, .string kw, .int .i64 kb] 29)).alloc (.cells #[.int .i64 f, .int .i64 t] 44)).alloc (.cells #[.int .i64 (n : Nat), .int .i64 (m : Nat)] 3) := ⟨_, rfl⟩
  have hB0 : Below w.heap.size w W0 := by rw [hW0]; exact (((Below.refl _ _).alloc (Nat.le_refl _) _).alloc (by simp) _).alloc (by simp; omega) _
  have hA := rpask_any n W0 (h.below hB0)
  have hAb := rpask_any m W0 (h.below hB0)
  have hK := rkey_any kk ka kb kw W0 hs
  have hR := fun X => rright_any f t X
  unfold everRE at hb
  have ha0 : askR hist.length known n = 0 := by
    rcases Decidable.em (askR hist.length known n = 0) with e | e
    · exact e
    · rw [if_pos e] at hb; exact hb
  rw [if_neg (by rw [ha0]; decide)] at hb
  have hb0 : askR hist.length known m = 0 := by
    rcases Decidable.em (askR hist.length known m = 0) with e | e
    · exact e
    · rw [if_pos e] at hb; exact hb
  rw [if_neg (by rw [hb0]; decide)] at hb
  have hnm : n ≤ m := by
    rcases Nat.lt_or_ge m n with e | e
    · rw [if_pos (by omega)] at hb; exact absurd hb (by decide)
    · exact e
  rw [if_neg (by omega)] at hb
  have hkr : keyB ⟨kk, ka, kw, kb⟩ = true ∧ rightB f t = true := by
    cases hx : keyB ⟨kk, ka, kw, kb⟩ && rightB f t with
    | true => simpa using hx
    | false => rw [hx] at hb; exact absurd hb (by decide)
  obtain ⟨q1, q2, q3⟩ := askR_0 hb0
  have hmh : m ≤ hist.length := by omega
  rw [ha0] at hA
  rw [hb0] at hAb
  rw [hkr.1] at hK
  rw [hkr.2] at hR
  have hrb := rightB_bounds hkr.2
  have hcb : W0.heap[w.heap.size + 1 + 1]? = some (.cells #[.int .i64 (n : Nat), .int .i64 (m : Nat)] 3 (0, 0)) := by rw [hW0]; exact new_blk _ _ _ _ (by simp)
  have hkb : W0.heap[w.heap.size]? = some (.cells #[.int .i64 kk, .int .i64 ka, .string kw, .int .i64 kb] 29 (0, 0)) := by rw [hW0]; exact block_alloc (block_alloc (block_alloc_new _ _) _) _
  have hsb : W0.heap[w.heap.size + 1]? = some (.cells #[.int .i64 f, .int .i64 t] 44 (0, 0)) := by rw [hW0]; exact block_alloc (new_blk _ _ _ _ (by simp)) _
  have c0 : W0.cell? ⟨w.heap.size + 1 + 1, 0, none⟩ = some (.int .i64 (n : Nat)) := block_cell hcb 0
  have c1 : W0.cell? ⟨w.heap.size + 1 + 1, 1, none⟩ = some (.int .i64 (m : Nat)) := block_cell hcb 1
  have k0 : W0.cell? ⟨w.heap.size, 0, none⟩ = some (.int .i64 kk) := block_cell hkb 0
  have k1 : W0.cell? ⟨w.heap.size, 1, none⟩ = some (.int .i64 ka) := block_cell hkb 1
  have k2 : W0.cell? ⟨w.heap.size, 2, none⟩ = some (.string kw) := block_cell hkb 2
  have k3 : W0.cell? ⟨w.heap.size, 3, none⟩ = some (.int .i64 kb) := block_cell hkb 3
  have s0 : W0.cell? ⟨w.heap.size + 1, 0, none⟩ = some (.int .i64 f) := block_cell hsb 0
  have s1 : W0.cell? ⟨w.heap.size + 1, 1, none⟩ = some (.int .i64 t) := block_cell hsb 1
  have hsz : W0.heap.size = w.heap.size + 3 := by rw [hW0]; simp
  have hq0 : w.heap.size < W0.heap.size := by omega
  have hq1 : w.heap.size + 1 < W0.heap.size := by omega
  have hq2 : w.heap.size + 1 + 1 < W0.heap.size := by omega
  have hP0 := h.below hB0
  have hfl := flatten_len hist h.ok
  have hlen := h.len
  have hsl := spK_len hist.flatten ⟨kk, ka, kw, kb⟩
  have HOKH := Lib.hid (fun (l : List OpP) (hl : l ∈ hist) => (okL_iff.1 (h.ok l hl)).2)
  have hnm' : (n : Int) ≤ (m : Int) := by omega
  have hm150 : m ≤ 150 := by omega
  have HA := Lib.hid hA
  have HAB := Lib.hid hAb
  have HK := Lib.hid hK
  have HR := Lib.hid hR
  have HB0 := Lib.hid hB0
  have HP0 := Lib.hid hP0
  have HKB := Lib.hid hkb
  have HSB := Lib.hid hsb
  have HW0 := Lib.hid hW0
  clear hA hAb hK hR hB0 hW0 h hsz hb ha0 hb0 hkr hcb hkb hsb hP0
  go_enter Tryz.func52, Tryz.ntmps52
  go_wp2_with fail
  rw [← HW0.out]
  refine wp_loop_rounds 3 ?_
  rw [rounds_succ]
  go_wp2_with fail
  refine HA.out.mono ?_
  rintro e w1 ⟨rfl, rfl⟩
  go_wp2_with fail
  rw [rounds_succ]
  go_wp2_with fail
  refine HAB.out.mono ?_
  rintro e w1 ⟨rfl, rfl⟩
  go_wp2_with fail
  rw [rounds_succ]
  go_wp2_with fail
  refine HK.out.mono ?_
  rintro e w2 ⟨rfl, b2⟩
  have s0 := below_cell b2 hq1 s0
  have s1 := below_cell b2 hq1 s1
  have hq12 := Nat.lt_of_lt_of_le hq1 b2.size
  have B2 := Lib.hid b2
  clear b2
  go_wp2_with fail
  refine (HR.out _).mono ?_
  rintro e w3 ⟨rfl, b3⟩
  have HB13 := Lib.hid (below_trans B2.out B2.out.size b3)
  clear b3 s0 s1 c0 c1 k0 k1 k2 k3 HK HR HA HAB
  go_wp2_with fail
  obtain ⟨mb, hmb⟩ : ∃ mb, mb = w3.heap.size := ⟨_, rfl⟩
  obtain ⟨W4, hW4⟩ : ∃ W4, W4 = w3.alloc (.map #[] 0) := ⟨_, rfl⟩
  have ho4 : W4.ownsMap Tryz.prog 9 boolR mb 0 (.map []) := by rw [hW4, hmb]; exact World.ownsMap_made _ _ _ _
  have b34 : Below w3.heap.size w3 W4 := by rw [hW4]; exact (Below.refl _ _).alloc (Nat.le_refl _) _
  have hP3 := HP0.out.below HB13.out
  have hkb3 := (HB13.out.block _ hq0).trans HKB.out
  have hsb3 := (HB13.out.block _ hq1).trans HSB.out
  have hb03 := HB0.out.trans (HB13.out.mono HB0.out.size)
  have hq03 := lt_of_block hkb3
  have hq13 := lt_of_block hsb3
  rw [← hW4, ← hmb]
  have hEm : ∀ e, isEnd hist.flatten ⟨kk, ka, kw, kb⟩ e → e ∈ sortI (endsL (spK hist.flatten ⟨kk, ka, kw, kb⟩)) := fun e he => mem_ends he
  have hE24 : (sortI (endsL (spK hist.flatten ⟨kk, ka, kw, kb⟩))).length ≤ 2400 := by rw [sortI_length, endsL_length]; omega
  have hCE : ∀ X, Below w3.heap.size w3 X → Calls Tryz.prog 90 #[.pointer (some ⟨rb, 0, none⟩), .agg #[.int .i64 kk, .int .i64 ka, .string kw, .int .i64 kb]] X fun e w' => ∃ v, e = .returned v ∧ w'.ownsRow X.heap.size 3 1 v (sortI (endsL (spK hist.flatten ⟨kk, ka, kw, kb⟩))).length ((sortI (endsL (spK hist.flatten ⟨kk, ka, kw, kb⟩))).map (Value.int .i64)) ∧ Below X.heap.size X w' := fun X hX => by
    have := rpends_any ⟨kk, ka, kw, kb⟩ X (hP3.below hX)
    rw [show (endsL (spK hist.flatten ⟨kk, ka, kw, kb⟩)).length = (sortI (endsL (spK hist.flatten ⟨kk, ka, kw, kb⟩))).length from (sortI_length _).symm] at this
    exact this
  generalize sortI (endsL (spK hist.flatten ⟨kk, ka, kw, kb⟩)) = E at *
  have HO4 := Lib.hid ho4
  have B34 := Lib.hid b34
  have HMB := Lib.hid hmb
  have HP3 := Lib.hid hP3
  have HKB3 := Lib.hid hkb3
  have HSB3 := Lib.hid hsb3
  have HB03 := Lib.hid hb03
  have HEM := Lib.hid hEm
  have HCE := Lib.hid hCE
  clear hmb hW4 ho4 b34 hP3 hkb3 hsb3 hb03 hEm hCE hfl hsl
  go_loopw [16] (fun v X => ∃ i : Nat, n ≤ i ∧ i ≤ m + 1 ∧ v = .int .i64 i ∧ ∃ (c : Nat) (M : List ByteArray), HadIs X mb c M ∧ (∀ x, x ∈ M ↔ evB hist ⟨kk, ka, kw, kb⟩ (E ++ [f]) f t n i 0 x) ∧ c ≤ i * 2401 ∧ Below w3.heap.size w3 X) (fun v _ => m + 1 - (intOf v).toNat)
  case atStart => exact ⟨n, Nat.le_refl _, by omega, rfl, 0, [], ⟨List.nodup_nil, _, HO4.out, mapOf_nil⟩, fun x => ⟨(fun h => by cases h), fun h => absurd h (evB_zero x)⟩, Nat.zero_le _, B34.out⟩
  case round =>
    obtain ⟨i, hi1, hi2, rfl, c, M, hM, hmem, hc, hb⟩ := hrel
    by_cases hlt : i ≤ m
    · have ii0 : (0 : Int) ≤ (i : Int) := by omega
      have ii1 : (i : Int) ≤ (m : Int) := by omega
      have kxb := (hb.block _ hq03).trans HKB3.out
      have sxb := (hb.block _ hq13).trans HSB3.out
      have k0 : wr.cell? ⟨w.heap.size, 0, none⟩ = some (.int .i64 kk) := block_cell kxb 0
      have k1 : wr.cell? ⟨w.heap.size, 1, none⟩ = some (.int .i64 ka) := block_cell kxb 1
      have k2 : wr.cell? ⟨w.heap.size, 2, none⟩ = some (.string kw) := block_cell kxb 2
      have k3 : wr.cell? ⟨w.heap.size, 3, none⟩ = some (.int .i64 kb) := block_cell kxb 3
      have s0 : wr.cell? ⟨w.heap.size + 1, 0, none⟩ = some (.int .i64 f) := block_cell sxb 0
      have hkl := lt_of_block kxb
      have hsl := lt_of_block sxb
      have CE := Lib.hid fun X (hX : Below wr.heap.size wr X) => HCE.out X (below_trans hb hb.size hX)
      have hmbl : mb < wr.heap.size := by obtain ⟨D, ho, _⟩ := hM.own; exact ho.lt
      have HM := Lib.hid hM
      have HMEM := Lib.hid hmem
      have HB := Lib.hid hb
      clear kxb sxb hM hmem hb
      go_upto_region 16 with fail
      go_cut [60, 61, 62] (fun v l z X => (∃ ao ca, v = .slice ao (E.length + 1) ca ∧ IntsIn X ao (E ++ [f]) ∧ ∀ b, ao = some ⟨b, 0, none⟩ → b ≠ mb) ∧ l = .int .i64 ((E.length : Int) + 1) ∧ z = .int .i64 0 ∧ Below wr.heap.size wr X)
      case first =>
        have s0' := s0
        have hA1 : Below wr.heap.size wr (wr.alloc (.cells #[.int .i64 f] 3)).drew := ((Below.refl _ _).alloc (Nat.le_refl _) _).drew
        have hA3 : wr.heap.size < ((wr.alloc (.cells #[.int .i64 f] 3)).drew).heap.size := by show wr.heap.size < (wr.heap.push _).size; simp
        have hA2 : wr.heap.size ≤ ((wr.alloc (.cells #[.int .i64 f] 3)).drew).heap.size := Nat.le_of_lt hA3
        have hA4 : ((wr.alloc (.cells #[.int .i64 f] 3)).drew).cell? ⟨wr.heap.size, 0, none⟩ = some (.int .i64 f) := new_cell wr _ _ _ rfl 0 _ rfl
        have HA1 := Lib.hid hA1
        have HA4 := Lib.hid hA4
        clear hA1 hA4
        go_region_held3 (fun X => X.cell? ⟨w.heap.size, 0, none⟩ = some (.int .i64 kk) ∧ X.cell? ⟨w.heap.size, 1, none⟩ = some (.int .i64 ka) ∧ X.cell? ⟨w.heap.size, 2, none⟩ = some (.string kw) ∧ X.cell? ⟨w.heap.size, 3, none⟩ = some (.int .i64 kb) ∧ X.cell? ⟨w.heap.size + 1, 0, none⟩ = some (.int .i64 f))
          (first | exact ⟨k0, k1, k2, k3, s0⟩ | exact hS6 | exact ⟨below_cell (B6.alloc S6 _) hkl k0, below_cell (B6.alloc S6 _) hkl k1, below_cell (B6.alloc S6 _) hkl k2, below_cell (B6.alloc S6 _) hkl k3, below_cell (B6.alloc S6 _) hsl s0'⟩ | exact ⟨below_cell ((Below.refl _ _).drew.alloc (Nat.le_refl _) _) hkl k0, below_cell ((Below.refl _ _).drew.alloc (Nat.le_refl _) _) hkl k1, below_cell ((Below.refl _ _).drew.alloc (Nat.le_refl _) _) hkl k2, below_cell ((Below.refl _ _).drew.alloc (Nat.le_refl _) _) hkl k3, below_cell ((Below.refl _ _).drew.alloc (Nat.le_refl _) _) hsl s0⟩ | exact hS7)
          (first
          | (go_at_call 90; (with_reducible refine (CE.out _ (Below.refl _ _).drew).mono ?_); rintro e w6 ⟨v6, rfl, own6, b6⟩; have B6 : Below wr.heap.size wr w6 := (Below.refl _ _).drew.trans b6; have O6 := ownsRow_mono own6 (show wr.heap.size ≤ wr.drew.heap.size from Nat.le_refl _); have S6 : wr.heap.size ≤ w6.heap.size := B6.size; have C6 : ∀ j u, [Value.int .i64 f][j]? = some u → (w6.alloc (.cells #[.int .i64 f] 3)).cell? ((⟨w6.heap.size, 0, none⟩ : Addr).add j) = some u := (fun j u hu => by rw [add_at]; match j, hu with | 0, hu => simp at hu; subst hu; simp); have hS6 := And.intro (below_cell B6 hkl k0) (And.intro (below_cell B6 hkl k1) (And.intro (below_cell B6 hkl k2) (And.intro (below_cell B6 hkl k3) (below_cell B6 hsl s0)))); clear own6 b6)
          | (go_at_call 90; (with_reducible refine (CE.out _ HA1.out).mono ?_); rintro e w6 ⟨v6, rfl, own6, b6⟩; have B6 : Below wr.heap.size wr w6 := HA1.out.trans (b6.mono hA2); have O6 := ownsRow_mono own6 hA2; have S6 : wr.heap.size < w6.heap.size := Nat.lt_of_lt_of_le hA3 b6.size; have C6 : ∀ j u, [Value.int .i64 f][j]? = some u → w6.cell? ((⟨wr.heap.size, 0, none⟩ : Addr).add j) = some u := (fun j u hu => by rw [add_at]; match j, hu with | 0, hu => simp at hu; subst hu; exact below_cell b6 hA3 HA4.out); have hS6 := And.intro (below_cell B6 hkl k0) (And.intro (below_cell B6 hkl k1) (And.intro (below_cell B6 hkl k2) (And.intro (below_cell B6 hkl k3) (below_cell B6 hsl s0)))); clear own6 b6)
          | (refine step_append_own rfl _ _ 59 rfl wr.heap.size 3 i0 (.int .i64 0) 1 8 Tryz.underlying59 hi hz0 hz1 hz2 rfl (by decide) v6 E.length (E.map (Value.int .i64)) rfl (O6.alloc _) ⟨w6.heap.size, 0, none⟩ 1 1 [.int .i64 f] rfl rfl C6 (by simp [Value.oneCell']) (by unfold maxLen; omega) (by omega) (by simp; omega) ?_; intro v7 w7 hown7 hgrow7 _; have hown7' : w7.ownsRow wr.heap.size 3 1 v7 (E.length + 1) ((E ++ [f]).map (Value.int .i64)) := (by rw [List.map_append]; exact hown7); obtain ⟨ao7, c7, hv7, hin7⟩ := ownsRow_intsIn hown7'; rw [List.length_append, List.length_singleton] at hv7; subst hv7; have hne7 : ∀ b, ao7 = some ⟨b, 0, none⟩ → b ≠ mb := (fun b e => (by subst e; have := (hown7.lt b rfl).1; omega)); have B7 := (B6.alloc S6 _).grown hgrow7 (by simp; omega) (fun q hq => (O6.lt q hq).1); have hS7 := And.intro (below_cell B7 hkl k0) (And.intro (below_cell B7 hkl k1) (And.intro (below_cell B7 hkl k2) (And.intro (below_cell B7 hkl k3) (below_cell B7 hsl s0)))))
          | (refine step_append_own rfl _ _ 59 rfl wr.heap.size 3 i0 (.int .i64 0) 1 8 Tryz.underlying59 hi hz0 hz1 hz2 rfl (by decide) v6 E.length (E.map (Value.int .i64)) rfl O6 ⟨wr.heap.size, 0, none⟩ 1 1 [.int .i64 f] rfl rfl C6 (by simp [Value.oneCell']) (by unfold maxLen; omega) (by omega) (by omega) ?_; intro v7 w7 hown7 hgrow7 _; have hown7' : w7.ownsRow wr.heap.size 3 1 v7 (E.length + 1) ((E ++ [f]).map (Value.int .i64)) := (by rw [List.map_append]; exact hown7); obtain ⟨ao7, c7, hv7, hin7⟩ := ownsRow_intsIn hown7'; rw [List.length_append, List.length_singleton] at hv7; subst hv7; have hne7 : ∀ b, ao7 = some ⟨b, 0, none⟩ → b ≠ mb := (fun b e => (by subst e; have := (hown7.lt b rfl).1; omega)); have B7 := B6.grown hgrow7 (by omega) (fun q hq => (O6.lt q hq).1); have hS7 := And.intro (below_cell B7 hkl k0) (And.intro (below_cell B7 hkl k1) (And.intro (below_cell B7 hkl k2) (And.intro (below_cell B7 hkl k3) (below_cell B7 hsl s0))))))
        all_goals (go_wp2_with fail; go_meet; exact ⟨⟨_, _, rfl, hin7, hne7⟩, rfl, rfl, B7⟩)
      case rest =>
        obtain ⟨⟨ao, ca, rfl, hin, hne⟩, rfl, rfl, hbc⟩ := hcut
        have hM6 := HM.out.frame (F := fun _ => False) (Fr.new hbc) (fun e => e)
        have hb6 := below_trans HB.out HB.out.size hbc
        have hmb6 : mb < wc.heap.size := Nat.lt_of_lt_of_le hmbl hbc.size
        have HIN := Lib.hid hin
        have HNE := Lib.hid hne
        have HM6 := Lib.hid hM6
        have HB6 := Lib.hid hb6
        clear hin hne hbc hM6 hb6 k0 k1 k2 k3 s0 CE HM HB hmbl hkl hsl
        go_wp2_with fail
        go_loopw [62] (fun v X => ∃ j : Nat, j ≤ E.length + 1 ∧ v = .int .i64 j ∧ ∃ (c : Nat) (M : List ByteArray), HadIs X mb c M ∧ (∀ x, x ∈ M ↔ evB hist ⟨kk, ka, kw, kb⟩ (E ++ [f]) f t n i j x) ∧ c ≤ i * 2401 + j ∧ Fr (· = mb) wc X) (fun v _ => E.length + 1 - (intOf v).toNat)
        case atStart => exact ⟨0, Nat.zero_le _, rfl, c, M, HM6.out, HMEM.out, by omega, Fr.refl _ _⟩
        case round =>
          obtain ⟨j, hj, rfl, c, M, hM, hmem, hc, hfr⟩ := hrel
          have hbX : Below w3.heap.size w3 wr := HB6.out.trans (hfr.below (B := w3.heap.size) (fun k _ e => by have := HMB.out; omega) HB6.out.size)
          by_cases hjl : j < E.length + 1
          · obtain ⟨e, he⟩ : ∃ e, (E ++ [f])[j]? = some e := ⟨_, List.getElem?_eq_getElem (by rw [List.length_append]; exact hjl)⟩
            obtain ⟨be, rfl, ce⟩ := HIN.out j e he
            have hbe := World.block_lt_of_cell? wc _ ce
            have ce := (World.cell?_of_block (a := ⟨be, j, none⟩) (hfr.block be hbe (HNE.out be rfl))).trans ce
            have hbe2 : be < wr.heap.size := Nat.lt_of_lt_of_le hbe hfr.size
            have kxb := (hbX.block _ hq03).trans HKB3.out
            have sxb := (hbX.block _ hq13).trans HSB3.out
            have k0 : wr.cell? ⟨w.heap.size, 0, none⟩ = some (.int .i64 kk) := block_cell kxb 0
            have k1 : wr.cell? ⟨w.heap.size, 1, none⟩ = some (.int .i64 ka) := block_cell kxb 1
            have k2 : wr.cell? ⟨w.heap.size, 2, none⟩ = some (.string kw) := block_cell kxb 2
            have k3 : wr.cell? ⟨w.heap.size, 3, none⟩ = some (.int .i64 kb) := block_cell kxb 3
            have s0 : wr.cell? ⟨w.heap.size + 1, 0, none⟩ = some (.int .i64 f) := block_cell sxb 0
            have s1 : wr.cell? ⟨w.heap.size + 1, 1, none⟩ = some (.int .i64 t) := block_cell sxb 1
            have hkl := lt_of_block kxb
            have hsl := lt_of_block sxb
            have j0 : (0 : Int) ≤ (j : Int) := by omega
            have j1 : (j : Int) < (E.length : Int) + 1 := by omega
            have HH := fun X => rhas_any f t e X
            have HM := Lib.hid hM
            have HMEM2 := Lib.hid hmem
            have HFR := Lib.hid hfr
            have HBX := Lib.hid hbX
            clear hM hmem hfr hbX kxb sxb
            by_cases hh : f ≤ e ∧ e < t
            · rw [show hasB f t e = true from decide_eq_true hh] at HH
              have HH := Lib.hid HH
              have hst := fun z => evB_in (hist := hist) (k := ⟨kk, ka, kw, kb⟩) (n := n) (i := i) he hh z
              have hsz := said_lenR HOKH.out ⟨kk, ka, kw, kb⟩ i e
              have hsd := fun X hX => rpsaid_any ⟨kk, ka, kw, kb⟩ i e X (HP3.out.below hX) (by omega)
              generalize saidH hist ⟨kk, ka, kw, kb⟩ i e = x at hst hsz hsd
              have hszm : x.size ≤ maxLen := by unfold maxLen; omega
              have HSZ := Lib.hid hszm
              have HSD := Lib.hid hsd
              have HST := Lib.hid hst
              clear hst hszm hsz hsd hh he
              go_wp2_with fail
              refine (HH.out _).mono ?_
              rintro e1 w7 ⟨rfl, b7⟩
              have k0 := below_cell b7 hkl k0
              have k1 := below_cell b7 hkl k1
              have k2 := below_cell b7 hkl k2
              have k3 := below_cell b7 hkl k3
              have hkl7 := Nat.lt_of_lt_of_le hkl b7.size
              have CS := Lib.hid (HSD.out w7 (below_trans HBX.out HBX.out.size b7))
              have B7 := Lib.hid b7
              clear b7 ce s0 s1
              go_wp2_with (first
                | (go_at_call 89; (with_reducible refine CS.out.mono ?_); rintro e1 w8 ⟨rfl, b8⟩; have B78 := Lib.hid (below_trans B7.out B7.out.size b8); obtain ⟨D, hown, hD⟩ := (HM.out.frame (F := fun _ => False) (Fr.new B78.out) (fun e => e)).own; obtain ⟨L', n', hD', hm'⟩ := had_put HM.out.nod hD x; have HD' := Lib.hid hD'; have HN' := Lib.hid n'; have HOW := Lib.hid hown; have HMM := Lib.hid hm'; clear b8 hown hD hD' n' hm')
                | (at_mapUpdate; refine wpList_mapUpdate_own _ rfl _ _ _ 57 rfl 9 4 strLaw Tryz.underlying57 boolR mb c D rfl HOW.out (by unfold maxLen; omega) _ _ _ rfl rfl (keyOf_str HSZ.out) boolD [] rfl ?_; intro w9 hown9 hgrow9))
              have hfr9 : Fr (· = mb) wc w9 := (HFR.out.trans (Fr.new B78.out)).trans (Fr.ofGrown hgrow9)
              exact ⟨⟨j + 1, by omega, by go_num, c + 1, L', ⟨HN'.out, _, hown9, HD'.out⟩, fun z => by rw [HMM.out, HST.out, HMEM2.out], by omega, hfr9⟩, by simp [intOf]; omega⟩
            · rw [show hasB f t e = false from decide_eq_false hh] at HH
              have HH := Lib.hid HH
              have hst := fun z => evB_out (hist := hist) (k := ⟨kk, ka, kw, kb⟩) (n := n) (i := i) he hh z
              have HST := Lib.hid hst
              clear hst hh he
              go_wp2_with fail
              refine (HH.out _).mono ?_
              rintro e1 w7 ⟨rfl, b7⟩
              have B7 := Lib.hid b7
              clear b7 ce s0 s1 k0 k1 k2 k3
              go_wp2_with fail
              exact ⟨⟨j + 1, by omega, by go_num, c, M, HM.out.frame (F := fun _ => False) (Fr.new B7.out) (fun e => e), fun z => by rw [HST.out, HMEM2.out], by omega, HFR.out.trans (Fr.new B7.out)⟩, by simp [intOf]; omega⟩
          · obtain rfl : j = E.length + 1 := by omega
            have hmem2 : ∀ x, x ∈ M ↔ evB hist ⟨kk, ka, kw, kb⟩ (E ++ [f]) f t n (i + 1) 0 x := fun x => by
              rw [hmem, ← evB_next hi1, List.length_append]; rfl
            have HM2 := Lib.hid hM
            have HMEM3 := Lib.hid hmem2
            have HBX := Lib.hid hbX
            clear hM hmem hmem2 hfr hbX
            go_wp2_with fail
            exact ⟨⟨i + 1, by omega, by omega, by go_num, c, M, HM2.out, HMEM3.out, by omega, HBX.out⟩, by simp [intOf]; omega⟩
    · obtain rfl : i = m + 1 := by omega
      generalize wr = W9 at *
      obtain ⟨D, hown, hD⟩ := hM.own
      have hmbl : mb < W9.heap.size := hown.lt
      have hhas : ∀ x ∈ M, Maps.has D (sK x) = true := fun x hx => (hD.has _ (sK_key _)).2 ⟨x, hx, rfl⟩
      have hcM : M.length ≤ c := by
        have := hown.size_le
        rw [hD.size] at this
        exact this
      have hxs : ∀ x ∈ M, x.size ≤ maxLen := fun x hx => by
        have : x.size ≤ 100 := by
          rcases (hmem x).1 hx with ⟨i', _, _, e, _, _, h⟩ | ⟨e, _, _, h⟩
          · rw [← h]; exact said_lenR HOKH.out _ _ _
          · rw [← h]; exact said_lenR HOKH.out _ _ _
        unfold maxLen; omega
      have hsz := hD.size
      have HST := Lib.hid (TL.start (M := M) hhas)
      have HD := Lib.hid hD
      have HSZ := Lib.hid hsz
      have HMEM := Lib.hid hmem
      have HB := Lib.hid hb
      have HXS := Lib.hid hxs
      clear hM hhas hD hmem hb hsz hxs
      go_wp2_with (at_range; refine wpList_range_own _ rfl _ 57 rfl 9 4 strLaw Tryz.underlying57 boolR mb c D rfl hown ?_; intro w5 hrg hgr hs5)
      go_frame
      have hB5 : Below W9.heap.size W9 w5 := ⟨hgr.os, hgr.tape, hgr.output, hgr.size, fun i hi' => hgr.block i hi' (by simp)⟩
      obtain ⟨r, hr⟩ : ∃ r, r = W9.heap.size := ⟨_, rfl⟩
      have hrg' : w5.ranges Tryz.prog 9 boolR mb r c D (Maps.has D) (Maps.size D) := by rw [hr]; exact hrg
      have HB5 := Lib.hid hB5
      have HRG' := Lib.hid hrg'
      have HS5 := Lib.hid hs5
      have HRE := Lib.hid hr
      have hmr : mb < r := by rw [hr]; exact hmbl
      rw [← hr]
      clear hgr hB5 hrg hs5 hown hrg' hr
      go_loopw [19] (fun v X => ∃ (left : Lit → Bool) (cnt : Nat) (U : List ByteArray), X.ranges Tryz.prog 9 boolR mb r c D left cnt ∧ TL M left U ∧ U.length + cnt ≤ M.length ∧ X.ownsRow (r + 1) 9 1 v U.length (U.map Value.string) ∧ Below r W9 X ∧ r < X.heap.size ∧ (∀ q, left q = true → Maps.has D q = true)) (fun _ X => X.rangeLeft mb r)
      case atStart => exact ⟨_, _, [], HRG'.out, HST.out, by rw [HSZ.out]; simp, World.ownsRow_nil _ _ _ _, by rw [HRE.out]; exact HB5.out, by have := HS5.out; have := HRE.out; omega, fun _ e => e⟩
      case round =>
        obtain ⟨left, cnt, U, hrg, hTL, hcnt, hownU, hBr, hrl, hsub⟩ := hrel
        have HTL := Lib.hid hTL
        have HBR := Lib.hid hBr
        have HSUB := Lib.hid hsub
        have HRGW := Lib.hid hrg
        clear hTL hBr hsub
        go_wp2_with (at_next; refine wpList_next_raw _ rfl _ rfl 9 strLaw boolR mb r c D left cnt rfl hrg ?_ ?_)
        · intro hc0 hl0
          have HL0 := Lib.hid hl0
          have HO := Lib.hid hownU
          have hUl : U.length < 4611686018427387904 := by omega
          clear hl0 hc0 hrg hownU
          go_wp2_with (go_at_call 93; (with_reducible refine (sortTexts_own (r + 1) U _ wr HO.out (by omega) hUl HTL.out.nod).mono ?_); rintro e w6 ⟨rfl, ⟨S, hS1, hS2, hS3, hS4⟩, b6⟩; have HS1 := Lib.hid hS1; have HS2 := Lib.hid hS2; have HS3 := Lib.hid hS3; have HS4 := Lib.hid hS4; have B6 := Lib.hid b6; clear hS1 hS2 hS3 hS4 b6)
          go_ret2
          have hb9 : Below w.heap.size w W9 := HB03.out.trans (HB.out.mono HB03.out.size)
          have hb10 : Below r W9 w6 := HBR.out.trans (B6.out.mono (by omega))
          have hb11 : Below w.heap.size w w6 := hb9.trans (hb10.mono (by rw [HRE.out]; exact hb9.size))
          refine ⟨_, S, rfl, ⟨HS2.out, fun x => ?_⟩, ownsRow_mono HS4.out (by have := hb9.size; have := HRE.out; omega), hb11⟩
          rw [HS3.out, HTL.out.done HL0.out, HMEM.out]
          constructor
          · rintro ⟨h1, h2⟩
            exact (evB_all HEM.out h2).1 h1
          · intro h1
            exact ⟨(evB_all HEM.out h1.1).2 h1, h1.1⟩
        · intro key v kl y1 y2 w6 cnt3 hkey hlk hv hat hrg3 hlt3 hgr3 hs3 hen
          obtain ⟨x, hx, e⟩ := HD.out.got (strLaw.key hkey) (HSUB.out _ hlk)
          have ek : key = .string x := strLaw.inj hkey (by rw [← e]; exact keyOf_str (HXS.out x hx))
          subst ek
          have ekl : kl = sK x := e.symm
          subst ekl
          have hF3 : Fr (· = r) wr w6 := Fr.ofGrown hgr3
          have hB3 : Below r W9 w6 := HBR.out.trans (hF3.below (B := r) (fun k _ e => by omega) (by omega))
          have hown3 := ownsRow_frame hownU hF3 (fun g hg e => by omega)
          have hsub3 : ∀ q, (left q && !q.sameKey (sK x)) = true → Maps.has D q = true := fun q hq => HSUB.out q (by rw [Bool.and_eq_true] at hq; exact hq.1)
          have HRG3 := Lib.hid hrg3
          have HB3 := Lib.hid hB3
          have HSUB3 := Lib.hid hsub3
          have HO3 := Lib.hid hown3
          have hrl3 : r < w6.heap.size := by omega
          have frame : ∀ W, Below (r + 1) w6 W → W.ranges Tryz.prog 9 boolR mb r c D (fun z => left z && !z.sameKey (sK x)) cnt3 := fun W hB => ranges_frame HRG3.out (Fr.ofBelow hB) (by omega) (by omega)
          have HFRM := Lib.hid frame
          have hrr : r + 1 ≤ w6.heap.size := by omega
          rcases Nat.eq_zero_or_pos x.size with h0 | h0
          · have hv1 := isE0 h0
            have HN := Lib.hid (HTL.out.no h0)
            clear frame hrg3 hB3 hsub3 hown3 hF3 hgr3 hat hv hkey e h0 hx hlk
            go_wp2_with fail
            go_roundw
            case rel =>
              (repeat apply Exists.intro)
              exact ⟨⟨_, cnt3, U, HRG3.out, HN.out, by omega, HO3.out, HB3.out, hrl3, HSUB3.out⟩, rfl⟩
            case measure => rw [HRG3.out.left_eq, HRGW.out.left_eq]; exact hlt3
          · have h1 : x.size ≠ 0 := by omega
            have hv1 := isE1 h1
            have HN := Lib.hid (HTL.out.yes hx hlk h1)
            clear frame hrg3 hB3 hsub3 hown3 hF3 hgr3 hat hv hkey e h0 h1 hx hlk hs3
            go_wp2_with (at_builtin; refine appText rfl _ _ rfl (r + 1) _ U rfl (HO3.out.alloc _) w6.heap.size x rfl (by simp) (by omega) (by simp; omega) w6 ((Below.refl _ _).alloc hrr _) ?_; intro v8 w8 hown8 hB8 hs8 _)
            go_roundw
            case rel =>
              (repeat apply Exists.intro)
              exact ⟨⟨_, cnt3, U ++ [x], HFRM.out _ hB8, HN.out, by rw [List.length_append, List.length_singleton]; omega, hown8, HB3.out.trans (hB8.mono (by omega)), by have := hB8.size; omega, HSUB3.out⟩, rfl⟩
            case measure => rw [(HFRM.out _ hB8).left_eq, HRGW.out.left_eq]; exact hlt3
end
end Go.Proofs.YtacedfcckkpciaaGreatDoor
