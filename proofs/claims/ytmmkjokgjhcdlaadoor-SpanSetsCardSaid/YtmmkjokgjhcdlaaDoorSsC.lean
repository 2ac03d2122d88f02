/- SpanSets: where both slices may be. -/
import Derived.Test.YtmmkjokgjhcdlaaDoorSsA
namespace Go.Proofs.YtmmkjokgjhcdlaaDoor
open Go.RowKit Go.Shelf Go.Sort

theorem same_self (a b : Option Addr) (ca cb : Nat) (l : List (Int × Int)) (w : World) (ha : spansAt w a l) (hb : spansAt w b l) (hl : l.length ≤ maxLen) :
    Calls Tryd.prog 9 #[.slice a l.length ca, .slice b l.length cb] w fun e w' => e = .returned (.bool true) ∧ Below w.heap.size w w' :=
  (sameSpans_any a b ca cb l l w ha hb hl hl).mono fun _ _ ⟨h1, n, h2⟩ => ⟨by rw [h1, decide_eq_true rfl], by rw [h2]; exact below_drewN (Below.refl _ _) n⟩
theorem spans_at (b : Nat) (l : List (Int × Int)) (w : World) (hs : setAt w b l) :
    Calls Tryd.prog 10 #[.pointer (some ⟨b, 0, none⟩)] w fun e w' => ∃ ao cap, e = .returned (.slice ao l.length cap) ∧ spansAt w' ao l ∧ Below w.heap.size w w' :=
  (spans_any b l w hs).mono fun _ _ ⟨v, h1, h2, h3⟩ => by obtain ⟨ao, cap, rfl, h4⟩ := ownsRow_spans h2; exact ⟨ao, cap, h1, h4, h3⟩

/-- How many rounds are left. -/
def msr (v : Value) (w : World) : Nat := match v with
  | .pointer (some a) => 3 - (intOf ((w.cell? a).getD .nilIface)).toNat
  | _ => 0
theorem msr_of {w : World} {b : Nat} {n : Int} (h : w.cell? ⟨b, 0, none⟩ = some (.int .i64 n)) : msr (.pointer (some ⟨b, 0, none⟩)) w = 3 - n.toNat := by
  unfold msr; simp only [h]; rfl
theorem rightL_snoc {l : List (Int × Int)} {k : Nat} {p q : Int} (h : l[k]? = some (p, q)) (hr : rightL (l.take k)) (hpq : rightB p q = true) : rightL (l.take (k + 1)) := by
  rw [List.take_add_one, h]
  intro x hx
  rcases List.mem_append.1 hx with hx | hx
  · exact hr x hx
  · simp at hx; subst hx; exact hpq

theorem keepP {_w W X Y : World} {bp ba : Nat} {P : List (Int × Int)} {ap : Option Addr} {u : Value} (h : X.cell? ⟨bp, 0, none⟩ = some u ∧ setAt X ba P ∧ spansAt X ap P ∧ Below W.heap.size W X ∧ bp < X.heap.size) (hb : Below X.heap.size X Y) :
    Y.cell? ⟨bp, 0, none⟩ = some u ∧ setAt Y ba P ∧ spansAt Y ap P ∧ Below W.heap.size W Y ∧ bp < Y.heap.size :=
  ⟨below_cell hb h.2.2.2.2 h.1, h.2.1.below hb, h.2.2.1.below hb, below_step h.2.2.2.1 hb, Nat.lt_of_lt_of_le h.2.2.2.2 hb.size⟩

set_option maxRecDepth 100000 in
set_option maxHeartbeats 4000000 in
theorem spanSets_good (x y : List (Int × Int)) (ax ay : Option Addr) (cx cy : Nat) (t : Int) (w : World) (hg : ErrVar w) (hx : spansAt w ax x) (hy : spansAt w ay y) (hr : rightL x) (hlx : x.length ≤ 90) (hly : y.length ≤ 90) (hp60 : (canon x).length ≤ 60) :
    Calls Tryd.prog 3 #[.slice ax x.length cx, .slice ay y.length cy, .int .i64 t] w fun e w' => e = .returned (.bool true) ∧ Below w.heap.size w w' := by
  obtain ⟨P, hP⟩ : ∃ P, P = canon x := ⟨_, rfl⟩
  have nP : Norm P := by rw [hP]; exact (canon_spec x (right_pos hr)).1
  have rP : rightL P := by rw [hP]; exact canon_right x hr
  have eP : refOf x = P := by rw [hP]; exact refOf_eq x hr
  rw [← hP] at hp60
  have hpm : P.length ≤ maxLen := by unfold maxLen; omega
  have NP := Lib.hid nP
  have RP := Lib.hid rP
  have EP := Lib.hid eP
  have HP := Lib.hid hP
  have HR := Lib.hid hr
  clear nP rP eP hP hr
  go_enter Tryd.func3, Tryd.ntmps3
  go_wp2_with (go_at_call 4; refine (bareF_any 0 _).mono ?_; rintro e w1 ⟨rfl, b1⟩)
  obtain ⟨W, hW⟩ : ∃ W, W = w1.alloc (.cells #[.int .i64 0, .int .i64 (-1)] 25) := ⟨_, rfl⟩
  rw [← hW]
  have hB1 : Below w.heap.size w W := by rw [hW]; exact b1.alloc b1.size _
  have hbb : w1.heap.size < W.heap.size := by rw [hW]; simp
  have c0 : W.cell? ⟨w1.heap.size, 0, none⟩ = some (.int .i64 0) := by rw [hW]; simp
  generalize w1.heap.size = bb at *
  clear hW b1
  have hx1 := hx.below hB1
  have hy1 := hy.below hB1
  have hg1 := hg.below hB1
  have HB1 := Lib.hid hB1
  clear hx hg hB1 hy
  go_loopw [8] (fun i wr => ∃ k : Nat, i = .int .i64 k ∧ k ≤ x.length ∧ Below W.heap.size W wr) (fun i _ => x.length - (intOf i).toNat)
  case atStart => exact ⟨0, rfl, by omega, Below.refl _ _⟩
  case round =>
    obtain ⟨k, rfl, hk, hB⟩ := hrel
    have d0 := below_cell hB hbb c0
    have hbw : bb < wr.heap.size := Nat.lt_of_lt_of_le hbb hB.size
    by_cases hlt : k < x.length
    · obtain ⟨b, o, p, q, g1, rfl, k1, k2⟩ := spansAt_get (hx1.below hB) (k := k) hlt
      have hb := World.block_lt_of_cell? wr _ k1
      have hR := fun W => rright_any p q W
      have hxy : rightB p q = true := HR.out (p, q) (List.mem_of_getElem? g1.out)
      rw [hxy] at hR
      clear hxy
      go_wp2_with (go_at_call 5; refine (hR _).mono ?_; rintro e w2 ⟨rfl, hb2⟩)
      exact ⟨⟨k + 1, by go_num, by omega, below_step hB hb2⟩, by simp [intOf]; omega⟩
    · have hx2 := hx1.below hB
      have hy2 := hy1.below hB
      have hg2 := hg1.below hB
      have hB2 := HB1.out.trans (hB.mono HB1.out.size)
      have HB2 := Lib.hid hB2
      clear HB1 hB hx1 hy1 hg1 c0 hbb hB2
      obtain ⟨wa, rfl⟩ : ∃ wa, wa = wr := ⟨_, rfl⟩
      go_wp2_with fail
      refine (rof_any x ax cx wa hx2 (by omega)).mono ?_
      rintro e w2 ⟨v2, rfl, ho2, hb2⟩
      rw [EP.out] at ho2
      obtain ⟨ap, cp, rfl, s2⟩ := ownsRow_spans ho2
      have d0 := below_cell hb2 hbw d0
      have hbw : bb < w2.heap.size := Nat.lt_of_lt_of_le hbw hb2.size
      obtain ⟨W2, hW2⟩ : ∃ W, W = w2.alloc (.cells #[.slice ap P.length cp] 22) := ⟨_, rfl⟩
      have q2 : Below w2.heap.size w2 W2 := by rw [hW2]; exact (Below.refl _ _).alloc (Nat.le_refl _) _
      have cp2 : W2.cell? ⟨w2.heap.size, 0, none⟩ = some (.slice ap P.length cp) := by rw [hW2]; simp
      have hbp : w2.heap.size < W2.heap.size := by rw [hW2]; simp
      have d2 := below_cell q2 hbw d0
      have hbw2 : bb < W2.heap.size := Nat.lt_of_lt_of_le hbw q2.size
      have hx3 := (hx2.below hb2).below q2
      have hy3 := (hy2.below hb2).below q2
      have hg3 := (hg2.below hb2).below q2
      have sp := s2.below q2
      have HB3 := Lib.hid (HB2.out.trans ((below_step hb2 q2).mono HB2.out.size))
      clear hx2 hy2 hg2 HB2 ho2 hb2 s2
      have HW2 := Lib.hid hW2
      have Q2 := Lib.hid q2
      clear hW2 q2
      go_wp2_with fail
      rw [← HW2.out]
      refine (of_res x ax cx W2 hx3 HR.out (by omega)).mono ?_
      rintro e w3 ⟨xx, yy, rfl, hb3, hout⟩
      obtain ⟨ba, rfl, rfl, hba, hsa⟩ := setOut_in hout (by rw [← HP.out]; exact hp60)
      rw [← HP.out] at hsa
      generalize w2.heap.size = bp at *
      have d3 := below_cell hb3 hbw2 d2
      have cp3 := below_cell hb3 hbp cp2
      have hbw3 : bb < w3.heap.size := Nat.lt_of_lt_of_le hbw2 hb3.size
      have hbp3 : bp < w3.heap.size := Nat.lt_of_lt_of_le hbp hb3.size
      have hy4 := hy3.below hb3
      have hg4 := hg3.below hb3
      have s3 := sp.below hb3
      have HB4 := Lib.hid (HB3.out.trans (hb3.mono HB3.out.size))
      clear HW2 Q2 hx3 hy3 hg3 sp HB3 hout hba hb3 d2 cp2 hbw2 hbp
      obtain ⟨u, hu⟩ : ∃ u, inL P t = u := ⟨_, rfl⟩
      have CS := Lib.hid fun X (hX : Below w3.heap.size w3 X) => spans_at ba P X (hsa.below hX)
      have CE := Lib.hid fun a c X (ha : spansAt X a P) (hX : Below w3.heap.size w3 X) => same_self a ap c cp P X ha (s3.below hX) hpm
      have ch := fun X (hX : Below w3.heap.size w3 X) => setHas_any ba P t X (hsa.below hX) NP.out
      have ci := fun X (hX : Below w3.heap.size w3 X) => rin_any P t ap cp X (s3.below hX) hpm
      rw [hu] at ch ci
      have CH := Lib.hid ch
      have CI := Lib.hid ci
      clear hu ch ci
      go_wp2_with fail
      go_region_held3 (fun X => X.cell? ⟨bp, 0, none⟩ = some (.slice ap P.length cp))
        (first | exact cp3 | exact hS4 | exact hS3 | exact hS2 | exact hS1)
        (first
          | (go_at_call 10; ((with_reducible refine (CS.out _ (Below.refl _ _).drew).mono ?_); rintro e x1 ⟨a1, c1, rfl, z1, b1⟩); have q1 : Below w3.heap.size w3 x1 := (Below.refl _ _).drew.trans b1; have hS1 := below_cell q1 hbp3 cp3; clear b1)
          | (go_at_call 9; ((with_reducible refine (CE.out a1 c1 _ z1 q1).mono ?_); rintro e x2 ⟨rfl, b2⟩); have q2 := below_step q1 b2; have hS2 := below_cell q2 hbp3 cp3; clear b2 z1 hS1)
          | (go_at_call 11; ((with_reducible refine (CH.out _ q2).mono ?_); rintro e x3 ⟨rfl, b3⟩); have q3 := below_step q2 b3; have hS3 := below_cell q3 hbp3 cp3; clear b3 hS2)
          | (go_at_call 12; ((with_reducible refine (CI.out _ q3).mono ?_); rintro e x4 ⟨rfl, b4⟩); have q4 := below_step q3 b4; have hS4 := below_cell q4 hbp3 cp3; clear b4 hS3))
      have hy5 := hy4.below q4
      have hg5 := hg4.below q4
      have s5 := s3.below q4
      have sa5 := hsa.below q4
      have hbp5 : bp < x4.heap.size := Nat.lt_of_lt_of_le hbp3 q4.size
      have HB5 := Lib.hid (HB4.out.trans (q4.mono HB4.out.size))
      have cp5 := hS4
      clear hS4 q1 q2 q3 CS CE CH CI hy4 hg4 s3 hsa hbp3 HB4 cp3 q4 hbw3 d3
      obtain ⟨V, rfl⟩ : ∃ V, V = x4 := ⟨_, rfl⟩
      go_wp2_with fail
      go_loopw [12] (fun i wr => ∃ k : Nat, i = .int .i64 k ∧ k ≤ y.length ∧ Hid (rightL (y.take k)) ∧ Below V.heap.size V wr) (fun i _ => y.length - (intOf i).toNat)
      case atStart => exact ⟨0, rfl, by omega, Lib.hid (fun p hp => by simp at hp), Below.refl _ _⟩
      case round =>
        obtain ⟨k, rfl, hk, hrt, hB⟩ := hrel
        by_cases hlt : k < y.length
        · obtain ⟨b, o, p, q, g1, rfl, k1, k2⟩ := spansAt_get (hy5.below hB) (k := k) hlt
          have hb := World.block_lt_of_cell? wr _ k1
          have hR := fun W => rright_any p q W
          cases hpq : rightB p q
          · rw [hpq] at hR
            clear hpq
            go_wp2_with (go_at_call 5; refine (hR _).mono ?_; rintro e w2 ⟨rfl, hb2⟩)
            go_ret
            exact ⟨rfl, HB5.out.trans ((below_step hB hb2).mono HB5.out.size)⟩
          · have h9 := Lib.hid (rightL_snoc g1.out hrt.out hpq)
            rw [hpq] at hR
            clear hpq
            go_wp2_with (go_at_call 5; refine (hR _).mono ?_; rintro e w2 ⟨rfl, hb2⟩)
            exact ⟨⟨k + 1, by go_num, by omega, h9, below_step hB hb2⟩, by simp [intOf]; omega⟩
        · have hry : rightL y := by have := hrt.out; rwa [List.take_of_length_le (by omega)] at this
          obtain ⟨Q, hQ⟩ : ∃ Q, Q = canon y := ⟨_, rfl⟩
          have nQ : Norm Q := by rw [hQ]; exact (canon_spec y (right_pos hry)).1
          have rQ : rightL Q := by rw [hQ]; exact canon_right y hry
          have eQ : refOf y = Q := by rw [hQ]; exact refOf_eq y hry
          have HRY := Lib.hid hry
          have NQ := Lib.hid nQ
          have RQ := Lib.hid rQ
          have EQ := Lib.hid eQ
          have HQ := Lib.hid hQ
          have hy6 := hy5.below hB
          have hg6 := hg5.below hB
          have s6 := s5.below hB
          have sa6 := sa5.below hB
          have cp6 := below_cell hB hbp5 cp5
          have hbp6 : bp < wr.heap.size := Nat.lt_of_lt_of_le hbp5 hB.size
          have HB6 := Lib.hid (HB5.out.trans (hB.mono HB5.out.size))
          clear hrt hry nQ rQ eQ hQ hy5 hg5 s5 sa5 cp5 hbp5 HB5 hB
          obtain ⟨wb, rfl⟩ : ∃ wb, wb = wr := ⟨_, rfl⟩
          go_wp2_with fail
          refine (rof_any y ay cy wb hy6 (by omega)).mono ?_
          rintro e w4 ⟨v4, rfl, ho4, hb4⟩
          rw [EQ.out] at ho4
          obtain ⟨aq, cq, rfl, s4⟩ := ownsRow_spans ho4
          obtain ⟨W4, hW4⟩ : ∃ W, W = w4.alloc (.cells #[.slice aq Q.length cq] 22) := ⟨_, rfl⟩
          have q4 : Below w4.heap.size w4 W4 := by rw [hW4]; exact (Below.refl _ _).alloc (Nat.le_refl _) _
          have cq4 : W4.cell? ⟨w4.heap.size, 0, none⟩ = some (.slice aq Q.length cq) := by rw [hW4]; simp
          have hbq : w4.heap.size < W4.heap.size := by rw [hW4]; simp
          have z4 := below_step hb4 q4
          have hy7 := hy6.below z4
          have hg7 := hg6.below z4
          have s7 := s6.below z4
          have sa7 := sa6.below z4
          have t7 := s4.below q4
          have cp7 := below_cell z4 hbp6 cp6
          have hbp7 : bp < W4.heap.size := Nat.lt_of_lt_of_le hbp6 z4.size
          have HB7 := Lib.hid (HB6.out.trans (z4.mono HB6.out.size))
          have HW4 := Lib.hid hW4
          clear hW4 q4 z4 hy6 hg6 s6 sa6 s4 cp6 hbp6 HB6 ho4 hb4
          generalize hbqe : w4.heap.size = bq at *
          have HBQ := Lib.hid hbqe
          clear hbqe
          go_wp2_with fail
          simp only [HBQ.out]
          rw [← HW4.out]
          refine (of_res y ay cy W4 hy7 HRY.out (by omega)).mono ?_
          rintro e w5 ⟨xx, yy, rfl, hb5, hout⟩
          have cq8 := below_cell hb5 hbq cq4
          have cp8 := below_cell hb5 hbp7 cp7
          have hbq8 : bq < w5.heap.size := Nat.lt_of_lt_of_le hbq hb5.size
          have hbp8 : bp < w5.heap.size := Nat.lt_of_lt_of_le hbp7 hb5.size
          have hg8 := hg7.below hb5
          have s8 := s7.below hb5
          have t8 := t7.below hb5
          have sa8 := sa7.below hb5
          have HB8 := Lib.hid (HB7.out.trans (hb5.mono HB7.out.size))
          clear hy7 hg7 s7 sa7 t7 cp7 cq4 hbp7 hbq HB7 HW4 HBQ
          by_cases h60 : 60 < Q.length
          · obtain ⟨rfl, rfl⟩ := setOut_out hout (by rw [← HQ.out]; exact h60)
            clear hout hb5
            have hql : Q.length ≤ y.length * 2 := by rw [← EQ.out]; exact refOf_len y
            go_wp2
            go_ret
            exact ⟨rfl, HB8.out⟩
          · obtain ⟨bz, rfl, rfl, _, sb8⟩ := setOut_in hout (by rw [← HQ.out]; omega)
            rw [← HQ.out] at sb8
            clear hout hb5
            go_wp2_with fail
            obtain ⟨ES, hES⟩ : ∃ ES, ES = sortI (endsLL [P, Q]) := ⟨_, rfl⟩
            have hel : (endsLL [P, Q]).length = P.length * 2 + Q.length * 2 := by simp [endsLL, endsL_length]
            refine (ends_any [P, Q] _ 2 _ (lists2' w5 w5.heap.size rfl ap aq P Q cp cq s8 t8) (by simp [maxLen]) (by omega)).mono ?_
            rintro e w6 ⟨v6, rfl, ho6, hb6⟩
            obtain ⟨ae, ce, rfl, i6⟩ := ownsRow_ints ho6
            rw [← hES] at i6 ⊢
            have hesl : ES.length * 16 ≤ 140737488355328 := by rw [hES, sortI_length]; omega
            have z6 : Below w5.heap.size w5 w6 := below_over hb6
            have cp9 := below_cell z6 hbp8 cp8
            have cq9 := below_cell z6 hbq8 cq8
            have hbp9 : bp < w6.heap.size := Nat.lt_of_lt_of_le hbp8 z6.size
            have hbq9 : bq < w6.heap.size := Nat.lt_of_lt_of_le hbq8 z6.size
            have hg9 := hg8.below z6
            have s9 := s8.below z6
            have t9 := t8.below z6
            have sa9 := sa8.below z6
            have sb9 := sb8.below z6
            have HB9 := Lib.hid (HB8.out.trans (z6.mono HB8.out.size))
            have HES := Lib.hid hES
            clear hES hel hg8 s8 t8 sa8 sb8 cp8 cq8 hbp8 hbq8 HB8 z6 ho6 hb6
            have hq60 : Q.length ≤ 60 := by omega
            have hqm : Q.length ≤ maxLen := by unfold maxLen; omega
            clear h60
            go_wp2_with fail
            go_loopw [16] (fun v wr => ∃ (k : Nat) (n : Int) (bk : Nat), v = .pointer (some ⟨bk, 0, none⟩) ∧ Hid ((k = 0 ∧ n = 0) ∨ (k = 1 ∧ n = 1) ∨ (k = 2 ∧ n = 2) ∨ (k = 3 ∧ n = 3)) ∧ Boxed wr bk 3 (.int .i64 n) ∧ w6.heap.size ≤ bk ∧ Below w6.heap.size w6 wr) (fun v wr => msr v wr)
            case atStart => exact ⟨0, 0, _, rfl, Lib.hid (Or.inl ⟨rfl, rfl⟩), Boxed.new _ _ _, Nat.le_refl _, (Below.refl _ _).alloc (Nat.le_refl _) _⟩
            case round =>
              obtain ⟨k, n, bk, rfl, HK, hbx, hbk, hB⟩ := hrel
              have ck := hbx.cell
              have fk := hbx.frozen
              have lk := hbx.lt
              rcases HK.out with ⟨hk, rfl⟩ | ⟨hk, rfl⟩ | ⟨hk, rfl⟩ | ⟨hk, rfl⟩
              · have hwe : whereL (opK k P Q) ES = canon (listK 0 P Q) := by rw [HES.out, hk]; exact want_eq 0 P Q NP.out RP.out RQ.out
                obtain ⟨WK, hWK⟩ : ∃ WK, WK = canon (listK 0 P Q) := ⟨_, rfl⟩
                rw [← hWK] at hwe
                have hwl : WK.length ≤ ES.length := by rw [← hwe]; exact whS_len (opK k P Q) ES
                have HWK := Lib.hid hWK
                have hgB := hg9.below hB
                have saB := sa9.below hB
                have sbB := sb9.below hB
                have cpB := below_cell hB hbp9 cp9
                have cqB := below_cell hB hbq9 cq9
                have hPred := ss1_any k (by omega) P Q bp bq bk ap aq cp cq wr cpB cqB (by rw [hk]; exact ck) (s9.below hB) (t9.below hB) hpm hqm
                have hsz6 := hB.size
                have HBR := Lib.hid (HB9.out.trans (hB.mono HB9.out.size))
                clear HK hWK cpB cqB
                go_wp2_with fail
                refine (where_any 15 _ (opK k P Q) ES ae ce wr (i6.below hB) (enters_of Tryd.func15 (by kernel_rfl) rfl) hPred hesl).mono ?_
                rintro e w7 ⟨v7, rfl, ho7, hb7⟩
                rw [hwe] at ho7
                obtain ⟨aw, cw, rfl, sw⟩ := ownsRow_spans ho7
                have HWE := Lib.hid hwe
                have HKK := Lib.hid hk
                have saC := saB.below hb7
                have sbC := sbB.below hb7
                have hgC := hgB.below hb7
                have ckC := below_cell hb7 lk ck
                have lkC : bk < w7.heap.size := Nat.lt_of_lt_of_le lk hb7.size
                have HBC := Lib.hid (below_trans hB hsz6 hb7)
                clear ho7 hPred hwe hk saB sbB hgB hB
                go_wp2_with fail
                refine (union_any ba bz P Q w7 saC sbC RP.out RQ.out).mono ?_
                rintro e w8 ⟨xx, yy, rfl, hb8, hout⟩
                have saD := saC.below hb8
                have sbD := sbC.below hb8
                have hgD := hgC.below hb8
                have ckD := below_cell hb8 lkC ckC
                have lkD : bk < w8.heap.size := Nat.lt_of_lt_of_le lkC hb8.size
                have swD := sw.below hb8
                have HBD := Lib.hid (below_trans HBC.out (Nat.le_trans hsz6 hb7.size) hb8)
                clear saC sbC hgC HBC
                clear saD sbD
                have hsB : w6.heap.size ≤ w8.heap.size := by have := HBD.out.size; omega
                have hwm : WK.length ≤ maxLen := by unfold maxLen; omega
                obtain ⟨L0, hL0⟩ : ∃ L0, L0 = P ++ Q := ⟨_, rfl⟩
                have hWL : canon L0 = WK := by rw [HWK.out, hL0]; rfl
                rw [← hL0] at hout
                by_cases h60 : 60 < WK.length
                · obtain ⟨rfl, rfl⟩ := setOut_out hout (by rw [hWL]; exact h60)
                  have hbr := bare_any (.iface 23 (.int .i64 4)) 4 (-1) 4 w8 hgD (Or.inr (Or.inl ⟨rfl, rfl⟩))
                  rw [show ((4 : Int) == 4 && ((-1 : Int) == -1)) = true from rfl] at hbr
                  clear hout hWL
                  go_wp2_with (go_at_call 19; refine hbr.mono ?_; rintro e wz ⟨rfl, hbz⟩; have ckZ := below_cell hbz lkD ckD; have lkZ : bk < wz.heap.size := Nat.lt_of_lt_of_le lkD hbz.size)
                  have BZ := below_trans HBD.out hsB hbz
                  exact ⟨⟨k + 1, 1, _, rfl, Lib.hid (by rw [HKK.out]; decide), Boxed.new _ _ _, BZ.size, BZ.alloc BZ.size _⟩, by rw [msr_of (Boxed.new _ _ _).cell, msr_of ck]; decide⟩
                · obtain ⟨bc, rfl, rfl, _, scE⟩ := setOut_in hout (by rw [hWL]; omega)
                  rw [hWL] at scE
                  clear hout hWL
                  have CS := Lib.hid (spans_at bc WK w8 scE)
                  go_wp2_with (first
                    | (go_at_call 10; ((with_reducible refine CS.out.mono ?_); rintro e y1 ⟨a1, c1, rfl, z1, b1⟩))
                    | (go_at_call 9; ((with_reducible refine (same_self a1 aw c1 cw WK y1 z1 (swD.below b1) hwm).mono ?_); rintro e y2 ⟨rfl, b2⟩); have b3 := below_step b1 b2; have ckZ := below_cell b3 lkD ckD; have lkZ : bk < y2.heap.size := Nat.lt_of_lt_of_le lkD b3.size))
                  have BZ := below_trans HBD.out hsB b3
                  exact ⟨⟨k + 1, 1, _, rfl, Lib.hid (by rw [HKK.out]; decide), Boxed.new _ _ _, BZ.size, BZ.alloc BZ.size _⟩, by rw [msr_of (Boxed.new _ _ _).cell, msr_of ck]; decide⟩
              · have hwe : whereL (opK k P Q) ES = canon (listK 1 P Q) := by rw [HES.out, hk]; exact want_eq 1 P Q NP.out RP.out RQ.out
                obtain ⟨WK, hWK⟩ : ∃ WK, WK = canon (listK 1 P Q) := ⟨_, rfl⟩
                rw [← hWK] at hwe
                have hwl : WK.length ≤ ES.length := by rw [← hwe]; exact whS_len (opK k P Q) ES
                have HWK := Lib.hid hWK
                have hgB := hg9.below hB
                have saB := sa9.below hB
                have sbB := sb9.below hB
                have cpB := below_cell hB hbp9 cp9
                have cqB := below_cell hB hbq9 cq9
                have hPred := ss1_any k (by omega) P Q bp bq bk ap aq cp cq wr cpB cqB (by rw [hk]; exact ck) (s9.below hB) (t9.below hB) hpm hqm
                have hsz6 := hB.size
                have HBR := Lib.hid (HB9.out.trans (hB.mono HB9.out.size))
                clear HK hWK cpB cqB
                go_wp2_with fail
                refine (where_any 15 _ (opK k P Q) ES ae ce wr (i6.below hB) (enters_of Tryd.func15 (by kernel_rfl) rfl) hPred hesl).mono ?_
                rintro e w7 ⟨v7, rfl, ho7, hb7⟩
                rw [hwe] at ho7
                obtain ⟨aw, cw, rfl, sw⟩ := ownsRow_spans ho7
                have HWE := Lib.hid hwe
                have HKK := Lib.hid hk
                have saC := saB.below hb7
                have sbC := sbB.below hb7
                have hgC := hgB.below hb7
                have ckC := below_cell hb7 lk ck
                have lkC : bk < w7.heap.size := Nat.lt_of_lt_of_le lk hb7.size
                have HBC := Lib.hid (below_trans hB hsz6 hb7)
                clear ho7 hPred hwe hk saB sbB hgB hB
                go_wp2_with fail
                refine (union_any ba bz P Q w7 saC sbC RP.out RQ.out).mono ?_
                rintro e w8 ⟨xx, yy, rfl, hb8, hout⟩
                have saD := saC.below hb8
                have sbD := sbC.below hb8
                have hgD := hgC.below hb8
                have ckD := below_cell hb8 lkC ckC
                have lkD : bk < w8.heap.size := Nat.lt_of_lt_of_le lkC hb8.size
                have swD := sw.below hb8
                have HBD := Lib.hid (below_trans HBC.out (Nat.le_trans hsz6 hb7.size) hb8)
                clear saC sbC hgC HBC
                clear hout
                go_wp2_with fail
                refine (both_any ba bz P Q w8 saD sbD RP.out RQ.out).mono ?_
                rintro e w9 ⟨xx, yy, rfl, hb9, hout⟩
                have hgE := hgD.below hb9
                have ckE := below_cell hb9 lkD ckD
                have lkE : bk < w9.heap.size := Nat.lt_of_lt_of_le lkD hb9.size
                have swE := swD.below hb9
                have HBE := Lib.hid (below_trans HBD.out (Nat.le_trans (Nat.le_trans hsz6 hb7.size) hb8.size) hb9)
                clear saD sbD hgD HBD swD
                have hsB : w6.heap.size ≤ w9.heap.size := by have := HBE.out.size; omega
                have hwm : WK.length ≤ maxLen := by unfold maxLen; omega
                obtain ⟨L0, hL0⟩ : ∃ L0, L0 = bothL P Q := ⟨_, rfl⟩
                have hWL : canon L0 = WK := by rw [HWK.out, hL0]; rfl
                rw [← hL0] at hout
                by_cases h60 : 60 < WK.length
                · obtain ⟨rfl, rfl⟩ := setOut_out hout (by rw [hWL]; exact h60)
                  have hbr := bare_any (.iface 23 (.int .i64 4)) 4 (-1) 4 w9 hgE (Or.inr (Or.inl ⟨rfl, rfl⟩))
                  rw [show ((4 : Int) == 4 && ((-1 : Int) == -1)) = true from rfl] at hbr
                  clear hout hWL
                  go_wp2_with (go_at_call 19; refine hbr.mono ?_; rintro e wz ⟨rfl, hbz⟩; have ckZ := below_cell hbz lkE ckE; have lkZ : bk < wz.heap.size := Nat.lt_of_lt_of_le lkE hbz.size)
                  have BZ := below_trans HBE.out hsB hbz
                  exact ⟨⟨k + 1, 2, _, rfl, Lib.hid (by rw [HKK.out]; decide), Boxed.new _ _ _, BZ.size, BZ.alloc BZ.size _⟩, by rw [msr_of (Boxed.new _ _ _).cell, msr_of ck]; decide⟩
                · obtain ⟨bc, rfl, rfl, _, scE⟩ := setOut_in hout (by rw [hWL]; omega)
                  rw [hWL] at scE
                  clear hout hWL
                  have CS := Lib.hid (spans_at bc WK w9 scE)
                  go_wp2_with (first
                    | (go_at_call 10; ((with_reducible refine CS.out.mono ?_); rintro e y1 ⟨a1, c1, rfl, z1, b1⟩))
                    | (go_at_call 9; ((with_reducible refine (same_self a1 aw c1 cw WK y1 z1 (swE.below b1) hwm).mono ?_); rintro e y2 ⟨rfl, b2⟩); have b3 := below_step b1 b2; have ckZ := below_cell b3 lkE ckE; have lkZ : bk < y2.heap.size := Nat.lt_of_lt_of_le lkE b3.size))
                  have BZ := below_trans HBE.out hsB b3
                  exact ⟨⟨k + 1, 2, _, rfl, Lib.hid (by rw [HKK.out]; decide), Boxed.new _ _ _, BZ.size, BZ.alloc BZ.size _⟩, by rw [msr_of (Boxed.new _ _ _).cell, msr_of ck]; decide⟩
              · have hwe : whereL (opK k P Q) ES = canon (listK 2 P Q) := by rw [HES.out, hk]; exact want_eq 2 P Q NP.out RP.out RQ.out
                obtain ⟨WK, hWK⟩ : ∃ WK, WK = canon (listK 2 P Q) := ⟨_, rfl⟩
                rw [← hWK] at hwe
                have hwl : WK.length ≤ ES.length := by rw [← hwe]; exact whS_len (opK k P Q) ES
                have HWK := Lib.hid hWK
                have hgB := hg9.below hB
                have saB := sa9.below hB
                have sbB := sb9.below hB
                have cpB := below_cell hB hbp9 cp9
                have cqB := below_cell hB hbq9 cq9
                have hPred := ss1_any k (by omega) P Q bp bq bk ap aq cp cq wr cpB cqB (by rw [hk]; exact ck) (s9.below hB) (t9.below hB) hpm hqm
                have hsz6 := hB.size
                have HBR := Lib.hid (HB9.out.trans (hB.mono HB9.out.size))
                clear HK hWK cpB cqB
                go_wp2_with fail
                refine (where_any 15 _ (opK k P Q) ES ae ce wr (i6.below hB) (enters_of Tryd.func15 (by kernel_rfl) rfl) hPred hesl).mono ?_
                rintro e w7 ⟨v7, rfl, ho7, hb7⟩
                rw [hwe] at ho7
                obtain ⟨aw, cw, rfl, sw⟩ := ownsRow_spans ho7
                have HWE := Lib.hid hwe
                have HKK := Lib.hid hk
                have saC := saB.below hb7
                have sbC := sbB.below hb7
                have hgC := hgB.below hb7
                have ckC := below_cell hb7 lk ck
                have lkC : bk < w7.heap.size := Nat.lt_of_lt_of_le lk hb7.size
                have HBC := Lib.hid (below_trans hB hsz6 hb7)
                clear ho7 hPred hwe hk saB sbB hgB hB
                go_wp2_with fail
                refine (union_any ba bz P Q w7 saC sbC RP.out RQ.out).mono ?_
                rintro e w8 ⟨xx, yy, rfl, hb8, hout⟩
                have saD := saC.below hb8
                have sbD := sbC.below hb8
                have hgD := hgC.below hb8
                have ckD := below_cell hb8 lkC ckC
                have lkD : bk < w8.heap.size := Nat.lt_of_lt_of_le lkC hb8.size
                have swD := sw.below hb8
                have HBD := Lib.hid (below_trans HBC.out (Nat.le_trans hsz6 hb7.size) hb8)
                clear saC sbC hgC HBC
                clear hout
                go_wp2_with fail
                refine (minus_any ba bz P Q w8 saD sbD RP.out RQ.out NP.out).mono ?_
                rintro e w9 ⟨xx, yy, rfl, hb9, hout⟩
                have hgE := hgD.below hb9
                have ckE := below_cell hb9 lkD ckD
                have lkE : bk < w9.heap.size := Nat.lt_of_lt_of_le lkD hb9.size
                have swE := swD.below hb9
                have HBE := Lib.hid (below_trans HBD.out (Nat.le_trans (Nat.le_trans hsz6 hb7.size) hb8.size) hb9)
                clear saD sbD hgD HBD swD
                have hsB : w6.heap.size ≤ w9.heap.size := by have := HBE.out.size; omega
                have hwm : WK.length ≤ maxLen := by unfold maxLen; omega
                obtain ⟨L0, hL0⟩ : ∃ L0, L0 = minusL P Q := ⟨_, rfl⟩
                have hWL : canon L0 = WK := by rw [HWK.out, hL0]; rfl
                rw [← hL0] at hout
                by_cases h60 : 60 < WK.length
                · obtain ⟨rfl, rfl⟩ := setOut_out hout (by rw [hWL]; exact h60)
                  have hbr := bare_any (.iface 23 (.int .i64 4)) 4 (-1) 4 w9 hgE (Or.inr (Or.inl ⟨rfl, rfl⟩))
                  rw [show ((4 : Int) == 4 && ((-1 : Int) == -1)) = true from rfl] at hbr
                  clear hout hWL
                  go_wp2_with (go_at_call 19; refine hbr.mono ?_; rintro e wz ⟨rfl, hbz⟩; have ckZ := below_cell hbz lkE ckE; have lkZ : bk < wz.heap.size := Nat.lt_of_lt_of_le lkE hbz.size)
                  have BZ := below_trans HBE.out hsB hbz
                  exact ⟨⟨k + 1, 3, _, rfl, Lib.hid (by rw [HKK.out]; decide), Boxed.new _ _ _, BZ.size, BZ.alloc BZ.size _⟩, by rw [msr_of (Boxed.new _ _ _).cell, msr_of ck]; decide⟩
                · obtain ⟨bc, rfl, rfl, _, scE⟩ := setOut_in hout (by rw [hWL]; omega)
                  rw [hWL] at scE
                  clear hout hWL
                  have CS := Lib.hid (spans_at bc WK w9 scE)
                  go_wp2_with (first
                    | (go_at_call 10; ((with_reducible refine CS.out.mono ?_); rintro e y1 ⟨a1, c1, rfl, z1, b1⟩))
                    | (go_at_call 9; ((with_reducible refine (same_self a1 aw c1 cw WK y1 z1 (swE.below b1) hwm).mono ?_); rintro e y2 ⟨rfl, b2⟩); have b3 := below_step b1 b2; have ckZ := below_cell b3 lkE ckE; have lkZ : bk < y2.heap.size := Nat.lt_of_lt_of_le lkE b3.size))
                  have BZ := below_trans HBE.out hsB b3
                  exact ⟨⟨k + 1, 3, _, rfl, Lib.hid (by rw [HKK.out]; decide), Boxed.new _ _ _, BZ.size, BZ.alloc BZ.size _⟩, by rw [msr_of (Boxed.new _ _ _).cell, msr_of ck]; decide⟩
              · clear HK hk hbx
                go_wp2
                go_ret
                exact ⟨rfl, HB9.out.trans (hB.mono HB9.out.size)⟩
end Go.Proofs.YtmmkjokgjhcdlaaDoor
