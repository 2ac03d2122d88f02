/- What SpanSums calls besides: pick, made, sameSets. -/
import Derived.Test.YtcdgochkcfogiaaSetH
import Derived.BigRegion
import Derived.BigQuiet
import Derived.IntWalk
import Derived.Laws.Bits64
namespace Go.Proofs.Ytcdgochkcfogiaa
open Go.RowKit Go.Shelf Go.Sort

def pickI (n m : Int) : Int := wrap64 ((IntKind.u64.wrap n).tmod m)
theorem pickI_lt (n m : Int) (h : 0 < m) (h2 : m < 1000) : 0 ≤ pickI n m ∧ pickI n m < m := by
  have h0 : 0 ≤ IntKind.u64.wrap n := by rw [IntKind.wrap_u64]; exact Int.emod_nonneg _ (by omega)
  have h1 : (IntKind.u64.wrap n).tmod m = IntKind.u64.wrap n % m := Int.tmod_eq_emod_of_nonneg h0
  have h3 := Int.emod_nonneg (IntKind.u64.wrap n) (b := m) (by omega)
  have h4 := Int.emod_lt_of_pos (IntKind.u64.wrap n) h
  unfold pickI
  rw [h1]
  have h5 : wrap64 (IntKind.u64.wrap n % m) = IntKind.u64.wrap n % m := by unfold wrap64; omega
  rw [h5]
  exact ⟨h3, h4⟩
theorem pick_any (n m : Int) (w : World) (hn : -9223372036854775808 ≤ n) (hn2 : n < 9223372036854775808) (hm : 0 < m) (hm2 : m < 1000) :
    Calls Try.prog 27 #[.int .i64 n, .int .i64 m] w fun e w' => e = .returned (.int .i64 (pickI n m)) ∧ w = w' := by
  go_enter Try.func27, Try.ntmps27
  go_wp2
  go_ret
  exact ⟨rfl, rfl⟩

set_option maxRecDepth 100000 in
theorem sameSets_any (ba bb : Nat) (l m : List (Int × Int)) (w : World) (ha : setAt w ba l) (hb : setAt w bb m) :
    Calls Try.prog 22 #[.pointer (some ⟨ba, 0, none⟩), .pointer (some ⟨bb, 0, none⟩)] w fun e w' => e = .returned (.bool (decide (l = m))) ∧ Below w.heap.size w w' := by
  obtain ⟨_, _, _, _, _, l1⟩ := id ha
  obtain ⟨_, _, _, _, _, l2⟩ := id hb
  go_enter Try.func22, Try.ntmps22
  go_wp2_with fail
  refine (spans_any ba l _ ha).mono ?_
  rintro e w1 ⟨v1, rfl, ho1, hb1⟩
  have hb' := hb.below hb1
  go_wp2_with fail
  refine (spans_any bb m _ hb').mono ?_
  rintro e w2 ⟨v2, rfl, ho2, hb2⟩
  have ho1' := ownsRow_below ho1 hb2
  have hB := below_step hb1 hb2
  obtain ⟨a1, c1, rfl, s1⟩ := ownsRow_spans ho1'
  obtain ⟨a2, c2, rfl, s2⟩ := ownsRow_spans ho2
  clear ho1 ho2 ho1' hb' hb1 hb2 ha hb
  by_cases hlen : l.length = m.length
  · have h1 : ((l.length : Int) != (m.length : Int)) = false := by simp [hlen]
    go_wp2
    go_loopw [7] (fun i wr => ∃ k : Nat, k ≤ l.length ∧ i = .int .i64 k ∧ l.take k = m.take k ∧ ∃ n, wr = w2.drewN n) (fun i _ => l.length - (intOf i).toNat)
    case atStart => exact ⟨0, by omega, rfl, by simp, 0, rfl⟩
    case round =>
      obtain ⟨k, hk, rfl, htk, n, rfl⟩ := hrel
      by_cases hlt : k < l.length
      · obtain ⟨b1, o1, x1, y1, g1, rfl, c1, c2⟩ := spansAt_get s1 hlt
        obtain ⟨b2, o2, x2, y2, g2, rfl, c3, c4⟩ := spansAt_get s2 (k := k) (by omega)
        have hlt2 : k < m.length := by omega
        have HT := Lib.hid htk
        have HL := Lib.hid hlen
        clear htk hlen
        by_cases hx : x1 = x2 ∧ y1 = y2
        · obtain ⟨rfl, rfl⟩ := hx
          go_wp2
          go_quiet (fail)
          go_wp2
          go_roundw
          case rel => exact ⟨k + 1, by omega, by go_num, (take_eq_snoc HT.out g1.out g2.out).2 rfl, _, rfl⟩
          case measure => simp [intOf]; omega
        · have hne : (x1 == x2 && y1 == y2) = false := by simpa using hx
          go_wp2
          go_quiet (fail)
          go_wp2
          go_ret
          exact ⟨ret_bool (decide_eq_false (fun e => by
            have e1 := g1.out; have e2 := g2.out
            rw [e, e2] at e1; simp at e1; exact hx ⟨e1.1.symm, e1.2.symm⟩)).symm, below_drewN (below_drewN hB n) _⟩
      · have HT := Lib.hid htk
        have hge : m.length ≤ k := by omega
        clear htk
        go_wp2
        go_ret
        exact ⟨ret_bool (decide_eq_true (eq_of_take HT.out (by omega) (by omega))).symm, below_drewN hB _⟩
  · have h1 : ((l.length : Int) != (m.length : Int)) = true := by simp; omega
    go_wp2
    go_ret
    exact ⟨ret_bool (decide_eq_false (fun e => hlen (by rw [e]))).symm, hB⟩

def i64L (l : List (Int × Int)) : Prop := ∀ p ∈ l, (-9223372036854775808 ≤ p.1 ∧ p.1 < 9223372036854775808) ∧ (-9223372036854775808 ≤ p.2 ∧ p.2 < 9223372036854775808)
def madeP (p : Int × Int) : Int × Int := (pickI p.1 200 - 100, pickI p.1 200 - 100 + 1 + pickI p.2 30)
def madeL (l : List (Int × Int)) : List (Int × Int) := (l.take 20).map madeP
theorem madeP_right (p : Int × Int) : rightB (madeP p).1 (madeP p).2 = true := by
  have h1 := pickI_lt p.1 200 (by decide) (by decide)
  have h2 := pickI_lt p.2 30 (by decide) (by decide)
  unfold rightB madeP
  simp only [decide_eq_true_eq]
  omega
theorem madeL_right (l : List (Int × Int)) : rightL (madeL l) := by
  intro p hp
  obtain ⟨q, _, rfl⟩ := List.mem_map.1 hp
  exact madeP_right q
theorem madeL_len (l : List (Int × Int)) : (madeL l).length ≤ 20 := by
  unfold madeL; rw [List.length_map, List.length_take]; omega
theorem madeL_snoc (l : List (Int × Int)) (k : Nat) (h20 : k < 20) (p : Int × Int) (h : l[k]? = some p) : madeL (l.take (k + 1)) = madeL (l.take k) ++ [madeP p] := by
  unfold madeL
  rw [List.take_take, List.take_take, show min 20 (k + 1) = k + 1 by omega, show min 20 k = k by omega, List.take_add_one, h]
  simp
theorem canon_len (l E : List (Int × Int)) (hr : rightL l) (h : ∀ p ∈ l, p.1 ∈ E.map Prod.fst) : (canon l).length ≤ E.length := by
  obtain ⟨hn, _, hs⟩ := canon_spec l (right_pos hr)
  have := norm_len hn (E.map Prod.fst) (fun p hp => by
    obtain ⟨q, hq, he⟩ := List.mem_map.1 (hs p hp).1
    rw [← he]; exact h q hq)
  rw [List.length_map] at this
  exact this
theorem canon_len_self (l : List (Int × Int)) (hr : rightL l) : (canon l).length ≤ l.length := canon_len l l hr (fun p hp => List.mem_map_of_mem hp)
theorem setOut.ok {w : World} {l : List (Int × Int)} {x y : Value} {w' : World} (h : setOut w l x y w') (hl : (canon l).length ≤ 60) : ∃ b, x = .pointer (some ⟨b, 0, none⟩) ∧ y = .nilIface ∧ setAt w' b (canon l) := by
  rcases h with ⟨b, h1, h2, _, h4⟩ | ⟨h, _⟩
  · exact ⟨b, h1, h2, h4⟩
  · omega

set_option maxRecDepth 100000 in
set_option maxHeartbeats 400000 in
theorem made_any (l : List (Int × Int)) (ao : Option Addr) (cap : Nat) (w : World) (hl : spansAt w ao l) (hlen : l.length ≤ maxLen) (hi : i64L l) :
    Calls Try.prog 18 #[.slice ao l.length cap] w fun e w' => ∃ b, e = .returned (.pointer (some ⟨b, 0, none⟩)) ∧ Below w.heap.size w w' ∧ setAt w' b (canon (madeL l)) := by
  unfold maxLen at hlen
  have HI := Lib.hid hi
  clear hi
  go_enter Try.func18, Try.ntmps18
  go_wp2
  go_loopw [3, 4] (fun v i wr => ∃ k out, k ≤ l.length ∧ k ≤ 20 ∧ i = .int .i64 k ∧ Hid (out = madeL (l.take k)) ∧ wr.ownsRow w.heap.size 23 2 v out.length (flat out) ∧ Below w.heap.size w wr) (fun _ i _ => 20 - (intOf i).toNat)
  case atStart => exact ⟨0, [], by omega, by omega, rfl, rfl, World.ownsRow_nil _ _ _ _, Below.refl _ _⟩
  case round =>
    obtain ⟨k, out, hk, hk20, rfl, hout, hown, hB⟩ := hrel
    have hsz := hB.size
    by_cases hlt : k < l.length ∧ k < 20
    · obtain ⟨hlt, hlt20⟩ := hlt
      obtain ⟨b, o, x, y, g1, rfl, c1, c2⟩ := spansAt_get hl hlt
      have hb : b < w.heap.size := World.block_lt_of_cell? w _ c1
      have c1 := below_cell hB hb c1
      have c2 := below_cell hB hb c2
      have hin := HI.out (x, y) (List.mem_of_getElem? g1.out)
      simp only at hin
      obtain ⟨⟨hx1, hx2⟩, hy1, hy2⟩ := hin
      have hsn : madeL (l.take (k + 1)) = out ++ [(pickI x 200 - 100, pickI x 200 - 100 + 1 + pickI y 30)] := by rw [hout.out]; exact madeL_snoc l k hlt20 (x, y) g1.out
      have hol : out.length ≤ 20 := by rw [hout.out]; exact madeL_len _
      have hpx := pick_any x 200
      have hpy := pick_any y 30
      obtain ⟨u1, u2⟩ := pickI_lt x 200 (by decide) (by decide)
      obtain ⟨u3, u4⟩ := pickI_lt y 30 (by decide) (by decide)
      generalize pickI x 200 = u at *
      generalize pickI y 30 = v at *
      have HS := Lib.hid hsn
      clear hsn
      go_wp2_with (first
        | (go_at_call 27; (with_reducible refine (hpx wr hx1 hx2 (by decide) (by decide)).mono ?_); rintro e w1 ⟨rfl, rfl⟩)
        | (go_at_call 27; (with_reducible refine (hpy wr hy1 hy2 (by decide) (by decide)).mono ?_); rintro e w1 ⟨rfl, rfl⟩)
        | (at_builtin; refine appSpan rfl _ _ rfl w.heap.size _ out rfl (hown.alloc _) wr.heap.size (u - 100) (u - 100 + 1 + v) rfl (by simp) (by simp) (by omega) (by simp; omega) w (hB.alloc hsz _) ?_; intro v' w3 h1 h2 h3 h4))
      exact ⟨⟨k + 1, out ++ [(u - 100, u - 100 + 1 + v)], by omega, by omega, by go_num, (by show _ = _; rw [HS.out]), h1, h2⟩, by simp [intOf]; omega⟩
    · have he : out = madeL l := by
        rw [hout.out]
        unfold madeL
        by_cases h : k < l.length
        · rw [List.take_take]; congr 2; omega
        · rw [List.take_of_length_le (l := l) (by omega)]
      have HR : Hid (rightL out) := by rw [he]; exact madeL_right l
      have hol : out.length ≤ 20 := by rw [he]; exact madeL_len _
      have HE := Lib.hid he
      clear he
      obtain ⟨a1, c1, rfl, s1⟩ := ownsRow_spans hown
      have hcl : (canon out).length ≤ 60 := by have := canon_len_self out HR.out; omega
      have HCL := Lib.hid hcl
      clear hcl
      by_cases h1 : k < l.length
      · have h2 : ¬ k < 20 := by omega
        go_wp2_with (go_at_call 35; ((with_reducible refine (of_res out a1 c1 _ s1 HR.out (by omega)).mono ?_); rintro e w2 ⟨rx, ry, rfl, hb2, hres⟩; obtain ⟨b, rfl, rfl, hset⟩ := hres.ok HCL.out))
        go_ret
        rw [HE.out] at hset
        exact ⟨_, rfl, below_trans hB hsz hb2, hset⟩
      · go_wp2_with (go_at_call 35; ((with_reducible refine (of_res out a1 c1 _ s1 HR.out (by omega)).mono ?_); rintro e w2 ⟨rx, ry, rfl, hb2, hres⟩; obtain ⟨b, rfl, rfl, hset⟩ := hres.ok HCL.out))
        go_ret
        rw [HE.out] at hset
        exact ⟨_, rfl, below_trans hB hsz hb2, hset⟩
end Go.Proofs.Ytcdgochkcfogiaa
