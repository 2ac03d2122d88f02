/- The reference past, walked: Ever, what is wrong with what is asked. -/
import Derived.Test.YtflhpmgjehjjkaaGreatDoorPsAJo
import Derived.Test.YtflhpmgjehjjkaaGreatDoorFcKJo
import Derived.Test.YtflhpmgjehjjkaaGreatDoorRowJo
import Derived.Test.YtflhpmgjehjjkaaGreatDoorTreeHJo
import Derived.Test.YtflhpmgjehjjkaaGreatDoorRpNJo
import Derived.Test.YtflhpmgjehjjkaaGreatDoorPwMJo
namespace Go.Proofs.YtflhpmgjehjjkaaGreatDoor
open Go.RowKit Go.Deep Go.Shelf Go.Sort Go.Maps

/-- In memory: the reference past of a history, of which something may be forgotten; none of its blocks is in F. -/
structure RP (F : Nat → Prop) (w : World) (rb : Nat) (hist : List (List OpP)) (known : Int) : Prop where
  blk : ∃ ao c, w.heap[rb]? = some (.cells #[.slice ao hist.length c, .int .i64 known] 57 (0, 0)) ∧ (hist.length ≤ c ∧ c ≤ maxLen ∧ (ao = none → c = 0)) ∧ ∀ i t, hist[i]? = some t → ∃ b0 b cap, ao = some ⟨b0, 0, none⟩ ∧ (b0 < w.heap.size ∧ b0 ≠ rb ∧ ¬ F b0) ∧ w.cell? ⟨b0, i, none⟩ = some (.slice (some ⟨b, 0, none⟩) t.length cap) ∧ (b < w.heap.size ∧ b ≠ rb ∧ ¬ F b) ∧ opsAt w (some ⟨b, 0, none⟩) t
  nf : ¬ F rb
  ok : ∀ t ∈ hist, okL t = true
  len : hist.length ≤ 150
theorem opsAt_same {w w' : World} {b : Nat} {t : List OpP} (h : opsAt w (some ⟨b, 0, none⟩) t) (hb : w'.heap[b]? = w.heap[b]?) : opsAt w' (some ⟨b, 0, none⟩) t := fun i o hi => by
  obtain ⟨b', f, e, hc⟩ := h i o hi
  cases e
  exact ⟨b, 0, rfl, fun j u hj => (World.cell?_of_block (a := ⟨b, _, none⟩) hb).trans (hc j u hj)⟩
theorem RP.lt {F : Nat → Prop} {w : World} {rb : Nat} {hist : List (List OpP)} {known : Int} (h : RP F w rb hist known) : rb < w.heap.size := by
  obtain ⟨⟨_, _, h1, _⟩, _, _, _⟩ := h; exact lt_of_block h1
/-- Blocks of F are turned; F has new ones. -/
theorem RP.turn {F F' : Nat → Prop} {w w' : World} {rb : Nat} {hist : List (List OpP)} {known : Int} (h : RP F w rb hist known) (hf : Fr F w w') (hG : ∀ k, F' k → F k ∨ w.heap.size ≤ k) : RP F' w' rb hist known := by
  have hlt := h.lt
  have hn : ∀ b, b < w.heap.size → ¬ F b → ¬ F' b := fun b hb hn hF => by
    rcases hG b hF with h1 | h1
    · exact hn h1
    · omega
  obtain ⟨⟨ao, c, h1, hc, h2⟩, h3, h4, h5⟩ := h
  refine ⟨⟨ao, c, (hf.block rb hlt h3).trans h1, hc, fun i t ht => ?_⟩, hn rb hlt h3, h4, h5⟩
  obtain ⟨b0, b, cap, e, ⟨p1, p2, p3⟩, p4, ⟨q1, q2, q3⟩, q4⟩ := h2 i t ht
  exact ⟨b0, b, cap, e, ⟨Nat.lt_of_lt_of_le p1 hf.size, p2, hn b0 p1 p3⟩, (World.cell?_of_block (a := ⟨b0, i, none⟩) (hf.block b0 p1 p3)).trans p4, ⟨Nat.lt_of_lt_of_le q1 hf.size, q2, hn b q1 q3⟩, opsAt_same q4 (hf.block b q1 q3)⟩
theorem RP.below {F : Nat → Prop} {w w' : World} {rb : Nat} {hist : List (List OpP)} {known : Int} (h : RP F w rb hist known) (hb : Below w.heap.size w w') : RP F w' rb hist known := h.turn (Fr.new hb) fun _ h => .inl h
/-- What a read wants: the cells. -/
theorem RP.get {F : Nat → Prop} {w : World} {rb : Nat} {hist : List (List OpP)} {known : Int} (h : RP F w rb hist known) : ∃ ao c, (w.cell? ⟨rb, 0, none⟩ = some (.slice ao hist.length c) ∧ w.cell? ⟨rb, 1, none⟩ = some (.int .i64 known)) ∧ (hist.length ≤ c ∧ c ≤ maxLen) ∧
    ∀ i t, hist[i]? = some t → ∃ b0 b cap, ao = some ⟨b0, 0, none⟩ ∧ b0 < w.heap.size ∧ w.cell? ⟨b0, i, none⟩ = some (.slice (some ⟨b, 0, none⟩) t.length cap) ∧ b < w.heap.size ∧ opsAt w (some ⟨b, 0, none⟩) t := by
  obtain ⟨⟨ao, c, h1, hc, h2⟩, _, _, _⟩ := h
  refine ⟨ao, c, ⟨by simp [World.cell?, h1], by simp [World.cell?, h1]⟩, ⟨hc.1, hc.2.1⟩, fun i t ht => ?_⟩
  obtain ⟨b0, b, cap, e, ⟨p1, _, _⟩, p4, ⟨q1, _, _⟩, q4⟩ := h2 i t ht
  exact ⟨b0, b, cap, e, p1, p4, q1, q4⟩

/-- What is wrong with a count that is asked for. -/
def askR (N : Nat) (known a : Int) : Int := if a < 0 ∨ (N : Int) < a then 2 else if a < known then 7 else 0

section
variable {F : Nat → Prop} {rb : Nat} {hist : List (List OpP)} {known : Int}
theorem rpnow_any (w : World) (h : RP F w rb hist known) : Calls Tryz.prog 60 #[.pointer (some ⟨rb, 0, none⟩)] w fun e w' => e = .returned (.int .i64 hist.length) ∧ w' = w := by
  obtain ⟨ao, c, ⟨c0, c1⟩, _, _⟩ := h.get
  have hl := h.lt
  clear h
  go_enter Tryz.func60, Tryz.ntmps60
  go_wp2_with fail
  go_ret
  exact ⟨rfl, rfl⟩
set_option maxHeartbeats 1000000 in
theorem rpask_any (a : Int) (w : World) (h : RP F w rb hist known) : Calls Tryz.prog 114 #[.pointer (some ⟨rb, 0, none⟩), .int .i64 a] w fun e w' => e = .returned (.int .i64 (askR hist.length known a)) ∧ w' = w := by
  have HN := Lib.hid (rpnow_any w h)
  obtain ⟨ao, c, ⟨c0, c1⟩, _, _⟩ := h.get
  have hl := h.lt
  have HI := Lib.hid (in_any a 0 hist.length w)
  clear h
  unfold askR
  by_cases h1 : 0 ≤ a ∧ a ≤ (hist.length : Int)
  · have e1 : ¬ (a < 0 ∨ (hist.length : Int) < a) := by omega
    rw [if_neg e1]
    have HI' : Hid (Calls Tryz.prog 66 #[.int .i64 a, .int .i64 0, .int .i64 hist.length] w fun e w' => e = .returned (.bool true) ∧ w = w') := Lib.hid (by have := HI.out; unfold inB at this; rw [decide_eq_true h1] at this; exact this)
    clear e1 h1 HI
    by_cases h2 : a < known
    · rw [if_pos h2]
      go_enter Tryz.func114, Tryz.ntmps114
      go_wp2_with fail
      refine HN.out.mono ?_
      rintro e w1 ⟨rfl, rfl⟩
      go_wp2_with fail
      refine HI'.out.mono ?_
      rintro e w1 ⟨rfl, rfl⟩
      go_wp2_with fail
      go_ret
      exact ⟨rfl, rfl⟩
    · rw [if_neg h2]
      go_enter Tryz.func114, Tryz.ntmps114
      go_wp2_with fail
      refine HN.out.mono ?_
      rintro e w1 ⟨rfl, rfl⟩
      go_wp2_with fail
      refine HI'.out.mono ?_
      rintro e w1 ⟨rfl, rfl⟩
      go_wp2_with fail
      go_ret
      exact ⟨rfl, rfl⟩
  · have e1 : a < 0 ∨ (hist.length : Int) < a := by omega
    rw [if_pos e1]
    have HI' : Hid (Calls Tryz.prog 66 #[.int .i64 a, .int .i64 0, .int .i64 hist.length] w fun e w' => e = .returned (.bool false) ∧ w = w') := Lib.hid (by have := HI.out; unfold inB at this; rw [decide_eq_false h1] at this; exact this)
    clear e1 h1 HI
    go_enter Tryz.func114, Tryz.ntmps114
    go_wp2_with fail
    refine HN.out.mono ?_
    rintro e w1 ⟨rfl, rfl⟩
    go_wp2_with fail
    refine HI'.out.mono ?_
    rintro e w1 ⟨rfl, rfl⟩
    go_wp2_with fail
    go_ret
    exact ⟨rfl, rfl⟩
theorem rtimed_any (t : Int) (w : World) : Calls Tryz.prog 115 #[.int .i64 t] w fun e w' => e = .returned (.bool (timeB t)) ∧ w' = w := by
  unfold timeB
  by_cases h1 : -1099511627776 ≤ t
  · by_cases h2 : t < 1099511627776
    · rw [decide_eq_true ⟨h1, h2⟩]
      go_enter Tryz.func115, Tryz.ntmps115
      go_wp2_with fail
      go_ret
      exact ⟨rfl, rfl⟩
    · rw [decide_eq_false (fun h => h2 h.2)]
      go_enter Tryz.func115, Tryz.ntmps115
      go_wp2_with fail
      go_ret
      exact ⟨rfl, rfl⟩
  · rw [decide_eq_false (fun h => h1 h.1)]
    go_enter Tryz.func115, Tryz.ntmps115
    go_wp2_with fail
    go_ret
    exact ⟨rfl, rfl⟩
end
end Go.Proofs.YtflhpmgjehjjkaaGreatDoor

namespace Go.Proofs.YtflhpmgjehjjkaaGreatDoor
open Go.RowKit Go.Deep Go.Shelf Go.Sort Go.Maps

section
variable {F : Nat → Prop} {rb : Nat} {hist : List (List OpP)} {known : Int}
set_option maxRecDepth 100000 in
set_option maxHeartbeats 4000000 in
theorem rpsaid_any (k : KeyP) (a : Nat) (t : Int) (w : World) (h : RP F w rb hist known) (ha : a ≤ hist.length) :
    Calls Tryz.prog 63 #[.pointer (some ⟨rb, 0, none⟩), .agg #[.int .i64 k.kind, .int .i64 k.a, .string k.word, .int .i64 k.b], .int .i64 (a : Nat), .int .i64 t] w fun e w' => e = .returned (.string (saidH hist k a t)) ∧ Below w.heap.size w w' := by
  obtain ⟨kk, ka, kw, kb⟩ := k
  obtain ⟨ao, c, ⟨c0, c1⟩, ⟨hc1, hc2⟩, hget⟩ := h.get
  have hl := h.lt
  have HG := Lib.hid hget
  have HOK := Lib.hid h.ok
  have hlen := h.len
  unfold maxLen at hc2
  have hae : ao = none → a = 0 ∧ hist.length = 0 := fun e => by
    subst e
    rcases Nat.eq_zero_or_pos hist.length with h0 | h0
    · exact ⟨by omega, h0⟩
    · obtain ⟨t0, ht0⟩ : ∃ t0, hist[0]? = some t0 := ⟨_, List.getElem?_eq_getElem h0⟩
      obtain ⟨b0, _, _, e, _⟩ := hget 0 t0 ht0
      cases e
  have a0 : (0 : Int) ≤ (a : Int) := by omega
  have a1 : (a : Int) ≤ (c : Int) := by omega
  obtain ⟨W0, hW0⟩ : ∃ W0, W0 = w.alloc (.cells #[.int .i64 kk, .int .i64 ka, .string kw, .int .i64 kb] 44) := ⟨_, rfl⟩
  have hB0 : Below w.heap.size w W0 := by rw [hW0]; exact (Below.refl _ _).alloc (Nat.le_refl _) _
  have hk0 : W0.heap[w.heap.size]? = some (.cells #[.int .i64 kk, .int .i64 ka, .string kw, .int .i64 kb] 44 (0, 0)) := by rw [hW0]; exact heap_alloc_new _ _
  have d0 := below_cell hB0 hl c0
  have hl0 : rb < W0.heap.size := Nat.lt_of_lt_of_le hl hB0.size
  obtain ⟨kx, hkx⟩ : ∃ kx, kx = w.heap.size := ⟨_, rfl⟩
  rw [← hkx] at hk0
  have hkl : kx < W0.heap.size := lt_of_block hk0
  have HW0 := Lib.hid hW0
  have HB0 := Lib.hid hB0
  have HK0 := Lib.hid hk0
  have HKX := Lib.hid hkx
  have HAE := Lib.hid hae
  clear h hget hae hW0 hB0 hk0 hkx c1
  go_enter Tryz.func63, Tryz.ntmps63
  go_wp2_with fail
  rw [← HW0.out, ← HKX.out]
  go_loopw [9, 21] (fun v i X => ∃ j : Nat, j ≤ a ∧ i = .int .i64 j ∧ (∃ x, v = .string x ∧ x = saidL (hist.take j).flatten ⟨kk, ka, kw, kb⟩ t ⟨#[]⟩) ∧ Below W0.heap.size W0 X) (fun _ i _ => a - (intOf i).toNat)
  case atStart => exact ⟨0, Nat.zero_le _, rfl, ⟨_, rfl, rfl⟩, Below.refl _ _⟩
  case round =>
    obtain ⟨j, hj, rfl, ⟨x, rfl, hx⟩, hb⟩ := hrel
    by_cases hlt : j < a
    · obtain ⟨tx, htx⟩ : ∃ tx, hist[j]? = some tx := ⟨_, List.getElem?_eq_getElem (by omega)⟩
      obtain ⟨b0, b, cap, rfl, hb0, hc, hbb, ho⟩ := HG.out j tx htx
      have ht8 : tx.length ≤ 8 := (okL_iff.1 (HOK.out tx (List.mem_of_getElem? htx))).1.2
      have hbw : Below w.heap.size w wr := HB0.out.trans (hb.mono HB0.out.size)
      have c2 := below_cell hbw hb0 hc
      have hb02 : b0 < wr.heap.size := Nat.lt_of_lt_of_le hb0 hbw.size
      have j0 : (0 : Int) ≤ (j : Int) := by omega
      have j1 : (j : Int) < (a : Int) := by omega
      have hnx : (hist.take (j + 1)).flatten = (hist.take j).flatten ++ tx := by
        have : hist.take (j + 1) = hist.take j ++ [tx] := by rw [List.take_add_one, htx]; rfl
        rw [this, List.flatten_append]; simp
      have HX := Lib.hid hx
      have HB := Lib.hid hb
      have HO := Lib.hid ho
      have HNX := Lib.hid hnx
      clear htx hc ho hbw hb hx hnx
      go_wp2_with fail
      go_loopw [9, 27] (fun v i X => ∃ q : Nat, q ≤ tx.length ∧ i = .int .i64 q ∧ (∃ x, v = .string x ∧ x = saidL ((hist.take j).flatten ++ tx.take q) ⟨kk, ka, kw, kb⟩ t ⟨#[]⟩) ∧ Below W0.heap.size W0 X) (fun _ i _ => tx.length - (intOf i).toNat)
      case atStart => exact ⟨0, Nat.zero_le _, rfl, ⟨_, rfl, by rw [List.take_zero, List.append_nil]; exact HX.out⟩, HB.out⟩
      case round =>
        obtain ⟨q, hq, rfl, ⟨x, rfl, hx⟩, hb⟩ := hrel
        by_cases hqt : q < tx.length
        · have hbw : Below w.heap.size w wr := HB0.out.trans (hb.mono HB0.out.size)
          obtain ⟨bq, f, n, o1, sx, m, x1, x2, u, g1, e1, hbl, d0, d1, d2, d3, d4, d5, d6⟩ := opsAt_get (HO.out.below hbw) hqt
          cases e1
          simp only [Nat.zero_add] at d0 d1 d2 d3 d4 d5 d6
          have kxb := (hb.block kx hkl).trans HK0.out
          have k0 : wr.cell? ⟨kx, 0, none⟩ = some (.int .i64 kk) := by simp [World.cell?, kxb]
          have k1 : wr.cell? ⟨kx, 1, none⟩ = some (.int .i64 ka) := by simp [World.cell?, kxb]
          have k2 : wr.cell? ⟨kx, 2, none⟩ = some (.string kw) := by simp [World.cell?, kxb]
          have k3 : wr.cell? ⟨kx, 3, none⟩ = some (.int .i64 kb) := by simp [World.cell?, kxb]
          have hkl2 : kx < wr.heap.size := lt_of_block kxb
          have hst : saidL ((hist.take j).flatten ++ tx.take (q + 1)) ⟨kk, ka, kw, kb⟩ t ⟨#[]⟩ = if (⟨kk, ka, kw, kb⟩ : KeyP) = ⟨n, o1, sx, m⟩ ∧ x1 ≤ t ∧ t < x2 then u else x := by
            have : tx.take (q + 1) = tx.take q ++ [⟨⟨n, o1, sx, m⟩, x1, x2, u⟩] := by rw [List.take_add_one, g1.out]; rfl
            rw [this, ← List.append_assoc, saidL_snoc, hx]
          have q0 : (0 : Int) ≤ (q : Int) := by omega
          have q1 : (q : Int) < (tx.length : Int) := by omega
          have hbA : ∀ o : Obj, Below W0.heap.size W0 (wr.alloc o) := fun o => hb.alloc hb.size o
          have HBA := Lib.hid hbA
          have HB2 := Lib.hid hb
          have HST := Lib.hid hst
          clear kxb hb hbw hst hx hbA
          by_cases hkey : (⟨n, o1, sx, m⟩ : KeyP) = ⟨kk, ka, kw, kb⟩
          · have hkq : keyEqB n o1 m kk ka kb sx kw = true := by rw [keyEqB_iff]; exact decide_eq_true hkey
            have HH := fun X => rhas_any x1 x2 t X
            by_cases hh : x1 ≤ t ∧ t < x2
            · have hsp : hasB x1 x2 t = true := decide_eq_true hh
              rw [hsp] at HH
              have HH := Lib.hid HH
              have HST2 := Lib.hid (HST.out.trans (if_pos ⟨hkey.symm, hh⟩))
              clear hkey hh hsp HST
              go_wp2_with fail
              refine (HH.out _).mono ?_
              rintro e w7 ⟨rfl, b7⟩
              have n6 := (below_cell b7 (b := wr.heap.size) (by simp) (show (wr.alloc _).cell? ⟨wr.heap.size, 6, none⟩ = some (.string u) by simp))
              have hn7 : wr.heap.size < w7.heap.size := by have := b7.size; simp at this; omega
              have HB7 := Lib.hid (below_trans (HBA.out _) (HBA.out _).size b7)
              clear b7
              go_wp2_with fail
              exact ⟨⟨q + 1, by omega, by go_num, ⟨_, rfl, HST2.out.symm⟩, HB7.out⟩, by simp [intOf]; omega⟩
            · have hsp : hasB x1 x2 t = false := decide_eq_false hh
              rw [hsp] at HH
              have HH := Lib.hid HH
              have HST2 := Lib.hid (HST.out.trans (if_neg (fun e => hh e.2)))
              clear hkey hh hsp HST
              go_wp2_with fail
              refine (HH.out _).mono ?_
              rintro e w7 ⟨rfl, b7⟩
              have HB7 := Lib.hid (below_trans (HBA.out _) (HBA.out _).size b7)
              clear b7
              go_wp2_with fail
              exact ⟨⟨q + 1, by omega, by go_num, ⟨_, rfl, HST2.out.symm⟩, HB7.out⟩, by simp [intOf]; omega⟩
          · have hkq : keyEqB n o1 m kk ka kb sx kw = false := by rw [keyEqB_iff]; exact decide_eq_false hkey
            have HST2 := Lib.hid (HST.out.trans (if_neg (fun e => hkey e.1.symm)))
            clear hkey HST
            go_wp2_with fail
            exact ⟨⟨q + 1, by omega, by go_num, ⟨_, rfl, HST2.out.symm⟩, HBA.out _⟩, by simp [intOf]; omega⟩
        · obtain rfl : q = tx.length := by omega
          rw [List.take_of_length_le (Nat.le_refl _), ← HNX.out] at hx
          have HX2 := Lib.hid hx
          have HB2 := Lib.hid hb
          clear hx hb
          go_wp2_with fail
          exact ⟨⟨j + 1, by omega, by go_num, ⟨_, rfl, HX2.out⟩, HB2.out⟩, by simp [intOf]; omega⟩
    · obtain rfl : j = a := by omega
      have HX := Lib.hid hx
      have HB := Lib.hid (HB0.out.trans (hb.mono HB0.out.size))
      clear hx hb
      go_wp2_with fail
      go_ret
      exact ⟨by rw [HX.out]; rfl, HB.out⟩
end
end Go.Proofs.YtflhpmgjehjjkaaGreatDoor

namespace Go.Proofs.YtflhpmgjehjjkaaGreatDoor
open Go.RowKit Go.Deep Go.Shelf Go.Sort Go.Maps

theorem askR_0 {N : Nat} {known a : Int} (h : askR N known a = 0) : 0 ≤ a ∧ a ≤ N ∧ known ≤ a := by
  unfold askR at h
  split at h
  · cases h
  · split at h
    · cases h
    · omega

section
variable {F : Nat → Prop} {rb : Nat} {hist : List (List OpP)} {known : Int}
end
end Go.Proofs.YtflhpmgjehjjkaaGreatDoor

namespace Go.Proofs.YtflhpmgjehjjkaaGreatDoor
open Go.RowKit Go.Deep Go.Shelf Go.Sort Go.Maps


section
variable {F : Nat → Prop} {rb : Nat} {hist : List (List OpP)} {known : Int}
end
end Go.Proofs.YtflhpmgjehjjkaaGreatDoor

namespace Go.Proofs.YtflhpmgjehjjkaaGreatDoor
open Go.RowKit Go.Deep Go.Shelf Go.Sort Go.Maps

/-- The error's number that the reference's Pieces answers. -/
def pieRE (hist : List (List OpP)) (known : Int) (k : KeyP) (a : Int) : Int := if askR hist.length known a ≠ 0 then askR hist.length known a else if keyB k then 0 else 1

section
variable {F : Nat → Prop} {rb : Nat} {hist : List (List OpP)} {known : Int}
end
end Go.Proofs.YtflhpmgjehjjkaaGreatDoor

namespace Go.Proofs.YtflhpmgjehjjkaaGreatDoor
open Go.RowKit Go.Deep Go.Shelf Go.Sort Go.Maps

/-- The error's number that the reference's Ever answers. -/
def everRE (hist : List (List OpP)) (known : Int) (k : KeyP) (a b f t : Int) : Int :=
  if askR hist.length known a ≠ 0 then askR hist.length known a else if askR hist.length known b ≠ 0 then askR hist.length known b else if b < a then 10 else if keyB k && rightB f t then 0 else 1

theorem new_blk (W : World) (cs : Array Value) (ty : TypeId) (n : Nat) (hn : W.heap.size = n) : (W.alloc (.cells cs ty)).heap[n]? = some (.cells cs ty (0, 0)) := by
  subst hn; exact block_alloc_new W _

section
variable {F : Nat → Prop} {rb : Nat} {hist : List (List OpP)} {known : Int}
end
end Go.Proofs.YtflhpmgjehjjkaaGreatDoor
