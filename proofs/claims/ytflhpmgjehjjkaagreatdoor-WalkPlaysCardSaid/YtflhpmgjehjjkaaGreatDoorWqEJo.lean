/- The document's Hops. -/
import Derived.Deep.DeepCutAuto
import Derived.DeepKeys4
import Derived.WideKeyArgs2
import Derived.Laws.EntriesVeiled
import Derived.Deep.RegionHeld3
import Derived.Deep.LoopGhost
import Derived.Test.YtflhpmgjehjjkaaGreatDoorWqAJo
import Derived.Test.YtflhpmgjehjjkaaGreatDoorWkCJo
import Derived.Test.YtflhpmgjehjjkaaGreatDoorWkKJo
import Derived.Test.YtflhpmgjehjjkaaGreatDoorWkIJo
import Derived.Test.YtflhpmgjehjjkaaGreatDoorRpJJo
import Derived.Test.YtflhpmgjehjjkaaGreatDoorAppMJo
import Derived.Test.YtflhpmgjehjjkaaGreatDoorWkPJo
import Derived.Test.YtflhpmgjehjjkaaGreatDoorErrCJo
import Derived.Test.YtflhpmgjehjjkaaGreatDoorPickJo
import Derived.Test.YtflhpmgjehjjkaaGreatDoorWkDJo
import Derived.Test.YtflhpmgjehjjkaaGreatDoorPwMJo
import Derived.Test.YtflhpmgjehjjkaaGreatDoorTreeRJo
namespace Go.Proofs.YtflhpmgjehjjkaaGreatDoor
open Go.RowKit Go.Deep Go.Shelf Go.Sort Go.Maps

def propP (G : List (KeyP × ByteArray)) (n : Int) (word : ByteArray) : ByteArray × Int :=
  if isN G n = true then (if (ofP G ⟨3, n, word, 0⟩).size = 0 then (⟨#[]⟩, 8) else (ofP G ⟨3, n, word, 0⟩, 0)) else (⟨#[]⟩, 7)
def nodeOk (kind : ByteArray) (p : KeyP × ByteArray) : Bool := decide (p.1.kind = 1) && (decide (kind.size = 0) || decide (p.2 = kind))
def edgeOk (G : List (KeyP × ByteArray)) (p : KeyP × ByteArray) : Bool := decide (p.1.kind = 2) && (isN G p.1.a && isN G p.1.b)
theorem nodesK_snoc {G : List (KeyP × ByteArray)} {kind : ByteArray} {p : KeyP × ByteArray} : nodesK (G ++ [p]) kind = nodesK G kind ++ (if nodeOk kind p = true then [p.1.a] else []) := by
  unfold nodesK nodeOk
  rw [List.filter_append, List.map_append]
  congr 1
  split
  · rename_i h; simp only [List.filter_cons, h, if_true, List.filter_nil, List.map_cons, List.map_nil]
  · rename_i h; simp only [List.filter_cons, h, List.filter_nil]; rfl
def edgesGP (G H : List (KeyP × ByteArray)) : List KeyP := (H.filter (edgeOk G)).map (·.1)
theorem edgesGP_snoc {G H : List (KeyP × ByteArray)} {p : KeyP × ByteArray} : edgesGP G (H ++ [p]) = edgesGP G H ++ (if edgeOk G p = true then [p.1] else []) := by
  unfold edgesGP
  rw [List.filter_append, List.map_append]
  congr 1
  split
  · rename_i h; simp only [List.filter_cons, h, if_true, List.filter_nil, List.map_cons, List.map_nil]
  · rename_i h; simp only [List.filter_cons, h, List.filter_nil]; rfl
theorem nodesK_len (G : List (KeyP × ByteArray)) (kind : ByteArray) : (nodesK G kind).length ≤ G.length := by unfold nodesK; rw [List.length_map]; exact List.length_filter_le _ _
theorem edgesGP_len (G H : List (KeyP × ByteArray)) : (edgesGP G H).length ≤ H.length := by unfold edgesGP; rw [List.length_map]; exact List.length_filter_le _ _
set_option maxRecDepth 100000 in
set_option maxHeartbeats 2000000 in
theorem rgprop_any (n : Int) (word : ByteArray) (w : World) {rb : Nat} {G : List (KeyP × ByteArray)} (h : RG w rb G) :
    Calls Tryz.prog 24 #[.pointer (some ⟨rb, 0, none⟩), .int .i64 n, .string word] w fun e w' => e = .returned (.tuple #[.string (propP G n word).1, .int .i64 (propP G n word).2]) ∧ Below w.heap.size w w' := by
  have HI := Lib.hid (rgis_any n w h)
  have HO := Lib.hid fun X (hX : Below w.heap.size w X) => rgof_any ⟨3, n, word, 0⟩ X (h.below hX)
  have hP : propP G n word = if isN G n = true then (if (ofP G ⟨3, n, word, 0⟩).size = 0 then (⟨#[]⟩, 8) else (ofP G ⟨3, n, word, 0⟩, 0)) else (⟨#[]⟩, 7) := rfl
  clear h
  generalize hv : ofP G ⟨3, n, word, 0⟩ = v at *
  generalize hb : isN G n = b at *
  have HP := Lib.hid hP
  clear hP hv hb
  go_enter Tryz.func24, Tryz.ntmps24
  cases b
  · have HQ : Hid (propP G n word = (⟨#[]⟩, 7)) := Lib.hid (by rw [HP.out]; rfl)
    go_wp2_with (go_at_call 64; (with_reducible refine HI.out.mono ?_); rintro e w1 ⟨rfl, b1⟩; have HB := Lib.hid b1; clear b1)
    go_ret2
    exact ⟨by rw [HQ.out]; rfl, HB.out⟩
  · by_cases h0 : v.size = 0
    · have h1 := empty_true h0
      have HQ : Hid (propP G n word = (⟨#[]⟩, 8)) := Lib.hid (by rw [HP.out, if_pos rfl, if_pos h0])
      clear h0
      go_wp2_with (first
        | (go_at_call 64; (with_reducible refine HI.out.mono ?_); rintro e w1 ⟨rfl, b1⟩; have HB := Lib.hid b1; clear b1)
        | (go_at_call 65; (with_reducible refine (HO.out w1 HB.out).mono ?_); rintro e w2 ⟨rfl, b2⟩; have HB2 := Lib.hid (HB.out.trans (b2.mono HB.out.size)); clear b2))
      go_ret2
      exact ⟨by rw [HQ.out]; rfl, HB2.out⟩
    · have h1 := empty_false h0
      have HQ : Hid (propP G n word = (v, 0)) := Lib.hid (by rw [HP.out, if_pos rfl, if_neg h0])
      clear h0
      go_wp2_with (first
        | (go_at_call 64; (with_reducible refine HI.out.mono ?_); rintro e w1 ⟨rfl, b1⟩; have HB := Lib.hid b1; clear b1)
        | (go_at_call 65; (with_reducible refine (HO.out w1 HB.out).mono ?_); rintro e w2 ⟨rfl, b2⟩; have HB2 := Lib.hid (HB.out.trans (b2.mono HB.out.size)); clear b2))
      go_ret2
      exact ⟨by rw [HQ.out]; rfl, HB2.out⟩
set_option maxRecDepth 100000 in
set_option maxHeartbeats 4000000 in
theorem rgnodes_any (kind : ByteArray) (w : World) {rb : Nat} {G : List (KeyP × ByteArray)} (h : RG w rb G) :
    Calls Tryz.prog 29 #[.pointer (some ⟨rb, 0, none⟩), .string kind] w fun e w' => ∃ v, e = .returned v ∧ w'.ownsRow w.heap.size 3 1 v (nodesK G kind).length ((sortI (nodesK G kind)).map (Value.int .i64)) ∧ Below w.heap.size w w' := by
  obtain ⟨ko, kc, vo, vc, c0, c1, hrl, hK, hS⟩ := h.cells
  have hlen := h.len
  have HK := Lib.hid hK
  have HS := Lib.hid hS
  clear h hK hS
  go_enter Tryz.func29, Tryz.ntmps29
  go_wp2_with fail
  go_loopw [5, 13] (fun v vi X => ∃ i : Nat, i ≤ G.length ∧ vi = .int .i64 i ∧ X.ownsRow w.heap.size 3 1 v (nodesK (G.take i) kind).length ((nodesK (G.take i) kind).map (Value.int .i64)) ∧ Below w.heap.size w X) (fun _ vi _ => G.length - (intOf vi).toNat)
  case atStart => exact ⟨0, Nat.zero_le _, rfl, World.ownsRow_nil _ _ _ _, Below.refl _ _⟩
  case round =>
    obtain ⟨i, hi, rfl, hown, hb⟩ := hrel
    have hsz := hb.size
    by_cases hlt : i < G.length
    · obtain ⟨bk, bv, q, s, rfl, rfl, hg, hbk, hbv, d0, d1, d2, d3, e0⟩ := rg_get (HK.out.below hb) (HS.out.below hb) hlt
      obtain ⟨W4, hW4⟩ : ∃ W4, W4 = wr.alloc (.cells #[.int .i64 q.kind, .int .i64 q.a, .string q.word, .int .i64 q.b] 44) := ⟨_, rfl⟩
      obtain ⟨qx, hqx⟩ : ∃ qx, qx = wr.heap.size := ⟨_, rfl⟩
      have b4 : Below wr.heap.size wr W4 := by rw [hW4]; exact (Below.refl _ _).alloc (Nat.le_refl _) _
      have hqb : W4.heap[qx]? = some (.cells #[.int .i64 q.kind, .int .i64 q.a, .string q.word, .int .i64 q.b] 44 (0, 0)) := by rw [hW4, hqx]; exact block_alloc_new _ _
      have k0 : W4.cell? ⟨qx, 0, none⟩ = some (.int .i64 q.kind) := block_cell hqb 0
      have k1 : W4.cell? ⟨qx, 1, none⟩ = some (.int .i64 q.a) := block_cell hqb 1
      have hql : qx < W4.heap.size := lt_of_block hqb
      have r1 := below_cell b4 (Nat.lt_of_lt_of_le hrl hb.size) (below_cell hb hrl c1)
      have hrl4 := Nat.lt_of_lt_of_le (Nat.lt_of_lt_of_le hrl hb.size) b4.size
      have e1 := below_cell b4 hbv e0
      have hbv4 := Nat.lt_of_lt_of_le hbv b4.size
      have i0 : (0 : Int) ≤ (i : Int) := by omega
      have i1 : (i : Int) < (G.length : Int) := by omega
      have hst : nodesK (G.take (i + 1)) kind = nodesK (G.take i) kind ++ (if nodeOk kind (q, s) = true then [q.a] else []) := by
        rw [List.take_add_one, hg.out]; exact nodesK_snoc
      have hnl : (nodesK (G.take i) kind).length ≤ 4000 := by have := nodesK_len (G.take i) kind; rw [List.length_take] at this; omega
      have HO4 := Lib.hid (ownsRow_below hown b4)
      have HB4 := Lib.hid (hb.trans (b4.mono hsz))
      have h4 : w.heap.size ≤ W4.heap.size := Nat.le_trans hsz b4.size
      have HST := Lib.hid hst
      have HW4 := Lib.hid hW4
      have HQX := Lib.hid hqx
      obtain ⟨l, hl⟩ : ∃ l, l = nodesK (G.take i) kind := ⟨_, rfl⟩
      rw [← hl] at HST HO4 hnl
      clear hW4 hqx hqb hst b4 hb hown c0 c1 hl hg
      have no : nodeOk kind (q, s) = false → nodesK (G.take (i + 1)) kind = l := fun hh => by rw [HST.out, hh]; simp
      have yes : nodeOk kind (q, s) = true → nodesK (G.take (i + 1)) kind = l ++ [q.a] := fun hh => by rw [HST.out, hh]; simp
      have NO := Lib.hid no
      have YES := Lib.hid yes
      clear no yes HST
      obtain ⟨qk, qa, qw, qb⟩ := q
      simp only [] at d0 d1 d2 d3 k0 k1 YES
      by_cases hk : qk = 1
      · subst hk
        by_cases h0 : kind.size = 0
        · have hw0 := empty_true h0
          have HN := Lib.hid (YES.out (by unfold nodeOk; simp [h0]))
          clear h0
          go_wp2_with (first
            | (rw [← HW4.out, ← HQX.out])
            | (at_builtin; refine appInt rfl _ _ rfl w.heap.size _ l rfl (HO4.out.alloc _) W4.heap.size qa rfl (by simp) (by omega) (by simp; omega) w (HB4.out.alloc h4 _) ?_; intro v' w6 hown6 hB6 hs6 hg6))
          exact ⟨⟨i + 1, by omega, by go_num, by rw [HN.out]; exact hown6, hB6⟩, by simp [intOf]; omega⟩
        · have hw0 := empty_false h0
          by_cases hs : s = kind
          · have hw1 : (s.toList == kind.toList) = true := by rw [hs]; simp
            have HN := Lib.hid (YES.out (by unfold nodeOk; simp [hs]))
            clear h0 hs
            go_wp2_with (first
              | (rw [← HW4.out, ← HQX.out])
              | (at_builtin; refine appInt rfl _ _ rfl w.heap.size _ l rfl (HO4.out.alloc _) W4.heap.size qa rfl (by simp) (by omega) (by simp; omega) w (HB4.out.alloc h4 _) ?_; intro v' w6 hown6 hB6 hs6 hg6))
            exact ⟨⟨i + 1, by omega, by go_num, by rw [HN.out]; exact hown6, hB6⟩, by simp [intOf]; omega⟩
          · have hw1 : (s.toList == kind.toList) = false := by
              have : ¬ s.toList = kind.toList := fun e => hs (bytes_ext (by rw [← ByteArray.toList_eq, ← ByteArray.toList_eq]; exact e))
              simpa using this
            have HN := Lib.hid (NO.out (by unfold nodeOk; simp [h0, hs]))
            clear h0 hs
            go_wp2_with (rw [← HW4.out, ← HQX.out])
            exact ⟨⟨i + 1, by omega, by go_num, by rw [HN.out]; exact HO4.out, HB4.out⟩, by simp [intOf]; omega⟩
      · have HN := Lib.hid (NO.out (by unfold nodeOk; simp [hk]))
        go_wp2_with (rw [← HW4.out, ← HQX.out])
        exact ⟨⟨i + 1, by omega, by go_num, by rw [HN.out]; exact HO4.out, HB4.out⟩, by simp [intOf]; omega⟩
    · obtain rfl : i = G.length := by omega
      rw [List.take_of_length_le (Nat.le_refl _)] at hown
      have hnl : (nodesK G kind).length ≤ 4000 := Nat.le_trans (nodesK_len G kind) hlen
      obtain ⟨l, hl⟩ : ∃ l, l = nodesK G kind := ⟨_, rfl⟩
      rw [← hl] at hown hnl
      have HL := Lib.hid hl
      have CS := Lib.hid (sortInts_own w.heap.size l _ wr hown hsz (by omega))
      have HB := Lib.hid hb
      clear hown hb hl
      go_wp2_with (go_at_call 68; (with_reducible refine CS.out.mono ?_); rintro e w6 ⟨rfl, own6, b6⟩; have HO6 := Lib.hid own6; have B6 := Lib.hid b6; clear own6 b6)
      go_ret
      exact ⟨_, rfl, by rw [← HL.out]; exact HO6.out, HB.out.trans B6.out⟩
end Go.Proofs.YtflhpmgjehjjkaaGreatDoor

namespace Go.Proofs.YtflhpmgjehjjkaaGreatDoor
open Go.RowKit Go.Deep Go.Shelf Go.Sort Go.Maps

set_option maxRecDepth 100000 in
set_option maxHeartbeats 4000000 in
theorem rgedges_any (w : World) {rb : Nat} {G : List (KeyP × ByteArray)} (h : RG w rb G) :
    Calls Tryz.prog 31 #[.pointer (some ⟨rb, 0, none⟩)] w fun e w' => ∃ ao cap, e = .returned (.slice ao (edgesGP G G).length cap) ∧ KeysIn w' ao (edgesGP G G) ∧ Below w.heap.size w w' := by
  obtain ⟨ko, kc, vo, vc, c0, c1, hrl, hK, hS⟩ := h.cells
  have hlen := h.len
  have HIS := Lib.hid fun (n : Int) (X : World) (hX : Below w.heap.size w X) => rgis_any n X (h.below hX)
  have HK := Lib.hid hK
  have HS := Lib.hid hS
  clear h hK hS
  go_enter Tryz.func31, Tryz.ntmps31
  go_wp2_with fail
  go_loopw [3, 11] (fun v vi X => ∃ i : Nat, i ≤ G.length ∧ vi = .int .i64 i ∧ X.ownsRow w.heap.size 44 4 v (edgesGP G (G.take i)).length (flatKeys (edgesGP G (G.take i))) ∧ Below w.heap.size w X) (fun _ vi _ => G.length - (intOf vi).toNat)
  case atStart => exact ⟨0, Nat.zero_le _, rfl, World.ownsRow_nil _ _ _ _, Below.refl _ _⟩
  case round =>
    obtain ⟨i, hi, rfl, hown, hb⟩ := hrel
    have hsz := hb.size
    by_cases hlt : i < G.length
    · obtain ⟨bk, bv, ⟨qk, qa, qw, qb⟩, s, rfl, _, hg, hbk, _, d0, d1, d2, d3, _⟩ := rg_get (HK.out.below hb) (HS.out.below hb) hlt
      simp only [] at d0 d1 d2 d3
      obtain ⟨W4, hW4⟩ : ∃ W4, W4 = wr.alloc (.cells #[.int .i64 qk, .int .i64 qa, .string qw, .int .i64 qb] 44) := ⟨_, rfl⟩
      obtain ⟨qx, hqx⟩ : ∃ qx, qx = wr.heap.size := ⟨_, rfl⟩
      have b4 : Below wr.heap.size wr W4 := by rw [hW4]; exact (Below.refl _ _).alloc (Nat.le_refl _) _
      have hqb : W4.heap[qx]? = some (.cells #[.int .i64 qk, .int .i64 qa, .string qw, .int .i64 qb] 44 (0, 0)) := by rw [hW4, hqx]; exact block_alloc_new _ _
      have k0 : W4.cell? ⟨qx, 0, none⟩ = some (.int .i64 qk) := block_cell hqb 0
      have k1 : W4.cell? ⟨qx, 1, none⟩ = some (.int .i64 qa) := block_cell hqb 1
      have k2 : W4.cell? ⟨qx, 2, none⟩ = some (.string qw) := block_cell hqb 2
      have k3 : W4.cell? ⟨qx, 3, none⟩ = some (.int .i64 qb) := block_cell hqb 3
      have hql : qx < W4.heap.size := lt_of_block hqb
      have i0 : (0 : Int) ≤ (i : Int) := by omega
      have i1 : (i : Int) < (G.length : Int) := by omega
      have hst : edgesGP G (G.take (i + 1)) = edgesGP G (G.take i) ++ (if edgeOk G (⟨qk, qa, qw, qb⟩, s) = true then [⟨qk, qa, qw, qb⟩] else []) := by
        rw [List.take_add_one, hg.out]; exact edgesGP_snoc
      have hnl : (edgesGP G (G.take i)).length ≤ 4000 := by have := edgesGP_len G (G.take i); rw [List.length_take] at this; omega
      have HO4 := Lib.hid (ownsRow_below hown b4)
      have HB4 := Lib.hid (hb.trans (b4.mono hsz))
      have h4 : w.heap.size ≤ W4.heap.size := Nat.le_trans hsz b4.size
      have hok : edgeOk G (⟨qk, qa, qw, qb⟩, s) = (decide (qk = 2) && (isN G qa && isN G qb)) := rfl
      have HST := Lib.hid hst
      have HW4 := Lib.hid hW4
      have HQX := Lib.hid hqx
      obtain ⟨l, hl⟩ : ∃ l, l = edgesGP G (G.take i) := ⟨_, rfl⟩
      rw [← hl] at HST HO4 hnl
      have CA := HIS.out qa
      have CB := HIS.out qb
      clear hW4 hqx hqb hst b4 hb hown c0 c1 hl hg
      generalize hna : isN G qa = na at *
      generalize hnb : isN G qb = nb at *
      have no : (decide (qk = 2) && (na && nb)) = false → edgesGP G (G.take (i + 1)) = l := fun hh => by rw [HST.out, hok, hh]; simp
      have yes : (decide (qk = 2) && (na && nb)) = true → edgesGP G (G.take (i + 1)) = l ++ [⟨qk, qa, qw, qb⟩] := fun hh => by rw [HST.out, hok, hh]; simp
      have NO := Lib.hid no
      have YES := Lib.hid yes
      have CA := Lib.hid CA
      have CB := Lib.hid CB
      clear no yes HST hok hna hnb
      by_cases hk : qk = 2
      · subst hk
        cases na
        · have HN := Lib.hid (NO.out (by simp))
          go_wp2_with (first
            | (rw [← HW4.out, ← HQX.out])
            | (go_at_call 64; (with_reducible refine (CA.out W4 HB4.out).mono ?_); rintro e x1 ⟨rfl, b1⟩; have HB5 := Lib.hid (HB4.out.trans (b1.mono h4)); have HO5 := Lib.hid (ownsRow_below HO4.out b1); clear b1))
          exact ⟨⟨i + 1, by omega, by go_num, by rw [HN.out]; exact HO5.out, HB5.out⟩, by simp [intOf]; omega⟩
        · cases nb
          · have HN := Lib.hid (NO.out (by simp))
            go_wp2_with (first
              | (rw [← HW4.out, ← HQX.out])
              | (go_at_call 64; (first
                  | ((with_reducible refine (CA.out W4 HB4.out).mono ?_); rintro e x1 ⟨rfl, b1⟩; have HB5 := Lib.hid (HB4.out.trans (b1.mono h4)); have HO5 := Lib.hid (ownsRow_below HO4.out b1); have n0 := below_cell b1 hql k0; have n1 := below_cell b1 hql k1; have n2 := below_cell b1 hql k2; have n3 := below_cell b1 hql k3; have hql5 := Nat.lt_of_lt_of_le hql b1.size; clear b1)
                  | ((with_reducible refine (CB.out x1 HB5.out).mono ?_); rintro e x2 ⟨rfl, b2⟩; have HB6 := Lib.hid (HB5.out.trans (b2.mono HB5.out.size)); have HO6 := Lib.hid (ownsRow_below HO5.out b2); have m0 := below_cell b2 hql5 n0; have m1 := below_cell b2 hql5 n1; have m2 := below_cell b2 hql5 n2; have m3 := below_cell b2 hql5 n3; have hql6 := Nat.lt_of_lt_of_le hql5 b2.size; have hs6 := HB6.out.size; clear b2))))
            exact ⟨⟨i + 1, by omega, by go_num, by rw [HN.out]; exact HO6.out, HB6.out⟩, by simp [intOf]; omega⟩
          · have HN := Lib.hid (YES.out (by simp))
            go_wp2_with (first
              | (rw [← HW4.out, ← HQX.out])
              | (go_at_call 64; (first
                  | ((with_reducible refine (CA.out W4 HB4.out).mono ?_); rintro e x1 ⟨rfl, b1⟩; have HB5 := Lib.hid (HB4.out.trans (b1.mono h4)); have HO5 := Lib.hid (ownsRow_below HO4.out b1); have n0 := below_cell b1 hql k0; have n1 := below_cell b1 hql k1; have n2 := below_cell b1 hql k2; have n3 := below_cell b1 hql k3; have hql5 := Nat.lt_of_lt_of_le hql b1.size; clear b1)
                  | ((with_reducible refine (CB.out x1 HB5.out).mono ?_); rintro e x2 ⟨rfl, b2⟩; have HB6 := Lib.hid (HB5.out.trans (b2.mono HB5.out.size)); have HO6 := Lib.hid (ownsRow_below HO5.out b2); have m0 := below_cell b2 hql5 n0; have m1 := below_cell b2 hql5 n1; have m2 := below_cell b2 hql5 n2; have m3 := below_cell b2 hql5 n3; have hql6 := Nat.lt_of_lt_of_le hql5 b2.size; have hs6 := HB6.out.size; clear b2)))
              | (at_builtin; refine appKey rfl _ _ rfl w.heap.size _ l rfl (HO6.out.alloc _) x2.heap.size ⟨2, qa, qw, qb⟩ rfl (by simp) (by simp) (by simp) (by simp) (by omega) (by simp; omega) w (HB6.out.alloc hs6 _) ?_; intro v' w7 hown7 hB7 hs7 hg7))
            exact ⟨⟨i + 1, by omega, by go_num, by rw [HN.out]; exact hown7, hB7⟩, by simp [intOf]; omega⟩
      · have HN := Lib.hid (NO.out (by simp [hk]))
        go_wp2_with (rw [← HW4.out, ← HQX.out])
        exact ⟨⟨i + 1, by omega, by go_num, by rw [HN.out]; exact HO4.out, HB4.out⟩, by simp [intOf]; omega⟩
    · obtain rfl : i = G.length := by omega
      rw [List.take_of_length_le (Nat.le_refl _)] at hown
      obtain ⟨ao, cap, rfl, hin⟩ := ownsRow_keysIn hown
      have HB := Lib.hid hb
      have HIN := Lib.hid hin
      clear hown hb hin
      go_wp2_with fail
      go_ret
      exact ⟨ao, cap, rfl, HIN.out, HB.out⟩
end Go.Proofs.YtflhpmgjehjjkaaGreatDoor

namespace Go.Proofs.YtflhpmgjehjjkaaGreatDoor
open Go.RowKit Go.Deep Go.Shelf Go.Sort Go.Maps Go.WideMaps

def pairV (a b : Int) : Value := .agg #[.int .i64 a, .int .i64 b]
def pairLs (a b : Int) : List Lit := [.int .i64 a, .int .i64 b]
def kP (p : Int × Int) : Lit := .string (keyBytes (pairLs p.1 p.2))
theorem kP_key (p : Int × Int) : WideAt.IsKeyLit (kP p) := by trivial
theorem pair_keyType : Tryz.prog.keyType 45 = true := by kernel_rfl
theorem pair_laidOut : laidOutB Tryz.prog = true := by kernel_rfl
theorem pair_row : (45 : TypeId) < Tryz.prog.types.size := of_decide_eq_true (by kernel_rfl)
theorem pair_wide : (match Tryz.prog.underlying 45 with | some (.array _ _) | some (.struct _) => true | _ => false) = true := by kernel_rfl
theorem pair_at : Tryz.prog.keyTypeAt 2 45 = true := by kernel_rfl
theorem pair_cells : Tryz.prog.cellsOf 45 = 2 := by kernel_rfl
set_option maxRecDepth 100000 in
theorem pairLaw : Keyed Tryz.prog 45 := Keyed.of_law (deep_law_laid pair_laidOut (m := 2) (by decide) pair_row pair_at pair_wide)
theorem pair_sizes : ∃ n, Tryz.prog.types.size = n + 1 := succ_of_lt pair_row
set_option maxRecDepth 100000 in
theorem pair_lits (n : Nat) {a b : Int} (ha : i64 a) (hb : i64 b) : Tryz.prog.keyLits (n + 2) 45 [.int .i64 a, .int .i64 b] = some (pairLs a b) := by
  have w1 := wfI ha
  have w2 := wfI hb
  simp [Program.keyLits, Tryz.underlying45, Tryz.underlying3, pair_cells, cellsIntO, w1, w2, pairLs, List.range_succ]
theorem keyOf_pair {a b : Int} (ha : i64 a) (hb : i64 b) : keyOf Tryz.prog 45 (pairV a b) = some (kP (a, b)) := by
  obtain ⟨n, hn⟩ := pair_sizes
  have hf : (pairV a b).formed Tryz.prog 45 = true := by
    unfold pairV Value.formed; simp only [Tryz.underlying45, pair_cells]; rfl
  unfold keyOf
  rw [Tryz.underlying45]
  simp only [pair_keyType, hf, Bool.and_self, if_true, hn]
  show ((Tryz.prog.keyLits (n + 1 + 1) 45 [.int .i64 a, .int .i64 b]).map fun ls => Lit.string (keyBytes ls)) = _
  rw [pair_lits n ha hb]; rfl
theorem kP_inj {p q : Int × Int} (hp : i64 p.1 ∧ i64 p.2) (hq : i64 q.1 ∧ i64 q.2) (h : kP p = kP q) : p = q := by
  have := pairLaw.inj (keyOf_pair hp.1 hp.2) (by rw [show kP (p.1, p.2) = kP (q.1, q.2) from h]; exact keyOf_pair hq.1 hq.2)
  simp [pairV] at this
  exact Prod.ext this.1 this.2
/-- The map holds just these pairs, each as true. -/
structure EM (w : World) (b : Nat) (L : List (Int × Int)) : Prop where
  rng : ∀ p ∈ L, i64 p.1 ∧ i64 p.2
  own : ∃ D n M, w.ownsMap Tryz.prog 45 booR b n D ∧ n ≤ L.length ∧ MapOf kP (fun _ => booD true) D M ∧ M.Nodup ∧ ∀ p, p ∈ M ↔ p ∈ L
theorem EM.frame {F : Nat → Prop} {w w' : World} {b : Nat} {L : List (Int × Int)} (h : EM w b L) (hf : Fr F w w') (hn : ¬ F b) : EM w' b L := by
  obtain ⟨D, n, M, h1, h2⟩ := h.own
  exact ⟨h.rng, D, n, M, owns_frame h1 hf hn, h2⟩
theorem EM.below {w w' : World} {b : Nat} {L : List (Int × Int)} (h : EM w b L) (hb : Below w.heap.size w w') : EM w' b L := h.frame (F := fun _ => False) (Fr.new hb) (fun e => e)
theorem EM.lt {w : World} {b : Nat} {L : List (Int × Int)} (h : EM w b L) : b < w.heap.size := by obtain ⟨D, n, M, h1, _⟩ := h.own; exact h1.lt
theorem EM.look {w : World} {b : Nat} {L : List (Int × Int)} (h : EM w b L) {x y : Int} (hx : i64 x) (hy : i64 y) :
    (Instr.lookup 40 (.map (some b)) (.agg #[.int .i64 x, .int .i64 y]) false).run Tryz.prog w = .ok (.bool (decide ((x, y) ∈ L))) w := by
  obtain ⟨D, n, M, hown, _, hD, _, hM⟩ := h.own
  obtain ⟨u, ps, hr, hu⟩ := hown.lookup pairLaw Tryz.underlying40 (zeroBooW w) (booVT.put false) (keyOf_pair hx hy)
  obtain ⟨b', rfl, e1⟩ := booVT.inv _ _ hu
  simp only [Prod.mk.injEq] at e1
  by_cases hm : (x, y) ∈ L
  · have e2 := hD.at' (x, y) ((hM _).2 hm) (booD false)
    have e3 : b' = true := booVT.inj _ _ (e1.1.symm.trans e2)
    subst e3
    rw [decide_eq_true hm]; exact hr
  · have h0 : Maps.has D (kP (x, y)) = false := hD.none (kP_key _) fun q hq e => by
      have hq' := (hM q).1 hq
      have := kP_inj (h.rng q hq') ⟨hx, hy⟩ e
      subst this
      exact hm hq'
    have e2 := atKey_of_not_has h0 (booD false)
    have e3 : b' = false := booVT.inj _ _ (e1.1.symm.trans e2)
    subst e3
    rw [decide_eq_false hm]; exact hr
/-- One pair more. -/
theorem EM.put {L : List (Int × Int)} (hr : ∀ p ∈ L, i64 p.1 ∧ i64 p.2) {w' : World} {b n : Nat} {D : DataW Unit} {M : List (Int × Int)} (hn : n ≤ L.length) (hD : MapOf kP (fun _ => booD true) D M) (hnd : M.Nodup) (hM : ∀ p, p ∈ M ↔ p ∈ L) {x y : Int} (hx : i64 x) (hy : i64 y)
    (hown : w'.ownsMap Tryz.prog 45 booR b (n + 1) (D.put (kP (x, y)) (booD true))) : EM w' b (L ++ [(x, y)]) := by
  refine ⟨fun p hp => ?_, ?_⟩
  · rcases List.mem_append.1 hp with h | h
    · exact hr p h
    · simp at h; subst h; exact ⟨hx, hy⟩
  · by_cases hm : (x, y) ∈ M
    · have hp := List.perm_cons_erase hm
      have h1 := hD.perm hp
      have hne : ∀ q ∈ M.erase (x, y), kP q ≠ kP (x, y) := fun q hq e => by
        have hqM : q ∈ M := List.mem_of_mem_erase hq
        have := kP_inj (hr q ((hM q).1 hqM)) ⟨hx, hy⟩ e
        subst this
        exact hnd.not_mem_erase hq
      have h2 := h1.over (x, y) rfl (kP_key _) hne
      refine ⟨_, _, M, hown, by rw [List.length_append, List.length_singleton]; omega, h2.perm hp.symm, hnd, fun p => ?_⟩
      rw [hM, List.mem_append, List.mem_singleton]
      exact ⟨.inl, fun h => h.elim id fun e => by subst e; exact (hM _).1 hm⟩
    · have h1 := hD.put (x, y) (kP_key _) fun q hq e => by
        have := kP_inj (hr q ((hM q).1 hq)) ⟨hx, hy⟩ e
        subst this
        exact hm hq
      refine ⟨_, _, (x, y) :: M, hown, by rw [List.length_append, List.length_singleton]; omega, h1, List.nodup_cons.2 ⟨hm, hnd⟩, fun p => ?_⟩
      rw [List.mem_cons, hM, List.mem_append, List.mem_singleton]
      exact ⟨fun h => h.symm, fun h => h.symm⟩
end Go.Proofs.YtflhpmgjehjjkaaGreatDoor

namespace Go.Proofs.YtflhpmgjehjjkaaGreatDoor
open Go.RowKit Go.Deep Go.Shelf Go.Sort Go.Maps

/-! ### In plain words -/
def wx : ByteArray := ⟨#[120]⟩


end Go.Proofs.YtflhpmgjehjjkaaGreatDoor

namespace Go.Proofs.YtflhpmgjehjjkaaGreatDoor
open Go.RowKit Go.Deep Go.Shelf Go.Sort Go.Maps

theorem KeysIn.frame {F : Nat → Prop} {w w' : World} {ao : Option Addr} {l : List KeyP} (h : KeysIn w ao l) (hf : Fr F w w') (hn : ∀ b, ao = some ⟨b, 0, none⟩ → ¬ F b) : KeysIn w' ao l := fun j p hp => by
  obtain ⟨b, h1, h2, h3, h4, h5⟩ := h j p hp
  have hl := World.block_lt_of_cell? w _ h2
  have e := hf.block b hl (hn b h1)
  exact ⟨b, h1, (World.cell?_of_block (a := ⟨b, _, none⟩) e).trans h2, (World.cell?_of_block (a := ⟨b, _, none⟩) e).trans h3, (World.cell?_of_block (a := ⟨b, _, none⟩) e).trans h4, (World.cell?_of_block (a := ⟨b, _, none⟩) e).trans h5⟩
/-- A map's block has no cells. -/
theorem owns_no_cell {P : Program} {k : TypeId} {R : Value → Option (DataW Unit × List MemPlace)} {w : World} {b n i : Nat} {D : DataW Unit} {v : Value} (h : w.ownsMap P k R b n D) (hc : w.cell? ⟨b, i, none⟩ = some v) : False := by
  obtain ⟨es, clock, hb, _⟩ := h
  simp [World.cell?, hb] at hc
/-- What is in memory once the graph is there. -/
structure WW (w : World) (gb nb mb : Nat) (eo no : Option Addr) (N : List (Int × ByteArray)) (E : List KeyP) (Nd : List Int) : Prop where
  g : GAt w gb nb eo N E
  m : EM w mb (E.map fun k => (k.a, k.b))
  n : IntsIn w no Nd
  v : ErrVar w
theorem WW.below {w w' : World} {gb nb mb : Nat} {eo no : Option Addr} {N : List (Int × ByteArray)} {E : List KeyP} {Nd : List Int} (h : WW w gb nb mb eo no N E Nd) (hb : Below w.heap.size w w') : WW w' gb nb mb eo no N E Nd := ⟨h.g.below hb, h.m.below hb, h.n.below hb, h.v.below hb⟩
end Go.Proofs.YtflhpmgjehjjkaaGreatDoor

namespace Go.Proofs.YtflhpmgjehjjkaaGreatDoor
open Go.RowKit Go.Deep Go.Shelf Go.Sort Go.Maps

theorem setF_perm {L : List (Int × Int)} {x u v : Int} (hn : (L.map (·.1)).Nodup) (h : L.lookup x = some u) : (setF L x v).Perm ((x, v) :: L.erase (x, u)) ∧ L.Perm ((x, u) :: L.erase (x, u)) ∧ ∀ p ∈ L.erase (x, u), p.1 ≠ x := by
  have hm := lookup_mem h
  have hp := List.perm_cons_erase hm
  have hk : (((x, u) :: L.erase (x, u)).map (·.1)).Nodup := (hp.map (·.1)).nodup_iff.1 hn
  have hne : ∀ p ∈ L.erase (x, u), p.1 ≠ x := fun p hpm e => by
    rw [List.map_cons] at hk
    exact (List.nodup_cons.1 hk).1 (List.mem_map.2 ⟨p, hpm, e⟩)
  refine ⟨?_, hp, hne⟩
  unfold setF
  rw [h]
  simp only [Option.isSome_some, if_true]
  refine (hp.map _).trans ?_
  rw [List.map_cons, if_pos rfl]
  have e : ((L.erase (x, u)).map fun p => if p.1 = x then (x, v) else p) = L.erase (x, u) := by
    conv => rhs; rw [← List.map_id (L.erase (x, u))]
    exact List.map_congr_left fun p hpm => if_neg (hne p hpm)
  rw [e]
/-- A number is set. -/
theorem IM.set {w' : World} {b : Nat} {L : List (Int × Int)} (hr : ∀ p ∈ L, i64 p.1) (hn : (L.map (·.1)).Nodup) {D : DataW Unit} (hD : MapOf (fun p : Int × Int => kI p.1) (fun p => intD p.2) D L) {x v : Int} (hx : i64 x) (hown : w'.ownsMap Tryz.prog 3 intR b (L.length + 1) (D.put (kI x) (intD v))) : IM intR intD w' b (setF L x v).length (setF L x v) := by
  cases hl : L.lookup x with
  | none =>
    have e : setF L x v = L ++ [(x, v)] := by unfold setF; rw [hl]; rfl
    rw [e, List.length_append]
    exact IM.put hr hD hx hl hown
  | some u =>
    obtain ⟨h1, h2, h3⟩ := setF_perm (v := v) hn hl
    have hO := (hD.perm h2).over (x, v) rfl kI_key (fun y hy e => h3 y hy (by simpa [kI] using e))
    have hM := hO.perm h1.symm
    refine ⟨fun p hp => ?_, _, ?_, hM⟩
    · rcases mem_setF p hp with e | hp
      · rw [e]; exact hx
      · exact hr p hp
    · have := owns_tight hown
      rw [hM.size] at this
      exact this
theorem relax_no1 {word : ByteArray} {c : List (Int × Int) × Bool} {k : KeyP} (h : wordIs word k = false) : relaxF word c k = c := by
  unfold relaxF; rw [h]; rfl
theorem relax_no2 {word : ByteArray} {c : List (Int × Int) × Bool} {k : KeyP} (hw : wordIs word k = true) (h : c.1.lookup k.a = none) : relaxF word c k = c := by
  unfold relaxF; rw [if_pos hw, h]
theorem relax_no3 {word : ByteArray} {c : List (Int × Int) × Bool} {k : KeyP} {d u : Int} (hw : wordIs word k = true) (h : c.1.lookup k.a = some d) (h2 : c.1.lookup k.b = some u) (hu : ¬ u > d + 1) : relaxF word c k = c := by
  unfold relaxF; rw [if_pos hw, h]; simp only; rw [h2]; simp only; rw [if_neg hu]
theorem relax_yes {word : ByteArray} {c : List (Int × Int) × Bool} {k : KeyP} {d : Int} (hw : wordIs word k = true) (h : c.1.lookup k.a = some d) (hu : ∀ u, c.1.lookup k.b = some u → u > d + 1) : relaxF word c k = (setF c.1 k.b (d + 1), true) := by
  unfold relaxF; rw [if_pos hw, h]; simp only
  cases e : c.1.lookup k.b with
  | none => rfl
  | some u => simp only; rw [if_pos (hu u e)]
theorem word_cases (word kw : ByteArray) : (word.toList.isEmpty = true ∧ word.size = 0) ∨ (word.toList.isEmpty = false ∧ (kw.toList == word.toList) = true ∧ kw = word) ∨ (word.toList.isEmpty = false ∧ (kw.toList == word.toList) = false ∧ word.size ≠ 0 ∧ kw ≠ word) := by
  by_cases h0 : word.size = 0
  · exact .inl ⟨empty_true h0, h0⟩
  · by_cases h1 : kw = word
    · exact .inr (.inl ⟨empty_false h0, by rw [h1]; simp, h1⟩)
    · refine .inr (.inr ⟨empty_false h0, ?_, h0, h1⟩)
      have : ¬ kw.toList = word.toList := fun e => h1 (bytes_ext (by rw [← ByteArray.toList_eq, ← ByteArray.toList_eq]; exact e))
      simpa using this
set_option maxRecDepth 100000 in
set_option maxHeartbeats 8000000 in
theorem rgfar_any (x : Int) (word : ByteArray) (w : World) {rb : Nat} {G : List (KeyP × ByteArray)} (h : RG w rb G) (hx : i64 x) :
    Calls Tryz.prog 67 #[.pointer (some ⟨rb, 0, none⟩), .int .i64 x, .string word] w fun e w' => ∃ mb F, e = .returned (.map (some mb)) ∧ w.heap.size ≤ mb ∧ IM intR intD w' mb F.length F ∧ RF (edgesGP G G) word x F ∧ FarFrom (edgesGP G G) word x F ∧ Below w.heap.size w w' := by
  have hmm := @run_makeMap Tryz.prog
  obtain ⟨mb, hmb⟩ : ∃ mb, mb = w.heap.size := ⟨_, rfl⟩
  obtain ⟨W1, hW1⟩ : ∃ W1, W1 = w.alloc (.map #[] 0) := ⟨_, rfl⟩
  have ho1 : W1.ownsMap Tryz.prog 3 intR mb 0 (.map []) := by rw [hW1, hmb]; exact World.ownsMap_made _ _ _ _
  obtain ⟨W2, hrun2, ho2, hg2⟩ := ho1.update intLaw Tryz.underlying132 (by decide) (key := .int .i64 x) (val := .int .i64 0) (keyOf_int_mk Tryz.underlying3 (wfI hx)) (intVT.put 0)
  have hIM2 : IM intR intD W2 mb 1 [(x, 0)] := by
    have := IM.put (L := []) (x := x) (v := (0 : Int)) (fun p hp => by cases hp) (mapOf_nil (kl := fun p : Int × Int => kI p.1) (dt := fun p => intD p.2)) hx rfl ho2
    simpa using this
  have b01 : Below w.heap.size w W1 := by rw [hW1]; exact (Below.refl _ _).alloc (Nat.le_refl _) _
  have hs1 : W1.heap.size = w.heap.size + 1 := by rw [hW1]; simp
  have b02 : Below w.heap.size w W2 := b01.trans ((Fr.ofGrown hg2).below (fun k _ e => by omega) b01.size)
  have hlen := h.len
  obtain ⟨E, hE⟩ : ∃ E, E = edgesGP G G := ⟨_, rfl⟩
  have hEl : E.length ≤ 4000 := by rw [hE]; exact Nat.le_trans (edgesGP_len G G) hlen
  have hEi : ∀ k ∈ E, i64 k.a ∧ i64 k.b := fun k hk => by
    rw [hE] at hk
    unfold edgesGP at hk
    obtain ⟨p, hp, rfl⟩ := List.mem_map.1 hk
    exact h.i64' p (List.mem_filter.1 hp).1
  have HE := Lib.hid fun (X : World) (hX : Below w.heap.size w X) => rgedges_any X (h.below hX)
  rw [← hE] at HE ⊢
  have HEI := Lib.hid hEi
  have HW1 := Lib.hid hW1
  have HMB := Lib.hid hmb
  have HIM2 := Lib.hid hIM2
  have HB2 := Lib.hid b02
  clear h hE hEi hW1 hmb ho1 ho2 hg2 hIM2 b01 b02 hs1
  go_enter Tryz.func67, Tryz.ntmps67
  go_wp2_with (rw [← HW1.out, ← HMB.out])
  go_loopg [8] (measF E [(x, 0)] + 1) (fun gh v X => ∃ (b : Bool) (F : List (Int × Int)), v = .bool b ∧ RF E word x F ∧ IM intR intD X mb F.length F ∧ Below w.heap.size w X ∧ (b = false → ClosedF E word F) ∧ measF E F + (if b = true then 1 else 0) ≤ gh)
  case atStart => exact ⟨true, _, rfl, RF.start E word x, HIM2.out, HB2.out, (fun h => by cases h), by simp⟩
  case round =>
    obtain ⟨b, F, rfl, hRF, hIM, hB, hcl, hgh⟩ := hrel
    cases b
    · have HC := Lib.hid (hcl rfl)
      have HRF := Lib.hid hRF
      have HIM := Lib.hid hIM
      have HB := Lib.hid hB
      clear hRF hIM hB hcl
      go_wp2_with fail
      go_ret
      exact ⟨mb, F, rfl, by have := HMB.out; omega, HIM.out, HRF.out, HRF.out.closed HC.out, HB.out⟩
    · have hgh' : measF E F + 1 ≤ gk := by simpa using hgh
      have CE := Lib.hid (HE.out wr hB)
      have HRF := Lib.hid hRF
      have HIM := Lib.hid hIM
      have HB := Lib.hid hB
      clear hRF hIM hB hcl hgh
      go_wp2_with (go_at_call 31; (with_reducible refine CE.out.mono ?_); rintro e W5 ⟨ae, ce, rfl, hin, b5⟩; have HIN := Lib.hid hin; have HB5 := Lib.hid b5; clear hin b5)
      have HIM5 := Lib.hid (HIM.out.below HB5.out)
      go_loopw [8, 22] (fun vm vi X => ∃ i : Nat, i ≤ E.length ∧ vi = .int .i64 i ∧ vm = .bool ((E.take i).foldl (relaxF word) (F, false)).2 ∧ IM intR intD X mb ((E.take i).foldl (relaxF word) (F, false)).1.length ((E.take i).foldl (relaxF word) (F, false)).1 ∧ Fr (· = mb) W5 X) (fun _ vi _ => E.length - (intOf vi).toNat)
      case atStart => exact ⟨0, Nat.zero_le _, rfl, rfl, HIM5.out, Fr.refl _ _⟩
      case round =>
        obtain ⟨i, hi, rfl, rfl, hIMi, hf⟩ := hrel
        have hRFi : RF E word x ((E.take i).foldl (relaxF word) (F, false)).1 := RF.fold HRF.out fun k hk => List.mem_of_mem_take hk
        have hmw := hIMi.lt
        have hfs := hf.size
        by_cases hlt : i < E.length
        · have hKX : KeysIn wr ae E := HIN.out.frame hf fun b e hb => by
            obtain ⟨k, hk⟩ : ∃ k, E[i]? = some k := ⟨_, List.getElem?_eq_getElem hlt⟩
            obtain ⟨b', e', c0, _⟩ := HIN.out i k hk
            rw [e] at e'
            injection e' with e'
            injection e' with e'
            subst e'
            subst hb
            obtain ⟨D, hown, _⟩ := HIM5.out.own
            exact owns_no_cell hown c0
          obtain ⟨eb, ⟨kk, ka, kw, kb⟩, rfl, hk, hebl, d0, d1, d2, d3⟩ := keysIn_get hKX hlt
          simp only [] at d0 d1 d2 d3
          have hke := HEI.out _ (List.mem_of_getElem? hk.out)
          simp only [] at hke
          have hnext : (E.take (i + 1)).foldl (relaxF word) (F, false) = relaxF word ((E.take i).foldl (relaxF word) (F, false)) ⟨kk, ka, kw, kb⟩ := foldl_take hk.out
          obtain ⟨⟨cF, cb⟩, hc⟩ : ∃ c, c = (E.take i).foldl (relaxF word) (F, false) := ⟨_, rfl⟩
          rw [← hc] at hIMi hRFi hnext
          rw [← hc]
          simp only [] at hIMi hRFi
          obtain ⟨W7, hW7⟩ : ∃ W7, W7 = wr.alloc (.cells #[.int .i64 kk, .int .i64 ka, .string kw, .int .i64 kb] 44) := ⟨_, rfl⟩
          obtain ⟨kx, hkx⟩ : ∃ kx, kx = wr.heap.size := ⟨_, rfl⟩
          have hkbl : W7.heap[kx]? = some (.cells #[.int .i64 kk, .int .i64 ka, .string kw, .int .i64 kb] 44 (0, 0)) := by rw [hW7, hkx]; exact block_alloc_new _ _
          have k1 : W7.cell? ⟨kx, 1, none⟩ = some (.int .i64 ka) := block_cell hkbl 1
          have k2 : W7.cell? ⟨kx, 2, none⟩ = some (.string kw) := block_cell hkbl 2
          have k3 : W7.cell? ⟨kx, 3, none⟩ = some (.int .i64 kb) := block_cell hkbl 3
          have hkl : kx < W7.heap.size := lt_of_block hkbl
          have b7 : Below wr.heap.size wr W7 := by rw [hW7]; exact (Below.refl _ _).alloc (Nat.le_refl _) _
          have hIM7 := hIMi.below b7
          have hla := hIM7.look_ok intVT Tryz.underlying132 0 (zeroIntW W7) hke.1
          have hlb := hIM7.look_ok intVT Tryz.underlying132 0 (zeroIntW W7) hke.2
          obtain ⟨hrg, D, hownD, hD⟩ := hIM7
          have hcl : cF.length ≤ E.length + 1 := hRFi.size
          have HPUT := Lib.hid fun (v : Int) (w' : World) (ho : w'.ownsMap Tryz.prog 3 intR mb (cF.length + 1) (D.put (kI kb) (intD v))) => IM.set hrg hRFi.nod hD hke.2 ho
          have HOWD := Lib.hid hownD
          have HRNG := Lib.hid fun z v (h : cF.lookup z = some v) => hRFi.rng _ (lookup_mem h)
          have HNEXT := Lib.hid hnext
          have HKE := Lib.hid hke
          have HW7 := Lib.hid hW7
          have HKX := Lib.hid hkx
          have HF7 := Lib.hid (hf.next (Fr.new b7 : Fr (fun _ => False) wr W7) (fun _ _ h => h.elim))
          have HIM7 := Lib.hid (hIMi.below b7)
          have i0 : (0 : Int) ≤ (i : Int) := by omega
          have i1 : (i : Int) < (E.length : Int) := by omega
          clear hKX hk hke hnext hc hW7 hkx hkbl b7 hrg hownD hD hRFi hIMi hf
          have HWI : Hid (wordIs word ⟨kk, ka, kw, kb⟩ = (decide (word.size = 0) || decide (kw = word))) := Lib.hid rfl
          rcases word_cases word kw with ⟨hw0, hz⟩ | ⟨hw0, hw1, hz⟩ | ⟨hw0, hw1, hz, hz2⟩
          case inr.inr =>
            have HN := Lib.hid (HNEXT.out.trans (relax_no1 (by rw [HWI.out]; simp [hz, hz2])))
            clear hz hz2 hla hlb
            go_wp2_with (rw [← HW7.out, ← HKX.out])
            exact ⟨⟨i + 1, by omega, by go_num, by rw [HN.out], by rw [HN.out]; exact HIM7.out, HF7.out⟩, by simp [intOf]; omega⟩
          all_goals
            have HWT : Hid (wordIs word ⟨kk, ka, kw, kb⟩ = true) := Lib.hid (by rw [HWI.out]; simp [hz])
            clear hz HWI
            cases ha : cF.lookup ka with
            | none =>
              rw [ha] at hla
              simp only [Option.isSome_none, Option.getD_none] at hla
              have HN := Lib.hid (HNEXT.out.trans (relax_no2 HWT.out ha))
              clear ha
              generalize hlbs : (cF.lookup kb).isSome = bs at *
              generalize hlbv : (cF.lookup kb).getD 0 = bv at *
              clear hlbs hlbv
              go_wp2_with (rw [← HW7.out, ← HKX.out])
              exact ⟨⟨i + 1, by omega, by go_num, by rw [HN.out], by rw [HN.out]; exact HIM7.out, HF7.out⟩, by simp [intOf]; omega⟩
            | some d =>
              rw [ha] at hla
              simp only [Option.isSome_some, Option.getD_some] at hla
              have hda := HRNG.out ka d ha
              simp only [] at hda
              have hd0 := hda.1
              have hd1 : d ≤ 4001 := by omega
              have HA := Lib.hid ha
              clear ha hda
              cases hb : cF.lookup kb with
              | none =>
                rw [hb] at hlb
                simp only [Option.isSome_none, Option.getD_none] at hlb
                have HN := Lib.hid (HNEXT.out.trans (relax_yes HWT.out HA.out (fun u e => by rw [show cF.lookup kb = some u from e] at hb; cases hb)))
                clear hb
                go_wp2_with (first
                  | (rw [← HW7.out, ← HKX.out])
                  | (at_mapUpdate; refine wpList_mapUpdate_own _ rfl _ _ _ 132 rfl 3 3 intLaw Tryz.underlying132 intR mb cF.length D rfl HOWD.out (by unfold maxLen; omega) _ _ _ rfl rfl (keyOf_int_mk Tryz.underlying3 (wfI HKE.out.2)) (intD (d + 1)) [] (intVT.put (d + 1)) ?_; intro w8 hown8 hg8; have HIM8 := Lib.hid (HPUT.out (d + 1) w8 hown8); have HF8 := Lib.hid (HF7.out.trans (Fr.ofGrown hg8)); clear hown8 hg8))
                exact ⟨⟨i + 1, by omega, by go_num, by rw [HN.out], by rw [HN.out]; exact HIM8.out, HF8.out⟩, by simp [intOf]; omega⟩
              | some u =>
                rw [hb] at hlb
                simp only [Option.isSome_some, Option.getD_some] at hlb
                have hub := HRNG.out kb u hb
                simp only [] at hub
                have hu0 := hub.1
                have hu1 : u ≤ 4001 := by omega
                have HB' := Lib.hid hb
                clear hb hub
                by_cases hg : u > d + 1
                · have HN := Lib.hid (HNEXT.out.trans (relax_yes HWT.out HA.out (fun v e => by rw [show cF.lookup kb = some v from e] at HB'; have := HB'.out; cases this; exact hg)))
                  go_wp2_with (first
                    | (rw [← HW7.out, ← HKX.out])
                    | (at_mapUpdate; refine wpList_mapUpdate_own _ rfl _ _ _ 132 rfl 3 3 intLaw Tryz.underlying132 intR mb cF.length D rfl HOWD.out (by unfold maxLen; omega) _ _ _ rfl rfl (keyOf_int_mk Tryz.underlying3 (wfI HKE.out.2)) (intD (d + 1)) [] (intVT.put (d + 1)) ?_; intro w8 hown8 hg8; have HIM8 := Lib.hid (HPUT.out (d + 1) w8 hown8); have HF8 := Lib.hid (HF7.out.trans (Fr.ofGrown hg8)); clear hown8 hg8))
                  exact ⟨⟨i + 1, by omega, by go_num, by rw [HN.out], by rw [HN.out]; exact HIM8.out, HF8.out⟩, by simp [intOf]; omega⟩
                · have HN := Lib.hid (HNEXT.out.trans (relax_no3 HWT.out HA.out HB'.out hg))
                  go_wp2_with (rw [← HW7.out, ← HKX.out])
                  exact ⟨⟨i + 1, by omega, by go_num, by rw [HN.out], by rw [HN.out]; exact HIM7.out, HF7.out⟩, by simp [intOf]; omega⟩
        · obtain rfl : i = E.length := by omega
          have hp := RF.pass (l := E) (c := (F, false)) HRF.out fun k hk => hk
          rw [List.take_of_length_le (Nat.le_refl _)] at hIMi hRFi ⊢
          have hst : ((E.foldl (relaxF word) (F, false)).2 = false → ClosedF E word (E.foldl (relaxF word) (F, false)).1) := fun h => by
            obtain ⟨h1, h2⟩ := pass_still h
            rw [h1]; exact h2
          obtain ⟨⟨cF, cb⟩, hc⟩ : ∃ c, c = E.foldl (relaxF word) (F, false) := ⟨_, rfl⟩
          rw [← hc] at hIMi hRFi hp hst
          rw [← hc]
          simp only [] at hIMi hRFi hp hst
          have HIMi := Lib.hid hIMi
          have HRFi := Lib.hid hRFi
          have HP := Lib.hid hp
          have HST := Lib.hid hst
          have HB6 := Lib.hid (HB.out.trans ((HB5.out.mono HB.out.size).trans (hf.below (fun k _ e => by have := HMB.out; omega) (by have := HB.out.size; have := HB5.out.size; omega))))
          clear hIMi hRFi hp hst hf hc
          go_wp2_with fail
          go_roundg (measF E cF + (if cb = true then 1 else 0))
          case measure =>
            rcases HP.out with e | ⟨e1, e2⟩
            · injection e with e1 e2
              rw [e1, e2]; simp; omega
            · rw [e1]; simp; omega
          case rel => exact ⟨cb, cF, rfl, HRFi.out, HIMi.out, HB6.out, HST.out, Nat.le_refl _⟩
end Go.Proofs.YtflhpmgjehjjkaaGreatDoor

namespace Go.Proofs.YtflhpmgjehjjkaaGreatDoor
open Go.RowKit Go.Deep Go.Shelf Go.Sort Go.Maps

/-! ### In plain words -/
def hopE (G : List (KeyP × ByteArray)) (x h : Int) : Int := if isN G x = true then (if 0 ≤ h ∧ h ≤ 1048576 then 0 else 2) else 7
def hopsR (G : List (KeyP × ByteArray)) (x : Int) (word : ByteArray) (h : Int) : List Int := if hopE G x h = 0 then sortI (hopP (edgesGP G G) word x h.toNat) else []
def nearB (F : List (Int × Int)) (h y : Int) : Bool := decide ((F.lookup y).getD 0 ≤ h)
theorem lookup_keys {F : List (Int × Int)} (hn : (F.map (·.1)).Nodup) {y v : Int} (h : (y, v) ∈ F) : F.lookup y = some v := by
  induction F with
  | nil => cases h
  | cons p F ih =>
    obtain ⟨a, b⟩ := p
    rw [List.map_cons, List.nodup_cons] at hn
    rw [List.lookup_cons]
    rcases List.mem_cons.1 h with e | e
    · cases e; simp
    · have : y ≠ a := fun e' => hn.1 (List.mem_map.2 ⟨(y, v), e, e'⟩)
      have h2 : (y == a) = false := by simpa using this
      rw [h2]
      exact ih hn.2 e
theorem near_hops {E : List KeyP} {word : ByteArray} {x : Int} {F : List (Int × Int)} (hR : RF E word x F) (hF : FarFrom E word x F) (h : Nat) {U : List Int} (hU : U.Perm (F.map (·.1))) : (U.filter (nearB F h)).Perm (hopP E word x h) := by
  have hn : U.Nodup := hU.nodup_iff.2 hR.nod
  refine (List.perm_ext_iff_of_nodup (hn.filter _) (hop_nodup E word x h)).2 fun y => ?_
  rw [List.mem_filter, hU.mem_iff, hop_mem]
  unfold nearB
  rw [decide_eq_true_eq]
  constructor
  · rintro ⟨h1, h2⟩
    obtain ⟨⟨z, v⟩, hp, rfl⟩ := List.mem_map.1 h1
    have hl := lookup_keys hR.nod hp
    simp only at h2 ⊢
    rw [hl, Option.getD_some] at h2
    obtain ⟨m, rfl, hm⟩ := (hF.is z v).1 hl
    exact ⟨m, by omega, hm.1⟩
  · rintro ⟨m, hm, hp⟩
    obtain ⟨j, hj, hmn⟩ := hp.mn
    have hl := (hF.is y j).2 ⟨j, rfl, hmn⟩
    exact ⟨List.mem_map.2 ⟨(y, (j : Int)), lookup_mem hl, rfl⟩, by rw [hl, Option.getD_some]; omega⟩
set_option maxRecDepth 100000 in
set_option maxHeartbeats 8000000 in
theorem rghops_any (x h : Int) (word : ByteArray) (w : World) {rb : Nat} {G : List (KeyP × ByteArray)} (hG : RG w rb G) (hx : i64 x) :
    Calls Tryz.prog 26 #[.pointer (some ⟨rb, 0, none⟩), .int .i64 x, .string word, .int .i64 h] w fun e w' => ∃ ao cap, e = .returned (.tuple #[.slice ao (hopsR G x word h).length cap, .int .i64 (hopE G x h)]) ∧ IntsIn w' ao (hopsR G x word h) ∧ Below w.heap.size w w' := by
  have HI := Lib.hid (rgis_any x w hG)
  have HEo : Hid (hopE G x h = if isN G x = true then (if 0 ≤ h ∧ h ≤ 1048576 then 0 else 2) else 7) := Lib.hid rfl
  have HRo : Hid (hopsR G x word h = if hopE G x h = 0 then sortI (hopP (edgesGP G G) word x h.toNat) else []) := Lib.hid rfl
  have HFR := Lib.hid fun (X : World) (hX : Below w.heap.size w X) => rgfar_any x word X (hG.below hX) hx
  have HGL := hG.len
  clear hG
  generalize isN G x = b at *
  have HIN := Lib.hid fun X => in_any h 0 1048576 X
  cases b
  · have hE : hopE G x h = 7 := by rw [HEo.out]; rfl
    have hR : hopsR G x word h = [] := by rw [HRo.out, hE]; rfl
    have HE := Lib.hid hE
    have HR := Lib.hid hR
    clear hE hR HEo HRo
    go_enter Tryz.func26, Tryz.ntmps26
    go_wp2_with (go_at_call 64; (with_reducible refine HI.out.mono ?_); rintro e w1 ⟨rfl, b1⟩; have HB := Lib.hid b1; clear b1)
    go_ret2
    exact ⟨none, 0, by rw [HE.out, HR.out]; rfl, by rw [HR.out]; exact fun j p hp => (by cases hp), HB.out⟩
  · by_cases hin : 0 ≤ h ∧ h ≤ 1048576
    · have hE : hopE G x h = 0 := by rw [HEo.out, if_pos rfl, if_pos hin]
      obtain ⟨n, rfl⟩ : ∃ n : Nat, h = n := ⟨h.toNat, by omega⟩
      have hR : hopsR G x word n = sortI (hopP (edgesGP G G) word x n) := by rw [HRo.out, if_pos hE, Int.toNat_natCast]
      have hib : inB (n : Int) 0 1048576 = true := by unfold inB; exact decide_eq_true hin
      have HE := Lib.hid hE
      have HR := Lib.hid hR
      have HIB := Lib.hid hib
      clear hE hR HEo HRo hib
      go_enter Tryz.func26, Tryz.ntmps26
      go_wp2_with (first
        | (go_at_call 64; (with_reducible refine HI.out.mono ?_); rintro e w1 ⟨rfl, b1⟩; have HB := Lib.hid b1; clear b1)
        | (go_at_call 66; (with_reducible refine (HIN.out w1).mono ?_); rintro e w2 ⟨rfl, rfl⟩; rw [HIB.out])
        | (go_at_call 67; (with_reducible refine (HFR.out w1 HB.out).mono ?_); rintro e W9 ⟨mb, F, rfl, hmb, hIM, hRF, hFF, b9⟩; have HIM := Lib.hid hIM; have HRF := Lib.hid hRF; have HFF := Lib.hid hFF; have HB9 := Lib.hid (HB.out.trans (b9.mono HB.out.size)); clear hIM hRF hFF b9)
        | (obtain ⟨D, hown, hD⟩ := HIM.out.own; at_range; refine wpList_range_own _ rfl _ 132 rfl 3 3 intLaw Tryz.underlying132 intR mb F.length D rfl hown ?_; intro w5 hrg hgr hs5))
      try go_frame
      have hB5 : Below W9.heap.size W9 w5 := ⟨hgr.os, hgr.tape, hgr.output, hgr.size, fun i hi' => hgr.block i hi' (by simp)⟩
      obtain ⟨r, hr⟩ : ∃ r, r = W9.heap.size := ⟨_, rfl⟩
      have hrg' : w5.ranges Tryz.prog 3 intR mb r F.length D (Maps.has D) (Maps.size D) := by rw [hr]; exact hrg
      have hmr : mb < r := by rw [hr]; exact hown.lt
      have hhas : ∀ y ∈ F.map (·.1), Maps.has D (kI y) = true := fun y hy => by obtain ⟨p, hp, rfl⟩ := List.mem_map.1 hy; exact (hD.has _ kI_key).2 ⟨p, hp, rfl⟩
      have hsz := hD.size
      have hrng := HIM.out.rng
      have hFl : F.length ≤ 4001 := Nat.le_trans HRF.out.size (by have := Nat.le_trans (edgesGP_len G G) HGL; omega)
      have HB5 := Lib.hid hB5
      have HRG' := Lib.hid hrg'
      have HS5 := Lib.hid hs5
      have HRE := Lib.hid hr
      have HST := Lib.hid (TI.start (M := F.map (·.1)) hhas)
      have HD := Lib.hid hD
      have HSZ := Lib.hid hsz
      have HRNG := Lib.hid hrng
      rw [← hr]
      clear hgr hB5 hrg hs5 hown hrg' hr hhas hD hsz hrng
      go_loopw [10] (fun v X => ∃ (left : Lit → Bool) (cnt : Nat) (U : List Int), X.ranges Tryz.prog 3 intR mb r F.length D left cnt ∧ TI (F.map (·.1)) left U ∧ U.length + cnt ≤ F.length ∧ X.ownsRow (r + 1) 3 1 v (U.filter (nearB F n)).length ((U.filter (nearB F n)).map (Value.int .i64)) ∧ Below r W9 X ∧ r < X.heap.size ∧ (∀ q, left q = true → Maps.has D q = true)) (fun _ X => X.rangeLeft mb r)
      case atStart => exact ⟨_, _, [], HRG'.out, HST.out, by rw [HSZ.out]; simp, World.ownsRow_nil _ _ _ _, by rw [HRE.out]; exact HB5.out, by have := HS5.out; have := HRE.out; omega, fun _ e => e⟩
      case round =>
        obtain ⟨left, cnt, U, hrg, hTL, hcnt, hownU, hBr, hrl, hsub⟩ := hrel
        have HTL := Lib.hid hTL
        have HBR := Lib.hid hBr
        have HSUB := Lib.hid hsub
        have HRGW := Lib.hid hrg
        have hul : (U.filter (nearB F n)).length ≤ U.length := List.length_filter_le _ _
        clear hTL hBr hsub
        go_wp2_with (at_next; refine wpList_next_raw _ rfl _ rfl 3 intLaw intR mb r F.length D left cnt rfl hrg ?_ ?_)
        · intro hc0 hl0
          have hperm := near_hops HRF.out HFF.out n (HTL.out.done hl0 HRF.out.nod)
          obtain ⟨L, hL⟩ : ∃ L, L = U.filter (nearB F n) := ⟨_, rfl⟩
          rw [← hL] at hownU hul hperm
          have CS := Lib.hid (sortInts_own (r + 1) L _ wr hownU (by omega) (by omega))
          have hsl : (L.mergeSort fun x y => decide (x ≤ y)) = hopsR G x word n := by rw [HR.out]; exact sortI_perm hperm
          have HSL := Lib.hid hsl
          obtain ⟨ao, cap, rfl, _⟩ := ownsRow_intsIn hownU
          clear hl0 hc0 hrg hownU hperm hL hsl
          go_wp2_with (go_at_call 68; (with_reducible refine CS.out.mono ?_); rintro e w6 ⟨rfl, own6, b6⟩; have HO6 := Lib.hid own6; have B6 := Lib.hid b6; clear own6 b6)
          go_ret2
          obtain ⟨ao', cap', e', hin⟩ := ownsRow_intsIn HO6.out
          rw [HSL.out] at e' hin
          have hb9 : Below w.heap.size w w6 := HB9.out.trans ((HBR.out.trans (B6.out.mono (by omega))).mono (by rw [HRE.out]; exact HB9.out.size))
          exact ⟨ao', cap', by rw [HE.out, ← e']; rfl, hin, hb9⟩
        · intro key v kl y1 y2 w6 cnt3 hkey hlk3 hv hat hrg3 hlt3 hgr3 hs3 hen
          obtain ⟨p, hp, e⟩ := HD.out.got (intLaw.key hkey) (HSUB.out _ hlk3)
          obtain ⟨y, d⟩ := p
          obtain ⟨vb, rfl, hvb⟩ := intVT.inv _ _ hv
          have hvd : vb = d := by
            have h1 := HD.out.at' (y, d) hp (intD 0)
            rw [e, hat (intD 0)] at h1
            exact intVT.inj _ _ ((Prod.mk.inj hvb).1.symm.trans h1)
          subst hvd
          have hyH : y ∈ F.map (·.1) := List.mem_map.2 ⟨_, hp, rfl⟩
          have hyr := HRNG.out _ hp
          have hly := lookup_keys HRF.out.nod hp
          have hdr := HRF.out.rng _ hp
          simp only [] at e hyr hdr
          have ek : key = .int .i64 y := intLaw.inj hkey (by rw [← e]; exact keyOf_int_mk Tryz.underlying3 (wfI hyr))
          subst ek
          have ekl : kl = kI y := e.symm
          subst ekl
          have hF3 : Fr (· = r) wr w6 := Fr.ofGrown hgr3
          have hB3 : Below r W9 w6 := HBR.out.trans (hF3.below (B := r) (fun k _ e => by omega) (by omega))
          have hown3 := ownsRow_frame hownU hF3 (fun g hg e => by omega)
          have hsub3 : ∀ q, (left q && !q.sameKey (kI y)) = true → Maps.has D q = true := fun q hq => HSUB.out q (by rw [Bool.and_eq_true] at hq; exact hq.1)
          have hnear : (U ++ [y]).filter (nearB F n) = U.filter (nearB F n) ++ (if vb ≤ (n : Int) then [y] else []) := by
            rw [List.filter_append]
            congr 1
            have hb : nearB F n y = decide (vb ≤ (n : Int)) := by unfold nearB; rw [hly, Option.getD_some]
            rw [List.filter_cons, hb]
            by_cases h : vb ≤ (n : Int) <;> simp [h]
          have HRG3 := Lib.hid hrg3
          have HB3 := Lib.hid hB3
          have HSUB3 := Lib.hid hsub3
          have HO3 := Lib.hid hown3
          have HNEAR := Lib.hid hnear
          have hrl3 : r < w6.heap.size := by omega
          have frame : ∀ W, Below (r + 1) w6 W → W.ranges Tryz.prog 3 intR mb r F.length D (fun z => left z && !z.sameKey (kI y)) cnt3 := fun W hB => ranges_frame HRG3.out (Fr.ofBelow hB) (by omega) (by omega)
          have HFRM := Lib.hid frame
          have hrr : r + 1 ≤ w6.heap.size := by omega
          have HN := Lib.hid (HTL.out.yes hyH hlk3)
          have hd0 := hdr.1
          have hd1 : vb ≤ 4001 := by omega
          clear frame hrg3 hB3 hsub3 hown3 hF3 hgr3 hat hv hkey e hlk3 hs3 hp hyH hyr hly hdr hvb hnear
          obtain ⟨L, hL⟩ : ∃ L, L = U.filter (nearB F n) := ⟨_, rfl⟩
          rw [← hL] at HO3 hul HNEAR
          clear hL hownU
          by_cases hle : vb ≤ (n : Int)
          · rw [if_pos hle] at HNEAR
            go_wp2_with (at_builtin; refine appInt rfl _ _ rfl (r + 1) _ L rfl (HO3.out.alloc _) w6.heap.size y rfl (by simp) (by omega) (by simp; omega) w6 ((Below.refl _ _).alloc hrr _) ?_; intro v8 w8 hown8 hB8 hs8 _)
            go_roundw
            case rel =>
              first
                | exact ⟨_, cnt3, U ++ [y], HFRM.out _ hB8, HN.out, by rw [List.length_append, List.length_singleton]; omega, by rw [HNEAR.out]; exact hown8, HB3.out.trans (hB8.mono (by omega)), by have := hB8.size; omega, HSUB3.out⟩
                | ((repeat apply Exists.intro); exact ⟨⟨_, cnt3, U ++ [y], HFRM.out _ hB8, HN.out, by rw [List.length_append, List.length_singleton]; omega, by rw [HNEAR.out]; exact hown8, HB3.out.trans (hB8.mono (by omega)), by have := hB8.size; omega, HSUB3.out⟩, rfl⟩)
            case measure => rw [(HFRM.out _ hB8).left_eq, HRGW.out.left_eq]; exact hlt3
          · rw [if_neg hle, List.append_nil] at HNEAR
            have hB8 : Below (r + 1) w6 w6 := Below.refl _ _
            have HB8 := Lib.hid hB8
            clear hB8
            go_wp2_with fail
            go_roundw
            case rel =>
              first
                | exact ⟨_, cnt3, U ++ [y], HFRM.out _ HB8.out, HN.out, by rw [List.length_append, List.length_singleton]; omega, by rw [HNEAR.out]; exact HO3.out, HB3.out, hrl3, HSUB3.out⟩
                | ((repeat apply Exists.intro); exact ⟨⟨_, cnt3, U ++ [y], HFRM.out _ HB8.out, HN.out, by rw [List.length_append, List.length_singleton]; omega, by rw [HNEAR.out]; exact HO3.out, HB3.out, hrl3, HSUB3.out⟩, rfl⟩)
            case measure => rw [(HFRM.out _ HB8.out).left_eq, HRGW.out.left_eq]; exact hlt3
    · have hE : hopE G x h = 2 := by rw [HEo.out, if_pos rfl, if_neg hin]
      have hR : hopsR G x word h = [] := by rw [HRo.out, hE]; rfl
      have hib : inB h 0 1048576 = false := by unfold inB; exact decide_eq_false hin
      have HE := Lib.hid hE
      have HR := Lib.hid hR
      have HIB := Lib.hid hib
      clear hE hR HEo HRo hib
      go_enter Tryz.func26, Tryz.ntmps26
      go_wp2_with (first
        | (go_at_call 64; (with_reducible refine HI.out.mono ?_); rintro e w1 ⟨rfl, b1⟩; have HB := Lib.hid b1; clear b1)
        | (go_at_call 66; (with_reducible refine (HIN.out w1).mono ?_); rintro e w2 ⟨rfl, rfl⟩; rw [HIB.out]))
      go_ret2
      exact ⟨none, 0, by rw [HE.out, HR.out]; rfl, by rw [HR.out]; exact fun j p hp => (by cases hp), HB.out⟩
end Go.Proofs.YtflhpmgjehjjkaaGreatDoor
