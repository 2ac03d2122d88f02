/- The graph of a time (walk.At): the walk. -/
import Derived.Lib.SliceRun
import Derived.Laws.IdiomCopy
import Derived.Deep.DeepCutAuto
import Derived.Laws.EntriesVeiled
import Derived.Deep.RegionHeld3
import Derived.Deep.RegionWith
import Derived.Deep.RegionLaw
import Derived.Test.YtflhpmgjehjjkaaGreatDoorWkDJo
import Derived.Test.YtflhpmgjehjjkaaGreatDoorAppMJo
import Derived.Test.YtflhpmgjehjjkaaGreatDoorSortKJo
import Derived.Test.YtflhpmgjehjjkaaGreatDoorPsAJo
import Derived.Test.YtflhpmgjehjjkaaGreatDoorTreeRJo
import Derived.Test.YtflhpmgjehjjkaaGreatDoorPwEJo
import Derived.Test.YtflhpmgjehjjkaaGreatDoorAppJo
namespace Go.Proofs.YtflhpmgjehjjkaaGreatDoor
open Go.RowKit Go.Deep Go.Shelf Go.Sort Go.Maps

theorem flatKeys_one (l : List KeyP) : ∀ u ∈ flatKeys l, u.oneCell' = true := fun u hu => by
  obtain ⟨k, _, hk⟩ := List.mem_flatMap.1 hu
  simp [encK] at hk
  rcases hk with rfl | rfl | rfl | rfl <;> rfl
theorem keysIn_flat {w : World} {b : Nat} {l : List KeyP} (h : KeysIn w (some ⟨b, 0, none⟩) l) : ∀ j u, (flatKeys l)[j]? = some u → w.cell? ⟨b, j, none⟩ = some u := fun j u hu => by
  have hj : j < l.length * 4 := by rw [← flatKeys_length]; exact (List.getElem?_eq_some_iff.1 hu).1
  obtain ⟨k, hk⟩ : ∃ k, l[j / 4]? = some k := ⟨_, List.getElem?_eq_getElem (by omega)⟩
  obtain ⟨b', e, c0, c1, c2, c3⟩ := h _ k hk
  cases e
  obtain ⟨f0, f1, f2, f3⟩ := flatKeys_at l (j / 4) k hk
  have hm : j = j / 4 * 4 + j % 4 := by omega
  have h4 : j % 4 < 4 := Nat.mod_lt _ (by decide)
  rcases (by omega : j % 4 = 0 ∨ j % 4 = 1 ∨ j % 4 = 2 ∨ j % 4 = 3) with e | e | e | e
  · rw [hm, e] at hu ⊢; rw [Nat.add_zero] at hu ⊢; rw [f0] at hu; cases hu; exact c0
  · rw [hm, e] at hu ⊢; rw [f1] at hu; cases hu; exact c1
  · rw [hm, e] at hu ⊢; rw [f2] at hu; cases hu; exact c2
  · rw [hm, e] at hu ⊢; rw [f3] at hu; cases hu; exact c3
set_option maxRecDepth 100000 in
set_option maxHeartbeats 2000000 in
theorem cloneKeys_any (eo : Option Addr) (ec : Nat) (l : List KeyP) (w : World) (h : KeysIn w eo l) (hl : l.length ≤ 4000) (hn : eo = none → l = []) (hb : ∀ p, eo = some p → ∃ b, p = ⟨b, 0, none⟩) :
    Calls Tryz.prog 54 #[.slice eo l.length ec] w fun e w' => ∃ ao cap, e = .returned (.slice ao l.length cap) ∧ KeysIn w' ao l ∧ Below w.heap.size w w' := by
  cases eo with
  | none =>
    obtain rfl := hn rfl
    have hen := fun (w : World) (n c : Nat) => Lib.run_eql_slice_nil (P := Tryz.prog) w 41 44 none n c 0 0 Tryz.underlying41
    clear hn hb
    go_enter Tryz.func54, Tryz.ntmps54
    go_wp2_with fail
    go_ret
    exact ⟨none, 0, rfl, h, Below.refl _ _⟩
  | some p =>
    obtain ⟨b, rfl⟩ := hb p rfl
    have hfl := Lib.hid (keysIn_flat h)
    have hen := fun (w : World) (n c : Nat) => Lib.run_eql_slice_nil (P := Tryz.prog) w 41 44 (some ⟨b, 0, none⟩) n c 0 0 Tryz.underlying41
    clear h hn hb
    go_enter Tryz.func54, Tryz.ntmps54
    go_wp2_with (at_builtin; refine appMany rfl _ _ 41 rfl w.heap.size 44 Tryz.underlying41 infoKey rfl (by decide) _ 0 [] rfl (own_empty w (Nat.le_refl _)) (some ⟨b, 0, none⟩) l.length ec rfl (fun e => by cases e) (flatKeys l) (flatKeys_length l) (fun p hp j u hu => by cases hp; rw [add_at, Nat.zero_add]; have := hfl.out j u hu; exact (below_cell ((Below.refl _ _).alloc (Nat.le_refl _) _) (World.block_lt_of_cell? w _ this) this)) (flatKeys_one l) (by unfold maxLen; omega) (by omega) (by simp) w ((Below.refl _ _).alloc (Nat.le_refl _) _) ?_; intro v' w' hown' hB' _ _ _)
    go_ret
    rw [Nat.zero_add, List.nil_append] at hown'
    obtain ⟨ao, cap, rfl, hin⟩ := ownsRow_keysIn hown'
    exact ⟨ao, cap, rfl, hin, hB'⟩
set_option maxRecDepth 100000 in
set_option maxHeartbeats 2000000 in
theorem edges_any (w : World) {gb nb : Nat} {eo : Option Addr} {N : List (Int × ByteArray)} {E : List KeyP} (hG : GAt w gb nb eo N E) :
    Calls Tryz.prog 13 #[.pointer (some ⟨gb, 0, none⟩)] w fun e w' => ∃ ao cap, e = .returned (.slice ao E.length cap) ∧ KeysIn w' ao E ∧ Below w.heap.size w w' := by
  obtain ⟨ec, c0, c1, hgl⟩ := hG.cells
  have HC := Lib.hid (cloneKeys_any eo ec E w hG.edg hG.elen hG.enil hG.eblk)
  clear hG c0
  go_enter Tryz.func13, Tryz.ntmps13
  go_wp2_with (go_at_call 54; (with_reducible refine HC.out.mono ?_); rintro e w1 ⟨ao, cap, rfl, hin, b1⟩; have HIN := Lib.hid hin; have B1 := Lib.hid b1; clear hin b1)
  go_ret
  exact ⟨ao, cap, rfl, HIN.out, B1.out⟩
end Go.Proofs.YtflhpmgjehjjkaaGreatDoor

namespace Go.Proofs.YtflhpmgjehjjkaaGreatDoor
open Go.RowKit Go.Deep Go.Shelf Go.Sort Go.Maps

theorem flatKeys_bind (l : List KeyP) (t : Nat) : (flatKeys l)[t]? = (l[t / 4]?).bind fun x => (encK x)[t % 4]? := flatMap_get encK 4 (fun _ => rfl) (by decide) l t
theorem ownsRow_shapeK {w : World} {base : Nat} {e : TypeId} {size : Nat} {v : Value} {n : Nat} {xs : List Value} (h : w.ownsRow base e size v n xs) : ∃ a m c, v = .slice a m c := by
  rcases h.2 with ⟨rfl, _⟩ | ⟨g, cap, cur, rfl, _⟩
  · exact ⟨_, _, _, rfl⟩
  · exact ⟨_, _, _, rfl⟩
theorem own_base {w : World} {base : Nat} {e : TypeId} {size g m c : Nat} {n : Nat} {xs : List Value} (h : w.ownsRow base e size (.slice (some ⟨g, 0, none⟩) m c) n xs) : base ≤ g := by
  rcases h.2 with ⟨h0, _⟩ | ⟨g', cap, cur, h0, hb, _⟩
  · cases h0
  · cases h0; exact hb
theorem below_setCells {base : Nat} {w : World} {g : Nat} (hg : base ≤ g) : ∀ (vs : List Value) (o : Nat) (X : World), Below base w X → Below base w (X.setCells g o vs)
  | [], _, _, h => h
  | v :: r, o, X, h => by rw [World.setCells]; exact below_setCells hg r (o + 1) _ (h.setCell hg v)
/-- One key is written in its place. -/
def setKey (cur : Array Value) (i : Nat) (k : KeyP) : Array Value := (((cur.setIfInBounds (i * 4) (.int .i64 k.kind)).setIfInBounds (i * 4 + 1) (.int .i64 k.a)).setIfInBounds (i * 4 + 2) (.string k.word)).setIfInBounds (i * 4 + 3) (.int .i64 k.b)
theorem setKey_size (cur : Array Value) (i : Nat) (k : KeyP) : (setKey cur i k).size = cur.size := by simp [setKey]
theorem setKey_get (cur : Array Value) (i : Nat) (k : KeyP) (hi : i * 4 + 3 < cur.size) (j : Nat) : (setKey cur i k)[j]? = if j / 4 = i then (encK k)[j % 4]? else cur[j]? := by
  unfold setKey
  simp only [Array.getElem?_setIfInBounds, Array.size_setIfInBounds]
  by_cases h : j / 4 = i
  · rw [if_pos h]
    have hm : j = i * 4 + j % 4 := by omega
    rcases (by omega : j % 4 = 0 ∨ j % 4 = 1 ∨ j % 4 = 2 ∨ j % 4 = 3) with e | e | e | e
    · rw [e] at hm ⊢
      rw [if_neg (by omega), if_neg (by omega), if_neg (by omega), if_pos (by omega), if_pos (by omega)]; rfl
    · rw [e] at hm ⊢
      rw [if_neg (by omega), if_neg (by omega), if_pos (by omega), if_pos (by omega)]; rfl
    · rw [e] at hm ⊢
      rw [if_neg (by omega), if_pos (by omega), if_pos (by omega)]; rfl
    · rw [e] at hm ⊢
      rw [if_pos (by omega), if_pos (by omega)]; rfl
  · rw [if_neg h, if_neg (by omega), if_neg (by omega), if_neg (by omega), if_neg (by omega)]
theorem ownsRow_setKey {w : World} {base g cap : Nat} {l : List KeyP} (h : w.ownsRow base 44 4 (.slice (some ⟨g, 0, none⟩) l.length cap) l.length (flatKeys l)) {i : Nat} (hi : i < l.length) (k : KeyP) :
    ((((w.setCell ⟨g, i * 4, none⟩ (.int .i64 k.kind)).setCell ⟨g, i * 4 + 1, none⟩ (.int .i64 k.a)).setCell ⟨g, i * 4 + 2, none⟩ (.string k.word)).setCell ⟨g, i * 4 + 3, none⟩ (.int .i64 k.b)).ownsRow base 44 4 (.slice (some ⟨g, 0, none⟩) l.length cap) l.length (flatKeys (l.set i k)) := by
  rcases h.2 with ⟨h0, _⟩ | ⟨g0, cap0, cur, h0, hbg, hh, hnc, hcm, hcs, htk⟩
  · cases h0
  · cases h0
    have hb := block_set (block_set (block_set (block_set hh (i * 4) (.int .i64 k.kind)) (i * 4 + 1) (.int .i64 k.a)) (i * 4 + 2) (.string k.word)) (i * 4 + 3) (.int .i64 k.b)
    refine ⟨by rw [flatKeys_length]; simp, .inr ⟨g, cap, setKey cur i k, rfl, hbg, hb, hnc, hcm, by rw [setKey_size]; exact hcs, ?_⟩⟩
    apply List.ext_getElem?
    intro j
    have hj0 : (cur.toList.take (l.length * 4))[j]? = (flatKeys l)[j]? := by rw [htk]
    rw [flatKeys_bind] at hj0 ⊢
    by_cases hj : j < l.length * 4
    · rw [List.getElem?_take_of_lt hj, Array.getElem?_toList] at hj0 ⊢
      rw [setKey_get cur i k (by omega)]
      by_cases e : j / 4 = i
      · rw [if_pos e, e, List.getElem?_set_self (by simpa using hi)]; rfl
      · rw [if_neg e, hj0, List.getElem?_set_ne (fun h => e h.symm)]
    · rw [List.getElem?_take_eq_none (by omega)] at hj0 ⊢
      rw [List.getElem?_set_ne (by omega)]
      exact hj0
/-- What lies ahead of stores stays. -/
theorem setCells_ahead {g : Nat} {t : TypeId} {fz : Nat × Nat} : ∀ (vs : List Value) (o : Nat) (w : World) (cur : Array Value), w.heap[g]? = some (.cells cur t fz) → ∃ cur' : Array Value, (w.setCells g o vs).heap[g]? = some (.cells cur' t fz) ∧ cur'.size = cur.size ∧ ∀ j, j < o → cur'[j]? = cur[j]?
  | [], o, w, cur, h => ⟨cur, h, rfl, fun _ _ => rfl⟩
  | v :: r, o, w, cur, h => by
    rw [World.setCells]
    obtain ⟨cur', h1, h2, h3⟩ := setCells_ahead r (o + 1) _ _ (block_set h o v)
    refine ⟨cur', h1, by rw [h2]; simp, fun j hj => ?_⟩
    rw [h3 j (by omega), Array.getElem?_setIfInBounds_ne (by omega)]
theorem ownsRow_clear {w : World} {base g cap i : Nat} {l : List KeyP} (h : w.ownsRow base 44 4 (.slice (some ⟨g, 0, none⟩) l.length cap) l.length (flatKeys l)) (hi : i ≤ l.length) (Z : List Value) : (w.setCells g (i * 4) Z).ownsRow base 44 4 (.slice (some ⟨g, 0, none⟩) i cap) i (flatKeys (l.take i)) := by
  rcases h.2 with ⟨h0, _⟩ | ⟨g0, cap0, cur, h0, hbg, hh, hnc, hcm, hcs, htk⟩
  · cases h0
  · cases h0
    obtain ⟨cur', h1, h2, h3⟩ := setCells_ahead Z (i * 4) w cur hh
    refine ⟨by rw [flatKeys_length, List.length_take]; congr 1; omega, .inr ⟨g, cap, cur', rfl, hbg, h1, by omega, hcm, by omega, ?_⟩⟩
    apply List.ext_getElem?
    intro j
    have hj0 : (cur.toList.take (l.length * 4))[j]? = (flatKeys l)[j]? := by rw [htk]
    rw [flatKeys_bind] at hj0 ⊢
    by_cases hj : j < i * 4
    · rw [List.getElem?_take_of_lt (by omega), Array.getElem?_toList] at hj0
      rw [List.getElem?_take_of_lt hj, Array.getElem?_toList, h3 j hj, hj0, List.getElem?_take_of_lt (by omega)]
    · rw [List.getElem?_take_eq_none (by omega), List.getElem?_take_eq_none (by omega)]; rfl
theorem run_clear_keys (w : World) (b o n c : Nat) (hn : 0 < n) (hc : ∀ j, j < n * 4 → (w.cell? ⟨b, o + j, none⟩).isSome = true) (hf : ∀ j, j < n * 4 → w.frozen? ⟨b, o + j, none⟩ = false) : ∃ Z : List Value, ∀ ty, (Builtin.clear_ #[41] ty #[.slice (some ⟨b, o, none⟩) n c]).run Tryz.prog w = .ok (.tuple #[]) (w.setCells b o Z) := by
  refine ⟨(Builtin.zeroCells (Value.cells (.agg #[.int .i64 0, .int .i64 0, .string ⟨#[]⟩, .int .i64 0])) n).toList, fun ty => ?_⟩
  have hzl : (Builtin.zeroCells (Value.cells (.agg #[.int .i64 0, .int .i64 0, .string ⟨#[]⟩, .int .i64 0])) n).toList.length = n * 4 := by
    simp [Builtin.zeroCells, Value.cells]
  have hz1 : ∀ v ∈ (Builtin.zeroCells (Value.cells (.agg #[.int .i64 0, .int .i64 0, .string ⟨#[]⟩, .int .i64 0])) n).toList, v.oneCell' = true := fun v hv => by
    simp only [Builtin.zeroCells, Value.cells, Array.toList_map, List.mem_map] at hv
    obtain ⟨i, _, rfl⟩ := hv
    show (#[Value.int .i64 0, .int .i64 0, .string ⟨#[]⟩, .int .i64 0][i % 4]!).oneCell' = true
    rcases (by omega : i % 4 = 0 ∨ i % 4 = 1 ∨ i % 4 = 2 ∨ i % 4 = 3) with e | e | e | e <;> rw [e] <;> rfl
  have hv : ∀ w, (zeroValue 44).run Tryz.prog w = .ok (.agg #[.int .i64 0, .int .i64 0, .string ⟨#[]⟩, .int .i64 0]) w := fun w => by kernel_rfl
  have hst := run_storeCells_cells (P := Tryz.prog) b o _ 0 w (by rw [hzl]; simpa using hc) (by rw [hzl]; simpa using hf) hz1
  simp only [Nat.add_zero] at hst
  obtain ⟨m, rfl⟩ : ∃ m, n = m + 1 := ⟨n - 1, by omega⟩
  simp [Builtin.clear_, run_underlying Tryz.underlying41, hv, hst]
set_option maxRecDepth 100000 in
set_option maxHeartbeats 4000000 in
theorem idxKeys_any (base f : Nat) (lb : Array Value) (p : KeyP → Bool) (ef : ∀ args w, (callFunc f args).run Tryz.prog w = .ok (.enter f args) w) (v : Value) (l : List KeyP) (w : World) (hown : w.ownsRow base 44 4 v l.length (flatKeys l)) (hb : base ≤ w.heap.size) (hl : l.length ≤ 4000)
    (hp : ∀ X (k : KeyP), k ∈ l → Below base w X → Calls Tryz.prog f (#[.agg #[.int .i64 k.kind, .int .i64 k.a, .string k.word, .int .i64 k.b]] ++ lb) X fun e X' => e = .returned (.bool (p k)) ∧ Below X.heap.size X X') :
    Calls Tryz.prog 103 #[v, .func (.func f) #[] lb] w fun e w' => ∃ r : Int, e = .returned (.int .i64 r) ∧ Below w.heap.size w w' ∧ ((r = -1 ∧ ∀ k ∈ l, p k = false) ∨ ∃ i : Nat, r = i ∧ i < l.length ∧ (∀ k, l[i]? = some k → p k = true) ∧ ∀ k ∈ l.take i, p k = false) := by
  obtain ⟨ao, cap, rfl, hin⟩ := ownsRow_keysIn hown
  have HIN := Lib.hid hin
  have HP := Lib.hid hp
  clear hown hin hp
  go_enter Tryz.func103, Tryz.ntmps103
  go_wp2_with fail
  go_loopw [8] (fun vi X => ∃ i : Nat, i ≤ l.length ∧ vi = .int .i64 i ∧ (∀ k ∈ l.take i, p k = false) ∧ Below w.heap.size w X) (fun vi _ => l.length - (intOf vi).toNat)
  case atStart => exact ⟨0, Nat.zero_le _, rfl, (fun k hk => by simp at hk), Below.refl _ _⟩
  case round =>
    obtain ⟨i, hi, rfl, hno, hB⟩ := hrel
    have HNO := Lib.hid hno
    have HB := Lib.hid hB
    have HBB := Lib.hid (hB.mono hb)
    clear hno
    by_cases hlt : i < l.length
    · obtain ⟨eb, k, rfl, hk, hebl, d0, d1, d2, d3⟩ := keysIn_get (HIN.out.below hB) hlt
      have hc := HP.out wr k (List.mem_of_getElem? hk.out) HBB.out
      have hst : l.take (i + 1) = l.take i ++ [k] := by rw [List.take_add_one, hk.out]; rfl
      obtain ⟨kk, ka, kw, kb⟩ := k
      simp only [] at d0 d1 d2 d3 hc
      have i0 : (0 : Int) ≤ (i : Int) := by omega
      have i1 : (i : Int) < (l.length : Int) := by omega
      have HST := Lib.hid hst
      clear hst hB
      cases hpk : p ⟨kk, ka, kw, kb⟩ with
      | true =>
        rw [hpk] at hc
        have HPK := Lib.hid hpk
        clear hpk
        go_wp2_with (go_at_fn f; refine hc.mono ?_; rintro e w' ⟨rfl, b'⟩; have B' := Lib.hid b'; clear b')
        go_ret
        exact ⟨_, rfl, HB.out.trans (B'.out.mono HB.out.size), .inr ⟨i, rfl, hlt, fun k' hk' => by rw [hk.out] at hk'; cases hk'; exact HPK.out, HNO.out⟩⟩
      | false =>
        rw [hpk] at hc
        have HPK := Lib.hid hpk
        clear hpk
        go_wp2_with (go_at_fn f; refine hc.mono ?_; rintro e w' ⟨rfl, b'⟩; have B' := Lib.hid b'; clear b')
        exact ⟨⟨i + 1, by omega, by go_num, fun k' hk' => by
          rw [HST.out] at hk'
          rcases List.mem_append.1 hk' with h | h
          · exact HNO.out k' h
          · simp at h; subst h; exact HPK.out, HB.out.trans (B'.out.mono HB.out.size)⟩, by simp [intOf]; omega⟩
    · obtain rfl : i = l.length := by omega
      clear hB
      go_wp2_with fail
      go_ret
      exact ⟨-1, rfl, HB.out, .inl ⟨rfl, fun k hk => HNO.out k (by rw [List.take_of_length_le (Nat.le_refl _)]; exact hk)⟩⟩
set_option maxRecDepth 100000 in
set_option maxHeartbeats 8000000 in
theorem delKeys_any (base f : Nat) (lb : Array Value) (p : KeyP → Bool) (ef : ∀ args w, (callFunc f args).run Tryz.prog w = .ok (.enter f args) w) (v : Value) (l : List KeyP) (w : World) (hown : w.ownsRow base 44 4 v l.length (flatKeys l)) (hb : base ≤ w.heap.size) (hl : l.length ≤ 4000)
    (hp : ∀ X (k : KeyP), k ∈ l → Below base w X → Calls Tryz.prog f (#[.agg #[.int .i64 k.kind, .int .i64 k.a, .string k.word, .int .i64 k.b]] ++ lb) X fun e X' => e = .returned (.bool (p k)) ∧ Below X.heap.size X X') :
    Calls Tryz.prog 52 #[v, .func (.func f) #[] lb] w fun e w' => ∃ v', e = .returned v' ∧ w'.ownsRow base 44 4 v' (l.filter fun k => !p k).length (flatKeys (l.filter fun k => !p k)) ∧ Below base w w' := by
  have HIX := Lib.hid (idxKeys_any base f lb p ef v l w hown hb hl hp)
  have HOWN := Lib.hid hown
  have HP := Lib.hid hp
  obtain ⟨va, vn, vc, hv⟩ := ownsRow_shapeK hown
  subst hv
  clear hp
  go_enter Tryz.func52, Tryz.ntmps52
  go_upto_region 2 with (go_at_call 103; (with_reducible refine HIX.out.mono ?_); rintro e w1 ⟨r, rfl, b1, hr⟩)
  have HB1 := Lib.hid (b1.mono hb)
  have HO1 := Lib.hid (ownsRow_below hown b1)
  clear b1 hown HOWN HIX
  rcases hr with ⟨rfl, hall⟩ | ⟨i, rfl, hi, hpi, hpre⟩
  · have hfil : (l.filter fun k => !p k) = l := List.filter_eq_self.2 fun k hk => by rw [hall k hk]; rfl
    have HF := Lib.hid hfil
    clear hall hfil
    go_wp2_with fail
    go_ret
    exact ⟨_, rfl, by rw [HF.out]; exact HO1.out, HB1.out⟩
  · obtain ⟨g, cap, hvs⟩ : ∃ g cap, (Value.slice va vn vc) = .slice (some ⟨g, 0, none⟩) l.length cap := by
      rcases HO1.out.2 with ⟨_, h0⟩ | ⟨g, cap, cur, h0, _⟩
      · omega
      · exact ⟨g, cap, h0⟩
    injection hvs with e1 e2 e3
    have e3 := e3.symm
    subst e1 e2 e3
    have hne : ¬ (i : Int) = -1 := by omega
    have hz : ((i : Int) == -1) = false := by simp; try omega
    obtain ⟨k0, hk0⟩ : ∃ k, l[i]? = some k := ⟨_, List.getElem?_eq_getElem hi⟩
    have hst0 : l.take i = (l.take (i + 1)).filter fun k => !p k := by
      rw [List.take_add_one, hk0, List.filter_append]
      have h1 : (l.take i).filter (fun k => !p k) = l.take i := List.filter_eq_self.2 fun k hk => by rw [hpre k hk]; rfl
      rw [h1]
      simp [hpi k0 hk0]
    have HST0 := Lib.hid hst0
    have hcap : l.length ≤ cap := by
      rcases HO1.out.2 with ⟨h0, _⟩ | ⟨g, cap, cur, h0, _, _, hnc, _⟩
      · cases h0
      · cases h0; exact hnc
    clear hst0 hk0 hpi hpre
    go_wp2_with fail
    go_loopw [5, 6] (fun vi vj X => ∃ (i j : Nat) (D : List KeyP), vi = .int .i64 i ∧ vj = .int .i64 j ∧ i < j ∧ j ≤ l.length ∧ D.length = l.length ∧ D.take i = ((l.take j).filter fun k => !p k) ∧ D.drop j = l.drop j ∧ X.ownsRow base 44 4 (.slice (some ⟨g, 0, none⟩) D.length cap) D.length (flatKeys D) ∧ Below base w X) (fun _ vj _ => l.length - (intOf vj).toNat)
    case atStart => exact ⟨i, i + 1, l, rfl, by go_num, by omega, by omega, rfl, HST0.out, rfl, HO1.out, HB1.out⟩
    case round =>
      clear HST0 HO1 HB1 hne hz hi
      obtain ⟨i, j, D, rfl, rfl, hij, hjl, hDl, hDt, hDd, hrow, hB⟩ := hrel
      by_cases hlt : j < l.length
      · obtain ⟨k, hk⟩ : ∃ k, l[j]? = some k := ⟨_, List.getElem?_eq_getElem hlt⟩
        have hDk : D[j]? = some k := by
          have := congrArg (fun l => l[0]?) hDd
          simp only [List.getElem?_drop, Nat.add_zero] at this
          rw [this]; exact hk
        obtain ⟨ao, cp, hsl, hin⟩ := ownsRow_keysIn hrow
        cases hsl
        obtain ⟨b0, e, d0, d1, d2, d3⟩ := hin j k hDk
        cases e
        obtain ⟨W4, hW4⟩ : ∃ W4, W4 = wr.alloc (.cells #[.int .i64 k.kind, .int .i64 k.a, .string k.word, .int .i64 k.b] 44) := ⟨_, rfl⟩
        have hB4 : Below wr.heap.size wr W4 := by rw [hW4]; exact (Below.refl _ _).alloc (Nat.le_refl _) _
        obtain ⟨kx, hkx⟩ : ∃ kx, kx = wr.heap.size := ⟨_, rfl⟩
        have hkb : W4.heap[kx]? = some (.cells #[.int .i64 k.kind, .int .i64 k.a, .string k.word, .int .i64 k.b] 44 (0, 0)) := by rw [hW4, hkx]; exact block_alloc_new _ _
        have k0 : W4.cell? ⟨kx, 0, none⟩ = some (.int .i64 k.kind) := block_cell hkb 0
        have k1 : W4.cell? ⟨kx, 1, none⟩ = some (.int .i64 k.a) := block_cell hkb 1
        have k2 : W4.cell? ⟨kx, 2, none⟩ = some (.string k.word) := block_cell hkb 2
        have k3 : W4.cell? ⟨kx, 3, none⟩ = some (.int .i64 k.b) := block_cell hkb 3
        have hkl : kx < W4.heap.size := lt_of_block hkb
        have hbw4 : Below base w W4 := hB.trans (hB4.mono (by have := hB.size; omega))
        have hc := HP.out W4 k (List.mem_of_getElem? hk) hbw4
        have hrow4 := ownsRow_below hrow hB4
        have hstk : l.take (j + 1) = l.take j ++ [k] := by rw [List.take_add_one, hk]; rfl
        have hdd : D.drop (j + 1) = l.drop (j + 1) := by rw [← List.drop_drop, ← List.drop_drop, hDd]
        have j0 : (0 : Int) ≤ (j : Int) := by omega
        have j1 : (j : Int) < (l.length : Int) := by omega
        have i0 : (0 : Int) ≤ (i : Int) := by omega
        have i1 : (i : Int) < (l.length : Int) := by omega
        have hgl : g < wr.heap.size := World.block_lt_of_cell? _ _ d0
        have HW4 := Lib.hid hW4
        have HKX := Lib.hid hkx
        have HB := Lib.hid hbw4
        have HROW := Lib.hid hrow4
        have HDT := Lib.hid hDt
        have HSTK := Lib.hid hstk
        have HDD := Lib.hid hdd
        have HDL := Lib.hid hDl
        have hil : i < D.length := by omega
        obtain ⟨kk, ka, kw, kb⟩ := k
        simp only [] at d0 d1 d2 d3 k0 k1 k2 k3 hc
        clear hk hDk hin hW4 hB4 hkx hkb hbw4 hrow4 hstk hdd hDt hDd hrow hB hDl
        cases hpk : p ⟨kk, ka, kw, kb⟩ with
        | true =>
          rw [hpk] at hc
          have HPK := Lib.hid hpk
          clear hpk
          go_wp2_with (first | (rw [← HW4.out, ← HKX.out]) | (go_at_fn f; refine hc.mono ?_; rintro e w5 ⟨rfl, b'⟩; have B' := Lib.hid b'; clear b'))
          refine ⟨⟨i, j + 1, D, rfl, by go_num, by omega, by omega, HDL.out, ?_, HDD.out, ownsRow_below HROW.out B'.out, HB.out.trans (B'.out.mono (by have := HB.out.size; omega))⟩, by simp [intOf]; omega⟩
          rw [HDT.out, HSTK.out, List.filter_append]
          simp [HPK.out]
        | false =>
          rw [hpk] at hc
          have HPK := Lib.hid hpk
          clear hpk
          go_wp2_with (first | (rw [← HW4.out, ← HKX.out]) | (go_at_fn f; refine hc.mono ?_; rintro e w5 ⟨rfl, b'⟩; have HR5 := Lib.hid (ownsRow_below HROW.out b'); have hb0l := Nat.lt_of_lt_of_le hkl b'.size; have m0 := below_cell b' hkl k0; have m1 := below_cell b' hkl k1; have m2 := below_cell b' hkl k2; have m3 := below_cell b' hkl k3; obtain ⟨ki, hki⟩ : (∃ ki, D[i]? = some ki) := ⟨_, List.getElem?_eq_getElem hil⟩; obtain ⟨ao5, cp5, hsl5, hin5⟩ := ownsRow_keysIn HR5.out; cases hsl5; obtain ⟨b5, e5, n0, n1, n2, n3⟩ := hin5 i ki hki; cases e5; have z0 := HR5.out.frozenAt (i * 4); have z1 := HR5.out.frozenAt (i * 4 + 1); have z2 := HR5.out.frozenAt (i * 4 + 2); have z3 := HR5.out.frozenAt (i * 4 + 3); have hg5 := World.block_lt_of_cell? _ _ n0; have HB5 := Lib.hid (HB.out.trans (b'.mono (by have := HB.out.size; omega))); have HR6 := Lib.hid (ownsRow_setKey HR5.out hil ⟨kk, ka, kw, kb⟩); clear b' hki hin5))
          have hbg : base ≤ g := own_base HR5.out
          refine ⟨⟨i + 1, j + 1, D.set i ⟨kk, ka, kw, kb⟩, by go_num, by go_num, by omega, by omega, by rw [List.length_set]; exact HDL.out, ?_, ?_, by rw [List.length_set]; exact HR6.out, (((HB5.out.setCell hbg _).setCell hbg _).setCell hbg _).setCell hbg _⟩, by simp [intOf]; omega⟩
          · rw [HSTK.out, List.filter_append, ← HDT.out, List.take_add_one, List.getElem?_set_self hil, List.take_set_of_le (Nat.le_refl _)]
            simp [HPK.out]
          · rw [List.drop_set_of_lt (by omega)]; exact HDD.out
      · obtain rfl : j = l.length := by omega
        have hbg : base ≤ g := own_base hrow
        obtain ⟨ao, cp, hsl, hin⟩ := ownsRow_keysIn hrow
        cases hsl
        have hfz := fun o => hrow.frozenAt o
        obtain ⟨Z, hcl⟩ := run_clear_keys wr g (i * 4) (l.length - i) (cap - i) (by omega) (fun q hq => by rw [keysIn_flat hin (i * 4 + q) ((flatKeys D)[i * 4 + q]'(by rw [flatKeys_length]; omega)) (List.getElem?_eq_getElem _)]; rfl) (fun q _ => hfz _)
        have HRC := Lib.hid (ownsRow_clear hrow (i := i) (by omega) Z)
        have HDT := Lib.hid hDt
        have HB := Lib.hid hB
        have i0 : (0 : Int) ≤ (i : Int) := by omega
        have i1 : (i : Int) ≤ (l.length : Int) := by omega
        have hci : ¬ cap = i := by omega
        have i2 : (i : Int) ≤ (cap : Int) := by omega
        have hil : i < D.length := by omega
        have HDL := Lib.hid hDl
        clear hDt hB hrow hin hfz hDl hDd
        go_wp2_with fail
        go_ret
        have he : D.take i = l.filter fun k => !p k := by rw [HDT.out, List.take_length]
        have hlen : (l.filter fun k => !p k).length = i := by rw [← he, List.length_take]; omega
        refine ⟨_, rfl, ?_, below_setCells hbg Z _ _ HB.out⟩
        rw [hlen, ← he]; exact HRC.out
end Go.Proofs.YtflhpmgjehjjkaaGreatDoor

namespace Go.Proofs.YtflhpmgjehjjkaaGreatDoor
open Go.RowKit Go.Deep Go.Shelf Go.Sort Go.Maps

/-! ### In plain words -/
def nodesV (hist : List (List OpP)) (a : Nat) (t : Int) (l : List KeyP) : List (Int × ByteArray) := (l.filter fun k => decide (k.kind = 1)).map fun k => (k.a, saidH hist k a t)
def edgesV (l : List KeyP) : List KeyP := l.filter fun k => decide (k.kind = 2)
/-- What nodes have. -/
def propsV (hist : List (List OpP)) (a : Nat) (t : Int) (l : List KeyP) : List (KeyP × ByteArray) := (l.filter fun k => decide (k.kind = 3)).map fun k => (k, saidH hist k a t)
theorem propsV_snoc (hist : List (List OpP)) (a : Nat) (t : Int) (l : List KeyP) (k : KeyP) : propsV hist a t (l ++ [k]) = propsV hist a t l ++ (if k.kind = 3 then [(k, saidH hist k a t)] else []) := by
  unfold propsV
  rw [List.filter_append, List.map_append]
  congr 1
  by_cases h : k.kind = 3 <;> simp [h]
theorem nodesV_fst (hist : List (List OpP)) (a : Nat) (t : Int) (l : List KeyP) : (nodesV hist a t l).map (·.1) = nodesP l := by
  unfold nodesV nodesP; rw [List.map_map]; rfl
theorem nodesV_snoc (hist : List (List OpP)) (a : Nat) (t : Int) (l : List KeyP) (k : KeyP) : nodesV hist a t (l ++ [k]) = nodesV hist a t l ++ (if k.kind = 1 then [(k.a, saidH hist k a t)] else []) := by
  unfold nodesV
  rw [List.filter_append, List.map_append]
  congr 1
  by_cases h : k.kind = 1 <;> simp [h]
theorem edgesV_snoc (l : List KeyP) (k : KeyP) : edgesV (l ++ [k]) = edgesV l ++ (if k.kind = 2 then [k] else []) := by
  unfold edgesV
  rw [List.filter_append]
  congr 1
  by_cases h : k.kind = 2 <;> simp [h]
theorem key_node {k : KeyP} (h : keyB k = true) (hk : k.kind = 1) : k = ⟨1, k.a, ⟨#[]⟩, 0⟩ := by
  obtain ⟨kk, ka, kw, kb⟩ := k
  simp only at hk; subst hk
  unfold keyB at h
  simp only [if_true, Bool.and_eq_true, decide_eq_true_eq] at h
  obtain ⟨_, h1, h2⟩ := h
  rw [h2, size0 h1]
theorem key_i64 {k : KeyP} (h : keyB k = true) : i64 k.a ∧ i64 k.b := ⟨(wfkey h).1.2.1, (wfkey h).1.2.2⟩
/-- A node comes once. -/
theorem node_new {l : List KeyP} {k : KeyP} (hp : (l ++ [k]).Pairwise fun x y => keyLess x y = true) (hok : ∀ x ∈ l ++ [k], keyB x = true) (hk : k.kind = 1) (hist : List (List OpP)) (a : Nat) (t : Int) : (nodesV hist a t l).lookup k.a = none := by
  cases h : (nodesV hist a t l).lookup k.a with
  | none => rfl
  | some v =>
    exfalso
    have hm := lookup_mem h
    obtain ⟨x, hx, e⟩ := List.mem_map.1 hm
    obtain ⟨hx, hx1⟩ := List.mem_filter.1 hx
    have e1 : x.a = k.a := congrArg Prod.fst e
    have e2 := key_node (hok x (by simp [hx])) (by simpa using hx1)
    have e3 := key_node (hok k (by simp)) hk
    have e4 : x = k := by rw [e2, e3, e1]
    have := (List.pairwise_append.1 hp).2.2 x hx k (by simp)
    rw [e4, keyLess_irrefl] at this
    cases this
theorem lookup_some {α β : Type} [BEq α] [LawfulBEq α] {L : List (α × β)} {x : α} : (L.lookup x).isSome = true ↔ x ∈ L.map (·.1) := by
  constructor
  · intro h
    obtain ⟨v, hv⟩ := Option.isSome_iff_exists.1 h
    exact List.mem_map.2 ⟨(x, v), lookup_mem hv, rfl⟩
  · intro h
    cases hx : L.lookup x with
    | some v => rfl
    | none =>
      obtain ⟨p, hp, e⟩ := List.mem_map.1 h
      exact absurd e (lookup_no hx p hp)
/-- Which edges go: an end is no node. -/
def goesE (N : List (Int × ByteArray)) (k : KeyP) : Bool := !((N.lookup k.a).isSome && (N.lookup k.b).isSome)
theorem edges_left (hist : List (List OpP)) (a : Nat) (t : Int) (L : List KeyP) : ((edgesV L).filter fun k => !goesE (nodesV hist a t L) k) = edgesP L := by
  unfold edgesV edgesP
  rw [List.filter_filter]
  congr 1
  funext k
  rw [Bool.eq_iff_iff]
  simp only [goesE, Bool.not_not, Bool.and_eq_true, decide_eq_true_eq, lookup_some, nodesV_fst]
  exact ⟨fun h => ⟨h.2, h.1⟩, fun h => ⟨h.2, h.1⟩⟩
abbrev PrpOf (D : DataW Unit) (P : List (KeyP × ByteArray)) : Prop := MapOf (fun p : KeyP × ByteArray => kK p.1) (fun p => strD p.2) D P
/-- A key comes once. -/
theorem prop_new {l : List KeyP} {k : KeyP} (hp : (l ++ [k]).Pairwise fun x y => keyLess x y = true) (hok : ∀ x ∈ l ++ [k], keyB x = true) (hist : List (List OpP)) (a : Nat) (t : Int) : ∀ y ∈ propsV hist a t l, kK y.1 ≠ kK k := fun y hy e => by
  unfold propsV at hy
  obtain ⟨x, hx, rfl⟩ := List.mem_map.1 hy
  have hxl := (List.mem_filter.1 hx).1
  have e1 := kK_inj (hok x (List.mem_append_left _ hxl)) (hok k (by simp)) e
  have h1 := (List.pairwise_append.1 hp).2.2 x hxl k (by simp)
  rw [e1, keyLess_irrefl] at h1
  cases h1
/-- What a graph's nodes have, in memory. -/
structure GP (w : World) (gb : Nat) (P : List (KeyP × ByteArray)) : Prop where
  own : ∃ v0 v1 pb D n, w.heap[gb]? = some (.cells #[v0, v1, .map (some pb)] 122 (0, 0)) ∧ w.ownsMap Tryz.prog 44 strR pb n D ∧ PrpOf D P
  key : ∀ p ∈ P, keyB p.1 = true
theorem GP.below {w w' : World} {gb : Nat} {P : List (KeyP × ByteArray)} (h : GP w gb P) (hb : Below w.heap.size w w') : GP w' gb P := by
  obtain ⟨v0, v1, pb, D, n, h1, h2, h3⟩ := h.own
  exact ⟨⟨v0, v1, pb, D, n, (hb.block _ (lt_of_block h1)).trans h1, owns_frame (F := fun _ => False) h2 (Fr.new hb) (fun e => e), h3⟩, h.key⟩
set_option maxRecDepth 100000 in
set_option maxHeartbeats 4000000 in
theorem at1_any (vb gb nb nn : Nat) (N : List (Int × ByteArray)) (ve pm : Value) (k : KeyP) (X : World) (hv : X.heap[vb]? = some (.cells #[.pointer (some ⟨gb, 0, none⟩)] 34 (0, 0))) (hg : X.heap[gb]? = some (.cells #[.map (some nb), ve, pm] 122 (0, 0))) (hN : IM strR strD X nb nn N) (ha : i64 k.a) (hb : i64 k.b) :
    Calls Tryz.prog 53 (#[.agg #[.int .i64 k.kind, .int .i64 k.a, .string k.word, .int .i64 k.b]] ++ #[.pointer (some ⟨vb, 0, none⟩)]) X fun e X' => e = .returned (.bool (goesE N k)) ∧ Below X.heap.size X X' := by
  obtain ⟨kk, ka, kw, kb⟩ := k
  simp only at ha hb
  show Calls Tryz.prog 53 #[.agg #[.int .i64 kk, .int .i64 ka, .string kw, .int .i64 kb], .pointer (some ⟨vb, 0, none⟩)] X _
  obtain ⟨W, hW⟩ : ∃ W, W = X.alloc (.cells #[.int .i64 kk, .int .i64 ka, .string kw, .int .i64 kb] 44) := ⟨_, rfl⟩
  obtain ⟨kx, hkx⟩ : ∃ kx, kx = X.heap.size := ⟨_, rfl⟩
  have hB : Below X.heap.size X W := by rw [hW]; exact (Below.refl _ _).alloc (Nat.le_refl _) _
  have hkb : W.heap[kx]? = some (.cells #[.int .i64 kk, .int .i64 ka, .string kw, .int .i64 kb] 44 (0, 0)) := by rw [hW, hkx]; exact block_alloc_new _ _
  have hvW := (hB.block _ (lt_of_block hv)).trans hv
  have hgW := (hB.block _ (lt_of_block hg)).trans hg
  have hNW := hN.below hB
  have q0 : ∀ Y : InC (Bel W), Y.w.cell? ⟨vb, 0, none⟩ = some (.pointer (some ⟨gb, 0, none⟩)) := fun Y => Y.cell (block_cell hvW 0)
  have q1 : ∀ Y : InC (Bel W), Y.w.cell? ⟨gb, 0, none⟩ = some (.map (some nb)) := fun Y => Y.cell (block_cell hgW 0)
  have q2 : ∀ Y : InC (Bel W), Y.w.cell? ⟨kx, 1, none⟩ = some (.int .i64 ka) := fun Y => Y.cell (block_cell hkb 1)
  have q3 : ∀ Y : InC (Bel W), Y.w.cell? ⟨kx, 3, none⟩ = some (.int .i64 kb) := fun Y => Y.cell (block_cell hkb 3)
  obtain ⟨va, hva⟩ : ∃ va, va = (N.lookup ka).getD ⟨#[]⟩ := ⟨_, rfl⟩
  obtain ⟨vb', hvb⟩ : ∃ vb', vb' = (N.lookup kb).getD ⟨#[]⟩ := ⟨_, rfl⟩
  have l1 : ∀ Y : InC (Bel W), (Instr.lookup 119 (.map (some nb)) (.int .i64 ka) true).run Tryz.prog Y.w = .ok (.tuple #[.string va, .bool (N.lookup ka).isSome]) Y.w := fun Y => by
    rw [hva]; exact (hNW.below Y.ok).look_ok strVT Tryz.underlying119 ⟨#[]⟩ (zeroStrW Y.w) ha
  have l2 : ∀ Y : InC (Bel W), (Instr.lookup 119 (.map (some nb)) (.int .i64 kb) true).run Tryz.prog Y.w = .ok (.tuple #[.string vb', .bool (N.lookup kb).isSome]) Y.w := fun Y => by
    rw [hvb]; exact (hNW.below Y.ok).look_ok strVT Tryz.underlying119 ⟨#[]⟩ (zeroStrW Y.w) hb
  have hvl := lt_of_block hvW
  have hgl := lt_of_block hgW
  have hkl := lt_of_block hkb
  have HW := Lib.hid hW
  have HKX := Lib.hid hkx
  have HB := Lib.hid hB
  have hgo : goesE N ⟨kk, ka, kw, kb⟩ = !((N.lookup ka).isSome && (N.lookup kb).isSome) := rfl
  rw [hgo]
  generalize (N.lookup ka).isSome = ba at *
  generalize (N.lookup kb).isSome = bb at *
  clear hW hkx hB hkb hvW hgW hNW hv hg hN ha hb hva hvb hgo
  go_enter Tryz.func53, Tryz.ntmps53
  go_upto_region 1 with (rw [← HW.out, ← HKX.out])
  refine wp_region_in (S := Bel W) (by kernel_rfl) (by kernel_rfl) (bel_drew (Below.refl _ W)) (fun hne => ?_)
  repeat (go_big_quiet_step (fail))
  refine wpQuiet_nil ?_
  rintro _ ⟨Y, rfl⟩
  go_wp2_with fail
  refine wp_region_in (S := Bel W) (by kernel_rfl) (by kernel_rfl) (bel_drew Y.ok) (fun hne => ?_)
  repeat (go_big_quiet_step (fail))
  refine wpQuiet_nil ?_
  rintro _ ⟨Y2, rfl⟩
  have HY2 := Lib.hid Y2.ok
  cases ba <;> cases bb <;>
    (go_wp2_with fail
     go_ret
     exact ⟨rfl, HB.out.trans (HY2.out.mono HB.out.size)⟩)
/-- The loop's state. -/
structure AtS (hist : List (List OpP)) (a : Nat) (t : Int) (w1 : World) (nb : Nat) (l : List KeyP) (ve : Value) (X : World) : Prop where
  nod : IM strR strD X nb (nodesV hist a t l).length (nodesV hist a t l)
  prp : ∃ D n, X.ownsMap Tryz.prog 44 strR (nb + 1) n D ∧ n ≤ l.length ∧ PrpOf D (propsV hist a t l)
  blk : X.heap[nb + 2]? = some (.cells #[.map (some nb), ve, .map (some (nb + 1))] 122 (0, 0))
  var : X.heap[nb + 3]? = some (.cells #[.pointer (some ⟨nb + 2, 0, none⟩)] 34 (0, 0))
  row : X.ownsRow (nb + 4) 44 4 ve (edgesV l).length (flatKeys (edgesV l))
  be : Below w1.heap.size w1 X
theorem AtS.below {hist : List (List OpP)} {a : Nat} {t : Int} {w1 : World} {nb : Nat} {l : List KeyP} {ve : Value} {X Y : World} (h : AtS hist a t w1 nb l ve X) (b : Below X.heap.size X Y) : AtS hist a t w1 nb l ve Y := by
  obtain ⟨D, n, h1, h2, h3⟩ := h.prp
  exact ⟨h.nod.below b, ⟨D, n, owns_frame (F := fun _ => False) h1 (Fr.new b) (fun e => e), h2, h3⟩, (b.block _ (lt_of_block h.blk)).trans h.blk, (b.block _ (lt_of_block h.var)).trans h.var, ownsRow_below h.row b, h.be.trans (b.mono h.be.size)⟩
theorem AtS.var_lt {hist : List (List OpP)} {a : Nat} {t : Int} {w1 : World} {nb : Nat} {l : List KeyP} {ve : Value} {X : World} (h : AtS hist a t w1 nb l ve X) : nb + 3 < X.heap.size := lt_of_block h.var
theorem AtS.node {hist : List (List OpP)} {a : Nat} {t : Int} {w1 : World} {nb : Nat} {l : List KeyP} {ve : Value} {X Y : World} (h : AtS hist a t w1 nb l ve X) (hn : nb = w1.heap.size) {k : KeyP} (hk : k.kind = 1) (hf : Fr (· = nb) X Y) (hm : IM strR strD Y nb ((nodesV hist a t l).length + 1) (nodesV hist a t l ++ [(k.a, saidH hist k a t)])) : AtS hist a t w1 nb (l ++ [k]) ve Y := by
  obtain ⟨D, n, h1, h2, h3⟩ := h.prp
  have hl := h.var_lt
  have e1 : edgesV (l ++ [k]) = edgesV l := by rw [edgesV_snoc, if_neg (by omega), List.append_nil]
  have e3 : propsV hist a t (l ++ [k]) = propsV hist a t l := by rw [propsV_snoc, if_neg (by omega), List.append_nil]
  refine ⟨?_, ⟨D, n, owns_frame h1 hf (by omega), by simp; omega, by rw [e3]; exact h3⟩, hf.keeps h.blk (by omega), hf.keeps h.var (by omega), ?_, h.be.trans (hf.below (fun k _ e => by omega) (by omega))⟩
  · rw [nodesV_snoc, if_pos hk, List.length_append]; exact hm
  · rw [e1]; exact ownsRow_frame h.row hf (fun g hg e => by omega)
theorem AtS.prop {hist : List (List OpP)} {a : Nat} {t : Int} {w1 : World} {nb : Nat} {l : List KeyP} {ve : Value} {X Y : World} (h : AtS hist a t w1 nb l ve X) (hn : nb = w1.heap.size) {k : KeyP} (hk : k.kind = 3) (hf : Fr (· = nb + 1) X Y) {D : DataW Unit} {n : Nat} (hm : Y.ownsMap Tryz.prog 44 strR (nb + 1) n D) (hnl : n ≤ l.length + 1) (hD : PrpOf D (propsV hist a t (l ++ [k]))) : AtS hist a t w1 nb (l ++ [k]) ve Y := by
  have hl := h.var_lt
  have e1 : edgesV (l ++ [k]) = edgesV l := by rw [edgesV_snoc, if_neg (by omega), List.append_nil]
  have e2 : nodesV hist a t (l ++ [k]) = nodesV hist a t l := by rw [nodesV_snoc, if_neg (by omega), List.append_nil]
  refine ⟨?_, ⟨D, n, hm, by simpa using hnl, hD⟩, hf.keeps h.blk (by omega), hf.keeps h.var (by omega), ?_, h.be.trans (hf.below (fun k _ e => by omega) (by omega))⟩
  · rw [e2]; exact h.nod.frame hf (by omega)
  · rw [e1]; exact ownsRow_frame h.row hf (fun g hg e => by omega)
theorem AtS.noth {hist : List (List OpP)} {a : Nat} {t : Int} {w1 : World} {nb : Nat} {l : List KeyP} {ve : Value} {X : World} (h : AtS hist a t w1 nb l ve X) {k : KeyP} (h1 : k.kind ≠ 1) (h2 : k.kind ≠ 2) (h3 : k.kind ≠ 3) : AtS hist a t w1 nb (l ++ [k]) ve X := by
  obtain ⟨D, n, p1, p2, p3⟩ := h.prp
  have e1 : edgesV (l ++ [k]) = edgesV l := by rw [edgesV_snoc, if_neg h2, List.append_nil]
  have e2 : nodesV hist a t (l ++ [k]) = nodesV hist a t l := by rw [nodesV_snoc, if_neg h1, List.append_nil]
  have e3 : propsV hist a t (l ++ [k]) = propsV hist a t l := by rw [propsV_snoc, if_neg h3, List.append_nil]
  refine ⟨?_, ⟨D, n, p1, by simp; omega, by rw [e3]; exact p3⟩, h.blk, h.var, ?_, h.be⟩
  · rw [e2]; exact h.nod
  · rw [e1]; exact h.row
theorem AtS.edge {hist : List (List OpP)} {a : Nat} {t : Int} {w1 : World} {nb : Nat} {l : List KeyP} {ve v8 : Value} {X Y : World} (h : AtS hist a t w1 nb l ve X) (hn : nb = w1.heap.size) {k : KeyP} (hk : k.kind = 2) (hb : Below (nb + 4) X Y) (hrow : Y.ownsRow (nb + 4) 44 4 v8 (edgesV l ++ [k]).length (flatKeys (edgesV l ++ [k]))) : AtS hist a t w1 nb (l ++ [k]) v8 (Y.setCell ⟨nb + 2, 1, none⟩ v8) := by
  obtain ⟨D, n, p1, p2, p3⟩ := h.prp
  have e3 : propsV hist a t (l ++ [k]) = propsV hist a t l := by rw [propsV_snoc, if_neg (by omega), List.append_nil]
  have hl := h.var_lt
  have hsz := hb.size
  have e1 : edgesV (l ++ [k]) = edgesV l ++ [k] := by rw [edgesV_snoc, if_pos hk]
  have e2 : nodesV hist a t (l ++ [k]) = nodesV hist a t l := by rw [nodesV_snoc, if_neg (by omega), List.append_nil]
  have f1 : Fr (fun k => nb + 4 ≤ k) X Y := Fr.ofBelow hb
  have f2 : Fr (· = nb + 2) Y (Y.setCell ⟨nb + 2, 1, none⟩ v8) := Fr.setCell (F := (· = nb + 2)) (p := ⟨nb + 2, 1, none⟩) (Fr.refl _ Y) (fun _ => rfl) v8
  have hblk : Y.heap[nb + 2]? = _ := f1.keeps h.blk (by omega)
  refine ⟨?_, ⟨D, n, owns_frame (owns_frame p1 f1 (by omega)) f2 (by omega), by simp; omega, by rw [e3]; exact p3⟩, ?_, f2.keeps (f1.keeps h.var (by omega)) (by omega), ?_, (h.be.trans (hb.mono (by omega))).setCell (by show w1.heap.size ≤ nb + 2; omega) _⟩
  · rw [e2]; exact (h.nod.frame f1 (by omega)).frame f2 (by omega)
  · have := block_set hblk 1 v8
    simpa using this
  · rw [e1]; exact ownsRow_frame hrow f2 (fun g hg e => by omega)
theorem AtS.cut {hist : List (List OpP)} {a : Nat} {t : Int} {w1 : World} {nb : Nat} {l : List KeyP} {ve : Value} {X Y : World} (h : AtS hist a t w1 nb l ve X) (hb : Below (nb + 4) X Y) : IM strR strD Y nb (nodesV hist a t l).length (nodesV hist a t l) ∧ Y.heap[nb + 2]? = some (.cells #[.map (some nb), ve, .map (some (nb + 1))] 122 (0, 0)) ∧ Y.heap[nb + 3]? = some (.cells #[.pointer (some ⟨nb + 2, 0, none⟩)] 34 (0, 0)) := by
  have f1 : Fr (fun k => nb + 4 ≤ k) X Y := Fr.ofBelow hb
  exact ⟨h.nod.frame f1 (by omega), f1.keeps h.blk (by omega), f1.keeps h.var (by omega)⟩
theorem nodesP_nodup {L : List KeyP} (hp : L.Pairwise fun x y => keyLess x y = true) (hok : ∀ x ∈ L, keyB x = true) : (nodesP L).Nodup := by
  unfold nodesP
  rw [List.Nodup, List.pairwise_map]
  refine (hp.filter _).imp_of_mem fun {x y} hx hy hxy e => ?_
  obtain ⟨hx, hx1⟩ := List.mem_filter.1 hx
  obtain ⟨hy, hy1⟩ := List.mem_filter.1 hy
  have e2 := key_node (hok x hx) (by simpa using hx1)
  have e3 := key_node (hok y hy) (by simpa using hy1)
  have e4 : x = y := by rw [e2, e3, e]
  rw [e4, keyLess_irrefl] at hxy
  cases hxy
theorem edgesP_len (L : List KeyP) : (edgesP L).length ≤ L.length := List.length_filter_le _ _
theorem edgesV_len (L : List KeyP) : (edgesV L).length ≤ L.length := List.length_filter_le _ _
theorem nodesV_len (hist : List (List OpP)) (a : Nat) (t : Int) (L : List KeyP) : (nodesV hist a t L).length ≤ L.length := by unfold nodesV; rw [List.length_map]; exact List.length_filter_le _ _
end Go.Proofs.YtflhpmgjehjjkaaGreatDoor

namespace Go.Proofs.YtflhpmgjehjjkaaGreatDoor
open Go.RowKit Go.Deep Go.Shelf Go.Sort Go.Maps

theorem stepKey {W : World} {ops : Array Oper} {o : Oper} {a : Act} {K : Act → World → Prop} {Q : Exit → Act → World → Prop} {E : Prop} (hgd : o.guard = none) (s x : Operand)
    (ho : o.op = .call { callee := .builtin .append, args := #[s, x], argTypes := #[41, 41] }) (base : Nat) (v : Value) (l : List KeyP) (hs : a.eval s = v) (hown : W.ownsRow base 44 4 v l.length (flatKeys l))
    (b : Nat) (p : KeyP) (hx : a.eval x = .slice (some ⟨b, 0, none⟩) 1 1) (hc0 : W.cell? ⟨b, 0, none⟩ = some (.int .i64 p.kind)) (hc1 : W.cell? ⟨b, 1, none⟩ = some (.int .i64 p.a)) (hc2 : W.cell? ⟨b, 2, none⟩ = some (.string p.word)) (hc3 : W.cell? ⟨b, 3, none⟩ = some (.int .i64 p.b))
    (hbytes : (l.length + 1) * 40 ≤ 140737488355328) (hbase : base ≤ W.heap.size) (w0 : World) (hB : Below base w0 W)
    (h : ∀ v' w', w'.ownsRow base 44 4 v' (l ++ [p]).length (flatKeys (l ++ [p])) → Below base w0 w' → W.heap.size ≤ w'.heap.size → (∃ g cap, v' = .slice (some ⟨g, 0, none⟩) (l.length + 1) cap) → K (a.put o.dst v') w') : if Region.wanted o (yielded ops a.tmps) = true then Oper.wp Tryz.prog o a W K Q else E := by
  have hw : Region.wanted o (yielded ops a.tmps) = true := by simp [Region.wanted, hgd]
  rw [if_pos hw]
  obtain ⟨i0, hi, hz0, hz1, hz2⟩ := info_parts infoKey
  refine wp_append_own _ s x 41 ho base 44 i0 _ 4 _ Tryz.underlying41 hi hz0 hz1 hz2 rfl (by decide) v l.length (flatKeys l) hs hown ⟨b, 0, none⟩ 1 1 (encK p) hx rfl (fun j u hu => ?_) (fun u hu => ?_) (by unfold maxLen; omega) hbytes hbase ?_
  · have : ∀ k, (⟨b, 0, none⟩ : Addr).add k = ⟨b, k, none⟩ := fun k => by unfold Addr.add; split <;> simp_all
    rw [this]
    match j, hu with
    | 0, hu => simp [encK] at hu; subst hu; exact hc0
    | 1, hu => simp [encK] at hu; subst hu; exact hc1
    | 2, hu => simp [encK] at hu; subst hu; exact hc2
    | 3, hu => simp [encK] at hu; subst hu; exact hc3
  · simp [encK] at hu; rcases hu with rfl | rfl | rfl | rfl <;> rfl
  · intro v' w' h2 h3 _
    refine h v' w' ?_ (hB.grown h3 hbase fun q hq => (hown.lt q hq).1) h3.size (ownsRow_succ h2)
    rw [flatKeys_append, List.length_append]; exact h2
theorem own_shape {w : World} {base : Nat} {e : TypeId} {size : Nat} {v : Value} {n : Nat} {xs : List Value} (h : w.ownsRow base e size v n xs) : ∃ ao c, v = .slice ao n c ∧ (∀ p, ao = some p → ∃ b, p = ⟨b, 0, none⟩) ∧ (ao = none → n = 0) := by
  rcases h.2 with ⟨rfl, hn⟩ | ⟨g, cap, cur, rfl, _⟩
  · subst hn; exact ⟨none, 0, rfl, fun p e => (by cases e), fun _ => rfl⟩
  · exact ⟨some ⟨g, 0, none⟩, cap, rfl, fun p e => (by cases e; exact ⟨g, rfl⟩), fun e => (by cases e)⟩
/-- The graph's blocks are new. -/
structure NewG (w : World) (gb nb : Nat) (eo : Option Addr) (w' : World) : Prop where
  g : w.heap.size ≤ gb
  n : w.heap.size ≤ nb
  e : ∀ b, eo = some ⟨b, 0, none⟩ → w.heap.size ≤ b
  p : ∀ b v0 v1, w'.heap[gb]? = some (.cells #[v0, v1, .map (some b)] 122 (0, 0)) → w.heap.size ≤ b
set_option maxRecDepth 100000 in
set_option maxHeartbeats 8000000 in
theorem at_full (a : Nat) (t : Int) (pb po : Nat) (R : Rest) (hist : List (List OpP)) (s : Pst) (g : Gh) (w : World) (h : PastIs w pb po R hist s g) (hok : ∀ l ∈ hist, l.all opB = true) (ht : timeB t = true) (h1 : s.gone ≤ a) (h2 : a ≤ hist.length) :
    Calls Tryz.prog 10 #[.pointer (some ⟨pb, po, none⟩), .int .i64 (a : Nat), .int .i64 t] w fun e w' => ∃ gb nb eo L, e = .returned (.tuple #[.pointer (some ⟨gb, 0, none⟩), .nilIface]) ∧ KeysIs hist a t L ∧ (∀ k ∈ L, keyB k = true) ∧ GAt w' gb nb eo (nodesV hist a t L) (edgesP L) ∧ GP w' gb (propsV hist a t L) ∧ Below w.heap.size w w' ∧ NewG w gb nb eo w' := by
  have hmm := @run_makeMap Tryz.prog
  have hmf : ∀ (fn : Fn) (first cap : Array Value) (w : World), (Instr.makeFunc fn first cap).run Tryz.prog w = .ok (.func fn first cap) w := fun _ _ _ _ => rfl
  have HK := Lib.hid (keys_is a t pb po R hist s g w h hok ht h1 h2)
  have HV := Lib.hid fun (X : World) (hX : Below w.heap.size w X) (k : KeyP) (hk : keyB k = true) => value_is k a t pb po R hist s g X (h.below hX) hk ht h1 h2
  clear h hok ht h1 h2
  go_enter Tryz.func10, Tryz.ntmps10
  go_wp2_with fail
  refine HK.out.mono ?_
  rintro e w1 ⟨v, L, rfl, hKI, hkB, hll, hown, hb⟩
  obtain ⟨lo, lc, rfl, hin⟩ := ownsRow_keysIn hown
  have HKI := Lib.hid hKI
  have HKB := Lib.hid hkB
  have HIN := Lib.hid hin
  have HB := Lib.hid hb
  obtain ⟨nb, hnb⟩ : ∃ nb, nb = w1.heap.size := ⟨_, rfl⟩
  obtain ⟨V, hV⟩ : ∃ V, V = (((w1.alloc (.map #[] 0)).alloc (.map #[] 0)).alloc (.cells #[.map (some nb), .slice none 0 0, .map (some (nb + 1))] 122)).alloc (.cells #[.pointer (some ⟨nb + 1 + 1, 0, none⟩)] 34) := ⟨_, rfl⟩
  have hA0 : AtS hist a t w1 nb [] (.slice none 0 0) V := by
    have m1 : (w1.alloc (.map #[] 0)).ownsMap Tryz.prog 3 strR nb 0 (.map []) := by rw [hnb]; exact World.ownsMap_made _ _ _ _
    have m2 : ((w1.alloc (.map #[] 0)).alloc (.map #[] 0)).ownsMap Tryz.prog 44 strR (nb + 1) 0 (.map []) := by
      have := World.ownsMap_made (w1.alloc (.map #[] 0)) Tryz.prog 44 strR
      rw [World.size_alloc, ← hnb] at this; exact this
    have s1 : (w1.alloc (.map #[] 0)).heap.size = nb + 1 := by rw [World.size_alloc, ← hnb]
    have s2 : ((w1.alloc (.map #[] 0)).alloc (.map #[] 0)).heap.size = nb + 2 := by rw [World.size_alloc, s1]
    obtain ⟨W2, hW2⟩ : ∃ W2, W2 = (w1.alloc (.map #[] 0)).alloc (.map #[] 0) := ⟨_, rfl⟩
    rw [← hW2] at hV m2 s2
    have bV : Below W2.heap.size W2 V := by rw [hV]; exact ((Below.refl _ _).alloc (Nat.le_refl _) _).alloc (by simp) _
    have b12 : Below (nb + 1) (w1.alloc (.map #[] 0)) W2 := by rw [hW2]; exact (Below.refl _ _).alloc (by omega) _
    have b2 : Below w1.heap.size w1 W2 := by rw [hW2]; exact ((Below.refl _ _).alloc (Nat.le_refl _) _).alloc (by simp) _
    have s3 : (W2.alloc (.cells #[.map (some nb), .slice none 0 0, .map (some (nb + 1))] 122)).heap.size = nb + 3 := by rw [World.size_alloc, s2]
    refine ⟨?_, ⟨.map [], 0, owns_frame (F := fun _ => False) m2 (Fr.new bV) (fun e => e), Nat.zero_le _, mapOf_nil⟩, ?_, ?_, World.ownsRow_nil _ _ _ _, b2.trans (bV.mono b2.size)⟩
    · exact ⟨fun p hp => by simp [nodesV] at hp, .map [], owns_frame (F := fun _ => False) (owns_frame m1 (Fr.ofBelow b12) (by omega)) (Fr.new bV) (fun e => e), mapOf_nil⟩
    · rw [hV]
      have := block_alloc_new W2 (.cells #[.map (some nb), .slice none 0 0, .map (some (nb + 1))] 122)
      rw [s2] at this
      exact (((Below.refl _ _).alloc (Nat.le_refl _) _).block _ (by omega)).trans this
    · rw [hV]
      have := block_alloc_new (W2.alloc (.cells #[.map (some nb), .slice none 0 0, .map (some (nb + 1))] 122)) (.cells #[.pointer (some ⟨nb + 1 + 1, 0, none⟩)] 34)
      rw [s3] at this
      exact this
  have HV0 := Lib.hid hV
  have HNB := Lib.hid hnb
  have HA0 := Lib.hid hA0
  clear hKI hkB hin hb hown HK hV hnb hA0
  go_upto_region 5 with fail
  rw [← HNB.out, ← HV0.out]
  go_wp2_with fail
  go_loopw [31] (fun vi X => ∃ (i : Nat) (ve : Value), i ≤ L.length ∧ vi = .int .i64 i ∧ AtS hist a t w1 nb (L.take i) ve X) (fun vi _ => L.length - (intOf vi).toNat)
  case atStart => exact ⟨0, _, Nat.zero_le _, rfl, HA0.out⟩
  case round =>
    clear HA0 HV0
    obtain ⟨i, ve, hi, rfl, hA⟩ := hrel
    by_cases hlt : i < L.length
    · obtain ⟨eb, k, rfl, hk, hebl, d0, d1, d2, d3⟩ := keysIn_get (HIN.out.below hA.be) hlt
      have hkB := HKB.out k (List.mem_of_getElem? hk.out)
      have hst : L.take (i + 1) = L.take i ++ [k] := by rw [List.take_add_one, hk.out]; rfl
      obtain ⟨W4, hW4⟩ : ∃ W4, W4 = wr.alloc (.cells #[.int .i64 k.kind, .int .i64 k.a, .string k.word, .int .i64 k.b] 44) := ⟨_, rfl⟩
      have hB4 : Below wr.heap.size wr W4 := by rw [hW4]; exact (Below.refl _ _).alloc (Nat.le_refl _) _
      obtain ⟨kx, hkx⟩ : ∃ kx, kx = wr.heap.size := ⟨_, rfl⟩
      have hkb : W4.heap[kx]? = some (.cells #[.int .i64 k.kind, .int .i64 k.a, .string k.word, .int .i64 k.b] 44 (0, 0)) := by rw [hW4, hkx]; exact block_alloc_new _ _
      have k0 : W4.cell? ⟨kx, 0, none⟩ = some (.int .i64 k.kind) := block_cell hkb 0
      have k1 : W4.cell? ⟨kx, 1, none⟩ = some (.int .i64 k.a) := block_cell hkb 1
      have k2 : W4.cell? ⟨kx, 2, none⟩ = some (.string k.word) := block_cell hkb 2
      have k3 : W4.cell? ⟨kx, 3, none⟩ = some (.int .i64 k.b) := block_cell hkb 3
      have hkl : kx < W4.heap.size := lt_of_block hkb
      have hA4 := hA.below hB4
      have hvl := hA.var_lt
      have hc := HV.out W4 (HB.out.trans (hA4.be.mono HB.out.size)) k hkB
      obtain ⟨sx, hsx⟩ : ∃ sx, sx = saidH hist k a t := ⟨_, rfl⟩
      rw [← hsx] at hc
      have hil : (L.take i).length = i := by rw [List.length_take]; omega
      have hkxv : nb + 3 < kx := by omega
      have j0 : (0 : Int) ≤ (i : Int) := by omega
      have j1 : (i : Int) < (L.length : Int) := by omega
      have HW4 := Lib.hid hW4
      have HKX := Lib.hid hkx
      have HSX := Lib.hid hsx
      have HST := Lib.hid hst
      have HA4 := Lib.hid hA4
      have HKBB := Lib.hid hkB
      have HNN := Lib.hid fun (h1 : k.kind = 1) => node_new (l := L.take i) (k := k) (by rw [← hst]; exact HKI.out.1.sublist (List.take_sublist _ _)) (fun x hx => HKB.out x (List.mem_of_mem_take (by rw [← hst] at hx; exact hx))) h1 hist a t
      have HPN := Lib.hid (prop_new (l := L.take i) (k := k) (by rw [← hst]; exact HKI.out.1.sublist (List.take_sublist _ _)) (fun x hx => HKB.out x (List.mem_of_mem_take (by rw [← hst] at hx; exact hx))) hist a t)
      clear hW4 hkx hsx hst hA4 hkB hB4 hkb hk hA
      obtain ⟨kk, ka, kw, kb⟩ := k
      simp only [] at d0 d1 d2 d3 k0 k1 k2 k3 hc
      have HC := Lib.hid hc
      clear hc
      go_upto_region 10 with (first | (rw [← HW4.out, ← HKX.out]) | (go_at_call 51; (with_reducible refine HC.out.mono ?_); rintro e W5 ⟨rfl, b5⟩; have B5 := Lib.hid b5; have HA5 := Lib.hid (HA4.out.below b5); have n0 := below_cell b5 hkl k0; have n1 := below_cell b5 hkl k1; have n2 := below_cell b5 hkl k2; have n3 := below_cell b5 hkl k3; have hkl5 := Nat.lt_of_lt_of_le hkl b5.size; clear b5))
      have hS4 := HA5.out.cut (Below.refl _ _)
      have v0 : W5.cell? ⟨nb + 1 + 1 + 1, 0, none⟩ = some (.pointer (some ⟨nb + 1 + 1, 0, none⟩)) := block_cell hS4.2.2 0
      have g0 : W5.cell? ⟨nb + 1 + 1, 0, none⟩ = some (.map (some nb)) := block_cell hS4.2.1 0
      have g1 : W5.cell? ⟨nb + 1 + 1, 1, none⟩ = some ve := block_cell hS4.2.1 1
      have g2 : W5.cell? ⟨nb + 1 + 1, 2, none⟩ = some (.map (some (nb + 1))) := block_cell hS4.2.1 2
      have gf : W5.frozen? ⟨nb + 1 + 1, 1, none⟩ = false := block_free hS4.2.1 1
      have hgl : nb + 1 + 1 < W5.heap.size := by have := HA5.out.var_lt; omega
      have hrow := HA5.out.row
      have hvl5 := HA5.out.var_lt
      have hnl := nodesV_len hist a t (L.take i)
      have hel := edgesV_len (L.take i)
      rw [hil] at hnl hel
      clear hS4 k0 k1 k2 k3 d0 d1 d2 d3 HIN HV HW4 HC
      by_cases e1 : kk = 1
      · subst e1
        have HN := Lib.hid (HNN.out rfl)
        obtain ⟨hr, D, hown, hD⟩ := HA5.out.nod
        have hka := (key_i64 HKBB.out).1
        have HPUT := Lib.hid fun (w' : World) (ho : w'.ownsMap Tryz.prog 3 strR nb ((nodesV hist a t (L.take i)).length + 1) (D.put (kI ka) (strD sx))) => IM.put hr hD hka HN.out ho
        have HKA := Lib.hid hka
        have HOWN := Lib.hid hown
        clear hr hD hown hka hrow g1 g2 gf
        generalize hn5 : (nodesV hist a t (L.take i)).length = nl at *
        have HN5 := Lib.hid hn5
        clear hn5
        go_wp2_with fail
        obtain ⟨W6, hW6⟩ : ∃ W6, W6 = W5.drew := ⟨_, rfl⟩
        refine wp_region_tail 7 (by kernel_rfl) (by kernel_rfl) ?_
        simp only [List.take_succ_cons, List.take_zero, List.drop_succ_cons, List.drop_zero]
        repeat still_step
        refine wpStill_nil ?_
        go_wp2_with (at_mapUpdate; refine wpList_mapUpdate_own _ rfl _ _ _ 119 rfl 3 9 intLaw Tryz.underlying119 strR nb nl D rfl (World.ownsMap.drew HOWN.out) (by unfold maxLen; omega) _ _ _ rfl rfl (keyOf_int_mk Tryz.underlying3 (wfI HKA.out)) (strD sx) [] (strVT.put sx) ?_; intro w7 hown7 hg7; have HIM7 := Lib.hid (HPUT.out w7 hown7); have HF7 := Lib.hid ((Fr.drew (Fr.refl (· = nb) W5)).trans (Fr.ofGrown hg7)); clear hown7 hg7)
        refine ⟨⟨i + 1, ve, by omega, by go_num, ?_⟩, by simp [intOf]; omega⟩
        rw [HST.out]
        exact HA5.out.node HNB.out rfl HF7.out (by rw [HN5.out, ← HSX.out]; exact HIM7.out)
      · by_cases e3 : kk = 3
        · subst e3
          obtain ⟨D, nl, hown, hnl', hDP⟩ := HA5.out.prp
          rw [hil] at hnl'
          have HOWN := Lib.hid hown
          have HDP := Lib.hid ((hDP.put ((⟨3, ka, kw, kb⟩ : KeyP), sx) (kK_key _) HPN.out).perm (List.perm_append_comm (l₁ := [((⟨3, ka, kw, kb⟩ : KeyP), sx)]) (l₂ := propsV hist a t (L.take i))))
          clear hDP hown hrow g0 g1 gf e1 hnl hel
          go_wp2_with fail
          refine wp_region_tail 6 (by kernel_rfl) (by kernel_rfl) ?_
          simp only [List.take_succ_cons, List.take_zero, List.drop_succ_cons, List.drop_zero]
          repeat still_step
          refine wpStill_nil ?_
          go_wp2_with (at_mapUpdate; refine wpList_mapUpdate_own _ rfl _ _ _ 120 rfl 44 9 keyLaw Tryz.underlying120 strR (nb + 1) nl D rfl (World.ownsMap.drew HOWN.out) (by unfold maxLen; omega) _ _ _ rfl rfl (keyOf_key HKBB.out) (strD sx) [] (strVT.put sx) ?_; intro w7 hown7 hg7; have HO7 := Lib.hid hown7; have HF7 := Lib.hid ((Fr.drew (Fr.refl (· = nb + 1) W5)).trans (Fr.ofGrown hg7)); clear hown7 hg7)
          refine ⟨⟨i + 1, ve, by omega, by go_num, ?_⟩, by simp [intOf]; omega⟩
          rw [HST.out]
          exact HA5.out.prop HNB.out rfl HF7.out HO7.out (by omega) (by rw [propsV_snoc, if_pos rfl, ← HSX.out]; exact HDP.out)
        · by_cases e2 : kk = 2
          · subst e2
            have HROW := Lib.hid hrow
            generalize hE : edgesV (L.take i) = E at *
            have HE := Lib.hid hE
            obtain ⟨va, vn, vc, hv⟩ := ownsRow_shapeK hrow
            subst hv
            have q0 := Lib.hid (Below.refl W5.heap.size W5).drew
            have hg5 : nb + 1 + 1 + 1 < W5.heap.size := by omega
            clear hrow hE e1 e3 g0 g2 hnl
            go_wp2_with fail
            have hv4 : nb + 4 ≤ W5.heap.size := by omega
            go_region_law
              ((refine stepKey rfl _ _ rfl (nb + 4) _ E rfl (ownsRow_below HROW.out (q0.out.alloc q0.out.size _)) W5.heap.size ⟨2, ka, kw, kb⟩ rfl (by simp) (by simp) (by simp) (by simp) (by omega) (by simp; omega) W5 ((q0.out.mono hv4).alloc hv4 _) ?_; intro v8 w8 hown8 hB8 hs8 hv8; obtain ⟨g8, c8, rfl⟩ := hv8; have hC8 := HA5.out.cut hB8; have p0 : w8.cell? ⟨nb + 1 + 1 + 1, 0, none⟩ = some (.pointer (some ⟨nb + 1 + 1, 0, none⟩)) := block_cell hC8.2.2 0; have p1 : w8.cell? ⟨nb + 1 + 1, 1, none⟩ = some (.slice va vn vc) := block_cell hC8.2.1 1; have p2 : w8.frozen? ⟨nb + 1 + 1, 1, none⟩ = false := block_free hC8.2.1 1; have hgl8 : nb + 1 + 1 < w8.heap.size := World.block_lt_of_cell? _ _ p1; have HO8 := Lib.hid hown8; have HB8 := Lib.hid hB8; clear hown8 hB8 hC8))
            all_goals
              clear HA4 v0 g1 gf n0 n1 n2 n3 p0 p1 p2
              go_wp2_with fail
              refine ⟨⟨i + 1, .slice (some ⟨g8, 0, none⟩) (E.length + 1) c8, by omega, by go_num, ?_⟩, by simp [intOf]; omega⟩
              rw [HST.out]
              exact HA5.out.edge HNB.out rfl HB8.out (by rw [HE.out]; exact HO8.out)
          · clear g0 g1 g2 gf hrow hnl hel v0
            go_wp2_with fail
            refine ⟨⟨i + 1, ve, by omega, by go_num, ?_⟩, by simp [intOf]; omega⟩
            rw [HST.out]
            exact HA5.out.noth e1 e2 e3
    · obtain rfl : i = L.length := by omega
      rw [List.take_of_length_le (Nat.le_refl _)] at hA
      have hS := hA.cut (Below.refl _ _)
      have v0 : wr.cell? ⟨nb + 1 + 1 + 1, 0, none⟩ = some (.pointer (some ⟨nb + 1 + 1, 0, none⟩)) := block_cell hS.2.2 0
      have g1 : wr.cell? ⟨nb + 1 + 1, 1, none⟩ = some ve := block_cell hS.2.1 1
      obtain ⟨va, vn, vc, hv⟩ := ownsRow_shapeK hA.row
      subst hv
      have hvl := hA.var_lt
      have hv4 : nb + 4 ≤ wr.heap.size := by omega
      have hel := edgesV_len L
      have hD0 := fun (X : World) (hX : Below wr.heap.size wr X) => delKeys_any (nb + 4) 53 #[.pointer (some ⟨nb + 1 + 1 + 1, 0, none⟩)] (goesE (nodesV hist a t L)) (fun _ _ => by kernel_rfl) (.slice va vn vc) (edgesV L) X (ownsRow_below hA.row hX) (by have := hX.size; omega) (by omega) (fun Y k hk hY => by
        have hc := hA.cut ((hX.mono hv4).trans hY)
        have hkk := key_i64 (HKB.out k (List.mem_filter.1 hk).1)
        exact at1_any _ _ _ _ _ _ _ k Y hc.2.2 hc.2.1 hc.1 hkk.1 hkk.2)
      rw [edges_left] at hD0
      have HD := Lib.hid hD0
      have q0 := Lib.hid (Below.refl wr.heap.size wr).drew
      have HA := Lib.hid hA
      have hEl := edgesP_len L
      generalize hE : edgesP L = E at *
      have HE := Lib.hid hE
      clear hA hS hD0 hE
      go_wp2_with fail
      go_region_with
        ((go_at_call 52; (with_reducible refine (HD.out _ q0.out).mono ?_); rintro e w8 ⟨v8, rfl, hown8, hB8⟩; have HB8 := Lib.hid ((q0.out.mono hv4).trans hB8); obtain ⟨a8, c8, rfl, hsh8, hnn8⟩ := own_shape hown8; have HSH := Lib.hid hsh8; have HNN := Lib.hid hnn8; clear hsh8 hnn8; have HO8 := Lib.hid hown8; have hC8 := HA.out.cut HB8.out; have p0 : w8.cell? ⟨nb + 1 + 1 + 1, 0, none⟩ = some (.pointer (some ⟨nb + 1 + 1, 0, none⟩)) := block_cell hC8.2.2 0; have p1 : w8.cell? ⟨nb + 1 + 1, 1, none⟩ = some (.slice va vn vc) := block_cell hC8.2.1 1; have p2 : w8.frozen? ⟨nb + 1 + 1, 1, none⟩ = false := block_free hC8.2.1 1; have hgl8 : nb + 1 + 1 < w8.heap.size := World.block_lt_of_cell? _ _ p1; clear hown8 hB8 hC8))
      all_goals
        clear v0 g1 p1 p2
        go_wp2_with fail
        go_ret2
        have hC8 := HA.out.cut HB8.out
        have f2 : Fr (· = nb + 1 + 1) w8 (w8.setCell ⟨nb + 1 + 1, 1, none⟩ (.slice a8 E.length c8)) := Fr.setCell (F := (· = nb + 1 + 1)) (p := ⟨nb + 1 + 1, 1, none⟩) (Fr.refl _ w8) (fun _ => rfl) _
        have hb : (w8.setCell ⟨nb + 1 + 1, 1, none⟩ (.slice a8 E.length c8)).heap[nb + 1 + 1]? = some (.cells #[.map (some nb), .slice a8 E.length c8, .map (some (nb + 1))] 122 (0, 0)) := by
          have := block_set hC8.2.1 1 (.slice a8 E.length c8)
          simpa using this
        refine ⟨nb + 1 + 1, nb, a8, L, rfl, HKI.out, HKB.out, ⟨⟨c8, some (nb + 1), by rw [HE.out]; exact hb⟩, ⟨_, hC8.1.frame f2 (by omega)⟩, ?_, ?_, ?_, ?_, HSH.out, ?_, ?_⟩, ?_, ?_, ?_⟩
        · obtain ⟨ao, cp, e, hin⟩ := ownsRow_keysIn (ownsRow_frame HO8.out f2 (fun g hg e => by omega))
          cases e
          rw [HE.out]; exact hin
        · rw [HE.out]; omega
        · intro k hk
          exact key_i64 (HKB.out k (List.mem_filter.1 hk).1)
        · intro e
          rw [HE.out]
          exact List.eq_nil_of_length_eq_zero (HNN.out e)
        · rw [nodesV_fst]; exact nodesP_nodup HKI.out.1 HKB.out
        · have := nodesV_len hist a t L; omega
        · obtain ⟨D, n, p1, _, p3⟩ := HA.out.prp
          refine ⟨⟨_, _, nb + 1, D, n, hb, owns_frame (owns_frame p1 (Fr.ofBelow HB8.out) (by omega)) f2 (by omega), p3⟩, fun p hp => ?_⟩
          unfold propsV at hp
          obtain ⟨x, hx, rfl⟩ := List.mem_map.1 hp
          exact HKB.out x ((List.mem_filter.1 hx).1)
        · refine (HB.out.trans ((HA.out.be.trans (HB8.out.mono (by have := HNB.out; omega))).mono HB.out.size)).setCell (p := ⟨nb + 1 + 1, 1, none⟩) ?_ _
          have := HB.out.size
          have := HNB.out
          show w.heap.size ≤ nb + 1 + 1
          omega
        · have h1 := HB.out.size
          have h2 := HNB.out
          refine ⟨by omega, by omega, fun b e => ?_, fun b v0 v1 e => ?_⟩
          · subst e
            have := own_base HO8.out
            omega
          · rw [hb] at e
            injection e with e
            injection e with e
            have e2 := congrArg (fun c : Array Value => c[2]?) e
            simp at e2
            omega
end Go.Proofs.YtflhpmgjehjjkaaGreatDoor
