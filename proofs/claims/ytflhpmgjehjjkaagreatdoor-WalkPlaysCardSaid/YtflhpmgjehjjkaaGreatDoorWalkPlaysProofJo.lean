/- WalkPlays is proved: whatever transactions, whatever five numbers and whatever text come in, the call returns true, and each argument reads afterwards as it read before; the package-level variables that the row lists are tied to the program's text by the card. There are no other conditions. -/
import Derived.Deep.RegionLaw
import Derived.Deep.DeepCutAuto
import Derived.Deep.RegionHeld3
import Derived.Deep.SlicePairs
import Derived.ProofKit
import Derived.Lib.SmallJoins
import Derived.Carry
import Derived.SevenTiedAt
import Derived.ChangeMaps5
import Derived.ChangeSame
import Derived.ChangeVars
import Derived.JoinedOf
import Derived.RowKit
import Derived.RowKitTokens
import Derived.LaidLaws
import Derived.LaidHandle
import Derived.LaidSub
import Derived.Lay
import Derived.Stop.Joined
import Derived.Test.YtflhpmgjehjjkaaGreatDoorWqAJo
import Derived.Test.YtflhpmgjehjjkaaGreatDoorRpTJo
import Derived.Test.YtflhpmgjehjjkaaGreatDoorFcKJo
import Derived.Test.YtflhpmgjehjjkaaGreatDoorWkKJo
import Derived.Test.YtflhpmgjehjjkaaGreatDoorWqGJo
import Derived.Test.YtflhpmgjehjjkaaGreatDoorWqIJo
import Derived.Test.YtflhpmgjehjjkaaGreatDoorWqJJo
import Derived.Test.YtflhpmgjehjjkaaGreatDoorTreeRJo
import Derived.Test.YtflhpmgjehjjkaaGreatDoorPpAJo
import Derived.Test.YtflhpmgjehjjkaaGreatDoorFcSJo
import Derived.Test.YtflhpmgjehjjkaaGreatDoorErrCJo
import Derived.Test.YtflhpmgjehjjkaaGreatDoorPwEJo
import Derived.Test.YtflhpmgjehjjkaaGreatDoorPsCJo
import Derived.Test.YtflhpmgjehjjkaaGreatDoorWpJJo
import Derived.Test.YtflhpmgjehjjkaaGreatDoorTie
import Derived.Test.YtflhpmgjehjjkaaGreatDoorCards
namespace Go.Proofs.YtflhpmgjehjjkaaGreatDoor
open Go.RowKit Go.Deep Go.Shelf Go.Sort Go.Maps

/-- A text more, in a region. -/
theorem stepText {W : World} {ops : Array Oper} {o : Oper} {a : Act} {K : Act → World → Prop} {Q : Exit → Act → World → Prop} {E : Prop} (hgd : o.guard = none) (s x : Operand)
    (ho : o.op = .call { callee := .builtin .append, args := #[s, x], argTypes := #[114, 114] }) (base : Nat) (v : Value) (l : List ByteArray) (hs : a.eval s = v) (hown : W.ownsRow base 9 1 v l.length (l.map Value.string))
    (b : Nat) (p : ByteArray) (hx : a.eval x = .slice (some ⟨b, 0, none⟩) 1 1) (hc0 : W.cell? ⟨b, 0, none⟩ = some (.string p))
    (hbytes : (l.length + 1) * 16 ≤ 140737488355328) (hbase : base ≤ W.heap.size) (w0 : World) (hB : Below base w0 W)
    (h : ∀ v' w', w'.ownsRow base 9 1 v' (l ++ [p]).length ((l ++ [p]).map Value.string) → Below base w0 w' → W.heap.size ≤ w'.heap.size → (∃ g cap, v' = .slice (some ⟨g, 0, none⟩) (l.length + 1) cap) → K (a.put o.dst v') w') : if Region.wanted o (yielded ops a.tmps) = true then Oper.wp Tryz.prog o a W K Q else E := by
  have hw : Region.wanted o (yielded ops a.tmps) = true := by simp [Region.wanted, hgd]
  rw [if_pos hw]
  obtain ⟨i0, hi, hz0, hz1, hz2⟩ := info_parts infoStr
  refine wp_append_own _ s x 114 ho base 9 i0 _ 1 _ Tryz.underlying114 hi hz0 hz1 hz2 rfl (by decide) v l.length (l.map Value.string) hs hown ⟨b, 0, none⟩ 1 1 [.string p] hx rfl (fun j u hu => ?_) (fun u hu => ?_) (by unfold maxLen; omega) hbytes hbase ?_
  · have : ∀ k, (⟨b, 0, none⟩ : Addr).add k = ⟨b, k, none⟩ := fun k => by unfold Addr.add; split <;> simp_all
    rw [this]
    match j, hu with
    | 0, hu => simp at hu; subst hu; exact hc0
  · simp at hu; subst hu; rfl
  · intro v' w' h2 h3 _
    refine h v' w' ?_ (hB.grown h3 hbase fun q hq => (hown.lt q hq).1) h3.size (ownsRow_succ h2)
    rw [List.map_append, List.length_append]; exact h2
theorem flat_len : ∀ {hist : List (List OpP)}, (∀ t ∈ hist, okL t = true) → hist.flatten.length ≤ 8 * hist.length
  | [], _ => Nat.le_refl _
  | l :: h, hok => by
    have h1 := (okL_iff.1 (hok l (by simp))).1.2
    have h2 := flat_len (hist := h) fun t ht => hok t (List.mem_cons_of_mem _ ht)
    rw [List.flatten_cons, List.length_append, List.length_cons]
    omega
theorem keys_len {hist : List (List OpP)} (hok : ∀ t ∈ hist, okL t = true) (hl : hist.length ≤ 150) {n : Nat} {t : Int} {L : List KeyP} (h : KeysIs hist n t L) : L.length ≤ 1200 := by
  have hn : L.Nodup := h.1.imp fun {a b} hab e => by subst e; rw [keyLess_irrefl] at hab; cases hab
  have h1 := nodup_le (m := hist.flatten.map (·.key)) hn fun k hk => by
    obtain ⟨l, h1, o, h2, h3⟩ := said_in ((h.2 k).1 hk)
    exact List.mem_map.2 ⟨o, List.mem_flatten.2 ⟨l, h1, h2⟩, h3⟩
  rw [List.length_map] at h1
  have := flat_len hok
  omega
section
variable {F : Nat → Prop} {rb : Nat} {hist : List (List OpP)} {known : Int}
theorem rpat_bad (w : World) (h : RP F w rb hist known) (a t : Int) (he : keyRE hist known a t ≠ 0) :
    Calls Tryz.prog 22 #[.pointer (some ⟨rb, 0, none⟩), .int .i64 a, .int .i64 t] w fun e w' => e = .returned (.tuple #[.pointer none, .int .i64 (keyRE hist known a t)]) ∧ w = w' := by
  have HC := Lib.hid (rpkeys_bad a t w h he)
  have hne : (keyRE hist known a t == 0) = false := by simpa using he
  clear h he
  generalize keyRE hist known a t = n at *
  go_enter Tryz.func22, Tryz.ntmps22
  go_wp2_with (go_at_call 62; (with_reducible refine HC.out.mono ?_); rintro e w1 ⟨rfl, rfl⟩)
  go_ret2
  exact ⟨rfl, rfl⟩
/-- A graph under way: so many values. -/
structure GU (w1 : World) (gb : Nat) (ko : Option Addr) (kc : Nat) (L : List KeyP) (vs : List ByteArray) (v : Value) (X : World) : Prop where
  blk : X.heap[gb]? = some (.cells #[.slice ko L.length kc, v] 144 (0, 0))
  row : X.ownsRow (gb + 1) 9 1 v vs.length (vs.map Value.string)
  be : Below w1.heap.size w1 X
theorem GU.below {w1 : World} {gb : Nat} {ko : Option Addr} {kc : Nat} {L : List KeyP} {vs : List ByteArray} {v : Value} {X Y : World} (h : GU w1 gb ko kc L vs v X) (b : Below X.heap.size X Y) : GU w1 gb ko kc L vs v Y :=
  ⟨(b.block _ (lt_of_block h.blk)).trans h.blk, ownsRow_below h.row b, h.be.trans (b.mono h.be.size)⟩
theorem GU.more {w1 : World} {gb : Nat} {ko : Option Addr} {kc : Nat} {L : List KeyP} {vs : List ByteArray} {v v8 : Value} {X Y : World} (h : GU w1 gb ko kc L vs v X) (hg : gb = w1.heap.size) {s : ByteArray} (hb : Below (gb + 1) X Y) (hrow : Y.ownsRow (gb + 1) 9 1 v8 (vs ++ [s]).length ((vs ++ [s]).map Value.string)) : GU w1 gb ko kc L (vs ++ [s]) v8 (Y.setCell ⟨gb, 1, none⟩ v8) := by
  have f1 : Fr (fun k => gb + 1 ≤ k) X Y := Fr.ofBelow hb
  have f2 : Fr (· = gb) Y (Y.setCell ⟨gb, 1, none⟩ v8) := Fr.setCell (F := (· = gb)) (p := ⟨gb, 1, none⟩) (Fr.refl _ Y) (fun _ => rfl) v8
  have hblk : Y.heap[gb]? = _ := f1.keeps h.blk (by omega)
  refine ⟨?_, ownsRow_frame hrow f2 (fun g hg e => by omega), (h.be.trans (hb.mono (by omega))).setCell (by show w1.heap.size ≤ gb; omega) _⟩
  have := block_set hblk 1 v8
  simpa using this
set_option maxRecDepth 100000 in
set_option maxHeartbeats 8000000 in
theorem rpat_ok (n : Nat) (t : Int) (w : World) (h : RP F w rb hist known) (he : keyRE hist known n t = 0) :
    Calls Tryz.prog 22 #[.pointer (some ⟨rb, 0, none⟩), .int .i64 (n : Nat), .int .i64 t] w fun e w' => ∃ gb L, e = .returned (.tuple #[.pointer (some ⟨gb, 0, none⟩), .int .i64 0]) ∧ KeysIs hist n t L ∧ RG w' gb (L.map fun k => (k, saidH hist k n t)) ∧ Below w.heap.size w w' ∧ ∀ (F' : Nat → Prop) (Y : World), Fr F' w' Y → (∀ b, F' b → b < w.heap.size) → RG Y gb (L.map fun k => (k, saidH hist k n t)) := by
  have HC := Lib.hid (rpkeys_ok n t w h he)
  have hnl : n ≤ hist.length := by
    obtain ⟨q1, q2, q3⟩ := askR_0 (keyRE_0 he).1
    omega
  have HSD := Lib.hid fun (k : KeyP) (X : World) (hX : Below w.heap.size w X) => rpsaid_any k n t X (h.below hX) hnl
  have HKB : Hid (∀ l ∈ hist, l.all opB = true) := Lib.hid fun l hl => (okL_iff.1 (h.ok l hl)).2
  have hOK := Lib.hid h.ok
  have hLEN := h.len
  clear h he hnl
  go_enter Tryz.func22, Tryz.ntmps22
  go_upto_block 0 with (go_at_call 62; (with_reducible refine HC.out.mono ?_); rintro e w1 ⟨v, L, rfl, hKI, hown, hb⟩; have hll := Lib.hid (keys_len hOK.out hLEN hKI); obtain ⟨ko, kc, rfl, hin⟩ := ownsRow_keysIn hown; have HKN : Hid (∀ b, ko = some ⟨b, 0, none⟩ → w.heap.size ≤ b) := Lib.hid (fun b e => by subst e; exact own_base hown); have HKI := Lib.hid hKI; have HIN := Lib.hid hin; have HB := Lib.hid hb; clear hKI hin hb hown)
  obtain ⟨gb, hgb⟩ : ∃ gb, gb = w1.heap.size := ⟨_, rfl⟩
  obtain ⟨V, hV⟩ : ∃ V, V = w1.alloc (.cells #[.slice ko L.length kc, .slice none 0 0] 144) := ⟨_, rfl⟩
  have hG0 : GU w1 gb ko kc L [] (.slice none 0 0) V := ⟨by rw [hV, hgb]; exact block_alloc_new _ _, World.ownsRow_nil _ _ _ _, by rw [hV]; exact (Below.refl _ _).alloc (Nat.le_refl _) _⟩
  rw [← hgb, ← hV]
  have HG0 := Lib.hid hG0
  have HGB := Lib.hid hgb
  have hLl : L.length ≤ 4000 := Nat.le_trans hll.out (by decide)
  clear hG0 hV hgb hll
  go_wp2_with fail
  go_loopw [28] (fun vi X => ∃ (i : Nat) (v : Value), i ≤ L.length ∧ vi = .int .i64 i ∧ GU w1 gb ko kc L ((L.take i).map fun k => saidH hist k n t) v X) (fun vi _ => L.length - (intOf vi).toNat)
  case atStart => exact ⟨0, _, Nat.zero_le _, rfl, HG0.out⟩
  case round =>
    obtain ⟨i, v, hi, rfl, hGU⟩ := hrel
    by_cases hlt : i < L.length
    · obtain ⟨eb, ⟨kk, ka, kw, kb⟩, rfl, hk, hebl, d0, d1, d2, d3⟩ := keysIn_get (HIN.out.below hGU.be) hlt
      simp only [] at d0 d1 d2 d3
      have hst : (L.take (i + 1)).map (fun k => saidH hist k n t) = (L.take i).map (fun k => saidH hist k n t) ++ [saidH hist ⟨kk, ka, kw, kb⟩ n t] := by rw [List.take_add_one, hk.out]; simp
      obtain ⟨W4, hW4⟩ : ∃ W4, W4 = wr.alloc (.cells #[.int .i64 kk, .int .i64 ka, .string kw, .int .i64 kb] 44) := ⟨_, rfl⟩
      have hB4 : Below wr.heap.size wr W4 := by rw [hW4]; exact (Below.refl _ _).alloc (Nat.le_refl _) _
      obtain ⟨kx, hkx⟩ : ∃ kx, kx = wr.heap.size := ⟨_, rfl⟩
      have hkb : W4.heap[kx]? = some (.cells #[.int .i64 kk, .int .i64 ka, .string kw, .int .i64 kb] 44 (0, 0)) := by rw [hW4, hkx]; exact block_alloc_new _ _
      have k0 : W4.cell? ⟨kx, 0, none⟩ = some (.int .i64 kk) := block_cell hkb 0
      have k1 : W4.cell? ⟨kx, 1, none⟩ = some (.int .i64 ka) := block_cell hkb 1
      have k2 : W4.cell? ⟨kx, 2, none⟩ = some (.string kw) := block_cell hkb 2
      have k3 : W4.cell? ⟨kx, 3, none⟩ = some (.int .i64 kb) := block_cell hkb 3
      have hkl : kx < W4.heap.size := lt_of_block hkb
      have hG4 := hGU.below hB4
      have hgl : gb < W4.heap.size := lt_of_block hG4.blk
      have hgn : gb < wr.heap.size := lt_of_block hGU.blk
      have g1 : W4.cell? ⟨gb, 1, none⟩ = some v := block_cell hG4.blk 1
      obtain ⟨vs, hvs⟩ : ∃ vs, vs = (L.take i).map (fun k => saidH hist k n t) := ⟨_, rfl⟩
      have hvl : vs.length ≤ 4000 := by rw [hvs, List.length_map, List.length_take]; omega
      rw [← hvs] at hG4 hst
      obtain ⟨sx, hsx⟩ : ∃ sx, sx = saidH hist ⟨kk, ka, kw, kb⟩ n t := ⟨_, rfl⟩
      have q0 := Lib.hid ((Below.refl W4.heap.size W4).drew)
      have CS := HSD.out ⟨kk, ka, kw, kb⟩ W4.drew (HB.out.trans ((hG4.be.trans (q0.out.mono hG4.be.size)).mono HB.out.size))
      rw [← hsx] at CS hst
      obtain ⟨va, vn, vc, hv⟩ := ownsRow_shapeK hG4.row
      subst hv
      have CS := Lib.hid CS
      have HG4 := Lib.hid hG4
      have HST := Lib.hid hst
      have HW4 := Lib.hid hW4
      have HKX := Lib.hid hkx
      have i0 : (0 : Int) ≤ (i : Int) := by omega
      have i1 : (i : Int) < (L.length : Int) := by omega
      have hg4 : gb + 1 ≤ W4.heap.size := by omega
      clear hG4 hGU hst hW4 hkx hB4 hkb hk hvs hsx
      go_wp2_with (rw [← HW4.out, ← HKX.out])
      go_region_law
        ((first
          | (refine stepText rfl _ _ rfl (gb + 1) _ vs rfl (HROW6.out.alloc _) W6.heap.size sx rfl (by simp) (by omega) (by simp; omega) W4 (HB6.out.alloc (by omega) _) ?_; intro v8 w8 hown8 hB8 hs8 hv8; obtain ⟨g8, c8, rfl⟩ := hv8; have p1 : w8.cell? ⟨gb, 1, none⟩ = some (.slice va vn vc) := block_cell ((hB8.block gb (Nat.lt_succ_self gb)).trans HG4.out.blk) 1; have p2 : w8.frozen? ⟨gb, 1, none⟩ = false := block_free ((hB8.block gb (Nat.lt_succ_self gb)).trans HG4.out.blk) 1; have hgl8 : gb < w8.heap.size := World.block_lt_of_cell? _ _ p1; have HO8 := Lib.hid hown8; have HB8 := Lib.hid hB8; clear hown8 hB8)
          | (rw [if_pos (by simp [Region.wanted])]; unfold Oper.wp; go_simp; go_at_call 63; (with_reducible refine CS.out.mono ?_); rintro e W6 ⟨rfl, b6⟩; have HB6 := Lib.hid ((q0.out.mono hg4).trans (b6.mono (by have := q0.out.size; omega))); have HROW6 := Lib.hid (ownsRow_below (ownsRow_below HG4.out.row q0.out) b6); have l1 : W6.cell? ⟨gb, 1, none⟩ = some (.slice va vn vc) := below_cell b6 (by have := q0.out.size; omega) (below_cell q0.out hgl g1); have hs6 : gb + 1 ≤ W6.heap.size := (by have h1 := q0.out.size; have h2 := b6.size; omega); have hgl6 : gb < W6.heap.size := (by omega); clear b6)))
      all_goals
        clear p1 p2 l1 g1
        go_wp2_with fail
        refine ⟨⟨i + 1, .slice (some ⟨g8, 0, none⟩) (vs.length + 1) c8, by omega, by go_num, ?_⟩, by simp [intOf]; omega⟩
        rw [HST.out]
        exact HG4.out.more HGB.out HB8.out HO8.out
    · obtain rfl : i = L.length := by omega
      rw [List.take_of_length_le (Nat.le_refl _)] at hGU
      obtain ⟨vo, vc, rfl, hat⟩ := ownsRow_textsIn hGU.row
      have HVN : Hid (∀ b, vo = some ⟨b, 0, none⟩ → gb + 1 ≤ b) := Lib.hid (fun b e => by subst e; exact own_base hGU.row)
      have HGU := Lib.hid hGU
      have HAT := Lib.hid hat
      clear hGU hat
      go_wp2_with fail
      go_ret2
      have h64 : ∀ p ∈ L.map (fun k => (k, saidH hist k n t)), i64 p.1.a ∧ i64 p.1.b := fun p hp => by
        obtain ⟨k, hk, rfl⟩ := List.mem_map.1 hp
        exact key_i64 (said_key HKB.out ((HKI.out.2 k).1 hk))
      have key : ∀ Y : World, Y.heap[gb]? = wr.heap[gb]? → KeysIn Y ko L → TextsIn Y vo (L.map fun k => saidH hist k n t) → RG Y gb (L.map fun k => (k, saidH hist k n t)) := fun Y h1 h2 h3 => by
        refine ⟨⟨ko, kc, vo, vc, ?_, ?_, ?_⟩, by rw [List.length_map]; exact hLl, h64⟩
        · have := HGU.out.blk
          rw [← h1, List.length_map] at this
          rw [List.length_map]
          exact this
        · rw [List.map_map]
          have e : (Prod.fst ∘ fun k => (k, saidH hist k n t)) = (id : KeyP → KeyP) := rfl
          rw [e, List.map_id]
          exact h2
        · rw [List.map_map]
          exact h3
      have hkw := HIN.out.below HGU.out.be
      refine ⟨gb, L, rfl, HKI.out, key wr rfl hkw HAT.out, HB.out.trans (HGU.out.be.mono HB.out.size), fun F' Y hf hF => key Y (hf.block gb (lt_of_block HGU.out.blk) (fun h => ?_)) (fun j p hp => ?_) (fun j p hp => ?_)⟩
      · have h1 := hF gb h
        have h2 := HB.out.size
        have h3 := HGB.out
        omega
      · obtain ⟨b, e, c0, c1, c2, c3⟩ := hkw j p hp
        have eb := hf.block b (World.block_lt_of_cell? wr _ c0) (fun h => by have h1 := hF b h; have h2 := HKN.out b e; omega)
        exact ⟨b, e, (World.cell?_of_block (a := ⟨b, _, none⟩) eb).trans c0, (World.cell?_of_block (a := ⟨b, _, none⟩) eb).trans c1, (World.cell?_of_block (a := ⟨b, _, none⟩) eb).trans c2, (World.cell?_of_block (a := ⟨b, _, none⟩) eb).trans c3⟩
      · obtain ⟨b, e, c0⟩ := HAT.out j p hp
        have eb := hf.block b (World.block_lt_of_cell? wr _ c0) (fun h => by have h1 := hF b h; have h2 := HVN.out b e; have h3 := HB.out.size; have h4 := HGB.out; omega)
        exact ⟨b, e, (World.cell?_of_block (a := ⟨b, _, none⟩) eb).trans c0⟩
end
end Go.Proofs.YtflhpmgjehjjkaaGreatDoor

namespace Go.Proofs.YtflhpmgjehjjkaaGreatDoor
open Go.RowKit Go.Deep Go.Shelf Go.Sort Go.Maps

/-- The document's graph of these keys. -/
def graphV (hist : List (List OpP)) (a : Nat) (t : Int) (L : List KeyP) : List (KeyP × ByteArray) := L.map fun k => (k, saidH hist k a t)
section
variable {hist : List (List OpP)} {a : Nat} {t : Int} {L : List KeyP}
theorem find_key (k : KeyP) : ((graphV hist a t L).find? fun p => decide (p.1 = k)) = if k ∈ L then some (k, saidH hist k a t) else none := by
  unfold graphV
  induction L with
  | nil => rfl
  | cons x L ih =>
    rw [List.map_cons, List.find?_cons]
    by_cases h : x = k
    · subst h; simp
    · have h2 : decide ((x, saidH hist x a t).1 = k) = false := decide_eq_false h
      rw [h2, ih]
      have : k ∈ x :: L ↔ k ∈ L := ⟨fun e => (List.mem_cons.1 e).resolve_left fun e => h e.symm, fun e => List.mem_cons_of_mem _ e⟩
      by_cases hm : k ∈ L
      · rw [if_pos hm, if_pos (this.2 hm)]
      · rw [if_neg hm, if_neg (fun e => hm (this.1 e))]
theorem ofP_graph (k : KeyP) : ofP (graphV hist a t L) k = if k ∈ L then saidH hist k a t else ⟨#[]⟩ := by
  unfold ofP
  rw [find_key]
  split <;> rfl
theorem node_mem (hB : ∀ k ∈ L, keyB k = true) (n : Int) : n ∈ nodesP L ↔ (⟨1, n, ⟨#[]⟩, 0⟩ : KeyP) ∈ L := by
  unfold nodesP
  rw [List.mem_map]
  constructor
  · rintro ⟨k, hk, rfl⟩
    obtain ⟨h1, h2⟩ := List.mem_filter.1 hk
    rw [← key_node (hB k h1) (by simpa using h2)]; exact h1
  · intro h
    exact ⟨_, List.mem_filter.2 ⟨h, by simp⟩, rfl⟩
theorem isN_graph (hK : KeysIs hist a t L) (hB : ∀ k ∈ L, keyB k = true) (n : Int) : isN (graphV hist a t L) n = decide (n ∈ nodesP L) := by
  unfold isN
  rw [ofP_graph, Bool.eq_iff_iff]
  simp only [decide_eq_true_eq]
  rw [node_mem hB]
  by_cases h : (⟨1, n, ⟨#[]⟩, 0⟩ : KeyP) ∈ L
  · rw [if_pos h]; exact ⟨fun _ => h, fun _ => (hK.2 _).1 h⟩
  · rw [if_neg h]; exact ⟨fun e => absurd rfl e, fun e => absurd e h⟩
theorem isN_look (hK : KeysIs hist a t L) (hB : ∀ k ∈ L, keyB k = true) (n : Int) : isN (graphV hist a t L) n = ((nodesV hist a t L).lookup n).isSome := by
  rw [isN_graph hK hB, Bool.eq_iff_iff, decide_eq_true_eq, lookup_some, nodesV_fst]
theorem nodesK_graph (kind : ByteArray) : nodesK (graphV hist a t L) kind = nodesN (nodesV hist a t L) kind := by
  unfold nodesK nodesN graphV nodesV
  induction L with
  | nil => rfl
  | cons k L ih =>
    rw [List.map_cons, List.filter_cons, List.filter_cons]
    by_cases h1 : k.kind = 1
    · simp only [h1, decide_true, Bool.true_and, if_true, List.map_cons, List.filter_cons]
      by_cases h2 : (decide (kind.size = 0) || decide (saidH hist k a t = kind)) = true
      · rw [if_pos h2, if_pos h2, List.map_cons, List.map_cons, ih]
      · rw [if_neg h2, if_neg h2, ih]
    · simp only [h1, decide_false, Bool.false_and, if_false, Bool.false_eq_true]
      exact ih
theorem edges_graph (hK : KeysIs hist a t L) (hB : ∀ k ∈ L, keyB k = true) : edgesGP (graphV hist a t L) (graphV hist a t L) = edgesP L := by
  unfold edgesGP
  have e : ∀ M : List KeyP, ((graphV hist a t M).filter (edgeOk (graphV hist a t L))).map (·.1) = M.filter fun k => decide (k.kind = 2) && (decide (k.a ∈ nodesP L) && decide (k.b ∈ nodesP L)) := fun M => by
    induction M with
    | nil => rfl
    | cons k M ih =>
      have hg : graphV hist a t (k :: M) = (k, saidH hist k a t) :: graphV hist a t M := rfl
      have hk : edgeOk (graphV hist a t L) (k, saidH hist k a t) = (decide (k.kind = 2) && (decide (k.a ∈ nodesP L) && decide (k.b ∈ nodesP L))) := by
        unfold edgeOk
        rw [isN_graph hK hB, isN_graph hK hB]
      rw [hg, List.filter_cons, List.filter_cons, hk]
      split
      · rw [List.map_cons, ih]
      · exact ih
  exact e L
theorem prop_graph (hK : KeysIs hist a t L) (hB : ∀ k ∈ L, keyB k = true) (n : Int) (word : ByteArray) : propP (graphV hist a t L) n word = propG (nodesV hist a t L) (propsV hist a t L) n word := by
  unfold propP propG
  rw [isN_look hK hB]
  have hl : lookK (propsV hist a t L) ⟨3, n, word, 0⟩ = if (⟨3, n, word, 0⟩ : KeyP) ∈ L then some (saidH hist ⟨3, n, word, 0⟩ a t) else none := by
    have e : propsV hist a t L = graphV hist a t (L.filter fun k => decide (k.kind = 3)) := rfl
    unfold lookK
    rw [e, find_key]
    have hm : (⟨3, n, word, 0⟩ : KeyP) ∈ L.filter (fun k => decide (k.kind = 3)) ↔ (⟨3, n, word, 0⟩ : KeyP) ∈ L := by
      rw [List.mem_filter]; exact ⟨fun h => h.1, fun h => ⟨h, by simp⟩⟩
    by_cases h : (⟨3, n, word, 0⟩ : KeyP) ∈ L
    · rw [if_pos (hm.2 h), if_pos h]; rfl
    · rw [if_neg (fun e => h (hm.1 e)), if_neg h]; rfl
  rw [hl, ofP_graph]
  by_cases h : (⟨3, n, word, 0⟩ : KeyP) ∈ L
  · rw [if_pos h, if_pos h, if_neg ((hK.2 _).1 h)]
  · rw [if_neg h, if_neg h]; rfl
theorem edge_ends (hB : ∀ k ∈ L, keyB k = true) : ∀ k ∈ edgesP L, 0 ≤ k.b ∧ k.b ∈ nodesP L ∧ k.a ∈ nodesP L := fun k hk => by
  unfold edgesP at hk
  obtain ⟨h1, h2⟩ := List.mem_filter.1 hk
  simp only [Bool.and_eq_true, decide_eq_true_eq] at h2
  refine ⟨?_, h2.2.2, h2.2.1⟩
  have h3 := hB _ ((node_mem hB k.b).1 h2.2.2)
  unfold keyB nodeB at h3
  simp at h3
  omega
theorem node_i64' (hB : ∀ k ∈ L, keyB k = true) : ∀ x ∈ nodesP L, i64 x := fun x hx => (key_i64 (hB _ ((node_mem hB x).1 hx))).1
end
end Go.Proofs.YtflhpmgjehjjkaaGreatDoor

namespace Go.Proofs.YtflhpmgjehjjkaaGreatDoor
open Go.RowKit Go.Deep Go.Shelf Go.Sort Go.Maps

set_option maxRecDepth 100000 in
set_option maxHeartbeats 2000000 in
theorem at_bad {hist : List (List OpP)} {known : Int} {w : World} {pb po : Nat} {R : Rest} {s : Pst} {g : Gh} (h : PastIs w pb po R hist s g) (hok : ∀ l ∈ hist, okL l = true) (hk : s.gone = known) (a t : Int) (he : keyRE hist known a t ≠ 0) :
    Calls Tryz.prog 10 #[.pointer (some ⟨pb, po, none⟩), .int .i64 a, .int .i64 t] w fun e w' => e = .returned (.tuple #[.pointer none, errV (keyRE hist known a t)]) ∧ Below w.heap.size w w' := by
  have HC := Lib.hid (pkeys_same h hok hk a t)
  have hE : errN (keyRE hist known a t) = errV (keyRE hist known a t) := errN_of he
  rw [hE] at HC
  clear h hok hk he hE
  generalize keyRE hist known a t = n at *
  unfold errV at HC ⊢
  go_enter Tryz.func10, Tryz.ntmps10
  go_wp2_with (go_at_call 50; (with_reducible refine HC.out.mono ?_); rintro e w1 ⟨ao, cap, L, rfl, _, _, b1⟩; have HB := Lib.hid b1; clear b1)
  go_ret2
  exact ⟨rfl, HB.out⟩
/-- A graph stays where other blocks turn. -/
theorem GAt.frame {F : Nat → Prop} {w w' : World} {gb nb : Nat} {eo : Option Addr} {N : List (Int × ByteArray)} {E : List KeyP} (h : GAt w gb nb eo N E) (hf : Fr F w w') (h1 : ¬ F gb) (h2 : ¬ F nb) (h3 : ∀ b, eo = some ⟨b, 0, none⟩ → ¬ F b) : GAt w' gb nb eo N E := by
  obtain ⟨ec, pb, hb⟩ := h.blk
  obtain ⟨n, hN⟩ := h.nod
  exact ⟨⟨ec, pb, hf.keeps hb h1⟩, ⟨n, hN.frame hf h2⟩, h.edg.frame hf h3, h.elen, h.eok, h.enil, h.eblk, h.nnd, h.nlen⟩
theorem GP.frame {F : Nat → Prop} {w w' : World} {gb : Nat} {P : List (KeyP × ByteArray)} (h : GP w gb P) (hf : Fr F w w') (hn : ∀ b, b = gb ∨ (∃ v0 v1, w.heap[gb]? = some (.cells #[v0, v1, .map (some b)] 122 (0, 0))) → ¬ F b) : GP w' gb P := by
  obtain ⟨v0, v1, pb, D, n, h1, h2, h3⟩ := h.own
  exact ⟨⟨v0, v1, pb, D, n, hf.keeps h1 (hn _ (.inl rfl)), owns_frame h2 hf (hn _ (.inr ⟨v0, v1, h1⟩)), h3⟩, h.key⟩
/-- What turns is older than the graph: it stays. -/
theorem graph_still {F : Nat → Prop} {w w' Y : World} {gb nb : Nat} {eo : Option Addr} {N : List (Int × ByteArray)} {E : List KeyP} {P : List (KeyP × ByteArray)} (h : GAt w' gb nb eo N E) (g : GP w' gb P) (n : NewG w gb nb eo w') (hf : Fr F w' Y) (hF : ∀ b, F b → b < w.heap.size) : GAt Y gb nb eo N E ∧ GP Y gb P := by
  refine ⟨h.frame hf (fun e => ?_) (fun e => ?_) (fun b e h' => ?_), g.frame hf fun b hb h' => ?_⟩
  · have := hF _ e; have := n.g; omega
  · have := hF _ e; have := n.n; omega
  · have := hF _ h'; have := n.e b e; omega
  · have h1 := hF _ h'
    rcases hb with rfl | ⟨v0, v1, hb⟩
    · have := n.g; omega
    · have := n.p b v0 v1 hb; omega
end Go.Proofs.YtflhpmgjehjjkaaGreatDoor

namespace Go.Proofs.YtflhpmgjehjjkaaGreatDoor
open Go.RowKit Go.Deep Go.Shelf Go.Sort Go.Maps

set_option maxRecDepth 100000 in
set_option maxHeartbeats 1000000 in
theorem sameInts_any (l : List Int) (a1 a2 : Option Addr) (c1 c2 : Nat) (w : World) (h1 : IntsIn w a1 l) (h2 : IntsIn w a2 l) (hl : l.length ≤ maxLen) :
    Calls Tryz.prog 28 #[.slice a1 l.length c1, .slice a2 l.length c2] w fun e w' => e = .returned (.bool true) ∧ Below w.heap.size w w' := by
  unfold maxLen at hl
  have H1 := Lib.hid h1
  have H2 := Lib.hid h2
  have hne : ((l.length : Int) != (l.length : Int)) = false := by simp
  clear h1 h2
  go_enter Tryz.func28, Tryz.ntmps28
  go_wp2_with fail
  go_loopw [5] (fun i wr => ∃ k : Nat, k ≤ l.length ∧ i = .int .i64 k ∧ Below w.heap.size w wr) (fun i _ => l.length - (intOf i).toNat)
  case atStart => exact ⟨0, by omega, rfl, Below.refl _ _⟩
  case round =>
    obtain ⟨k, hk, rfl, hB⟩ := hrel
    by_cases hlt : k < l.length
    · obtain ⟨x, hx⟩ : ∃ x, l[k]? = some x := ⟨_, List.getElem?_eq_getElem hlt⟩
      obtain ⟨b, rfl, d1⟩ := H1.out _ _ hx
      obtain ⟨b2, rfl, d2⟩ := H2.out _ _ hx
      have d1 := below_cell hB (World.block_lt_of_cell? w _ d1) d1
      have d2 := below_cell hB (World.block_lt_of_cell? w _ d2) d2
      have hxx : (x != x) = false := by simp
      have i0 : (0 : Int) ≤ (k : Int) := by omega
      have i1 : (k : Int) < (l.length : Int) := by omega
      have q1 := fun X : InC (Bel wr) => X.cell d1
      have q2 := fun X : InC (Bel wr) => X.cell d2
      have HB := Lib.hid hB
      clear hx hB d1 d2
      go_wp2_with fail
      refine wp_region_in (S := Bel wr) (by kernel_rfl) (by kernel_rfl) (bel_drew (Below.refl _ wr)) (fun hne => ?_)
      repeat (go_big_quiet_step (fail))
      refine wpQuiet_nil ?_
      rintro _ ⟨X, rfl⟩
      go_wp2_with fail
      exact ⟨⟨k + 1, by omega, by go_num, HB.out.trans (X.ok.mono HB.out.size)⟩, by simp [intOf]; omega⟩
    · have HB := Lib.hid hB
      clear hB
      go_wp2_with fail
      go_ret
      exact ⟨rfl, HB.out⟩
section
variable {hist : List (List OpP)} {a : Nat} {t : Int} {L : List KeyP}
/-- The program's Hops, in the document's words. -/
theorem ghops_doc (hK : KeysIs hist a t L) (hB : ∀ k ∈ L, keyB k = true) (x h : Int) (word : ByteArray) (w : World) {gb nb : Nat} {eo : Option Addr} (hG : GAt w gb nb eo (nodesV hist a t L) (edgesP L)) (hx : i64 x) :
    Calls Tryz.prog 16 #[.pointer (some ⟨gb, 0, none⟩), .int .i64 x, .string word, .int .i64 h] w fun e w' => ∃ ao cap, e = .returned (.tuple #[.slice ao (hopsR (graphV hist a t L) x word h).length cap, errN (hopE (graphV hist a t L) x h)]) ∧ IntsIn w' ao (hopsR (graphV hist a t L) x word h) ∧ Below w.heap.size w w' ∧ (hopsR (graphV hist a t L) x word h).length ≤ maxLen := by
  have hI := isN_look hK hB x
  have hE := edges_graph hK hB
  cases hn : isN (graphV hist a t L) x with
  | false =>
    rw [hn] at hI
    have he : hopE (graphV hist a t L) x h = 7 := by unfold hopE; rw [hn]; rfl
    have hr : hopsR (graphV hist a t L) x word h = [] := by unfold hopsR; rw [he]; rfl
    rw [he, hr]
    refine (hops_bad x h word w hG hx (Option.not_isSome_iff_eq_none.1 (by rw [← hI]; decide))).mono ?_
    rintro e w' ⟨rfl, rfl⟩
    exact ⟨none, 0, by rw [errN_of (by decide)]; rfl, fun j p hp => (by cases hp), Below.refl _ _, by decide⟩
  | true =>
    rw [hn] at hI
    by_cases hh : 0 ≤ h ∧ h ≤ 1048576
    · obtain ⟨n, rfl⟩ : ∃ n : Nat, h = n := ⟨h.toNat, by omega⟩
      have he : hopE (graphV hist a t L) x n = 0 := by unfold hopE; rw [hn, if_pos rfl, if_pos hh]
      have hr : hopsR (graphV hist a t L) x word n = sortI (hopP (edgesP L) word x n) := by unfold hopsR; rw [if_pos he, hE, Int.toNat_natCast]
      rw [he, hr]
      refine (hops_ok x n word w hG hx hI.symm (by omega)).mono ?_
      rintro e w' ⟨v, rfl, hown, hb⟩
      have hle := ownsRow_len hown
      obtain ⟨ao, cap, rfl, hin⟩ := ownsRow_intsIn hown
      exact ⟨ao, cap, rfl, hin, hb, by first | exact hle | (rw [sortI_length]; exact hle)⟩
    · have he : hopE (graphV hist a t L) x h = 2 := by unfold hopE; rw [hn, if_pos rfl, if_neg hh]
      have hr : hopsR (graphV hist a t L) x word h = [] := by unfold hopsR; rw [he]; rfl
      rw [he, hr]
      refine (hops_rng x h word w hG hx hI.symm hh).mono ?_
      rintro e w' ⟨rfl, rfl⟩
      exact ⟨none, 0, by rw [errN_of (by decide)]; rfl, fun j p hp => (by cases hp), Below.refl _ _, by decide⟩
end
end Go.Proofs.YtflhpmgjehjjkaaGreatDoor

namespace Go.Proofs.YtflhpmgjehjjkaaGreatDoor
open Go.RowKit Go.Deep Go.Shelf Go.Sort Go.Maps

theorem least_in {p : Int → Prop} : ∀ {l : List Int}, (∃ z ∈ l, p z) → ∃ z ∈ l, p z ∧ ∀ u ∈ l, p u → z ≤ u
  | [], h => by obtain ⟨z, hz, _⟩ := h; cases hz
  | a :: l, h => by
    by_cases hl : ∃ z ∈ l, p z
    · obtain ⟨z, hz, hp, hm⟩ := least_in hl
      by_cases ha : p a ∧ a ≤ z
      · refine ⟨a, by simp, ha.1, fun u hu hpu => ?_⟩
        rcases List.mem_cons.1 hu with e | hu
        · rw [e]; exact Int.le_refl _
        · have := hm u hu hpu; omega
      · refine ⟨z, List.mem_cons_of_mem _ hz, hp, fun u hu hpu => ?_⟩
        rcases List.mem_cons.1 hu with e | hu
        · subst e
          have : ¬ u ≤ z := fun h => ha ⟨hpu, h⟩
          omega
        · exact hm u hu hpu
    · obtain ⟨z, hz, hp⟩ := h
      rcases List.mem_cons.1 hz with e | hz
      · subst e
        refine ⟨z, by simp, hp, fun u hu hpu => ?_⟩
        rcases List.mem_cons.1 hu with e | hu
        · rw [e]; exact Int.le_refl _
        · exact absurd ⟨u, hu, hpu⟩ hl
      · exact absurd ⟨z, hz, hp⟩ hl
theorem rw_some {E : List KeyP} {word : ByteArray} {nodes : List Int} {y : Int} (hE : ∀ k ∈ E, k.b ∈ nodes) : ∀ (d : Nat) (x : Int), Mn E word d x y → ∃ W, RW E word nodes y d x W
  | 0, x, h => ⟨[x], h.1, rfl⟩
  | d + 1, x, h => by
    obtain ⟨k, hk, k1, k2, k3⟩ := h.1
    have hkd : Mn E word d k.b y := ⟨k3, fun m hm g => h.2 (m + 1) (by omega) ⟨k, hk, k1, k2, g⟩⟩
    have hk1 : Mn E word 1 x k.b := ⟨⟨k, hk, k1, k2, rfl⟩, fun m hm g => by
      obtain rfl : m = 0 := by omega
      have e : x = k.b := g
      exact h.2 d (by omega) (by rw [e]; exact k3)⟩
    obtain ⟨z, hz, ⟨h1, h2⟩, hm⟩ := least_in (p := fun z => Mn E word 1 x z ∧ Mn E word d z y) ⟨k.b, hE k hk, hk1, hkd⟩
    obtain ⟨W, hW⟩ := rw_some hE d z h2
    exact ⟨x :: W, z, W, rfl, hz, h1, h2, fun u hu g1 g2 => hm u hu ⟨g1, g2⟩, hW⟩
theorem rw_one {E : List KeyP} {word : ByteArray} {nodes : List Int} {y : Int} : ∀ {d : Nat} {x : Int} {W W' : List Int}, RW E word nodes y d x W → RW E word nodes y d x W' → W = W'
  | 0, x, W, W', h, g => by rw [h.2, g.2]
  | d + 1, x, W, W', ⟨z, V, e, hz, h1, h2, hm, hr⟩, ⟨z', V', e', hz', h1', h2', hm', hr'⟩ => by
    have a := hm z' hz' h1' h2'
    have b := hm' z hz h1 h2
    obtain rfl : z = z' := by omega
    rw [e, e', rw_one hr hr']
section
variable {hist : List (List OpP)} {a : Nat} {t : Int} {L : List KeyP}
theorem way_doc (hK : KeysIs hist a t L) (hB : ∀ k ∈ L, keyB k = true) (x y : Int) (word : ByteArray) (hx : i64 x) (hy : i64 y) : ∃ (n : Int) (W : List Int),
    (∀ (w : World) (gb nb : Nat) (eo : Option Addr), GAt w gb nb eo (nodesV hist a t L) (edgesP L) → Calls Tryz.prog 17 #[.pointer (some ⟨gb, 0, none⟩), .int .i64 x, .int .i64 y, .string word] w fun e w' => ∃ ao cap, e = .returned (.tuple #[.slice ao W.length cap, errN n]) ∧ IntsIn w' ao W ∧ W.length ≤ maxLen ∧ Below w.heap.size w w') ∧
    (∀ (w : World) (rb : Nat), RG w rb (graphV hist a t L) → Calls Tryz.prog 27 #[.pointer (some ⟨rb, 0, none⟩), .int .i64 x, .int .i64 y, .string word] w fun e w' => ∃ ao cap, e = .returned (.tuple #[.slice ao W.length cap, .int .i64 n]) ∧ IntsIn w' ao W ∧ Below w.heap.size w w') := by
  have hIx := isN_look hK hB x
  have hIy := isN_look hK hB y
  have hE := edges_graph hK hB
  have hNS : ∀ u, u ∈ nodesS (graphV hist a t L) ↔ u ∈ nodesP L := fun u => by
    unfold nodesS
    rw [← mem_sortI, nodesK_graph]
    have : nodesN (nodesV hist a t L) ⟨#[]⟩ = nodesP L := by
      unfold nodesN
      rw [List.filter_eq_self.2 (fun p _ => by rfl), nodesV_fst]
    rw [this]
  have hbad : isN (graphV hist a t L) x = false ∨ isN (graphV hist a t L) y = false → ∃ (n : Int) (W : List Int),
    (∀ (w : World) (gb nb : Nat) (eo : Option Addr), GAt w gb nb eo (nodesV hist a t L) (edgesP L) → Calls Tryz.prog 17 #[.pointer (some ⟨gb, 0, none⟩), .int .i64 x, .int .i64 y, .string word] w fun e w' => ∃ ao cap, e = .returned (.tuple #[.slice ao W.length cap, errN n]) ∧ IntsIn w' ao W ∧ W.length ≤ maxLen ∧ Below w.heap.size w w') ∧
    (∀ (w : World) (rb : Nat), RG w rb (graphV hist a t L) → Calls Tryz.prog 27 #[.pointer (some ⟨rb, 0, none⟩), .int .i64 x, .int .i64 y, .string word] w fun e w' => ∃ ao cap, e = .returned (.tuple #[.slice ao W.length cap, .int .i64 n]) ∧ IntsIn w' ao W ∧ Below w.heap.size w w') := fun hb => by
    refine ⟨7, [], fun w gb nb eo hG => ?_, fun w rb hG => ?_⟩
    · cases hxx : isN (graphV hist a t L) x with
      | false =>
        rw [hxx] at hIx
        refine (way_miss1 x y word w hG hx (Option.not_isSome_iff_eq_none.1 (by rw [← hIx]; decide))).mono ?_
        rintro e w' ⟨rfl, hb'⟩
        exact ⟨none, 0, by rw [errN_of (by decide)]; rfl, fun j p hp => (by cases hp), by decide, by rw [hb']; exact Below.refl _ _⟩
      | true =>
        rw [hxx] at hIx
        have hyy : isN (graphV hist a t L) y = false := hb.resolve_left (by rw [hxx]; decide)
        rw [hyy] at hIy
        refine (way_miss2 x y word w hG hx hy hIx.symm (Option.not_isSome_iff_eq_none.1 (by rw [← hIy]; decide))).mono ?_
        rintro e w' ⟨rfl, hb'⟩
        exact ⟨none, 0, by rw [errN_of (by decide)]; rfl, fun j p hp => (by cases hp), by decide, by rw [hb']; exact Below.refl _ _⟩
    · refine (rgway_bad x y word w hG hb).mono ?_
      rintro e w' ⟨rfl, hb'⟩
      exact ⟨none, 0, rfl, fun j p hp => (by cases hp), hb'⟩
  cases hxx : isN (graphV hist a t L) x with
  | false => exact hbad (.inl hxx)
  | true =>
    cases hyy : isN (graphV hist a t L) y with
    | false => exact hbad (.inr hyy)
    | true =>
      clear hbad
      rw [hxx] at hIx
      rw [hyy] at hIy
      have hE0 : ∀ k ∈ edgesP L, 0 ≤ k.b := fun k hk => (edge_ends hB k hk).1
      by_cases hp : ∃ d, Pth (edgesP L) word d x y
      · obtain ⟨d0, hd0⟩ := hp
        obtain ⟨d, _, hd⟩ := hd0.mn
        obtain ⟨W, hW⟩ := rw_some (nodes := nodesS (graphV hist a t L)) (fun k hk => (hNS _).2 (edge_ends hB k hk).2.1) d x hd
        refine ⟨0, W, fun w gb nb eo hG => ?_, fun w rb hG => ?_⟩
        · refine (way_ok x y word w hG hE0 hx hy hIx.symm hIy.symm).mono ?_
          rintro e w' ⟨n, hn, hb, hm⟩
          have hF := farS_all hn
          unfold wayP at hm
          rw [(hF.is x d).2 ⟨d, rfl, hd⟩] at hm
          obtain ⟨v, rfl, hown⟩ := hm
          have hw := rw_one hW (way_rw hF (fun k hk => ⟨hE0 k hk, (hNS _).2 (edge_ends hB k hk).2.1⟩) d x hd)
          rw [Int.toNat_natCast, ← hw] at hown
          have hle := ownsRow_len hown
          obtain ⟨ao, cap, rfl, hin⟩ := ownsRow_intsIn hown
          exact ⟨ao, cap, rfl, hin, hle, hb⟩
        · exact rgway_ok x y word w hG hx hy hxx hyy (fun u hu => node_i64' hB u ((hNS u).1 hu)) d (by rw [hE]; exact hd) W (by rw [hE]; exact hW)
      · refine ⟨8, [], fun w gb nb eo hG => ?_, fun w rb hG => ?_⟩
        · refine (way_ok x y word w hG hE0 hx hy hIx.symm hIy.symm).mono ?_
          rintro e w' ⟨n, hn, hb, hm⟩
          have hF := farS_all hn
          have hl : (farS (edgesP L) word y n).1.lookup x = none := by
            cases hc : (farS (edgesP L) word y n).1.lookup x with
            | none => rfl
            | some v =>
              obtain ⟨m, _, h⟩ := (hF.is x v).1 hc
              exact absurd ⟨m, h.1⟩ hp
          unfold wayP at hm
          rw [hl] at hm
          exact ⟨none, 0, by rw [errN_of (by decide)]; exact hm, fun j p hp => (by cases hp), by decide, hb⟩
        · refine (rgway_none x y word w hG hx hy hxx hyy (by rw [hE]; exact fun d h => hp ⟨d, h⟩)).mono ?_
          rintro e w' ⟨rfl, hb⟩
          exact ⟨none, 0, rfl, fun j p hp => (by cases hp), hb⟩
end
end Go.Proofs.YtflhpmgjehjjkaaGreatDoor

namespace Go.Proofs.YtflhpmgjehjjkaaGreatDoor
open Go.RowKit Go.Deep Go.Shelf Go.Sort Go.Maps

/-- Transactions that come in. -/
def txsL (w : World) (ao : Option Addr) (l : List (List OpP)) : Prop := ∀ i t, l[i]? = some t → ∃ b f, ao = some ⟨b, f, none⟩ ∧ ∃ oo oc, w.cell? ⟨b, f + i, none⟩ = some (.slice oo t.length oc) ∧ opsAt w oo t ∧ t.length ≤ maxLen
/-- Both graphs in a world, and lists that were handed out. -/
structure QG (w0 : World) (rg gb nb : Nat) (eo : Option Addr) (hist : List (List OpP)) (a : Nat) (t : Int) (L : List KeyP) (Ls : List (Option Addr × List Int)) (Ks : List (Option Addr × List KeyP)) (X : World) : Prop where
  r : RG X rg (graphV hist a t L)
  g : GAt X gb nb eo (nodesV hist a t L) (edgesP L)
  p : GP X gb (propsV hist a t L)
  be : Below w0.heap.size w0 X
  ls : ∀ q ∈ Ls, IntsIn X q.1 q.2
  ks : ∀ q ∈ Ks, KeysIn X q.1 q.2
section
variable {w0 : World} {rg gb nb : Nat} {eo : Option Addr} {hist : List (List OpP)} {a : Nat} {t : Int} {L : List KeyP} {Ls : List (Option Addr × List Int)} {Ks : List (Option Addr × List KeyP)} {X Y : World}
theorem QG.below (h : QG w0 rg gb nb eo hist a t L Ls Ks X) (b : Below X.heap.size X Y) : QG w0 rg gb nb eo hist a t L Ls Ks Y :=
  ⟨h.r.below b, h.g.below b, h.p.below b, h.be.trans (b.mono h.be.size), fun q hq => (h.ls q hq).below b, fun q hq => (h.ks q hq).below b⟩
theorem QG.addI (h : QG w0 rg gb nb eo hist a t L Ls Ks X) {ao : Option Addr} {l : List Int} (hl : IntsIn X ao l) : QG w0 rg gb nb eo hist a t L ((ao, l) :: Ls) Ks X :=
  ⟨h.r, h.g, h.p, h.be, fun q hq => (List.mem_cons.1 hq).elim (fun e => e ▸ hl) (h.ls q), h.ks⟩
theorem QG.addK (h : QG w0 rg gb nb eo hist a t L Ls Ks X) {ao : Option Addr} {l : List KeyP} (hl : KeysIn X ao l) : QG w0 rg gb nb eo hist a t L Ls ((ao, l) :: Ks) X :=
  ⟨h.r, h.g, h.p, h.be, h.ls, fun q hq => (List.mem_cons.1 hq).elim (fun e => e ▸ hl) (h.ks q)⟩
theorem rgnodes_doc (kind : ByteArray) (w : World) {rb : Nat} (h : RG w rb (graphV hist a t L)) :
    Calls Tryz.prog 29 #[.pointer (some ⟨rb, 0, none⟩), .string kind] w fun e w' => ∃ ao cap, e = .returned (.slice ao (sortI (nodesN (nodesV hist a t L) kind)).length cap) ∧ IntsIn w' ao (sortI (nodesN (nodesV hist a t L) kind)) ∧ Below w.heap.size w w' ∧ (sortI (nodesN (nodesV hist a t L) kind)).length ≤ maxLen := by
  refine (rgnodes_any kind w h).mono ?_
  rintro e w' ⟨v, rfl, hown, hb⟩
  rw [nodesK_graph] at hown
  have hle := ownsRow_len hown
  obtain ⟨ao, cap, rfl, hin⟩ := ownsRow_intsIn hown
  exact ⟨ao, cap, rfl, hin, hb, by rw [sortI_length]; exact hle⟩
end
theorem is_sameW (v : Value) (n p : Int) (w : World) (hg : ErrVar w) (h : ErrIs w v n p) : Calls Tryz.prog 20 #[v, .agg #[.int .i64 n, .int .i64 p]] w fun e w' => e = .returned (.bool true) ∧ Below w.heap.size w w' := by
  have := is_any v n p n p w hg h
  rw [show (n == n && p == p) = true by simp] at this
  exact this
set_option maxRecDepth 100000 in
set_option maxHeartbeats 8000000 in
theorem walkPlays_walk (l : List (List OpP)) (at_ time n m hops_ : Int) (word : ByteArray) (ao : Option Addr) (cap : Nat) (w : World) (hl : txsL w ao l) (hlm : l.length ≤ maxLen) (hn : i64 n) (hm : i64 m) (hg : PowTab w) (hv : ErrVar w) :
    Calls Tryz.prog 4 #[.slice ao l.length cap, .int .i64 at_, .int .i64 time, .int .i64 n, .int .i64 m, .int .i64 hops_, .string word] w fun e w' => e = .returned (.bool true) ∧ Below w.heap.size w w' := by
  unfold maxLen at hlm
  have HL := Lib.hid hl
  have HG := Lib.hid hg
  have HV := Lib.hid hv
  have HN := Lib.hid hn
  have HM := Lib.hid hm
  clear hl hg hv hn hm
  by_cases h12 : l.length ≤ 12
  · have h12z : ¬ (l.length : Int) > 12 := by omega
    by_cases h60 : word.size ≤ 60
    · have h60z : ¬ (word.size : Int) > 60 := by omega
      obtain ⟨Z, hZ⟩ : ∃ Z, Z = (w.alloc (.cells #[.int .i64 0, .int .i64 0, .int .i64 0, .map none, .map none] 27)).alloc (.cells #[.slice none 0 0, .int .i64 0] 57) := ⟨_, rfl⟩
      obtain ⟨pb, hpb⟩ : ∃ pb, pb = w.heap.size := ⟨_, rfl⟩
      obtain ⟨rb, hrb⟩ : ∃ rb, rb = w.heap.size + 1 := ⟨_, rfl⟩
      have hBZ : Below w.heap.size w Z := by rw [hZ]; exact ((Below.refl _ _).alloc (Nat.le_refl _) _).alloc (by simp) _
      have hszZ : Z.heap.size = w.heap.size + 2 := by rw [hZ]; simp
      have hPZ : PZ w Z pb rb := ⟨hBZ, by omega, by omega, by omega, HV.out, HG.out⟩
      have hblP : Z.heap[pb]? = some (.cells #[.int .i64 0, .int .i64 0, .int .i64 0, .map none, .map none] 27 (0, 0)) := by rw [hZ, hpb]; exact block_alloc (block_alloc_new _ _) _
      have hblR : Z.heap[rb]? = some (.cells #[.slice none 0 0, .int .i64 0] 57 (0, 0)) := by rw [hZ, hrb]; exact new_blk _ _ _ _ (by simp)
      have hpp : PP w Z pb rb ⟨[], [], 27⟩ [] ⟨0, 0, 0, []⟩ noGh 0 Z := by
        refine ⟨hPZ, past_is_new rfl hblP, ⟨⟨none, 0, hblR, ⟨Nat.le_refl _, Nat.zero_le _, fun _ => rfl⟩, fun i t h => by simp at h⟩, fun h => ?_, (fun t h => by cases h), by decide⟩, rfl, Fr.refl _ _, fun k h => .inl (foot_new h)⟩
        have := foot_new h
        omega
      have HZ := Lib.hid hZ
      have HPB := Lib.hid hpb
      have HRB := Lib.hid hrb
      have HPP := Lib.hid hpp
      have HSZ := Lib.hid hszZ
      have HBZ := Lib.hid hBZ
      clear hZ hpb hrb hpp hszZ hBZ hblP hblR hPZ
      go_enter Tryz.func4, Tryz.ntmps4
      go_wp2_with fail
      rw [← HZ.out, ← HRB.out, ← HPB.out]
      go_loopw [17] (fun vi X => ∃ (i : Nat) (hist : List (List OpP)) (s : Pst) (g : Gh), i ≤ l.length ∧ vi = .int .i64 i ∧ PP w Z pb rb ⟨[], [], 27⟩ hist s g 0 X) (fun vi _ => l.length - (intOf vi).toNat)
      case atStart => exact ⟨0, _, _, _, Nat.zero_le _, rfl, HPP.out⟩
      case round =>
        obtain ⟨i, hist, s, g, hi, rfl, hq⟩ := hrel
        by_cases hlt : i < l.length
        · obtain ⟨x, hx⟩ : ∃ x, l[i]? = some x := ⟨_, List.getElem?_eq_getElem hlt⟩
          obtain ⟨b, f, rfl, oo, oc, d0, ho, hom⟩ := HL.out i x hx
          have hbw : b < w.heap.size := World.block_lt_of_cell? w _ d0
          have c0 := below_cell hq.be hbw d0
          have hbr := Nat.lt_of_lt_of_le hbw hq.be.size
          have hoZ : opsAt Z oo x := ho.below HBZ.out
          have hsp : x ≠ [] → ∀ b f, oo = some ⟨b, f, none⟩ → b < Z.heap.size ∧ b ≠ pb ∧ b ≠ rb := fun h0 b f e => by
            have := opsAt_lt ho h0 b f e
            have := HPB.out
            have := HRB.out
            have := HSZ.out
            omega
          obtain ⟨ho1, ho2⟩ := hq.ops hoZ hsp
          have hnf : ∀ k, g.foot pb k → k ≠ b := fun k hk e => by
            have h1 := HPB.out
            have h2 := HSZ.out
            rcases hq.ft k hk with e' | e' <;> omega
          have hbn : b ≠ rb := by have := HRB.out; omega
          have hsh := short_any oo oc x wr ho1 hom
          have i0 : (0 : Int) ≤ (i : Int) := by omega
          have i1 : (i : Int) < (l.length : Int) := by omega
          have HQ := Lib.hid hq
          have HO1 := Lib.hid ho1
          have HO2 := Lib.hid ho2
          have HOZ := Lib.hid hoZ
          have HSP := Lib.hid hsp
          have HNF := Lib.hid hnf
          clear hq ho1 ho2 hoZ hsp hnf ho hx d0
          cases hshB : shortB x with
          | false =>
            rw [hshB] at hsh
            have HSH := Lib.hid hsh
            clear hsh hshB
            go_wp2_with (go_at_call 19; (with_reducible refine HSH.out.mono ?_); rintro e w5 ⟨rfl, rfl⟩)
            exact ⟨⟨i + 1, hist, s, g, by omega, by go_num, HQ.out⟩, by simp [intOf]; omega⟩
          | true =>
            rw [hshB] at hsh
            have hs2 : ∀ o ∈ x, o.key.word.size ≤ 100000 ∧ o.value.size ≤ 100000 := fun o ho => by have := (shortB_spec hshB).2 o ho; omega
            have HSZ2 := Lib.hid hs2
            have HSH := Lib.hid hsh
            clear hsh hshB hs2
            obtain ⟨n1, hn1⟩ : ∃ n, n = (comR hist.length x).1 := ⟨_, rfl⟩
            obtain ⟨n2, hn2⟩ : ∃ n, n = (comR hist.length x).2 := ⟨_, rfl⟩
            have CA := Lib.hid fun (X : World) (hX : Below wr.heap.size wr X) => pcommit_same oo oc x X (HQ.out.below hX).tp (HO1.out.below hX) hom HO2.out (HQ.out.below hX).pow HSZ2.out
            have CB := Lib.hid fun (X : World) (hist' : List (List OpP)) (s' : Pst) (g' : Gh) (h : PH w Z pb rb ⟨[], [], 27⟩ hist hist' s' g' 0 0 X) => rpcommit_same oo oc x X h.r (h.ops HOZ.out HSP.out) h.pow HSZ2.out h.footlt
            rw [← hn1, ← hn2] at CA CB
            clear hn1 hn2
            go_wp2_with (go_at_call 19; (with_reducible refine HSH.out.mono ?_); rintro e w5 ⟨rfl, rfl⟩)
            go_region_held3 (fun X => X.cell? ⟨b, f + i, none⟩ = some (.slice oo x.length oc))
              (first | exact c0 | exact hS3 | exact hS2 | exact hS1)
              (first
                | (go_at_call 9; (with_reducible refine (CA.out _ (Below.refl _ _).drew).mono ?_); rintro e x1 ⟨v, s', g', rfl, hv, hp, hk, hf, hG⟩; have HH := Lib.hid ((HQ.out.below (Below.refl _ _).drew).half hp hk hf hG); have HV1 := Lib.hid hv; have hS1 := (World.cell?_of_block (a := ⟨b, f + i, none⟩) (hf.block b hbr (fun h => HNF.out b h rfl))).trans c0; have hx1 := Nat.lt_of_lt_of_le hbr hf.size; clear hv hp hk hf hG)
                | (go_at_call 21; (with_reducible refine (CB.out x1 _ s' g' HH.out).mono ?_); rintro e x2 ⟨rfl, hr, hf⟩; have HP2 := Lib.hid (HH.out.full hr hf); have HV2 := Lib.hid (errIs_rb HV1.out HH.out.r hf); have hS2 := (World.cell?_of_block (a := ⟨b, f + i, none⟩) (hf.block b hx1 hbn)).trans hS1; have hx2 := Nat.lt_of_lt_of_le hx1 hf.size; clear hr hf)
                | (go_at_call 20; (with_reducible refine (is_sameW v n1 n2 x2 HP2.out.tp.e HV2.out).mono ?_); rintro e x3 ⟨rfl, b3⟩; have HP3 := Lib.hid (HP2.out.below b3); have hS3 := below_cell b3 hx2 hS2; clear b3))
            go_wp2_with fail
            exact ⟨⟨i + 1, _, _, _, by omega, by go_num, HP3.out⟩, by simp [intOf]; omega⟩
        · obtain rfl : i = l.length := by omega
          have hok := hq.r.ok
          have hlen := hq.r.len
          have HBW := Lib.hid hq.be
          have HVR := Lib.hid hq.tp.e
          obtain ⟨ke, hke⟩ : ∃ ke, ke = keyRE hist 0 at_ time := ⟨_, rfl⟩
          by_cases he : ke = 0
          · have he0 : keyRE hist 0 at_ time = 0 := by rw [← hke]; exact he
            obtain ⟨⟨q1, q2, q3⟩, q4⟩ : (0 ≤ at_ ∧ at_ ≤ hist.length ∧ 0 ≤ at_) ∧ timeB time = true := ⟨askR_0 (keyRE_0 he0).1, (keyRE_0 he0).2⟩
            obtain ⟨a, rfl⟩ : ∃ a : Nat, at_ = a := ⟨at_.toNat, by omega⟩
            have hopB : ∀ l ∈ hist, l.all opB = true := fun l hl => (okL_iff.1 (hok l hl)).2
            have HQ0 := Lib.hid hq
            have HCR := Lib.hid (rpat_ok a time wr hq.r he0)
            have hgone := hq.k
            have HCA := Lib.hid fun (X : World) (hX : Below wr.heap.size wr X) => at_full a time pb 0 _ hist s g X (hq.p.below hX) hopB q4 (by omega) (by omega)
            have e0 : errN 0 = .nilIface := rfl
            have CB := fun (X : World) (hX : Below wr.heap.size wr X) => bare_same 0 X (HVR.out.below hX)
            rw [e0] at CB
            have HCB := Lib.hid CB
            have hez : ((0 : Int) == 0) = true := rfl
            clear hq hok hke he he0 CB e0 HPP hopB
            go_upto_region 17 with (first
              | (go_at_call 22; (with_reducible refine HCR.out.mono ?_); rintro e w1 ⟨rgb, L, rfl, hKI, hRG, b1, hst⟩; have HKI := Lib.hid hKI; have HRG := Lib.hid hRG; have HB1 := Lib.hid b1; have HST := Lib.hid hst; clear hKI hRG b1 hst)
              | (go_at_call 10; (with_reducible refine (HCA.out w1 HB1.out).mono ?_); rintro e w2 ⟨gb, nb, eo, L', rfl, hKI', hKB, hGA, hGP, b2, hNG⟩; obtain rfl : L = L' := HKI.out.one hKI' (fun _ => rfl); have HKB := Lib.hid hKB; have HGA := Lib.hid hGA; have HGP := Lib.hid hGP; have HB2 := Lib.hid b2; have HNG := Lib.hid hNG; clear hKI' hKB hGA hGP b2 hNG)
              | (go_at_call 23; (with_reducible refine (HCB.out w2 (HB1.out.trans (HB2.out.mono HB1.out.size))).mono ?_); rintro e w3 ⟨rfl, b3⟩; have HB3 := Lib.hid b3; clear b3))
            obtain ⟨LV, hLV⟩ : ∃ LV, LV = w3.alloc (.cells #[.int .i64 1, .int .i64 n, .string ⟨#[]⟩, .int .i64 0, .int .i64 (-1099511627776), .int .i64 1099511627776, .string ⟨#[108, 97, 116, 101, 114]⟩] 70) := ⟨_, rfl⟩
            obtain ⟨lb, hlb⟩ : ∃ lb, lb = w3.heap.size := ⟨_, rfl⟩
            have hwr3 : Below wr.heap.size wr w3 := (HB1.out.trans (HB2.out.mono HB1.out.size)).trans (HB3.out.mono (Nat.le_trans HB1.out.size HB2.out.size))
            have hLB : Below w3.heap.size w3 LV := by rw [hLV]; exact (Below.refl _ _).alloc (Nat.le_refl _) _
            have hwrL : Below wr.heap.size wr LV := hwr3.trans (hLB.mono hwr3.size)
            have hops : opsAt LV (some ⟨lb, 0, none⟩) [⟨⟨1, n, ⟨#[]⟩, 0⟩, -1099511627776, 1099511627776, ⟨#[108, 97, 116, 101, 114]⟩⟩] := by rw [hLV, hlb]; exact opsAt_one w3 70 ⟨⟨1, n, ⟨#[]⟩, 0⟩, -1099511627776, 1099511627776, ⟨#[108, 97, 116, 101, 114]⟩⟩
            have hflt := HQ0.out.p.at'.lt
            have hsep : SepOps (some ⟨lb, 0, none⟩) g pb := fun b f e hf => by
              cases e
              have h1 := hflt _ hf
              have h2 := hwr3.size
              omega
            have hcom := pcommit_same (some ⟨lb, 0, none⟩) 1 [⟨⟨1, n, ⟨#[]⟩, 0⟩, -1099511627776, 1099511627776, ⟨#[108, 97, 116, 101, 114]⟩⟩] LV (HQ0.out.below hwrL).tp hops (by show 1 ≤ maxLen; decide) (fun _ => hsep) (HQ0.out.below hwrL).pow (fun o ho => by rw [List.mem_singleton] at ho; subst ho; exact ⟨Nat.zero_le _, by show 5 ≤ 100000; omega⟩)
            simp only [List.length_cons, List.length_nil, Nat.zero_add] at hcom
            have hG2 := fun (Y : World) (hf : Fr (g.foot pb) LV Y) => graph_still (HGA.out) HGP.out HNG.out ((Fr.new (F := g.foot pb) (HB3.out.trans (hLB.mono HB3.out.size))).trans hf) (fun b hb => Nat.lt_of_lt_of_le (hflt b hb) HB1.out.size)
            have hR2 := fun (Y : World) (hf : Fr (g.foot pb) LV Y) => HST.out (g.foot pb) Y ((Fr.new (F := g.foot pb) ((HB2.out.trans (HB3.out.mono HB2.out.size)).trans (hLB.mono (Nat.le_trans HB2.out.size HB3.out.size)))).trans hf) hflt
            have hB4 := fun (Y : World) (hf : Fr (g.foot pb) LV Y) => (HBW.out.trans (hwrL.mono HBW.out.size)).trans (hf.below (B := w.heap.size) (fun k _ hk => by have h1 := HPB.out; have h2 := HSZ.out; rcases HQ0.out.ft k hk with e | e <;> omega) (Nat.le_trans HBW.out.size hwrL.size))
            have HQ1 := Lib.hid fun (Y : World) (hf : Fr (g.foot pb) LV Y) => (⟨hR2 Y hf, (hG2 Y hf).1, (hG2 Y hf).2, hB4 Y hf, (fun q hq => by cases hq), (fun q hq => by cases hq)⟩ : QG w rgb gb nb eo hist a time L [] [] Y)
            have HCOM := Lib.hid hcom
            have HLV := Lib.hid hLV
            have HLB := Lib.hid hlb
            have hKI := HKI.out
            have hKB := HKB.out
            have hpg := prop_graph hKI hKB n word
            obtain ⟨pv, hpv⟩ : ∃ pv, pv = (propP (graphV hist a time L) n word).1 := ⟨_, rfl⟩
            obtain ⟨pe, hpe⟩ : ∃ pe, pe = (propP (graphV hist a time L) n word).2 := ⟨_, rfl⟩
            obtain ⟨hl, hhl⟩ : ∃ hl, hl = hopsR (graphV hist a time L) n word hops_ := ⟨_, rfl⟩
            obtain ⟨he, hhe⟩ : ∃ he, he = hopE (graphV hist a time L) n hops_ := ⟨_, rfl⟩
            obtain ⟨KN, hKN⟩ : ∃ KN : ByteArray → List Int, KN = fun kind => sortI (nodesN (nodesV hist a time L) kind) := ⟨_, rfl⟩
            have hKN' : ∀ kind, sortI (nodesN (nodesV hist a time L) kind) = KN kind := fun kind => by rw [hKN]
            obtain ⟨ne, W, hW1, hW2⟩ := way_doc hKI hKB n m word HN.out HM.out
            have c1 := fun Ls Ks (X : World) (h : QG w rgb gb nb eo hist a time L Ls Ks X) => rgprop_any n word X h.r
            have c2 := fun Ls Ks (X : World) (h : QG w rgb gb nb eo hist a time L Ls Ks X) => gprop_any n word X h.g h.p HN.out (by unfold maxLen; omega)
            have c3 := fun Ls Ks (X : World) (h : QG w rgb gb nb eo hist a time L Ls Ks X) => rghops_any n hops_ word X h.r HN.out
            have c4 := fun Ls Ks (X : World) (h : QG w rgb gb nb eo hist a time L Ls Ks X) => ghops_doc hKI hKB n hops_ word X h.g HN.out
            have c5 := fun Ls Ks (X : World) (h : QG w rgb gb nb eo hist a time L Ls Ks X) => hW2 X rgb h.r
            have c6 := fun Ls Ks (X : World) (h : QG w rgb gb nb eo hist a time L Ls Ks X) => hW1 X gb nb eo h.g
            have c7 := fun x Ls Ks (X : World) (h : QG w rgb gb nb eo hist a time L Ls Ks X) => bare_same x X (HV.out.below h.be)
            have c8 := fun l a1 a2 k1 k2 Ls Ks (X : World) (h : QG w rgb gb nb eo hist a time L Ls Ks X) (m1 : (a1, l) ∈ Ls) (m2 : (a2, l) ∈ Ls) (hl : l.length ≤ maxLen) => sameInts_any l a1 a2 k1 k2 X (h.ls _ m1) (h.ls _ m2) hl
            have c9 := fun kind Ls Ks (X : World) (h : QG w rgb gb nb eo hist a time L Ls Ks X) => gnodes_any kind X h.g
            have c10 := fun kind Ls Ks (X : World) (h : QG w rgb gb nb eo hist a time L Ls Ks X) => rgnodes_doc kind X h.r
            have c11 := fun Ls Ks (X : World) (h : QG w rgb gb nb eo hist a time L Ls Ks X) => edges_any X h.g
            have c12 := fun Ls Ks (X : World) (h : QG w rgb gb nb eo hist a time L Ls Ks X) => rgedges_any X h.r
            have c13 := fun a1 a2 k1 k2 Ls Ks (X : World) (h : QG w rgb gb nb eo hist a time L Ls Ks X) (m1 : (a1, edgesP L) ∈ Ks) (m2 : (a2, edgesP L) ∈ Ks) => sameKeys_any (edgesP L) a1 a2 k1 k2 X (h.ks _ m1) (h.ks _ m2) (by have := h.g.elen; unfold maxLen; omega)
            rw [edges_graph hKI hKB] at c12
            rw [← hpg] at c2
            rw [← hpv, ← hpe] at c1 c2
            rw [← hhl, ← hhe] at c3 c4
            simp only [hKN'] at c9 c10
            generalize edgesP L = EL at c11 c12 c13
            have C1 := Lib.hid c1
            have C2 := Lib.hid c2
            have C3 := Lib.hid c3
            have C4 := Lib.hid c4
            have C5 := Lib.hid c5
            have C6 := Lib.hid c6
            have C7 := Lib.hid c7
            have C8 := Lib.hid c8
            have C9 := Lib.hid c9
            have C10 := Lib.hid c10
            have C11 := Lib.hid c11
            have C12 := Lib.hid c12
            have C13 := Lib.hid c13
            clear c1 c2 c3 c4 c5 c6 c7 c8 c9 c10 c11 c12 c13 hW1 hW2 hpg hpv hpe hhl hhe hKN hKN' hKI hKB hcom hG2 hR2 hB4 hsep hops hflt hwrL hLB hwr3 hLV hlb HCR HCA HCB
            have hpvs : (!(pv.toList == pv.toList)) = false := by simp
            go_upto_region 18 with (first
              | (rw [← HLV.out, ← HLB.out])
              | (go_at_call 9; (with_reducible refine HCOM.out.mono ?_); rintro e x4 ⟨cv, _, _, rfl, _, _, _, hf, _⟩; have HQ := Lib.hid (HQ1.out x4 hf); clear hf))
            clear hgone q1 q2 q3 q4 HQ0 HQ1 HCOM HLV HLB HKI HRG HST HGA HGP HNG HB1 HB2 HB3 HKB
            go_upto_region 24 with (first
              | (go_at_call 24; (with_reducible refine (C1.out _ _ _ HQ.out).mono ?_); rintro e x5 ⟨rfl, b5⟩; replace HQ := Lib.hid (HQ.out.below b5); clear b5)
              | (go_at_call 25; (with_reducible refine (C2.out _ _ _ HQ.out).mono ?_); rintro e x5 ⟨rfl, rfl⟩)
              | (go_at_call 26; (with_reducible refine (C3.out _ _ _ HQ.out).mono ?_); rintro e x6 ⟨ao6, cp6, rfl, hin, b5⟩; replace HQ := Lib.hid ((HQ.out.below b5).addI hin); clear hin b5)
              | (go_at_call 16; (with_reducible refine (C4.out _ _ _ HQ.out).mono ?_); rintro e x7 ⟨ao7, cp7, rfl, hin, b5, hle⟩; have HL1 := Lib.hid hle; replace HQ := Lib.hid ((HQ.out.below b5).addI hin); clear hin b5 hle)
              | (go_at_call 27; (with_reducible refine (C5.out _ _ _ HQ.out).mono ?_); rintro e x8 ⟨ao8, cp8, rfl, hin, b5⟩; replace HQ := Lib.hid ((HQ.out.below b5).addI hin); clear hin b5)
              | (go_at_call 17; (with_reducible refine (C6.out _ _ _ HQ.out).mono ?_); rintro e x9 ⟨ao9, cp9, rfl, hin, hle, b5⟩; have HL2 := Lib.hid hle; replace HQ := Lib.hid ((HQ.out.below b5).addI hin); clear hin b5 hle))
            clear C1 C2 C3 C4 C5 C6
            go_upto_region 26 with (first
              | (go_at_call 23; (with_reducible refine (C7.out _ _ _ _ HQ.out).mono ?_); rintro e x10 ⟨rfl, b5⟩; replace HQ := Lib.hid (HQ.out.below b5); clear b5)
              | (go_at_call 28; (with_reducible refine (C8.out _ _ _ _ _ _ _ _ HQ.out (by simp) (by simp) (by first | exact HL1.out | exact HL2.out)).mono ?_); rintro e x11 ⟨rfl, b5⟩; replace HQ := Lib.hid (HQ.out.below b5); clear b5))
            go_wp2_with (first
              | (go_at_call 14; (with_reducible refine (C9.out _ _ _ _ HQ.out).mono ?_); rintro e x12 ⟨ao12, cp12, rfl, hin, b5⟩; replace HQ := Lib.hid ((HQ.out.below b5).addI hin); clear hin b5)
              | (go_at_call 29; (with_reducible refine (C10.out _ _ _ _ HQ.out).mono ?_); rintro e x13 ⟨ao13, cp13, rfl, hin, b5, hle⟩; have HL3 := Lib.hid hle; replace HQ := Lib.hid ((HQ.out.below b5).addI hin); clear hin b5 hle)
              | (go_at_call 28; (with_reducible refine (C8.out _ _ _ _ _ _ _ _ HQ.out (by simp) (by simp) (by exact HL3.out)).mono ?_); rintro e x14 ⟨rfl, b5⟩; replace HQ := Lib.hid (HQ.out.below b5); clear b5)
              | (go_at_call 13; (with_reducible refine (C11.out _ _ _ HQ.out).mono ?_); rintro e x15 ⟨ao15, cp15, rfl, hin, b5⟩; replace HQ := Lib.hid ((HQ.out.below b5).addK hin); clear hin b5)
              | (go_at_call 31; (with_reducible refine (C12.out _ _ _ HQ.out).mono ?_); rintro e x16 ⟨ao16, cp16, rfl, hin, b5⟩; replace HQ := Lib.hid ((HQ.out.below b5).addK hin); clear hin b5)
              | (go_at_call 30; (with_reducible refine (C13.out _ _ _ _ _ _ _ HQ.out (by simp) (by simp)).mono ?_); rintro e x17 ⟨rfl, b5⟩; replace HQ := Lib.hid (HQ.out.below b5); clear b5))
            go_ret
            exact ⟨rfl, HQ.out.be⟩
          · have he' : keyRE hist 0 at_ time ≠ 0 := by rw [← hke]; exact he
            have CR := rpat_bad wr hq.r at_ time he'
            have CA := at_bad hq.p hok hq.k at_ time he'
            rw [← hke] at CR CA
            have hev : errN ke = errV ke := errN_of he
            rw [← hev] at CA
            have CB := fun (X : World) (hX : Below wr.heap.size wr X) => bare_same ke X (HVR.out.below hX)
            have hez : (ke == 0) = false := by simpa using he
            have HCR := Lib.hid CR
            have HCA := Lib.hid CA
            have HCB := Lib.hid CB
            clear hq hok hlen hke he he' CR CA CB hev HPP
            go_wp2_with (first
              | (go_at_call 22; (with_reducible refine HCR.out.mono ?_); rintro e w1 ⟨rfl, rfl⟩)
              | (go_at_call 10; (with_reducible refine HCA.out.mono ?_); rintro e w2 ⟨rfl, b2⟩; have HB2 := Lib.hid b2; clear b2)
              | (go_at_call 23; (with_reducible refine (HCB.out w2 HB2.out).mono ?_); rintro e w3 ⟨rfl, b3⟩; have HB3 := Lib.hid (HB2.out.trans (b3.mono HB2.out.size)); clear b3))
            go_ret
            exact ⟨rfl, HBW.out.trans (HB3.out.mono HBW.out.size)⟩
    · have h60z : (word.size : Int) > 60 := by omega
      go_enter Tryz.func4, Tryz.ntmps4
      go_wp2_with fail
      go_ret
      exact ⟨rfl, Below.refl _ _⟩
  · have h12z : (l.length : Int) > 12 := by omega
    go_enter Tryz.func4, Tryz.ntmps4
    go_wp2_with fail
    go_ret
    exact ⟨rfl, Below.refl _ _⟩
end Go.Proofs.YtflhpmgjehjjkaaGreatDoor

namespace Go.Proofs.YtflhpmgjehjjkaaGreatDoor
open Go.ChangeShapes Go.WideShapes Go.ChangeAt Go.RowKit Go.Joins Go.Deep

theorem cellsOpsW : Tryz.prog.cellsOf 33 = 1 := by kernel_rfl
set_option maxRecDepth 100000 in
theorem opsW_trod {H : Type} {enc : TypeId × Value → H} {W : World} {fuel : Nat} {cs : List Value} {x : DataW H × List MemPlace} (h : DataW.trod enc Tryz.prog W 0 (fun _ => true) true fuel 33 cs = some x) :
    ∃ ao l cap, cs = [.slice ao l.length cap] ∧ opsAt W ao l ∧ l.length ≤ maxLen := by
  rcases Go.Deep.open_slice Tryz.underlying33 h with ⟨hc, _⟩ | ⟨a, len, cap, m, n, D, Pl, hc, hb, hl, hm, hmm, _, hx⟩
  · exact ⟨none, [], 0, hc, (fun i p h => by simp at h), Nat.zero_le _⟩
  · simp only [if_true] at hmm
    have key : ∀ i, i < len → ∃ o : OpP, ∀ j u, (opCells o)[j]? = some u → W.cell? (a.add (i * 7 + j)) = some u := by
      intro i hi
      obtain ⟨cs', h1, h2⟩ := hx i (by omega)
      rw [cellsOp] at h1
      obtain ⟨_, hlen, hcell⟩ := World.cells?_some h1
      obtain ⟨o, ho⟩ := op_trod h2
      refine ⟨o, fun j u hj => ?_⟩
      have hj7 : j < 7 := (List.getElem?_eq_some_iff.1 hj).1
      have c := hcell j (by omega)
      rw [add_add] at c
      rw [ho, hj] at c
      exact c
    obtain ⟨q, hq⟩ := choose_lt key
    refine ⟨some a, (List.range len).map q, cap, by rw [hc]; simp, ?_, by simp; omega⟩
    intro i o ho
    simp only [List.getElem?_map, Option.map_eq_some_iff] at ho
    obtain ⟨i', hi', rfl⟩ := ho
    obtain ⟨hlt, rfl⟩ := List.getElem?_eq_some_iff.1 hi'
    simp only [List.length_range] at hlt
    simp only [List.getElem_range] at *
    have z0 := hq 0 (by omega) 0 _ rfl
    have hs := World.cell?_spot z0
    obtain ⟨b, f, sp⟩ := a
    have hsp : sp = none := by simpa [Addr.add] using hs
    subst hsp
    have ha : ∀ k, (⟨b, f, none⟩ : Addr).add k = ⟨b, f + k, none⟩ := fun k => by unfold Addr.add; split <;> simp_all
    refine ⟨b, f, rfl, fun j u hj => ?_⟩
    have := hq i hlt j u hj
    rw [ha, ← Nat.add_assoc] at this
    exact this
set_option maxRecDepth 100000 in
theorem open_txs {H : Type} {enc : TypeId × Value → H} {W : World} {v : Value} {d : DataW H} {p : List MemPlace} (hv : ∃ a len cap, v = .slice a len cap)
    (h : DataW.Trod enc Tryz.prog W 0 (fun _ => true) true 28 v d p) : ∃ ao l cap, v = .slice ao l.length cap ∧ txsL W ao l ∧ l.length ≤ maxLen := by
  obtain ⟨fuel, h⟩ := h
  obtain ⟨a0, len0, cap0, rfl⟩ := hv
  rcases Go.Deep.open_slice Tryz.underlying28 h with ⟨hc, _⟩ | ⟨a, len, cap, m, n, D, Pl, hc, hb, hl, hm, hmm, _, hx⟩
  · simp [Value.cells] at hc
    obtain ⟨rfl, rfl, rfl⟩ := hc
    exact ⟨none, [], 0, rfl, (fun i p h => by simp at h), Nat.zero_le _⟩
  · simp [Value.cells] at hc
    obtain ⟨rfl, rfl, rfl⟩ := hc
    simp only [if_true] at hmm
    have key : ∀ i, i < len0 → ∃ o : List OpP × Option Addr × Nat, W.cell? (a.add i) = some (.slice o.2.1 o.1.length o.2.2) ∧ opsAt W o.2.1 o.1 ∧ o.1.length ≤ maxLen := by
      intro i hi
      obtain ⟨cs', h1, h2⟩ := hx i (by omega)
      rw [cellsOpsW] at h1
      obtain ⟨_, hlen, hcell⟩ := World.cells?_some h1
      obtain ⟨oo, l, oc, ho, h3, h4⟩ := opsW_trod h2
      refine ⟨⟨l, oo, oc⟩, ?_, h3, h4⟩
      have c := hcell 0 (by omega)
      rw [add_add] at c
      rw [ho] at c
      simpa using c
    haveI : Inhabited (List OpP × Option Addr × Nat) := ⟨⟨[], none, 0⟩⟩
    obtain ⟨q, hq⟩ := choose_lt key
    refine ⟨some a, (List.range len0).map fun i => (q i).1, cap0, by simp, ?_, by simp; omega⟩
    intro i o ho
    simp only [List.getElem?_map, Option.map_eq_some_iff] at ho
    obtain ⟨i', hi', rfl⟩ := ho
    obtain ⟨hlt, rfl⟩ := List.getElem?_eq_some_iff.1 hi'
    simp only [List.length_range] at hlt
    simp only [List.getElem_range] at *
    have z0 := (hq 0 (by omega)).1
    have hs := World.cell?_spot z0
    obtain ⟨b, f, sp⟩ := a
    have hsp : sp = none := by simpa [Addr.add] using hs
    subst hsp
    have ha : ∀ k, (⟨b, f, none⟩ : Addr).add k = ⟨b, f + k, none⟩ := fun k => by unfold Addr.add; split <;> simp_all
    obtain ⟨hc, ho, hm⟩ := hq i hlt
    rw [ha] at hc
    exact ⟨b, f, rfl, (q i).2.1, (q i).2.2, hc, ho, hm⟩
end Go.Proofs.YtflhpmgjehjjkaaGreatDoor

namespace Go.Proofs.YtflhpmgjehjjkaaGreatDoor
open Go Go.ChangeShapes Go.WideShapes Go.ChangeAt Go.RowKit Go.Joins

section
variable {H : Type} {enc : TypeId × Value → H} {P : Program} {w : World} {base : Nat} {spare : Nat → Bool} {held : Bool}
theorem trodAll_seven {t0 t1 t2 t3 t4 t5 t6 : TypeId} {args : Array Value} {ds : List (DataW H)} {ps : List MemPlace} (h : DataW.TrodAll enc P w base spare held [t0, t1, t2, t3, t4, t5, t6] args.toList ds ps) :
    ∃ v0 v1 v2 v3 v4 v5 v6 d0 d1 d2 d3 d4 d5 d6 p0 p1 p2 p3 p4 p5 p6, args = #[v0, v1, v2, v3, v4, v5, v6] ∧ ds = [d0, d1, d2, d3, d4, d5, d6] ∧ ps = p0 ++ p1 ++ p2 ++ p3 ++ p4 ++ p5 ++ p6 ∧ DataW.Trod enc P w base spare held t0 v0 d0 p0 ∧ DataW.Trod enc P w base spare held t1 v1 d1 p1 ∧ DataW.Trod enc P w base spare held t2 v2 d2 p2 ∧ DataW.Trod enc P w base spare held t3 v3 d3 p3 ∧ DataW.Trod enc P w base spare held t4 v4 d4 p4 ∧ DataW.Trod enc P w base spare held t5 v5 d5 p5 ∧ DataW.Trod enc P w base spare held t6 v6 d6 p6 := by
  obtain ⟨v0, vs, d0, ds', p0, q, hargs, rfl, rfl, h0, hrest⟩ := trodAll_cons h
  obtain ⟨v1, vs1, d1, ds1, p1, q1, rfl, rfl, rfl, h1, hrest1⟩ := trodAll_cons hrest
  obtain ⟨v2, vs2, d2, ds2, p2, q2, rfl, rfl, rfl, h2, hrest2⟩ := trodAll_cons hrest1
  obtain ⟨v3, vs3, d3, ds3, p3, q3, rfl, rfl, rfl, h3, hrest3⟩ := trodAll_cons hrest2
  obtain ⟨v4, vs4, d4, ds4, p4, q4, rfl, rfl, rfl, h4, hrest4⟩ := trodAll_cons hrest3
  obtain ⟨v5, vs5, d5, ds5, p5, q5, rfl, rfl, rfl, h5, hrest5⟩ := trodAll_cons hrest4
  obtain ⟨v6, vs6, d6, ds6, p6, q6, rfl, rfl, rfl, h6, hrest6⟩ := trodAll_cons hrest5
  obtain ⟨rfl, rfl, rfl⟩ := trodAll_nil hrest6
  exact ⟨v0, v1, v2, v3, v4, v5, v6, d0, d1, d2, d3, d4, d5, d6, p0, p1, p2, p3, p4, p5, p6, by cases args; simp_all, rfl, by simp, h0, h1, h2, h3, h4, h5, h6⟩
theorem trodAll_mk7 {t0 t1 t2 t3 t4 t5 t6 : TypeId} {v0 v1 v2 v3 v4 v5 v6 : Value} {d0 d1 d2 d3 d4 d5 d6 : DataW H} {p0 p1 p2 p3 p4 p5 p6 : List MemPlace} (h0 : DataW.Trod enc P w base spare held t0 v0 d0 p0) (h1 : DataW.Trod enc P w base spare held t1 v1 d1 p1) (h2 : DataW.Trod enc P w base spare held t2 v2 d2 p2) (h3 : DataW.Trod enc P w base spare held t3 v3 d3 p3) (h4 : DataW.Trod enc P w base spare held t4 v4 d4 p4) (h5 : DataW.Trod enc P w base spare held t5 v5 d5 p5) (h6 : DataW.Trod enc P w base spare held t6 v6 d6 p6) :
    DataW.TrodAll enc P w base spare held [t0, t1, t2, t3, t4, t5, t6] [v0, v1, v2, v3, v4, v5, v6] [d0, d1, d2, d3, d4, d5, d6] (p0 ++ (p1 ++ (p2 ++ (p3 ++ (p4 ++ (p5 ++ p6)))))) :=
  ⟨p0, _, h0, ⟨p1, _, h1, ⟨p2, _, h2, trodAll_mk4 h3 h4 h5 h6, rfl⟩, rfl⟩, rfl⟩
end
theorem wf_i64P {n : Int} (h : (Lit.int .i64 n).wf = true) : i64 n := by
  unfold Lit.wf at h
  simp [IntKind.min, IntKind.max, IntKind.bits, IntKind.signed] at h
  unfold i64
  omega
theorem ownWp : ownKnob Tryz.prog.godebug = none := by kernel_rfl
theorem laidOutWp : laidOutB Tryz.prog = true := by kernel_rfl
theorem etWp : Tryz.prog.globalNamed "errors.errorType" = some 0 := by kernel_rfl
theorem rtWp : (Tryz.prog.cutTypes.find? (·.1 == "internal/reflectlite.rtype")).map (·.2) = some 262 := by kernel_rfl
theorem oneRowWp : ((List.range Tryz.prog.types.size).filter fun t => Tryz.prog.rowNamed t [101, 114, 114, 111, 114]) = [31] := by kernel_rfl

theorem errVar_of_laidWp {W : World} (h : laidMetH Tryz.prog Rows.walkPlaysRow.laid W) : ErrVar W := by
  have h' : laidMet Tryz.prog _ W ∧ handlesMet Tryz.prog [("errors.errorType", Rows.laid_errors_errorType)] W := h.filter fun x => x.1 == "errors.errorType"
  obtain ⟨name, u, ty, e1, e2, e3, e4, e5⟩ := h'.2 _ (List.mem_singleton.2 rfl)
  have en : name = [101, 114, 114, 111, 114] := (Option.some.inj e1).symm
  subst en
  obtain rfl := Option.some.inj (rtWp.symm.trans e2)
  have hm : ty ∈ (List.range Tryz.prog.types.size).filter fun t => Tryz.prog.rowNamed t [101, 114, 114, 111, 114] := List.mem_filter.2 ⟨List.mem_range.2 e3, e4⟩
  rw [oneRowWp] at hm
  obtain rfl := List.mem_singleton.1 hm
  have hh : typeHandle Tryz.prog 31 = .pointer (some ⟨9, 31, none⟩) := by kernel_rfl
  rw [hh] at e5
  have := World.var?_cell etWp e5 0
  unfold ErrVar
  simpa using this
theorem powTab_of_laidWp {W : World} (h : laidMetH Tryz.prog Rows.walkPlaysRow.laid W) : PowTab W := by
  have h' : laidMet Tryz.prog [("internal/strconv.uint64pow10", Rows.laid_internal_strconv_uint64pow10)] W := h.filter fun x => x.1 == "internal/strconv.uint64pow10"
  exact Lib.tabIs_of_head (g := 3) (t := 363) (e := 260) (n := 20) (rest := []) (by kernel_rfl) (by kernel_rfl) Tryz.underlying363 Tryz.underlying260 (by kernel_rfl) (by kernel_rfl) (by
    have e : (Rows.laid_internal_strconv_uint64pow10 : DataW Unit) = Lib.tabData .u64 Lib.pow10Tab := by kernel_rfl
    rw [← e]; exact h')

/-- A world that meets the condition: the handle, then the plain tables. -/
noncomputable def handleWorldWp (os : Os) : World :=
  let w0 := World.holding Tryz.prog os ⟨#[], #[], []⟩
  { w0 with heap := w0.heap.modify 0 fun
      | .cells _ t frozen => .cells #[.iface 262 (.agg #[.pointer (some ⟨9, 31, none⟩)])] t frozen
      | o => o }
noncomputable def laidWorldWp (os : Os) : World := (handleWorldWp os).layVars Tryz.prog (Rows.walkPlaysRow.laid.filter fun x => x.2.handleName?.isNone)
theorem laidWorldWp_met (os : Os) (args : Array Value) : laidMetH Tryz.prog Rows.walkPlaysRow.laid ((laidWorldWp os).forCall (fun _ _ => 0) ⟨#[], args, []⟩).memory := by
  have hd : laidMet Tryz.prog (Rows.walkPlaysRow.laid.filter fun x => x.2.handleName?.isNone) (laidWorldWp os) := by
    refine laidMet_layVars (w0 := handleWorldWp os) ((Rows.walkPlaysRow.laid.filter fun x => x.2.handleName?.isNone).map (·.1)) [] ?_ ?_ ?_ ?_
    · have e1 : ((Rows.walkPlaysRow.laid.filter fun x => x.2.handleName?.isNone).filter fun x => ((Rows.walkPlaysRow.laid.filter fun x => x.2.handleName?.isNone).map (·.1)).contains x.1) = (Rows.walkPlaysRow.laid.filter fun x => x.2.handleName?.isNone) := List.filter_eq_self.2 fun x hx => List.contains_iff_mem.2 (List.mem_map.2 ⟨x, hx, rfl⟩)
      rw [e1]; rfl
    · kernel_rfl
    · kernel_rfl
    · have e2 : ((Rows.walkPlaysRow.laid.filter fun x => x.2.handleName?.isNone).filter fun x => !((Rows.walkPlaysRow.laid.filter fun x => x.2.handleName?.isNone).map (·.1)).contains x.1) = [] := List.filter_eq_nil_iff.2 fun x hx => by rw [List.contains_iff_mem.2 (List.mem_map.2 ⟨x, hx, rfl⟩)]; simp
      rw [e2]; exact LaidIn.none
  exact laidMetH_of_parts (hd.of_heap (by simp [World.memory, World.forCall, Input.heap])) (by kernel_rfl)

set_option maxRecDepth 100000 in
theorem walkPlays_lifted (os : Os) (started : os.Started) (H : Type) (enc : TypeId × Value → H) :
    ReturnsInHanded {} Tryz.checked os 4 .any (fun w args => (Rows.walkPlaysSpec.pre enc Tryz.prog Tryz.f4 [] false w args ∧ laidMetH Tryz.prog Rows.walkPlaysRow.laid w) ∧ sizedMet enc Tryz.prog Tryz.f4 (OpenSpec.ofChange Rows.walkPlaysSpec) false w args)
      (Rows.walkPlaysSpec.post enc Tryz.prog Tryz.f4 false true false false) := by
  refine returnsInHanded_of_change_and (C := Tryz.checked) (X := fun w _ => laidMetH Tryz.prog Rows.walkPlaysRow.laid w) (fun _ _ _ hh h => h.of_heap hh) ownWp started (by kernel_rfl) Tryz.func4
    (ChangeSpec.witness_at (enc := enc) (C := Tryz.checked) (os := os) (X := fun w _ => laidMetH Tryz.prog Rows.walkPlaysRow.laid w) false (laidWorldWp os) #[.slice none 0 0, .int .i64 0, .int .i64 0, .int .i64 0, .int .i64 0, .int .i64 0, .string ⟨#[]⟩] 8 rfl (by kernel_rfl) (by kernel_rfl) (by kernel_rfl) (by kernel_rfl) (by kernel_rfl) (laidWorldWp_met os _)) ?_
  intro W base args ds gs before hval0 hW _ _ hL _
  have hval : ∀ (j : Nat) t v, Tryz.f4.params[j]? = some t → args[j]? = some v → Value.okWide Tryz.prog W .any base t v := hval0
  have hW' := hW
  obtain ⟨p, q, hA0, hV, rfl, _, _⟩ := hW
  have hA : DataW.TrodAll enc Tryz.prog W 0 (fun _ => true) true Tryz.f4.params.toList args.toList ds p := hA0
  rw [Tryz.params4] at hA hval
  obtain ⟨v0, v1, v2, v3, v4, v5, v6, d0, d1, d2, d3, d4, d5, d6, p0, p1, p2, p3, p4, p5, p6, rfl, rfl, rfl, h0, h1, h2, h3, h4, h5, h6⟩ := trodAll_seven hA
  obtain ⟨rfl, rfl⟩ := trodVars_none hV
  have h0k := h0
  have h1k := h1
  have h2k := h2
  have h3k := h3
  have h4k := h4
  have h5k := h5
  have h6k := h6
  obtain ⟨a0, l0, c0, rfl, s0, m0⟩ := open_txs (okWide_slice Tryz.underlying28 (hval 0 28 v0 rfl rfl)) h0
  obtain ⟨x1, rfl, _, _, w1⟩ := open_int Tryz.underlying3 (hval 1 3 v1 rfl rfl) h1
  obtain ⟨x2, rfl, _, _, w2⟩ := open_int Tryz.underlying3 (hval 2 3 v2 rfl rfl) h2
  obtain ⟨x3, rfl, _, _, w3⟩ := open_int Tryz.underlying3 (hval 3 3 v3 rfl rfl) h3
  obtain ⟨x4, rfl, _, _, w4⟩ := open_int Tryz.underlying3 (hval 4 3 v4 rfl rfl) h4
  obtain ⟨x5, rfl, _, _, w5⟩ := open_int Tryz.underlying3 (hval 5 3 v5 rfl rfl) h5
  obtain ⟨x6, rfl, _, _, _⟩ := ChangeMaps.open_string Tryz.underlying9 (hval 6 9 v6 rfl rfl) h6
  have hlt : ∀ x ∈ p0 ++ p1 ++ p2 ++ p3 ++ p4 ++ p5 ++ p6, x.block < W.heap.size := fun x hx => by have := hW'.lt x (by simpa using hx); simpa using this
  clear hA0 hval0 h0 h1 h2 h3 h4 h5 h6
  simp only [List.append_nil] at hW'
  refine (walkPlays_walk l0 x1 x2 x3 x4 x5 x6 a0 c0 W s0 m0 (wf_i64P w3) (wf_i64P w4) (powTab_of_laidWp hL) (errVar_of_laidWp hL)).mono fun e W' ⟨he, hb⟩ => ?_
  subst he
  have t0 := Below.trod laidOutWp (by kernel_rfl) (of_decide_eq_true (by kernel_rfl)) h0k hb (fun x hx => hlt x (by simp [hx]))
  have t1 := Below.trod laidOutWp (by kernel_rfl) (of_decide_eq_true (by kernel_rfl)) h1k hb (fun x hx => hlt x (by simp [hx]))
  have t2 := Below.trod laidOutWp (by kernel_rfl) (of_decide_eq_true (by kernel_rfl)) h2k hb (fun x hx => hlt x (by simp [hx]))
  have t3 := Below.trod laidOutWp (by kernel_rfl) (of_decide_eq_true (by kernel_rfl)) h3k hb (fun x hx => hlt x (by simp [hx]))
  have t4 := Below.trod laidOutWp (by kernel_rfl) (of_decide_eq_true (by kernel_rfl)) h4k hb (fun x hx => hlt x (by simp [hx]))
  have t5 := Below.trod laidOutWp (by kernel_rfl) (of_decide_eq_true (by kernel_rfl)) h5k hb (fun x hx => hlt x (by simp [hx]))
  have t6 := Below.trod laidOutWp (by kernel_rfl) (of_decide_eq_true (by kernel_rfl)) h6k hb (fun x hx => hlt x (by simp [hx]))
  exact ⟨_, rfl, _, _, _, [], _, [], hW', trodAll_mk1 (shut_bool Tryz.underlying4 _), trodAll_mk7 t0 t1 t2 t3 t4 t5 t6, rfl, hb.frame _, fun h => by cases h⟩

theorem walkPlays_row : Rows.WalkPlaysSaid :=
  OpenClaim.holds_of_wide 4 Tryz.f4 rfl rfl rfl rfl rfl rfl rfl ⟨rfl, rfl, rfl, rfl, rfl⟩ rfl rfl rfl rfl rfl (by kernel_rfl) Tryz.func4 jWp
    (of_decide_eq_true (by kernel_rfl)) (by unfold Func.isWrapper; first | (rw [if_pos (by decide +kernel)]; kernel_rfl) | (rw [if_neg (by decide +kernel)]; exact ⟨rfl, rfl⟩))
    (fun os started H enc _ => walkPlays_lifted os started H enc)

theorem walkPlays_holds : Rows.WalkPlaysCardSaid :=
  Claim7.holds_tied_plain_at .later [] [.data, .data, .data, .data, .handle, .pinned] true (true, "b8d250f63fa68d1bf1eab8692826e97db3b37e0597505282d86cdcb349f1085d") true
    walkPlays_row (fun _ h => by cases h) (by kernel_rfl) (fun _ h => by cases h) walkPlays_row_tie rfl ⟨rfl, rfl⟩ (by kernel_rfl) rfl
    (fun f fn hf hfn => by
      obtain rfl : f = 4 := Option.some.inj ((show Tryz.prog.funcNamed "palimpsest/palimpsestlaw.WalkPlays" = some 4 by kernel_rfl).symm.trans hf) |>.symm
      obtain rfl : fn = Tryz.f4 := (Option.some.inj (Tryz.func4.symm.trans hfn)).symm
      exact ⟨by kernel_rfl, fun j t ht => by
        rw [Tryz.params4] at ht
        rcases j with _ | _ | _ | _ | _ | _ | _ | j
        · have : t = 28 := by simpa using ht.symm
          subst this
          exact (show Tryz.prog.wantsStandIn 28 = false by kernel_rfl)
        · have : t = 3 := by simpa using ht.symm
          subst this
          exact (show Tryz.prog.wantsStandIn 3 = false by kernel_rfl)
        · have : t = 3 := by simpa using ht.symm
          subst this
          exact (show Tryz.prog.wantsStandIn 3 = false by kernel_rfl)
        · have : t = 3 := by simpa using ht.symm
          subst this
          exact (show Tryz.prog.wantsStandIn 3 = false by kernel_rfl)
        · have : t = 3 := by simpa using ht.symm
          subst this
          exact (show Tryz.prog.wantsStandIn 3 = false by kernel_rfl)
        · have : t = 3 := by simpa using ht.symm
          subst this
          exact (show Tryz.prog.wantsStandIn 3 = false by kernel_rfl)
        · have : t = 9 := by simpa using ht.symm
          subst this
          exact (show Tryz.prog.wantsStandIn 9 = false by kernel_rfl)
        · simp at ht⟩)
    (by kernel_rfl)
#print axioms walkPlays_holds
end Go.Proofs.YtflhpmgjehjjkaaGreatDoor
