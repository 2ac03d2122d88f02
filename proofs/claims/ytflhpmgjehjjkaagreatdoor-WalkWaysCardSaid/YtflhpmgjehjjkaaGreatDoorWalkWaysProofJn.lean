/- WalkWays is proved: whatever slice of Says, whatever two numbers and whatever bool come in, the call returns true, and each argument reads afterwards as it read before; the package-level variables that the row lists are tied to the program's text by the card. There are no other conditions. -/
import Derived.Laws.EntriesVeiled
import Derived.Deep.RegionHeld3
import Derived.Deep.DeepCutAuto
import Derived.Carry
import Derived.SevenTiedAt
import Derived.ChangeSame
import Derived.ChangeVars
import Derived.JoinedOf
import Derived.RowKit
import Derived.RowKitTokens
import Derived.LaidLaws
import Derived.LaidHandle
import Derived.LaidSub
import Derived.Lay
import Derived.Stop.Joined
import Derived.Test.YtflhpmgjehjjkaaGreatDoorWkLJn
import Derived.Test.YtflhpmgjehjjkaaGreatDoorWkIJn
import Derived.Test.YtflhpmgjehjjkaaGreatDoorRpJJn
import Derived.Test.YtflhpmgjehjjkaaGreatDoorWkDJn
import Derived.Test.YtflhpmgjehjjkaaGreatDoorWkPJn
import Derived.Test.YtflhpmgjehjjkaaGreatDoorErrCJn
import Derived.Test.YtflhpmgjehjjkaaGreatDoorPickJn
import Derived.Test.YtflhpmgjehjjkaaGreatDoorWwJJn
import Derived.Test.YtflhpmgjehjjkaaGreatDoorSayOJn
import Derived.Test.YtflhpmgjehjjkaaGreatDoorTie
import Derived.Test.YtflhpmgjehjjkaaGreatDoorCards
namespace Go.Proofs.YtflhpmgjehjjkaaGreatDoor
open Go.RowKit Go.Deep Go.Shelf Go.Sort Go.Maps

/-! ### In plain words -/
def wx : ByteArray := ⟨#[120]⟩
def wy : ByteArray := ⟨#[121]⟩
def wto : ByteArray := ⟨#[116, 111]⟩
def wlk : List OpP := [⟨⟨1, 0, ⟨#[]⟩, 0⟩, 0, 10, wx⟩, ⟨⟨1, 1, ⟨#[]⟩, 0⟩, 0, 10, wx⟩, ⟨⟨1, 2, ⟨#[]⟩, 0⟩, 0, 10, wx⟩, ⟨⟨2, 0, wto, 1⟩, 0, 10, wy⟩, ⟨⟨2, 1, wto, 2⟩, 0, 10, wy⟩]
def wlkK : List KeyP := [⟨1, 0, ⟨#[]⟩, 0⟩, ⟨1, 1, ⟨#[]⟩, 0⟩, ⟨1, 2, ⟨#[]⟩, 0⟩, ⟨2, 0, wto, 1⟩, ⟨2, 1, wto, 2⟩]
def wlkE : List KeyP := [⟨2, 0, wto, 1⟩, ⟨2, 1, wto, 2⟩]
theorem wlk_ok : okL wlk = true := by decide +kernel
theorem wlk_all : ∀ l ∈ [] ++ [wlk], l.all opB = true := fun l hl => by
  simp at hl; subst hl; exact (okL_iff.1 wlk_ok).2
theorem wlk_less : wlkK.Pairwise (fun x y => keyLess x y = true) := by decide +kernel
theorem wlk_said : ∀ k ∈ wlkK, (saidH ([] ++ [wlk]) k 1 5).size ≠ 0 := by
  have h : (wlkK.all fun k => decide ((saidH ([] ++ [wlk]) k 1 5).size ≠ 0)) = true := by decide +kernel
  intro k hk
  simpa using List.all_eq_true.1 h k hk
theorem wlk_keys : KeysIs ([] ++ [wlk]) 1 5 wlkK := ⟨wlk_less, fun k => ⟨wlk_said k, fun h => by
  obtain ⟨l, hl, o, ho, rfl⟩ := said_in h
  simp at hl; subst hl
  have h : (wlk.all fun o => decide (o.key ∈ wlkK)) = true := by decide +kernel
  simpa using List.all_eq_true.1 h o ho⟩⟩
theorem wlk_edges : edgesP wlkK = wlkE := by decide +kernel
theorem wlk_far : (farS wlkE ⟨#[]⟩ 2 3).2 = [] := by decide +kernel
theorem wlk_way : wayP wlkE ⟨#[]⟩ (farS wlkE ⟨#[]⟩ 2 3).1 0 2 = some [0, 1, 2] := by decide +kernel
theorem wlk_hops : (hopP wlkE wto 0 1).length = 2 := by decide +kernel

theorem is_any1 (ao : Option Addr) (cap : Nat) (l : List Int) (x : Int) (w : World) (h : IntsIn w ao l) (hl : l.length ≤ 100000) : Calls Tryz.prog 15 #[.slice ao l.length cap, .int .i64 x] w fun e w' => e = .returned (.bool (decide (x ∈ l))) ∧ w = w' := by
  have H := Lib.hid h
  clear h
  go_enter Tryz.func15, Tryz.ntmps15
  go_wp2_with fail
  go_loopw [5] (fun vi X => ∃ i : Nat, i ≤ l.length ∧ vi = .int .i64 i ∧ X = w ∧ x ∉ l.take i) (fun vi _ => l.length - (intOf vi).toNat)
  case atStart => exact ⟨0, Nat.zero_le _, rfl, rfl, by simp⟩
  case round =>
    obtain ⟨i, hi, rfl, rfl, hn⟩ := hrel
    by_cases hlt : i < l.length
    · obtain ⟨b, y, rfl, hy, hbl, c0⟩ := intsIn_get H.out hlt
      have j0 : (0 : Int) ≤ (i : Int) := by omega
      have j1 : (i : Int) < (l.length : Int) := by omega
      have hst : l.take (i + 1) = l.take i ++ [y] := by rw [List.take_add_one, hy]; rfl
      have HN := Lib.hid hn
      have HY := Lib.hid hy
      have HST := Lib.hid hst
      clear hn hy hst
      by_cases e : y = x
      · have ez : (y == x) = true := by simpa using e
        have HE := Lib.hid e
        clear e
        go_wp2_with fail
        go_ret
        refine ⟨?_, rfl⟩
        rw [decide_eq_true (by rw [← HE.out]; exact List.mem_of_getElem? HY.out)]; rfl
      · have ez : (y == x) = false := by simpa using e
        have HE := Lib.hid e
        clear e
        go_wp2_with fail
        refine ⟨⟨i + 1, by omega, by go_num, trivial, fun hm => ?_⟩, by simp [intOf]; omega⟩
        rw [HST.out] at hm
        rcases List.mem_append.1 hm with hm | hm
        · exact HN.out hm
        · exact HE.out (List.mem_singleton.1 hm).symm
    · obtain rfl : i = l.length := by omega
      rw [List.take_of_length_le (Nat.le_refl _)] at hn
      have HN := Lib.hid hn
      clear hn
      go_wp2_with fail
      go_ret
      exact ⟨by rw [decide_eq_false HN.out]; rfl, rfl⟩

/-- One change more. -/
theorem appOp1 {W : World} {ops : Array Oper} {rest : List Oper} {o : Oper} {a : Act} {Q : Exit → Act → World → Prop} (hgd : o.guard = none) (s x : Operand)
    (ho : o.op = .call { callee := .builtin .append, args := #[s, x], argTypes := #[33, 33] }) (base : Nat) (v : Value) (l : List OpP) (hs : a.eval s = v) (hown : W.ownsRow base 70 7 v l.length (flatW l))
    (b : Nat) (q : OpP) (hx : a.eval x = .slice (some ⟨b, 0, none⟩) 1 1) (hc : ∀ j y, (opCells q)[j]? = some y → W.cell? ⟨b, j, none⟩ = some y)
    (hbytes : (l.length + 1) * 72 ≤ 140737488355328) (hbase : base ≤ W.heap.size) (w0 : World) (hB : Below base w0 W)
    (h : ∀ v' w', w'.ownsRow base 70 7 v' (l ++ [q]).length (flatW (l ++ [q])) → Below base w0 w' → W.heap.size ≤ w'.heap.size → wpList Tryz.prog ops Q rest (a.put o.dst v') w') : wpList Tryz.prog ops Q (o :: rest) a W := by
  refine app1 hgd s x _ ho base 70 Tryz.underlying33 infoOpW rfl (by decide) (by decide) v l.length (flatW l) hs hown b (opCells q) hx rfl (opCells_one q) (fun j u hu => hc j u hu) hbytes hbase w0 hB fun v' w' h2 h3 h4 _ _ => h v' w' ?_ h3 h4
  rw [flatW_snoc, List.length_append]; exact h2
set_option maxRecDepth 100000 in
set_option maxHeartbeats 8000000 in
theorem walked_any (w : World) (hg : PowTab w) : Calls Tryz.prog 7 #[] w fun e w' => e = .returned (.bool true) ∧ Below w.heap.size w w' := by
  have HG := Lib.hid hg
  clear hg
  obtain ⟨pb, hpb⟩ : ∃ pb, pb = w.heap.size := ⟨_, rfl⟩
  obtain ⟨V, hV⟩ : ∃ V, V = (w.alloc (.cells #[.int .i64 0, .int .i64 0, .int .i64 0, .map none, .map none] 27)).alloc (.cells #[.int .i64 0, .int .i64 10] 68) := ⟨_, rfl⟩
  have hs : V.heap.size = pb + 2 := by rw [hV, hpb]; simp
  have bV : Below w.heap.size w V := by rw [hV]; exact ((Below.refl _ w).alloc (Nat.le_refl _) _).alloc (by simp) _
  have hpa : V.heap[pb]? = some (.cells (pcells ⟨[], [], 27⟩ 0 0 0 none none) 27 (0, 0)) := by
    rw [hV, hpb]; exact block_alloc (block_alloc_new _ _) _
  have hsp : V.heap[pb + 1]? = some (.cells #[.int .i64 0, .int .i64 10] 68 (0, 0)) := by
    rw [hV, hpb]; exact new_blk _ _ _ _ (by simp)
  have HP0 := Lib.hid (past_is_new (R := ⟨[], [], 27⟩) (po := 0) rfl hpa)
  have HSP := Lib.hid hsp
  have HBV := Lib.hid bV
  have HS := Lib.hid hs
  have HV := Lib.hid hV
  have HPB := Lib.hid hpb
  clear hV hpa hsp bV hs hpb
  go_enter Tryz.func7, Tryz.ntmps7
  go_wp2_with fail
  rw [← HV.out, ← HPB.out]
  go_loopw [3, 4] (fun v vi X => ∃ n : Nat, n ≤ 3 ∧ vi = .int .i64 n ∧ X.ownsRow V.heap.size 70 7 v (wlk.take n).length (flatW (wlk.take n)) ∧ Below V.heap.size V X) (fun _ vi _ => 3 - (intOf vi).toNat)
  case atStart => exact ⟨0, Nat.zero_le _, rfl, World.ownsRow_nil _ _ _ _, Below.refl _ _⟩
  case round =>
    obtain ⟨n, hn, rfl, hown, hb⟩ := hrel
    have hbl := (hb.block (pb + 1) (by rw [HS.out]; omega)).trans HSP.out
    have s0 : wr.cell? ⟨pb + 1, 0, none⟩ = some (.int .i64 0) := block_cell hbl 0
    have s1 : wr.cell? ⟨pb + 1, 1, none⟩ = some (.int .i64 10) := block_cell hbl 1
    have hsl : pb + 1 < wr.heap.size := lt_of_block hbl
    have hsz := hb.size
    have HO := Lib.hid hown
    have HB := Lib.hid hb
    clear hown hb hbl
    by_cases hlt : n < 3
    · have hst : wlk.take (n + 1) = wlk.take n ++ [⟨⟨1, n, ⟨#[]⟩, 0⟩, 0, 10, wx⟩] := by
        rcases (by omega : n = 0 ∨ n = 1 ∨ n = 2) with rfl | rfl | rfl <;> rfl
      have hl3 : (wlk.take n).length ≤ 5 := by rw [List.length_take]; exact Nat.min_le_right _ _
      have HST := Lib.hid hst
      have hnz : (n : Int) < 3 := by omega
      obtain ⟨L, hL⟩ : ∃ L, L = wlk.take n := ⟨_, rfl⟩
      rw [← hL] at HO HST hl3
      clear hst hL
      go_wp2_with (at_builtin; refine appOp1 rfl _ _ rfl V.heap.size _ L rfl (HO.out.alloc _) wr.heap.size ⟨⟨1, n, ⟨#[]⟩, 0⟩, 0, 10, wx⟩ rfl (fun j y hj => (block_cell (block_alloc_new wr _) j).trans (by simpa [opCells, wx] using hj)) (by omega) (by simp; omega) V (HB.out.alloc (by omega) _) ?_; intro v' w6 hown6 hB6 hs6)
      exact ⟨⟨n + 1, by omega, by go_num, by rw [HST.out]; exact hown6, hB6⟩, by simp [intOf]; omega⟩
    · obtain rfl : n = 3 := by omega
      have hbase : V.heap.size ≤ wr.heap.size := hsz
      go_wp2_with (at_builtin; refine appMany rfl _ _ 33 rfl V.heap.size 70 Tryz.underlying33 infoOpW rfl (by decide) _ 3 (flatW (wlk.take 3)) rfl (HO.out.alloc _) (some ⟨wr.heap.size, 0, none⟩) 2 2 rfl (fun e => by cases e) (opCells ⟨⟨2, 0, wto, 1⟩, 0, 10, wy⟩ ++ opCells ⟨⟨2, 1, wto, 2⟩, 0, 10, wy⟩) rfl (fun p e j u hu => by cases e; rw [add_at, Nat.zero_add]; exact (block_cell (block_alloc_new wr _) j).trans (by simpa [opCells, wto, wy] using hu)) (fun u hu => by rcases List.mem_append.1 hu with hu | hu <;> exact opCells_one _ u hu) (by unfold maxLen; omega) (by omega) (by simp; omega) V (HB.out.alloc (by omega) _) ?_; intro v' w7 hown7 hB7 hs7 _ _)
      obtain ⟨ob, oc, rfl, hob, hat⟩ := ownsRow_opsW (l := wlk) hown7 (by decide)
      have hpb7 : w7.heap[pb]? = V.heap[pb]? := hB7.block pb (by rw [HS.out]; omega)
      have hP7 := HP0.out.below hB7
      have C1 := Lib.hid (commit_is (some ⟨ob, 0, none⟩) oc wlk pb 0 ⟨[], [], 27⟩ [] _ _ w7 hP7 hat (fun b f e hf => by cases e; have := foot_new hf; have := HS.out; omega) (HG.out.below (HBV.out.trans (hB7.mono HBV.out.size))) wlk_ok (by decide))
      have B7 := Lib.hid (HBV.out.trans (hB7.mono HBV.out.size))
      clear hown7 hB7 hpb7 hP7 hat s0 s1
      go_wp2_with fail
      refine C1.out.mono ?_
      rintro e W2 ⟨s2, g2, rfl, P2, hgo, F2, G2⟩
      have hgo0 : s2.gone ≤ 0 := by rw [hgo]; exact Int.le_refl _
      have B2 : Below w.heap.size w W2 := B7.out.trans (F2.below (fun k _ h => by rw [foot_new h, HPB.out]; exact Nat.le_refl _) B7.out.size)
      have CA := Lib.hid (at_ok 1 5 pb 0 ⟨[], [], 27⟩ _ s2 g2 W2 P2 wlk_all (by decide) (by omega) (by decide))
      have HB2 := Lib.hid B2
      clear P2 hgo F2 G2 B2 C1
      go_wp2_with fail
      refine CA.out.mono ?_
      rintro e W3 ⟨gb, nb, eo, L, rfl, hKI, hkB, hGA, hGP, b3⟩
      obtain rfl : L = wlkK := hKI.one wlk_keys fun _ => rfl
      rw [wlk_edges] at hGA
      have HGA := Lib.hid hGA
      have HB3 := Lib.hid (HB2.out.trans (b3.mono HB2.out.size))
      have n0 : ((nodesV ([] ++ [wlk]) 1 5 wlkK).lookup 0).isSome = true := by decide +kernel
      have n2 : ((nodesV ([] ++ [wlk]) 1 5 wlkK).lookup 2).isSome = true := by decide +kernel
      have CW := Lib.hid (way_ok 0 2 ⟨#[]⟩ W3 hGA (fun k hk => by simp [wlkE] at hk; rcases hk with rfl | rfl <;> decide) (by unfold i64; omega) (by unfold i64; omega) n0 n2)
      clear hKI hkB hGA hGP b3 CA
      go_wp2_with fail
      refine CW.out.mono ?_
      rintro e W4 ⟨n, hn, b4, hway⟩
      rw [farS_one hn wlk_far, wlk_way] at hway
      obtain ⟨v4, rfl, own4⟩ := hway
      obtain ⟨ao4, c4, rfl, hin4⟩ := ownsRow_intsIn own4
      obtain ⟨b1, y1, rfl, hy1, hbl1, d1⟩ := intsIn_get hin4 (show 1 < ([0, 1, 2] : List Int).length by decide)
      obtain rfl : y1 = 1 := by simpa using hy1.symm
      have CH := Lib.hid (hops_ok 0 1 wto W4 (HGA.out.below b4) (by unfold i64; omega) n0 (by decide))
      have HB4 := Lib.hid (HB3.out.trans (b4.mono HB3.out.size))
      clear hn b4 own4 hin4 hy1 CW n0 n2
      rw [wlk_hops] at CH
      go_wp2_with fail
      refine CH.out.mono ?_
      rintro e W5 ⟨v5, rfl, own5, b5⟩
      obtain ⟨ao5, c5, e5, _, _⟩ := own_shape own5
      subst e5
      have d1' := below_cell b5 hbl1 d1
      have hbl5 := Nat.lt_of_lt_of_le hbl1 b5.size
      have HB5 := Lib.hid (HB4.out.trans (b5.mono HB4.out.size))
      clear own5 b5 CH d1
      go_wp2_with fail
      go_ret
      exact ⟨rfl, HB5.out⟩
end Go.Proofs.YtflhpmgjehjjkaaGreatDoor

namespace Go.Proofs.YtflhpmgjehjjkaaGreatDoor
open Go.RowKit Go.Deep Go.Shelf Go.Sort Go.Maps

theorem edge_i64 {L : List KeyP} (hB : ∀ k ∈ L, keyB k = true) : ∀ p ∈ (edgesP L).map (fun k => (k.a, k.b)), i64 p.1 ∧ i64 p.2 := fun p hp => by
  obtain ⟨k, hk, rfl⟩ := List.mem_map.1 hp
  exact key_i64 (hB k ((List.mem_filter.1 hk).1))
theorem node_i64 {L : List KeyP} (hB : ∀ k ∈ L, keyB k = true) : ∀ x ∈ nodesP L, i64 x := fun x hx => by
  unfold nodesP at hx
  obtain ⟨k, hk, rfl⟩ := List.mem_map.1 hx
  exact (key_i64 (hB k ((List.mem_filter.1 hk).1))).1
theorem KeysIn.frame {F : Nat → Prop} {w w' : World} {ao : Option Addr} {l : List KeyP} (h : KeysIn w ao l) (hf : Fr F w w') (hn : ∀ b, ao = some ⟨b, 0, none⟩ → ¬ F b) : KeysIn w' ao l := fun j p hp => by
  obtain ⟨b, h1, h2, h3, h4, h5⟩ := h j p hp
  have hl := World.block_lt_of_cell? w _ h2
  have e := hf.block b hl (hn b h1)
  exact ⟨b, h1, (World.cell?_of_block (a := ⟨b, _, none⟩) e).trans h2, (World.cell?_of_block (a := ⟨b, _, none⟩) e).trans h3, (World.cell?_of_block (a := ⟨b, _, none⟩) e).trans h4, (World.cell?_of_block (a := ⟨b, _, none⟩) e).trans h5⟩
/-- A map's block has no cells. -/
theorem owns_no_cell {P : Program} {k : TypeId} {R : Value → Option (DataW Unit × List MemPlace)} {w : World} {b n i : Nat} {D : DataW Unit} {v : Value} (h : w.ownsMap P k R b n D) (hc : w.cell? ⟨b, i, none⟩ = some v) : False := by
  obtain ⟨es, clock, hb, _⟩ := h
  simp [World.cell?, hb] at hc
structure WayGood (E : List KeyP) (word : ByteArray) (x y : Int) (W : List Int) (h1 : Nat) : Prop where
  len : W.length = h1 + 1
  w0 : W[0]? = some x
  wl : W[h1]? = some y
  steps : stepsOk E W = true
  le : h1 ≤ 4
  near : y ∈ hopP E word x h1
  less : h1 = 0 ∨ (y ∉ hopP E word x (h1 - 1) ∧ (hopP E word x (h1 - 1)).length ≤ (hopP E word x h1).length)
theorem way_good {E : List KeyP} {word : ByteArray} {x y : Int} (hp : PairIs E word x y) {W : List Int} (h : wayP E word (farS E word y 6).1 x y = Option.some W) : y ∈ hopP E word x 5 ∧ ∃ h1, WayGood E word x y W h1 := by
  obtain ⟨hin, hhd, hlast, hsteps, hlen, hnear, hless⟩ := hp.some W h
  refine ⟨hin, ?_⟩
  obtain ⟨h1, hl1⟩ : ∃ h1, W.length = h1 + 1 := by
    cases W with
    | nil => simp at hhd
    | cons u W => exact ⟨_, rfl⟩
  refine ⟨h1, hl1, ?_, ?_, hsteps, by omega, ?_, ?_⟩
  · cases W with
    | nil => simp at hhd
    | cons u W => simpa using hhd
  · rw [List.getLast?_eq_getElem?, hl1] at hlast; simpa using hlast
  · rw [hl1] at hnear; simpa using hnear
  · rw [hl1, show h1 + 1 - 2 = h1 - 1 by omega, Nat.add_sub_cancel] at hless
    exact hless.imp (fun h => by omega) id
/-- What Way hands back. -/
def wayOut (o : Option (List Int)) (base : Nat) (e : Ending) (w' : World) : Prop := match o with
  | none => e = .returned (.tuple #[.slice none 0 0, errV 8])
  | some W => ∃ v, e = .returned (.tuple #[v, .nilIface]) ∧ w'.ownsRow base 3 1 v W.length (W.map (Value.int .i64))
theorem way_split (x y : Int) (word : ByteArray) (w : World) {gb nb : Nat} {eo : Option Addr} {N : List (Int × ByteArray)} {E : List KeyP} (hG : GAt w gb nb eo N E) (hE0 : ∀ k ∈ E, 0 ≤ k.b) (hx : i64 x) (hy : i64 y) (hinx : (N.lookup x).isSome = true) (hiny : (N.lookup y).isSome = true) (hp : PairIs E word x y) :
    (y ∉ hopP E word x 5 ∧ Calls Tryz.prog 17 #[.pointer (some ⟨gb, 0, none⟩), .int .i64 x, .int .i64 y, .string word] w fun e w' => e = .returned (.tuple #[.slice none 0 0, .iface 52 (.int .i64 8)]) ∧ Below w.heap.size w w') ∨
    (y ∈ hopP E word x 5 ∧ ∃ W h1, WayGood E word x y W h1 ∧ Calls Tryz.prog 17 #[.pointer (some ⟨gb, 0, none⟩), .int .i64 x, .int .i64 y, .string word] w fun e w' => ∃ ao cap, e = .returned (.tuple #[.slice ao (h1 + 1) cap, .nilIface]) ∧ IntsIn w' ao W ∧ Below w.heap.size w w') := by
  have CW := way_ok x y word w hG hE0 hx hy hinx hiny
  obtain ⟨o, ho⟩ : ∃ o, wayP E word (farS E word y 6).1 x y = o := ⟨_, rfl⟩
  have CW2 : Calls Tryz.prog 17 #[.pointer (some ⟨gb, 0, none⟩), .int .i64 x, .int .i64 y, .string word] w fun e w' => Below w.heap.size w w' ∧ wayOut o w.heap.size e w' := CW.mono (by
    rintro e w' ⟨n, hn, hb, hm⟩
    rw [way_at hp hn, ho] at hm
    refine ⟨hb, ?_⟩
    cases o with
    | none => exact hm
    | some W => exact hm)
  clear CW
  cases o with
  | none => exact .inl ⟨hp.none ho, CW2.mono fun e w' h => ⟨h.2, h.1⟩⟩
  | some W =>
    obtain ⟨hin, h1, hg⟩ := way_good hp ho
    refine .inr ⟨hin, W, h1, hg, CW2.mono fun e w' h => ?_⟩
    obtain ⟨hb, v, rfl, hown⟩ := h
    obtain ⟨ao, cap, rfl, hin⟩ := ownsRow_intsIn hown
    exact ⟨ao, cap, by rw [hg.len], hin, hb⟩
theorem hops_far (x z : Int) (n : Nat) (hz : z = n) (h5 : 5 ≤ n) (hn : n ≤ 1048576) (word : ByteArray) (w : World) {gb nb : Nat} {eo : Option Addr} {N : List (Int × ByteArray)} {E : List KeyP} (hG : GAt w gb nb eo N E) (hx : i64 x) (hin : (N.lookup x).isSome = true) (hp : PairIs E word x x) :
    Calls Tryz.prog 16 #[.pointer (some ⟨gb, 0, none⟩), .int .i64 x, .string word, .int .i64 z] w fun e w' => ∃ v, e = .returned (.tuple #[v, .nilIface]) ∧ w'.ownsRow w.heap.size 3 1 v (hopP E word x 5).length ((sortI (hopP E word x 5)).map (Value.int .i64)) ∧ Below w.heap.size w w' := by
  have h := hops_ok x n word w hG hx hin hn
  rw [hopS_more hp.hop h5, ← hz] at h
  exact h
theorem hops_z (x : Int) (h : Nat) (z : Int) (hz : z = h) (hh : h ≤ 1048576) (word : ByteArray) (w : World) {gb nb : Nat} {eo : Option Addr} {N : List (Int × ByteArray)} {E : List KeyP} (hG : GAt w gb nb eo N E) (hx : i64 x) (hin : (N.lookup x).isSome = true) (H : List Int) (hH : H = sortI (hopP E word x h)) :
    Calls Tryz.prog 16 #[.pointer (some ⟨gb, 0, none⟩), .int .i64 x, .string word, .int .i64 z] w fun e w' => ∃ ao cap, e = .returned (.tuple #[.slice ao H.length cap, .nilIface]) ∧ IntsIn w' ao H ∧ Below w.heap.size w w' := by
  subst hz
  subst hH
  refine (hops_ok x h word w hG hx hin hh).mono ?_
  rintro e w' ⟨v, rfl, hown, hb⟩
  obtain ⟨ao, cap, rfl, hin⟩ := ownsRow_intsIn hown
  exact ⟨ao, cap, rfl, hin, hb⟩
/-- What is in memory once the graph is there. -/
structure WW (w : World) (gb nb mb : Nat) (eo no : Option Addr) (N : List (Int × ByteArray)) (E : List KeyP) (Nd : List Int) : Prop where
  g : GAt w gb nb eo N E
  m : EM w mb (E.map fun k => (k.a, k.b))
  n : IntsIn w no Nd
  v : ErrVar w
theorem WW.below {w w' : World} {gb nb mb : Nat} {eo no : Option Addr} {N : List (Int × ByteArray)} {E : List KeyP} {Nd : List Int} (h : WW w gb nb mb eo no N E Nd) (hb : Below w.heap.size w w') : WW w' gb nb mb eo no N E Nd := ⟨h.g.below hb, h.m.below hb, h.n.below hb, h.v.below hb⟩
set_option maxRecDepth 100000 in
set_option maxHeartbeats 4000000 in
theorem walkWays_walk (l : List SayP) (at_ time : Int) (any : Bool) (ao : Option Addr) (cap : Nat) (w : World) (hl : saysAt w ao l) (hlm : l.length ≤ maxLen) (hi : ∀ s ∈ l, s.Ok) (ha : i64B at_) (ht : i64B time) (hg : PowTab w) (hv : ErrVar w) :
    Calls Tryz.prog 3 #[.slice ao l.length cap, .int .i64 at_, .int .i64 time, .bool any] w fun e w' => e = .returned (.bool true) ∧ Below w.heap.size w w' := by
  have hmm := @run_makeMap Tryz.prog
  unfold maxLen at hlm
  have HL := Lib.hid hl
  have HI := Lib.hid hi
  have HG := Lib.hid hg
  have HV := Lib.hid hv
  clear hl hi hg hv
  by_cases hs : l.length ≤ 60
  · have HWD := Lib.hid (walked_any w HG.out)
    have hsz : ¬ (l.length : Int) > 60 := by omega
    go_enter Tryz.func3, Tryz.ntmps3
    go_wp2_with fail
    refine HWD.out.mono ?_
    rintro e W1 ⟨rfl, b1⟩
    have B1 := Lib.hid b1
    clear b1 HWD
    obtain ⟨pa, hpa⟩ : ∃ pa, pa = W1.heap.size := ⟨_, rfl⟩
    obtain ⟨V, hV⟩ : ∃ V, V = W1.alloc (.cells #[.int .i64 0, .int .i64 0, .int .i64 0, .map none, .map none] 27) := ⟨_, rfl⟩
    have hVs : V.heap.size = pa + 1 := by rw [hV, hpa]; simp
    have hbl : V.heap[pa]? = some (.cells (pcells ⟨[], [], 27⟩ 0 0 0 none none) 27 (0, 0)) := by rw [hV, hpa]; exact block_alloc_new _ _
    have bV : Below w.heap.size w V := B1.out.trans (by rw [hV]; exact ((Below.refl _ _).alloc (Nat.le_refl _) _).mono B1.out.size)
    have OP := Lib.hid (ops_any l ao cap V (HL.out.below bV) (by omega) HI.out)
    have HPA := Lib.hid hpa
    have HVS := Lib.hid hVs
    have HBL := Lib.hid hbl
    have HBV := Lib.hid bV
    have HV1 := Lib.hid hV
    clear hV hpa hVs hbl bV
    go_wp2_with (rw [← HV1.out, ← HPA.out])
    refine OP.out.mono ?_
    rintro e Z ⟨v, rfl, ⟨ta, tc, rfl, hT⟩, bZ⟩
    have hZs : pa + 1 ≤ Z.heap.size := by rw [← HVS.out]; exact bZ.size
    have hP0 : P1 Z pa ⟨[], [], 27⟩ [] ⟨0, 0, 0, []⟩ noGh Z := ⟨past_is_new rfl ((bZ.block pa (by rw [HVS.out]; omega)).trans HBL.out), rfl, (fun k h => .inl (foot_new h)), Fr.refl _ _⟩
    rw [HVS.out] at hT
    have HT := Lib.hid hT
    have HP0 := Lib.hid hP0
    have B0Z := Lib.hid (HBV.out.trans (bZ.mono HBV.out.size))
    have hTl : (opsT l).length ≤ 60 := Nat.le_trans (opsT_len l) hs
    have HOK := Lib.hid (opsT_ok l)
    have hwp : w.heap.size ≤ pa := by rw [HPA.out]; exact B1.out.size
    have HNINE := Lib.hid fun a t L (h : KeysIs ((opsT l).take (opsT l).length) a t L) => keys_nine h
    clear bZ hP0 hT OP HV1 HBL
    generalize opsT l = T at *
    go_wp2_with fail
    go_loopw [11] (fun i wr => ∃ j : Nat, j ≤ T.length ∧ i = .int .i64 j ∧ ∃ s g, P1 Z pa ⟨[], [], 27⟩ (T.take j) s g wr) (fun i _ => T.length - (intOf i).toNat)
    case atStart => exact ⟨0, Nat.zero_le _, rfl, _, _, by rw [List.take_zero]; exact HP0.out⟩
    case round =>
      obtain ⟨j, hj, rfl, s, g, hP⟩ := hrel
      have hBw : Below w.heap.size w wr := B0Z.out.trans (hP.fr.below (fun k _ h => by omega) B0Z.out.size)
      by_cases hlt : j < T.length
      · obtain ⟨t, ht'⟩ : ∃ t, T[j]? = some t := ⟨_, List.getElem?_eq_getElem hlt⟩
        obtain ⟨b0, b, cap2, rfl, hb0, hc, hbb, ho⟩ := HT.out j t ht'
        have htk : T.take (j + 1) = T.take j ++ [t] := by rw [List.take_add_one, ht']; rfl
        have hokt := HOK.out t (List.mem_of_getElem? ht')
        have hjl : (T.take j).length = j := by rw [List.length_take]; omega
        have c1 : wr.cell? ⟨b0, j, none⟩ = some (.slice (some ⟨b, 0, none⟩) t.length cap2) := (World.cell?_of_block (a := ⟨b0, j, none⟩) (hP.fr.block b0 hb0.2 (by omega))).trans hc
        have CA := Lib.hid (commit_is (some ⟨b, 0, none⟩) cap2 t pa 0 ⟨[], [], 27⟩ (T.take j) s g wr hP.p (hP.ops (zo := pa + 1) (by omega) hbb ho) (hP.sep (zo := pa + 1) (by omega) hbb) (HG.out.below hBw) hokt (by omega))
        have HP := Lib.hid hP
        have HTK := Lib.hid htk
        clear hP htk ho hc hjl ht' hBw
        have j0 : (0 : Int) ≤ (j : Int) := by omega
        have j1 : (j : Int) < (T.length : Int) := by omega
        go_wp2_with fail
        refine CA.out.mono ?_
        rintro e X1 ⟨s1, g1, rfl, pA, gA, fA, GA⟩
        have H2 := Lib.hid (HP.out.commit pA gA fA GA)
        clear pA gA fA GA CA
        go_wp2_with fail
        exact ⟨⟨j + 1, by omega, by go_num, s1, g1, by rw [HTK.out]; exact H2.out⟩, by simp [intOf]; omega⟩
      · obtain rfl : j = T.length := by omega
        have hnow := hP.p.now
        rw [List.length_take, Nat.min_self] at hnow
        have hgo := hP.gone
        have pa1 := pickI_lt at_ ((T.length : Int) + 1) (by omega) (by omega)
        have pt1 := pickI_lt time 70 (by decide) (by decide)
        obtain ⟨a, hA⟩ : ∃ a : Nat, pickI at_ ((T.length : Int) + 1) = a := ⟨(pickI at_ ((T.length : Int) + 1)).toNat, by omega⟩
        have CN := pnow_any pa 0 ⟨[], [], 27⟩ s g wr hP.p.at'
        have CPA := pick_any at_ ((T.length : Int) + 1) wr ha.1 (by have := ha.2; omega) (by omega) (by omega)
        have CPT := pick_any time 70 wr ht.1 (by have := ht.2; omega) (by decide) (by decide)
        rw [hnow] at CN
        rw [hA] at CPA pa1
        generalize pickI time 70 = tv at *
        have htb : timeB tv = true := by unfold timeB; simp; omega
        have hwr : IntKind.i64.wrap ((T.length : Int) + 1) = (T.length : Int) + 1 := IntWalk.i64_in _ (by omega)
        have CW := Lib.hid (at_ok a tv pa 0 ⟨[], [], 27⟩ (T.take T.length) s g wr hP.p (fun l hl => (okL_iff.1 (HOK.out l (List.mem_of_mem_take hl))).2) htb (by omega) (by rw [List.length_take, Nat.min_self]; omega))
        have CN := Lib.hid CN
        have CPA := Lib.hid CPA
        have CPT := Lib.hid CPT
        have HBW := Lib.hid hBw
        clear hP hnow hgo hA pa1 pt1 htb hBw HP0 HT
        go_upto_if 68 with (first
          | (go_at_call 12; (with_reducible refine CN.out.mono ?_); rintro e w1 ⟨rfl, rfl⟩)
          | (go_at_call 11; (first | (with_reducible refine CPA.out.mono ?_) | (with_reducible refine CPT.out.mono ?_)); rintro e w1 ⟨rfl, rfl⟩)
          | (go_at_call 10; (with_reducible refine CW.out.mono ?_); rintro e W3 ⟨gb, nb, eo, L, rfl, hKI, hkB, hGA, hGP, b3⟩; have HKI := Lib.hid hKI; have HKB := Lib.hid hkB; have HGA := Lib.hid hGA; have B3 := Lib.hid (HBW.out.trans (b3.mono HBW.out.size)); clear hKI hkB hGA hGP b3))
        go_cut [14] (fun v wx => wx = W3 ∧ ∃ word : ByteArray, v = .string word ∧ (word = ⟨#[]⟩ ∨ word = ⟨#[116, 111]⟩))
        case first =>
          cases any
          · go_wp2_with fail
            go_meet
            exact ⟨rfl, _, rfl, .inr rfl⟩
          · go_wp2_with fail
            go_meet
            exact ⟨rfl, _, rfl, .inl rfl⟩
        case rest =>
        obtain ⟨hwc, word, rfl, hword⟩ := hcut
        have hwc := hwc.symm
        subst hwc
        have HWORD := Lib.hid hword
        have hnine := HNINE.out a tv L HKI.out
        have HGO := Lib.hid (graph_ok HKI.out.1 hnine)
        have HEB := Lib.hid (edge_b hnine)
        obtain ⟨N, hN⟩ : ∃ N, N = nodesV (T.take T.length) a tv L := ⟨_, rfl⟩
        obtain ⟨E, hE⟩ : ∃ E, E = edgesP L := ⟨_, rfl⟩
        have hNf : N.map (·.1) = nodesP L := by rw [hN]; exact nodesV_fst _ _ _ _
        obtain ⟨Nd, hNd⟩ : ∃ Nd, Nd = sortI (nodesP L) := ⟨_, rfl⟩
        have hNdl : Nd.length = N.length := by rw [hNd, sortI_length, ← hNf, List.length_map]
        have hNm : ∀ x, x ∈ Nd → x ∈ nodesP L := fun x hx => (mem_sortI _ _).2 (by rw [← hNd]; exact hx)
        have hEi : ∀ p ∈ E.map (fun k => (k.a, k.b)), i64 p.1 ∧ i64 p.2 := by rw [hE]; exact edge_i64 HKB.out
        have hNi : ∀ x ∈ Nd, i64 x ∧ (N.lookup x).isSome = true := fun x hx => ⟨node_i64 HKB.out x (hNm x hx), lookup_some.2 (by rw [hNf]; exact hNm x hx)⟩
        have hPair : ∀ x ∈ Nd, ∀ y ∈ Nd, PairIs E word x y := fun x hx y hy => by rw [hE]; exact pair_of HGO.out HWORD.out (hNm x hx) (hNm y hy)
        rw [← hE] at HEB
        rw [← hN, ← hE] at HGA
        have hEl : E.length ≤ 4000 := HGA.out.elen
        have hNd4 : Nd.length ≤ 4000 := by have := HGA.out.nlen; omega
        have HEI := Lib.hid hEi
        have HNI := Lib.hid hNi
        have HPAIR := Lib.hid hPair
        have HNF := Lib.hid hNf
        have HND := Lib.hid hNd
        have HNDL := Lib.hid hNdl
        have HVB := Lib.hid (HV.out.below B3.out)
        clear hnine hN hE hNf hNd hNdl hNm hEi hNi hPair hword HGO HNINE HOK
        obtain ⟨mb, hmb⟩ : ∃ mb, mb = W3.heap.size := ⟨_, rfl⟩
        obtain ⟨W4, hW4⟩ : ∃ W4, W4 = W3.alloc (.map #[] 0) := ⟨_, rfl⟩
        have hB4 : Below W3.heap.size W3 W4 := by rw [hW4]; exact (Below.refl _ _).alloc (Nat.le_refl _) _
        have hM0 : W4.ownsMap Tryz.prog 45 booR mb 0 (.map []) := by rw [hW4, hmb]; exact World.ownsMap_made _ _ _ _
        have CE := Lib.hid (edges_any W4 (HGA.out.below hB4))
        have HW4 := Lib.hid hW4
        have HMB := Lib.hid hmb
        have HM0 := Lib.hid hM0
        have HB4 := Lib.hid hB4
        clear hmb hW4 hM0 hB4
        go_wp2_with (first
          | (rw [← HW4.out, ← HMB.out])
          | (go_at_call 13; (with_reducible refine CE.out.mono ?_); rintro e W5 ⟨ae, ce, rfl, hin, b5⟩; have HIN := Lib.hid hin; have HB5 := Lib.hid b5; clear hin b5))
        have hmb4 : mb < W4.heap.size := HM0.out.lt
        have HEM0 := Lib.hid (show EM W5 mb (([] : List KeyP).map fun k => (k.a, k.b)) from EM.below ⟨fun p hp => (by cases hp), .map [], 0, [], HM0.out, Nat.le_refl _, mapOf_nil, List.nodup_nil, fun p => Iff.rfl⟩ HB5.out)
        go_loopw [73] (fun vi X => ∃ i : Nat, i ≤ E.length ∧ vi = .int .i64 i ∧ EM X mb ((E.take i).map fun k => (k.a, k.b)) ∧ Fr (· = mb) W5 X) (fun vi _ => E.length - (intOf vi).toNat)
        case atStart => exact ⟨0, Nat.zero_le _, rfl, HEM0.out, Fr.refl _ _⟩
        case round =>
          obtain ⟨i, hi, rfl, hem, hf⟩ := hrel
          have hmw := hem.lt
          have hfs := hf.size
          by_cases hlt : i < E.length
          · have hKX : KeysIn wr ae E := HIN.out.frame hf fun b e hb => by
              obtain ⟨k, hk⟩ : ∃ k, E[i]? = some k := ⟨_, List.getElem?_eq_getElem hlt⟩
              obtain ⟨b', e', c0, _⟩ := HIN.out i k hk
              rw [e] at e'
              injection e' with e'
              injection e' with e'
              subst e'
              subst hb
              obtain ⟨D, n, M, hown, _⟩ := HEM0.out.own
              exact owns_no_cell hown c0
            obtain ⟨eb, k, rfl, hk, hebl, d0, d1, d2, d3⟩ := keysIn_get hKX hlt
            have hst : E.take (i + 1) = E.take i ++ [k] := by rw [List.take_add_one, hk.out]; rfl
            have hke := HEI.out (k.a, k.b) (List.mem_map.2 ⟨k, List.mem_of_getElem? hk.out, rfl⟩)
            simp only at hke
            obtain ⟨W7, hW7⟩ : ∃ W7, W7 = wr.alloc (.cells #[.int .i64 k.kind, .int .i64 k.a, .string k.word, .int .i64 k.b] 44) := ⟨_, rfl⟩
            obtain ⟨kx, hkx⟩ : ∃ kx, kx = wr.heap.size := ⟨_, rfl⟩
            have hkb : W7.heap[kx]? = some (.cells #[.int .i64 k.kind, .int .i64 k.a, .string k.word, .int .i64 k.b] 44 (0, 0)) := by rw [hW7, hkx]; exact block_alloc_new _ _
            have k1 : W7.cell? ⟨kx, 1, none⟩ = some (.int .i64 k.a) := block_cell hkb 1
            have k3 : W7.cell? ⟨kx, 3, none⟩ = some (.int .i64 k.b) := block_cell hkb 3
            have hkl : kx < W7.heap.size := lt_of_block hkb
            have b7 : Below wr.heap.size wr W7 := by rw [hW7]; exact (Below.refl _ _).alloc (Nat.le_refl _) _
            obtain ⟨D, n, M, hown, hn, hD, hnd, hM⟩ := (hem.below b7).own
            have hn4 : n ≤ 4000 := by rw [List.length_map, List.length_take] at hn; omega
            have HPUT := Lib.hid fun (w' : World) (ho : w'.ownsMap Tryz.prog 45 booR mb (n + 1) (D.put (kP (k.a, k.b)) (booD true))) => EM.put hem.rng hn hD hnd hM hke.1 hke.2 ho
            have HOWD := Lib.hid hown
            have HST := Lib.hid hst
            have HKE := Lib.hid hke
            have HB7 := Lib.hid b7
            have HF := Lib.hid hf
            have HW7 := Lib.hid hW7
            have HKX := Lib.hid hkx
            have i0 : (0 : Int) ≤ (i : Int) := by omega
            have i1 : (i : Int) < (E.length : Int) := by omega
            clear hKX hk hst hke hW7 hkx hkb b7 hown hn hD hnd hM hem hf
            obtain ⟨kk, ka, kw, kb⟩ := k
            simp only [] at d0 d1 d2 d3 k1 k3 HPUT HKE
            go_wp2_with (first
              | (rw [← HW7.out, ← HKX.out])
              | (at_mapUpdate; refine wpList_mapUpdate_own _ rfl _ _ _ 40 rfl 45 4 pairLaw Tryz.underlying40 booR mb n D rfl HOWD.out (by unfold maxLen; omega) _ _ _ rfl rfl (keyOf_pair HKE.out.1 HKE.out.2) (booD true) [] (booVT.put true) ?_; intro w8 hown8 hg8; have HEM8 := Lib.hid (HPUT.out w8 hown8); have HF8 := Lib.hid ((HF.out.next (Fr.new HB7.out : Fr (fun _ => False) wr W7) (fun _ _ h => h.elim)).trans (Fr.ofGrown hg8)); clear hown8 hg8))
            exact ⟨⟨i + 1, by omega, by go_num, by rw [HST.out, List.map_append]; exact HEM8.out, HF8.out⟩, by simp [intOf]; omega⟩
          · obtain rfl : i = E.length := by omega
            rw [List.take_of_length_le (Nat.le_refl _)] at hem
            have hBX : Below W3.heap.size W3 wr := HB4.out.trans ((HB5.out.mono HB4.out.size).trans (hf.below (fun k _ e => by have := HMB.out; omega) (by have := HB4.out.size; have := HB5.out.size; omega)))
            have CNO := nodes_any ⟨#[]⟩ rfl wr (HGA.out.below hBX)
            rw [HNF.out, ← HND.out] at CNO
            have CNO := Lib.hid CNO
            have HEM := Lib.hid hem
            have HBX := Lib.hid hBX
            clear hem hf hBX HEM0 CE HIN
            go_wp2_with (go_at_call 14; (with_reducible refine CNO.out.mono ?_); rintro e W8 ⟨v8, rfl, hown8, b8⟩; obtain ⟨an, cn, rfl, hinN⟩ := ownsRow_intsIn hown8; have HINN := Lib.hid hinN; have HB8 := Lib.hid b8; clear hown8 b8 hinN)
            have hBW8 : Below W3.heap.size W3 W8 := HBX.out.trans (HB8.out.mono HBX.out.size)
            have HW := Lib.hid fun (X : World) (hX : Below W8.heap.size W8 X) => (show WW X gb nb mb eo an N E Nd from (WW.mk (HGA.out.below hBW8) (HEM.out.below HB8.out) HINN.out (HVB.out.below hBW8)).below hX)
            have HB0 := Lib.hid (B3.out.trans (hBW8.mono B3.out.size))
            clear hBW8 CNO HEM HBX HGA HVB HB8 HB5 HB4 HINN
            go_loopw [88] (fun vi X => ∃ i : Nat, i ≤ Nd.length ∧ vi = .int .i64 i ∧ Below W8.heap.size W8 X) (fun vi _ => Nd.length - (intOf vi).toNat)
            case atStart => exact ⟨0, Nat.zero_le _, rfl, Below.refl _ _⟩
            case round =>
              obtain ⟨i, hi, rfl, hbx⟩ := hrel
              by_cases hlt : i < Nd.length
              · obtain ⟨nb1, x, rfl, hx, hnl, d0⟩ := intsIn_get (HW.out wr hbx).n hlt
                have hxm := List.mem_of_getElem? hx
                obtain ⟨hxi, hxs⟩ := HNI.out x hxm
                have hpx := HPAIR.out x hxm x hxm
                have CH := hops_far x 1048576 1048576 (by omega) (by omega) (by omega) word wr (HW.out wr hbx).g hxi hxs hpx
                have hself := hpx.self
                have HPX := Lib.hid fun y (hy : y ∈ Nd) => HPAIR.out x hxm y hy
                have hHl : (hopP E word x 5).length ≤ 4001 := by have := (hopS_ok E word x 5).size; unfold hopP; omega
                obtain ⟨H, hH'⟩ : ∃ H, H = sortI (hopP E word x 5) := ⟨_, rfl⟩
                have hHm : ∀ y, y ∈ H ↔ y ∈ hopP E word x 5 := fun y => by rw [hH']; exact (mem_sortI _ _).symm
                have hHl' : H.length ≤ 100000 := by rw [hH', sortI_length]; omega
                have hxH : decide (x ∈ H) = true := decide_eq_true ((hHm x).2 hself)
                rw [← hH'] at CH
                have CH := Lib.hid CH
                have HHM := Lib.hid hHm
                have HXH := Lib.hid hxH
                have HXI := Lib.hid hxi
                have HXS := Lib.hid hxs
                have HBX1 := Lib.hid hbx
                have i0 : (0 : Int) ≤ (i : Int) := by omega
                have i1 : (i : Int) < (Nd.length : Int) := by omega
                clear hx hxm hpx hself hHl hH' hHm hxH hxi hxs hbx
                go_wp2_with (first
                  | (go_at_call 16; go_loud ((with_reducible refine CH.out.mono ?_); rintro e X1 ⟨vh, rfl, ownh, bh⟩; obtain ⟨ah, chp, rfl, hinh⟩ := ownsRow_intsIn ownh; have HIH := Lib.hid hinh; have HB1 := Lib.hid (HBX1.out.trans (bh.mono HBX1.out.size)); clear ownh bh hinh))
                  | (go_at_call 15; (with_reducible refine (is_any1 ah chp H x X1 HIH.out hHl').mono ?_); rintro e x2 ⟨rfl, rfl⟩; rw [HXH.out]))
                go_loopw [110] (fun vj Y => ∃ j : Nat, j ≤ Nd.length ∧ vj = .int .i64 j ∧ Below X1.heap.size X1 Y) (fun vj _ => Nd.length - (intOf vj).toNat)
                case atStart => exact ⟨0, Nat.zero_le _, rfl, Below.refl _ _⟩
                case round =>
                  obtain ⟨j, hj, rfl, hby⟩ := hrel
                  have hB8y : Below W8.heap.size W8 wr := HB1.out.trans (hby.mono HB1.out.size)
                  by_cases hjl : j < Nd.length
                  · obtain ⟨nb2, y, han2, hy, hnl2, e0⟩ := intsIn_get (HW.out wr hB8y).n hjl
                    cases han2
                    have hym := List.mem_of_getElem? hy
                    obtain ⟨hyi, hys⟩ := HNI.out y hym
                    have hp := HPX.out y hym
                    have CW := way_split x y word wr (HW.out wr hB8y).g HEB.out HXI.out hyi HXS.out hys hp
                    have HY8 := Lib.hid hB8y
                    have HBY := Lib.hid hby
                    have HIY := Lib.hid (HIH.out.below hby)
                    have j0 : (0 : Int) ≤ (j : Int) := by omega
                    have j1 : (j : Int) < (Nd.length : Int) := by omega
                    clear hy hym hyi hys hB8y hby hp
                    rcases CW with ⟨hno, CW1⟩ | ⟨hin, W, h1, hgood, CW1⟩
                    · have hno : decide (y ∈ H) = false := decide_eq_false fun h => hno ((HHM.out y).1 h)
                      have CW1 := Lib.hid CW1
                      have HNO := Lib.hid hno
                      clear hno
                      go_wp2_with (go_at_call 17; (with_reducible refine CW1.out.mono ?_); rintro e Y1 ⟨rfl, by1⟩; have HBY1 := Lib.hid by1; clear by1)
                      have CI := Lib.hid fun X : InC (Bel Y1) => (is_any1 ah chp H y X.w ((HIY.out.below HBY1.out).below X.ok) hHl').mono fun e w' (h : _ ∧ _) => (⟨by rw [h.1, HNO.out], h.2.symm⟩ : e = .returned (.bool false) ∧ w' = X.w)
                      refine wp_region_in (S := Bel Y1) (by kernel_rfl) (by kernel_rfl) (bel_drew (Below.refl _ Y1)) (fun hne => ?_)
                      repeat (go_big_quiet_step ((go_at_call 15; exact InC.call_same (CI.out _))))
                      refine wpQuiet_nil ?_
                      rintro _ ⟨X, rfl⟩
                      have hX8 : Below W8.heap.size W8 X.w := HY8.out.trans ((HBY1.out.trans (X.ok.mono HBY1.out.size)).mono HY8.out.size)
                      have hX1 : Below X1.heap.size X1 X.w := HBY.out.trans ((HBY1.out.trans (X.ok.mono HBY1.out.size)).mono HBY.out.size)
                      have CT := Lib.hid (tell_any (.iface 52 (.int .i64 8)) 8 (-1) X.w (HW.out X.w hX8).v (Or.inr (Or.inl ⟨rfl, rfl⟩)))
                      have HX1 := Lib.hid hX1
                      clear hX8 hX1 CI
                      go_wp2_with (go_at_call 18; (with_reducible refine CT.out.mono ?_); rintro e w4 ⟨rfl, b4⟩; have HB4' := Lib.hid b4; clear b4)
                      exact ⟨⟨j + 1, by omega, by go_num, HX1.out.trans (HB4'.out.mono HX1.out.size)⟩, by simp [intOf]; omega⟩
                    · have hyes : decide (y ∈ H) = true := decide_eq_true ((HHM.out y).2 hin)
                      have CW1 := Lib.hid CW1
                      have HYES := Lib.hid hyes
                      have HGD := Lib.hid hgood
                      have hh1 : h1 ≤ 4 := hgood.le
                      clear hin hyes hgood
                      go_wp2_with (go_at_call 17; (with_reducible refine CW1.out.mono ?_); rintro e Y1 ⟨aw, cw, rfl, hinw, by1⟩; have HIW := Lib.hid hinw; have HBY1 := Lib.hid by1; clear by1 hinw)
                      have CI := Lib.hid fun X : InC (Bel Y1) => (is_any1 ah chp H y X.w ((HIY.out.below HBY1.out).below X.ok) hHl').mono fun e w' (h : _ ∧ _) => (⟨by rw [h.1, HYES.out], h.2.symm⟩ : e = .returned (.bool true) ∧ w' = X.w)
                      refine wp_region_in (S := Bel Y1) (by kernel_rfl) (by kernel_rfl) (bel_drew (Below.refl _ Y1)) (fun hne => ?_)
                      repeat (go_big_quiet_step ((go_at_call 15; exact InC.call_same (CI.out _))))
                      refine wpQuiet_nil ?_
                      rintro _ ⟨X, rfl⟩
                      have HY1X := Lib.hid (show Below Y1.heap.size Y1 X.w from X.ok)
                      have HIW2 := Lib.hid (HIW.out.below X.ok)
                      clear CI
                      generalize X.w = Y2 at *
                      obtain ⟨wb, rfl, c0⟩ := HIW2.out 0 x HGD.out.w0
                      obtain ⟨wb', e', cl⟩ := HIW2.out h1 y HGD.out.wl
                      cases e'
                      have hwbl := World.block_lt_of_cell? _ _ c0
                      have HB82 := Lib.hid (HY8.out.trans ((HBY1.out.trans (HY1X.out.mono HBY1.out.size)).mono HY8.out.size))
                      have HX12 := Lib.hid (HBY.out.trans ((HBY1.out.trans (HY1X.out.mono HBY1.out.size)).mono HBY.out.size))
                      have q0 : (0 : Int) ≤ (h1 : Int) := by omega
                      have q1 : (h1 : Int) < (h1 : Int) + 1 := by omega
                      clear HIY HIW
                      go_wp2_with fail
                      go_loopw [28] (fun vq Z => ∃ q : Nat, q ≤ h1 ∧ vq = .int .i64 ((q : Int) + 1) ∧ Below Y2.heap.size Y2 Z) (fun vq _ => h1 + 1 - (intOf vq).toNat)
                      case atStart => exact ⟨0, Nat.zero_le _, rfl, Below.refl _ _⟩
                      case round =>
                        clear c0 cl
                        obtain ⟨q, hq, rfl, hbz⟩ := hrel
                        have hz8 : Below W8.heap.size W8 wr := HB82.out.trans (hbz.mono HB82.out.size)
                        by_cases hqh : q < h1
                        · obtain ⟨u, hu⟩ : ∃ u, W[q]? = some u := ⟨_, List.getElem?_eq_getElem (by rw [HGD.out.len]; omega)⟩
                          obtain ⟨v, hv⟩ : ∃ v, W[q + 1]? = some v := ⟨_, List.getElem?_eq_getElem (by rw [HGD.out.len]; omega)⟩
                          obtain ⟨wb1, e1, cu⟩ := (HIW2.out.below hbz) q u hu
                          cases e1
                          obtain ⟨wb1, e1, cv⟩ := (HIW2.out.below hbz) (q + 1) v hv
                          cases e1
                          have hm : (u, v) ∈ E.map fun k => (k.a, k.b) := by
                            obtain ⟨k, hk, h1, h2⟩ := steps_at HGD.out.steps hu hv
                            exact List.mem_map.2 ⟨k, hk, by rw [h1, h2]⟩
                          obtain ⟨hui, hvi⟩ := HEI.out _ hm
                          simp only at hui hvi
                          have hlk : ∀ X : InC (Bel wr), (Instr.lookup 40 (.map (some mb)) (.agg #[.int .i64 u, .int .i64 v]) false).run Tryz.prog X.w = .ok (.bool true) X.w := fun X => by
                            have := ((HW.out wr hz8).m.below X.ok).look hui hvi
                            rw [decide_eq_true hm] at this
                            exact this
                          have qu := fun X : InC (Bel wr) => X.cell cu
                          have qv := fun X : InC (Bel wr) => X.cell cv
                          have j2 : (0 : Int) ≤ (q : Int) := by omega
                          have j3 : (q : Int) < (h1 : Int) := by omega
                          have j4 : (q : Int) + 1 < (h1 : Int) + 1 := by omega
                          have HBZ := Lib.hid hbz
                          clear hbz hz8 hu hv hm hui hvi cu cv
                          go_wp2_with fail
                          refine wp_region_in (S := Bel wr) (by kernel_rfl) (by kernel_rfl) (bel_drew (Below.refl _ wr)) (fun hne => ?_)
                          repeat (go_big_quiet_step (fail))
                          refine wpQuiet_nil ?_
                          rintro _ ⟨X, rfl⟩
                          go_wp2_with fail
                          exact ⟨⟨q + 1, by omega, by go_num, HBZ.out.trans (X.ok.mono HBZ.out.size)⟩, by simp [intOf]; omega⟩
                        · have hqe : h1 = q := by omega
                          subst hqe
                          obtain ⟨H2, hH2⟩ : ∃ H2, H2 = sortI (hopP E word x h1) := ⟨_, rfl⟩
                          have hH2l : H2.length = (hopP E word x h1).length := by rw [hH2, sortI_length]
                          have hH2b : H2.length ≤ 100000 := by have := (hopS_ok E word x h1).size; rw [hH2l]; unfold hopP; omega
                          have hyH2 : decide (y ∈ H2) = true := decide_eq_true (by rw [hH2]; exact (mem_sortI _ _).1 HGD.out.near)
                          have CN1 := Lib.hid fun (z : Int) (hz : z = (h1 : Int)) => hops_z x h1 z hz (by omega) word wr (HW.out wr hz8).g HXI.out HXS.out H2 hH2
                          have HYH2 := Lib.hid hyH2
                          have HH2L := Lib.hid hH2l
                          have HBZ := Lib.hid hbz
                          clear hH2 hH2l hyH2 hbz hz8
                          by_cases h1z : h1 = 0
                          · subst h1z
                            go_wp2_with (first
                              | (go_at_call 16; (with_reducible refine (CN1.out _ (by omega)).mono ?_); rintro e X2 ⟨a2, c2, rfl, hin2, b2⟩; have HIN2 := Lib.hid hin2; have HB2' := Lib.hid (HBZ.out.trans (b2.mono HBZ.out.size)); clear b2 hin2)
                              | (go_at_call 15; (with_reducible refine (is_any1 a2 c2 H2 y X2 HIN2.out hH2b).mono ?_); rintro e x2 ⟨rfl, rfl⟩; rw [HYH2.out]))
                            exact ⟨⟨j + 1, by omega, by go_num, HX12.out.trans (HB2'.out.mono HX12.out.size)⟩, by simp [intOf]; omega⟩
                          · obtain ⟨h2, hh2⟩ : ∃ h2, h1 = h2 + 1 := ⟨h1 - 1, by omega⟩
                            have hls := HGD.out.less.resolve_left h1z
                            rw [show h1 - 1 = h2 by omega] at hls
                            obtain ⟨H3, hH3⟩ : ∃ H3, H3 = sortI (hopP E word x h2) := ⟨_, rfl⟩
                            have hH3l : H3.length = (hopP E word x h2).length := by rw [hH3, sortI_length]
                            have hH3b : H3.length ≤ 100000 := by have := (hopS_ok E word x h2).size; rw [hH3l]; unfold hopP; omega
                            have hyH3 : decide (y ∈ H3) = false := decide_eq_false (by rw [hH3]; exact fun h => hls.1 ((mem_sortI _ _).2 h))
                            have hle : ¬ (H3.length : Int) > (H2.length : Int) := by rw [hH3l, HH2L.out]; have := hls.2; omega
                            have CL := Lib.hid fun (X : World) (hX : Below W8.heap.size W8 X) (z : Int) (hz : z = (h2 : Int)) => hops_z x h2 z hz (by omega) word X (HW.out X hX).g HXI.out HXS.out H3 hH3
                            have HYH3 := Lib.hid hyH3
                            have hg1 : (h1 : Int) + 1 > 1 := by omega
                            have HE2 := Lib.hid hh2
                            clear hls hH3 hH3l hyH3 hh2
                            go_upto_region 52 with (first
                              | (go_at_call 16; (with_reducible refine (CN1.out _ (by omega)).mono ?_); rintro e X2 ⟨a2, c2, rfl, hin2, b2⟩; have HIN2 := Lib.hid hin2; have HB2' := Lib.hid (HBZ.out.trans (b2.mono HBZ.out.size)); clear b2 hin2)
                              | (go_at_call 15; (with_reducible refine (is_any1 a2 c2 H2 y X2 HIN2.out hH2b).mono ?_); rintro e x2 ⟨rfl, rfl⟩; rw [HYH2.out]))
                            have HB82' := Lib.hid (HB82.out.trans (HB2'.out.mono HB82.out.size))
                            go_wp2_with (first
                              | (go_at_call 16; (with_reducible refine (CL.out X2 HB82'.out _ (by have := HE2.out; omega)).mono ?_); rintro e X3 ⟨a3, c3, rfl, hin3, b3⟩; have HIN3 := Lib.hid hin3; have HB3' := Lib.hid (HB2'.out.trans (b3.mono HB2'.out.size)); clear b3 hin3)
                              | (go_at_call 15; (with_reducible refine (is_any1 a3 c3 H3 y X3 HIN3.out hH3b).mono ?_); rintro e x2 ⟨rfl, rfl⟩; rw [HYH3.out]))
                            exact ⟨⟨j + 1, by omega, by go_num, HX12.out.trans (HB3'.out.mono HX12.out.size)⟩, by simp [intOf]; omega⟩
                  · obtain rfl : j = Nd.length := by omega
                    have HB9 := Lib.hid hB8y
                    clear hby hB8y
                    go_wp2_with fail
                    exact ⟨⟨i + 1, by omega, by go_num, HB9.out⟩, by simp [intOf]; omega⟩
              · obtain rfl : i = Nd.length := by omega
                have HB9 := Lib.hid (HB0.out.trans (hbx.mono HB0.out.size))
                clear hbx
                go_wp2_with fail
                go_ret
                exact ⟨rfl, HB9.out⟩
  · have hsz : (l.length : Int) > 60 := by omega
    go_enter Tryz.func3, Tryz.ntmps3
    go_wp2_with fail
    go_ret
    exact ⟨rfl, Below.refl _ _⟩
end Go.Proofs.YtflhpmgjehjjkaaGreatDoor

namespace Go.Proofs.YtflhpmgjehjjkaaGreatDoor
open Go Go.ChangeShapes Go.WideShapes Go.ChangeAt Go.RowKit Go.Joins

theorem ownWw : ownKnob Tryz.prog.godebug = none := by kernel_rfl
theorem laidOutWw : laidOutB Tryz.prog = true := by kernel_rfl
theorem etWw : Tryz.prog.globalNamed "errors.errorType" = some 0 := by kernel_rfl
theorem rtWw : (Tryz.prog.cutTypes.find? (·.1 == "internal/reflectlite.rtype")).map (·.2) = some 262 := by kernel_rfl
theorem oneRowWw : ((List.range Tryz.prog.types.size).filter fun t => Tryz.prog.rowNamed t [101, 114, 114, 111, 114]) = [31] := by kernel_rfl

theorem errVar_of_laidWw {W : World} (h : laidMetH Tryz.prog Rows.walkWaysRow.laid W) : ErrVar W := by
  have h' : laidMet Tryz.prog _ W ∧ handlesMet Tryz.prog [("errors.errorType", Rows.laid_errors_errorType)] W := h.filter fun x => x.1 == "errors.errorType"
  obtain ⟨name, u, ty, e1, e2, e3, e4, e5⟩ := h'.2 _ (List.mem_singleton.2 rfl)
  have en : name = [101, 114, 114, 111, 114] := (Option.some.inj e1).symm
  subst en
  obtain rfl := Option.some.inj (rtWw.symm.trans e2)
  have hm : ty ∈ (List.range Tryz.prog.types.size).filter fun t => Tryz.prog.rowNamed t [101, 114, 114, 111, 114] := List.mem_filter.2 ⟨List.mem_range.2 e3, e4⟩
  rw [oneRowWw] at hm
  obtain rfl := List.mem_singleton.1 hm
  have hh : typeHandle Tryz.prog 31 = .pointer (some ⟨9, 31, none⟩) := by kernel_rfl
  rw [hh] at e5
  have := World.var?_cell etWw e5 0
  unfold ErrVar
  simpa using this
theorem powTab_of_laidWw {W : World} (h : laidMetH Tryz.prog Rows.walkWaysRow.laid W) : PowTab W := by
  have h' : laidMet Tryz.prog [("internal/strconv.uint64pow10", Rows.laid_internal_strconv_uint64pow10)] W := h.filter fun x => x.1 == "internal/strconv.uint64pow10"
  exact Lib.tabIs_of_head (g := 3) (t := 363) (e := 260) (n := 20) (rest := []) (by kernel_rfl) (by kernel_rfl) Tryz.underlying363 Tryz.underlying260 (by kernel_rfl) (by kernel_rfl) (by
    have e : (Rows.laid_internal_strconv_uint64pow10 : DataW Unit) = Lib.tabData .u64 Lib.pow10Tab := by kernel_rfl
    rw [← e]; exact h')

/-- A world that meets the condition: the handle, then the plain tables. -/
noncomputable def handleWorldWw (os : Os) : World :=
  let w0 := World.holding Tryz.prog os ⟨#[], #[], []⟩
  { w0 with heap := w0.heap.modify 0 fun
      | .cells _ t frozen => .cells #[.iface 262 (.agg #[.pointer (some ⟨9, 31, none⟩)])] t frozen
      | o => o }
noncomputable def laidWorldWw (os : Os) : World := (handleWorldWw os).layVars Tryz.prog (Rows.walkWaysRow.laid.filter fun x => x.2.handleName?.isNone)
theorem laidWorldWw_met (os : Os) (args : Array Value) : laidMetH Tryz.prog Rows.walkWaysRow.laid ((laidWorldWw os).forCall (fun _ _ => 0) ⟨#[], args, []⟩).memory := by
  have hd : laidMet Tryz.prog (Rows.walkWaysRow.laid.filter fun x => x.2.handleName?.isNone) (laidWorldWw os) := by
    refine laidMet_layVars (w0 := handleWorldWw os) ((Rows.walkWaysRow.laid.filter fun x => x.2.handleName?.isNone).map (·.1)) [] ?_ ?_ ?_ ?_
    · have e1 : ((Rows.walkWaysRow.laid.filter fun x => x.2.handleName?.isNone).filter fun x => ((Rows.walkWaysRow.laid.filter fun x => x.2.handleName?.isNone).map (·.1)).contains x.1) = (Rows.walkWaysRow.laid.filter fun x => x.2.handleName?.isNone) := List.filter_eq_self.2 fun x hx => List.contains_iff_mem.2 (List.mem_map.2 ⟨x, hx, rfl⟩)
      rw [e1]; rfl
    · kernel_rfl
    · kernel_rfl
    · have e2 : ((Rows.walkWaysRow.laid.filter fun x => x.2.handleName?.isNone).filter fun x => !((Rows.walkWaysRow.laid.filter fun x => x.2.handleName?.isNone).map (·.1)).contains x.1) = [] := List.filter_eq_nil_iff.2 fun x hx => by rw [List.contains_iff_mem.2 (List.mem_map.2 ⟨x, hx, rfl⟩)]; simp
      rw [e2]; exact LaidIn.none
  exact laidMetH_of_parts (hd.of_heap (by simp [World.memory, World.forCall, Input.heap])) (by kernel_rfl)

set_option maxRecDepth 100000 in
theorem walkWays_lifted (os : Os) (started : os.Started) (H : Type) (enc : TypeId × Value → H) :
    ReturnsInHanded {} Tryz.checked os 3 .any (fun w args => (Rows.walkWaysSpec.pre enc Tryz.prog Tryz.f3 [] false w args ∧ laidMetH Tryz.prog Rows.walkWaysRow.laid w) ∧ sizedMet enc Tryz.prog Tryz.f3 (OpenSpec.ofChange Rows.walkWaysSpec) false w args)
      (Rows.walkWaysSpec.post enc Tryz.prog Tryz.f3 false true false false) := by
  refine returnsInHanded_of_change_and (C := Tryz.checked) (X := fun w _ => laidMetH Tryz.prog Rows.walkWaysRow.laid w) (fun _ _ _ hh h => h.of_heap hh) ownWw started (by kernel_rfl) Tryz.func3
    (ChangeSpec.witness_at (enc := enc) (C := Tryz.checked) (os := os) (X := fun w _ => laidMetH Tryz.prog Rows.walkWaysRow.laid w) false (laidWorldWw os) #[.slice none 0 0, .int .i64 0, .int .i64 0, .bool false] 8 rfl (by kernel_rfl) (by kernel_rfl) (by kernel_rfl) (by kernel_rfl) (by kernel_rfl) (laidWorldWw_met os _)) ?_
  intro W base args ds gs before hval0 hW _ _ hL _
  have hval : ∀ (j : Nat) t v, Tryz.f3.params[j]? = some t → args[j]? = some v → Value.okWide Tryz.prog W .any base t v := hval0
  have hW' := hW
  obtain ⟨p, q, hA0, hV, rfl, _, _⟩ := hW
  have hA : DataW.TrodAll enc Tryz.prog W 0 (fun _ => true) true Tryz.f3.params.toList args.toList ds p := hA0
  rw [Tryz.params3] at hA hval
  obtain ⟨v0, v1, v2, v3, d0, d1, d2, d3, p0, p1, p2, p3, rfl, rfl, rfl, h0, h1, h2, h3⟩ := trodAll_four hA
  obtain ⟨rfl, rfl⟩ := trodVars_none hV
  have h0k := h0
  have h1k := h1
  have h2k := h2
  have h3k := h3
  obtain ⟨a0, l0, c0, rfl, s0, i0, m0⟩ := open_says (okWide_slice Tryz.underlying22 (hval 0 22 v0 rfl rfl)) h0
  obtain ⟨x, rfl, hx2, hx3, wx⟩ := open_int Tryz.underlying3 (hval 1 3 v1 rfl rfl) h1
  obtain ⟨y, rfl, hy2, hy3, wy⟩ := open_int Tryz.underlying3 (hval 2 3 v2 rfl rfl) h2
  obtain ⟨z, rfl, _, _⟩ := open_bool Tryz.underlying4 (hval 3 4 v3 rfl rfl) h3
  have hlt : ∀ x ∈ p0 ++ p1 ++ p2 ++ p3, x.block < W.heap.size := fun x hx => by have := hW'.lt x (by simpa using hx); simpa using this
  clear hA0 hval0 h0 h1 h2 h3
  simp only [List.append_nil] at hW'
  refine (walkWays_walk l0 x y z a0 c0 W s0 m0 i0 (wf_i64S wx) (wf_i64S wy) (powTab_of_laidWw hL) (errVar_of_laidWw hL)).mono fun e W' ⟨he, hb⟩ => ?_
  subst he
  have t0 := Below.trod laidOutWw (by kernel_rfl) (of_decide_eq_true (by kernel_rfl)) h0k hb (fun x hx => hlt x (by simp [hx]))
  have t1 := Below.trod laidOutWw (by kernel_rfl) (of_decide_eq_true (by kernel_rfl)) h1k hb (fun x hx => hlt x (by simp [hx]))
  have t2 := Below.trod laidOutWw (by kernel_rfl) (of_decide_eq_true (by kernel_rfl)) h2k hb (fun x hx => hlt x (by simp [hx]))
  have t3 := Below.trod laidOutWw (by kernel_rfl) (of_decide_eq_true (by kernel_rfl)) h3k hb (fun x hx => hlt x (by simp [hx]))
  exact ⟨_, rfl, _, _, _, [], _, [], hW', trodAll_mk1 (shut_bool Tryz.underlying4 _), trodAll_mk4 t0 t1 t2 t3, rfl, hb.frame _, fun h => by cases h⟩

theorem walkWays_row : Rows.WalkWaysSaid :=
  OpenClaim.holds_of_wide 3 Tryz.f3 rfl rfl rfl rfl rfl rfl rfl ⟨rfl, rfl, rfl, rfl, rfl⟩ rfl rfl rfl rfl rfl (by kernel_rfl) Tryz.func3 jWw
    (of_decide_eq_true (by kernel_rfl)) (by unfold Func.isWrapper; first | (rw [if_pos (by decide +kernel)]; kernel_rfl) | (rw [if_neg (by decide +kernel)]; exact ⟨rfl, rfl⟩))
    (fun os started H enc _ => walkWays_lifted os started H enc)

theorem walkWays_holds : Rows.WalkWaysCardSaid :=
  Claim7.holds_tied_plain_at .later [] [.data, .data, .data, .data, .handle, .pinned] true (true, "b8d250f63fa68d1bf1eab8692826e97db3b37e0597505282d86cdcb349f1085d") true
    walkWays_row (fun _ h => by cases h) (by kernel_rfl) (fun _ h => by cases h) walkWays_row_tie rfl ⟨rfl, rfl⟩ (by kernel_rfl) rfl
    (fun f fn hf hfn => by
      obtain rfl : f = 3 := Option.some.inj ((show Tryz.prog.funcNamed "palimpsest/palimpsestkeep.WalkWays" = some 3 by kernel_rfl).symm.trans hf) |>.symm
      obtain rfl : fn = Tryz.f3 := (Option.some.inj (Tryz.func3.symm.trans hfn)).symm
      exact ⟨by kernel_rfl, fun j t ht => by
        rw [Tryz.params3] at ht
        rcases j with _ | _ | _ | _ | j
        · have : t = 22 := by simpa using ht.symm
          subst this
          exact (show Tryz.prog.wantsStandIn 22 = false by kernel_rfl)
        · have : t = 3 := by simpa using ht.symm
          subst this
          exact (show Tryz.prog.wantsStandIn 3 = false by kernel_rfl)
        · have : t = 3 := by simpa using ht.symm
          subst this
          exact (show Tryz.prog.wantsStandIn 3 = false by kernel_rfl)
        · have : t = 4 := by simpa using ht.symm
          subst this
          exact (show Tryz.prog.wantsStandIn 4 = false by kernel_rfl)
        · simp at ht⟩)
    (by kernel_rfl)
#print axioms walkWays_holds
end Go.Proofs.YtflhpmgjehjjkaaGreatDoor
