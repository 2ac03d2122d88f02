/- The program's nodes of a kind (Nodes). -/
import Derived.Test.YtflhpmgjehjjkaaGreatDoorWqEJo
import Derived.Test.YtflhpmgjehjjkaaGreatDoorWkIJo
namespace Go.Proofs.YtflhpmgjehjjkaaGreatDoor
open Go.RowKit Go.Deep Go.Shelf Go.Sort Go.Maps

def nodesN (N : List (Int × ByteArray)) (kind : ByteArray) : List Int := (N.filter fun p => decide (kind.size = 0) || decide (p.2 = kind)).map (·.1)
def kindB (N : List (Int × ByteArray)) (kind : ByteArray) (y : Int) : Bool := decide (kind.size = 0) || decide ((N.lookup y).getD ⟨#[]⟩ = kind)
theorem lookup_keysS {F : List (Int × ByteArray)} (hn : (F.map (·.1)).Nodup) {y : Int} {v : ByteArray} (h : (y, v) ∈ F) : F.lookup y = some v := by
  induction F with
  | nil => cases h
  | cons p F ih =>
    obtain ⟨a, b⟩ := p
    rw [List.map_cons, List.nodup_cons] at hn
    rw [List.lookup_cons]
    rcases List.mem_cons.1 h with e | e
    · cases e; simp
    · have : y ≠ a := fun e' => hn.1 (List.mem_map.2 ⟨(y, v), e, e'⟩)
      have h2 : (y == a) = false := by simpa using this
      rw [h2]
      exact ih hn.2 e
theorem kind_nodes {N : List (Int × ByteArray)} (hn : (N.map (·.1)).Nodup) (kind : ByteArray) {U : List Int} (hU : U.Perm (N.map (·.1))) : (U.filter (kindB N kind)).Perm (nodesN N kind) := by
  refine (hU.filter _).trans ?_
  rw [List.filter_map]
  unfold nodesN
  have e : (N.filter (kindB N kind ∘ fun x => x.1)) = N.filter fun p => decide (kind.size = 0) || decide (p.2 = kind) := by
    refine List.filter_congr fun p hp => ?_
    show kindB N kind p.1 = _
    unfold kindB
    rw [lookup_keysS hn (y := p.1) (v := p.2) hp]
    rfl
  rw [e]
set_option maxRecDepth 100000 in
set_option maxHeartbeats 8000000 in
theorem gnodes_any (kind : ByteArray) (w : World) {gb nb : Nat} {eo : Option Addr} {N : List (Int × ByteArray)} {E : List KeyP} (hG : GAt w gb nb eo N E) :
    Calls Tryz.prog 14 #[.pointer (some ⟨gb, 0, none⟩), .string kind] w fun e w' => ∃ ao cap, e = .returned (.slice ao (sortI (nodesN N kind)).length cap) ∧ IntsIn w' ao (sortI (nodesN N kind)) ∧ Below w.heap.size w w' := by
  obtain ⟨ec, c0, c1, hgl⟩ := hG.cells
  obtain ⟨nn, hN⟩ := hG.nod
  have hnd := hG.nnd
  have hNl := hG.nlen
  obtain ⟨D, hown, hD⟩ := hN.own
  have hnb : nb < w.heap.size := hown.lt
  have hhas : ∀ y ∈ N.map (·.1), Maps.has D (kI y) = true := fun y hy => by obtain ⟨p, hp, rfl⟩ := List.mem_map.1 hy; exact (hD.has _ kI_key).2 ⟨p, hp, rfl⟩
  have hsz := hD.size
  have hrng := hN.rng
  have HST := Lib.hid (TI.start (M := N.map (·.1)) hhas)
  have HD := Lib.hid hD
  have HSZ := Lib.hid hsz
  have HRNG := Lib.hid hrng
  have HNOD := Lib.hid hnd
  have HKS : Hid (kind.size = 0 ∨ kind.size ≠ 0) := Lib.hid (Decidable.em _)
  clear hhas hD hsz hrng hG hN c1 hnd
  go_enter Tryz.func14, Tryz.ntmps14
  go_wp2_with (at_range; refine wpList_range_own _ rfl _ 119 rfl 3 9 intLaw Tryz.underlying119 strR nb nn D rfl hown ?_; intro w5 hrg hgr hs5)
  try go_frame
  have hB5 : Below w.heap.size w w5 := ⟨hgr.os, hgr.tape, hgr.output, hgr.size, fun i hi' => hgr.block i hi' (by simp)⟩
  obtain ⟨r, hr⟩ : ∃ r, r = w.heap.size := ⟨_, rfl⟩
  have hrg' : w5.ranges Tryz.prog 3 strR nb r nn D (Maps.has D) (Maps.size D) := by rw [hr]; exact hrg
  have HB5 := Lib.hid hB5
  have HRG' := Lib.hid hrg'
  have HS5 := Lib.hid hs5
  have HRE := Lib.hid hr
  have hmr : nb < r := by rw [hr]; exact hnb
  rw [← hr]
  clear hgr hB5 hrg hs5 hown hrg' hr
  go_loopw [5] (fun v X => ∃ (left : Lit → Bool) (cnt : Nat) (U : List Int), X.ranges Tryz.prog 3 strR nb r nn D left cnt ∧ TI (N.map (·.1)) left U ∧ U.length + cnt ≤ N.length ∧ X.ownsRow (r + 1) 3 1 v (U.filter (kindB N kind)).length ((U.filter (kindB N kind)).map (Value.int .i64)) ∧ Below r w X ∧ r < X.heap.size ∧ (∀ q, left q = true → Maps.has D q = true)) (fun _ X => X.rangeLeft nb r)
  case atStart => exact ⟨_, _, [], HRG'.out, HST.out, by rw [HSZ.out]; simp, World.ownsRow_nil _ _ _ _, by rw [HRE.out]; exact HB5.out, by have := HS5.out; have := HRE.out; omega, fun _ e => e⟩
  case round =>
    obtain ⟨left, cnt, U, hrg, hTL, hcnt, hownU, hBr, hrl, hsub⟩ := hrel
    have HTL := Lib.hid hTL
    have HBR := Lib.hid hBr
    have HSUB := Lib.hid hsub
    have HRGW := Lib.hid hrg
    have hul : (U.filter (kindB N kind)).length ≤ U.length := List.length_filter_le _ _
    clear hTL hBr hsub
    go_wp2_with (at_next; refine wpList_next_raw _ rfl _ rfl 3 intLaw strR nb r nn D left cnt rfl hrg ?_ ?_)
    · intro hc0 hl0
      have hperm := kind_nodes HNOD.out kind (HTL.out.done hl0 HNOD.out)
      obtain ⟨L, hL⟩ : ∃ L, L = U.filter (kindB N kind) := ⟨_, rfl⟩
      rw [← hL] at hownU hul hperm
      have CS := Lib.hid (sortSlice_own (r + 1) L _ wr hownU (by omega) (by omega))
      have hsl : sortI L = sortI (nodesN N kind) := sortI_perm hperm
      have HSL := Lib.hid hsl
      obtain ⟨ao, cap, rfl, _⟩ := ownsRow_intsIn hownU
      clear hl0 hc0 hrg hownU hperm hL hsl
      go_wp2_with (go_at_call 55; (with_reducible refine CS.out.mono ?_); rintro e w6 ⟨rfl, own6, b6⟩; have HO6 := Lib.hid own6; have B6 := Lib.hid b6; clear own6 b6)
      go_ret
      obtain ⟨ao', cap', e', hin⟩ := ownsRow_intsIn HO6.out
      rw [HSL.out] at e' hin
      have hb9 : Below w.heap.size w w6 := (HBR.out.trans (B6.out.mono (by omega))).mono (by rw [HRE.out]; exact Nat.le_refl _)
      exact ⟨ao', cap', by rw [← e']; rfl, hin, hb9⟩
    · intro key v kl y1 y2 w6 cnt3 hkey hlk3 hv hat hrg3 hlt3 hgr3 hs3 hen
      obtain ⟨p, hp, e⟩ := HD.out.got (intLaw.key hkey) (HSUB.out _ hlk3)
      obtain ⟨y, d⟩ := p
      obtain ⟨vb, rfl, hvb⟩ := strVT.inv _ _ hv
      have hvd : vb = d := by
        have h1 := HD.out.at' (y, d) hp (strD ⟨#[]⟩)
        rw [e, hat (strD ⟨#[]⟩)] at h1
        exact strVT.inj _ _ ((Prod.mk.inj hvb).1.symm.trans h1)
      subst hvd
      have hyH : y ∈ N.map (·.1) := List.mem_map.2 ⟨_, hp, rfl⟩
      have hyr := HRNG.out _ hp
      have hly := lookup_keysS HNOD.out hp
      simp only [] at e hyr
      have ek : key = .int .i64 y := intLaw.inj hkey (by rw [← e]; exact keyOf_int_mk Tryz.underlying3 (wfI hyr))
      subst ek
      have ekl : kl = kI y := e.symm
      subst ekl
      have hF3 : Fr (· = r) wr w6 := Fr.ofGrown hgr3
      have hB3 : Below r w w6 := HBR.out.trans (hF3.below (B := r) (fun k _ e => by omega) (by omega))
      have hown3 := ownsRow_frame hownU hF3 (fun g hg e => by omega)
      have hsub3 : ∀ q, (left q && !q.sameKey (kI y)) = true → Maps.has D q = true := fun q hq => HSUB.out q (by rw [Bool.and_eq_true] at hq; exact hq.1)
      have hnear : (U ++ [y]).filter (kindB N kind) = U.filter (kindB N kind) ++ (if kindB N kind y = true then [y] else []) := by
        rw [List.filter_append]
        congr 1
        cases h : kindB N kind y <;> simp [h]
      have HRG3 := Lib.hid hrg3
      have HB3 := Lib.hid hB3
      have HSUB3 := Lib.hid hsub3
      have HO3 := Lib.hid hown3
      have HNEAR := Lib.hid hnear
      have hrl3 : r < w6.heap.size := by omega
      have frame : ∀ W, Below (r + 1) w6 W → W.ranges Tryz.prog 3 strR nb r nn D (fun z => left z && !z.sameKey (kI y)) cnt3 := fun W hB => ranges_frame HRG3.out (Fr.ofBelow hB) (by omega) (by omega)
      have HFRM := Lib.hid frame
      have hrr : r + 1 ≤ w6.heap.size := by omega
      have HN := Lib.hid (HTL.out.yes hyH hlk3)
      have hkb : kindB N kind y = (decide (kind.size = 0) || decide (vb = kind)) := by unfold kindB; rw [hly]; rfl
      clear frame hrg3 hB3 hsub3 hown3 hF3 hgr3 hat hv hkey e hlk3 hs3 hp hyH hyr hly hvb hnear
      obtain ⟨L, hL⟩ : ∃ L, L = U.filter (kindB N kind) := ⟨_, rfl⟩
      rw [← hL] at HO3 hul HNEAR
      clear hL hownU
      rcases word_cases kind vb with ⟨hw0, hz⟩ | ⟨hw0, hw1, hz⟩ | ⟨hw0, hw1, hz, hz2⟩
      case inr.inr =>
        rw [hkb, show (decide (kind.size = 0) || decide (vb = kind)) = false by simp [hz, hz2], if_neg (by decide), List.append_nil] at HNEAR
        clear hz hz2 hkb
        have hB8 : Below (r + 1) w6 w6 := Below.refl _ _
        have HB8 := Lib.hid hB8
        clear hB8
        go_wp2_with fail
        go_roundw
        case rel =>
          first
            | exact ⟨_, cnt3, U ++ [y], HFRM.out _ HB8.out, HN.out, by rw [List.length_append, List.length_singleton]; omega, by rw [HNEAR.out]; exact HO3.out, HB3.out, hrl3, HSUB3.out⟩
            | ((repeat apply Exists.intro); exact ⟨⟨_, cnt3, U ++ [y], HFRM.out _ HB8.out, HN.out, by rw [List.length_append, List.length_singleton]; omega, by rw [HNEAR.out]; exact HO3.out, HB3.out, hrl3, HSUB3.out⟩, rfl⟩)
        case measure => rw [(HFRM.out _ HB8.out).left_eq, HRGW.out.left_eq]; exact hlt3
      all_goals
        rw [hkb, show (decide (kind.size = 0) || decide (vb = kind)) = true by simp [hz], if_pos rfl] at HNEAR
        clear hz hkb
        go_wp2_with (at_builtin; refine appInt rfl _ _ rfl (r + 1) _ L rfl (HO3.out.alloc _) w6.heap.size y rfl (by simp) (by omega) (by simp; omega) w6 ((Below.refl _ _).alloc hrr _) ?_; intro v8 w8 hown8 hB8 hs8 _)
        go_roundw
        case rel =>
          first
            | exact ⟨_, cnt3, U ++ [y], HFRM.out _ hB8, HN.out, by rw [List.length_append, List.length_singleton]; omega, by rw [HNEAR.out]; exact hown8, HB3.out.trans (hB8.mono (by omega)), by have := hB8.size; omega, HSUB3.out⟩
            | ((repeat apply Exists.intro); exact ⟨⟨_, cnt3, U ++ [y], HFRM.out _ hB8, HN.out, by rw [List.length_append, List.length_singleton]; omega, by rw [HNEAR.out]; exact hown8, HB3.out.trans (hB8.mono (by omega)), by have := hB8.size; omega, HSUB3.out⟩, rfl⟩)
        case measure => rw [(HFRM.out _ hB8).left_eq, HRGW.out.left_eq]; exact hlt3
end Go.Proofs.YtflhpmgjehjjkaaGreatDoor
