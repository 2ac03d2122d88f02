/- The document's Way, where there is one. -/
import Derived.Deep.DeepCutAuto
import Derived.Test.YtflhpmgjehjjkaaGreatDoorWqEJo
namespace Go.Proofs.YtflhpmgjehjjkaaGreatDoor
open Go.RowKit Go.Deep Go.Shelf Go.Sort Go.Maps

def nodesS (G : List (KeyP × ByteArray)) : List Int := sortI (nodesK G ⟨#[]⟩)
/-- The first one that will do is the least one that will. -/
theorem first_least {l : List Int} (hs : l.Pairwise (· ≤ ·)) {p : Int → Prop} {q : Nat} {u z : Int} (hu : l[q]? = some u) (hpu : p u) (hn : ∀ v ∈ l.take q, ¬ p v) (hz : z ∈ l) (hpz : p z) (hle : ∀ v ∈ l, p v → z ≤ v) : u = z := by
  have h1 := hle u (List.mem_of_getElem? hu) hpu
  have h2 : u ≤ z := by
    obtain ⟨j, hj⟩ := List.mem_iff_getElem?.1 hz
    have hqj : q ≤ j := by
      rcases Nat.lt_or_ge j q with h | h
      · exact absurd hpz (hn z (List.mem_iff_getElem?.2 ⟨j, by rw [List.getElem?_take_of_lt h]; exact hj⟩))
      · exact h
    rcases Nat.lt_or_eq_of_le hqj with h | h
    · obtain ⟨hq1, hq2⟩ := List.getElem?_eq_some_iff.1 hu
      obtain ⟨hj1, hj2⟩ := List.getElem?_eq_some_iff.1 hj
      have := List.pairwise_iff_getElem.1 hs q j hq1 hj1 h
      rw [hq2, hj2] at this
      exact this
    · subst h
      rw [hu] at hj
      exact Int.le_of_eq (Option.some.inj hj)
  omega
set_option maxRecDepth 100000 in
set_option maxHeartbeats 2000000 in
theorem rgway_bad (x y : Int) (word : ByteArray) (w : World) {rb : Nat} {G : List (KeyP × ByteArray)} (hG : RG w rb G) (hn : isN G x = false ∨ isN G y = false) :
    Calls Tryz.prog 27 #[.pointer (some ⟨rb, 0, none⟩), .int .i64 x, .int .i64 y, .string word] w fun e w' => e = .returned (.tuple #[.slice none 0 0, .int .i64 7]) ∧ Below w.heap.size w w' := by
  have HX := Lib.hid (rgis_any x w hG)
  have HY := Lib.hid fun (X : World) (hX : Below w.heap.size w X) => rgis_any y X (hG.below hX)
  clear hG
  generalize isN G x = bx at *
  generalize isN G y = bz at *
  go_enter Tryz.func27, Tryz.ntmps27
  cases bx
  · clear hn
    go_wp2_with (go_at_call 64; (with_reducible refine HX.out.mono ?_); rintro e w1 ⟨rfl, b1⟩; have HB := Lib.hid b1; clear b1)
    go_ret2
    exact ⟨rfl, HB.out⟩
  · obtain rfl : bz = false := hn.resolve_left (by simp)
    clear hn
    go_wp2_with (go_at_call 64; (first
      | ((with_reducible refine HX.out.mono ?_); rintro e w1 ⟨rfl, b1⟩; have HB := Lib.hid b1; clear b1)
      | ((with_reducible refine (HY.out w1 HB.out).mono ?_); rintro e w2 ⟨rfl, b2⟩; have HB2 := Lib.hid (HB.out.trans (b2.mono HB.out.size)); clear b2)))
    go_ret2
    exact ⟨rfl, HB2.out⟩
set_option maxRecDepth 100000 in
set_option maxHeartbeats 2000000 in
theorem rgway_none (x y : Int) (word : ByteArray) (w : World) {rb : Nat} {G : List (KeyP × ByteArray)} (hG : RG w rb G) (hx : i64 x) (hy : i64 y) (h1 : isN G x = true) (h2 : isN G y = true) (hn : ∀ d, ¬ Pth (edgesGP G G) word d x y) :
    Calls Tryz.prog 27 #[.pointer (some ⟨rb, 0, none⟩), .int .i64 x, .int .i64 y, .string word] w fun e w' => e = .returned (.tuple #[.slice none 0 0, .int .i64 8]) ∧ Below w.heap.size w w' := by
  have HX := rgis_any x w hG
  rw [h1] at HX
  have HX := Lib.hid HX
  have HY := fun (X : World) (hX : Below w.heap.size w X) => rgis_any y X (hG.below hX)
  rw [h2] at HY
  have HY := Lib.hid HY
  have HF := Lib.hid fun (X : World) (hX : Below w.heap.size w X) => rgfar_any x word X (hG.below hX) hx
  have HN := Lib.hid hn
  have HYI := Lib.hid hy
  clear hG h1 h2 hn hx hy
  go_enter Tryz.func27, Tryz.ntmps27
  go_wp2_with (first
    | (go_at_call 64; (first
      | ((with_reducible refine HX.out.mono ?_); rintro e w1 ⟨rfl, b1⟩; have HB := Lib.hid b1; clear b1)
      | ((with_reducible refine (HY.out w1 HB.out).mono ?_); rintro e w2 ⟨rfl, b2⟩; have HB2 := Lib.hid (HB.out.trans (b2.mono HB.out.size)); clear b2)))
    | (go_at_call 67; (with_reducible refine (HF.out w2 HB2.out).mono ?_); rintro e W9 ⟨mb, F, rfl, hmb, hIM, hRF, hFF, b9⟩; have hl : F.lookup y = none := (by cases hc : F.lookup y with | none => rfl | some v => obtain ⟨m, _, hm⟩ := (hFF.is y v).1 hc; exact absurd hm.1 (HN.out m)); have hlk := hIM.look_ok intVT Tryz.underlying132 0 (zeroIntW W9) HYI.out; rw [hl] at hlk; simp only [Option.isSome_none, Option.getD_none] at hlk; have HB9 := Lib.hid (HB2.out.trans (b9.mono HB2.out.size)); clear hIM hRF hFF b9 hl hmb))
  go_ret2
  exact ⟨rfl, HB9.out⟩
end Go.Proofs.YtflhpmgjehjjkaaGreatDoor

namespace Go.Proofs.YtflhpmgjehjjkaaGreatDoor
open Go.RowKit Go.Deep Go.Shelf Go.Sort Go.Maps

theorem dist_opt (E : List KeyP) (word : ByteArray) (x z : Int) : ∃ o : Option Int, ∀ v, o = some v ↔ ∃ m : Nat, v = m ∧ Mn E word m x z := by
  by_cases h : ∃ m, Mn E word m x z
  · obtain ⟨m, hm⟩ := h
    refine ⟨some m, fun v => ⟨fun e => (by cases e; exact ⟨m, rfl, hm⟩), fun ⟨k, e, hk⟩ => (by rw [e, hk.one hm])⟩⟩
  · exact ⟨none, fun v => ⟨fun e => (by cases e), fun ⟨k, _, hk⟩ => absurd ⟨k, hk⟩ h⟩⟩
theorem opt_is {E : List KeyP} {word : ByteArray} {x z : Int} {o : Option Int} (h : ∀ v, o = some v ↔ ∃ m : Nat, v = m ∧ Mn E word m x z) {m : Nat} : o = some (m : Int) ↔ Mn E word m x z := by
  rw [h]
  constructor
  · rintro ⟨k, e, h⟩; obtain rfl : k = m := by omega
    exact h
  · intro h; exact ⟨m, rfl, h⟩
theorem rgfar_at (x z : Int) (word : ByteArray) (o : Option Int) (w : World) {rb : Nat} {G : List (KeyP × ByteArray)} (h : RG w rb G) (hx : i64 x) (hz : i64 z) (ho : ∀ v, o = some v ↔ ∃ m : Nat, v = m ∧ Mn (edgesGP G G) word m x z) :
    Calls Tryz.prog 67 #[.pointer (some ⟨rb, 0, none⟩), .int .i64 x, .string word] w fun e w' => ∃ mb, e = .returned (.map (some mb)) ∧ (Instr.lookup 132 (.map (some mb)) (.int .i64 z) true).run Tryz.prog w' = .ok (.tuple #[.int .i64 (o.getD 0), .bool o.isSome]) w' ∧ (Instr.lookup 132 (.map (some mb)) (.int .i64 z) false).run Tryz.prog w' = .ok (.int .i64 (o.getD 0)) w' ∧ (0 ≤ o.getD 0 ∧ o.getD 0 ≤ 4001) ∧ Below w.heap.size w w' := by
  have hl := h.len
  refine (rgfar_any x word w h hx).mono ?_
  rintro e w' ⟨mb, F, rfl, _, hIM, hRF, hFF, hb⟩
  have hlk : F.lookup z = o := by
    cases e : F.lookup z with
    | some v => exact ((ho v).2 ((hFF.is z v).1 e)).symm
    | none =>
      cases ho' : o with
      | none => rfl
      | some v =>
        have := (hFF.is z v).2 ((ho v).1 ho')
        rw [e] at this; cases this
  have h1 := hIM.look_ok intVT Tryz.underlying132 0 (zeroIntW w') hz
  have h2 := hIM.look intVT Tryz.underlying132 0 (zeroIntW w') hz
  rw [hlk] at h1 h2
  refine ⟨mb, rfl, h1, h2, ?_, hb⟩
  rw [← hlk]
  cases e : F.lookup z with
  | none => exact ⟨Int.le_refl _, by show (0 : Int) ≤ 4001; omega⟩
  | some v =>
    have h3 := hRF.rng _ (lookup_mem e)
    have h4 := hRF.size
    have h5 := edgesGP_len G G
    simp only at h3
    exact ⟨h3.1, by show v ≤ 4001; omega⟩
set_option maxRecDepth 100000 in
set_option maxHeartbeats 8000000 in
theorem rgway_ok (x y : Int) (word : ByteArray) (w : World) {rb : Nat} {G : List (KeyP × ByteArray)} (hG : RG w rb G) (hx : i64 x) (hy : i64 y) (h1 : isN G x = true) (h2 : isN G y = true) (hNi : ∀ u ∈ nodesS G, i64 u) (d : Nat) (hd : Mn (edgesGP G G) word d x y) (W : List Int) (hW : RW (edgesGP G G) word (nodesS G) y d x W) :
    Calls Tryz.prog 27 #[.pointer (some ⟨rb, 0, none⟩), .int .i64 x, .int .i64 y, .string word] w fun e w' => ∃ ao cap, e = .returned (.tuple #[.slice ao W.length cap, .int .i64 0]) ∧ IntsIn w' ao W ∧ Below w.heap.size w w' := by
  have HX := rgis_any x w hG
  rw [h1] at HX
  have HX := Lib.hid HX
  have HY := fun (X : World) (hX : Below w.heap.size w X) => rgis_any y X (hG.below hX)
  rw [h2] at HY
  have HY := Lib.hid HY
  have HF := Lib.hid fun (z u : Int) (o : Option Int) (hz : i64 z) (hu : i64 u) (ho : ∀ v, o = some v ↔ ∃ m : Nat, v = m ∧ Mn (edgesGP G G) word m z u) (X : World) (hX : Below w.heap.size w X) => rgfar_at z u word o X (hG.below hX) hz hu ho
  have HNO := Lib.hid fun (X : World) (hX : Below w.heap.size w X) => rgnodes_any ⟨#[]⟩ X (hG.below hX)
  have hGl := hG.len
  have HXI := Lib.hid hx
  have HYI := Lib.hid hy
  have HNI := Lib.hid hNi
  have HD := Lib.hid hd
  have HRW := Lib.hid hW
  have hNl : (nodesS G).length ≤ 4000 := by unfold nodesS; rw [sortI_length]; exact Nat.le_trans (nodesK_len G _) hGl
  have HNS : Hid ((nodesS G).Pairwise (· ≤ ·)) := Lib.hid (sortI_sorted _)
  have HNE : Hid (nodesS G = sortI (nodesK G ⟨#[]⟩)) := Lib.hid rfl
  generalize hE : edgesGP G G = E at *
  generalize hN : nodesS G = Nd at *
  have HDO : Hid (∀ v, some (d : Int) = some v ↔ ∃ m : Nat, v = m ∧ Mn E word m x y) := Lib.hid fun v => ⟨fun e => (by cases e; exact ⟨d, rfl, HD.out⟩), fun ⟨k, e, hk⟩ => (by rw [e, hk.one HD.out])⟩
  clear hG h1 h2 hx hy hNi hd hW hE hN
  go_enter Tryz.func27, Tryz.ntmps27
  go_wp2_with (first
    | (go_at_call 64; (first
      | ((with_reducible refine HX.out.mono ?_); rintro e w1 ⟨rfl, b1⟩; have HB := Lib.hid b1; clear b1)
      | ((with_reducible refine (HY.out w1 HB.out).mono ?_); rintro e w2 ⟨rfl, b2⟩; have HB2 := Lib.hid (HB.out.trans (b2.mono HB.out.size)); clear b2)))
    | (go_at_call 67; (with_reducible refine (HF.out x y (some (d : Int)) HXI.out HYI.out HDO.out w2 HB2.out).mono ?_); rintro e W9 ⟨mb, rfl, hlk, _, hdr, b9⟩; simp only [Option.isSome_some, Option.getD_some] at hlk hdr; have HB9 := Lib.hid (HB2.out.trans (b9.mono HB2.out.size)); clear b9))
  have hz9 : w.heap.size ≤ W9.heap.size := HB9.out.size
  have hdl : d ≤ 100000 := by omega
  clear hlk hdr
  go_loopw [10, 12, 13] (fun vd vo vx X => ∃ (m : Nat) (z : Int) (O W' : List Int), m ≤ 100000 ∧ vd = .int .i64 m ∧ vx = .int .i64 z ∧ i64 z ∧ O.length + m ≤ 100000 ∧ RW E word Nd y m z W' ∧ W = O ++ W' ∧ X.ownsRow W9.heap.size 3 1 vo (O ++ [z]).length ((O ++ [z]).map (Value.int .i64)) ∧ Below W9.heap.size W9 X) (fun vd _ _ _ => (intOf vd).toNat)
  case atStart => exact ⟨d, x, [], W, hdl, rfl, rfl, HXI.out, by simpa using hdl, HRW.out, rfl, World.ownsRow_lit W9 #[.int .i64 x] 1 (Nat.le_refl _) (by decide) rfl, (Below.refl _ _).alloc (Nat.le_refl _) _⟩
  case round =>
    obtain ⟨m, z, O, W', hm, rfl, rfl, hzi, hOl, hrw, hWO, hrow, hBX⟩ := hrel
    have hBw : Below w.heap.size w wr := HB9.out.trans (hBX.mono hz9)
    cases m with
    | zero =>
      obtain ⟨_, rfl⟩ := hrw
      obtain ⟨ao, cap, rfl, hin⟩ := ownsRow_intsIn hrow
      have HWO := Lib.hid hWO
      have HIN := Lib.hid hin
      have HBW := Lib.hid hBw
      clear hWO hrow hBX hBw hin hzi
      go_wp2_with fail
      go_ret2
      exact ⟨ao, cap, by rw [HWO.out]; rfl, by rw [HWO.out]; exact HIN.out, HBW.out⟩
    | succ m =>
      obtain ⟨z1, W1, rfl, hz1, hg1, hg2, hleast, hrw1⟩ := hrw
      have hzi1 := HNI.out z1 hz1
      have HZ1 := Lib.hid hz1
      have HG1 := Lib.hid hg1
      have HG2 := Lib.hid hg2
      have HLE := Lib.hid hleast
      have HRW1 := Lib.hid hrw1
      have HWO := Lib.hid hWO
      have HROW := Lib.hid hrow
      have HBX := Lib.hid hBX
      have HBW := Lib.hid hBw
      have HZI := Lib.hid hzi
      have HZI1 := Lib.hid hzi1
      have CN := HNO.out wr hBw
      rw [← HNE.out] at CN
      have CN := Lib.hid CN
      have hmz : ((m + 1 : Nat) : Int) > 0 := by omega
      clear hz1 hg1 hg2 hleast hrw1 hWO hrow hBX hBw hzi hzi1
      go_wp2_with (go_at_call 29; (with_reducible refine CN.out.mono ?_); rintro e X1 ⟨vn, rfl, own1, b1⟩; obtain ⟨an, cn, rfl, hin1⟩ := ownsRow_intsIn own1; have HIN1 := Lib.hid hin1; have HB1 := Lib.hid b1; clear own1 b1 hin1)
      have HROW1 := Lib.hid (ownsRow_below HROW.out HB1.out)
      have HBX1 := Lib.hid (HBX.out.trans (HB1.out.mono HBX.out.size))
      clear HROW HBX CN
      go_loopw [13, 50] (fun vx vq Y => ∃ q : Nat, q ≤ Nd.length ∧ vq = .int .i64 q ∧ vx = .int .i64 z ∧ Below X1.heap.size X1 Y ∧ ∀ u ∈ Nd.take q, ¬ (Mn E word 1 z u ∧ Mn E word m u y)) (fun _ vq _ => Nd.length - (intOf vq).toNat)
      case atStart => exact ⟨0, Nat.zero_le _, rfl, rfl, Below.refl _ _, fun u hu => by simp at hu⟩
      case round =>
        obtain ⟨q, hq, rfl, rfl, hby, hno⟩ := hrel
        have hBy : Below w.heap.size w wr := HBW.out.trans ((HB1.out.trans (hby.mono HB1.out.size)).mono HBW.out.size)
        by_cases hqn : q < Nd.length
        · obtain ⟨nb, u, rfl, hu, hnl, e0⟩ := intsIn_get (HIN1.out.below hby) hqn
          have hui := HNI.out u (List.mem_of_getElem? hu)
          obtain ⟨o1, ho1⟩ := dist_opt E word u y
          obtain ⟨o2, ho2⟩ := dist_opt E word z u
          have C1 := Lib.hid (HF.out u y o1 hui HYI.out ho1 wr hBy)
          have C2 := Lib.hid fun (X : World) (hX : Below w.heap.size w X) => HF.out z u o2 HZI.out hui ho2 X hX
          have hst : Nd.take (q + 1) = Nd.take q ++ [u] := by rw [List.take_add_one, hu]; rfl
          have hgood : (o1 = some (m : Int) ∧ o2 = some 1) ↔ (Mn E word 1 z u ∧ Mn E word m u y) := by
            rw [opt_is ho1, show (1 : Int) = ((1 : Nat) : Int) from rfl, opt_is ho2, and_comm]
          have more : ¬ (o1 = some (m : Int) ∧ o2 = some 1) → ∀ v ∈ Nd.take (q + 1), ¬ (Mn E word 1 z v ∧ Mn E word m v y) := fun hb v hv => by
            rw [hst] at hv
            rcases List.mem_append.1 hv with hv | hv
            · exact hno v hv
            · rw [List.mem_singleton.1 hv]; exact fun h => hb (hgood.2 h)
          have same : (o1 = some (m : Int) ∧ o2 = some 1) → u = z1 := fun hb => first_least HNS.out hu (hgood.1 hb) hno HZ1.out ⟨HG1.out, HG2.out⟩ fun v hv h => HLE.out v hv h.1 h.2
          have MORE := Lib.hid more
          have SAME := Lib.hid same
          have HBY := Lib.hid hby
          have HBYW := Lib.hid hBy
          have i0 : (0 : Int) ≤ (q : Int) := by omega
          have i1 : (q : Int) < (Nd.length : Int) := by omega
          have hm1 : (m : Int) ≤ 100000 := by omega
          have hm2 : (0 : Int) ≤ (m : Int) := by omega
          have HROW2 := Lib.hid (ownsRow_below HROW1.out hby)
          have HBX2 := Lib.hid (HBX1.out.trans (hby.mono HBX1.out.size))
          have hOz : (O ++ [z]).length ≤ 100001 := by rw [List.length_append, List.length_singleton]; omega
          clear hno hBy hby hu hst hgood more same ho1 ho2 hui
          by_cases hb : o1 = some (m : Int) ∧ o2 = some 1
          · have HU := Lib.hid (SAME.out hb)
            obtain ⟨rfl, rfl⟩ := hb
            clear MORE SAME
            go_wp2_with (first
              | (go_at_call 67; (first
                | ((with_reducible refine C1.out.mono ?_); rintro e Y1 ⟨m1, rfl, l1, _, _, b1⟩; simp only [Option.isSome_some, Option.getD_some] at l1; have B1 := Lib.hid b1; have hY1 := HBYW.out.trans (b1.mono HBYW.out.size); have HY1 := Lib.hid hY1; clear b1 hY1)
                | ((with_reducible refine (C2.out Y1 HY1.out).mono ?_); rintro e Y2 ⟨m2, rfl, _, l2, _, b2⟩; simp only [Option.getD_some] at l2; have B2 := Lib.hid (B1.out.trans (b2.mono B1.out.size)); have HROW3 := Lib.hid (ownsRow_below HROW2.out B2.out); have HBX3 := Lib.hid (HBX2.out.trans (B2.out.mono HBX2.out.size)); have hs3 := HBX3.out.size; clear b2)))
              | (at_builtin; refine appInt rfl _ _ rfl W9.heap.size _ (O ++ [z]) rfl (HROW3.out.alloc _) Y2.heap.size u rfl (by simp) (by omega) (by simp; omega) W9 (HBX3.out.alloc hs3 _) ?_; intro v8 w8 hown8 hB8 hs8 _))
            exact ⟨⟨m, u, O ++ [z], W1, by omega, by go_num, rfl, by rw [HU.out]; exact HZI1.out, by rw [List.length_append, List.length_singleton]; omega, by rw [HU.out]; exact HRW1.out, by rw [HWO.out, List.append_assoc]; rfl, hown8, hB8⟩, by simp [intOf]⟩
          · have HM := Lib.hid (MORE.out hb)
            clear MORE SAME
            cases o1 with
            | none =>
              clear hb
              go_wp2_with (go_at_call 67; (first
                | ((with_reducible refine C1.out.mono ?_); rintro e Y1 ⟨m1, rfl, l1, _, _, b1⟩; simp only [Option.isSome_none, Option.getD_none] at l1; have B1 := Lib.hid b1; have hY1 := HBYW.out.trans (b1.mono HBYW.out.size); have HY1 := Lib.hid hY1; clear b1 hY1)
                | ((with_reducible refine (C2.out Y1 HY1.out).mono ?_); rintro e Y2 ⟨m2, rfl, _, _, _, b2⟩; have B2 := Lib.hid (B1.out.trans (b2.mono B1.out.size)); clear b2)))
              exact ⟨⟨q + 1, by omega, by go_num, rfl, HBY.out.trans (B2.out.mono HBY.out.size), HM.out⟩, by simp [intOf]; omega⟩
            | some v =>
              by_cases hv : v = (m : Int)
              · subst hv
                have h21 : (o2.getD 0 == 1) = false := by
                  cases o2 with
                  | none => rfl
                  | some c =>
                    have : c ≠ 1 := fun e => hb ⟨rfl, by rw [e]⟩
                    simpa using this
                generalize o2.getD 0 = c2 at *
                clear hb
                go_wp2_with (go_at_call 67; (first
                  | ((with_reducible refine C1.out.mono ?_); rintro e Y1 ⟨m1, rfl, l1, _, _, b1⟩; simp only [Option.isSome_some, Option.getD_some] at l1; have B1 := Lib.hid b1; have hY1 := HBYW.out.trans (b1.mono HBYW.out.size); have HY1 := Lib.hid hY1; clear b1 hY1)
                  | ((with_reducible refine (C2.out Y1 HY1.out).mono ?_); rintro e Y2 ⟨m2, rfl, _, l2, _, b2⟩; have B2 := Lib.hid (B1.out.trans (b2.mono B1.out.size)); clear b2)))
                exact ⟨⟨q + 1, by omega, by go_num, rfl, HBY.out.trans (B2.out.mono HBY.out.size), HM.out⟩, by simp [intOf]; omega⟩
              · have hvz : (v == (m : Int)) = false := by simpa using hv
                clear hb
                go_wp2_with (go_at_call 67; (first
                  | ((with_reducible refine C1.out.mono ?_); rintro e Y1 ⟨m1, rfl, l1, _, _, b1⟩; simp only [Option.isSome_some, Option.getD_some] at l1; have B1 := Lib.hid b1; have hY1 := HBYW.out.trans (b1.mono HBYW.out.size); have HY1 := Lib.hid hY1; clear b1 hY1)
                  | ((with_reducible refine (C2.out Y1 HY1.out).mono ?_); rintro e Y2 ⟨m2, rfl, _, l2, _, b2⟩; have B2 := Lib.hid (B1.out.trans (b2.mono B1.out.size)); clear b2)))
                exact ⟨⟨q + 1, by omega, by go_num, rfl, HBY.out.trans (B2.out.mono HBY.out.size), HM.out⟩, by simp [intOf]; omega⟩
        · obtain rfl : q = Nd.length := by omega
          exact absurd ⟨HG1.out, HG2.out⟩ (hno z1 (by rw [List.take_of_length_le (Nat.le_refl _)]; exact HZ1.out))
end Go.Proofs.YtflhpmgjehjjkaaGreatDoor
