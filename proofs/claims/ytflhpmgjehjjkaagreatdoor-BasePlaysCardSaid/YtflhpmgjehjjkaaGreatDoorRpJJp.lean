/- The reference past, walked: Ever, what is wrong with what is asked. -/
import Derived.Test.YtflhpmgjehjjkaaGreatDoorRpDJp
import Derived.Test.YtflhpmgjehjjkaaGreatDoorRpNJp
import Derived.Test.YtflhpmgjehjjkaaGreatDoorPwMJp
namespace Go.Proofs.YtflhpmgjehjjkaaGreatDoor
open Go.RowKit Go.Deep Go.Shelf Go.Sort Go.Maps
def pieRE (hist : List (List OpP)) (known : Int) (k : KeyP) (a : Int) : Int := if askR hist.length known a ≠ 0 then askR hist.length known a else if keyB k then 0 else 1
theorem mem_ends {l : List OpP} {k : KeyP} {e : Int} (h : isEnd l k e) : e ∈ sortI (endsL (spK l k)) := by
 obtain ⟨o, ho, hk, he⟩ := h
 have hp : (o.fr, o.to) ∈ spK l k := List.mem_map.2 ⟨o, List.mem_filter.2 ⟨ho, decide_eq_true hk⟩, rfl⟩
 obtain ⟨h1, h2⟩ := mem_endsL _ _ hp
 rw [<- mem_sortI]
 rcases he with rfl | rfl
 · exact h1
 · exact h2
theorem new_cell (W : World) (cs : Array Value) (ty : TypeId) (n : Nat) (hn : W.heap.size = n) (i : Nat) (v : Value) (h : cs[i]? = some v) : (W.alloc (.cells cs ty)).cell? ⟨n, i, none⟩ = some v := by
 subst hn; rw [block_cell (block_alloc_new W _) i]; exact h
theorem openP_nil (D : List Pc) (fr : Int) {last : ByteArray} (h : last.size = 0) : openP D fr last = D := if_pos h
theorem openP_one (D : List Pc) (fr : Int) {last : ByteArray} (h : last.size ≠ 0) : openP D fr last = D ++ [⟨fr, 0, last⟩] := if_neg h
theorem closeP_nil (D : List Pc) (fr T : Int) {last : ByteArray} (h : last.size = 0) : closeP D fr last T = D := if_pos h
theorem closeP_one (D : List Pc) (fr T : Int) {last : ByteArray} (h : last.size ≠ 0) : closeP D fr last T = D ++ [⟨fr, T, last⟩] := if_neg h
theorem isE0 {x : ByteArray} (h : x.size = 0) : x.toList.isEmpty = true := by rw [size0 h, ByteArray.toList_eq]; rfl
theorem isE1 {x : ByteArray} (h : x.size ≠ 0) : x.toList.isEmpty = false := by
 cases e : x.toList with
 | nil => exact absurd (by rw [ByteArray.toList_eq] at e; simpa using congrArg List.length e : x.size = 0) h
 | cons _ _ => rfl
section
variable {F : Nat -> Prop} {rb : Nat} {hist : List (List OpP)} {known : Int}
set_option maxRecDepth 100000 in
set_option maxHeartbeats 2000000 in
theorem rppieces_bad (k : KeyP) (a : Int) (w : World) (h : RP F w rb hist known) (hs : k.word.size <= maxLen) (hb : pieRE hist known k a ≠ 0) :
  Calls Tryz.prog 84 #[.pointer (some ⟨rb, 0, none⟩), .agg #[.int .i64 k.kind, .int .i64 k.a, .string k.word, .int .i64 k.b], .int .i64 a] w fun e w' => e = .returned (.tuple #[.slice none 0 0, .int .i64 (pieRE hist known k a)]) /\ Below w.heap.size w w' := by
 obtain ⟨kk, ka, kw, kb⟩ := k
 obtain ⟨W0, hW0⟩ : ∃ W0, W0 = w.alloc (.cells #[.int .i64 kk, .int .i64 ka, .string kw, .int .i64 kb] 44) := ⟨_, rfl⟩
 have hB0 : Below w.heap.size w W0 := by rw [hW0]; exact (Below.refl _ _).alloc (Nat.le_refl _) _
 have hA := rpask_any a W0 (h.below hB0)
 have hK := rkey_any kk ka kb kw W0 hs
 unfold pieRE at hb ⊢
 generalize hn : askR hist.length known a = n at *
 rcases Decidable.em (n = 0) with h0 | h0
 · subst h0
   rw [if_neg (by decide)] at hb ⊢
   have hkb : keyB ⟨kk, ka, kw, kb⟩ = false := by
    cases e : keyB ⟨kk, ka, kw, kb⟩ with
    | false => rfl
    | true => rw [e] at hb; exact absurd rfl hb
   rw [hkb] at hK ⊢
   have hkx : W0.heap[w.heap.size]? = some (.cells #[.int .i64 kk, .int .i64 ka, .string kw, .int .i64 kb] 44 (0, 0)) := by rw [hW0]; exact heap_alloc_new _ _
   have hwl : w.heap.size < W0.heap.size := lt_of_block hkx
   have k0 : W0.cell? ⟨w.heap.size, 0, none⟩ = some (.int .i64 kk) := by simp [World.cell?, hkx]
   have k1 : W0.cell? ⟨w.heap.size, 1, none⟩ = some (.int .i64 ka) := by simp [World.cell?, hkx]
   have k2 : W0.cell? ⟨w.heap.size, 2, none⟩ = some (.string kw) := by simp [World.cell?, hkx]
   have k3 : W0.cell? ⟨w.heap.size, 3, none⟩ = some (.int .i64 kb) := by simp [World.cell?, hkx]
   have HA := Lib.hid hA
   have HK := Lib.hid hK
   have HW0 := Lib.hid hW0
   have HB0 := Lib.hid hB0
   clear hA hK hW0 hB0 h hn hkb hkx hb
   go_enter Tryz.func84, Tryz.ntmps84
   go_wp2_with fail
   rw [<- HW0.out]
   refine HA.out.mono ?_
   rintro e w1 ⟨rfl, rfl⟩
   go_wp2_with fail
   refine HK.out.mono ?_
   rintro e w2 ⟨rfl, b2⟩
   have HB2 := Lib.hid (below_trans HB0.out HB0.out.size b2)
   clear b2
   go_wp2_with fail
   go_ret2
   exact ⟨rfl, HB2.out⟩
 · rw [if_pos h0]
   have HA := Lib.hid hA
   have HW0 := Lib.hid hW0
   have HB0 := Lib.hid hB0
   clear hA hK hW0 hB0 h hn hb
   have h0' : ¬ n = 0 := h0
   go_enter Tryz.func84, Tryz.ntmps84
   go_wp2_with fail
   rw [<- HW0.out]
   refine HA.out.mono ?_
   rintro e w1 ⟨rfl, rfl⟩
   go_wp2_with fail
   go_ret2
   exact ⟨rfl, HB0.out⟩
def PiecesR (hist : List (List OpP)) (k : KeyP) (n : Nat) (w : World) (e : Ending) (w' : World) : Prop :=
 ∃ (v : Value) (L : List Pc), e = .returned (.tuple #[v, .int .i64 0]) /\ PiecesOf hist k n L /\ L.length <= 3600 /\ w'.ownsRow w.heap.size 96 3 v L.length (flatP L) /\ Below w.heap.size w w'
set_option maxRecDepth 100000 in
set_option maxHeartbeats 8000000 in
theorem rppieces_ok (k : KeyP) (n : Nat) (w : World) (h : RP F w rb hist known) (hs : k.word.size <= maxLen) (hb : pieRE hist known k n = 0) :
  Calls Tryz.prog 84 #[.pointer (some ⟨rb, 0, none⟩), .agg #[.int .i64 k.kind, .int .i64 k.a, .string k.word, .int .i64 k.b], .int .i64 (n : Nat)] w (PiecesR hist k n w) := by
 obtain ⟨kk, ka, kw, kb⟩ := k
 obtain ⟨W0, hW0⟩ : ∃ W0, W0 = w.alloc (.cells #[.int .i64 kk, .int .i64 ka, .string kw, .int .i64 kb] 44) := ⟨_, rfl⟩
 have hB0 : Below w.heap.size w W0 := by rw [hW0]; exact (Below.refl _ _).alloc (Nat.le_refl _) _
 have hP0 := h.below hB0
 have hA := rpask_any n W0 hP0
 have hK := rkey_any kk ka kb kw W0 hs
 unfold pieRE at hb
 have hask : askR hist.length known n = 0 := by
  rcases Decidable.em (askR hist.length known n = 0) with e | e
  · exact e
  · rw [if_pos e] at hb; exact hb
 have hkb : keyB ⟨kk, ka, kw, kb⟩ = true := by
  rw [if_neg (by rw [hask]; decide)] at hb
  cases e : keyB ⟨kk, ka, kw, kb⟩ with
  | true => rfl
  | false => rw [e] at hb; cases hb
 obtain ⟨q1, q2, q3⟩ := askR_0 hask
 have hn : n <= hist.length := by omega
 rw [hask] at hA
 rw [hkb] at hK
 have hkx : W0.heap[w.heap.size]? = some (.cells #[.int .i64 kk, .int .i64 ka, .string kw, .int .i64 kb] 44 (0, 0)) := by rw [hW0]; exact heap_alloc_new _ _
 have hwl : w.heap.size < W0.heap.size := lt_of_block hkx
 have k0 : W0.cell? ⟨w.heap.size, 0, none⟩ = some (.int .i64 kk) := by simp [World.cell?, hkx]
 have k1 : W0.cell? ⟨w.heap.size, 1, none⟩ = some (.int .i64 ka) := by simp [World.cell?, hkx]
 have k2 : W0.cell? ⟨w.heap.size, 2, none⟩ = some (.string kw) := by simp [World.cell?, hkx]
 have k3 : W0.cell? ⟨w.heap.size, 3, none⟩ = some (.int .i64 kb) := by simp [World.cell?, hkx]
 have hfl := flatten_len hist h.ok
 have hlen := h.len
 have hsl := spK_len hist.flatten ⟨kk, ka, kw, kb⟩
 have HA := Lib.hid hA
 have HK := Lib.hid hK
 have HW0 := Lib.hid hW0
 have HB0 := Lib.hid hB0
 have HP0 := Lib.hid hP0
 have HKX := Lib.hid hkx
 clear hA hK hW0 hB0 h hkb hkx hb hask hP0
 go_enter Tryz.func84, Tryz.ntmps84
 go_wp2_with fail
 rw [<- HW0.out]
 refine HA.out.mono ?_
 rintro e w1 ⟨rfl, rfl⟩
 go_wp2_with fail
 refine HK.out.mono ?_
 rintro e w2 ⟨rfl, b2⟩
 have k0 := below_cell b2 hwl k0
 have k1 := below_cell b2 hwl k1
 have k2 := below_cell b2 hwl k2
 have k3 := below_cell b2 hwl k3
 have hwl2 := Nat.lt_of_lt_of_le hwl b2.size
 have HE := Lib.hid (rpends_any ⟨kk, ka, kw, kb⟩ w2 (HP0.out.below b2))
 have HP2 := Lib.hid (HP0.out.below b2)
 have HKX2 := Lib.hid ((b2.block _ hwl).trans HKX.out)
 have HB2 := Lib.hid (below_trans HB0.out HB0.out.size b2)
 clear b2
 go_wp2_with fail
 refine HE.out.mono ?_
 rintro e w3 ⟨v, rfl, hown, b3⟩
 have hEl : (endsL (spK hist.flatten ⟨kk, ka, kw, kb⟩)).length = (sortI (endsL (spK hist.flatten ⟨kk, ka, kw, kb⟩))).length := (sortI_length _).symm
 have hEm : ∀ e, isEnd hist.flatten ⟨kk, ka, kw, kb⟩ e -> e ∈ sortI (endsL (spK hist.flatten ⟨kk, ka, kw, kb⟩)) := fun e he => mem_ends he
 have hEs := sortI_sorted (endsL (spK hist.flatten ⟨kk, ka, kw, kb⟩))
 have hE24 : (sortI (endsL (spK hist.flatten ⟨kk, ka, kw, kb⟩))).length <= 2400 := by rw [sortI_length, endsL_length]; omega
 rw [hEl] at hown
 generalize sortI (endsL (spK hist.flatten ⟨kk, ka, kw, kb⟩)) = E at *
 obtain ⟨eo, ec, rfl, hints⟩ := ownsRow_intsB hown
 have HP3 := Lib.hid (HP2.out.below b3)
 have HKX3 := Lib.hid ((b3.block _ hwl2).trans HKX2.out)
 have HB3 := Lib.hid (below_trans HB2.out HB2.out.size b3)
 have HI := Lib.hid hints
 have HEM := Lib.hid hEm
 have HES := Lib.hid hEs
 have hwl3 := Nat.lt_of_lt_of_le hwl2 b3.size
 clear hown hints hEm hEs b3 hEl hsl hfl k0 k1 k2 k3
 go_wp2_with fail
 go_loopw [9, 10, 27] (fun v lv i X => ∃ j : Nat, j <= E.length /\ i = .int .i64 j /\ (∃ D fr last, lv = .string last /\ PScan hist ⟨kk, ka, kw, kb⟩ n E j D fr last /\ X.ownsRow w3.heap.size 96 3 v (openP D fr last).length (flatP (openP D fr last))) /\ Below w3.heap.size w3 X) (fun _ _ i _ => E.length - (intOf i).toNat)
 case atStart => exact ⟨0, Nat.zero_le _, rfl, ⟨[], 0, ⟨#[]⟩, rfl, PScan.start HEM.out, by rw [openP_nil _ _ rfl]; exact World.ownsRow_nil _ _ _ _⟩, Below.refl _ _⟩
 case round =>
  obtain ⟨j, hj, rfl, ⟨D, fr, last, rfl, hsc, hown⟩, hb⟩ := hrel
  by_cases hlt : j < E.length
  · obtain ⟨x, hx⟩ : ∃ x, E[j]? = some x := ⟨_, List.getElem?_eq_getElem hlt⟩
    obtain ⟨be, rfl, _, ce⟩ := HI.out j x hx
    have hbe : be < w3.heap.size := World.block_lt_of_cell? w3 _ ce
    have ce := below_cell hb hbe ce
    have hbe2 : be < wr.heap.size := Nat.lt_of_lt_of_le hbe hb.size
    have kxb := (hb.block w.heap.size hwl3).trans HKX3.out
    have k0 : wr.cell? ⟨w.heap.size, 0, none⟩ = some (.int .i64 kk) := by simp [World.cell?, kxb]
    have k1 : wr.cell? ⟨w.heap.size, 1, none⟩ = some (.int .i64 ka) := by simp [World.cell?, kxb]
    have k2 : wr.cell? ⟨w.heap.size, 2, none⟩ = some (.string kw) := by simp [World.cell?, kxb]
    have k3 : wr.cell? ⟨w.heap.size, 3, none⟩ = some (.int .i64 kb) := by simp [World.cell?, kxb]
    have hkl : w.heap.size < wr.heap.size := lt_of_block kxb
    have hD := hsc.len
    have j0 : (0 : Int) <= (j : Int) := by omega
    have j1 : (j : Int) < (E.length : Int) := by omega
    have HS := Lib.hid (rpsaid_any ⟨kk, ka, kw, kb⟩ n x wr (HP3.out.below hb) hn)
    have HSA := Lib.hid (fun he => hsc.same HEM.out HES.out hx he)
    have HTU := Lib.hid (fun he => hsc.turn HEM.out HES.out hx he)
    generalize saidH hist ⟨kk, ka, kw, kb⟩ n x = u at *
    obtain ⟨vo, vc, rfl, _⟩ := ownsRow_pcs hown
    have HO := Lib.hid hown
    have HB := Lib.hid hb
    clear hsc hx kxb hown hb
    go_wp2_with fail
    refine HS.out.mono ?_
    rintro e w4 ⟨rfl, b4⟩
    have HO4 := Lib.hid (ownsRow_below HO.out b4)
    have HB4 := Lib.hid (below_trans HB.out HB.out.size b4)
    have hs4 : w3.heap.size <= w4.heap.size := HB4.out.size
    clear b4 ce k0 k1 k2 k3
    by_cases he : u = last
    · have t1 : (u.toList == last.toList) = true := by rw [bytes_beq]; exact decide_eq_true he
      have HN := Lib.hid (HSA.out he)
      clear he
      go_wp2_with fail
      exact ⟨⟨j + 1, by omega, by go_num, ⟨D, fr, last, rfl, HN.out, HO4.out⟩, HB4.out⟩, by simp [intOf]; omega⟩
    · have t1 : (u.toList == last.toList) = false := by rw [bytes_beq]; exact decide_eq_false he
      have hN := HTU.out he
      rcases Nat.eq_zero_or_pos last.size with hl0 | hl0
      · have hu0 : u.size ≠ 0 := fun e => he (by rw [size0 e, size0 hl0])
        have t2 := isE0 hl0
        have t3 := isE1 hu0
        rw [closeP_nil _ _ _ hl0] at hN
        have hO := HO4.out
        rw [openP_nil _ _ hl0] at hO
        have e9 : (openP D fr last).length = D.length := by rw [openP_nil _ _ hl0]
        have hon := openP_one D x hu0
        obtain ⟨vo2, vc2, hv2, _⟩ := ownsRow_pcs hO
        rw [e9] at *
        have HN := Lib.hid hN
        have HOO := Lib.hid hO
        have HON := Lib.hid hon
        clear he hN hO hl0 hu0 e9 hon hv2
        go_wp2_with (at_builtin; refine appPiece rfl _ _ rfl w3.heap.size _ D rfl (HOO.out.alloc _) w4.heap.size ⟨x, 0, u⟩ rfl (by simp) (by simp) (by simp) (by omega) (by simp; omega) w3 (HB4.out.alloc hs4 _) ?_; intro v' w6 hown6 hB6 hs6 hg6)
        exact ⟨⟨j + 1, by omega, by go_num, ⟨D, x, u, rfl, HN.out, by rw [HON.out]; exact hown6⟩, hB6⟩, by simp [intOf]; omega⟩
      · have hl1 : last.size ≠ 0 := by omega
        have t2 := isE1 hl1
        rw [closeP_one _ _ _ hl1] at hN
        have hO := HO4.out
        have e9 : openP D fr last = D ++ [⟨fr, 0, last⟩] := openP_one _ _ hl1
        have e8 : (openP D fr last).length = D.length + 1 := by rw [e9, List.length_append]; rfl
        rw [e8, e9] at hO
        rw [e8] at *
        obtain ⟨gb, gc, hv⟩ := ownsRow_succ hO
        cases hv
        have hgl := hO.lt gb rfl
        obtain ⟨f0, f1, f2⟩ := flatP_last D ⟨fr, 0, last⟩
        have g1 : w4.cell? ⟨gb, D.length * 3 + 1, none⟩ = some (.int .i64 0) := by rw [hO.cellAt (D.length * 3 + 1) (by omega)]; exact f1
        have g3 := hO.frozenAt (D.length * 3 + 1)
        have hst := hO.stored (D.length * 3 + 1) (.int .i64 x)
        rw [flatP_setLast] at hst
        have hbs : Below w3.heap.size w3 (w4.setCell ⟨gb, D.length * 3 + 1, none⟩ (.int .i64 x)) := HB4.out.setCell (p := ⟨gb, D.length * 3 + 1, none⟩) hgl.1 _
        have hgw : gb < w4.heap.size := hgl.2
        have HST := Lib.hid hst.1
        have HBS := Lib.hid hbs
        have d1 : (0 : Int) <= (D.length : Int) := by omega
        clear hst hbs f0 f1 f2 hO he hl0 hl1 e9 e8
        rcases Nat.eq_zero_or_pos u.size with hu0 | hu0
        · have t3 := isE0 hu0
          have hon := openP_nil (D ++ [(⟨fr, x, last⟩ : Pc)]) x hu0
          have HN := Lib.hid hN
          have HON := Lib.hid hon
          clear hN hon hu0
          go_wp2_with fail
          exact ⟨⟨j + 1, by omega, by go_num, ⟨D ++ [⟨fr, x, last⟩], x, u, rfl, HN.out, by rw [HON.out, List.length_append]; exact HST.out⟩, HBS.out⟩, by simp [intOf]; omega⟩
        · have hu1 : u.size ≠ 0 := by omega
          have t3 := isE1 hu1
          have hon := openP_one (D ++ [(⟨fr, x, last⟩ : Pc)]) x hu1
          have HN := Lib.hid hN
          have HON := Lib.hid hon
          have hs5 : w3.heap.size <= (w4.setCell ⟨gb, D.length * 3 + 1, none⟩ (.int .i64 x)).heap.size := HBS.out.size
          have HST2 : Hid ((w4.setCell ⟨gb, D.length * 3 + 1, none⟩ (.int .i64 x)).ownsRow w3.heap.size 96 3 (.slice (some ⟨gb, 0, none⟩) (D.length + 1) vc) (D ++ [(⟨fr, x, last⟩ : Pc)]).length (flatP (D ++ [(⟨fr, x, last⟩ : Pc)]))) := Lib.hid (by rw [List.length_append]; exact HST.out)
          clear hN hon hu0 hu1
          go_wp2_with (at_builtin; refine appPiece rfl _ _ rfl w3.heap.size _ (D ++ [(⟨fr, x, last⟩ : Pc)]) rfl (HST2.out.alloc _) _ ⟨x, 0, u⟩ rfl (new_cell _ _ _ _ (by simp [World.setCell]) 0 _ rfl) (new_cell _ _ _ _ (by simp [World.setCell]) 1 _ rfl) (new_cell _ _ _ _ (by simp [World.setCell]) 2 _ rfl) (by rw [List.length_append]; simp; omega) (by simp; omega) w3 (HBS.out.alloc hs5 _) ?_; intro v' w6 hown6 hB6 hs6 hg6)
          exact ⟨⟨j + 1, by omega, by go_num, ⟨D ++ [⟨fr, x, last⟩], x, u, rfl, HN.out, by rw [HON.out]; exact hown6⟩, hB6⟩, by simp [intOf]; omega⟩
  · obtain rfl : j = E.length := by omega
    obtain ⟨rfl, hpc⟩ := hsc.done HEM.out
    rw [openP_nil _ _ rfl] at hown
    have hD := hsc.len
    have HO := Lib.hid hown
    have HB := Lib.hid hb
    have HPC := Lib.hid hpc
    clear hown hb hpc hsc
    go_wp2_with fail
    go_ret2
    exact ⟨_, D, rfl, HPC.out, by omega, ownsRow_mono HO.out HB3.out.size, below_trans HB3.out HB3.out.size HB.out⟩
end
end Go.Proofs.YtflhpmgjehjjkaaGreatDoor
namespace Go.Proofs.YtflhpmgjehjjkaaGreatDoor
open Go.RowKit Go.Deep Go.Shelf Go.Sort Go.Maps
def everRE (hist : List (List OpP)) (known : Int) (k : KeyP) (a b f t : Int) : Int :=
 if askR hist.length known a ≠ 0 then askR hist.length known a else if askR hist.length known b ≠ 0 then askR hist.length known b else if b < a then 10 else if keyB k && rightB f t then 0 else 1
theorem new_blk (W : World) (cs : Array Value) (ty : TypeId) (n : Nat) (hn : W.heap.size = n) : (W.alloc (.cells cs ty)).heap[n]? = some (.cells cs ty (0, 0)) := by
 subst hn; exact block_alloc_new W _
section
variable {F : Nat -> Prop} {rb : Nat} {hist : List (List OpP)} {known : Int}
set_option maxRecDepth 100000 in
set_option maxHeartbeats 4000000 in
theorem rpever_bad (k : KeyP) (a b f t : Int) (w : World) (h : RP F w rb hist known) (hs : k.word.size <= maxLen) (hb : everRE hist known k a b f t ≠ 0) :
  Calls Tryz.prog 86 #[.pointer (some ⟨rb, 0, none⟩), .agg #[.int .i64 k.kind, .int .i64 k.a, .string k.word, .int .i64 k.b], .int .i64 a, .int .i64 b, .agg #[.int .i64 f, .int .i64 t]] w fun e w' => e = .returned (.tuple #[.slice none 0 0, .int .i64 (everRE hist known k a b f t)]) /\ Below w.heap.size w w' := by
 obtain ⟨kk, ka, kw, kb⟩ := k
 obtain ⟨W0, hW0⟩ : ∃ W0, W0 = ((w.alloc (.cells #[.int .i64 kk, .int .i64 ka, .string kw, .int .i64 kb] 44)).alloc (.cells #[.int .i64 f, .int .i64 t] 68)).alloc (.cells #[.int .i64 a, .int .i64 b] 3) := ⟨_, rfl⟩
 have hB0 : Below w.heap.size w W0 := by rw [hW0]; exact (((Below.refl _ _).alloc (Nat.le_refl _) _).alloc (by simp) _).alloc (by simp; omega) _
 have hA := rpask_any a W0 (h.below hB0)
 have hAb := rpask_any b W0 (h.below hB0)
 have hK := rkey_any kk ka kb kw W0 hs
 have hR := fun X => rright_any f t X
 unfold everRE at hb ⊢
 generalize ha : askR hist.length known a = n at *
 generalize hbb : askR hist.length known b = m at *
 have HA := Lib.hid hA
 have HAB := Lib.hid hAb
 have HB0 := Lib.hid hB0
 have hcb : W0.heap[w.heap.size + 1 + 1]? = some (.cells #[.int .i64 a, .int .i64 b] 3 (0, 0)) := by rw [hW0]; exact new_blk _ _ _ _ (by simp)
 have hkb : W0.heap[w.heap.size]? = some (.cells #[.int .i64 kk, .int .i64 ka, .string kw, .int .i64 kb] 44 (0, 0)) := by rw [hW0]; exact block_alloc (block_alloc (block_alloc_new _ _) _) _
 have hsb : W0.heap[w.heap.size + 1]? = some (.cells #[.int .i64 f, .int .i64 t] 68 (0, 0)) := by rw [hW0]; exact block_alloc (new_blk _ _ _ _ (by simp)) _
 have c0 : W0.cell? ⟨w.heap.size + 1 + 1, 0, none⟩ = some (.int .i64 a) := block_cell hcb 0
 have c1 : W0.cell? ⟨w.heap.size + 1 + 1, 1, none⟩ = some (.int .i64 b) := block_cell hcb 1
 have k0 : W0.cell? ⟨w.heap.size, 0, none⟩ = some (.int .i64 kk) := block_cell hkb 0
 have k1 : W0.cell? ⟨w.heap.size, 1, none⟩ = some (.int .i64 ka) := block_cell hkb 1
 have k2 : W0.cell? ⟨w.heap.size, 2, none⟩ = some (.string kw) := block_cell hkb 2
 have k3 : W0.cell? ⟨w.heap.size, 3, none⟩ = some (.int .i64 kb) := block_cell hkb 3
 have s0 : W0.cell? ⟨w.heap.size + 1, 0, none⟩ = some (.int .i64 f) := block_cell hsb 0
 have s1 : W0.cell? ⟨w.heap.size + 1, 1, none⟩ = some (.int .i64 t) := block_cell hsb 1
 clear hcb hkb hsb
 have hsz : W0.heap.size = w.heap.size + 3 := by rw [hW0]; simp
 have hq0 : w.heap.size < W0.heap.size := by omega
 have hq1 : w.heap.size + 1 < W0.heap.size := by omega
 have hq2 : w.heap.size + 1 + 1 < W0.heap.size := by omega
 have HSZ := Lib.hid hsz
 have HW0 := Lib.hid hW0
 clear hA hAb hB0 hW0 h hsz
 rcases Decidable.em (n = 0) with h0 | h0
 · subst h0
   rw [if_neg (by decide)] at hb ⊢
   rcases Decidable.em (m = 0) with h1 | h1
   · subst h1
     rw [if_neg (by decide)] at hb ⊢
     by_cases hlt : b < a
     · rw [if_pos hlt]
       clear hb ha hbb hK hR k0 k1 k2 k3 s0 s1
       go_enter Tryz.func86, Tryz.ntmps86
       go_wp2_with fail
       rw [<- HW0.out]
       refine wp_loop_rounds 3 ?_
       rw [rounds_succ]
       go_wp2_with fail
       refine HA.out.mono ?_
       rintro e w1 ⟨rfl, rfl⟩
       go_wp2_with fail
       rw [rounds_succ]
       go_wp2_with fail
       refine HAB.out.mono ?_
       rintro e w1 ⟨rfl, rfl⟩
       go_wp2_with fail
       rw [rounds_succ]
       go_wp2_with fail
       go_ret2
       exact ⟨rfl, HB0.out⟩
     · rw [if_neg hlt] at hb ⊢
       have hlt' : decide (b < a) = false := by simpa using hlt
       have hbad : (keyB ⟨kk, ka, kw, kb⟩ && rightB f t) = false := by
        cases hx : keyB ⟨kk, ka, kw, kb⟩ && rightB f t with
        | false => rfl
        | true => rw [hx] at hb; exact absurd rfl hb
       rw [if_neg (by rw [hbad]; decide)]
       clear hb ha hbb
       cases hk : keyB ⟨kk, ka, kw, kb⟩
       · rw [hk] at hK
         have HK := Lib.hid hK
         clear hbad hk hK hR s0 s1
         go_enter Tryz.func86, Tryz.ntmps86
         go_wp2_with fail
         rw [<- HW0.out]
         refine wp_loop_rounds 3 ?_
         rw [rounds_succ]
         go_wp2_with fail
         refine HA.out.mono ?_
         rintro e w1 ⟨rfl, rfl⟩
         go_wp2_with fail
         rw [rounds_succ]
         go_wp2_with fail
         refine HAB.out.mono ?_
         rintro e w1 ⟨rfl, rfl⟩
         go_wp2_with fail
         rw [rounds_succ]
         go_wp2_with fail
         refine HK.out.mono ?_
         rintro e w2 ⟨rfl, b2⟩
         have HB2 := Lib.hid (below_trans HB0.out HB0.out.size b2)
         clear b2
         go_wp2_with fail
         go_ret2
         exact ⟨rfl, HB2.out⟩
       · rw [hk] at hK hbad
         have hr : rightB f t = false := by simpa using hbad
         rw [hr] at hR
         have HK := Lib.hid hK
         have HR := Lib.hid hR
         clear hbad hk hK hR hr
         go_enter Tryz.func86, Tryz.ntmps86
         go_wp2_with fail
         rw [<- HW0.out]
         refine wp_loop_rounds 3 ?_
         rw [rounds_succ]
         go_wp2_with fail
         refine HA.out.mono ?_
         rintro e w1 ⟨rfl, rfl⟩
         go_wp2_with fail
         rw [rounds_succ]
         go_wp2_with fail
         refine HAB.out.mono ?_
         rintro e w1 ⟨rfl, rfl⟩
         go_wp2_with fail
         rw [rounds_succ]
         go_wp2_with fail
         refine HK.out.mono ?_
         rintro e w2 ⟨rfl, b2⟩
         have s0 := below_cell b2 hq1 s0
         have s1 := below_cell b2 hq1 s1
         have hq12 := Nat.lt_of_lt_of_le hq1 b2.size
         have HB2 := Lib.hid (below_trans HB0.out HB0.out.size b2)
         clear b2
         go_wp2_with fail
         refine (HR.out _).mono ?_
         rintro e w3 ⟨rfl, b3⟩
         have HB3 := Lib.hid (below_trans HB2.out HB2.out.size b3)
         clear b3 s0 s1
         go_wp2_with fail
         go_ret2
         exact ⟨rfl, HB3.out⟩
   · rw [if_pos h1]
     have h1' : ¬ m = 0 := h1
     clear hb ha hbb hK hR k0 k1 k2 k3 s0 s1
     go_enter Tryz.func86, Tryz.ntmps86
     go_wp2_with fail
     rw [<- HW0.out]
     refine wp_loop_rounds 3 ?_
     rw [rounds_succ]
     go_wp2_with fail
     refine HA.out.mono ?_
     rintro e w1 ⟨rfl, rfl⟩
     go_wp2_with fail
     rw [rounds_succ]
     go_wp2_with fail
     refine HAB.out.mono ?_
     rintro e w1 ⟨rfl, rfl⟩
     go_wp2_with fail
     go_ret2
     exact ⟨rfl, HB0.out⟩
 · rw [if_pos h0]
   have h0' : ¬ n = 0 := h0
   clear hb ha hbb hK hR k0 k1 k2 k3 s0 s1
   go_enter Tryz.func86, Tryz.ntmps86
   go_wp2_with fail
   rw [<- HW0.out]
   refine wp_loop_rounds 3 ?_
   rw [rounds_succ]
   go_wp2_with fail
   refine HA.out.mono ?_
   rintro e w1 ⟨rfl, rfl⟩
   go_wp2_with fail
   go_ret2
   exact ⟨rfl, HB0.out⟩
end
end Go.Proofs.YtflhpmgjehjjkaaGreatDoor
