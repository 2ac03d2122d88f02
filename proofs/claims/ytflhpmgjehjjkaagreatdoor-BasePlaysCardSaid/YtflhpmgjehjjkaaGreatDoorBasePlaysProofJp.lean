/- BasePlays is proved: whatever steps and whatever questions come in, the call returns true, and each argument reads afterwards as it read before; the package-level variables that the row lists are tied to the program's text by the card. There are no other conditions. -/
import Derived.Deep.DeepCutAuto
import Derived.Deep.RegionHeld3
import Derived.SevenTiedAt
import Derived.ChangeSame
import Derived.ChangeVars
import Derived.ChangeMaps5
import Derived.JoinedOf
import Derived.HandedShaped
import Derived.Shelf.Vars
import Derived.RowKit
import Derived.RowKitTokens
import Derived.LaidLaws
import Derived.LaidHandle
import Derived.LaidSub
import Derived.Lay
import Derived.Stop.Joined
import Derived.Test.YtflhpmgjehjjkaaGreatDoorBpAJp
import Derived.Test.YtflhpmgjehjjkaaGreatDoorFcSJp
import Derived.Test.YtflhpmgjehjjkaaGreatDoorErrCJp
import Derived.Test.YtflhpmgjehjjkaaGreatDoorBpJJp
import Derived.Test.YtflhpmgjehjjkaaGreatDoorBpLJp
import Derived.Test.YtflhpmgjehjjkaaGreatDoorStepOJp
import Derived.Test.YtflhpmgjehjjkaaGreatDoorTie
import Derived.Test.YtflhpmgjehjjkaaGreatDoorCards
namespace Go.Proofs.YtflhpmgjehjjkaaGreatDoor
open Go.RowKit Go.Deep Go.Shelf Go.Sort Go.Maps
theorem is_sameB (v : Value) (n p : Int) (w : World) (hg : ErrVar w) (h : ErrIs w v n p) : Calls Tryz.prog 20 #[v, .agg #[.int .i64 n, .int .i64 p]] w fun e w' => e = .returned (.bool true) /\ Below w.heap.size w w' := by
 have := is_any v n p n p w hg h
 rw [show (n == n && p == p) = true by simp] at this
 exact this
theorem asks_inB {w X : World} {q : List AskP} {ai : Option Addr} (h : asksAt w ai q) {r : Nat} {y : AskP} (hy : q[r]? = some y) (hB : Below w.heap.size w X) : ∃ b f, ai = some ⟨b, f, none⟩ /\ b < X.heap.size /\ X.cell? ⟨b, f + r * 9, none⟩ = some (.int .i64 y.key.kind) /\ X.cell? ⟨b, f + r * 9 + 1, none⟩ = some (.int .i64 y.key.a) /\ X.cell? ⟨b, f + r * 9 + 2, none⟩ = some (.string y.key.word) /\ X.cell? ⟨b, f + r * 9 + 3, none⟩ = some (.int .i64 y.key.b) /\ X.cell? ⟨b, f + r * 9 + 4, none⟩ = some (.int .i64 y.a) /\ X.cell? ⟨b, f + r * 9 + 5, none⟩ = some (.int .i64 y.b) /\ X.cell? ⟨b, f + r * 9 + 6, none⟩ = some (.int .i64 y.t) /\ X.cell? ⟨b, f + r * 9 + 7, none⟩ = some (.int .i64 y.f) /\ X.cell? ⟨b, f + r * 9 + 8, none⟩ = some (.int .i64 y.u) := by
 obtain ⟨b, f, e, hc⟩ := h r y hy
 have hb := World.block_lt_of_cell? w _ (hc 0 _ rfl)
 exact ⟨b, f, e, Nat.lt_of_lt_of_le hb hB.size, below_cell hB hb (hc 0 _ rfl), below_cell hB hb (hc 1 _ rfl), below_cell hB hb (hc 2 _ rfl), below_cell hB hb (hc 3 _ rfl), below_cell hB hb (hc 4 _ rfl), below_cell hB hb (hc 5 _ rfl), below_cell hB hb (hc 6 _ rfl), below_cell hB hb (hc 7 _ rfl), below_cell hB hb (hc 8 _ rfl)⟩
theorem bpf_start {w Z w1 w3 : World} {db bb : Nat} {s : Pst} {g : Gh} (hZ : Z = w.alloc (.cells Tryz.zeroCells84 84)) (hdb : db = w.heap.size) (hD : BD Z db (List.replicate 150 ⟨#[]⟩) false 0) (hp : PastIs w1 bb 1 (BR db ([] : List Ent).length false) [] s g) (hk : s.gone = (0 : Nat)) (hn : ∀ k, g.foot bb k -> Z.heap.size <= k) (hb : Below Z.heap.size Z w1)
  (h3 : w3 = (w1.alloc (.cells #[.slice none 0 0, .int .i64 0] 57)).alloc (.cells #[.pointer (some ⟨w1.heap.size, 0, none⟩), .int .i64 0, .bool false, .int .i64 0, .bool false] 107)) (hv : ErrVar w) (hg : PowTab w) (hnv : NumVars w) : BPF w db (w1.heap.size + 1) w1.heap.size bb false 0 [] false [] 0 g w3 := by
 have hzs : Z.heap.size = w.heap.size + 1 := by rw [hZ]; simp
 have hBZ : Below w.heap.size w Z := by rw [hZ]; exact (Below.refl _ _).alloc (Nat.le_refl _) _
 have hb3 : Below w1.heap.size w1 w3 := by rw [h3]; exact ((Below.refl _ _).alloc (Nat.le_refl _) _).alloc (by simp) _
 have hs1 := hb.size
 have hlt : ∀ k, FBD g bb db k -> k < w1.heap.size := fun k hk => by
  rcases hk with hk | hk
  · exact hp.at'.lt k hk
  · omega
 refine ⟨⟨_, s, ⟨rfl, Says.empty, (hD.below hb).below hb3, hp.below hb3, hk, fun h => ?_, fun h => by cases h⟩⟩, ⟨0, by rw [h3]; exact rb_new w1 hlt, fun h => by cases h⟩, ⟨fun k hk => ?_, by omega, by omega, by omega, (hBZ.trans (hb.mono (by omega))).trans (hb3.mono (by omega)), hv, hg, hnv⟩⟩
 · have := hn db h; omega
 · have := hn k hk; omega
theorem disk_zero : Tryz.zeroCells84 = (dcells (List.replicate 150 ⟨#[]⟩) false 0).toArray := by kernel_rfl
set_option maxRecDepth 100000 in
set_option maxHeartbeats 16000000 in
theorem basePlays_walk (l : List StepP) (q : List AskP) (ao ai : Option Addr) (cap capi : Nat) (w : World) (hl : stepsAt w ao l) (hlm : l.length <= maxLen) (hli : ∀ x ∈ l, i64 x.n /\ i64 x.torn) (hq : asksAt w ai q) (hqm : q.length <= maxLen) (hqk : ∀ x ∈ q, x.key.word.size <= maxLen) (hg : PowTab w) (hv : ErrVar w) (hn : NumVars w) :
  Calls Tryz.prog 6 #[.slice ao l.length cap, .slice ai q.length capi] w fun e w' => e = .returned (.bool true) /\ Below w.heap.size w w' := by
 unfold maxLen at hlm hqm
 have HL := Lib.hid hl
 have HLI := Lib.hid hli
 have HQ := Lib.hid hq
 have HQK := Lib.hid hqk
 have HG := Lib.hid hg
 have HV := Lib.hid hv
 have HN := Lib.hid hn
 clear hl hli hq hqk hg hv hn
 by_cases h25 : l.length <= 40 /\ q.length <= 12
 · obtain ⟨h25, h15⟩ := h25
   have h25z : ¬ (l.length : Int) > 40 := by omega
   have h15z : ¬ (q.length : Int) > 12 := by omega
   obtain ⟨Z, hZ⟩ : ∃ Z, Z = w.alloc (.cells Tryz.zeroCells84 84) := ⟨_, rfl⟩
   obtain ⟨db, hdb⟩ : ∃ db, db = w.heap.size := ⟨_, rfl⟩
   have hBZ : Below w.heap.size w Z := by rw [hZ]; exact (Below.refl _ _).alloc (Nat.le_refl _) _
   have hD : BD Z db (List.replicate 150 ⟨#[]⟩) false 0 := ⟨by rw [hZ, hdb, <- disk_zero]; exact block_alloc_new _ _, by simp⟩
   have HC1 := Lib.hid (bopen_any Z hD Says.empty (log := []) (hist := []) (known := 0) rfl (HG.out.below hBZ) (HN.out.below hBZ))
   have HZ := Lib.hid hZ
   have HDB := Lib.hid hdb
   have HBZ := Lib.hid hBZ
   have HD := Lib.hid hD
   have e7 : errN 7 = errV 7 := errN_of (by decide)
   have HCB := fun (X : World) (hX : Below w.heap.size w X) => bare_same 7 X (HV.out.below hX)
   have HCN := fun (X : World) => bopen_nil X
   rw [e7] at HCB
   unfold errV at HCB HCN
   have HCB := Lib.hid HCB
   have HCN := Lib.hid HCN
   clear hZ hdb hBZ hD e7
   go_enter Tryz.func6, Tryz.ntmps6
   go_upto_region 9 with (first
    | (rw [<- HZ.out, <- HDB.out])
    | (go_at_call 33; (with_reducible refine HC1.out.mono ?_); rintro e w1 ⟨bb, s, g, rfl, hp, hk, hnew, hb⟩; have HP1 := Lib.hid hp; have HK1 := Lib.hid hk; have HNW := Lib.hid hnew; have HB1 := Lib.hid hb; clear hp hk hnew hb)
    | (go_at_call 33; (with_reducible refine (HCN.out _).mono ?_); rintro e w2 ⟨rfl, rfl⟩)
    | (go_at_call 41; (with_reducible refine (rnewbase_any _).mono ?_); rintro e w3 ⟨rfl, hw3⟩; have HW3 := Lib.hid hw3; clear hw3; have hF : BPF w db (w1.heap.size + 1) w1.heap.size bb false 0 [] false [] 0 g w3 := (bpf_start HZ.out HDB.out HD.out HP1.out HK1.out HNW.out HB1.out HW3.out HV.out HG.out HN.out); have HF3 := Lib.hid hF; clear hF)
    | (go_at_call 23; (with_reducible refine (HCB.out w3 HF3.out.z.be).mono ?_); rintro e w4 ⟨rfl, b4⟩; have HF4 := Lib.hid (HF3.out.below b4); clear b4))
   obtain ⟨qb, hqb⟩ : ∃ qb, qb = w1.heap.size + 1 := ⟨_, rfl⟩
   obtain ⟨rb, hrb⟩ : ∃ rb, rb = w1.heap.size := ⟨_, rfl⟩
   have hF := HF4.out
   rw [<- hqb, <- hrb] at hF
   rw [<- hqb]
   have HST := Lib.hid hF
   clear hF hqb hrb HF4 HF3 HC1 HP1 HK1 HNW HB1 HW3 HCB HCN
   go_wp2_with fail
   go_loopw [6, 11] (fun vb vi X => ∃ (i bb : Nat) (cut : Bool) (left : Int) (log : List Ent) (down : Bool) (hist : List (List OpP)) (known : Nat) (g : Gh), i <= l.length /\ vi = .int .i64 i /\ vb = .pointer (some ⟨bb, 0, none⟩) /\ BPF w db qb rb bb cut left log down hist known g X) (fun _ vi _ => l.length - (intOf vi).toNat)
   case atStart => exact ⟨0, bb, _, _, _, _, _, _, _, Nat.zero_le _, rfl, rfl, HST.out⟩
   case round =>
    clear HST HZ HDB HBZ HD
    obtain ⟨i, bb, cut, left, log, down, hist, known, g, hi, rfl, rfl, hq⟩ := hrel
    have HQ1 := Lib.hid hq
    clear hq
    by_cases hlt : i < l.length
    · obtain ⟨x, hx⟩ : ∃ x, l[i]? = some x := ⟨_, List.getElem?_eq_getElem hlt⟩
      obtain ⟨hxn, hxt⟩ := HLI.out x (List.mem_of_getElem? hx)
      obtain ⟨b, f, rfl, oo, oc, d0, d1, d2, d3, ho, hom⟩ := HL.out i x hx
      obtain ⟨xw, xn, xt, xo⟩ := x
      simp only [] at d0 d1 d2 d3 ho hom hxn hxt
      have hbw := World.block_lt_of_cell? w _ d0
      have c0 := below_cell HQ1.out.z.be hbw d0
      have c1 := below_cell HQ1.out.z.be hbw d1
      have c2 := below_cell HQ1.out.z.be hbw d2
      have c3 := below_cell HQ1.out.z.be hbw d3
      have hbr := Nat.lt_of_lt_of_le hbw HQ1.out.z.be.size
      obtain ⟨W4, hW4⟩ : ∃ W4, W4 = wr.alloc (.cells #[.int .i64 xw, .int .i64 xn, .int .i64 xt, .slice oo xo.length oc] 103) := ⟨_, rfl⟩
      obtain ⟨xk, hxk⟩ : ∃ xk, xk = wr.heap.size := ⟨_, rfl⟩
      have hB4 : Below wr.heap.size wr W4 := by rw [hW4]; exact (Below.refl _ _).alloc (Nat.le_refl _) _
      have hxb : W4.heap[xk]? = some (.cells #[.int .i64 xw, .int .i64 xn, .int .i64 xt, .slice oo xo.length oc] 103 (0, 0)) := by rw [hW4, hxk]; exact block_alloc_new _ _
      have e0 : W4.cell? ⟨xk, 0, none⟩ = some (.int .i64 xw) := block_cell hxb 0
      have e1 : W4.cell? ⟨xk, 1, none⟩ = some (.int .i64 xn) := block_cell hxb 1
      have e2 : W4.cell? ⟨xk, 2, none⟩ = some (.int .i64 xt) := block_cell hxb 2
      have e3 : W4.cell? ⟨xk, 3, none⟩ = some (.slice oo xo.length oc) := block_cell hxb 3
      have hxl : xk < W4.heap.size := lt_of_block hxb
      have hQ4 := HQ1.out.below hB4
      have hsh := short_any oo oc xo W4 (ho.below hQ4.z.be) hom
      have i0 : (0 : Int) <= (i : Int) := by omega
      have i1 : (i : Int) < (l.length : Int) := by omega
      have hnF : ¬ FBD g bb db xk /\ xk ≠ qb /\ xk ≠ rb := by
       obtain ⟨D, s, hbi⟩ := HQ1.out.bi
       obtain ⟨lq, hrq, _⟩ := HQ1.out.rq
       refine ⟨fun h => ?_, ?_, ?_⟩
       · rcases h with h | h
         · have := hbi.p.at'.lt _ h; omega
         · have := hbi.dk.lt; omega
       · have := hrq.lt; omega
       · have := hrq.r.lt; omega
      obtain ⟨nf0, nf1, nf2⟩ := hnF
      have HW4 := Lib.hid hW4
      have HXK := Lib.hid hxk
      have HQ4 := Lib.hid hQ4
      have HO := Lib.hid ho
      clear hW4 hxk hB4 hxb hQ4 ho d0 d1 d2 d3 hx HQ1
      cases hshB : shortB xo with
      | false =>
        rw [hshB] at hsh
        have HSH := Lib.hid hsh
        clear hsh hshB
        go_wp2_with (first | (rw [<- HW4.out, <- HXK.out]) | (go_at_call 19; (with_reducible refine HSH.out.mono ?_); rintro e w5 ⟨rfl, rfl⟩))
        exact ⟨⟨i + 1, bb, cut, left, log, down, hist, known, g, by omega, by go_num, rfl, HQ4.out⟩, by simp [intOf]; omega⟩
      | true =>
        rw [hshB] at hsh
        have hs2 : ∀ o ∈ xo, o.key.word.size <= 100000 /\ o.value.size <= 100000 := fun o ho => by have := (shortB_spec hshB).2 o ho; omega
        have HSZ2 := Lib.hid hs2
        have HSH := Lib.hid hsh
        clear hsh hshB hs2
        go_upto_block 2 with (first | (rw [<- HW4.out, <- HXK.out]) | (go_at_call 19; (with_reducible refine HSH.out.mono ?_); rintro e w5 ⟨rfl, rfl⟩))
        go_cut [6] (fun vb X => ∃ (bb : Nat) (cut : Bool) (left : Int) (log : List Ent) (down : Bool) (hist : List (List OpP)) (known : Nat) (g : Gh), vb = .pointer (some ⟨bb, 0, none⟩) /\ BPF w db qb rb bb cut left log down hist known g X)
        case first =>
         by_cases hw0 : xw = 0
         · subst hw0
           have hca := fun (X : World) (hX : Below W4.heap.size W4 X) => bpf_commit oo oc xo xt (HQ4.out.below hX) HO.out hom HSZ2.out hxt
           have hcb := fun (X : World) l2 g' v (h1 : BPH w db qb rb bb cut left log down hist known l2 (if goC down log.length cut left (okL xo) then log ++ [.tx xo] else log) (dnC down log.length cut left (okL xo)) (if goC down log.length cut left (okL xo) then hist ++ [xo] else hist) known g' X) (h2 : cut = true -> l2 = if goC down log.length cut left (okL xo) then left - 1 else left) (h3 : ErrIs X v (comBE down log.length cut left xo).1 (comBE down log.length cut left xo).2) => bph_commit oo oc xo h1 h2 HO.out HSZ2.out h3
           generalize (comBE down log.length cut left xo).1 = n1 at *
           generalize (comBE down log.length cut left xo).2 = n2 at *
           generalize (if goC down log.length cut left (okL xo) then log ++ [.tx xo] else log) = log2 at *
           generalize dnC down log.length cut left (okL xo) = down2 at *
           generalize (if goC down log.length cut left (okL xo) then hist ++ [xo] else hist) = hist2 at *
           have CA := Lib.hid hca
           have CB := Lib.hid hcb
           clear hca hcb
           go_wp2_with fail
           go_region_held3 (fun X => X.cell? ⟨xk, 3, none⟩ = some (.slice oo xo.length oc) /\ X.cell? ⟨xk, 2, none⟩ = some (.int .i64 xt))
            (first | exact ⟨e3, e2⟩ | exact hS3 | exact hS2 | exact hS1)
            (first
             | (go_at_call 36; (with_reducible refine (CA.out _ (Below.refl _ _).drew).mono ?_); rintro e x1 ⟨v, l2, g', rfl, hv, hh, hl2, hf⟩; have HH := Lib.hid hh; have HV1 := Lib.hid hv; have HL2 := Lib.hid hl2; have hS1 := And.intro ((World.cell?_of_block (a := ⟨xk, 3, none⟩) (hf.block xk hxl nf0)).trans e3) ((World.cell?_of_block (a := ⟨xk, 2, none⟩) (hf.block xk hxl nf0)).trans e2); have hx1 := Nat.lt_of_lt_of_le hxl hf.size; clear hv hh hl2 hf)
             | (go_at_call 42; (with_reducible refine (CB.out x1 l2 g' v HH.out HL2.out HV1.out).mono ?_); rintro e x2 ⟨rfl, hr, hv, hf⟩; have HP2 := Lib.hid hr; have HV2 := Lib.hid hv; have hnk : ¬ (xk = qb \/ xk = rb) := (fun e => e.elim nf1 nf2); have hS2 := And.intro ((World.cell?_of_block (a := ⟨xk, 3, none⟩) (hf.block xk hx1 hnk)).trans hS1.1) ((World.cell?_of_block (a := ⟨xk, 2, none⟩) (hf.block xk hx1 hnk)).trans hS1.2); have hx2 := Nat.lt_of_lt_of_le hx1 hf.size; clear hr hv hf hnk)
             | (go_at_call 20; (with_reducible refine (is_sameB v n1 n2 x2 (HP2.out.z.ev.below HP2.out.z.be) HV2.out).mono ?_); rintro e x3 ⟨rfl, b3⟩; have HP3 := Lib.hid (HP2.out.below b3); have hS3 := And.intro (below_cell b3 hx2 hS2.1) (below_cell b3 hx2 hS2.2); clear b3))
           go_wp2_with fail
           go_meet
           exact ⟨_, _, _, _, _, _, _, _, rfl, HP3.out⟩
         · by_cases hw1 : xw = 1
           · subst hw1
             have hca := fun (X : World) (hX : Below W4.heap.size W4 X) => bpf_forget xn xt (HQ4.out.below hX) hxt
             have hcb := fun (X : World) l2 g' (h1 : BPH w db qb rb bb cut left log down hist known l2 (if goC down log.length cut left (decide (forR hist.length known xn = 0)) then log ++ [.fo xn.toNat] else log) (dnC down log.length cut left (decide (forR hist.length known xn = 0))) hist (if goC down log.length cut left (decide (forR hist.length known xn = 0)) then xn.toNat else known) g' X) (h2 : cut = true -> l2 = if goC down log.length cut left (decide (forR hist.length known xn = 0)) then left - 1 else left) => bph_forget xn h1 h2
             generalize forBE down log.length cut left hist.length known xn = n1 at *
             generalize (if goC down log.length cut left (decide (forR hist.length known xn = 0)) then log ++ [.fo xn.toNat] else log) = log2 at *
             generalize dnC down log.length cut left (decide (forR hist.length known xn = 0)) = down2 at *
             generalize (if goC down log.length cut left (decide (forR hist.length known xn = 0)) then xn.toNat else known) = known2 at *
             have CA := Lib.hid hca
             have CB := Lib.hid hcb
             clear hca hcb
             go_wp2_with fail
             go_region_held3 (fun X => X.cell? ⟨xk, 1, none⟩ = some (.int .i64 xn) /\ X.cell? ⟨xk, 2, none⟩ = some (.int .i64 xt))
              (first | exact ⟨e1, e2⟩ | exact hS3 | exact hS2 | exact hS1)
              (first
               | (go_at_call 43; (with_reducible refine (CA.out _ (Below.refl _ _).drew).mono ?_); rintro e x1 ⟨l2, g', rfl, hh, hl2, hf⟩; have HH := Lib.hid hh; have HL2 := Lib.hid hl2; have hS1 := And.intro ((World.cell?_of_block (a := ⟨xk, 1, none⟩) (hf.block xk hxl nf0)).trans e1) ((World.cell?_of_block (a := ⟨xk, 2, none⟩) (hf.block xk hxl nf0)).trans e2); have hx1 := Nat.lt_of_lt_of_le hxl hf.size; clear hh hl2 hf)
               | (go_at_call 44; (with_reducible refine (CB.out x1 l2 g' HH.out HL2.out).mono ?_); rintro e x2 ⟨rfl, hr, hf⟩; have HP2 := Lib.hid hr; have hnk : ¬ (xk = qb \/ xk = rb) := (fun e => e.elim nf1 nf2); have hS2 := And.intro ((World.cell?_of_block (a := ⟨xk, 1, none⟩) (hf.block xk hx1 hnk)).trans hS1.1) ((World.cell?_of_block (a := ⟨xk, 2, none⟩) (hf.block xk hx1 hnk)).trans hS1.2); have hx2 := Nat.lt_of_lt_of_le hx1 hf.size; clear hr hf hnk)
               | (go_at_call 23; (with_reducible refine (bare_same n1 x2 (HP2.out.z.ev.below HP2.out.z.be)).mono ?_); rintro e x3 ⟨rfl, b3⟩; have HP3 := Lib.hid (HP2.out.below b3); have hS3 := And.intro (below_cell b3 hx2 hS2.1) (below_cell b3 hx2 hS2.2); clear b3))
             go_wp2_with fail
             go_meet
             exact ⟨_, _, _, _, _, _, _, _, rfl, HP3.out⟩
           · by_cases hw2 : xw = 2
             · subst hw2
               obtain ⟨lq, hc, _⟩ := HQ4.out.c
               have hce := Nat.lt_of_lt_of_le hxl (Nat.le_refl _)
               have HC0 := Lib.hid hc
               have hxd : xk ≠ db := fun e => nf0 (.inr e)
               clear hc hce
               go_wp2_with (first
                | (go_at_call 35; (with_reducible refine (bpc_cut xn hxn HC0.out).mono ?_); rintro e x1 ⟨rfl, hc1, hf⟩; have HC1 := Lib.hid hc1; have k1 := (World.cell?_of_block (a := ⟨xk, 1, none⟩) (hf.block xk hxl hxd)).trans e1; have hx1 := Nat.lt_of_lt_of_le hxl hf.size; clear hc1 hf)
                | (go_at_call 45; (with_reducible refine (bpc_rcut xn hxn HC1.out).mono ?_); rintro e x2 ⟨rfl, hc2, hf⟩; have HC2 := Lib.hid hc2; clear hc2 hf))
               go_meet
               exact ⟨_, _, _, _, _, _, _, _, rfl, HC2.out.f (fun h => by unfold imax; have := of_decide_eq_true h; omega)⟩
             · by_cases hw3 : xw = 3
               · subst hw3
                 obtain ⟨lq, hc, hlq⟩ := HQ4.out.c
                 have HC0 := Lib.hid hc
                 have HLQ := Lib.hid hlq
                 clear hc hlq
                 go_wp2_with (first
                  | (go_at_call 33; (with_reducible refine (bpc_open HC0.out).mono ?_); rintro e x1 ⟨bb', g', rfl, hc1, hb1⟩; obtain ⟨q0, q1, q2, q3, q4, qz, ql⟩ := hc1.rq.cells; have z4 := qz 4; have HC1 := Lib.hid hc1; clear hc1 hb1 qz))
                 go_meet
                 exact ⟨_, _, _, _, _, _, _, _, rfl, (HC1.out.setDown false).f HLQ.out⟩
               · by_cases hw4 : xw = 4
                 · subst hw4
                   obtain ⟨lq, hc, hlq⟩ := HQ4.out.c
                   have HC0 := Lib.hid hc
                   have hxd : xk ≠ db := fun e => nf0 (.inr e)
                   clear hc hlq
                   go_wp2_with (first
                    | (go_at_call 35; (with_reducible refine (bpc_cut (-1) (by unfold i64; omega) HC0.out).mono ?_); rintro e x1 ⟨rfl, hc1, hf⟩; obtain ⟨q0, q1, q2, q3, q4, qz, ql⟩ := hc1.rq.cells; have z2 := qz 2; have HC1 := Lib.hid hc1; have HC2 := Lib.hid (hc1.setOff false); clear hc1 hf qz)
                    | (go_at_call 33; (with_reducible refine (bpc_open HC2.out).mono ?_); rintro e x3 ⟨bb', g', rfl, hc1, hb1⟩; clear q0 q1 q2 q3 q4 ql z2; obtain ⟨q0, q1, q2, q3, q4, qz, ql⟩ := hc1.rq.cells; have z4 := qz 4; have HC3 := Lib.hid hc1; clear hc1 hb1 qz))
                   go_meet
                   exact ⟨_, _, _, _, _, _, _, _, rfl, (HC3.out.setDown false).f (fun h => by cases h)⟩
                 · go_wp2_with fail
                   go_meet
                   exact ⟨_, _, _, _, _, _, _, _, rfl, HQ4.out⟩
        case rest =>
         obtain ⟨bb, cut, left, log, down, hist, known, g, rfl, hq⟩ := hcut
         have HQ5 := Lib.hid hq
         obtain ⟨D, s, hbi⟩ := hq.bi
         obtain ⟨lq, hrq, _⟩ := hq.rq
         obtain ⟨q0, q1, q2, q3, q4, qz, ql⟩ := hrq.cells
         have hC1 := fun (X : InC (Bel wc)) => (bused_any X.w (hbi.below X.ok)).mono fun _ _ h => And.intro h.1 h.2.symm
         have hC2 := fun (X : InC (Bel wc)) => (bdown_any X.w (hbi.below X.ok)).mono fun _ _ h => And.intro h.1 h.2.symm
         have hC3 := fun (X : InC (Bel wc)) => (bpast_any X.w (hbi.below X.ok)).mono fun _ _ h => And.intro h.1 h.2.symm
         have C1 := Lib.hid hC1
         have C2 := Lib.hid hC2
         have C3 := Lib.hid hC3
         have p1 := fun X : InC (Bel wc) => X.cell q1
         have p4 := fun X : InC (Bel wc) => X.cell q4
         have n1 : ((log.length : Int) != (log.length : Int)) = false := by simp
         have n2 : (down != down) = false := by simp
         clear hC1 hC2 hC3 hbi hrq q1 q2 q3 q4 qz
         clear hq HQ4 HO e0 e1 e2 e3 nf0 nf1 nf2
         go_wp2_with fail
         refine wp_region_in (S := Bel wc) (by kernel_rfl) (by kernel_rfl) (bel_drew (Below.refl _ wc)) (fun hne => ?_)
         repeat (go_big_quiet_step (first
          | (go_at_call 39; exact InC.call_same (C1.out _))
          | (go_at_call 37; exact InC.call_same (C2.out _))
          | (go_at_call 38; exact InC.call_same (C3.out _))))
         refine wpQuiet_nil ?_
         rintro _ ⟨X, rfl⟩
         have HQ6 := Lib.hid (HQ5.out.below X.ok)
         clear C1 C2 C3 p1 p4 n1 n2 HQ5 q0 ql
         obtain ⟨X6, hX6⟩ : ∃ X6, X6 = X.w := ⟨_, rfl⟩
         rw [<- hX6] at HQ6 ⊢
         clear hX6
         obtain ⟨s, hT⟩ := HQ6.out.tp
         obtain ⟨D, _, hbi⟩ := HQ6.out.bi
         obtain ⟨lq, hrq, _⟩ := HQ6.out.rq
         obtain ⟨q0, q1, q2, q3, q4, qz, ql⟩ := hrq.cells
         have C3 := Lib.hid fun (X : InC (Bel X6)) => (bpast_any X.w (hbi.below X.ok)).mono fun _ _ h => And.intro h.1 h.2.symm
         have p0 := fun X : InC (Bel X6) => X.cell q0
         clear q1 q2 q3 q4 qz hrq hbi
         by_cases hq0 : q.length = 0
         · have hq0d : decide (0 < q.length) = false := decide_eq_false (by omega)
           have hq0n : ¬ 0 < q.length := by omega
           clear hq0
           go_wp2_with fail
           refine wp_region_in (S := Bel X6) (by kernel_rfl) (by kernel_rfl) (bel_drew (Below.refl _ X6)) (fun hne => ?_)
           repeat (go_big_quiet_step (fail))
           refine wpQuiet_nil ?_
           rintro _ ⟨X, rfl⟩
           go_wp2_with fail
           first
            | exact ⟨⟨i + 1, bb, cut, left, log, down, hist, known, g, by omega, by go_num, rfl, HQ6.out.below X.ok⟩, by simp [intOf]; omega⟩
            | (go_roundw
               case rel => ((repeat apply Exists.intro); exact ⟨⟨i + 1, bb, cut, left, log, down, hist, known, g, by omega, by go_num, rfl, HQ6.out.below X.ok⟩, rfl⟩)
               case measure => (simp [intOf]; omega))
         · have hq0z : (q.length : Int) > 0 := by omega
           have hq0n : 0 < q.length := by omega
           have hq0d : decide (0 < q.length) = true := decide_eq_true hq0n
           obtain ⟨r, hr⟩ : ∃ r, r = i % q.length := ⟨_, rfl⟩
           have hrl : r < q.length := by rw [hr]; exact Nat.mod_lt _ (by omega)
           have hrz : (i : Int).tmod (q.length : Int) = (r : Int) := by rw [hr, Int.tmod_eq_emod_of_nonneg (by omega)]; exact (Int.natCast_emod _ _).symm
           obtain ⟨y, hy⟩ : ∃ y, q[r]? = some y := ⟨_, List.getElem?_eq_getElem hrl⟩
           obtain ⟨yb, yf, rfl, hyb, y0, y1, y2, y3, y4, y5, y6, y7, y8⟩ := asks_inB HQ.out hy HQ6.out.z.be
           have hT := fun (X : InC (Bel X6)) => tells_any y.key.kind y.key.a y.key.word y.key.b y.a y.b y.t y.f y.u X.w (hT.below X.ok) (HQK.out y (List.mem_of_getElem? hy))
           obtain ⟨⟨zk, za, zw, zb⟩, ya, yb', yt, yf', yu⟩ := y
           simp only [] at y0 y1 y2 y3 y4 y5 y6 y7 y8 hT
           have CT := Lib.hid hT
           have v0 := fun X : InC (Bel X6) => X.cell y0
           have v1 := fun X : InC (Bel X6) => X.cell y1
           have v2 := fun X : InC (Bel X6) => X.cell y2
           have v3 := fun X : InC (Bel X6) => X.cell y3
           have v4 := fun X : InC (Bel X6) => X.cell y4
           have v5 := fun X : InC (Bel X6) => X.cell y5
           have v6 := fun X : InC (Bel X6) => X.cell y6
           have v7 := fun X : InC (Bel X6) => X.cell y7
           have v8 := fun X : InC (Bel X6) => X.cell y8
           have r0 : (0 : Int) <= (r : Int) := by omega
           have r1 : (r : Int) < (q.length : Int) := by omega
           clear hr hy hT y0 y1 y2 y3 y4 y5 y6 y7 y8
           go_wp2_with fail
           refine wp_region_in (S := Bel X6) (by kernel_rfl) (by kernel_rfl) (bel_drew (Below.refl _ X6)) (fun hne => ?_)
           repeat (go_big_quiet_step (first
            | (go_at_call 38; exact InC.call_same (C3.out _))
            | (go_at_call 46; exact InC.call (CT.out _))))
           refine wpQuiet_nil ?_
           rintro _ ⟨X, rfl⟩
           go_wp2_with fail
           first
            | exact ⟨⟨i + 1, bb, cut, left, log, down, hist, known, g, by omega, by go_num, rfl, HQ6.out.below X.ok⟩, by simp [intOf]; omega⟩
            | (go_roundw
               case rel => ((repeat apply Exists.intro); exact ⟨⟨i + 1, bb, cut, left, log, down, hist, known, g, by omega, by go_num, rfl, HQ6.out.below X.ok⟩, rfl⟩)
               case measure => (simp [intOf]; omega))
    · obtain rfl : i = l.length := by omega
      go_wp2_with fail
      go_loopw [13] (fun vi X => ∃ j : Nat, j <= q.length /\ vi = .int .i64 j /\ BPF w db qb rb bb cut left log down hist known g X) (fun vi _ => q.length - (intOf vi).toNat)
      case atStart => exact ⟨0, Nat.zero_le _, rfl, HQ1.out⟩
      case round =>
       clear HQ1
       obtain ⟨r, hr, rfl, hq⟩ := hrel
       have HQ6 := Lib.hid hq
       clear hq
       by_cases hrl : r < q.length
       · obtain ⟨s, hT⟩ := HQ6.out.tp
         obtain ⟨D, _, hbi⟩ := HQ6.out.bi
         obtain ⟨lq, hrq, _⟩ := HQ6.out.rq
         obtain ⟨q0, q1, q2, q3, q4, qz, ql⟩ := hrq.cells
         have C3 := Lib.hid fun (X : InC (Bel wr)) => (bpast_any X.w (hbi.below X.ok)).mono fun _ _ h => And.intro h.1 h.2.symm
         have p0 := fun X : InC (Bel wr) => X.cell q0
         clear q1 q2 q3 q4 qz hrq hbi
         obtain ⟨y, hy⟩ : ∃ y, q[r]? = some y := ⟨_, List.getElem?_eq_getElem hrl⟩
         obtain ⟨yb, yf, rfl, hyb, y0, y1, y2, y3, y4, y5, y6, y7, y8⟩ := asks_inB HQ.out hy HQ6.out.z.be
         have hT := fun (X : InC (Bel wr)) => tells_any y.key.kind y.key.a y.key.word y.key.b y.a y.b y.t y.f y.u X.w (hT.below X.ok) (HQK.out y (List.mem_of_getElem? hy))
         obtain ⟨⟨zk, za, zw, zb⟩, ya, yb', yt, yf', yu⟩ := y
         simp only [] at y0 y1 y2 y3 y4 y5 y6 y7 y8 hT
         have CT := Lib.hid hT
         have v0 := fun X : InC (Bel wr) => X.cell y0
         have v1 := fun X : InC (Bel wr) => X.cell y1
         have v2 := fun X : InC (Bel wr) => X.cell y2
         have v3 := fun X : InC (Bel wr) => X.cell y3
         have v4 := fun X : InC (Bel wr) => X.cell y4
         have v5 := fun X : InC (Bel wr) => X.cell y5
         have v6 := fun X : InC (Bel wr) => X.cell y6
         have v7 := fun X : InC (Bel wr) => X.cell y7
         have v8 := fun X : InC (Bel wr) => X.cell y8
         have r0 : (0 : Int) <= (r : Int) := by omega
         have r1 : (r : Int) < (q.length : Int) := by omega
         clear hy hT y0 y1 y2 y3 y4 y5 y6 y7 y8
         go_wp2_with fail
         refine wp_region_in (S := Bel wr) (by kernel_rfl) (by kernel_rfl) (bel_drew (Below.refl _ wr)) (fun hne => ?_)
         repeat (go_big_quiet_step (first
          | (go_at_call 38; exact InC.call_same (C3.out _))
          | (go_at_call 46; exact InC.call (CT.out _))))
         refine wpQuiet_nil ?_
         rintro _ ⟨X, rfl⟩
         go_wp2_with fail
         exact ⟨⟨r + 1, by omega, by go_num, HQ6.out.below X.ok⟩, by simp [intOf]; omega⟩
       · go_wp2_with fail
         go_ret
         exact ⟨rfl, HQ6.out.z.be⟩
 · by_cases h1 : l.length <= 40
   · have h25z : ¬ (l.length : Int) > 40 := by omega
     have h15z : (q.length : Int) > 12 := by omega
     go_enter Tryz.func6, Tryz.ntmps6
     go_wp2_with fail
     go_ret
     exact ⟨rfl, Below.refl _ _⟩
   · have h25z : (l.length : Int) > 40 := by omega
     go_enter Tryz.func6, Tryz.ntmps6
     go_wp2_with fail
     go_ret
     exact ⟨rfl, Below.refl _ _⟩
open Go Go.ChangeShapes Go.WideShapes Go.ChangeAt Go.RowKit Go.Joins
section
variable {H : Type} {enc : TypeId × Value -> H}
theorem returns_and_shaped {a : Assume} {C : Checked} {os : Os} {f : FuncId} {fn : Func} {s : ChangeSpec} {conds : List PathCond} {apart fresh handsOn again : Bool} {X : World -> Array Value -> Prop}
  (hX : ∀ (w w' : World) (args : Array Value), w.heap = w'.heap -> X w args -> X w' args)
  (own : ownKnob C.prog.godebug = none) (started : os.Started) (noInit : C.prog.inits.idxOf? f = none) (hfn : C.prog.funcs[f]? = some fn)
  (witness : ∃ (w : World) (tape : Tape) (i : Input), w.os = os /\ (w.forCall tape i).Shaped C.prog /\ i.vars = [] /\ Input.okWide C.prog (w.forCall tape i) .any w.heap.size f i ∧
   ((s.pre enc C.prog fn conds apart (w.forCall tape i).memory i.args /\ X (w.forCall tape i).memory i.args) /\ sizedMet enc C.prog fn (OpenSpec.ofChange s) apart (w.forCall tape i).memory i.args) /\ a.holds C.prog (lone (Frame.enter C.prog f i.args .normal) [] (w.forCall tape i)))
  (contract : ∀ (W : World) (base : Nat) (args : Array Value) (ds gs : List (DataW H)) (before : List MemPlace),
   (∀ (j : Nat) t v, fn.params[j]? = some t -> args[j]? = some v -> Value.okWide C.prog W .any base t v) →
   DataW.Whole enc C.prog fn.params.toList s.vars apart W args.toList ds gs before →
   (DataW.weightsEach C.prog (fn.params.toList ++ s.plain.varTypes C.prog) (ds ++ gs)).all (· <= reachBytes) = true -> X W args -> W.ShapedOpen C.prog →
   Calls C.prog f args W fun e W' => ∃ v, e = .returned v /\ s.post enc C.prog fn apart fresh handsOn again W args v W') :
  ReturnsInHanded a C os f .any (fun w args => (s.pre enc C.prog fn conds apart w args /\ X w args) /\ sizedMet enc C.prog fn (OpenSpec.ofChange s) apart w args) (s.post enc C.prog fn apart fresh handsOn again) := by
 refine returnsInHanded_of_calls own started noInit witness ?_
 intro w tape i _ hsh _ hok hpre _
 obtain ⟨_, _, _, fn', hfn', _, _, _, _, hval⟩ := hok
 have e : fn' = fn := Option.some.inj (hfn'.symm.trans hfn)
 subst e
 obtain ⟨⟨⟨ds, gs, before, hw, _⟩, hx⟩, hz⟩ := hpre
 have hw' := DataW.Whole.of_heap (w' := w.forCall tape i) (by rfl) hw
 refine (contract (w.forCall tape i) w.heap.size i.args ds gs before hval hw' (hz.weights hw) (hX _ _ _ (by rfl) hx) hsh).mono fun e W' ⟨v, he, hp⟩ => ?_
 subst he
 exact ChangeSpec.post_blind hp
theorem iface_of_laid {P : Program} {n nm : String} {d : DataW Unit} {W : World} {g : Nat} {ti : TypeId} {ms : Array (String × TypeId)} (h : laidMet P [(n, .iface nm d)] W)
  (hg : P.globalNamed n = some g) (ht : (P.globals[g]?).map (·.type) = some ti) (hi : P.underlying ti = some (.interface ms)) : ∃ t p, W.cell? ⟨g, 0, none⟩ = some (.iface t p) := by
 obtain ⟨ps, ⟨g0, t0, cs0, f0, p0, q0, hg0, ht0, hv0, hd0, _, _⟩, _, _⟩ := h
 obtain rfl := Option.some.inj (hg.symm.trans hg0)
 obtain rfl := Option.some.inj (ht.symm.trans ht0)
 obtain ⟨_, u, v, e, _, _⟩ := iface_of_trod hi hd0
 obtain ⟨l0⟩ := cs0
 obtain rfl : l0 = [.iface u v] := e
 exact ⟨u, v, by simpa using World.var?_cell hg hv0 0⟩
end
theorem ownBp : ownKnob Tryz.prog.godebug = none := by kernel_rfl
theorem laidOutBp : laidOutB Tryz.prog = true := by kernel_rfl
theorem etBp : Tryz.prog.globalNamed "errors.errorType" = some 0 := by kernel_rfl
theorem rtBp : (Tryz.prog.cutTypes.find? (·.1 == "internal/reflectlite.rtype")).map (·.2) = some 262 := by kernel_rfl
theorem oneRowBp : ((List.range Tryz.prog.types.size).filter fun t => Tryz.prog.rowNamed t [101, 114, 114, 111, 114]) = [31] := by kernel_rfl
theorem errVar_of_laidBp {W : World} (h : laidMetH Tryz.prog Rows.basePlaysRow.laid W) : ErrVar W := by
 have h' : laidMet Tryz.prog _ W /\ handlesMet Tryz.prog [("errors.errorType", Rows.laid_errors_errorType)] W := h.filter fun x => x.1 == "errors.errorType"
 obtain ⟨name, u, ty, e1, e2, e3, e4, e5⟩ := h'.2 _ (List.mem_singleton.2 rfl)
 have en : name = [101, 114, 114, 111, 114] := (Option.some.inj e1).symm
 subst en
 obtain rfl := Option.some.inj (rtBp.symm.trans e2)
 have hm : ty ∈ (List.range Tryz.prog.types.size).filter fun t => Tryz.prog.rowNamed t [101, 114, 114, 111, 114] := List.mem_filter.2 ⟨List.mem_range.2 e3, e4⟩
 rw [oneRowBp] at hm
 obtain rfl := List.mem_singleton.1 hm
 have hh : typeHandle Tryz.prog 31 = .pointer (some ⟨9, 31, none⟩) := by kernel_rfl
 rw [hh] at e5
 have := World.var?_cell etBp e5 0
 unfold ErrVar
 simpa using this
theorem powTab_of_laidBp {W : World} (h : laidMetH Tryz.prog Rows.basePlaysRow.laid W) : PowTab W := by
 have h' : laidMet Tryz.prog [("internal/strconv.uint64pow10", Rows.laid_internal_strconv_uint64pow10)] W := h.filter fun x => x.1 == "internal/strconv.uint64pow10"
 exact Lib.tabIs_of_head (g := 3) (t := 363) (e := 260) (n := 20) (rest := []) (by kernel_rfl) (by kernel_rfl) Tryz.underlying363 Tryz.underlying260 (by kernel_rfl) (by kernel_rfl) (by
  have e : (Rows.laid_internal_strconv_uint64pow10 : DataW Unit) = Lib.tabData .u64 Lib.pow10Tab := by kernel_rfl
  rw [<- e]; exact h')
theorem numVars_of_laidBp {W : World} (h : laidMetH Tryz.prog Rows.basePlaysRow.laid W) (hs : W.ShapedOpen Tryz.prog) : NumVars W where
 syn := iface_of_laid (n := "strconv.ErrSyntax") (h.filter fun x => x.1 == "strconv.ErrSyntax") (by kernel_rfl) (ti := 31) (by kernel_rfl) Tryz.underlying31
 rng := iface_of_laid (n := "strconv.ErrRange") (h.filter fun x => x.1 == "strconv.ErrRange") (by kernel_rfl) (ti := 31) (by kernel_rfl) Tryz.underlying31
 len := cell_of_shapedOpen_int (t := 3) (zero := #[.int .i64 0]) hs (by decide +kernel) (by kernel_rfl) rfl (by kernel_rfl) (by kernel_rfl) Tryz.underlying3
noncomputable def handleWorldBp (os : Os) : World :=
 let w0 := World.holding Tryz.prog os ⟨#[], #[], []⟩
 { w0 with heap := w0.heap.modify 0 fun
   | .cells _ t frozen => .cells #[.iface 262 (.agg #[.pointer (some ⟨9, 31, none⟩)])] t frozen
   | o => o }
noncomputable def laidWorldBp (os : Os) : World := (handleWorldBp os).layVars Tryz.prog (Rows.basePlaysRow.laid.filter fun x => x.2.handleName?.isNone)
theorem laidWorldBp_met (os : Os) (args : Array Value) : laidMetH Tryz.prog Rows.basePlaysRow.laid ((laidWorldBp os).forCall (fun _ _ => 0) ⟨#[], args, []⟩).memory := by
 have hd : laidMet Tryz.prog (Rows.basePlaysRow.laid.filter fun x => x.2.handleName?.isNone) (laidWorldBp os) := by
  refine laidMet_layVars (w0 := handleWorldBp os) ((Rows.basePlaysRow.laid.filter fun x => x.2.handleName?.isNone).map (·.1)) [] ?_ ?_ ?_ ?_
  · have e1 : ((Rows.basePlaysRow.laid.filter fun x => x.2.handleName?.isNone).filter fun x => ((Rows.basePlaysRow.laid.filter fun x => x.2.handleName?.isNone).map (·.1)).contains x.1) = (Rows.basePlaysRow.laid.filter fun x => x.2.handleName?.isNone) := List.filter_eq_self.2 fun x hx => List.contains_iff_mem.2 (List.mem_map.2 ⟨x, hx, rfl⟩)
    rw [e1]; rfl
  · kernel_rfl
  · kernel_rfl
  · have e2 : ((Rows.basePlaysRow.laid.filter fun x => x.2.handleName?.isNone).filter fun x => !((Rows.basePlaysRow.laid.filter fun x => x.2.handleName?.isNone).map (·.1)).contains x.1) = [] := List.filter_eq_nil_iff.2 fun x hx => by rw [List.contains_iff_mem.2 (List.mem_map.2 ⟨x, hx, rfl⟩)]; simp
    rw [e2]; exact LaidIn.none
 exact laidMetH_of_parts (hd.of_heap (by simp [World.memory, World.forCall, Input.heap])) (by kernel_rfl)
set_option maxRecDepth 100000 in
theorem basePlays_lifted (os : Os) (started : os.Started) (H : Type) (enc : TypeId × Value -> H) :
  ReturnsInHanded {} Tryz.checked os 6 .any (fun w args => (Rows.basePlaysSpec.pre enc Tryz.prog Tryz.f6 [] false w args /\ laidMetH Tryz.prog Rows.basePlaysRow.laid w) /\ sizedMet enc Tryz.prog Tryz.f6 (OpenSpec.ofChange Rows.basePlaysSpec) false w args)
   (Rows.basePlaysSpec.post enc Tryz.prog Tryz.f6 false true false false) := by
 refine returns_and_shaped (C := Tryz.checked) (X := fun w _ => laidMetH Tryz.prog Rows.basePlaysRow.laid w) (fun _ _ _ hh h => h.of_heap hh) ownBp started (by kernel_rfl) Tryz.func6
  (ChangeSpec.witness_at (enc := enc) (C := Tryz.checked) (os := os) (X := fun w _ => laidMetH Tryz.prog Rows.basePlaysRow.laid w) false (laidWorldBp os) #[.slice none 0 0, .slice none 0 0] 8 rfl (by kernel_rfl) (by kernel_rfl) (by kernel_rfl) (by kernel_rfl) (by kernel_rfl) (laidWorldBp_met os _)) ?_
 intro W base args ds gs before hval0 hW _ hL hsh
 have hval : ∀ (j : Nat) t v, Tryz.f6.params[j]? = some t -> args[j]? = some v -> Value.okWide Tryz.prog W .any base t v := hval0
 have hW' := hW
 obtain ⟨p, q, hA0, hV, rfl, _, _⟩ := hW
 have hA : DataW.TrodAll enc Tryz.prog W 0 (fun _ => true) true Tryz.f6.params.toList args.toList ds p := hA0
 rw [Tryz.params6] at hA hval
 obtain ⟨v0, v1, d0, d1, p0, p1, rfl, rfl, rfl, h0, h1⟩ := trodAll_two hA
 obtain ⟨rfl, rfl⟩ := trodVars_none hV
 have h0k := h0
 have h1k := h1
 obtain ⟨a0, l0, c0, rfl, s0, m0, i0⟩ := open_stepsI (okWide_slice Tryz.underlying98 (hval 0 98 v0 rfl rfl)) h0
 obtain ⟨a1, l1, c1, rfl, s1, k1, m1⟩ := open_asks (okWide_slice Tryz.underlying99 (hval 1 99 v1 rfl rfl)) h1
 have hlt : ∀ x ∈ p0 ++ p1, x.block < W.heap.size := fun x hx => by have := hW'.lt x (by simpa using hx); simpa using this
 clear hA0 hval0 h0 h1
 simp only [List.append_nil] at hW'
 refine (basePlays_walk l0 l1 a0 a1 c0 c1 W s0 m0 i0 s1 m1 k1 (powTab_of_laidBp hL) (errVar_of_laidBp hL) (numVars_of_laidBp hL hsh)).mono fun e W' ⟨he, hb⟩ => ?_
 subst he
 have t0 := Below.trod laidOutBp (by kernel_rfl) (of_decide_eq_true (by kernel_rfl)) h0k hb (fun x hx => hlt x (by simp [hx]))
 have t1 := Below.trod laidOutBp (by kernel_rfl) (of_decide_eq_true (by kernel_rfl)) h1k hb (fun x hx => hlt x (by simp [hx]))
 exact ⟨_, rfl, _, _, _, [], _, [], hW', trodAll_mk1 (shut_bool Tryz.underlying4 _), trodAll_mk2 t0 t1, rfl, hb.frame _, fun h => by cases h⟩
theorem basePlays_row : Rows.BasePlaysSaid :=
 OpenClaim.holds_of_wide 6 Tryz.f6 rfl rfl rfl rfl rfl rfl rfl ⟨rfl, rfl, rfl, rfl, rfl⟩ rfl rfl rfl rfl rfl (by kernel_rfl) Tryz.func6 jBp
  (of_decide_eq_true (by kernel_rfl)) (by unfold Func.isWrapper; first | (rw [if_pos (by decide +kernel)]; kernel_rfl) | (rw [if_neg (by decide +kernel)]; exact ⟨rfl, rfl⟩))
  (fun os started H enc _ => basePlays_lifted os started H enc)
theorem basePlays_holds : Rows.BasePlaysCardSaid :=
 Claim7.holds_tied_plain_at .later [] [.data, .data, .data, .data, .handle, .sentinel, .sentinel, .pinned] true (true, "b8d250f63fa68d1bf1eab8692826e97db3b37e0597505282d86cdcb349f1085d") true
  basePlays_row (fun _ h => by cases h) kBp_w (fun _ h => by cases h) basePlays_row_tie rfl ⟨rfl, rfl⟩ kBp_m rfl
  (fun f fn hf hfn => by
   obtain rfl : f = 6 := Option.some.inj ((show Tryz.prog.funcNamed "palimpsest/palimpsestlaw.BasePlays" = some 6 by kernel_rfl).symm.trans hf) |>.symm
   obtain rfl : fn = Tryz.f6 := (Option.some.inj (Tryz.func6.symm.trans hfn)).symm
   exact ⟨kBp_l, fun j t ht => by
    rw [Tryz.params6] at ht
    rcases j with _ | _ | j
    · have : t = 98 := by simpa using ht.symm
      subst this
      exact kBp_Steps
    · have : t = 99 := by simpa using ht.symm
      subst this
      exact kBp_Asks
    · simp at ht⟩)
  kBp_g
#print axioms basePlays_holds
end Go.Proofs.YtflhpmgjehjjkaaGreatDoor
