/- A past that knows a history: what each of its methods answers, in the history's words. -/
import Derived.Test.YtflhpmgjehjjkaaGreatDoorPwNJq
namespace Go.Proofs.YtflhpmgjehjjkaaGreatDoor
open Go.RowKit Go.Deep Go.Shelf Go.Sort Go.Maps

end Go.Proofs.YtflhpmgjehjjkaaGreatDoor

namespace Go.Proofs.YtflhpmgjehjjkaaGreatDoor
open Go.RowKit Go.Deep Go.Shelf Go.Sort Go.Maps

theorem rightB_bounds {f t : Int} (h : rightB f t = true) : -1099511627776 ≤ f ∧ f < t ∧ t ≤ 1099511627776 := by unfold rightB at h; simp at h; omega


end Go.Proofs.YtflhpmgjehjjkaaGreatDoor

namespace Go.Proofs.YtflhpmgjehjjkaaGreatDoor
open Go.RowKit Go.Deep Go.Shelf Go.Sort Go.Maps

def badB (a : Int) (v : Ver) : Bool := decide (0 < v.en) && decide (v.en ≤ a)
/-- What is left, once those that are no more left to come are looked at. -/
def gonS (s : Pst) (a : Int) (left : Lit → Bool) : Pst := { s with gone := a, vs := s.vs.filter fun v => left (vK v) || !badB a v }
theorem gonS_all {s : Pst} {a : Int} {left : Lit → Bool} (h : ∀ v ∈ s.vs, left (vK v) = true) : gonS s a left = { s with gone := a } := by
  unfold gonS
  congr 1
  rw [List.filter_eq_self]
  intro v hv
  rw [h v hv]; rfl
theorem gonS_end {s : Pst} {a : Int} {left : Lit → Bool} (h : ∀ q, left q = false) : gonS s a left = forgetP a s := by
  unfold gonS forgetP
  congr 1
  refine List.filter_congr fun v _ => ?_
  rw [h]
  unfold badB
  simp
theorem kI_same {x y : Int} : (kI x).sameKey (kI y) = decide (x = y) := by
  rw [Bool.eq_iff_iff]
  simp only [decide_eq_true_eq]
  constructor
  · intro h
    have := WideAt.sameKey_eq h
    simpa [kI] using this
  · intro h; subst h; exact WideAt.sameKey_self kI_key
theorem gonS_keep {s : Pst} {a : Int} {left : Lit → Bool} {v : Ver} (hd : (s.vs.map (·.id)).Nodup) (hv : v ∈ s.vs) (hl : left (vK v) = true) (hb : badB a v = false) : gonS s a (fun z => left z && !z.sameKey (kI v.id)) = gonS s a left := by
  unfold gonS
  congr 1
  refine List.filter_congr fun u hu => ?_
  show ((left (vK u) && !(vK u).sameKey (kI v.id)) || !badB a u) = (left (vK u) || !badB a u)
  rw [show (vK u).sameKey (kI v.id) = decide (u.id = v.id) from kI_same]
  by_cases e : u.id = v.id
  · have : u = v := nodup_inj (·.id) s.vs hd u hu v hv e
    subst this
    rw [hl, hb]; simp
  · simp [e]
theorem gonS_drop {s : Pst} {a : Int} {left : Lit → Bool} {v : Ver} (hd : (s.vs.map (·.id)).Nodup) (hv : v ∈ s.vs) (hb : badB a v = true) : gonS s a (fun z => left z && !z.sameKey (kI v.id)) = dropV (gonS s a left) v.id := by
  unfold gonS dropV
  simp only
  congr 1
  rw [List.filter_filter]
  refine List.filter_congr fun u hu => ?_
  show ((left (vK u) && !(vK u).sameKey (kI v.id)) || !badB a u) = (decide (u.id ≠ v.id) && (left (vK u) || !badB a u))
  rw [show (vK u).sameKey (kI v.id) = decide (u.id = v.id) from kI_same]
  by_cases e : u.id = v.id
  · have : u = v := nodup_inj (·.id) s.vs hd u hu v hv e
    subst this
    simp [hb]
  · simp [e]
/-- What Forget answers as an error. -/
def forgE (s : Pst) (a : Int) : Int := if a < 0 ∨ s.now < a then 2 else if a < s.gone then 10 else 0
theorem forget_place {w : World} {pb po : Nat} {R : Rest} {s : Pst} {g : Gh} (h : PastAt w pb po R s g) (a : Int) : PastAt (w.setCell ⟨pb, po + 1, none⟩ (.int .i64 a)) pb po R { s with gone := a } g ∧ Fr (g.foot pb) w (w.setCell ⟨pb, po + 1, none⟩ (.int .i64 a)) := by
  obtain ⟨h1, h2⟩ := PastI.place (s' := { s with gone := a }) (i := po + 1) (v := .int .i64 a) h.toPastI (by rw [pcells_set1 h.len]) ⟨h.ids.nod, h.ids.rng, h.ids.key, h.ids.next0, h.ids.len⟩ rfl
  exact ⟨⟨h1, h.tlen⟩, h2⟩

set_option maxRecDepth 100000 in
set_option maxHeartbeats 2000000 in
theorem pforget_none (a : Int) (pb po : Nat) (R : Rest) (s : Pst) (g : Gh) (w : World) (h : PastAt w pb po R s g) (ham : g.am = none) (h0 : 0 ≤ a) (h1 : a ≤ s.now) (h2 : s.gone ≤ a) :
    Calls Tryz.prog 81 #[.pointer (some ⟨pb, po, none⟩), .int .i64 a] w (PDone .nilIface pb po R (forgetP a s) g w) := by
  obtain ⟨c0, c1, _, c3, _⟩ := past_cells h.len h.cells
  rw [ham] at c3
  have f1 := past_free h.cells (po + 1)
  have hpl := lt_of_block h.cells
  have h0' : decide (a < 0) = false := by simp; omega
  have h1' : decide (s.now < a) = false := by simp; omega
  have h2' : decide (a < s.gone) = false := by simp; omega
  obtain ⟨P1, F1⟩ := forget_place h a
  obtain ⟨W1, hW1⟩ : ∃ W1, W1 = w.setCell ⟨pb, po + 1, none⟩ (.int .i64 a) := ⟨_, rfl⟩
  rw [← hW1] at P1 F1
  have hvs : s.vs = [] := by have := h.vers; rw [ham] at this; exact this
  have hf : forgetP a s = { s with gone := a } := by unfold forgetP; rw [hvs]; rfl
  have r1 := run_range_nilMap (P := Tryz.prog) w 24 3 179 Tryz.underlying24
  have r1' := run_range_nilMap (P := Tryz.prog) (w.setCell ⟨pb, po + 1, none⟩ (.int .i64 a)) 24 3 179 Tryz.underlying24
  have r2 : ∀ ty, (Instr.next (.pointer (some ⟨w.heap.size, 0, none⟩)) false ty).run Tryz.prog ((w.setCell ⟨pb, po + 1, none⟩ (.int .i64 a)).alloc (.mapIter none 0 #[] 0)) = .ok (.tuple #[.bool false]) ((w.setCell ⟨pb, po + 1, none⟩ (.int .i64 a)).alloc (.mapIter none 0 #[] 0)) := fun ty => by
    have := run_next_nilMap (P := Tryz.prog) (w.setCell ⟨pb, po + 1, none⟩ (.int .i64 a)) ty 0 0 #[]
    simpa using this
  have HP1 := Lib.hid P1
  have HF1 := Lib.hid F1
  have HW1 := Lib.hid hW1
  have HF := Lib.hid hf
  clear P1 F1 hW1 hvs hf h ham
  go_enter Tryz.func81, Tryz.ntmps81
  go_wp2_with fail
  refine wp_loop_rounds 1 ?_
  rw [rounds_succ]
  go_wp2_with fail
  rw [← HW1.out]
  go_ret
  refine ⟨g, rfl, ?_, HF1.out.alloc _, Grows.refl _ _ _⟩
  rw [HF.out]
  exact HP1.out.below ((Below.refl _ _).alloc (Nat.le_refl _) _)

structure FLoop (pb po : Nat) (R : Rest) (s : Pst) (g : Gh) (a : Int) (am r n : Nat) (w : World) (left : Lit → Bool) (cnt : Nat) (D : DataW Unit) (g' : Gh) (wr : World) : Prop where
  at' : PastAt wr pb po R (gonS s a left) g'
  rg : wr.ranges Tryz.prog 3 verR am r n D left cnt
  mp : MapOf vK verD D (gonS s a left).vs
  am : g'.am = some am
  sub : ∀ q, left q = true → Maps.has D q = true
  fr : Fr (g.foot pb) w wr
  ft : ∀ j, g'.foot pb j → g.foot pb j
theorem floop_drop {pb po : Nat} {R : Rest} {s : Pst} {g : Gh} {a : Int} {am r n : Nat} {w : World} {left : Lit → Bool} {cnt cnt' : Nat} {D : DataW Unit} {g' g'' : Gh} {wr w' : World} {v : Ver} (h : FLoop pb po R s g a am r n w left cnt D g' wr) (hd : (s.vs.map (·.id)).Nodup) (hv : v ∈ s.vs) (hb : badB a v = true) (hl : left (vK v) = true)
    (P : PastAt w' pb po R (dropV (gonS s a left) v.id) g'') (ea : g''.am = some am) (hf : Fr (g.foot pb) w w') (ft : ∀ j, g''.foot pb j → g'.foot pb j) (rg : w'.ranges Tryz.prog 3 verR am r n (D.del (kI v.id)) (fun z => left z && !z.sameKey (kI v.id)) cnt') :
    FLoop pb po R s g a am r n w (fun z => left z && !z.sameKey (kI v.id)) cnt' (D.del (kI v.id)) g'' w' := by
  have e := gonS_drop (left := left) hd hv hb
  have hvm : v ∈ (gonS s a left).vs := List.mem_filter.2 ⟨hv, by rw [hl]; rfl⟩
  refine ⟨by rw [e]; exact P, rg, ?_, ea, fun q hq => ?_, hf, fun j hj => h.ft j (ft j hj)⟩
  · rw [e]
    exact (h.mp.perm (dropV_perm h.at'.ids.nod hvm)).del kI_key (fun u hu => kI_ne (mem_drop.1 hu).2)
  · rw [Bool.and_eq_true, Bool.not_eq_true'] at hq
    have hne : q ≠ kI v.id := fun e' => by
      rw [e', WideAt.sameKey_self kI_key] at hq
      cases hq.2
    rw [has_del_other hne]
    exact h.sub q hq.1

set_option maxRecDepth 100000 in
set_option maxHeartbeats 8000000 in
theorem pforget_some (a : Int) (pb po : Nat) (R : Rest) (s : Pst) (g : Gh) (am : Nat) (w : World) (h : PastAt w pb po R s g) (ham : g.am = some am) (h0 : 0 ≤ a) (h1 : a ≤ s.now) (h2 : s.gone ≤ a) (hn : s.next ≤ 4000) :
    Calls Tryz.prog 81 #[.pointer (some ⟨pb, po, none⟩), .int .i64 a] w (PDone .nilIface pb po R (forgetP a s) g w) := by
  obtain ⟨c0, c1, _, c3, _⟩ := past_cells h.len h.cells
  rw [ham] at c3
  have f1 := past_free h.cells (po + 1)
  have hpl := lt_of_block h.cells
  have h0' : decide (a < 0) = false := by simp; omega
  have h1' : decide (s.now < a) = false := by simp; omega
  have h2' : decide (a < s.gone) = false := by simp; omega
  obtain ⟨P1, F1⟩ := forget_place h a
  obtain ⟨W1, hW1⟩ : ∃ W1, W1 = w.setCell ⟨pb, po + 1, none⟩ (.int .i64 a) := ⟨_, rfl⟩
  rw [← hW1] at P1 F1
  have hs1 : W1.heap.size = w.heap.size := by rw [hW1]; simp
  have hvs := P1.vers
  rw [ham] at hvs
  obtain ⟨D, hown, hD⟩ := hvs
  have hown' : (w.setCell ⟨pb, po + 1, none⟩ (.int .i64 a)).ownsMap Tryz.prog 3 verR am s.vs.length D := by rw [← hW1]; exact hown
  have hhas : ∀ v ∈ s.vs, Maps.has D (vK v) = true := fun v hv => (hD.has _ kI_key).2 ⟨v, hv, rfl⟩
  have hg0 := gonS_all (a := a) hhas
  have hlt0 := h.lt
  have hamlt := h.lt am (.inr (.inl ham))
  have HP := Lib.hid h
  have HP1 := Lib.hid P1
  have HF1 := Lib.hid F1
  have HW1 := Lib.hid hW1
  have HS1 := Lib.hid hs1
  have HD := Lib.hid hD
  have HG0 := Lib.hid hg0
  have HLT := Lib.hid hlt0
  have HAM := Lib.hid ham
  clear P1 F1 hW1 hown hD hhas hg0 hlt0 h ham hs1
  go_enter Tryz.func81, Tryz.ntmps81
  go_wp2_with (at_range; refine wpList_range_own _ rfl _ 24 rfl 3 179 intLaw Tryz.underlying24 verR am s.vs.length D rfl hown' ?_; intro w2 hrg hgr hs2)
  try go_frame
  obtain ⟨r, hr⟩ : ∃ r, r = w.heap.size := ⟨_, rfl⟩
  have hsz1 : (w.setCell ⟨pb, po + 1, none⟩ (.int .i64 a)).heap.size = r := by rw [hr]; simp
  rw [hsz1] at hrg hs2
  have hgr1 : W1.grownBy w2 none := by rw [HW1.out]; exact hgr
  have hB2 : Below W1.heap.size W1 w2 := ⟨hgr1.os, hgr1.tape, hgr1.output, hgr1.size, fun i hi' => hgr1.block i hi' (by simp)⟩
  have P2 := HP1.out.below hB2
  have hst : FLoop pb po R s g a am r s.vs.length w (Maps.has D) (Maps.size D) D g w2 := ⟨by rw [HG0.out]; exact P2, hrg, by rw [HG0.out]; exact HD.out, HAM.out, fun _ e => e, HF1.out.trans (Fr.new hB2), fun _ e => e⟩
  have HST := Lib.hid hst
  have HRE := Lib.hid hr
  have hrl : r < w2.heap.size := by omega
  have hwr : r = w.heap.size := hr
  have hwr1 : w.heap.size ≤ r := by omega
  have hwr2 : r ≤ w.heap.size := by omega
  first | rw [← hr] | skip
  clear hgr hgr1 hB2 P2 hst hrg hs2 hown' c0 c1 c3 f1 hsz1 hr hwr
  go_loopw [5] (fun u wr => ∃ (left : Lit → Bool) (cnt : Nat) (D : DataW Unit) (g' : Gh), FLoop pb po R s g a am r s.vs.length w left cnt D g' wr ∧ r < wr.heap.size) (fun _ wr => wr.rangeLeft am r)
  case atStart => exact ⟨_, _, _, g, HST.out, hrl⟩
  case round =>
    obtain ⟨left, cnt, D', g', hL, hrw⟩ := hrel
    have HL := Lib.hid hL
    have hrg := hL.rg
    clear hL
    go_wp2_with (at_next; refine wpList_next_raw _ rfl _ rfl 3 intLaw verR am r s.vs.length D' left cnt rfl hrg ?_ ?_)
    · intro hc0 hl0
      have hend : PDone .nilIface pb po R (forgetP a s) g w (.returned .nilIface) wr := ⟨g', rfl, by rw [← gonS_end hl0]; exact HL.out.at', HL.out.fr, fun j hj => .inl (HL.out.ft j hj)⟩
      have HE := Lib.hid hend
      clear hl0 hc0 hrg hend
      go_wp2_with fail
      go_ret
      exact HE.out
    · intro key v kl y1 y2 w3 cnt3 hkey hlk hv hat hrg3 hlt3 hgr3 hs3 hen
      obtain ⟨x, hx, e⟩ := HL.out.mp.got (intLaw.key hkey) (HL.out.sub _ hlk)
      have hxs : x ∈ s.vs := (List.mem_filter.1 hx).1
      have hrng := HP.out.ids.rng x hxs
      have hib : i64 x.id := ⟨by omega, by omega⟩
      have ek : key = .int .i64 x.id := intLaw.inj hkey (by rw [← e]; exact keyOf_int_mk Tryz.underlying3 (wfI hib))
      subst ek
      have ekl : kl = kI x.id := e.symm
      subst ekl
      have ev : v = verV x := by
        have h5 := HL.out.mp.at' x hx (verD noVer)
        have h6 := hat (verD noVer)
        rw [show D'.atKey (kI x.id) (verD noVer) = verD x from h5] at h6
        rw [← h6] at hv
        exact verR_inv hv
      subst ev
      have hF3 : Fr (· = r) wr w3 := Fr.ofGrown hgr3
      have hrf : ∀ j, g'.foot pb j → j < r := fun j hj => by have := HLT.out j (HL.out.ft j hj); omega
      have P3 := HL.out.at'.frame hF3 (fun j hj e' => by have := hrf j hj; omega)
      have HKEY := Lib.hid hkey
      have HLK := Lib.hid hlk
      have HRG3 := Lib.hid hrg3
      have HF3 := Lib.hid hF3
      have HP3 := Lib.hid P3
      have HX := Lib.hid hx
      have HXS := Lib.hid hxs
      have HIB := Lib.hid hib
      have HRF := Lib.hid hrf
      have hrw3 : r < w3.heap.size := by omega
      have hmeas := hrg.left_eq
      have HMS := Lib.hid hmeas
      clear hkey hlk hv hat hgr3 hs3 e hx hxs hrng hib hF3 hrf P3 hrg3 hrg hmeas
      unfold verV at hen ⊢
      cases hbad : badB a x
      · have hkeep : FLoop pb po R s g a am r s.vs.length w (fun z => left z && !z.sameKey (kI x.id)) cnt3 D' g' w3 := by
          have e1 := gonS_keep (left := left) HP.out.ids.nod HXS.out HLK.out hbad
          refine ⟨by rw [e1]; exact HP3.out, HRG3.out, by rw [e1]; exact HL.out.mp, HL.out.am, fun q hq => HL.out.sub q (by rw [Bool.and_eq_true] at hq; exact hq.1), HL.out.fr.next HF3.out (fun j hj e => by omega), HL.out.ft⟩
        have hkeep2 : ∀ W, Below w3.heap.size w3 W → FLoop pb po R s g a am r s.vs.length w (fun z => left z && !z.sameKey (kI x.id)) cnt3 D' g' W := fun W hB =>
          ⟨hkeep.at'.below hB, ranges_frame hkeep.rg (Fr.new (F := fun _ => False) hB) (fun e => e) (fun e => e), hkeep.mp, hkeep.am, hkeep.sub, hkeep.fr.trans (Fr.new hB), hkeep.ft⟩
        have HKP := Lib.hid hkeep2
        clear hkeep hkeep2
        by_cases q1 : 0 < x.en
        · have q2 : decide (x.en ≤ a) = false := by
            unfold badB at hbad
            simpa [q1] using hbad
          clear hbad
          go_wp2_with fail
          go_roundw
          case rel => exact ⟨_, cnt3, D', g', HKP.out _ ((Below.refl _ _).alloc (Nat.le_refl _) _), by simp; omega⟩
          case measure =>
            have := (HKP.out _ ((Below.refl _ w3).alloc (Nat.le_refl _) (.cells #[.int .i64 x.key.kind, .int .i64 x.key.a, .string x.key.word, .int .i64 x.key.b, .string x.val, .int .i64 x.bg, .int .i64 x.en] 179))).rg.left_eq
            rw [this, HMS.out]; exact hlt3
        · have q2 : decide (0 < x.en) = false := by simpa using q1
          clear hbad q1
          go_wp2_with fail
          go_roundw
          case rel => exact ⟨_, cnt3, D', g', HKP.out _ ((Below.refl _ _).alloc (Nat.le_refl _) _), by simp; omega⟩
          case measure =>
            have := (HKP.out _ ((Below.refl _ w3).alloc (Nat.le_refl _) (.cells #[.int .i64 x.key.kind, .int .i64 x.key.a, .string x.key.word, .int .i64 x.key.b, .string x.val, .int .i64 x.bg, .int .i64 x.en] 179))).rg.left_eq
            rw [this, HMS.out]; exact hlt3
      · have q1 : 0 < x.en := by unfold badB at hbad; simp at hbad; exact hbad.1
        have q2 : x.en ≤ a := by unfold badB at hbad; simp at hbad; exact hbad.2
        have HBAD := Lib.hid hbad
        have hkb := HP.out.ids.key x HXS.out
        obtain ⟨y, hy⟩ : ∃ y, treeFor g'.ts x.key = some y := by
          cases hy : treeFor g'.ts x.key with
          | some y => exact ⟨y, rfl⟩
          | none =>
            obtain ⟨z, hz, e⟩ := HP3.out.all x HX.out
            exact absurd e (treeFor_none hy z hz)
        obtain ⟨hym, hyk⟩ := treeFor_some hy
        obtain ⟨W4, hW4⟩ : ∃ W4, W4 = w3.alloc (.cells #[.int .i64 x.key.kind, .int .i64 x.key.a, .string x.key.word, .int .i64 x.key.b, .string x.val, .int .i64 x.bg, .int .i64 x.en] 179) := ⟨_, rfl⟩
        have hB4 : Below w3.heap.size w3 W4 := by rw [hW4]; exact (Below.refl _ _).alloc (Nat.le_refl _) _
        have hs4 : W4.heap.size = w3.heap.size + 1 := by rw [hW4]; simp
        have hvc : W4.heap[w3.heap.size]? = some (.cells #[.int .i64 x.key.kind, .int .i64 x.key.a, .string x.key.word, .int .i64 x.key.b, .string x.val, .int .i64 x.bg, .int .i64 x.en] 179 (0, 0)) := by rw [hW4]; exact block_alloc_new w3 _
        have P4 := HP3.out.below hB4
        have P4d := P4.below (Below.refl _ W4).drew
        have hlk : (Instr.lookup 25 (.map g'.tm) (.agg #[.int .i64 x.key.kind, .int .i64 x.key.a, .string x.key.word, .int .i64 x.key.b]) false).run Tryz.prog W4.drew = .ok (.pointer (some ⟨y.tb, 0, none⟩)) W4.drew := by
          have := tree_look P4d.trees P4d.keyOk hkb
          rw [trPtr_some hy] at this
          exact this
        have hT4 : TreeAt W4.drew y.tb ((x.fr, x.id, x.to) :: itemsK (dropV (gonS s a left) x.id).vs x.key) y.t y.mb := by
          have := P4d.tree y hym
          rw [hyk] at this
          exact this.perm' (items_drop HP3.out.ids.nod HX.out)
        have hilen : ((itemsK (gonS s a left).vs x.key).length : Int) ≤ s.next := items_len HP3.out.ids x.key
        have hil2 : ((itemsK (dropV (gonS s a left) x.id).vs x.key).length : Int) < s.next := by
          have := (items_drop HP3.out.ids.nod HX.out).length_eq
          rw [List.length_cons] at this
          omega
        obtain ⟨_, _, _, _, c4⟩ := past_cells P4.len P4.cells
        have v0 := block_cell hvc 0
        have v1 := block_cell hvc 1
        have v2 := block_cell hvc 2
        have v3 := block_cell hvc 3
        have v6 := block_cell hvc 6
        simp only [List.getElem?_toArray, List.getElem?_cons_zero, List.getElem?_cons_succ] at v0 v1 v2 v3 v6
        have hsl : w3.heap.size < W4.heap.size := by omega
        have hrg4 := ranges_frame HRG3.out (Fr.new (F := fun _ => False) hB4) (fun e => e) (fun e => e)
        have hF4 : Fr (g.foot pb) w W4.drew := ((HL.out.fr.next HF3.out (fun j hj e => by omega)).trans (Fr.new hB4)).drew
        have HRG4 := Lib.hid hrg4
        have HF4 := Lib.hid hF4
        have HP4 := Lib.hid P4d
        have HT4 := Lib.hid hT4
        have HW4 := Lib.hid hW4
        have HYM := Lib.hid hym
        have HYK := Lib.hid hyk
        clear hbad hkb hy hym hyk hW4 hB4 hs4 hvc P4 P4d hT4 hilen hrg4 hF4
        go_wp2_with fail
        rw [← HW4.out]
        refine wp_region_tail 8 (by kernel_rfl) (by kernel_rfl) ?_
        simp only [List.take_succ_cons, List.take_zero, List.drop_succ_cons, List.drop_zero]
        repeat still_step
        refine wpStill_nil ?_
        go_wp2_with fail
        refine (tdrop_ok x.id x.fr x.to HIB.out W4.drew y.tb (itemsK (dropV (gonS s a left) x.id).vs x.key) y.t y.mb HT4.out (by omega)).mono ?_
        rintro e w5 ⟨t5, m5, rfl, T5, F5, G5⟩
        have F5' : Fr y.foot W4.drew w5 := F5
        have hyf : ∀ j, y.foot j → g'.foot pb j := fun j hj => .inr (.inr (.inr ⟨y, HYM.out, hj⟩))
        have hyr : ¬ y.foot r := fun e => by have := HRF.out r (hyf r e); omega
        have hya : ¬ y.foot am := fun e => (HP4.out.ne y HYM.out am e).2.1 HL.out.am
        have hc5 := F5'.keeps HP4.out.cells (fun e => (HP4.out.ne y HYM.out pb e).1 rfl)
        have hrg5 := ranges_frame HRG4.out ((Fr.drew (Fr.refl _ W4)).trans F5') hya hyr
        obtain ⟨_, _, _, c3, _⟩ := past_cells HP4.out.len hc5
        rw [HL.out.am] at c3
        have HT5 := Lib.hid T5
        have HF5 := Lib.hid F5'
        have HG5 := Lib.hid G5
        clear T5 F5 F5' G5 hyf hyr hya hc5 c4 v0 v1 v2 v3 v6 hlk
        go_wp2_with (at_delete; refine wpList_delete_ranges _ rfl _ _ 24 3 rfl 179 intLaw Tryz.underlying24 verR am r s.vs.length D' (fun z => left z && !z.sameKey (kI x.id)) cnt3 rfl hrg5 _ _ rfl (keyOf_int_mk Tryz.underlying3 (wfI HIB.out)) ?_; intro w6 cnt6 hrg6 hle6 hturn6)
        have hrg7 : w6.ranges Tryz.prog 3 verR am r s.vs.length (D'.del (kI x.id)) (fun z => left z && !z.sameKey (kI x.id)) cnt6 := by
          have := hrg6
          rw [show (Lit.int IntKind.i64 x.id) = kI x.id from rfl, Maps.strike_twice left (kI x.id)] at this
          exact this
        have F6 : Fr (· = am) w5 w6 := Fr.ofGrown hturn6.grown
        obtain ⟨g6, P6, a6, t6, F6', ft6, K6⟩ := past_drop (n := s.vs.length) HP4.out HL.out.am HYM.out HYK.out HX.out HT5.out HF5.out HG5.out HL.out.mp hrg7.owns F6
        have hnew : FLoop pb po R s g a am r s.vs.length w (fun z => left z && !z.sameKey (kI x.id)) cnt6 (D'.del (kI x.id)) g6 w6 :=
          floop_drop HL.out HP.out.ids.nod HXS.out HBAD.out HLK.out P6 (a6.trans HL.out.am) (HF4.out.trans (F6'.mono (fun j _ hj => HL.out.ft j hj))) ft6 hrg7
        have hs6 := F6'.size
        have hsl6 : r < w6.heap.size := by have : W4.drew.heap.size = W4.heap.size := rfl; omega
        refine ⟨?_, by rw [hnew.rg.left_eq, HMS.out]; omega⟩
        repeat apply Exists.intro
        exact ⟨⟨_, cnt6, _, g6, hnew, hsl6⟩, rfl⟩
theorem pforget_ok (a : Int) (pb po : Nat) (R : Rest) (s : Pst) (g : Gh) (w : World) (h : PastAt w pb po R s g) (hn : s.next ≤ 4000) (hb : forgE s a = 0) :
    Calls Tryz.prog 81 #[.pointer (some ⟨pb, po, none⟩), .int .i64 a] w (PDone .nilIface pb po R (forgetP a s) g w) := by
  have hx : 0 ≤ a ∧ a ≤ s.now ∧ s.gone ≤ a := by
    unfold forgE at hb
    split at hb
    · cases hb
    · split at hb
      · cases hb
      · omega
  cases ham : g.am with
  | none => exact pforget_none a pb po R s g w h ham hx.1 hx.2.1 hx.2.2
  | some am => exact pforget_some a pb po R s g am w h ham hx.1 hx.2.1 hx.2.2 hn
end Go.Proofs.YtflhpmgjehjjkaaGreatDoor

namespace Go.Proofs.YtflhpmgjehjjkaaGreatDoor
open Go.RowKit Go.Deep Go.Shelf Go.Sort Go.Maps

/-- In memory: a past of that history. -/
structure PastIs (w : World) (pb po : Nat) (R : Rest) (hist : List (List OpP)) (s : Pst) (g : Gh) : Prop where
  at' : PastAt w pb po R s g
  wf : Wf s
  told : Told hist s
  next : s.next ≤ 24 * s.now
  len : hist.length ≤ 150
theorem PastIs.now {w : World} {pb po : Nat} {R : Rest} {hist : List (List OpP)} {s : Pst} {g : Gh} (h : PastIs w pb po R hist s g) : s.now = hist.length := h.told.now
theorem PastIs.nx {w : World} {pb po : Nat} {R : Rest} {hist : List (List OpP)} {s : Pst} {g : Gh} (h : PastIs w pb po R hist s g) : s.next ≤ 3600 := by
  have h1 := h.next; have h2 := h.now; have h3 := h.len; omega
theorem PastIs.below {w w' : World} {pb po : Nat} {R : Rest} {hist : List (List OpP)} {s : Pst} {g : Gh} (h : PastIs w pb po R hist s g) (hb : Below w.heap.size w w') : PastIs w' pb po R hist s g := ⟨h.at'.below hb, h.wf, h.told, h.next, h.len⟩
theorem PastIs.frame {F : Nat → Prop} {w w' : World} {pb po : Nat} {R : Rest} {hist : List (List OpP)} {s : Pst} {g : Gh} (h : PastIs w pb po R hist s g) (hf : Fr F w w') (hn : ∀ k, g.foot pb k → ¬ F k) : PastIs w' pb po R hist s g := ⟨h.at'.frame hf hn, h.wf, h.told, h.next, h.len⟩
theorem wf0 : Wf ⟨0, 0, 0, []⟩ := ⟨List.nodup_nil, (fun _ h => by cases h), (fun _ h => by cases h), (fun _ h => by cases h), (fun _ h => by cases h), (fun _ h => by cases h), (fun _ h => by cases h), Int.le_refl _, Int.le_refl _, Int.le_refl _⟩
theorem told0 : Told [] ⟨0, 0, 0, []⟩ := ⟨rfl, Int.le_refl _, Int.le_refl _, fun k n t x _ hn => by
  constructor
  · rintro ⟨v, hv, _⟩; cases hv
  · rintro ⟨h1, h2⟩
    simp [saidH, saidL] at h2
    rw [← h2] at h1
    exact absurd rfl h1⟩
theorem past_is_new {w : World} {pb po : Nat} {R : Rest} (hl : R.pre.length = po) (h : w.heap[pb]? = some (.cells (pcells R 0 0 0 none none) R.ty (0, 0))) : PastIs w pb po R [] ⟨0, 0, 0, []⟩ noGh :=
  ⟨past_new hl h, wf0, told0, by decide, by decide⟩
theorem foot_new {pb k : Nat} (h : noGh.foot pb k) : k = pb := by
  rcases h with h | h | h | ⟨x, hx, _⟩
  · exact h
  · cases h
  · cases h
  · cases hx

def CommitIs (pb po : Nat) (R : Rest) (hist : List (List OpP)) (s : Pst) (g : Gh) (l : List OpP) (w : World) (e : Ending) (w' : World) : Prop :=
  ∃ s' g', e = .returned .nilIface ∧ PastIs w' pb po R (hist ++ [l]) s' g' ∧ s'.gone = s.gone ∧ Fr (g.foot pb) w w' ∧ Grows g g' pb w
theorem commit_is (ao : Option Addr) (c : Nat) (l : List OpP) (pb po : Nat) (R : Rest) (hist : List (List OpP)) (s : Pst) (g : Gh) (w : World) (h : PastIs w pb po R hist s g) (hl : opsAt w ao l) (hsep : SepOps ao g pb) (hg : PowTab w) (hok : okL l = true) (hn : hist.length < 150) :
    Calls Tryz.prog 9 #[.pointer (some ⟨pb, po, none⟩), .slice ao l.length c] w (CommitIs pb po R hist s g l w) := by
  have hnow := h.now
  have h1 := h.next
  refine (pcommit_ok ao c l pb po R s g w h.at' h.wf hl hsep hg hok (by omega) (by omega)).mono ?_
  rintro e w' ⟨g', rfl, P, F, G⟩
  obtain ⟨c1, c2, c3, c4, c5⟩ := commit_ok h.wf h.told (okL_iff.1 hok).2
  have hl8 := (okL_iff.1 hok).1.2
  exact ⟨_, g', rfl, ⟨P, c1, c2, by rw [c4]; omega, by rw [List.length_append]; simp; omega⟩, c5, F, G⟩
theorem value_is (k : KeyP) (n : Nat) (t : Int) (pb po : Nat) (R : Rest) (hist : List (List OpP)) (s : Pst) (g : Gh) (w : World) (h : PastIs w pb po R hist s g) (hk : keyB k = true) (ht : timeB t = true) (h1 : s.gone ≤ n) (h2 : n ≤ hist.length) :
    Calls Tryz.prog 51 #[.pointer (some ⟨pb, po, none⟩), .agg #[.int .i64 k.kind, .int .i64 k.a, .string k.word, .int .i64 k.b], .int .i64 (n : Nat), .int .i64 t] w fun e w' => e = .returned (.tuple #[.string (saidH hist k n t), .nilIface]) ∧ Below w.heap.size w w' := by
  have ha : askE s n = 0 := by unfold askE; rw [if_neg (by have := h.now; omega), if_neg (by omega)]
  have := pvalue_any k n t pb po R s g w h.at' (by have := (wfkey hk).2; unfold maxLen; omega) (by have := h.nx; omega)
  rw [valV_ok ha hk ht, value_told h.wf h.told ht h1 h2] at this
  exact this
/-- A piece of a past. -/
def pcB (p : Pc) : Bool := rightB p.fr p.to && wordB p.val
theorem pieces_pcB {s : Pst} (h : Wf s) {k : KeyP} {a : Int} {L : List Pc} (hp : L.Perm (piecesU s.vs k a)) (hs : L.Pairwise fun p q => p.fr ≤ q.fr) : ∀ p ∈ joinP L, pcB p = true := by
  have hr : Rows L := rows_of (fun p hp => (piecesU_good h hp).1) (piecesU_apart h k a) hp hs
  obtain ⟨c1, c2⟩ := join_spec hr
  intro p hpm
  have hg := (c1.good p hpm).1
  obtain ⟨q, hq, q1, q2⟩ := (c2 p.fr p.val).1 ⟨p, hpm, ⟨Int.le_refl _, hg⟩, rfl⟩
  obtain ⟨q', hq', q1', q2'⟩ := (c2 (p.to - 1) p.val).1 ⟨p, hpm, ⟨by omega, by omega⟩, rfl⟩
  obtain ⟨_, r1, r2⟩ := piecesU_good h (hp.mem_iff.1 hq)
  obtain ⟨_, r1', _⟩ := piecesU_good h (hp.mem_iff.1 hq')
  have b1 := rightB_bounds r1
  have b2 := rightB_bounds r1'
  have b3 := q1.1
  have b4 := q1'.2
  unfold pcB rightB
  rw [← q2, r2]
  simp; omega
def PiecesIs (hist : List (List OpP)) (k : KeyP) (n : Nat) (w : World) (e : Ending) (w' : World) : Prop :=
  ∃ (v : Value) (L : List Pc), e = .returned (.tuple #[v, .nilIface]) ∧ PiecesOf hist k n L ∧ (∀ p ∈ L, pcB p = true) ∧ L.length ≤ 3600 ∧ w'.ownsRow w.heap.size 96 3 v L.length (flatP L) ∧ Below w.heap.size w w'
theorem pieces_is (k : KeyP) (n : Nat) (pb po : Nat) (R : Rest) (hist : List (List OpP)) (s : Pst) (g : Gh) (w : World) (h : PastIs w pb po R hist s g) (hk : keyB k = true) (h1 : s.gone ≤ n) (h2 : n ≤ hist.length) :
    Calls Tryz.prog 40 #[.pointer (some ⟨pb, po, none⟩), .agg #[.int .i64 k.kind, .int .i64 k.a, .string k.word, .int .i64 k.b], .int .i64 (n : Nat)] w (PiecesIs hist k n w) := by
  have ha : askE s n = 0 := by unfold askE; rw [if_neg (by have := h.now; omega), if_neg (by omega)]
  have hnx := h.nx
  refine (pPieces_ok k n pb po R s g w h.at' h.wf ha hk (by omega)).mono ?_
  rintro e w' ⟨v, L, rfl, hp, hs, hown, hb⟩
  refine ⟨v, joinP L, rfl, pieces_told h.wf h.told h1 h2 hp hs, pieces_pcB h.wf hp hs, ?_, hown, hb⟩
  have e1 := joinP_length L
  have e2 := hp.length_eq
  have e3 := piecesU_length h.wf k n
  have e4 := h.at'.ids.len
  omega
def ForgetIs (pb po : Nat) (R : Rest) (hist : List (List OpP)) (a : Int) (g : Gh) (w : World) (e : Ending) (w' : World) : Prop :=
  ∃ s' g', e = .returned .nilIface ∧ PastIs w' pb po R hist s' g' ∧ s'.gone = a ∧ Fr (g.foot pb) w w' ∧ Grows g g' pb w
theorem forget_is (a : Int) (pb po : Nat) (R : Rest) (hist : List (List OpP)) (s : Pst) (g : Gh) (w : World) (h : PastIs w pb po R hist s g) (h1 : s.gone ≤ a) (h2 : a ≤ s.now) :
    Calls Tryz.prog 81 #[.pointer (some ⟨pb, po, none⟩), .int .i64 a] w (ForgetIs pb po R hist a g w) := by
  have hg := h.told.gone0
  have hnx := h.nx
  refine (pforget_ok a pb po R s g w h.at' (by omega) (by unfold forgE; rw [if_neg (by omega), if_neg (by omega)])).mono ?_
  rintro e w' ⟨g', rfl, P, F, G⟩
  obtain ⟨f1, f2⟩ := forget_ok h.wf h.told h1 h2
  exact ⟨_, g', rfl, ⟨P, f1, f2, h.next, h.len⟩, rfl, F, G⟩
end Go.Proofs.YtflhpmgjehjjkaaGreatDoor
