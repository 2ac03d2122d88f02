/- What was said of a time (Value). -/
import Derived.Test.YtacedfcckkpciaaGreatDoorPwGJ
import Derived.Test.YtacedfcckkpciaaGreatDoorFcHJ
namespace Go.Proofs.YtacedfcckkpciaaGreatDoor
open Go.RowKit Go.Deep Go.Shelf Go.Sort Go.Maps

theorem psays_any (o : OpP) (pb po : Nat) (R : Rest) (s : Pst) (g : Gh) (w : World) (h : PastAt w pb po R s g) (hW : Wf s) (ha : g.am.isSome = true) (ht : g.tm.isSome = true) (ho : opB o = true) (hn0 : 1 ≤ s.now) (hn1 : s.now ≤ 150) (hn : s.next + 3 ≤ 4000) :
    Calls Tryz.prog 34 #[.pointer (some ⟨pb, po, none⟩), .agg #[.int .i64 o.key.kind, .int .i64 o.key.a, .string o.key.word, .int .i64 o.key.b, .int .i64 o.fr, .int .i64 o.to, .string o.value]] w (Begun pb po R (sayO o s) g w) := by
  cases hy : treeFor g.ts o.key with
  | none => exact psays_none o pb po R s g w h ha ht ho hn hy
  | some y => exact psays_some o pb po R s g y w h hW ha ht ho hn0 hn1 hn hy

/-- All is well with a list of changes. -/
def okL (l : List OpP) : Bool := lenB l && l.all opB
theorem okL_iff {l : List OpP} : okL l = true ↔ (1 ≤ l.length ∧ l.length ≤ 8) ∧ l.all opB = true := by unfold okL lenB; simp
theorem okL_write {l : List OpP} (h : okL l = true) : writeR l = (writeT l, 0, -1) := by
  have := okL_iff.1 h
  exact writeR_good (by unfold lenB; simpa using this.1) this.2
theorem okL_not {l : List OpP} (h : okL l = false) : (writeR l).2.1 ≠ 0 := by
  unfold okL at h
  cases h1 : lenB l with
  | false => rw [writeR_len h1]; decide
  | true =>
    rw [h1, Bool.true_and] at h
    unfold writeR
    rw [if_pos h1, if_neg (by rw [h]; decide)]
    show (1 : Int) ≠ 0
    decide
def PDone (v : Value) (pb po : Nat) (R : Rest) (s : Pst) (g : Gh) (w : World) (e : Ending) (w' : World) : Prop :=
  ∃ g', e = .returned v ∧ PastAt w' pb po R s g' ∧ Fr (g.foot pb) w w' ∧ Grows g g' pb w
structure CLoop (pb po : Nat) (R : Rest) (s : Pst) (g : Gh) (l : List OpP) (w : World) (k : Nat) (g' : Gh) (wr : World) : Prop where
  at' : PastAt wr pb po R ((l.take k).foldl (fun s o => sayO o s) (beginP s)) g'
  wf : Wf ((l.take k).foldl (fun s o => sayO o s) (beginP s))
  next : ((l.take k).foldl (fun s o => sayO o s) (beginP s)).next ≤ s.next + 3 * k
  now : ((l.take k).foldl (fun s o => sayO o s) (beginP s)).now = s.now + 1
  am : g'.am.isSome = true
  tm : g'.tm.isSome = true
  fr : Fr (g.foot pb) w wr
  gr : Grows g g' pb w
theorem fold_snoc {l : List OpP} {k : Nat} {o : OpP} (h : l[k]? = some o) (s : Pst) : (l.take (k + 1)).foldl (fun s o => sayO o s) s = sayO o ((l.take k).foldl (fun s o => sayO o s) s) := by
  rw [List.take_succ_eq_append_getElem (List.getElem?_eq_some_iff.1 h).1, List.foldl_append, (List.getElem?_eq_some_iff.1 h).2]; rfl
/-- The list's own block is none of the past's. -/
def SepOps (ao : Option Addr) (g : Gh) (pb : Nat) : Prop := ∀ b f, ao = some ⟨b, f, none⟩ → ¬ g.foot pb b

set_option maxRecDepth 100000 in
set_option maxHeartbeats 4000000 in
theorem pcommit_ok (ao : Option Addr) (c : Nat) (l : List OpP) (pb po : Nat) (R : Rest) (s : Pst) (g : Gh) (w : World) (h : PastAt w pb po R s g) (hW : Wf s) (hl : opsAt w ao l) (hsep : SepOps ao g pb) (hg : PowTab w) (hok : okL l = true) (hn1 : s.now < 150) (hn : s.next + 24 ≤ 4000) :
    Calls Tryz.prog 11 #[.pointer (some ⟨pb, po, none⟩), .slice ao l.length c] w (PDone .nilIface pb po R (commitP l s) g w) := by
  obtain ⟨hlen, hall⟩ := okL_iff.1 hok
  have hwr := okL_write hok
  have hsz : ∀ o ∈ l, o.key.word.size ≤ 100000 ∧ o.value.size ≤ 100000 := fun o ho => by
    have h1 := List.all_eq_true.1 hall o ho
    have h2 := (wfkey (op_key h1)).2
    rcases op_value h1 with h3 | h3
    · omega
    · unfold wordB at h3; simp at h3; omega
  have hm : l.length ≤ maxLen := by unfold maxLen; omega
  have hfw := fwrite_any ao c l w hl hm hsz hg
  rw [hwr] at hfw
  have HFW := Lib.hid hfw
  have HP := Lib.hid h
  have HW := Lib.hid hW
  have HL := Lib.hid hl
  have HSEP := Lib.hid hsep
  have HALL := Lib.hid hall
  have hn0 := hW.now0
  clear h hW hl hsep hg hok hall hwr hsz hm hfw
  go_enter Tryz.func11, Tryz.ntmps11
  go_wp2_with fail
  refine HFW.out.mono ?_
  rintro e w1 ⟨⟨v, rfl, _, hnil⟩, b1⟩
  have hv : v = .nilIface := by
    rcases hnil with h | h
    · exact h.1
    · exact absurd rfl h.2
  subst hv
  have P1 := HP.out.below b1
  have HP1 := Lib.hid P1
  have HB1 := Lib.hid b1
  obtain ⟨c0, _, _, _, _⟩ := past_cells P1.len P1.cells
  clear b1 P1 hnil
  go_wp2_with fail
  refine (pbegin_any pb po R s g w1 HP1.out).mono ?_
  rintro e w2 ⟨g2, rfl, P2, a2, t2, F2, G2, _⟩
  clear c0
  obtain ⟨c0, _, _, _, _⟩ := past_cells P2.len P2.cells
  have f0 := past_free P2.cells po
  have hpb2 := lt_of_block P2.cells
  have hF2 : Fr (g.foot pb) w w2 := (Fr.new HB1.out).trans F2
  have hG2 : Grows g g2 pb w := fun j hj => by
    rcases G2 j hj with e | e
    · exact .inl e
    · exact .inr (by have := HB1.out.size; omega)
  obtain ⟨P3, F3⟩ := PastI.place (s' := beginP s) (i := po) (v := .int .i64 (s.now + 1)) P2.toPastI (by rw [pcells_set0 P2.len]; rfl) ⟨P2.ids.nod, P2.ids.rng, P2.ids.key, P2.ids.next0, P2.ids.len⟩ rfl
  have hst : CLoop pb po R s g l w 0 g2 (w2.setCell ⟨pb, po, none⟩ (.int .i64 (s.now + 1))) := ⟨⟨P3, P2.tlen⟩, HW.out.begin, by simp [beginP], by simp [beginP], a2, t2, hF2.past F3 hG2, hG2⟩
  have HST := Lib.hid hst
  clear P2 a2 t2 F2 G2 hF2 hG2 P3 F3 hst
  go_wp2_with fail
  go_loopw [34] (fun i wr => ∃ (k : Nat) (g' : Gh), k ≤ l.length ∧ i = .int .i64 k ∧ CLoop pb po R s g l w k g' wr) (fun i _ => l.length - (intOf i).toNat)
  case atStart => exact ⟨0, g2, by omega, rfl, HST.out⟩
  case round =>
    obtain ⟨k, g', hk, rfl, hL⟩ := hrel
    have HCL := Lib.hid hL
    clear hL c0 f0
    by_cases hlt : k < l.length
    · obtain ⟨o, ho⟩ : ∃ o, l[k]? = some o := ⟨_, List.getElem?_eq_getElem hlt⟩
      obtain ⟨b, f, rfl, hcs⟩ := HL.out k o ho
      have hnb := HSEP.out b f rfl
      have q : ∀ j u, (opCells o)[j]? = some u → wr.cell? ⟨b, f + k * 7 + j, none⟩ = some u := fun j u hj => HCL.out.fr.cell (hcs j u hj) hnb
      have q0 := q 0 _ rfl
      have q1 := q 1 _ rfl
      have q2 := q 2 _ rfl
      have q3 := q 3 _ rfl
      have q4 := q 4 _ rfl
      have q5 := q 5 _ rfl
      have q6 := q 6 _ rfl
      rw [Nat.add_zero] at q0
      have hbw : b < wr.heap.size := World.block_lt_of_cell? wr _ q0
      have hob : opB o = true := List.all_eq_true.1 HALL.out o (List.mem_of_getElem? ho)
      have HO := Lib.hid hob
      have HOK := Lib.hid ho
      have hnx := HCL.out.next
      have hnw := HCL.out.now
      have HNX := Lib.hid (show ((l.take k).foldl (fun s o => sayO o s) (beginP s)).next + 3 ≤ 4000 by omega)
      have HNW := Lib.hid hnw
      clear q hcs hob ho hnx hnw
      go_wp2_with fail
      have hcall : ∀ W, Below wr.heap.size wr W → Calls Tryz.prog 34 #[.pointer (some ⟨pb, po, none⟩), .agg #[.int .i64 o.key.kind, .int .i64 o.key.a, .string o.key.word, .int .i64 o.key.b, .int .i64 o.fr, .int .i64 o.to, .string o.value]] W (Begun pb po R (sayO o ((l.take k).foldl (fun s o => sayO o s) (beginP s))) g' W) := fun W hB =>
        psays_any o pb po R _ g' W (HCL.out.at'.below hB) HCL.out.wf HCL.out.am HCL.out.tm HO.out (by rw [HNW.out]; omega) (by rw [HNW.out]; omega) HNX.out
      refine (hcall _ ((Below.refl _ _).alloc (Nat.le_refl _) _)).mono ?_
      rintro e w4 ⟨g4, rfl, P4, a4, t4, F4, G4, _⟩
      have hsd := said_one HCL.out.wf HO.out (by rw [HNW.out]; omega)
      have hfs := fold_snoc HOK.out (beginP s)
      have hfr : Fr (g.foot pb) w w4 := (HCL.out.fr.alloc _).past F4 HCL.out.gr
      have hnew : CLoop pb po R s g l w (k + 1) g4 w4 := by
        refine ⟨by rw [hfs]; exact P4, by rw [hfs]; exact hsd.wf, ?_, by rw [hfs, hsd.now]; exact HNW.out, a4, t4, hfr, HCL.out.gr.trans G4 (HCL.out.fr.alloc _).size⟩
        rw [hfs]
        have h1 := hsd.next
        have h2 := HCL.out.next
        omega
      have HNEW := Lib.hid hnew
      clear P4 a4 t4 F4 G4 hsd hfs hfr hnew q0 q1 q2 q3 q4 q5 q6
      go_wp2_with fail
      go_roundw
      case rel => exact ⟨k + 1, g4, by omega, by go_num, HNEW.out⟩
      case measure => simp [intOf]; omega
    · have hkl : l.take k = l := List.take_of_length_le (by omega)
      have hend : PDone .nilIface pb po R (commitP l s) g w (.returned .nilIface) wr := by
        have h1 := HCL.out.at'
        rw [hkl] at h1
        exact ⟨g', rfl, h1, HCL.out.fr, HCL.out.gr⟩
      have HE := Lib.hid hend
      clear hkl hend
      go_wp2_with fail
      go_ret
      exact HE.out
end Go.Proofs.YtacedfcckkpciaaGreatDoor

namespace Go.Proofs.YtacedfcckkpciaaGreatDoor
open Go.RowKit Go.Deep Go.Shelf Go.Sort Go.Maps

/-- What Value answers: the error; the value. -/
def valE (s : Pst) (k : KeyP) (a t : Int) : Int := if askE s a ≠ 0 then askE s a else if keyB k && timeB t then 0 else 1
def valV (s : Pst) (k : KeyP) (a t : Int) : Value := .tuple #[.string (if valE s k a t = 0 then valueP s.vs k a t else ⟨#[]⟩), errN (valE s k a t)]
theorem valV_ask {s : Pst} {k : KeyP} {a t : Int} (h : askE s a ≠ 0) : valV s k a t = .tuple #[.string ⟨#[]⟩, errV (askE s a)] := by
  have : valE s k a t = askE s a := by unfold valE; rw [if_pos h]
  unfold valV; rw [this, if_neg h, errN_ne h]
theorem valV_arg {s : Pst} {k : KeyP} {a t : Int} (h : askE s a = 0) (hb : (keyB k && timeB t) = false) : valV s k a t = .tuple #[.string ⟨#[]⟩, errV 1] := by
  have : valE s k a t = 1 := by unfold valE; rw [if_neg (by simpa using h), if_neg (by rw [hb]; decide)]
  unfold valV; rw [this]; rfl
theorem valV_ok {s : Pst} {k : KeyP} {a t : Int} (h : askE s a = 0) (hk : keyB k = true) (ht : timeB t = true) : valV s k a t = .tuple #[.string (valueP s.vs k a t), .nilIface] := by
  have : valE s k a t = 0 := by unfold valE; rw [if_neg (by simpa using h), if_pos (by rw [hk, ht]; rfl)]
  unfold valV; rw [this]; rfl

set_option maxRecDepth 100000 in
set_option maxHeartbeats 2000000 in
theorem pvalue_ask (k : KeyP) (a t : Int) (pb po : Nat) (R : Rest) (s : Pst) (g : Gh) (w : World) (h : PastAt w pb po R s g) (ha : askE s a ≠ 0) :
    Calls Tryz.prog 9 #[.pointer (some ⟨pb, po, none⟩), .agg #[.int .i64 k.kind, .int .i64 k.a, .string k.word, .int .i64 k.b], .int .i64 a, .int .i64 t] w fun e w' => e = .returned (.tuple #[.string ⟨#[]⟩, errV (askE s a)]) ∧ Below w.heap.size w w' := by
  have hR := fun W (hB : Below w.heap.size w W) => pright_any pb po R s g a W (h.below hB)
  rw [errN_ne ha] at hR
  obtain ⟨n, hn⟩ : ∃ n, n = askE s a := ⟨_, rfl⟩
  rw [← hn] at hR ⊢
  unfold errV at *
  have HR := Lib.hid hR
  clear hR hn ha h
  go_enter Tryz.func9, Tryz.ntmps9
  go_wp2_with fail
  refine (HR.out _ ((Below.refl _ _).alloc (Nat.le_refl _) _)).mono ?_
  rintro e w1 ⟨rfl, rfl⟩
  go_wp2_with fail
  go_ret2
  exact ⟨rfl, (Below.refl _ _).alloc (Nat.le_refl _) _⟩

set_option maxRecDepth 100000 in
set_option maxHeartbeats 2000000 in
theorem pvalue_arg (k : KeyP) (a t : Int) (pb po : Nat) (R : Rest) (s : Pst) (g : Gh) (w : World) (h : PastAt w pb po R s g) (hs : k.word.size ≤ maxLen) (ha : askE s a = 0) (hb : (keyB k && timeB t) = false) :
    Calls Tryz.prog 9 #[.pointer (some ⟨pb, po, none⟩), .agg #[.int .i64 k.kind, .int .i64 k.a, .string k.word, .int .i64 k.b], .int .i64 a, .int .i64 t] w fun e w' => e = .returned (.tuple #[.string ⟨#[]⟩, errV 1]) ∧ Below w.heap.size w w' := by
  have hR := fun W (hB : Below w.heap.size w W) => pright_any pb po R s g a W (h.below hB)
  rw [ha, errN_0] at hR
  have HR := Lib.hid hR
  have hK := fun W => fkey_any k.kind k.a k.b k.word W hs
  rw [show (⟨k.kind, k.a, k.word, k.b⟩ : KeyP) = k from rfl] at hK
  unfold errV
  clear hR ha h hs
  cases hk : keyB k
  · rw [hk] at hK
    have HK := Lib.hid hK
    clear hK hb hk
    go_enter Tryz.func9, Tryz.ntmps9
    go_wp2_with fail
    refine (HR.out _ ((Below.refl _ _).alloc (Nat.le_refl _) _)).mono ?_
    rintro e w1 ⟨rfl, rfl⟩
    go_wp2_with fail
    refine (HK.out _).mono ?_
    rintro e w2 ⟨rfl, b2⟩
    have B2 := below_over b2
    clear b2
    go_wp2_with fail
    go_ret2
    exact ⟨rfl, B2⟩
  · rw [hk] at hK hb
    have HK := Lib.hid hK
    have ht : timeB t = false := by simpa using hb
    clear hK hb hk
    by_cases h1 : t < -1099511627776
    · clear ht
      go_enter Tryz.func9, Tryz.ntmps9
      go_wp2_with fail
      refine (HR.out _ ((Below.refl _ _).alloc (Nat.le_refl _) _)).mono ?_
      rintro e w1 ⟨rfl, rfl⟩
      go_wp2_with fail
      refine (HK.out _).mono ?_
      rintro e w2 ⟨rfl, b2⟩
      have B2 := below_over b2
      clear b2
      go_wp2_with fail
      go_ret2
      exact ⟨rfl, B2⟩
    · have h2 : 1099511627776 ≤ t := by unfold timeB at ht; simp at ht; omega
      have h1' : decide (t < -1099511627776) = false := by simpa using h1
      clear ht h1
      go_enter Tryz.func9, Tryz.ntmps9
      go_wp2_with fail
      refine (HR.out _ ((Below.refl _ _).alloc (Nat.le_refl _) _)).mono ?_
      rintro e w1 ⟨rfl, rfl⟩
      go_wp2_with fail
      refine (HK.out _).mono ?_
      rintro e w2 ⟨rfl, b2⟩
      have B2 := below_over b2
      clear b2
      go_wp2_with fail
      go_ret2
      exact ⟨rfl, B2⟩

theorem find_take_none {l : List Int} {p : Int → Bool} {k : Nat} {x : Int} (h : (l.take k).find? p = none) (hx : l[k]? = some x) (hp : p x = false) : (l.take (k + 1)).find? p = none := by
  rw [List.take_succ_eq_append_getElem (List.getElem?_eq_some_iff.1 hx).1, (List.getElem?_eq_some_iff.1 hx).2, List.find?_append, h]
  simp [hp]
theorem find_at {l : List Int} {p : Int → Bool} {k : Nat} {x : Int} (h : (l.take k).find? p = none) (hx : l[k]? = some x) (hp : p x = true) : l.find? p = some x := by
  have : l = l.take (k + 1) ++ l.drop (k + 1) := (List.take_append_drop _ _).symm
  rw [this, List.take_succ_eq_append_getElem (List.getElem?_eq_some_iff.1 hx).1, (List.getElem?_eq_some_iff.1 hx).2, List.find?_append, List.find?_append, h]
  simp [hp]
theorem atK_ids {s : Pst} (hi : Ids s) (k : KeyP) (t : Int) {id : Int} (ht : timeB t = true) (hid : id ∈ atL (itemsK s.vs k) t) : ∃ v ∈ s.vs, v.id = id := by
  obtain ⟨x, hx, e, _⟩ := (mem_atL ht).1 hid
  obtain ⟨v, hv, _, rfl⟩ := mem_itemsK.1 hx
  exact ⟨v, hv, e⟩
theorem Ids.verAt {s : Pst} (h : Ids s) {v : Ver} (hv : v ∈ s.vs) : verAt s.vs v.id = v := by
  have hf : s.vs.find? (fun u => decide (u.id = v.id)) = some v := by
    cases hf : s.vs.find? (fun u => decide (u.id = v.id)) with
    | none =>
      have := List.find?_eq_none.1 hf v hv
      simp at this
    | some u =>
      have h1 := List.find?_some hf
      have h2 := List.mem_of_find?_eq_some hf
      rw [nodup_inj (·.id) s.vs h.nod u h2 v hv (by simpa using h1)]
  unfold Go.Proofs.YtacedfcckkpciaaGreatDoor.verAt; rw [hf]; rfl

set_option maxRecDepth 100000 in
set_option maxHeartbeats 4000000 in
theorem pvalue_none (k : KeyP) (a t : Int) (pb po : Nat) (R : Rest) (s : Pst) (g : Gh) (w : World) (h : PastAt w pb po R s g) (ha : askE s a = 0) (hk : keyB k = true) (ht : timeB t = true) (hy : treeFor g.ts k = none) :
    Calls Tryz.prog 9 #[.pointer (some ⟨pb, po, none⟩), .agg #[.int .i64 k.kind, .int .i64 k.a, .string k.word, .int .i64 k.b], .int .i64 a, .int .i64 t] w fun e w' => e = .returned (.tuple #[.string ⟨#[]⟩, .nilIface]) ∧ Below w.heap.size w w' := by
  have hR := fun W (hB : Below w.heap.size w W) => pright_any pb po R s g a W (h.below hB)
  rw [ha, errN_0] at hR
  have HR := Lib.hid hR
  have hs : k.word.size ≤ maxLen := by have := (wfkey hk).2; unfold maxLen; omega
  have hK := fun W => fkey_any k.kind k.a k.b k.word W hs
  rw [show (⟨k.kind, k.a, k.word, k.b⟩ : KeyP) = k from rfl, hk] at hK
  have hlk : ∀ W, Below w.heap.size w W → (Instr.lookup 25 (.map g.tm) (.agg #[.int .i64 k.kind, .int .i64 k.a, .string k.word, .int .i64 k.b]) false).run Tryz.prog W = .ok (.pointer none) W := fun W hB => by
    have := tree_look (h.below hB).trees h.keyOk hk
    rw [trPtr_none hy] at this
    exact this
  have ht' : -1099511627776 ≤ t ∧ t < 1099511627776 := by simpa [timeB] using ht
  obtain ⟨ht1, ht2⟩ := ht'
  have ht3 : decide (t < -1099511627776) = false := by simp; omega
  have ht4 : decide (1099511627776 ≤ t) = false := by simp; omega
  have hc : ∀ W, Below w.heap.size w W → W.cell? ⟨pb, po + 4, none⟩ = some (.map g.tm) := fun W hB => (past_cells (h.below hB).len (h.below hB).cells).2.2.2.2
  have HK := Lib.hid hK
  have HLK := Lib.hid hlk
  have HC := Lib.hid hc
  clear hR hK hlk hc ha hk hs ht hy h
  go_enter Tryz.func9, Tryz.ntmps9
  go_wp2_with fail
  refine (HR.out _ ((Below.refl _ _).alloc (Nat.le_refl _) _)).mono ?_
  rintro e w1 ⟨rfl, rfl⟩
  go_wp2_with fail
  refine (HK.out _).mono ?_
  rintro e w2 ⟨rfl, b2⟩
  have B2 := below_over b2
  have k0 := (b2.cell (p := ⟨w.heap.size, 0, none⟩) (by simp)).trans (show _ = some (.int .i64 k.kind) by simp)
  have k1 := (b2.cell (p := ⟨w.heap.size, 1, none⟩) (by simp)).trans (show _ = some (.int .i64 k.a) by simp)
  have k2 := (b2.cell (p := ⟨w.heap.size, 2, none⟩) (by simp)).trans (show _ = some (.string k.word) by simp)
  have k3 := (b2.cell (p := ⟨w.heap.size, 3, none⟩) (by simp)).trans (show _ = some (.int .i64 k.b) by simp)
  have c4 := HC.out w2 B2
  have hl := fun n => HLK.out (w2.drewN n) (below_drewN' B2 n)
  have HB2 := Lib.hid B2
  clear b2 B2
  go_wp2_with fail
  go_quiet (fail)
  revert nq; intro n1
  clear hl
  go_wp2_with fail
  go_ret2
  exact ⟨rfl, below_drewN' HB2.out n1⟩

set_option maxRecDepth 100000 in
set_option maxHeartbeats 4000000 in
theorem pvalue_some (k : KeyP) (a t : Int) (pb po : Nat) (R : Rest) (s : Pst) (g : Gh) (y : Tr) (w : World) (h : PastAt w pb po R s g) (ha : askE s a = 0) (hk : keyB k = true) (ht : timeB t = true) (hn : s.next ≤ 4000) (hy : treeFor g.ts k = some y) :
    Calls Tryz.prog 9 #[.pointer (some ⟨pb, po, none⟩), .agg #[.int .i64 k.kind, .int .i64 k.a, .string k.word, .int .i64 k.b], .int .i64 a, .int .i64 t] w fun e w' => e = .returned (.tuple #[.string (valueP s.vs k a t), .nilIface]) ∧ Below w.heap.size w w' := by
  have hR := fun W (hB : Below w.heap.size w W) => pright_any pb po R s g a W (h.below hB)
  rw [ha, errN_0] at hR
  have HR := Lib.hid hR
  have hs : k.word.size ≤ maxLen := by have := (wfkey hk).2; unfold maxLen; omega
  have hK := fun W => fkey_any k.kind k.a k.b k.word W hs
  rw [show (⟨k.kind, k.a, k.word, k.b⟩ : KeyP) = k from rfl, hk] at hK
  have hlk : ∀ W, Below w.heap.size w W → (Instr.lookup 25 (.map g.tm) (.agg #[.int .i64 k.kind, .int .i64 k.a, .string k.word, .int .i64 k.b]) false).run Tryz.prog W = .ok (.pointer (some ⟨y.tb, 0, none⟩)) W := fun W hB => by
    have := tree_look (h.below hB).trees h.keyOk hk
    rw [trPtr_some hy] at this
    exact this
  obtain ⟨hym, hyk⟩ := treeFor_some hy
  have ht' : -1099511627776 ≤ t ∧ t < 1099511627776 := by simpa [timeB] using ht
  obtain ⟨ht1, ht2⟩ := ht'
  have ht3 : decide (t < -1099511627776) = false := by simp; omega
  have ht4 : decide (1099511627776 ≤ t) = false := by simp; omega
  have hc : ∀ W, Below w.heap.size w W → W.cell? ⟨pb, po + 4, none⟩ = some (.map g.tm) ∧ W.cell? ⟨pb, po + 3, none⟩ = some (.map g.am) := fun W hB => ⟨(past_cells (h.below hB).len (h.below hB).cells).2.2.2.2, (past_cells (h.below hB).len (h.below hB).cells).2.2.2.1⟩
  have hT : ∀ W, Below w.heap.size w W → TreeAt W y.tb (itemsK s.vs k) y.t y.mb := fun W hB => by
    have := (h.below hB).tree y hym
    rw [hyk] at this; exact this
  have hvl : ∀ W, Below w.heap.size w W → ∀ v ∈ s.vs, (Instr.lookup 24 (.map g.am) (.int .i64 v.id) false).run Tryz.prog W = .ok (verV v) W := fun W hB v hv => by
    have hvs := (h.below hB).vers
    have hr := h.ids.rng v hv
    cases ham : g.am with
    | none => rw [ham] at hvs; have e : s.vs = [] := hvs; rw [e] at hv; cases hv
    | some am => rw [ham] at hvs; exact ver_look hvs hv ⟨by omega, by omega⟩
  have hil := items_len h.ids k
  have hle := atL_length (itemsK s.vs k) t
  have HK := Lib.hid hK
  have HLK := Lib.hid hlk
  have HC := Lib.hid hc
  have HT := Lib.hid hT
  have HVL := Lib.hid hvl
  have HP := Lib.hid h
  have HTT := Lib.hid ht
  clear hR hK hlk hc ha hk hs ht hy h hym hyk hT hvl
  go_enter Tryz.func9, Tryz.ntmps9
  go_wp2_with fail
  refine (HR.out _ ((Below.refl _ _).alloc (Nat.le_refl _) _)).mono ?_
  rintro e w1 ⟨rfl, rfl⟩
  go_wp2_with fail
  refine (HK.out _).mono ?_
  rintro e w2 ⟨rfl, b2⟩
  have B2 := below_over b2
  have k0 := (b2.cell (p := ⟨w.heap.size, 0, none⟩) (by simp)).trans (show _ = some (.int .i64 k.kind) by simp)
  have k1 := (b2.cell (p := ⟨w.heap.size, 1, none⟩) (by simp)).trans (show _ = some (.int .i64 k.a) by simp)
  have k2 := (b2.cell (p := ⟨w.heap.size, 2, none⟩) (by simp)).trans (show _ = some (.string k.word) by simp)
  have k3 := (b2.cell (p := ⟨w.heap.size, 3, none⟩) (by simp)).trans (show _ = some (.int .i64 k.b) by simp)
  have c4 := (HC.out w2 B2).1
  have hl := fun n => HLK.out (w2.drewN n) (below_drewN' B2 n)
  have HB2 := Lib.hid B2
  clear b2 B2
  go_wp2_with fail
  go_quiet (fail)
  revert nq; intro n1
  have hB3 := below_drewN' HB2.out n1
  have HB3 := Lib.hid hB3
  clear hl k0 k1 k2 k3 c4 hB3
  go_wp2_with fail
  refine (tat_any t _ y.tb (itemsK s.vs k) y.t y.mb (HT.out _ HB3.out) (by omega)).mono ?_
  rintro e w3 ⟨v3, rfl, own3, b3⟩
  obtain ⟨ids, hids⟩ : ∃ ids, ids = atL (itemsK s.vs k) t := ⟨_, rfl⟩
  rw [← hids] at own3
  obtain ⟨ao, cap, rfl, hcs⟩ := ownsRow_intsB own3
  have hlen : ids.length < 4294967296 := by rw [hids]; omega
  have hB4 : Below w.heap.size w w3 := HB3.out.trans (b3.mono (HB3.out.size))
  have HB4 := Lib.hid hB4
  have HIDS := Lib.hid hids
  have HCS := Lib.hid hcs
  clear own3 b3 hB4 hcs hle hids
  go_wp2_with fail
  go_loopw [45] (fun i wr => ∃ j : Nat, j ≤ ids.length ∧ i = .int .i64 j ∧ Hid ((ids.take j).find? (fun id => seenB (verAt s.vs id) a) = none) ∧ Below w3.heap.size w3 wr) (fun i _ => ids.length - (intOf i).toNat)
  case atStart => exact ⟨0, by omega, rfl, (rfl : (ids.take 0).find? _ = none), Below.refl _ _⟩
  case round =>
    obtain ⟨j, hj, rfl, hfd, hBr⟩ := hrel
    have HBR := Lib.hid hBr
    have hBw : Below w.heap.size w wr := HB4.out.trans (hBr.mono HB4.out.size)
    by_cases hlt : j < ids.length
    · obtain ⟨id, hid⟩ : ∃ id, ids[j]? = some id := ⟨_, List.getElem?_eq_getElem hlt⟩
      obtain ⟨b, rfl, _, hcell⟩ := HCS.out j id hid
      have hcw := below_cell hBr (World.block_lt_of_cell? w3 _ hcell) hcell
      have hbw : b < wr.heap.size := World.block_lt_of_cell? wr _ hcw
      obtain ⟨v, hv, rfl⟩ := atK_ids HP.out.ids k t HTT.out (by rw [← HIDS.out]; exact List.mem_of_getElem? hid)
      have hva := HP.out.ids.verAt hv
      have hl := HVL.out wr hBw v hv
      unfold verV at hl
      have c3 := (HC.out wr hBw).2
      have hsn := fun W => vseen_any v a W
      unfold verV at hsn
      have HVA := Lib.hid hva
      have HID := Lib.hid hid
      have HBW := Lib.hid hBw
      clear hva hid hcell hBr hBw hv
      cases hse : seenB v a
      · rw [hse] at hsn
        have HSN := Lib.hid hsn
        have hnx := find_take_none hfd.out HID.out (by rw [HVA.out]; exact hse)
        have HNX := Lib.hid hnx
        clear hsn hse hnx
        go_wp2_with fail
        refine (HSN.out _).mono ?_
        rintro e w4 ⟨rfl, b4⟩
        have B4 := HBR.out.trans ((below_over b4).mono HBR.out.size)
        have HB5 := Lib.hid B4
        clear b4 B4 hl c3 hcw
        go_wp2_with fail
        go_roundw
        case rel => exact ⟨j + 1, by omega, by go_num, HNX, HB5.out⟩
        case measure => simp [intOf]; omega
      · rw [hse] at hsn
        have HSN := Lib.hid hsn
        have hfa := find_at hfd.out HID.out (by rw [HVA.out]; exact hse)
        have hval : valueP s.vs k a t = v.val := by unfold valueP; rw [← HIDS.out, hfa]; simp only [HVA.out]
        have HVAL := Lib.hid hval
        clear hsn hse hfa hval
        go_wp2_with fail
        refine (HSN.out _).mono ?_
        rintro e w4 ⟨rfl, b4⟩
        have v4 := (b4.cell (p := ⟨wr.heap.size, 4, none⟩) (by simp)).trans (show _ = some (.string v.val) by simp)
        have B4 := HBW.out.trans ((below_over b4).mono HBW.out.size)
        have HB5 := Lib.hid B4
        clear b4 B4 hl c3 hcw
        go_wp2_with fail
        go_ret2
        exact ⟨by rw [HVAL.out]; rfl, HB5.out⟩
    · have hfa : ids.find? (fun id => seenB (verAt s.vs id) a) = none := by
        have := hfd.out
        rw [List.take_of_length_le (by omega)] at this; exact this
      have hval : valueP s.vs k a t = ⟨#[]⟩ := by unfold valueP; rw [← HIDS.out, hfa]
      have HVAL := Lib.hid hval
      have HBW := Lib.hid hBw
      clear hfa hval hfd hBr hBw
      go_wp2_with fail
      go_ret2
      exact ⟨by rw [HVAL.out]; rfl, HBW.out⟩
/-- Value, whatever is asked. -/
theorem pvalue_any (k : KeyP) (a t : Int) (pb po : Nat) (R : Rest) (s : Pst) (g : Gh) (w : World) (h : PastAt w pb po R s g) (hs : k.word.size ≤ maxLen) (hn : s.next ≤ 4000) :
    Calls Tryz.prog 9 #[.pointer (some ⟨pb, po, none⟩), .agg #[.int .i64 k.kind, .int .i64 k.a, .string k.word, .int .i64 k.b], .int .i64 a, .int .i64 t] w fun e w' => e = .returned (valV s k a t) ∧ Below w.heap.size w w' := by
  by_cases ha : askE s a = 0
  · cases hb : keyB k && timeB t
    · rw [valV_arg ha hb]
      exact pvalue_arg k a t pb po R s g w h hs ha hb
    · simp only [Bool.and_eq_true] at hb
      rw [valV_ok ha hb.1 hb.2]
      cases hy : treeFor g.ts k with
      | some y => exact pvalue_some k a t pb po R s g y w h ha hb.1 hb.2 hn hy
      | none =>
        have e : valueP s.vs k a t = ⟨#[]⟩ := by
          have hti : itemsK s.vs k = [] := by
            cases e : itemsK s.vs k with
            | nil => rfl
            | cons z l =>
              obtain ⟨v, hv, hvk, _⟩ := mem_itemsK.1 (show z ∈ itemsK s.vs k by rw [e]; simp)
              obtain ⟨z', hz', e'⟩ := h.all v hv
              exact absurd (e'.trans hvk) (treeFor_none hy z' hz')
          have : atL (itemsK s.vs k) t = [] := by
            have := atL_length (itemsK s.vs k) t
            rw [hti] at this ⊢
            exact List.eq_nil_of_length_eq_zero (by simpa using this)
          unfold valueP; rw [this]; rfl
        rw [e]
        exact pvalue_none k a t pb po R s g w h ha hb.1 hb.2 hy
  · rw [valV_ask ha]
    exact pvalue_ask k a t pb po R s g w h ha
end Go.Proofs.YtacedfcckkpciaaGreatDoor
