/- Both bases in one world; a step of both. -/
import Derived.Deep.LoopGhost
import Derived.Deep.RegionHeld3
import Derived.Test.YtflhpmgjehjjkaaGreatDoorBaBJq
import Derived.Test.YtflhpmgjehjjkaaGreatDoorFcRJq
import Derived.Test.YtflhpmgjehjjkaaGreatDoorPsAJq
import Derived.Test.YtflhpmgjehjjkaaGreatDoorTreeRJq
import Derived.Test.YtflhpmgjehjjkaaGreatDoorPpAJq
namespace Go.Proofs.YtflhpmgjehjjkaaGreatDoor
open Go.RowKit Go.Deep Go.Shelf Go.Sort Go.Maps

/-- What stands in a base beside its past. -/
def BR (db n : Nat) (down : Bool) : Rest := ⟨[.pointer (some ⟨db, 0, none⟩)], [.int .i64 n, .bool down], 151⟩
theorem PastI.rest {w w' : World} {pb po : Nat} {R R' : Rest} {s : Pst} {g : Gh} {I : KeyP → List It} (h : PastI w pb po R s g I) (hf : Fr (· = pb) w w') (hl : R'.pre.length = po) (hb : w'.heap[pb]? = some (.cells (pcells R' s.now s.gone s.next g.am g.tm) R'.ty (0, 0))) : PastI w' pb po R' s g I :=
  ⟨hl, hb, h.ids, h.vers.frame hf (fun m e => (h.nea m e).1), h.trees.frame hf (fun m e => h.net m e), h.both, h.keys, h.keyOk,
    fun x hx => (h.tree x hx).frame hf (fun k hk => (h.ne x hx k hk).1), h.all, h.apart, h.ne, h.nea, h.net⟩
theorem PastIs.rest {w w' : World} {pb po : Nat} {R R' : Rest} {hist : List (List OpP)} {s : Pst} {g : Gh} (h : PastIs w pb po R hist s g) (hf : Fr (· = pb) w w') (hl : R'.pre.length = po) (hb : w'.heap[pb]? = some (.cells (pcells R' s.now s.gone s.next g.am g.tm) R'.ty (0, 0))) : PastIs w' pb po R' hist s g :=
  ⟨⟨h.at'.toPastI.rest hf hl hb, h.at'.tlen⟩, h.wf, h.told, h.next, h.len⟩
theorem base_cells {w : World} {bb db n : Nat} {down : Bool} {hist : List (List OpP)} {s : Pst} {g : Gh} (h : PastIs w bb 1 (BR db n down) hist s g) :
    w.cell? ⟨bb, 0, none⟩ = some (.pointer (some ⟨db, 0, none⟩)) ∧ w.cell? ⟨bb, 6, none⟩ = some (.int .i64 n) ∧ w.cell? ⟨bb, 7, none⟩ = some (.bool down) ∧ (∀ i, w.frozen? ⟨bb, i, none⟩ = false) ∧ bb < w.heap.size := by
  have hc := h.at'.toPastI.cells
  exact ⟨(block_cell hc 0).trans (by simp [pcells, BR]), (block_cell hc 6).trans (by simp [pcells, BR]), (block_cell hc 7).trans (by simp [pcells, BR]), fun i => block_free hc i, lt_of_block hc⟩
theorem base_used {w : World} {bb db n : Nat} {down : Bool} {hist : List (List OpP)} {s : Pst} {g : Gh} (h : PastIs w bb 1 (BR db n down) hist s g) : PastIs (w.setCell ⟨bb, 6, none⟩ (.int .i64 ((n + 1 : Nat) : Int))) bb 1 (BR db (n + 1) down) hist s g := by
  have hc := h.at'.toPastI.cells
  refine h.rest (Fr.setCell (F := (· = bb)) (p := ⟨bb, 6, none⟩) (Fr.refl _ w) (fun _ => rfl) _) rfl ?_
  rw [block_set hc 6]
  simp [pcells, BR]
theorem base_down {w : World} {bb db n : Nat} {down : Bool} {hist : List (List OpP)} {s : Pst} {g : Gh} (h : PastIs w bb 1 (BR db n down) hist s g) (d : Bool) : PastIs (w.setCell ⟨bb, 7, none⟩ (.bool d)) bb 1 (BR db n d) hist s g := by
  have hc := h.at'.toPastI.cells
  refine h.rest (Fr.setCell (F := (· = bb)) (p := ⟨bb, 7, none⟩) (Fr.refl _ w) (fun _ => rfl) _) rfl ?_
  rw [block_set hc 7]
  simp [pcells, BR]
theorem entT_len {s s' : List (List OpP) × Nat} {e : Ent} (h : stepE s e = some s') (hs : s.1.length ≤ 150) : (entT e).length ≤ 10000 := by
  cases e with
  | tx l =>
    simp only [stepE] at h
    split at h
    · rename_i h1
      obtain ⟨⟨_, h2⟩, h3⟩ := okL_iff.1 h1.1
      have hj := join_len [43] 500 (l.map opT) (fun p hp => by
        obtain ⟨o, ho, rfl⟩ := List.mem_map.1 hp
        exact opT_len (List.all_eq_true.1 h3 o ho))
      show (writeT l).length ≤ 10000
      unfold writeT
      simp only [List.length_map, List.length_cons, List.length_nil] at *
      omega
    · cases h
  | fo n =>
    simp only [stepE] at h
    split at h
    · rename_i h1
      have := Lib.itoa_length_le (n : Int) (by omega) (by omega)
      show (102 :: 32 :: Lib.itoa n).length ≤ 10000
      simp only [List.length_cons]
      omega
    · cases h
set_option maxRecDepth 100000 in
set_option maxHeartbeats 4000000 in
theorem bplays_ok {bb db n : Nat} {down : Bool} {hist hist' : List (List OpP)} {known known' : Nat} {s : Pst} {g : Gh} (e : Ent) (w : World) (h : PastIs w bb 1 (BR db n down) hist s g) (hk : s.gone = known) (hs : stepE (hist, known) e = some (hist', known')) (hp : PowTab w) (hv : NumVars w) :
    Calls Tryz.prog 70 #[.pointer (some ⟨bb, 0, none⟩), .string ⟨(entT e).toArray⟩] w fun x w' => ∃ s' g', x = .returned (.bool true) ∧ PastIs w' bb 1 (BR db n down) hist' s' g' ∧ s'.gone = known' ∧ Fr (g.foot bb) w w' ∧ Grows g g' bb w := by
  have hlen := entT_len hs h.len
  obtain ⟨c0, c6, c7, hf, hbl⟩ := base_cells h
  have hnow := h.now
  have H := Lib.hid h
  have HP := Lib.hid hp
  have HV := Lib.hid hv
  clear h hp hv
  cases e with
  | tx l =>
    simp only [stepE] at hs
    split at hs
    · rename_i h1
      cases hs
      obtain ⟨hok, h150⟩ := h1
      obtain ⟨ch, r, hw1, hw2⟩ := writeT_first hok
      have hpre : Lib.hasPrefix (writeT l) [102, 32] = false := by
        rw [hw1]
        have h2 : ((102 : UInt8) == ch) = false := by simpa using fun e => hw2 e.symm
        show ((102 : UInt8) == ch && _) = false
        rw [h2]; rfl
      have htl : (writeT l).length ≤ 10000 := hlen
      obtain ⟨S, hS⟩ : ∃ S : ByteArray, S = ⟨(writeT l).toArray⟩ := ⟨_, rfl⟩
      have hSl : S.data.toList = writeT l := by rw [hS]
      have hSs : S.size ≤ 100000 := by rw [hS]; simpa [ByteArray.size] using Nat.le_trans htl (by omega)
      have hC := Tryz.strings_CutPrefix S ⟨#[102, 32]⟩ w
      rw [hSl, show (⟨#[102, 32]⟩ : ByteArray).data.toList = [102, 32] from rfl, hpre] at hC
      have hR := fread_full S w hSs HP.out HV.out
      have hrd : readF S.data.toList = some l := by rw [hSl]; exact (readF_iff _ _).2 ((okT_iff _ _).2 ⟨(okL_iff.1 hok).1, (okL_iff.1 hok).2, rfl⟩)
      rw [hrd] at hR
      have hCM := fun (X : World) (ao : Option Addr) (c : Nat) (hX : Below w.heap.size w X) (hl : opsAt X ao l) (hb : ∀ b f, ao = some ⟨b, f, none⟩ → w.heap.size ≤ b) => commit_is ao c l bb 1 _ hist s g X (H.out.below hX) hl (fun b f e hf => by have h1 := hb b f e; have h2 := H.out.at'.lt b hf; omega) (HP.out.below hX) hok h150
      rw [show entT (.tx l) = writeT l from rfl, ← hS]
      have HC := Lib.hid hC
      have HR := Lib.hid hR
      have HCM := Lib.hid hCM
      have HK := Lib.hid hk
      clear hC hR hCM hk hrd hSs hSl hS hpre hw1 hw2 hlen htl hnow
      generalize Lib.trimPrefix (writeT l) [102, 32] = tp at *
      go_enter Tryz.func70, Tryz.ntmps70
      go_wp2_with (first
        | (go_at_call 122; (with_reducible refine HC.out.mono ?_); rintro e w1 ⟨rfl, rfl⟩)
        | (go_at_call 124; (with_reducible refine HR.out.mono ?_); rintro e w2 ⟨hx, b2⟩; rcases hx with ⟨L, ao, cp, rfl, hL, hops, hblk⟩ | ⟨_, hL⟩; rotate_left; (exact absurd hL (by simp)); obtain rfl : l = L := Option.some.inj hL; have HB2 := Lib.hid b2; have HO := Lib.hid hops; have HBK := Lib.hid hblk; clear b2 hops hblk hL)
        | (go_at_call 9; (with_reducible refine (HCM.out _ _ _ HB2.out HO.out HBK.out).mono ?_); rintro e w3 ⟨s', g', rfl, hp3, hg3, hf3, hG3⟩; have H3 := Lib.hid hp3; have HG3 := Lib.hid hg3; have HF3 := Lib.hid hf3; have HGr := Lib.hid hG3; clear hp3 hg3 hf3 hG3))
      go_ret
      exact ⟨s', g', rfl, H3.out, HG3.out.trans HK.out, (Fr.new (F := g.foot bb) HB2.out).trans HF3.out, fun k hk => by
        rcases HGr.out k hk with e | e
        · exact .inl e
        · exact .inr (Nat.le_trans HB2.out.size e)⟩
    · cases hs
  | fo m =>
    simp only [stepE] at hs
    split at hs
    · rename_i h1
      injection hs with hs
      injection hs with hs1 hs2
      subst hs1
      subst hs2
      obtain ⟨h1, h2⟩ := h1
      change known ≤ m at h1
      change m ≤ hist.length at h2
      obtain ⟨S, hS⟩ : ∃ S : ByteArray, S = ⟨(102 :: 32 :: Lib.itoa m).toArray⟩ := ⟨_, rfl⟩
      have hSl : S.data.toList = 102 :: 32 :: Lib.itoa m := by rw [hS]
      have hC := Tryz.strings_CutPrefix S ⟨#[102, 32]⟩ w
      rw [hSl, show (⟨#[102, 32]⟩ : ByteArray).data.toList = [102, 32] from rfl, show Lib.hasPrefix (102 :: 32 :: Lib.itoa m) [102, 32] = true from rfl, show Lib.trimPrefix (102 :: 32 :: Lib.itoa m) [102, 32] = Lib.itoa m from rfl] at hC
      have hl := H.out.len
      have hil := Lib.itoa_length_le (m : Int) (by omega) (by omega)
      obtain ⟨I, hI⟩ : ∃ I : ByteArray, I = ⟨(Lib.itoa m).toArray⟩ := ⟨_, rfl⟩
      have hIl : I.data.toList = Lib.itoa m := by rw [hI]
      have hA := atoi_any I w (by rw [hI]; simpa [ByteArray.size] using Nat.le_trans hil (by omega)) HV.out
      have hnum : num? I.data.toList = some (m : Int) := by rw [hIl]; unfold num?; rw [atoi_itoa m (by omega) (by omega)]
      rw [hnum] at hA
      have hF := fun (X : World) (hX : Below w.heap.size w X) => forget_is (m : Int) bb 1 _ hist s g X (H.out.below hX) (by omega) (by omega)
      rw [show entT (.fo m) = 102 :: 32 :: Lib.itoa m from rfl, ← hS]
      rw [← hI] at hC
      have HC := Lib.hid hC
      have HA := Lib.hid hA
      have HF := Lib.hid hF
      clear hC hA hF hk hlen hnow hnum hIl hI hSl hS hil hl h1 h2
      go_enter Tryz.func70, Tryz.ntmps70
      go_wp2_with (first
        | (go_at_call 122; (with_reducible refine HC.out.mono ?_); rintro e w1 ⟨rfl, rfl⟩)
        | (go_at_call 123; (with_reducible refine HA.out.mono ?_); rintro e w2 ⟨⟨v, er, rfl, hx⟩, b2⟩; rcases hx with ⟨hv, rfl⟩ | ⟨hv, _⟩; rotate_left; (exact absurd hv (by simp)); obtain rfl : (m : Int) = v := Option.some.inj hv; have HB2 := Lib.hid b2; clear b2 hv)
        | (go_at_call 81; (with_reducible refine (HF.out _ HB2.out).mono ?_); rintro e w3 ⟨s', g', rfl, hp3, hg3, hf3, hG3⟩; have H3 := Lib.hid hp3; have HG3 := Lib.hid hg3; have HF3 := Lib.hid hf3; have HGr := Lib.hid hG3; clear hp3 hg3 hf3 hG3))
      go_ret
      exact ⟨s', g', rfl, H3.out, HG3.out, (Fr.new (F := g.foot bb) HB2.out).trans HF3.out, fun k hk => by
        rcases HGr.out k hk with e | e
        · exact .inl e
        · exact .inr (Nat.le_trans HB2.out.size e)⟩
    · cases hs
end Go.Proofs.YtflhpmgjehjjkaaGreatDoor

namespace Go.Proofs.YtflhpmgjehjjkaaGreatDoor
open Go.RowKit Go.Deep Go.Shelf Go.Sort Go.Maps

/-- What a disk's places say. -/
structure Says (D : List ByteArray) (log : List Ent) : Prop where
  ll : log.length ≤ 150
  small : ∀ x ∈ D, x.size ≤ 70000
  said : ∀ (j : Nat) e, log[j]? = some e → D[j]? = some ⟨(sealT j (entT e)).toArray⟩
  none' : ∀ (j : Nat) x, log.length ≤ j → D[j]? = some x → openT j x.data.toList = none
theorem sealT_len (k : Int) (hk : 0 ≤ k ∧ k < 1000) (s : List UInt8) (hs : s.length ≤ 50000) : (sealT k s).length ≤ 60000 := by
  have h1 := Lib.itoa_length_le k (by omega) (by omega)
  have h2 := sumR_rng (headT k s)
  have h3 := Lib.itoa_length_le (sumR (headT k s)) (by omega) (by omega)
  unfold sealT
  simp only [List.length_append, List.length_cons]
  unfold headT at *
  simp only [List.length_append, List.length_cons]
  omega
theorem Says.torn {D : List ByteArray} {log : List Ent} (h : Says D log) {s : List UInt8} (hs : (124 : UInt8) ∉ s) (hl : s.length ≤ 50000) (hlog : log.length < 150) {t u : List UInt8} (e : t ++ u = sealT log.length s) (hu : u ≠ []) : Says (D.set log.length ⟨t.toArray⟩) log := by
  have hle := sealT_len log.length (by omega) s hl
  have htl : t.length ≤ 60000 := by
    have := congrArg List.length e
    rw [List.length_append] at this
    omega
  refine ⟨h.ll, fun x hx => ?_, fun j en hj => ?_, fun j x hj hx => ?_⟩
  · rcases List.mem_or_eq_of_mem_set hx with hx | rfl
    · exact h.small x hx
    · simpa [ByteArray.size] using Nat.le_trans htl (by omega)
  · have hlt : j < log.length := (List.getElem?_eq_some_iff.1 hj).1
    rw [List.getElem?_set_ne (by omega)]
    exact h.said j en hj
  · by_cases hjl : log.length = j
    · subst hjl
      rw [List.getElem?_set_self'] at hx
      cases hd : D[log.length]? with
      | none => rw [hd] at hx; cases hx
      | some y =>
        rw [hd] at hx
        cases hx
        exact open_torn hs e hu
    · rw [List.getElem?_set_ne hjl] at hx
      exact h.none' j x hj hx
theorem Says.more {D : List ByteArray} {log : List Ent} (h : Says D log) {e : Ent} (hl : (entT e).length ≤ 50000) (hlog : log.length < 150) (hd : D.length = 150) : Says (D.set log.length ⟨(sealT log.length (entT e)).toArray⟩) (log ++ [e]) := by
  have hle := sealT_len log.length (by omega) (entT e) hl
  refine ⟨by rw [List.length_append, List.length_singleton]; omega, fun x hx => ?_, fun j en hj => ?_, fun j x hj hx => ?_⟩
  · rcases List.mem_or_eq_of_mem_set hx with hx | rfl
    · exact h.small x hx
    · simpa [ByteArray.size] using Nat.le_trans hle (by omega)
  · have hlt : j < (log ++ [e]).length := (List.getElem?_eq_some_iff.1 hj).1
    rw [List.length_append, List.length_singleton] at hlt
    by_cases hjl : log.length = j
    · subst hjl
      rw [List.getElem?_append_right (Nat.le_refl _), Nat.sub_self] at hj
      cases hj
      rw [List.getElem?_set_self (by omega)]
    · rw [List.getElem?_set_ne hjl]
      rw [List.getElem?_append_left (by omega)] at hj
      exact h.said j en hj
  · rw [List.length_append, List.length_singleton] at hj
    rw [List.getElem?_set_ne (by omega)] at hx
    exact h.none' j x (by omega) hx
theorem Says.empty : Says (List.replicate 150 ⟨#[]⟩) [] :=
  ⟨Nat.zero_le _, fun x hx => by rw [List.eq_of_mem_replicate hx]; exact Nat.zero_le _, fun j e h => by simp at h, fun j x _ hx => by
    have := List.mem_of_getElem? hx
    rw [List.eq_of_mem_replicate this]
    exact open_empty _⟩
/-- A base on its way through the places. -/
structure Op1 (w : World) (db bb : Nat) (log : List Ent) (i : Nat) (hi : List (List OpP)) (ki : Nat) (s : Pst) (g : Gh) (X : World) : Prop where
  le : i ≤ log.length
  pl : playE (log.take i) = some (hi, ki)
  p : PastIs X bb 1 (BR db i false) hi s g
  k : s.gone = ki
  new : ∀ k, g.foot bb k → w.heap.size ≤ k
  be : Below w.heap.size w X
set_option maxRecDepth 100000 in
set_option maxHeartbeats 4000000 in
theorem bopen_any {db : Nat} {D : List ByteArray} {cut : Bool} {left : Int} {log : List Ent} {hist : List (List OpP)} {known : Nat} (w : World) (h : BD w db D cut left) (hs : Says D log) (hpl : playE log = some (hist, known)) (hp : PowTab w) (hv : NumVars w) :
    Calls Tryz.prog 33 #[.pointer (some ⟨db, 0, none⟩)] w fun x w' => ∃ bb s g, x = .returned (.tuple #[.pointer (some ⟨bb, 0, none⟩), .nilIface]) ∧ PastIs w' bb 1 (BR db log.length false) hist s g ∧ s.gone = known ∧ (∀ k, g.foot bb k → w.heap.size ≤ k) ∧ Below w.heap.size w w' := by
  obtain ⟨W, hW⟩ : ∃ W, W = w.alloc (.cells #[.pointer (some ⟨db, 0, none⟩), .int .i64 0, .int .i64 0, .int .i64 0, .map none, .map none, .int .i64 0, .bool false] 151) := ⟨_, rfl⟩
  obtain ⟨bb, hbb⟩ : ∃ bb, bb = w.heap.size := ⟨_, rfl⟩
  have hBW : Below w.heap.size w W := by rw [hW]; exact (Below.refl _ _).alloc (Nat.le_refl _) _
  have hblk : W.heap[bb]? = some (.cells #[.pointer (some ⟨db, 0, none⟩), .int .i64 0, .int .i64 0, .int .i64 0, .map none, .map none, .int .i64 0, .bool false] 151 (0, 0)) := by rw [hW, hbb]; exact block_alloc_new _ _
  have h0 : Op1 w db bb log 0 [] 0 ⟨0, 0, 0, []⟩ noGh W := ⟨Nat.zero_le _, rfl, past_is_new rfl hblk, rfl, fun k hk => by rw [foot_new hk, hbb]; exact Nat.le_refl _, hBW⟩
  have HW := Lib.hid hW
  have HBB := Lib.hid hbb
  have H0 := Lib.hid h0
  have HD := Lib.hid h
  have HS := Lib.hid hs
  have HPL := Lib.hid hpl
  have HP := Lib.hid hp
  have HV := Lib.hid hv
  have hdl := h.lt
  clear hW hbb h0 hBW hblk h hs hpl hp hv
  go_enter Tryz.func33, Tryz.ntmps33
  go_wp2_with fail
  rw [← HW.out, ← HBB.out]
  go_loopg [5] (log.length + 1) (fun gh v X => ∃ (i : Nat) (hi : List (List OpP)) (ki : Nat) (s : Pst) (g : Gh), log.length + 1 - i ≤ gh ∧ Op1 w db bb log i hi ki s g X)
  case atStart => exact ⟨0, _, _, _, _, Nat.le_refl _, H0.out⟩
  case round =>
    obtain ⟨i, hi, ki, s, g, hgh, hO⟩ := hrel
    have hdx : BD wr db D cut left := HD.out.frame (F := fun k => w.heap.size ≤ k) (Fr.ofBelow hO.be) (by omega)
    have hpw := HP.out.below hO.be
    have hnv := HV.out.below hO.be
    obtain ⟨c0, c6, c7, hfz, hbl⟩ := base_cells hO.p
    have hf6 := hfz 6
    have hll := HS.out.ll
    have hle := hO.le
    have hdl2 := hdx.lt
    have HO := Lib.hid hO
    have j0 : (0 : Int) ≤ (i : Int) := by omega
    have q6 := fun X : InC (Bel wr) => X.cell c6
    have HPW := Lib.hid hpw
    have HNV := Lib.hid hnv
    by_cases hlt : i < log.length
    · obtain ⟨e, he⟩ : ∃ e, log[i]? = some e := ⟨_, List.getElem?_eq_getElem hlt⟩
      have d0 := hdx.place (HS.out.said i e he)
      obtain ⟨⟨h', k'⟩, hst, hpl'⟩ := playE_next HPL.out he hO.pl
      have hbar := entT_bar hst
      obtain ⟨S, hS⟩ : ∃ S : ByteArray, S = ⟨(sealT i (entT e)).toArray⟩ := ⟨_, rfl⟩
      obtain ⟨E, hE⟩ : ∃ E : ByteArray, E = ⟨(entT e).toArray⟩ := ⟨_, rfl⟩
      have hop : openT i S.data.toList = some (entT e) := by rw [hS]; exact open_seal hbar
      have hSs : S.size ≤ 70000 := HS.out.small S (by rw [hS]; exact List.mem_of_getElem? (HS.out.said i e he))
      rw [← hS] at d0
      have hC1 := fun (X : InC (Bel wr)) => bopened_some i (by omega) S X.w (by omega) (hpw.below X.ok) (hnv.below X.ok) hop
      rw [← hE] at hC1
      have hC2 := fun (X : InC (Bel wr)) => bplays_ok e X.w (hO.p.below X.ok) hO.k hst (hpw.below X.ok) (hnv.below X.ok)
      rw [← hE] at hC2
      have p0 := fun X : InC (Bel wr) => X.cell d0
      have C1 := Lib.hid hC1
      have C2 := Lib.hid hC2
      have HPN := Lib.hid hpl'
      have j1 : (i : Int) < 150 := by omega
      clear hC1 hC2 hop hSs hbar hst hpl' he hS hE d0 hdx hO hpw hnv
      go_wp2_with fail
      refine wp_region_in (S := Bel wr) (by kernel_rfl) (by kernel_rfl) (bel_drew (Below.refl _ wr)) (fun hne => ?_)
      repeat (go_big_quiet_step ((go_at_call 69; exact InC.call (C1.out _))))
      refine wpQuiet_nil ?_
      rintro _ ⟨X, rfl⟩
      go_wp2_with (go_at_call 70; (with_reducible refine (C2.out X).mono ?_); rintro e w3 ⟨s', g', rfl, hp3, hg3, hf3, hG3⟩; obtain ⟨c0', c6', c7', hfz', hbl'⟩ := base_cells hp3; have hf6' := hfz' 6; have H3 := Lib.hid hp3; have HG3 := Lib.hid hg3; have HF3 := Lib.hid hf3; have HGr := Lib.hid hG3; clear hp3 hg3 hf3 hG3 hfz' c7' c0')
      go_roundg (log.length + 1 - (i + 1))
      case measure => omega
      case rel =>
        have hu := base_used H3.out
        rw [show ((i + 1 : Nat) : Int) = (i : Int) + 1 by omega] at hu
        have hx3 : Below w.heap.size w w3 := (HO.out.be.trans (X.ok.mono HO.out.be.size)).trans (HF3.out.below (fun k _ hk => HO.out.new k hk) (Nat.le_trans HO.out.be.size X.ok.size))
        refine ⟨i + 1, h', k', s', g', Nat.le_refl _, by omega, HPN.out, hu, HG3.out, fun k hk => ?_, hx3.setCell (p := ⟨bb, 6, none⟩) (HO.out.new bb (.inl rfl)) _⟩
        rcases HGr.out k hk with e | e
        · exact HO.out.new k e
        · exact Nat.le_trans (Nat.le_trans HO.out.be.size X.ok.size) e
    · obtain rfl : i = log.length := by omega
      by_cases h150 : log.length < 150
      · obtain ⟨x, hx⟩ : ∃ x, D[log.length]? = some x := ⟨_, List.getElem?_eq_getElem (by rw [hdx.len]; exact h150)⟩
        have d0 := hdx.place hx
        have hop := HS.out.none' log.length x (Nat.le_refl _) hx
        have hSs := HS.out.small x (List.mem_of_getElem? hx)
        have hC1 := fun (X : InC (Bel wr)) => bopened_none log.length (by omega) x X.w (by omega) (hpw.below X.ok) (hnv.below X.ok) hop
        have p0 := fun X : InC (Bel wr) => X.cell d0
        have C1 := Lib.hid hC1
        have j1 : (log.length : Int) < 150 := by omega
        clear hC1 hop hSs d0 hdx hO hx hpw hnv
        go_wp2_with fail
        refine wp_region_in (S := Bel wr) (by kernel_rfl) (by kernel_rfl) (bel_drew (Below.refl _ wr)) (fun hne => ?_)
        repeat (go_big_quiet_step ((go_at_call 69; exact InC.call (C1.out _))))
        refine wpQuiet_nil ?_
        rintro _ ⟨X, rfl⟩
        go_wp2_with fail
        go_ret2
        have hpl2 := HO.out.pl
        rw [List.take_of_length_le (Nat.le_refl _), HPL.out] at hpl2
        cases hpl2
        exact ⟨bb, s, g, rfl, HO.out.p.below X.ok, HO.out.k, HO.out.new, HO.out.be.trans (X.ok.mono HO.out.be.size)⟩
      · have j1 : ¬ (log.length : Int) < 150 := by omega
        go_wp2_with fail
        go_ret2
        have hpl2 := HO.out.pl
        rw [List.take_of_length_le (Nat.le_refl _), HPL.out] at hpl2
        cases hpl2
        exact ⟨bb, rfl, s, g, HO.out.p, HO.out.k, HO.out.new, HO.out.be⟩
end Go.Proofs.YtflhpmgjehjjkaaGreatDoor

namespace Go.Proofs.YtflhpmgjehjjkaaGreatDoor
open Go.RowKit Go.Deep Go.Shelf Go.Sort Go.Maps

/-- A base, and its disk. -/
structure BI (X : World) (bb db : Nat) (D : List ByteArray) (cut : Bool) (left : Int) (log : List Ent) (down : Bool) (hist : List (List OpP)) (known : Nat) (s : Pst) (g : Gh) : Prop where
  pl : playE log = some (hist, known)
  says : Says D log
  dk : BD X db D cut left
  p : PastIs X bb 1 (BR db log.length down) hist s g
  k : s.gone = known
  nf : ¬ g.foot bb db
  lr : cut = true → 0 ≤ left ∧ left ≤ 9223372036854775807
section
variable {X Y : World} {bb db : Nat} {D : List ByteArray} {cut : Bool} {left : Int} {log : List Ent} {down : Bool} {hist : List (List OpP)} {known : Nat} {s : Pst} {g : Gh}
theorem BI.frame {F : Nat → Prop} (h : BI X bb db D cut left log down hist known s g) (hf : Fr F X Y) (h1 : ∀ k, g.foot bb k → ¬ F k) (h2 : ¬ F db) : BI Y bb db D cut left log down hist known s g :=
  ⟨h.pl, h.says, h.dk.frame hf h2, h.p.frame hf h1, h.k, h.nf, h.lr⟩
theorem BI.below (h : BI X bb db D cut left log down hist known s g) (hb : Below X.heap.size X Y) : BI Y bb db D cut left log down hist known s g :=
  h.frame (F := fun _ => False) (Fr.new hb) (fun _ _ e => e) (fun e => e)
theorem BI.ne (h : BI X bb db D cut left log down hist known s g) : bb ≠ db := fun e => h.nf (.inl e.symm)
end
def roomE (down : Bool) (used : Nat) : Int := if down = true then 6 else if 150 ≤ used then 4 else 0
set_option maxRecDepth 100000 in
set_option maxHeartbeats 2000000 in
theorem broom_any {bb db n : Nat} {down : Bool} {hist : List (List OpP)} {s : Pst} {g : Gh} (w : World) (h : PastIs w bb 1 (BR db n down) hist s g) (hn : n ≤ 150) :
    Calls Tryz.prog 71 #[.pointer (some ⟨bb, 0, none⟩)] w fun e w' => e = .returned (errN (roomE down n)) ∧ w = w' := by
  obtain ⟨c0, c6, c7, hfz, hbl⟩ := base_cells h
  clear h hfz
  cases down with
  | true =>
    have hE : errN (roomE true n) = errV 6 := by unfold roomE; rw [if_pos rfl]; exact errN_of (by decide)
    unfold errV at hE
    have HE := Lib.hid hE
    clear hE
    go_enter Tryz.func71, Tryz.ntmps71
    go_wp2_with fail
    go_ret
    exact ⟨by rw [HE.out]; rfl, rfl⟩
  | false =>
    by_cases h150 : 150 ≤ n
    · obtain rfl : n = 150 := by omega
      have hE : errN (roomE false 150) = errV 4 := by unfold roomE; rw [if_neg (by decide), if_pos (Nat.le_refl _)]; exact errN_of (by decide)
      unfold errV at hE
      have HE := Lib.hid hE
      clear hE h150
      go_enter Tryz.func71, Tryz.ntmps71
      go_wp2_with fail
      go_ret
      exact ⟨by rw [HE.out]; rfl, rfl⟩
    · have hE : errN (roomE false n) = .nilIface := by unfold roomE; rw [if_neg (by decide), if_neg h150]; rfl
      have HE := Lib.hid hE
      have j1 : ¬ (n : Int) ≥ 150 := by omega
      clear hE h150
      go_enter Tryz.func71, Tryz.ntmps71
      go_wp2_with fail
      go_ret
      exact ⟨by rw [HE.out]; rfl, rfl⟩
set_option maxRecDepth 100000 in
set_option maxHeartbeats 4000000 in
theorem badd_ok {bb db : Nat} {D : List ByteArray} {cut : Bool} {left : Int} {log : List Ent} {down : Bool} {hist : List (List OpP)} {known : Nat} {s : Pst} {g : Gh} (E : List UInt8) (torn : Int) (w : World) (h : BI w bb db D cut left log down hist known s g) (hl : E.length ≤ 10000) (hlog : log.length < 150) (ho : cut = true → left ≠ 0) (hp : PowTab w) :
    Calls Tryz.prog 72 #[.pointer (some ⟨bb, 0, none⟩), .string ⟨E.toArray⟩, .int .i64 torn] w fun x w' => x = .returned .nilIface ∧ (∃ l2, BD w' db (D.set log.length ⟨(sealT log.length E).toArray⟩) cut l2 ∧ (cut = true → l2 = left - 1)) ∧ PastIs w' bb 1 (BR db (log.length + 1) down) hist s g ∧ Fr (fun k => k = bb ∨ k = db) w w' := by
  obtain ⟨c0, c6, c7, hfz, hbl⟩ := base_cells h.p
  have hf6 := hfz 6
  obtain ⟨S, hS⟩ : ∃ S : ByteArray, S = ⟨E.toArray⟩ := ⟨_, rfl⟩
  have hSl : S.data.toList = E := by rw [hS]
  have hSs : S.size ≤ 90000 := by rw [hS]; simpa [ByteArray.size] using Nat.le_trans hl (by omega)
  have hC1 := fun (X : World) (hX : Below w.heap.size w X) => bsealed_any log.length (by omega) S X hSs (hp.below hX)
  rw [hSl] at hC1
  obtain ⟨T, hT⟩ : ∃ T : ByteArray, T = ⟨(sealT log.length E).toArray⟩ := ⟨_, rfl⟩
  rw [← hT] at hC1 ⊢
  rw [← hS]
  have hC2 := fun (X : World) (hX : Below w.heap.size w X) => bwrite_ok log.length hlog T torn X (h.dk.below hX) (fun hc => ⟨by have := h.lr hc; have := ho hc; omega, (h.lr hc).2⟩)
  have hne := h.ne
  have H := Lib.hid h
  have C1 := Lib.hid hC1
  have C2 := Lib.hid hC2
  clear hC1 hC2 hS hSl hSs hT h hp hfz c7 ho
  go_enter Tryz.func72, Tryz.ntmps72
  go_wp2_with fail
  go_region_held3 (fun X => X.cell? ⟨bb, 0, none⟩ = some (.pointer (some ⟨db, 0, none⟩)) ∧ X.cell? ⟨bb, 6, none⟩ = some (.int .i64 log.length))
    (first | exact ⟨c0, c6⟩ | exact hS2 | exact hS1)
    (first
      | (go_at_call 121; (with_reducible refine (C1.out _ (Below.refl _ _).drew).mono ?_); rintro e x1 ⟨rfl, b1⟩; have hB1 := Lib.hid ((Below.refl w.heap.size w).drew.trans b1); have hS1 := And.intro (below_cell b1 hbl c0) (below_cell b1 hbl c6); have hx1 := Nat.lt_of_lt_of_le hbl b1.size; clear b1)
      | (go_at_call 125; (with_reducible refine (C2.out x1 hB1.out).mono ?_); rintro e x2 ⟨rfl, hbd, hf⟩; have HBD := Lib.hid hbd; have HF2 := Lib.hid hf; have hS2 := And.intro ((World.cell?_of_block (a := ⟨bb, 0, none⟩) (hf.block bb hx1 hne)).trans hS1.1) ((World.cell?_of_block (a := ⟨bb, 6, none⟩) (hf.block bb hx1 hne)).trans hS1.2); clear hbd hf))
  have hF : Fr (fun k => k = db) w x2 := (Fr.new hB1.out).trans HF2.out
  have hp2 := H.out.p.frame hF (fun k hk e => H.out.nf (e ▸ hk))
  obtain ⟨d0, d6, d7, dfz, dbl⟩ := base_cells hp2
  have df6 := dfz 6
  have HP2 := Lib.hid hp2
  have HFF := Lib.hid hF
  have hu := base_used hp2
  rw [show ((log.length + 1 : Nat) : Int) = (log.length : Int) + 1 by omega] at hu
  have HU := Lib.hid hu
  have j1 : (log.length : Int) < 150 := by omega
  clear hp2 hF hS2 hS1 hu dfz
  go_wp2_with fail
  go_ret
  obtain ⟨l2, hb, hl2⟩ := HBD.out
  have hf3 := Fr.setCell (F := fun k => k = bb) (p := ⟨bb, 6, none⟩) (Fr.refl _ x2) (fun _ => rfl) (.int .i64 ((log.length : Int) + 1))
  exact ⟨rfl, ⟨l2, hb.frame hf3 (fun e => hne e.symm), hl2⟩, HU.out, (HFF.out.mono fun _ _ e => .inr e).next hf3 fun _ _ e => .inl e⟩
set_option maxRecDepth 100000 in
set_option maxHeartbeats 4000000 in
theorem badd_off {bb db : Nat} {D : List ByteArray} {log : List Ent} {down : Bool} {hist : List (List OpP)} {known : Nat} {s : Pst} {g : Gh} (E : List UInt8) (torn : Int) (w : World) (h : BI w bb db D true 0 log down hist known s g) (hl : E.length ≤ 10000) (hE : (124 : UInt8) ∉ E) (hlog : log.length < 150) (ht : i64 torn) (hp : PowTab w) :
    Calls Tryz.prog 72 #[.pointer (some ⟨bb, 0, none⟩), .string ⟨E.toArray⟩, .int .i64 torn] w fun x w' => x = .returned (errV 14) ∧ (∃ D', BD w' db D' true 0 ∧ Says D' log) ∧ PastIs w' bb 1 (BR db log.length true) hist s g ∧ Fr (fun k => k = bb ∨ k = db) w w' := by
  obtain ⟨c0, c6, c7, hfz, hbl⟩ := base_cells h.p
  have hf7 := hfz 7
  obtain ⟨S, hS⟩ : ∃ S : ByteArray, S = ⟨E.toArray⟩ := ⟨_, rfl⟩
  have hSl : S.data.toList = E := by rw [hS]
  have hSs : S.size ≤ 90000 := by rw [hS]; simpa [ByteArray.size] using Nat.le_trans hl (by omega)
  have hC1 := fun (X : World) (hX : Below w.heap.size w X) => bsealed_any log.length (by omega) S X hSs (hp.below hX)
  rw [hSl] at hC1
  obtain ⟨T, hT⟩ : ∃ T : ByteArray, T = ⟨(sealT log.length E).toArray⟩ := ⟨_, rfl⟩
  have hTl : T.data.toList = sealT log.length E := by rw [hT]
  have hTs : 1 ≤ T.size ∧ T.size ≤ 100000 := by
    have h1 := sealT_len log.length (by omega) E (by omega)
    rw [← hTl, size_toList] at h1
    refine ⟨?_, by omega⟩
    rw [← size_toList, hTl]
    unfold sealT
    simp only [List.length_append, List.length_cons]
    omega
  rw [← hT] at hC1
  rw [← hS]
  have hC2 := fun (X : World) (hX : Below w.heap.size w X) => bwrite_off log.length hlog T torn X (h.dk.below hX) hTs ht
  have hne := h.ne
  have H := Lib.hid h
  have C1 := Lib.hid hC1
  have C2 := Lib.hid hC2
  have HTL := Lib.hid hTl
  have HEE := Lib.hid hE
  clear hC1 hC2 hS hSl hSs hT h hp hfz c7 ht hTl hTs hE
  unfold errV at C2 ⊢
  go_enter Tryz.func72, Tryz.ntmps72
  go_wp2_with fail
  go_region_held3 (fun X => X.cell? ⟨bb, 0, none⟩ = some (.pointer (some ⟨db, 0, none⟩)) ∧ X.cell? ⟨bb, 6, none⟩ = some (.int .i64 log.length))
    (first | exact ⟨c0, c6⟩ | exact hS2 | exact hS1)
    (first
      | (go_at_call 121; (with_reducible refine (C1.out _ (Below.refl _ _).drew).mono ?_); rintro e x1 ⟨rfl, b1⟩; have hB1 := Lib.hid ((Below.refl w.heap.size w).drew.trans b1); have hS1 := And.intro (below_cell b1 hbl c0) (below_cell b1 hbl c6); have hx1 := Nat.lt_of_lt_of_le hbl b1.size; clear b1)
      | (go_at_call 125; (with_reducible refine (C2.out x1 hB1.out).mono ?_); rintro e x2 ⟨rfl, hbd, hf⟩; have HBD := Lib.hid hbd; have HF2 := Lib.hid hf; have hS2 := And.intro ((World.cell?_of_block (a := ⟨bb, 0, none⟩) (hf.block bb hx1 hne)).trans hS1.1) ((World.cell?_of_block (a := ⟨bb, 6, none⟩) (hf.block bb hx1 hne)).trans hS1.2); clear hbd hf))
  have hF : Fr (fun k => k = db) w x2 := (Fr.new hB1.out).trans HF2.out
  have hp2 := H.out.p.frame hF (fun k hk e => H.out.nf (e ▸ hk))
  obtain ⟨d0, d6, d7, dfz, dbl⟩ := base_cells hp2
  have df7 := dfz 7
  have HFF := Lib.hid hF
  have HU := Lib.hid (base_down hp2 true)
  clear hp2 hF hS2 hS1 dfz
  go_wp2_with fail
  go_ret
  have hf3 := Fr.setCell (F := fun k => k = bb) (p := ⟨bb, 7, none⟩) (Fr.refl _ x2) (fun _ => rfl) (.bool true)
  have hfr : Fr (fun k => k = bb ∨ k = db) w (x2.setCell ⟨bb, 7, none⟩ (.bool true)) := (HFF.out.mono fun _ _ e => .inr e).next hf3 fun _ _ e => .inl e
  rcases HBD.out with hb | ⟨t, u, hb, htu, hu⟩
  · exact ⟨rfl, ⟨D, hb.frame hf3 (fun e => hne e.symm), H.out.says⟩, HU.out, hfr⟩
  · exact ⟨rfl, ⟨_, hb.frame hf3 (fun e => hne e.symm), H.out.says.torn HEE.out (by omega) hlog (by rw [htu, HTL.out]) hu⟩, HU.out, hfr⟩
end Go.Proofs.YtflhpmgjehjjkaaGreatDoor

namespace Go.Proofs.YtflhpmgjehjjkaaGreatDoor
open Go.RowKit Go.Deep Go.Shelf Go.Sort Go.Maps

def offB (cut : Bool) (left : Int) : Bool := cut && decide (left = 0)
/-- A base behind a call: what it says, and whether a place was written. -/
structure BN (w : World) (bb db : Nat) (cut : Bool) (left : Int) (log : List Ent) (hist : List (List OpP)) (known : Nat) (g : Gh) (cut' : Bool) (left' : Int) (log' : List Ent) (down' : Bool) (hist' : List (List OpP)) (known' : Nat) (w' : World) : Prop where
  bi : ∃ D' s' g', BI w' bb db D' cut' left' log' down' hist' known' s' g' ∧ Grows g g' bb w
  fr : Fr (fun k => g.foot bb k ∨ k = db) w w'
theorem okL_small {l : List OpP} (h : okL l = true) : ∀ o ∈ l, o.key.word.size ≤ 100000 ∧ o.value.size ≤ 100000 := fun o ho => by
  have h1 := List.all_eq_true.1 (okL_iff.1 h).2 o ho
  have h2 := (wfkey (op_key h1)).2
  rcases op_value h1 with h3 | h3
  · omega
  · unfold wordB at h3; simp at h3; omega
theorem writeT_len {l : List OpP} (h : okL l = true) : (writeT l).length ≤ 10000 :=
  entT_len (s := ([], 0)) (s' := ([l], 0)) (e := .tx l) (by simp only [stepE]; rw [if_pos ⟨h, by decide⟩]; rfl) (by decide)
theorem opsAt_fr {F : Nat → Prop} {w X : World} {ao : Option Addr} {l : List OpP} (hl : opsAt w ao l) (hf : Fr F w X) (h : ∀ b f, ao = some ⟨b, f, none⟩ → ¬ F b) : opsAt X ao l := fun i o hi => by
  obtain ⟨b, f, e, hc⟩ := hl i o hi
  exact ⟨b, f, e, fun j u hj => hf.cell (hc j u hj) (h b f e)⟩
section
variable {bb db : Nat} {D : List ByteArray} {cut : Bool} {left : Int} {log : List Ent} {down : Bool} {hist : List (List OpP)} {known : Nat} {s : Pst} {g : Gh}
theorem BN.same {w w' : World} (h : BI w bb db D cut left log down hist known s g) (hb : Below w.heap.size w w') : BN w bb db cut left log hist known g cut left log down hist known w' :=
  ⟨⟨D, s, g, h.below hb, Grows.refl _ _ _⟩, Fr.new hb⟩
set_option maxRecDepth 100000 in
set_option maxHeartbeats 4000000 in
theorem bcommit_off (ao : Option Addr) (c : Nat) (l : List OpP) (torn : Int) (w : World) (h : BI w bb db D cut left log down hist known s g) (hr : roomE down log.length = 0) (hl : opsAt w ao l) (hp : PowTab w) (hok : okL l = true) (ho : offB cut left = true) (ht : i64 torn) :
    Calls Tryz.prog 36 #[.pointer (some ⟨bb, 0, none⟩), .slice ao l.length c, .int .i64 torn] w fun e w' => e = .returned (errV 14) ∧ BN w bb db cut left log hist known g cut left log true hist known w' := by
  obtain ⟨hc, h0⟩ : cut = true ∧ left = 0 := by unfold offB at ho; simpa using ho
  subst hc
  subst h0
  have hlog : log.length < 150 := by
    unfold roomE at hr
    split at hr
    · exact absurd hr (by decide)
    · split at hr
      · exact absurd hr (by decide)
      · omega
  have hR := broom_any w h.p h.says.ll
  rw [hr] at hR
  have e0 : errN 0 = .nilIface := rfl
  rw [e0] at hR
  obtain ⟨hlen, hall⟩ := okL_iff.1 hok
  have hwr := okL_write hok
  have hsz : ∀ o ∈ l, o.key.word.size ≤ 100000 ∧ o.value.size ≤ 100000 := okL_small hok
  have hm : l.length ≤ maxLen := by unfold maxLen; omega
  have hFW := fwrite_any ao c l w hl hm hsz hp
  rw [hwr] at hFW
  obtain ⟨S, hS⟩ : ∃ S : ByteArray, S = ⟨(writeT l).toArray⟩ := ⟨_, rfl⟩
  have hA := fun (X : World) (hX : Below w.heap.size w X) => badd_off (writeT l) torn X (h.below hX) (writeT_len hok) (writeT_bar hall) hlog ht (hp.below hX)
  rw [← hS] at hA hFW
  unfold errV at hA ⊢
  have HR := Lib.hid hR
  have HFW := Lib.hid hFW
  have HA := Lib.hid hA
  have H := Lib.hid h
  clear hR hFW h hr hl hsz hp hok e0 hA hwr hS ht hlen hall hm
  go_enter Tryz.func36, Tryz.ntmps36
  go_wp2_with (first
    | (go_at_call 71; (with_reducible refine HR.out.mono ?_); rintro e w1 ⟨rfl, rfl⟩)
    | (go_at_call 47; (with_reducible refine HFW.out.mono ?_); rintro e w2 ⟨⟨v, rfl, _, hn⟩, b2⟩; rcases hn with ⟨rfl, _⟩ | ⟨_, h0⟩; rotate_left; (exact absurd rfl h0); have HB := Lib.hid b2; clear b2)
    | (go_at_call 72; (with_reducible refine (HA.out _ HB.out).mono ?_); rintro e w3 ⟨rfl, h3, h4, h5⟩; have H3 := Lib.hid h3; have H4 := Lib.hid h4; have H5 := Lib.hid h5; clear h3 h4 h5))
  go_ret
  obtain ⟨D', hbd, hsy⟩ := H3.out
  exact ⟨rfl, ⟨⟨D', s, g, ⟨H.out.pl, hsy, hbd, H4.out, H.out.k, H.out.nf, H.out.lr⟩, Grows.refl _ _ _⟩, (Fr.new HB.out).trans (H5.out.mono fun k _ e => e.imp (fun e => .inl e) id)⟩⟩
set_option maxRecDepth 100000 in
set_option maxHeartbeats 4000000 in
theorem bcommit_ok (ao : Option Addr) (c : Nat) (l : List OpP) (torn : Int) (w : World) (h : BI w bb db D cut left log down hist known s g) (hr : roomE down log.length = 0) (hl : opsAt w ao l) (hsep : ∀ b f, ao = some ⟨b, f, none⟩ → ¬ g.foot bb b ∧ b ≠ db) (hp : PowTab w) (hpt : ∀ X : World, Fr (fun k => k = bb ∨ k = db) w X → PowTab X) (hok : okL l = true) (ho : offB cut left = false) :
    Calls Tryz.prog 36 #[.pointer (some ⟨bb, 0, none⟩), .slice ao l.length c, .int .i64 torn] w fun e w' => e = .returned .nilIface ∧ ∃ l2, BN w bb db cut left log hist known g cut l2 (log ++ [.tx l]) down (hist ++ [l]) known w' ∧ (cut = true → l2 = left - 1) := by
  have hlog : log.length < 150 := by
    unfold roomE at hr
    split at hr
    · exact absurd hr (by decide)
    · split at hr
      · exact absurd hr (by decide)
      · omega
  have h150 : hist.length < 150 := Nat.lt_of_le_of_lt (playE_len h.pl).1 hlog
  have hR := broom_any w h.p h.says.ll
  rw [hr] at hR
  have e0 : errN 0 = .nilIface := rfl
  rw [e0] at hR
  obtain ⟨hlen, hall⟩ := okL_iff.1 hok
  have hwr := okL_write hok
  have hsz : ∀ o ∈ l, o.key.word.size ≤ 100000 ∧ o.value.size ≤ 100000 := okL_small hok
  have hm : l.length ≤ maxLen := by unfold maxLen; omega
  have hFW := fwrite_any ao c l w hl hm hsz hp
  rw [hwr] at hFW
  obtain ⟨S, hS⟩ : ∃ S : ByteArray, S = ⟨(writeT l).toArray⟩ := ⟨_, rfl⟩
  have hne := h.ne
  have ho2 : cut = true → left ≠ 0 := fun hc h0 => by rw [hc, h0] at ho; exact absurd ho (by decide)
  have hA := fun (X : World) (hX : Below w.heap.size w X) => badd_ok (writeT l) torn X (h.below hX) (writeT_len hok) hlog ho2 (hp.below hX)
  rw [← hS] at hA hFW
  have hSy := h.says.more (e := .tx l) (by have := writeT_len hok; show (writeT l).length ≤ 50000; omega) hlog h.dk.len
  have hCM := fun (X : World) (hf : Fr (fun k => k = bb ∨ k = db) w X) (hX : PastIs X bb 1 (BR db (log.length + 1) down) hist s g) => commit_is ao c l bb 1 _ hist s g X hX (opsAt_fr hl hf fun b f e => by obtain ⟨h1, h2⟩ := hsep b f e; exact fun e' => e'.elim (fun e' => h1 (.inl e')) h2) (fun b f e => (hsep b f e).1) (hpt X hf) hok h150
  have HR := Lib.hid hR
  have HFW := Lib.hid hFW
  have HA := Lib.hid hA
  have H := Lib.hid h
  have HCM := Lib.hid hCM
  have HSY := Lib.hid hSy
  have HOK := Lib.hid hok
  clear hR hFW h hr hl hsz hp hok e0 hA hwr hS hlen hall hm hCM hSy hsep
  go_enter Tryz.func36, Tryz.ntmps36
  go_wp2_with (first
    | (go_at_call 71; (with_reducible refine HR.out.mono ?_); rintro e w1 ⟨rfl, rfl⟩)
    | (go_at_call 47; (with_reducible refine HFW.out.mono ?_); rintro e w2 ⟨⟨v, rfl, _, hn⟩, b2⟩; rcases hn with ⟨rfl, _⟩ | ⟨_, h0⟩; rotate_left; (exact absurd rfl h0); have HB := Lib.hid b2; clear b2)
    | (go_at_call 72; (with_reducible refine (HA.out _ HB.out).mono ?_); rintro e w3 ⟨rfl, h3, h4, h5⟩; have H3 := Lib.hid h3; have H4 := Lib.hid h4; have H5 := Lib.hid ((Fr.new HB.out).trans h5); clear h3 h4 h5)
    | (go_at_call 9; (with_reducible refine (HCM.out _ H5.out H4.out).mono ?_); rintro e w4 ⟨s', g', rfl, h6, h7, h8, h9⟩; have H6 := Lib.hid h6; have H7 := Lib.hid h7; have H8 := Lib.hid h8; have H9 := Lib.hid h9; clear h6 h7 h8 h9))
  go_ret
  obtain ⟨l2, hbd, hl2⟩ := H3.out
  refine ⟨rfl, l2, ⟨⟨_, s', g', ⟨?_, HSY.out, hbd.frame H8.out H.out.nf, by rw [List.length_append, List.length_singleton]; exact H6.out, H7.out.trans H.out.k, fun hk => ?_, fun hc => ?_⟩, fun k hk => ?_⟩, (H5.out.mono fun k _ e => e.imp (fun e => .inl e) id).next H8.out fun k _ e => .inl e⟩, hl2⟩
  · rw [playE_snoc, H.out.pl]
    simp only [Option.bind_some, stepE]
    rw [if_pos ⟨HOK.out, h150⟩]
  · rcases H9.out db hk with e | e
    · exact H.out.nf e
    · have := hbd.lt; omega
  · have h1 := H.out.lr hc
    have h2 := ho2 hc
    have h3 := hl2 hc
    omega
  · rcases H9.out k hk with e | e
    · exact .inl e
    · exact .inr (Nat.le_trans H5.out.size e)
theorem bused_any (w : World) (h : BI w bb db D cut left log down hist known s g) : Calls Tryz.prog 39 #[.pointer (some ⟨bb, 0, none⟩)] w fun e w' => e = .returned (.int .i64 (log.length : Nat)) ∧ w = w' := by
  obtain ⟨c0, c6, c7, hfz, hbl⟩ := base_cells h.p
  clear h hfz
  go_enter Tryz.func39, Tryz.ntmps39
  go_wp2_with fail
  go_ret
  exact ⟨rfl, rfl⟩
theorem bdown_any (w : World) (h : BI w bb db D cut left log down hist known s g) : Calls Tryz.prog 37 #[.pointer (some ⟨bb, 0, none⟩)] w fun e w' => e = .returned (.bool down) ∧ w = w' := by
  obtain ⟨c0, c6, c7, hfz, hbl⟩ := base_cells h.p
  clear h hfz
  go_enter Tryz.func37, Tryz.ntmps37
  go_wp2_with fail
  go_ret
  exact ⟨rfl, rfl⟩
theorem bpast_any (w : World) (h : BI w bb db D cut left log down hist known s g) : Calls Tryz.prog 38 #[.pointer (some ⟨bb, 0, none⟩)] w fun e w' => e = .returned (.pointer (some ⟨bb, 1, none⟩)) ∧ w = w' := by
  obtain ⟨c0, c6, c7, hfz, hbl⟩ := base_cells h.p
  clear h hfz
  go_enter Tryz.func38, Tryz.ntmps38
  go_wp2_with fail
  go_ret
  exact ⟨rfl, rfl⟩
end
end Go.Proofs.YtflhpmgjehjjkaaGreatDoor

namespace Go.Proofs.YtflhpmgjehjjkaaGreatDoor
open Go.RowKit Go.Deep Go.Shelf Go.Sort Go.Maps

/-- A fault's box. -/
structure FB (r : Nat) (n p : Int) (X : World) : Prop where
  blk : X.heap[r]? = some (.cells #[.int .i64 n, .int .i64 p] 61 (0, 0))
theorem FB.facts {r : Nat} {n p : Int} {X : World} (h : FB r n p X) : X.cell? ⟨r, 0, none⟩ = some (.int .i64 n) ∧ X.cell? ⟨r, 1, none⟩ = some (.int .i64 p) ∧ X.frozen? ⟨r, 0, none⟩ = false ∧ X.frozen? ⟨r, 1, none⟩ = false ∧ r < X.heap.size :=
  ⟨block_cell h.blk 0, block_cell h.blk 1, block_free h.blk 0, block_free h.blk 1, lt_of_block h.blk⟩
theorem FB.frame {F : Nat → Prop} {r : Nat} {n p : Int} {X Y : World} (h : FB r n p X) (hf : Fr F X Y) (hn : ¬ F r) : FB r n p Y := ⟨hf.keeps h.blk hn⟩
theorem FB.below {r : Nat} {n p : Int} {X Y : World} (h : FB r n p X) (hb : Below X.heap.size X Y) : FB r n p Y := h.frame (F := fun _ => False) (Fr.new hb) (fun e => e)
theorem FB.set {r : Nat} {n p : Int} {X : World} (h : FB r n p X) (n' p' : Int) : FB r n' p' ((X.setCell ⟨r, 0, none⟩ (.int .i64 n')).setCell ⟨r, 1, none⟩ (.int .i64 p')) :=
  ⟨by have := block_set (block_set h.blk 0 (.int .i64 n')) 1 (.int .i64 p'); simpa using this⟩
theorem FB.fr {r : Nat} {X Y : World} (h : Fr (· = r) Y X) (n' p' : Int) : Fr (· = r) Y ((X.setCell ⟨r, 0, none⟩ (.int .i64 n')).setCell ⟨r, 1, none⟩ (.int .i64 p')) :=
  (h.setCell (p := ⟨r, 0, none⟩) (fun _ => rfl) _).setCell (p := ⟨r, 1, none⟩) (fun _ => rfl) _
theorem FB.new (X : World) (n p : Int) : FB X.heap.size n p (X.alloc (.cells #[.int .i64 n, .int .i64 p] 61)) := ⟨block_alloc_new _ _⟩
/-- The document's base in memory. -/
structure RBI (F : Nat → Prop) (X : World) (qb rb used : Nat) (off : Bool) (left : Int) (down : Bool) (hist : List (List OpP)) (known : Int) : Prop where
  blk : X.heap[qb]? = some (.cells #[.pointer (some ⟨rb, 0, none⟩), .int .i64 used, .bool off, .int .i64 left, .bool down] 107 (0, 0))
  r : RP (fun k => F k ∨ k = qb) X rb hist known
  nf : ¬ F qb
  wf : used ≤ 150 ∧ i64 left
section
variable {F F' : Nat → Prop} {X Y : World} {qb rb used : Nat} {off : Bool} {left : Int} {down : Bool} {hist : List (List OpP)} {known : Int}
theorem RBI.lt (h : RBI F X qb rb used off left down hist known) : qb < X.heap.size := lt_of_block h.blk
theorem RBI.ne (h : RBI F X qb rb used off left down hist known) : rb ≠ qb := fun e => h.r.nf (.inr e)
theorem RBI.cells (h : RBI F X qb rb used off left down hist known) : X.cell? ⟨qb, 0, none⟩ = some (.pointer (some ⟨rb, 0, none⟩)) ∧ X.cell? ⟨qb, 1, none⟩ = some (.int .i64 used) ∧ X.cell? ⟨qb, 2, none⟩ = some (.bool off) ∧ X.cell? ⟨qb, 3, none⟩ = some (.int .i64 left) ∧ X.cell? ⟨qb, 4, none⟩ = some (.bool down) ∧ (∀ i, X.frozen? ⟨qb, i, none⟩ = false) ∧ qb < X.heap.size :=
  ⟨block_cell h.blk 0, block_cell h.blk 1, block_cell h.blk 2, block_cell h.blk 3, block_cell h.blk 4, fun i => block_free h.blk i, lt_of_block h.blk⟩
theorem RBI.turn (h : RBI F X qb rb used off left down hist known) (hf : Fr F X Y) (hG : ∀ k, F' k → F k ∨ X.heap.size ≤ k) : RBI F' Y qb rb used off left down hist known :=
  ⟨hf.keeps h.blk h.nf, h.r.turn (hf.mono fun _ _ e => .inl e) (fun k hk => by
    rcases hk with hk | hk
    · exact (hG k hk).imp .inl id
    · exact .inl (.inr hk)), fun hk => by
    rcases hG qb hk with e | e
    · exact h.nf e
    · have := h.lt; omega, h.wf⟩
theorem RBI.below (h : RBI F X qb rb used off left down hist known) (hb : Below X.heap.size X Y) : RBI F Y qb rb used off left down hist known := h.turn (Fr.new hb) fun _ h => .inl h
/-- A place of it is turned. -/
theorem RBI.place (h : RBI F X qb rb used off left down hist known) {used' : Nat} {off' : Bool} {left' : Int} {down' : Bool} (hf : Fr (· = qb) X Y)
    (hb : Y.heap[qb]? = some (.cells #[.pointer (some ⟨rb, 0, none⟩), .int .i64 used', .bool off', .int .i64 left', .bool down'] 107 (0, 0))) (hw : used' ≤ 150 ∧ i64 left') : RBI F Y qb rb used' off' left' down' hist known :=
  ⟨hb, h.r.turn (hf.mono fun _ _ e => .inr e) (fun _ hk => .inl hk), h.nf, hw⟩
end
end Go.Proofs.YtflhpmgjehjjkaaGreatDoor

namespace Go.Proofs.YtflhpmgjehjjkaaGreatDoor
open Go.RowKit Go.Deep Go.Shelf Go.Sort Go.Maps

section
variable {bb db : Nat} {D : List ByteArray} {cut : Bool} {left : Int} {log : List Ent} {down : Bool} {hist : List (List OpP)} {known : Nat} {s : Pst} {g : Gh}
end
section
variable {F : Nat → Prop} {qb rb used : Nat} {off : Bool} {left : Int} {down : Bool} {hist : List (List OpP)} {known : Nat}
end
end Go.Proofs.YtflhpmgjehjjkaaGreatDoor

namespace Go.Proofs.YtflhpmgjehjjkaaGreatDoor
open Go.RowKit Go.Deep Go.Shelf Go.Sort Go.Maps

/-- What the program's base turns. -/
def FBD (g : Gh) (bb db k : Nat) : Prop := g.foot bb k ∨ k = db
/-- Where both lie. -/
structure BZ (w0 X : World) (db qb rb bb : Nat) (g : Gh) : Prop where
  gg : ∀ k, g.foot bb k → w0.heap.size ≤ k
  gd : w0.heap.size ≤ db
  gq : w0.heap.size ≤ qb
  gr : w0.heap.size ≤ rb
  be : Below w0.heap.size w0 X
  ev : ErrVar w0
  pt : PowTab w0
  nv : NumVars w0
/-- Both bases, alike. -/
structure BPF (w0 : World) (db qb rb bb : Nat) (cut : Bool) (left : Int) (log : List Ent) (down : Bool) (hist : List (List OpP)) (known : Nat) (g : Gh) (X : World) : Prop where
  bi : ∃ D s, BI X bb db D cut left log down hist known s g
  rq : ∃ lq, RBI (FBD g bb db) X qb rb log.length cut lq down hist known ∧ (cut = true → lq = left)
  z : BZ w0 X db qb rb bb g
section
variable {w0 X Y : World} {db qb rb bb : Nat} {cut : Bool} {left left' : Int} {log log' : List Ent} {down down' : Bool} {hist hist' : List (List OpP)} {known known' : Nat} {g g' : Gh}
theorem BZ.next (z : BZ w0 X db qb rb bb g) {F : Nat → Prop} (hf : Fr F X Y) (hF : ∀ k, F k → w0.heap.size ≤ k) (hg : ∀ k, g'.foot bb k → w0.heap.size ≤ k) : BZ w0 Y db qb rb bb g' :=
  ⟨hg, z.gd, z.gq, z.gr, z.be.trans (hf.below (fun k _ e => hF k e) z.be.size), z.ev, z.pt, z.nv⟩
theorem BZ.below (z : BZ w0 X db qb rb bb g) (hb : Below X.heap.size X Y) : BZ w0 Y db qb rb bb g := z.next (F := fun _ => False) (Fr.new hb) (fun _ e => e.elim) z.gg
theorem BPF.below (h : BPF w0 db qb rb bb cut left log down hist known g X) (hb : Below X.heap.size X Y) : BPF w0 db qb rb bb cut left log down hist known g Y := by
  obtain ⟨D, s, hbi⟩ := h.bi
  obtain ⟨lq, hq, e⟩ := h.rq
  exact ⟨⟨D, s, hbi.below hb⟩, ⟨lq, hq.below hb, e⟩, h.z.below hb⟩
theorem BPF.tp (h : BPF w0 db qb rb bb cut left log down hist known g X) : ∃ s, TP (fun k => FBD g bb db k ∨ k = qb) bb 1 rb (BR db log.length down) hist s g known X := by
  obtain ⟨D, s, hbi⟩ := h.bi
  obtain ⟨lq, hq, _⟩ := h.rq
  exact ⟨s, hbi.p, hq.r, hbi.k, h.z.ev.below h.z.be⟩
end
/-- Both bases, each in a state of its own. -/
structure BPC (w0 : World) (db qb rb bb : Nat) (cut : Bool) (left : Int) (down off : Bool) (lq : Int) (down0 : Bool) (log : List Ent) (hist : List (List OpP)) (known : Nat) (g : Gh) (X : World) : Prop where
  bi : ∃ D s, BI X bb db D cut left log down hist known s g
  rq : RBI (FBD g bb db) X qb rb log.length off lq down0 hist known
  z : BZ w0 X db qb rb bb g
section
variable {w0 X Y : World} {db qb rb bb : Nat} {cut : Bool} {left : Int} {down off : Bool} {lq : Int} {down0 : Bool} {log : List Ent} {hist : List (List OpP)} {known : Nat} {g : Gh}
theorem BPF.c (h : BPF w0 db qb rb bb cut left log down hist known g X) : ∃ lq, BPC w0 db qb rb bb cut left down cut lq down log hist known g X ∧ (cut = true → lq = left) := by
  obtain ⟨lq, hq, e⟩ := h.rq
  exact ⟨lq, ⟨h.bi, hq, h.z⟩, e⟩
theorem BPC.f (h : BPC w0 db qb rb bb cut left down cut lq down log hist known g X) (e : cut = true → lq = left) : BPF w0 db qb rb bb cut left log down hist known g X := ⟨h.bi, ⟨lq, h.rq, e⟩, h.z⟩
theorem BPC.below (h : BPC w0 db qb rb bb cut left down off lq down0 log hist known g X) (hb : Below X.heap.size X Y) : BPC w0 db qb rb bb cut left down off lq down0 log hist known g Y := by
  obtain ⟨D, s, hbi⟩ := h.bi
  exact ⟨⟨D, s, hbi.below hb⟩, h.rq.below hb, h.z.below hb⟩
end
end Go.Proofs.YtflhpmgjehjjkaaGreatDoor
