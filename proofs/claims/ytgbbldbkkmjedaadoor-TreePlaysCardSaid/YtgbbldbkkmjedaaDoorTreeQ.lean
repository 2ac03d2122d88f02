/- Who has a time of a span: the walk through the tree (Meets's closure). -/
import Derived.Test.YtgbbldbkkmjedaaDoorTreeP
import Derived.Test.YtgbbldbkkmjedaaDoorApp
namespace Go.Proofs.YtgbbldbkkmjedaaDoor
open Go.RowKit Go.Deep Go.Shelf Go.Sort Go.Maps

/-- The three variables that the closure captures: the span, the closure itself, what is found. -/
structure MeetW (base sb kb ob : Nat) (f t : Int) (v : Value) (out : List Int) (w : World) : Prop where
  hs : w.heap[sb]? = some (.cells #[.int .i64 f, .int .i64 t] 34 (0, 0))
  hk : w.heap[kb]? = some (.cells #[.func (.func 56) #[] #[.pointer (some ⟨sb, 0, none⟩), .pointer (some ⟨kb, 0, none⟩), .pointer (some ⟨ob, 0, none⟩)]] 98 (0, 0))
  ho : w.heap[ob]? = some (.cells #[v] 28 (0, 0))
  own : w.ownsRow base 3 1 v out.length (out.map (Value.int .i64))
  ls : sb < base
  lk : kb < base
  lo : ob < base
  so : sb ≠ ob
  ko : kb ≠ ob
  hb : base ≤ w.heap.size
theorem MeetW.frame {base sb kb ob : Nat} {f t : Int} {v : Value} {out : List Int} {w w' : World} (h : MeetW base sb kb ob f t v out w) (hf : Fr (fun k => k = ob ∨ base ≤ k) w w') {v' : Value} {out' : List Int}
    (ho : w'.heap[ob]? = some (.cells #[v'] 28 (0, 0))) (own : w'.ownsRow base 3 1 v' out'.length (out'.map (Value.int .i64))) : MeetW base sb kb ob f t v' out' w' :=
  ⟨hf.keeps h.hs (fun e => by rcases e with e | e; exact h.so e; exact absurd h.ls (by omega)), hf.keeps h.hk (fun e => by rcases e with e | e; exact h.ko e; exact absurd h.lk (by omega)), ho, own, h.ls, h.lk, h.lo, h.so, h.ko, Nat.le_trans h.hb hf.size⟩
theorem MeetW.drew {base sb kb ob : Nat} {f t : Int} {v : Value} {out : List Int} {w : World} (h : MeetW base sb kb ob f t v out w) : MeetW base sb kb ob f t v out w.drew :=
  ⟨h.hs, h.hk, h.ho, h.own, h.ls, h.lk, h.lo, h.so, h.ko, h.hb⟩
theorem MeetW.drewN {base sb kb ob : Nat} {f t : Int} {v : Value} {out : List Int} {w : World} (h : MeetW base sb kb ob f t v out w) (n : Nat) : MeetW base sb kb ob f t v out (w.drewN n) :=
  ⟨h.hs, h.hk, h.ho, h.own, h.ls, h.lk, h.lo, h.so, h.ko, h.hb⟩
theorem Fr.ofRow {w w' : World} {base : Nat} {row : Option Nat} (h : w.grownBy w' row) (hr : ∀ k, row = some k → base ≤ k) : Fr (fun k => base ≤ k) w w' := ⟨h.os, h.tape, h.output, h.size, fun k hk hn => h.block k hk (fun e => hn (hr k e.symm))⟩
def Met (base sb kb ob : Nat) (f t : Int) (out : List Int) (w : World) (e : Ending) (w' : World) : Prop :=
  e = .returned (.tuple #[]) ∧ (∃ v', MeetW base sb kb ob f t v' out w') ∧ Fr (fun k => k = ob ∨ base ≤ k) w w'

set_option maxRecDepth 100000 in
set_option maxHeartbeats 1000000 in
theorem meets1_nil (base sb kb ob : Nat) (f t : Int) (v : Value) (out : List Int) (w : World) (h : MeetW base sb kb ob f t v out w) :
    Calls Tryd.prog 56 #[.pointer none, .pointer (some ⟨sb, 0, none⟩), .pointer (some ⟨kb, 0, none⟩), .pointer (some ⟨ob, 0, none⟩)] w (Met base sb kb ob f t out w) := by
  go_enter Tryd.func56, Tryd.ntmps56
  go_wp2_with fail
  go_quiet (fail)
  go_wp2_with fail
  refine bodyPost_ret (results_none rfl _ _ _) rfl ?_
  exact ⟨rfl, ⟨v, h.drewN _⟩, (Fr.refl _ w).drewN _⟩

theorem find_le (f t : Int) : ∀ (T : BT Nd), (findT f t T).length ≤ (itemsT T).length
  | .nil => Nat.le_refl _
  | .node b o a l r => by
    have h1 := find_le f t l
    have h2 := find_le f t r
    have h3 : (itemsT (.node b o a l r)).length = (itemsT l).length + 1 + (itemsT r).length := by simp [itemsT]; omega
    unfold findT
    split
    · simp
    · split
      · split <;> simp <;> omega
      · simp; omega

theorem one_new (W : World) (x : Int) : ∀ j u, ([.int .i64 x] : List Value)[j]? = some u → (W.alloc (.cells #[.int .i64 x] 3)).cell? ((⟨W.heap.size, 0, none⟩ : Addr).add j) = some u := by
  intro j u hu
  match j, hu with
  | 0, hu => simp at hu; subst hu; simp [Addr.add]

set_option maxRecDepth 100000 in
set_option maxHeartbeats 8000000 in
theorem meets1_node (base sb kb ob : Nat) (f t : Int) (b : Nat) (a : Nd) (l r : BT Nd)
    (ihl : ∀ v out w, MeetW base sb kb ob f t v out w → treeIn w l → out.length + (itemsT l).length < 549755813888 → Calls Tryd.prog 56 #[l.ptr, .pointer (some ⟨sb, 0, none⟩), .pointer (some ⟨kb, 0, none⟩), .pointer (some ⟨ob, 0, none⟩)] w (Met base sb kb ob f t (out ++ findT f t l) w))
    (ihr : ∀ v out w, MeetW base sb kb ob f t v out w → treeIn w r → out.length + (itemsT r).length < 549755813888 → Calls Tryd.prog 56 #[r.ptr, .pointer (some ⟨sb, 0, none⟩), .pointer (some ⟨kb, 0, none⟩), .pointer (some ⟨ob, 0, none⟩)] w (Met base sb kb ob f t (out ++ findT f t r) w))
    (v : Value) (out : List Int) (w : World) (h : MeetW base sb kb ob f t v out w) (hin : treeIn w (.node b 0 a l r)) (hlt : ∀ k ∈ blocksT (.node b 0 a l r), k < base ∧ k ≠ ob) (hc : out.length + (itemsT (.node b 0 a l r)).length < 549755813888) :
    Calls Tryd.prog 56 #[.pointer (some ⟨b, 0, none⟩), .pointer (some ⟨sb, 0, none⟩), .pointer (some ⟨kb, 0, none⟩), .pointer (some ⟨ob, 0, none⟩)] w (Met base sb kb ob f t (out ++ findT f t (.node b 0 a l r)) w) := by
  have hlen : (itemsT (.node b 0 a l r)).length = (itemsT l).length + 1 + (itemsT r).length := by simp [itemsT]; omega
  rw [hlen] at hc
  have hfl := find_le f t l
  obtain ⟨_, hb, hll, hrr⟩ := hin.parts
  obtain ⟨lp, el⟩ := ptr_some l
  obtain ⟨rp, er⟩ := ptr_some r
  rw [el, er] at hb
  rw [el] at ihl
  rw [er] at ihr
  have hbl : b < base ∧ b ≠ ob := hlt b (by simp [blocksT])
  have hl1 : ∀ k ∈ blocksT l, k < base ∧ k ≠ ob := fun k hk => hlt k (by simp [blocksT, hk])
  have hr1 : ∀ k ∈ blocksT r, k < base ∧ k ≠ ob := fun k hk => hlt k (by simp [blocksT, hk])
  have IHL := Lib.hid ihl
  have IHR := Lib.hid ihr
  have HB := Lib.hid hb
  obtain ⟨_, d1, d2, d3, _, d5, d6⟩ := node_cells hb
  have s0 := block_cell h.hs 0
  have s1 := block_cell h.hs 1
  have q0 := cell_of_one h.hk
  have HM := Lib.hid h
  simp only [List.getElem?_toArray, List.getElem?_cons_zero, List.getElem?_cons_succ] at s0 s1
  obtain ⟨hb1, hb2⟩ := hbl
  clear hlen el er ihl ihr hb hin hlt h
  by_cases hla : a.last ≤ f
  · have hf : findT f t (.node b 0 a l r) = [] := by show (if a.last ≤ f then _ else _) = _; rw [if_pos hla]
    have HF := Lib.hid hf
    clear hf
    go_enter Tryd.func56, Tryd.ntmps56
    go_wp2_with fail
    go_quiet (fail)
    go_wp2_with fail
    refine bodyPost_ret (results_none rfl _ _ _) rfl ?_
    rw [HF.out, List.append_nil]
    exact ⟨rfl, ⟨v, HM.out.drewN _⟩, (Fr.refl _ w).drewN _⟩
  · have hf : findT f t (.node b 0 a l r) = findT f t l ++ if a.f < t then (if f < a.t then [a.id] else []) ++ findT f t r else [] := by show (if a.last ≤ f then _ else _) = _; rw [if_neg hla]
    have HF := Lib.hid hf
    clear hf
    go_enter Tryd.func56, Tryd.ntmps56
    go_wp2_with fail
    go_quiet (fail)
    obtain ⟨w1, hw1⟩ : ∃ w1, w1 = w.drewN nq := ⟨_, rfl⟩
    rw [← hw1]
    have M1 : MeetW base sb kb ob f t v out w1 := by rw [hw1]; exact HM.out.drewN _
    have T1 : treeIn w1 l := by rw [hw1]; exact hll
    have U1 : treeIn w1 r := by rw [hw1]; exact hrr
    have B1 : w1.heap[b]? = some (nodeO a (.pointer lp) (.pointer rp)) := by rw [hw1]; exact HB.out
    have F1 : Fr (fun k => k = ob ∨ base ≤ k) w w1 := by rw [hw1]; exact (Fr.refl _ w).drewN _
    have q0' : w1.cell? ⟨kb, 0, none⟩ = some (.func (.func 56) #[] #[.pointer (some ⟨sb, 0, none⟩), .pointer (some ⟨kb, 0, none⟩), .pointer (some ⟨ob, 0, none⟩)]) := by rw [hw1]; exact q0
    have d5' : w1.cell? ⟨b, 5, none⟩ = some (.pointer lp) := by rw [hw1]; exact d5
    clear hw1 d1 d2 d3 d5 d6 s0 s1 q0 hll hrr
    go_wp2_with fail
    go_region_held3 (fun W => W.cell? ⟨kb, 0, none⟩ = some (.func (.func 56) #[] #[.pointer (some ⟨sb, 0, none⟩), .pointer (some ⟨kb, 0, none⟩), .pointer (some ⟨ob, 0, none⟩)]) ∧ W.cell? ⟨b, 5, none⟩ = some (.pointer lp))
      (first | exact ⟨q0', d5'⟩ | exact hS3)
      ((go_at_call 56; refine (IHL.out v out _ (by exact M1.drew) (by exact T1) (by omega)).mono ?_; rintro e w3 ⟨rfl, ⟨v3, M3⟩, F3⟩; have hb3 := F3.keeps B1 (fun e => by rcases e with e | e; exact hb2 e; omega); have hS3 : w3.cell? ⟨kb, 0, none⟩ = some (.func (.func 56) #[] #[.pointer (some ⟨sb, 0, none⟩), .pointer (some ⟨kb, 0, none⟩), .pointer (some ⟨ob, 0, none⟩)]) ∧ w3.cell? ⟨b, 5, none⟩ = some (.pointer lp) := ⟨cell_of_one M3.hk, block_cell hb3 5⟩))
    have F3' : Fr (fun k => k = ob ∨ base ≤ k) w w3 := F1.drew.next F3 (fun k _ e => e)
    have U3 : treeIn w3 r := treeIn.frame F3 U1 (fun k hk e => by rcases e with e | e; exact (hr1 k hk).2 e; have := (hr1 k hk).1; omega)
    obtain ⟨out1, ho1⟩ : ∃ o, o = out ++ findT f t l := ⟨_, rfl⟩
    have hlo : out1.length ≤ out.length + (itemsT l).length := by rw [ho1, List.length_append]; omega
    rw [← ho1] at M3
    have HO1 := Lib.hid ho1
    clear ho1 M1 T1 U1 B1 F1 q0' d5' hS3 F3
    obtain ⟨d0, d1, d2, _, _, _, d6⟩ := node_cells hb3
    have s0 := block_cell M3.hs 0
    have s1 := block_cell M3.hs 1
    simp only [List.getElem?_toArray, List.getElem?_cons_zero, List.getElem?_cons_succ] at s0 s1
    have HM3 := Lib.hid M3
    have HB3 := Lib.hid hb3
    clear M3 hb3
    by_cases h2 : a.f < t
    · by_cases h3 : f < a.t
      · have hres : findT f t (.node b 0 a l r) = findT f t l ++ (a.id :: findT f t r) := by rw [HF.out, if_pos h2, if_pos h3]; rfl
        have HR := Lib.hid hres
        clear hres
        go_wp2_with fail
        go_quiet (fail)
        revert nq; intro n1
        go_wp2_with fail
        go_quiet (fail)
        revert nq; intro n2
        obtain ⟨w4, hw4⟩ : ∃ w4, w4 = (w3.drewN n1).drewN n2 := ⟨_, rfl⟩
        rw [← hw4]
        have M4 : MeetW base sb kb ob f t v3 out1 w4 := by rw [hw4]; exact (HM3.out.drewN n1).drewN n2
        have U4 : treeIn w4 r := by rw [hw4]; exact U3
        have hb4 : w4.heap[b]? = some (nodeO a (.pointer lp) (.pointer rp)) := by rw [hw4]; exact HB3.out
        have F4 : Fr (fun k => k = ob ∨ base ≤ k) w w4 := by rw [hw4]; exact (F3'.drewN _).drewN _
        clear hw4 d0 d1 d2 d6 s0 s1 U3 F3'
        obtain ⟨d0, _, _, _, _, _, _⟩ := node_cells hb4
        have o0 := cell_of_one M4.ho
        have of0 := free_of_one M4.ho
        have hobl : ob < w4.heap.size := lt_of_block M4.ho
        have hown := M4.own
        have hbs := M4.hb
        have hbb : b < w4.heap.size := lt_of_block hb4
        have HM4 := Lib.hid M4
        have HB4 := Lib.hid hb4
        clear M4 hb4
        obtain ⟨i0, hi, hz0, hz1, hz2⟩ := info_parts infoInt
        go_wp2_with fail
        go_region_law (refine step_append_own rfl _ _ 28 rfl base 3 i0 (.int .i64 0) 1 8 Tryd.underlying28 hi hz0 hz1 hz2 rfl (by decide) v3 out1.length _ rfl (hown.alloc _) ⟨w4.heap.size, 0, none⟩ 1 1 [.int .i64 a.id] rfl rfl (one_new w4 a.id) (by simp [Value.oneCell']) (by unfold maxLen; omega) (by omega) (by simp; omega) ?_; intro v5 w5 hown5 hgrow5 _; obtain ⟨g5, c5, rfl⟩ := ownsRow_succ hown5; have F5 := Fr.ofRow hgrow5 (fun k hk => (hown.lt k hk).1); have ho5 := F5.keeps (b := ob) (block_alloc HM4.out.ho _) (by have := HM4.out.lo; omega); have o0' := cell_of_one ho5; have of0' := free_of_one ho5)
        all_goals
          have hg5 := (hown5.lt g5 rfl).1
          have FS : Fr (fun k => k = ob ∨ base ≤ k) w5 (w5.setCell ⟨ob, 0, none⟩ (.slice (some ⟨g5, 0, none⟩) (out1.length + 1) c5)) := Fr.setCell (F := fun k => k = ob ∨ base ≤ k) (Fr.refl _ w5) (p := ⟨ob, 0, none⟩) (fun _ => Or.inl rfl) _
          have F46 : Fr (fun k => k = ob ∨ base ≤ k) w4 (w5.setCell ⟨ob, 0, none⟩ (.slice (some ⟨g5, 0, none⟩) (out1.length + 1) c5)) :=
            ((Fr.alloc (Fr.refl (fun k => k = ob ∨ base ≤ k) w4) _).drew.next F5 (fun k _ e => Or.inr e)).next FS (fun k _ e => e)
          obtain ⟨w6, hw6⟩ : ∃ w6, w6 = w5.setCell ⟨ob, 0, none⟩ (.slice (some ⟨g5, 0, none⟩) (out1.length + 1) c5) := ⟨_, rfl⟩
          rw [← hw6] at F46 ⊢
          have M6 : MeetW base sb kb ob f t (.slice (some ⟨g5, 0, none⟩) (out1.length + 1) c5) (out1 ++ [a.id]) w6 := by
            refine HM4.out.frame F46 (by rw [hw6]; exact one_setCell ho5) ?_
            have := ownsRow_setCell_other hown5 (a := ⟨ob, 0, none⟩) (by have := HM4.out.lo; simp [Value.ownBlock]; omega) (.slice (some ⟨g5, 0, none⟩) (out1.length + 1) c5)
            rw [hw6, List.length_append, List.map_append]
            exact this
          have U6 : treeIn w6 r := treeIn.frame F46 U4 (fun k hk e => by rcases e with e | e; exact (hr1 k hk).2 e; have := (hr1 k hk).1; omega)
          have hb6 := F46.keeps HB4.out (fun e => by rcases e with e | e; exact hb2 e; omega)
          have F6 := F4.next F46 (fun k _ e => e)
          obtain ⟨_, _, _, _, _, _, d6⟩ := node_cells hb6
          have q0 := cell_of_one M6.hk
          clear hw6 hown5 hgrow5 F5 ho5 o0' of0' FS F46 hown o0 of0 d0
          go_wp2_with fail
          go_region_held3 (fun W => W.cell? ⟨kb, 0, none⟩ = some (.func (.func 56) #[] #[.pointer (some ⟨sb, 0, none⟩), .pointer (some ⟨kb, 0, none⟩), .pointer (some ⟨ob, 0, none⟩)]) ∧ W.cell? ⟨b, 6, none⟩ = some (.pointer rp))
            (first | exact ⟨q0, d6⟩ | exact hS3)
            ((go_at_call 56; refine (IHR.out _ (out1 ++ [a.id]) _ (by exact M6.drew) (by exact U6) (by rw [List.length_append, List.length_singleton]; omega)).mono ?_; rintro e w7 ⟨rfl, ⟨v7, M7⟩, F7⟩; have hb7 := F7.keeps hb6 (fun e => by rcases e with e | e; exact hb2 e; omega); have hS3 : w7.cell? ⟨kb, 0, none⟩ = some (.func (.func 56) #[] #[.pointer (some ⟨sb, 0, none⟩), .pointer (some ⟨kb, 0, none⟩), .pointer (some ⟨ob, 0, none⟩)]) ∧ w7.cell? ⟨b, 6, none⟩ = some (.pointer rp) := ⟨cell_of_one M7.hk, block_cell hb7 6⟩))
          have HM7 := Lib.hid M7
          clear M7 hS3
          go_wp2_with fail
          refine bodyPost_end (results_none rfl _ _ _) rfl ?_
          rw [HR.out, ← List.singleton_append, ← List.append_assoc, ← List.append_assoc, ← HO1.out]
          exact ⟨rfl, ⟨_, HM7.out⟩, F6.drew.next F7 (fun k _ e => e)⟩
      · have hres : findT f t (.node b 0 a l r) = findT f t l ++ findT f t r := by rw [HF.out, if_pos h2, if_neg h3, List.nil_append]
        have HR := Lib.hid hres
        clear hres
        go_wp2_with fail
        go_quiet (fail)
        revert nq; intro n1
        go_wp2_with fail
        go_quiet (fail)
        revert nq; intro n2
        obtain ⟨w4, hw4⟩ : ∃ w4, w4 = (w3.drewN n1).drewN n2 := ⟨_, rfl⟩
        rw [← hw4]
        have M4 : MeetW base sb kb ob f t v3 out1 w4 := by rw [hw4]; exact (HM3.out.drewN n1).drewN n2
        have U4 : treeIn w4 r := by rw [hw4]; exact U3
        have hb4 : w4.heap[b]? = some (nodeO a (.pointer lp) (.pointer rp)) := by rw [hw4]; exact HB3.out
        have F4 : Fr (fun k => k = ob ∨ base ≤ k) w w4 := by rw [hw4]; exact (F3'.drewN _).drewN _
        clear hw4 d0 d1 d2 d6 s0 s1 U3 F3'
        obtain ⟨_, _, _, _, _, _, d6⟩ := node_cells hb4
        have q0 := cell_of_one M4.hk
        go_wp2_with fail
        go_region_held3 (fun W => W.cell? ⟨kb, 0, none⟩ = some (.func (.func 56) #[] #[.pointer (some ⟨sb, 0, none⟩), .pointer (some ⟨kb, 0, none⟩), .pointer (some ⟨ob, 0, none⟩)]) ∧ W.cell? ⟨b, 6, none⟩ = some (.pointer rp))
          (first | exact ⟨q0, d6⟩ | exact hS3)
          ((go_at_call 56; refine (IHR.out v3 out1 _ (by exact M4.drew) (by exact U4) (by omega)).mono ?_; rintro e w5 ⟨rfl, ⟨v5, M5⟩, F5⟩; have hb5 := F5.keeps hb4 (fun e => by rcases e with e | e; exact hb2 e; omega); have hS3 : w5.cell? ⟨kb, 0, none⟩ = some (.func (.func 56) #[] #[.pointer (some ⟨sb, 0, none⟩), .pointer (some ⟨kb, 0, none⟩), .pointer (some ⟨ob, 0, none⟩)]) ∧ w5.cell? ⟨b, 6, none⟩ = some (.pointer rp) := ⟨cell_of_one M5.hk, block_cell hb5 6⟩))
        have HM5 := Lib.hid M5
        clear M5 hS3
        go_wp2_with fail
        refine bodyPost_end (results_none rfl _ _ _) rfl ?_
        rw [HR.out, ← List.append_assoc, ← HO1.out]
        exact ⟨rfl, ⟨_, HM5.out⟩, F4.drew.next F5 (fun k _ e => e)⟩
    · have hres : findT f t (.node b 0 a l r) = findT f t l := by rw [HF.out, if_neg h2, List.append_nil]
      have HR := Lib.hid hres
      clear hres
      go_wp2_with fail
      go_quiet (fail)
      go_wp2_with fail
      refine bodyPost_ret (results_none rfl _ _ _) rfl ?_
      rw [HR.out, ← HO1.out]
      exact ⟨rfl, ⟨_, HM3.out.drewN _⟩, F3'.drewN _⟩

theorem meets1_any (base sb kb ob : Nat) (f t : Int) : ∀ (T : BT Nd) (v : Value) (out : List Int) (w : World), MeetW base sb kb ob f t v out w → treeIn w T → (∀ k ∈ blocksT T, k < base ∧ k ≠ ob) → FitT T → out.length + (itemsT T).length < 549755813888 →
    Calls Tryd.prog 56 #[T.ptr, .pointer (some ⟨sb, 0, none⟩), .pointer (some ⟨kb, 0, none⟩), .pointer (some ⟨ob, 0, none⟩)] w (Met base sb kb ob f t (out ++ findT f t T) w)
  | .nil, v, out, w, h, _, _, _, _ => by
    have := meets1_nil base sb kb ob f t v out w h
    rw [show findT f t .nil = [] from rfl, List.append_nil]
    exact this
  | .node b o a l r, v, out, w, h, hin, hlt, hf, hc => by
    obtain rfl : o = 0 := hf.1
    exact meets1_node base sb kb ob f t b a l r
      (fun v out w h1 h2 h3 => meets1_any base sb kb ob f t l v out w h1 h2 (fun k hk => hlt k (by simp [blocksT, hk])) hf.2.2.2.1 h3)
      (fun v out w h1 h2 h3 => meets1_any base sb kb ob f t r v out w h1 h2 (fun k hk => hlt k (by simp [blocksT, hk])) hf.2.2.2.2 h3)
      v out w h hin hlt hc
end Go.Proofs.YtgbbldbkkmjedaaDoor
