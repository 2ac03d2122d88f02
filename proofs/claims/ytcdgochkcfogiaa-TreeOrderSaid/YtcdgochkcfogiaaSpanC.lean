/- The reference's Where: as few spans as there can be of the times that a function says yes of. The function may be any that returns a bool and changes nothing. -/
import Derived.Test.YtcdgochkcfogiaaSpanB
import Derived.Shelf.Abstract
import Derived.Shelf.RegionOpen
namespace Go.Proofs.Ytcdgochkcfogiaa
open Go.RowKit Go.Shelf

def intsAt (w : World) (ao : Option Addr) (l : List Int) : Prop :=
  ∀ i x, l[i]? = some x → ∃ b o, ao = some ⟨b, o, none⟩ ∧ w.cell? ⟨b, o + i, none⟩ = some (.int .i64 x)
theorem intsAt_get {w : World} {ao : Option Addr} {l : List Int} (h : intsAt w ao l) {k : Nat} (hk : k < l.length) :
    ∃ b o x, Hid (l[k]? = some x) ∧ ao = some ⟨b, o, none⟩ ∧ w.cell? ⟨b, o + k, none⟩ = some (.int .i64 x) := by
  obtain ⟨b, o, h1, h2⟩ := h k l[k] (by simp [hk])
  exact ⟨b, o, l[k], (by show l[k]? = _; simp [hk]), h1, h2⟩

def flat (l : List (Int × Int)) : List Value := l.flatMap fun p => [.int .i64 p.1, .int .i64 p.2]
theorem flat_length (l : List (Int × Int)) : (flat l).length = l.length * 2 := by
  induction l with
  | nil => rfl
  | cons a l ih => simp only [flat, List.flatMap_cons, List.length_append, List.length_cons, List.length_nil] at ih ⊢; omega
theorem flat_append (l m : List (Int × Int)) : flat (l ++ m) = flat l ++ flat m := by simp [flat]

/-- A function value that says p of a number, and changes nothing that was there. -/
def PredB (P : Program) (g : Nat) (lb : Array Value) (p : Int → Bool) (w : World) : Prop :=
  ∀ (W : World) (x : Int), Below w.heap.size w W → Calls P g (#[.int .i64 x] ++ lb) W fun e w' => e = .returned (.bool (p x)) ∧ Below W.heap.size W w'

theorem whS_snoc (p : Int → Bool) (l : List Int) (k : Nat) (x : Int) (h : l[k]? = some x) : whS p (l.take (k + 1)) = whStep p (whS p (l.take k)) x := by
  rw [List.take_add_one, h]; simp [whS, List.foldl_append]
theorem snoc_of_ne {α : Type} (l : List α) (h : l ≠ []) : ∃ m a, l = m ++ [a] := ⟨l.dropLast, l.getLast h, (List.dropLast_concat_getLast h).symm⟩
theorem whS_open_len (p : Int → Bool) (l : List Int) (s : List (Int × Int) × Bool) (h : s.2 = true → s.1 ≠ []) :
    ((l.foldl (whStep p) s).2 = true → (l.foldl (whStep p) s).1 ≠ []) ∧ (l.foldl (whStep p) s).1.length ≤ s.1.length + l.length := by
  induction l generalizing s with
  | nil => exact ⟨h, by simp⟩
  | cons x l ih =>
    obtain ⟨out, op⟩ := s
    simp only [List.foldl_cons, List.length_cons]
    have key : ((whStep p (out, op) x).2 = true → (whStep p (out, op) x).1 ≠ []) ∧ (whStep p (out, op) x).1.length ≤ out.length + 1 := by
      cases hp : p x <;> cases op <;> simp [whStep, hp] <;> simp_all
      obtain ⟨m, a, rfl⟩ := snoc_of_ne out h
      rw [setLast_snoc]; simp
    obtain ⟨h1, h2⟩ := ih _ key.1
    exact ⟨h1, by have := key.2; simp only at *; omega⟩
theorem whS_open (p : Int → Bool) (l : List Int) : (whS p l).2 = true → (whS p l).1 ≠ [] := (whS_open_len p l ([], false) (by simp)).1
theorem whS_len (p : Int → Bool) (l : List Int) : (whS p l).1.length ≤ l.length := by have := (whS_open_len p l ([], false) (by simp)).2; simp only [List.length_nil, Nat.zero_add] at this; exact this

theorem ret_int' {a b : Int} (h : a = b) : Value.int .i64 a = .int .i64 b := by rw [h]

theorem flat_setLast (m : List (Int × Int)) (a : Int × Int) (x : Int) : (flat (m ++ [a])).set (m.length * 2 + 1) (.int .i64 x) = flat (m ++ [(a.1, x)]) := by
  rw [flat_append, flat_append, List.set_append_right _ _ (by rw [flat_length]; omega), flat_length]
  simp [flat]

theorem infoSpan : (Try.prog.info? 23).map (fun i => (i.zero, i.size, i.bytes)) = some (some (.agg #[.int .i64 0, .int .i64 0]), 2, 16) := by kernel_rfl

/-- One span more. -/
theorem appSpan {W : World} {ops : Array Oper} {rest : List Oper} {o : Oper} {a : Act} {Q : Exit → Act → World → Prop} (hgd : o.guard = none) (s x : Operand)
    (ho : o.op = .call { callee := .builtin .append, args := #[s, x], argTypes := #[26, 26] }) (base : Nat) (v : Value) (l : List (Int × Int)) (hs : a.eval s = v) (hown : W.ownsRow base 23 2 v l.length (flat l))
    (b : Nat) (f t : Int) (hx : a.eval x = .slice (some ⟨b, 0, none⟩) 1 1) (hc1 : W.cell? ⟨b, 0, none⟩ = some (.int .i64 f)) (hc2 : W.cell? ⟨b, 1, none⟩ = some (.int .i64 t))
    (hbytes : (l.length + 1) * 16 ≤ 140737488355328) (hbase : base ≤ W.heap.size) (w0 : World) (hB : Below base w0 W)
    (h : ∀ v' w', w'.ownsRow base 23 2 v' (l ++ [(f, t)]).length (flat (l ++ [(f, t)])) → Below base w0 w' → W.heap.size ≤ w'.heap.size → W.grownBy w' v.ownBlock → wpList Try.prog ops Q rest (a.put o.dst v') w') : wpList Try.prog ops Q (o :: rest) a W := by
  refine app1 hgd s x _ ho base 23 Try.underlying26 infoSpan rfl (by decide) (by decide) v l.length (flat l) hs hown b [.int .i64 f, .int .i64 t] hx rfl (fun u hu => ?_) (fun j u hu => ?_) hbytes hbase w0 hB fun v' w' h2 h3 h4 h5 h6 => h v' w' ?_ h3 h4 h6
  · simp at hu; rcases hu with rfl | rfl <;> rfl
  · match j, hu with
    | 0, hu => simp at hu; subst hu; exact hc1
    | 1, hu => simp at hu; subst hu; exact hc2
  · rw [flat_append, List.length_append]; exact h2

set_option maxRecDepth 100000 in
theorem where_any (g : Nat) (lb : Array Value) (p : Int → Bool) (es : List Int) (ao : Option Addr) (cap : Nat) (w : World) (hes : intsAt w ao es) (eg : ∀ args w, (callFunc g args).run Try.prog w = .ok (.enter g args) w)
    (hp : PredB Try.prog g lb p w) (hlen : es.length * 16 ≤ 140737488355328) :
    Calls Try.prog 10 #[.slice ao es.length cap, .func (.func g) #[] lb] w fun e w' =>
      ∃ v, e = .returned v ∧ w'.ownsRow w.heap.size 23 2 v (whereL p es).length (flat (whereL p es)) ∧ Below w.heap.size w w' := by
  obtain ⟨i0, hi, hz0, hz1, hz2⟩ := info_parts infoSpan
  go_enter Try.func10, Try.ntmps10
  go_wp2
  go_loopw [5, 6, 12] (fun v o i wr => ∃ k : Nat, k ≤ es.length ∧ i = .int .i64 k ∧ o = .bool (whS p (es.take k)).2 ∧
      wr.ownsRow w.heap.size 23 2 v (whS p (es.take k)).1.length (flat (whS p (es.take k)).1) ∧ Below w.heap.size w wr) (fun _ _ i _ => es.length - (intOf i).toNat)
  case atStart => exact ⟨0, by omega, rfl, rfl, World.ownsRow_nil _ _ _ _, Below.refl _ _⟩
  case round =>
    obtain ⟨k, hk, rfl, rfl, hown, hB⟩ := hrel
    by_cases hlt : k < es.length
    · obtain ⟨b, o, x, g1, rfl, c1⟩ := intsAt_get hes hlt
      have hb : b < w.heap.size := World.block_lt_of_cell? w _ c1
      have c1 := (hB.cell (p := ⟨b, o + k, none⟩) hb).trans c1
      have hsn := whS_snoc p es k x g1.out
      have hl2 := whS_len p (es.take k)
      rw [List.length_take] at hl2
      have hop := whS_open p (es.take k)
      generalize whS p (es.take k) = s at *
      obtain ⟨out, op⟩ := s
      simp only at *
      have hpx := hp wr x hB
      cases hpv : p x
      · cases op
        · simp [whStep, hpv] at hsn
          have HS := Lib.hid hsn
          clear hsn hop
          rw [hpv] at hpx
          have HPV := Lib.hid hpv
          clear hpv
          go_wp2_with (go_at_fn g; refine hpx.mono ?_; rintro e w1 ⟨rfl, hb1⟩)
          refine ⟨⟨k + 1, by omega, by go_num, by rw [HS.out], by rw [HS.out]; exact ownsRow_below hown hb1, below_trans hB hB.size hb1⟩, by simp [intOf]; omega⟩
        · obtain ⟨m, a, rfl⟩ := snoc_of_ne out (hop rfl)
          simp [whStep, hpv, setLast_snoc] at hsn
          have HS := Lib.hid hsn
          clear hsn hop
          rw [hpv] at hpx
          have HPV := Lib.hid hpv
          clear hpv
          rw [List.length_append] at hown hl2
          obtain ⟨gb, gc, rfl⟩ := ownsRow_succ hown
          simp only [List.length_cons, List.length_nil, Nat.zero_add] at hl2
          have hm0 : 0 ≤ m.length := Nat.zero_le _
          go_wp2_with (go_at_fn g; refine hpx.mono ?_; rintro e w1 ⟨rfl, hb1⟩; have hown1 := ownsRow_below hown hb1; have hfr := hown1.frozenAt (m.length * 2 + 1); have hcl : w1.cell? ⟨gb, m.length * 2 + 1, none⟩ = some (.int .i64 a.2) := by (rw [hown1.cellAt (m.length * 2 + 1) (by omega), flat_append]; rw [List.getElem?_append_right (by rw [flat_length]; omega), flat_length]; simp [flat]))
          have hst := hown1.stored (m.length * 2 + 1) (.int .i64 x)
          rw [flat_setLast] at hst
          have hgl := (hown.lt gb rfl)
          refine ⟨⟨k + 1, by omega, by go_num, by rw [HS.out], by rw [HS.out]; simp only [List.length_append, List.length_cons, List.length_nil, Nat.zero_add]; exact hst.1, (below_trans hB hB.size hb1).setCell (p := ⟨gb, m.length * 2 + 1, none⟩) hgl.1 _⟩, by simp [intOf]; omega⟩
      · cases op
        · simp [whStep, hpv] at hsn
          have HS := Lib.hid hsn
          clear hsn hop
          rw [hpv] at hpx
          have HPV := Lib.hid hpv
          clear hpv
          go_wp2_with (first
            | (go_at_fn g; refine hpx.mono ?_; rintro e w1 ⟨rfl, hb1⟩; have hown1 := ownsRow_below hown hb1; have hs1 := hb1.size; have hs0 := hB.size)
            | (at_builtin; refine appSpan rfl _ _ rfl w.heap.size _ out rfl (hown1.alloc _) w1.heap.size x 0 rfl (by simp) (by simp) (by omega) (by simp; omega) w ((below_trans hB hB.size hb1).alloc (by omega) _) ?_; intro v' w2 hown2 hB2 hs2 hg2))
          refine ⟨⟨k + 1, by omega, by go_num, by rw [HS.out], by rw [HS.out]; exact hown2, hB2⟩, by simp [intOf]; omega⟩
        · simp [whStep, hpv] at hsn
          have HS := Lib.hid hsn
          clear hsn hop
          rw [hpv] at hpx
          have HPV := Lib.hid hpv
          clear hpv
          go_wp2_with (go_at_fn g; refine hpx.mono ?_; rintro e w1 ⟨rfl, hb1⟩)
          refine ⟨⟨k + 1, by omega, by go_num, by rw [HS.out], by rw [HS.out]; exact ownsRow_below hown hb1, below_trans hB hB.size hb1⟩, by simp [intOf]; omega⟩
    · have he : es.take k = es := List.take_of_length_le (by omega)
      rw [he] at hown
      have HE := Lib.hid he
      clear he
      go_wp2
      go_ret
      exact ⟨_, rfl, hown, hB⟩
end Go.Proofs.Ytcdgochkcfogiaa
