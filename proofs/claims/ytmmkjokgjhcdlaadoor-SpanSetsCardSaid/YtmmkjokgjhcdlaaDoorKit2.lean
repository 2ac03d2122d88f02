/- An append to a slice of the call's own: the new slice begins at the same block or at a new one: so whatever other block stays apart from it. -/
import Derived.Test.YtmmkjokgjhcdlaaDoorSetB
import Derived.ArgAppend
namespace Go.Proofs.YtmmkjokgjhcdlaaDoor
open Go.RowKit

/-- The slice's own block is none of these. -/
def Apart (v : Value) (p : Nat) : Prop := v.ownBlock ≠ some p
theorem apart_nil (p : Nat) : Apart (.slice none 0 0) p := by simp [Apart, Value.ownBlock]
theorem apart_new {w : World} {base : Nat} {e : TypeId} {size : Nat} {v : Value} {n : Nat} {xs : List Value} (h : w.ownsRow base e size v n xs) {p : Nat} (hp : w.heap.size ≤ p) : Apart v p := fun e => by have := (h.lt p e).2; omega

theorem append_fresh {P : Program} (w : World) (base : Nat) (t ty e : TypeId) (i : TypeInfo) (z : Value) (size bytes : Nat) (ht : P.underlying t = some (.slice e)) (hi : P.info? e = some i) (hz : i.zero = some z)
    (hsize : i.size = size) (hby : i.bytes = bytes) (hzs : z.cells.size = size) (hsz : 0 < size)
    (v : Value) (n : Nat) (xs : List Value) (hown : w.ownsRow base e size v n xs)
    (a : Addr) (m c : Nat) (news : List Value) (hl : news.length = m * size) (hnews : ∀ j u, news[j]? = some u → w.cell? (a.add j) = some u) (h1 : ∀ u ∈ news, u.oneCell' = true)
    (h63 : n + m ≤ maxLen) (hbytes : (n + m) * bytes ≤ 140737488355328) (v' : Value) (w' : World)
    (hr : (Builtin.append_ #[t, t] ty #[v, .slice (some a) m c]).run P w = .ok v' w') : ∀ p, p < w.heap.size → Apart v p → Apart v' p := by
  intro p hp hap
  rcases hown.2 with ⟨rfl, hn⟩ | ⟨g, cap, cur, rfl, hbg, hh, hnc, hcm, hcs, htk⟩
  · subst hn
    have hx : xs = [] := List.eq_nil_of_length_eq_zero (by simpa using hown.1)
    subst hx
    obtain ⟨v2, w2, hr2, h2, _⟩ := run_append_own (P := P) w w.heap.size t ty e i z size bytes ht hi hz hsize hby hzs hsz _ 0 [] (World.ownsRow_nil w _ e size) a m c news hl hnews h1 h63 hbytes (Nat.le_refl _)
    rw [hr] at hr2
    injection hr2 with e1 e2
    subst e1 e2
    intro hc
    have := (h2.lt p hc).1
    omega
  · by_cases hroom : n + m ≤ cap
    · obtain ⟨w2, hr2, _⟩ := run_append_fits (P := P) w base t ty e i size ht hi hsize g n cap xs hown a m c news hl hnews h1 hroom
      rw [hr] at hr2
      injection hr2 with e1 e2
      subst e1
      exact hap
    · have hadd : ∀ k, (⟨g, 0, none⟩ : Addr).add k = ⟨g, k, none⟩ := fun k => by unfold Addr.add; split <;> simp_all
      obtain ⟨v2, w2, hr2, h2, _⟩ := run_append_arg_grows (P := P) w t ty e i z size bytes ht hi hz hsize hby hzs hsz ⟨g, 0, none⟩ n cap xs hown.1 (fun j u hu => by rw [hadd]; rw [hown.cellAt j (by rw [← hown.1]; exact (List.getElem?_eq_some_iff.1 hu).1)]; exact hu) a m c news hl hnews (by omega) h63 hbytes
      rw [hr] at hr2
      injection hr2 with e1 e2
      subst e1 e2
      intro hc
      have := (h2.lt p hc).1
      omega

/-- One span more; whatever block was apart from the slice's own is still. -/
theorem appSpanF {W : World} {ops : Array Oper} {rest : List Oper} {o : Oper} {a : Act} {Q : Exit → Act → World → Prop} (hgd : o.guard = none) (s x : Operand)
    (ho : o.op = .call { callee := .builtin .append, args := #[s, x], argTypes := #[22, 22] }) (base : Nat) (v : Value) (l : List (Int × Int)) (hs : a.eval s = v) (hown : W.ownsRow base 29 2 v l.length (flat l))
    (b : Nat) (f t : Int) (hx : a.eval x = .slice (some ⟨b, 0, none⟩) 1 1) (hc1 : W.cell? ⟨b, 0, none⟩ = some (.int .i64 f)) (hc2 : W.cell? ⟨b, 1, none⟩ = some (.int .i64 t))
    (hbytes : (l.length + 1) * 16 ≤ 140737488355328) (hbase : base ≤ W.heap.size) (w0 : World) (hB : Below base w0 W)
    (h : ∀ v' w', w'.ownsRow base 29 2 v' (l ++ [(f, t)]).length (flat (l ++ [(f, t)])) → Below base w0 w' → W.heap.size ≤ w'.heap.size → W.grownBy w' v.ownBlock → (∀ p, p < W.heap.size → Apart v p → Apart v' p) → wpList Tryd.prog ops Q rest (a.put o.dst v') w') : wpList Tryd.prog ops Q (o :: rest) a W := by
  obtain ⟨i0, hi, hz0, hz1, hz2⟩ := info_parts infoSpan
  have hn : ∀ j u, ([.int .i64 f, .int .i64 t] : List Value)[j]? = some u → W.cell? ((⟨b, 0, none⟩ : Addr).add j) = some u := fun j u hu => by
    have : ∀ k, (⟨b, 0, none⟩ : Addr).add k = ⟨b, k, none⟩ := fun k => by unfold Addr.add; split <;> simp_all
    rw [this]
    match j, hu with
    | 0, hu => simp at hu; subst hu; exact hc1
    | 1, hu => simp at hu; subst hu; exact hc2
  have h1 : ∀ u ∈ ([.int .i64 f, .int .i64 t] : List Value), u.oneCell' = true := fun u hu => by simp at hu; rcases hu with rfl | rfl <;> rfl
  have h63 : l.length + 1 ≤ maxLen := by unfold maxLen; omega
  obtain ⟨v', w', hr, h2, h3, _⟩ := run_append_own (P := Tryd.prog) W base 22 o.type 29 i0 (.agg #[.int .i64 0, .int .i64 0]) 2 16 Tryd.underlying22 hi hz0 hz1 hz2 rfl (by decide) v l.length (flat l) hown ⟨b, 0, none⟩ 1 1 [.int .i64 f, .int .i64 t] rfl hn h1 h63 hbytes hbase
  have hf := append_fresh (P := Tryd.prog) W base 22 o.type 29 i0 (.agg #[.int .i64 0, .int .i64 0]) 2 16 Tryd.underlying22 hi hz0 hz1 hz2 rfl (by decide) v l.length (flat l) hown ⟨b, 0, none⟩ 1 1 [.int .i64 f, .int .i64 t] rfl hn h1 h63 hbytes v' w' hr
  refine Lib.wpList_append_run W hgd s x 22 22 ho v (.slice (some ⟨b, 0, none⟩) 1 1) hs hx v' w' hr (h v' w' ?_ (hB.grown h3 hbase (fun k hk => (hown.lt k hk).1)) h3.size h3 hf)
  rw [flat_append, List.length_append]; exact h2
end Go.Proofs.YtmmkjokgjhcdlaaDoor
