/- Small laws of the prover's own, over any program: an append of one element to a slice of the call's own; what is kept by calls that change nothing that was there. -/
import Derived.WalkKit
import Derived.WalkSpells
import Derived.WalkLawsBesides
import Derived.Lib.Hide
import Derived.RangeFuncBox
import Derived.Test.YtacedfcckkpciaaGreatDoorRows
namespace Go.Proofs.YtacedfcckkpciaaGreatDoor

def hasB (f t x : Int) : Bool := decide (f ≤ x ∧ x < t)
theorem hasB_iff (f t x : Int) : hasB f t x = true ↔ f ≤ x ∧ x < t := by simp [hasB]
def inL (l : List (Int × Int)) (x : Int) : Bool := l.any fun p => hasB p.1 p.2 x
@[simp] theorem inL_nil (x : Int) : inL [] x = false := rfl
@[simp] theorem inL_cons (p : Int × Int) (l : List (Int × Int)) (x : Int) : inL (p :: l) x = (hasB p.1 p.2 x || inL l x) := rfl
theorem inL_append (l m : List (Int × Int)) (x : Int) : inL (l ++ m) x = (inL l x || inL m x) := by simp [inL]
theorem inL_iff (l : List (Int × Int)) (x : Int) : inL l x = true ↔ ∃ p ∈ l, p.1 ≤ x ∧ x < p.2 := by simp [inL, hasB]

/-- Spans that rise, not empty, and do not touch. -/
def Norm : List (Int × Int) → Prop
  | [] => True
  | p :: l => p.1 < p.2 ∧ (∀ q ∈ l, p.2 < q.1) ∧ Norm l

theorem inL_false_of_lt {l : List (Int × Int)} {b x : Int} (h : ∀ q ∈ l, b ≤ q.1) (hx : x < b) : inL l x = false := by
  rw [Bool.eq_false_iff]
  intro hc
  obtain ⟨p, hp, h1, _⟩ := (inL_iff l x).1 hc
  have := h p hp
  omega

theorem norm_ext : ∀ {l m : List (Int × Int)}, Norm l → Norm m → (∀ x, inL l x = inL m x) → l = m
  | [], [], _, _, _ => rfl
  | [], p :: m, _, hm, h => by
    have := h p.1
    have hh : hasB p.1 p.2 p.1 = true := (hasB_iff ..).2 ⟨by omega, hm.1⟩
    simp [hh] at this
  | p :: l, [], hl, _, h => by
    have := h p.1
    have hh : hasB p.1 p.2 p.1 = true := (hasB_iff ..).2 ⟨by omega, hl.1⟩
    simp [hh] at this
  | p :: l, q :: m, hl, hm, h => by
    obtain ⟨l1, l2, l3⟩ := hl
    obtain ⟨m1, m2, m3⟩ := hm
    have key : ∀ (a b c d : Int) (l m : List (Int × Int)), a < b → (∀ q ∈ l, b < q.1) → c < d → (∀ q ∈ m, d < q.1) → (∀ x, (hasB a b x || inL l x) = (hasB c d x || inL m x)) → c ≤ a ∧ (c = a → b ≤ d) := by
      intro a b c d l m hab hl hcd hm h
      refine ⟨?_, ?_⟩
      · have h1 := h a
        have e1 : hasB a b a = true := (hasB_iff ..).2 ⟨by omega, hab⟩
        rw [e1, Bool.true_or] at h1
        have h2 := h1.symm
        rw [Bool.or_eq_true] at h2
        rcases h2 with h2 | h2
        · exact ((hasB_iff ..).1 h2).1
        · obtain ⟨p, hp, h3, _⟩ := (inL_iff m a).1 h2
          have := hm p hp
          omega
      · rintro rfl
        have : ¬ d < b := by
          intro hdb
          have h1 := h d
          have e1 : hasB c b d = true := (hasB_iff ..).2 ⟨by omega, hdb⟩
          have e2 : hasB c d d = false := by rw [Bool.eq_false_iff]; intro hc; have := (hasB_iff ..).1 hc; omega
          have e3 : inL m d = false := by
            rw [Bool.eq_false_iff]; intro hc
            obtain ⟨p, hp, h3, _⟩ := (inL_iff m d).1 hc
            have := hm p hp
            omega
          rw [e1, e2, e3] at h1
          cases h1
        omega
    have k1 := key p.1 p.2 q.1 q.2 l m l1 l2 m1 m2 h
    have k2 := key q.1 q.2 p.1 p.2 m l m1 m2 l1 l2 (fun x => (h x).symm)
    have e1 : p.1 = q.1 := by omega
    have e2 : p.2 = q.2 := by have := k1.2 (by omega); have := k2.2 (by omega); omega
    have e : p = q := Prod.ext e1 e2
    subst e
    congr 1
    refine norm_ext l3 m3 fun x => ?_
    have hx := h x
    simp only [inL_cons] at hx
    by_cases hp : hasB p.1 p.2 x = true
    · have hb := (hasB_iff ..).1 hp
      rw [inL_false_of_lt (b := p.2) (fun q hq => by have := l2 q hq; omega) hb.2, inL_false_of_lt (b := p.2) (fun q hq => by have := m2 q hq; omega) hb.2]
    · have hp' : hasB p.1 p.2 x = false := by simpa using hp
      rw [hp', Bool.false_or, Bool.false_or] at hx
      exact hx

/-! ### Where -/
/-- The last span ends there. -/
def setLast (l : List (Int × Int)) (t : Int) : List (Int × Int) := l.dropLast ++ (match l.getLast? with | some a => [(a.1, t)] | none => [])
theorem setLast_snoc (l : List (Int × Int)) (a : Int × Int) (t : Int) : setLast (l ++ [a]) t = l ++ [(a.1, t)] := by simp [setLast]
def whStep (p : Int → Bool) (s : List (Int × Int) × Bool) (t : Int) : List (Int × Int) × Bool :=
  if p t && !s.2 then (s.1 ++ [(t, 0)], true) else if !p t && s.2 then (setLast s.1 t, false) else s
def whS (p : Int → Bool) (l : List Int) : List (Int × Int) × Bool := l.foldl (whStep p) ([], false)
def whereL (p : Int → Bool) (l : List Int) : List (Int × Int) := (whS p l).1

def wh (p : Int → Bool) : Option Int → List Int → List (Int × Int)
  | none, [] => []
  | none, e :: r => if p e then wh p (some e) r else wh p none r
  | some f, [] => [(f, 0)]
  | some f, e :: r => if p e then wh p (some f) r else (f, e) :: wh p none r

theorem whS_eq (p : Int → Bool) (es : List Int) : ∀ out : List (Int × Int),
    ((es.foldl (whStep p) (out, false)).1 = out ++ wh p none es) ∧ (∀ f, (es.foldl (whStep p) (out ++ [(f, 0)], true)).1 = out ++ wh p (some f) es) := by
  induction es with
  | nil => intro out; exact ⟨by simp [wh], fun f => by simp [wh]⟩
  | cons e r ih =>
    intro out
    refine ⟨?_, fun f => ?_⟩
    · simp only [List.foldl_cons]
      cases hp : p e
      · simp only [whStep, hp, wh]; simpa using (ih out).1
      · simp only [whStep, hp, wh]; simpa using (ih out).2 e
    · simp only [List.foldl_cons]
      cases hp : p e
      · simp only [whStep, hp, wh, setLast_snoc]
        have := (ih (out ++ [(f, e)])).1
        simpa using this
      · simp only [whStep, hp, wh]; simpa using (ih out).2 f
theorem whereL_eq (p : Int → Bool) (es : List Int) : whereL p es = wh p none es := by
  have := (whS_eq p es []).1
  simpa [whereL, whS] using this

/-- Rising ends, between which p does not change, and behind which it says no. -/
def Cut (p : Int → Bool) : List Int → Prop
  | [] => True
  | [e] => ∀ t, e ≤ t → p t = false
  | e :: e' :: r => e ≤ e' ∧ (∀ t, e ≤ t → t < e' → p t = p e) ∧ Cut p (e' :: r)

theorem wh_spec (p : Int → Bool) : ∀ (r : List Int) (e : Int), Cut p (e :: r) →
    (Norm (wh p none (e :: r)) ∧ (∀ q ∈ wh p none (e :: r), e ≤ q.1) ∧ ∀ t, e ≤ t → inL (wh p none (e :: r)) t = p t) ∧
    (∀ f, f ≤ e → p f = true → (∀ t, f ≤ t → t < e → p t = true) → Norm (wh p (some f) (e :: r)) ∧ (∀ q ∈ wh p (some f) (e :: r), f ≤ q.1) ∧ ∀ t, f ≤ t → inL (wh p (some f) (e :: r)) t = p t) := by
  intro r
  induction r with
  | nil =>
    intro e hc
    have he : p e = false := hc e (by omega)
    refine ⟨?_, fun f hf hpf hall => ?_⟩
    · simp only [wh, he]
      exact ⟨trivial, by simp, fun t ht => by simp [hc t ht]⟩
    · have hfe : f < e := by
        rcases Int.lt_or_le f e with h | h
        · exact h
        · have : f = e := by omega
          rw [this, he] at hpf; cases hpf
      simp only [wh, he]
      refine ⟨⟨hfe, by simp, trivial⟩, by simp, fun t ht => ?_⟩
      by_cases hte : t < e
      · simp [(hasB_iff f e t).2 ⟨ht, hte⟩, hall t ht hte]
      · have : hasB f e t = false := by rw [Bool.eq_false_iff]; intro h; have := (hasB_iff ..).1 h; omega
        simp [this, hc t (by omega)]
  | cons e' r ih =>
    intro e hc
    obtain ⟨hle, hsame, hc'⟩ := hc
    obtain ⟨ihn, ihs⟩ := ih e' hc'
    refine ⟨?_, fun f hf hpf hall => ?_⟩
    · cases hp : p e
      · have : wh p none (e :: e' :: r) = wh p none (e' :: r) := by rw [wh]; simp [hp]
        rw [this]
        refine ⟨ihn.1, fun q hq => by have := ihn.2.1 q hq; omega, fun t ht => ?_⟩
        by_cases hte : t < e'
        · rw [inL_false_of_lt ihn.2.1 hte, hsame t ht hte, hp]
        · exact ihn.2.2 t (by omega)
      · have : wh p none (e :: e' :: r) = wh p (some e) (e' :: r) := by rw [wh]; simp [hp]
        rw [this]
        exact ihs e hle hp (fun t h1 h2 => by rw [hsame t h1 h2, hp])
    · cases hp : p e
      · have hfe : f < e := by
          rcases Int.lt_or_le f e with h | h
          · exact h
          · have : f = e := by omega
            rw [this, hp] at hpf; cases hpf
        have : wh p (some f) (e :: e' :: r) = (f, e) :: wh p none (e' :: r) := by
          show (if p e then wh p (some f) (e' :: r) else (f, e) :: wh p none (e' :: r)) = _
          rw [if_neg (by simp [hp])]
        rw [this]
        have hee : e < e' ∨ wh p none (e' :: r) = wh p none (e' :: r) := .inr rfl
        have hgt : ∀ q ∈ wh p none (e' :: r), e < q.1 := by
          intro q hq
          have h1 := ihn.2.1 q hq
          rcases Int.lt_or_le e q.1 with h | h
          · exact h
          · exfalso
            have hqe : q.1 = e := by omega
            have hee' : e' = e := by omega
            have hin : inL (wh p none (e' :: r)) e = true := by
              rw [inL_iff]
              refine ⟨q, hq, by omega, ?_⟩
              have : ∀ (l : List (Int × Int)), Norm l → ∀ q ∈ l, q.1 < q.2 := by
                intro l
                induction l with
                | nil => intro _ q hq; cases hq
                | cons a l ih => intro hn q hq; cases hq with
                  | head => exact hn.1
                  | tail _ h => exact ih hn.2.2 q h
              have := this _ ihn.1 q hq
              omega
            rw [ihn.2.2 e (by omega), hp] at hin
            cases hin
        refine ⟨⟨hfe, hgt, ihn.1⟩, fun q hq => ?_, fun t ht => ?_⟩
        · cases hq with
          | head => exact Int.le_refl _
          | tail _ h => have := hgt q h; omega
        · by_cases hte : t < e
          · simp [(hasB_iff f e t).2 ⟨ht, hte⟩, hall t ht hte]
          · have h1 : hasB f e t = false := by rw [Bool.eq_false_iff]; intro h; have := (hasB_iff ..).1 h; omega
            rw [inL_cons]
            simp only [h1, Bool.false_or]
            by_cases hte' : t < e'
            · rw [inL_false_of_lt ihn.2.1 hte', hsame t (by omega) hte', hp]
            · exact ihn.2.2 t (by omega)
      · have : wh p (some f) (e :: e' :: r) = wh p (some f) (e' :: r) := by rw [wh]; simp [hp]
        rw [this]
        refine ihs f (by omega) hpf fun t h1 h2 => ?_
        by_cases hte : t < e
        · exact hall t h1 hte
        · rw [hsame t (by omega) h2, hp]

/-- p changes at none but these, and says no ahead of all and behind all. -/
structure Ruled (p : Int → Bool) (es : List Int) : Prop where
  same : ∀ t t', t ≤ t' → (∀ e ∈ es, ¬ (t < e ∧ e ≤ t')) → p t = p t'
  ahead : ∀ t, (∀ e ∈ es, t < e) → p t = false
  behind : ∀ t, (∀ e ∈ es, e ≤ t) → p t = false

theorem cut_of (p : Int → Bool) (all : List Int) (hR : Ruled p all) : ∀ (es pre : List Int), (pre ++ es).Pairwise (· ≤ ·) → (∀ x, x ∈ all ↔ x ∈ pre ++ es) → Cut p es
  | [], _, _, _ => trivial
  | [e], pre, hs, hm => fun t ht => hR.behind t fun x hx => by
    have := (hm x).1 hx
    rw [List.mem_append] at this
    rw [List.pairwise_append] at hs
    rcases this with h | h
    · have := hs.2.2 x h e (by simp); omega
    · simp at h; omega
  | e :: e' :: r, pre, hs, hm => by
    have hs0 := hs
    rw [List.pairwise_append] at hs
    obtain ⟨h1, h2, h3⟩ := hs
    rw [List.pairwise_cons] at h2
    refine ⟨h2.1 e' (by simp), fun t ht hlt => (hR.same e t ht fun x hx => ?_).symm, cut_of p all hR (e' :: r) (pre ++ [e]) (by simpa using hs0) (fun x => by rw [hm]; simp)⟩
    have := (hm x).1 hx
    rw [List.mem_append] at this
    rcases this with h | h
    · have := h3 x h e (by simp); omega
    · rcases List.mem_cons.1 h with rfl | h
      · omega
      · rcases List.mem_cons.1 h with rfl | h
        · omega
        · have := (List.pairwise_cons.1 h2.2).1 x h; omega

theorem whereL_spec (p : Int → Bool) (all es : List Int) (hR : Ruled p all) (hs : es.Pairwise (· ≤ ·)) (hm : ∀ x, x ∈ all ↔ x ∈ es) : Norm (whereL p es) ∧ ∀ t, inL (whereL p es) t = p t := by
  rw [whereL_eq]
  cases es with
  | nil => exact ⟨trivial, fun t => by rw [show wh p none [] = [] from rfl, hR.ahead t (fun x hx => by have := (hm x).1 hx; cases this)]; rfl⟩
  | cons e r =>
    have hc := cut_of p all hR (e :: r) [] (by simpa using hs) (by simpa using hm)
    have h := (wh_spec p r e hc).1
    refine ⟨h.1, fun t => ?_⟩
    by_cases ht : t < e
    · rw [inL_false_of_lt h.2.1 ht, hR.ahead t]
      intro x hx
      rcases List.mem_cons.1 ((hm x).1 hx) with rfl | h
      · exact ht
      · have := (List.pairwise_cons.1 hs).1 x h; omega
    · exact h.2.2 t (by omega)

theorem ruled_has (f t : Int) (es : List Int) (hf : f ∈ es) (ht : t ∈ es) : Ruled (hasB f t) es where
  same := fun x x' hx h => by
    have h1 := h f hf; have h2 := h t ht
    unfold hasB
    rw [decide_eq_decide]; omega
  ahead := fun x h => by have h1 := h f hf; rw [Bool.eq_false_iff]; intro hc; have := (hasB_iff ..).1 hc; omega
  behind := fun x h => by have h1 := h t ht; rw [Bool.eq_false_iff]; intro hc; have := (hasB_iff ..).1 hc; omega
theorem Ruled.and {p q : Int → Bool} {es : List Int} (hp : Ruled p es) (hq : ∀ t t', t ≤ t' → (∀ e ∈ es, ¬ (t < e ∧ e ≤ t')) → q t = q t') : Ruled (fun t => p t && q t) es where
  same := fun t t' ht h => by rw [hp.same t t' ht h, hq t t' ht h]
  ahead := fun t h => by rw [hp.ahead t h]; rfl
  behind := fun t h => by rw [hp.behind t h]; rfl
theorem Ruled.or {p q : Int → Bool} {es : List Int} (hp : Ruled p es) (hq : Ruled q es) : Ruled (fun t => p t || q t) es where
  same := fun t t' ht h => by rw [hp.same t t' ht h, hq.same t t' ht h]
  ahead := fun t h => by rw [hp.ahead t h, hq.ahead t h]; rfl
  behind := fun t h => by rw [hp.behind t h, hq.behind t h]; rfl
theorem ruled_inL (l : List (Int × Int)) (es : List Int) (h : ∀ p ∈ l, p.1 ∈ es ∧ p.2 ∈ es) : Ruled (inL l) es := by
  induction l with
  | nil => exact ⟨fun _ _ _ _ => rfl, fun _ _ => rfl, fun _ _ => rfl⟩
  | cons a l ih =>
    have h1 := h a (by simp)
    exact (ruled_has a.1 a.2 es h1.1 h1.2).or (ih fun p hp => h p (List.mem_cons_of_mem _ hp))

def sortI (l : List Int) : List Int := l.mergeSort fun x y => decide (x ≤ y)
theorem sortI_sorted (l : List Int) : (sortI l).Pairwise (· ≤ ·) := by
  have h := List.pairwise_mergeSort (le := fun x y : Int => decide (x ≤ y)) (by intro a b c; simp; omega) (by intro a b; simp; omega) l
  exact h.imp (by intro a b; simp)
theorem mem_sortI (l : List Int) (x : Int) : x ∈ l ↔ x ∈ sortI l := by unfold sortI; simp

def endsL (l : List (Int × Int)) : List Int := l.flatMap fun p => [p.1, p.2]
theorem mem_endsL (l : List (Int × Int)) : ∀ p ∈ l, p.1 ∈ endsL l ∧ p.2 ∈ endsL l := fun p hp => by
  unfold endsL
  exact ⟨List.mem_flatMap.2 ⟨p, hp, by simp⟩, List.mem_flatMap.2 ⟨p, hp, by simp⟩⟩
end Go.Proofs.YtacedfcckkpciaaGreatDoor

namespace Go.Proofs.YtacedfcckkpciaaGreatDoor
open Go.RowKit

theorem ownsRow_below {w w' : World} {base : Nat} {e : TypeId} {size : Nat} {v : Value} {n : Nat} {xs : List Value} (h : w.ownsRow base e size v n xs) (hb : Below w.heap.size w w') : w'.ownsRow base e size v n xs :=
  ⟨h.1, h.2.imp id fun ⟨g, cap, cur, h1, h2, h3, h4⟩ => ⟨g, cap, cur, h1, h2, (hb.block g (Array.getElem?_eq_some_iff.1 h3).1).trans h3, h4⟩⟩
theorem below_trans {B : Nat} {a b c : World} (h : Below B a b) (hB : B ≤ b.heap.size) (k : Below b.heap.size b c) : Below B a c := h.trans (k.mono hB)

theorem ownsRow_mono {w : World} {base base' : Nat} {e : TypeId} {size : Nat} {v : Value} {n : Nat} {xs : List Value} (h : w.ownsRow base e size v n xs) (hb : base' ≤ base) : w.ownsRow base' e size v n xs :=
  ⟨h.1, h.2.imp id fun ⟨g, cap, cur, h1, h2, h3⟩ => ⟨g, cap, cur, h1, Nat.le_trans hb h2, h3⟩⟩

theorem below_step {a b c : World} (h : Below a.heap.size a b) (k : Below b.heap.size b c) : Below a.heap.size a c := below_trans h h.size k
theorem below_cell {B : Nat} {w w' : World} (h : Below B w w') {b o : Nat} {v : Value} (hb : b < B) (hc : w.cell? ⟨b, o, none⟩ = some v) : w'.cell? ⟨b, o, none⟩ = some v := (h.cell (p := ⟨b, o, none⟩) hb).trans hc
theorem below_frozen {B : Nat} {w w' : World} (h : Below B w w') {b o : Nat} {v : Bool} (hb : b < B) (hc : w.frozen? ⟨b, o, none⟩ = v) : w'.frozen? ⟨b, o, none⟩ = v := (h.frozen (p := ⟨b, o, none⟩) hb).trans hc

theorem below_over {X w1 : World} {o : Obj} (h : Below (X.alloc o).heap.size (X.alloc o) w1) : Below X.heap.size X w1 := ((Below.refl _ _).alloc (Nat.le_refl _) _).trans (h.mono (by simp))
theorem below_over2 {X w1 : World} {o o' : Obj} (h : Below ((X.alloc o).alloc o').heap.size ((X.alloc o).alloc o') w1) : Below X.heap.size X w1 := below_over (below_over h)

theorem cell2a {X : World} {n : Nat} {x y : Value} {t : TypeId} (hn : X.heap.size = n) : (X.alloc (.cells #[x, y] t)).cell? ⟨n, 0, none⟩ = some x := by subst hn; simp
theorem cell2b {X : World} {n : Nat} {x y : Value} {t : TypeId} (hn : X.heap.size = n) : (X.alloc (.cells #[x, y] t)).cell? ⟨n, 1, none⟩ = some y := by subst hn; simp

/-- The least, the greatest of two: behind a name, so that a walk does not part on them. -/
def imin (x y : Int) : Int := min x y
def imax (x y : Int) : Int := max x y
@[go_sem high] theorem run_min_name {P : Program} {w : World} (ts : Array TypeId) (t : TypeId) (k k' : IntKind) (x y : Int) : (Builtin.min_ ts t #[.int k x, .int k' y]).run P w = .ok (.int k (imin x y)) w := by
  rw [run_min_int2]
  congr 2
  unfold imin; omega
@[go_sem high] theorem run_max_name {P : Program} {w : World} (ts : Array TypeId) (t : TypeId) (k k' : IntKind) (x y : Int) : (Builtin.max_ ts t #[.int k x, .int k' y]).run P w = .ok (.int k (imax x y)) w := by
  rw [run_max_int2]
  congr 2
  unfold imax; omega

/-- One element more, behind whatever world. -/
theorem app1 {P : Program} {W : World} {ops : Array Oper} {rest : List Oper} {o : Oper} {a : Act} {Q : Exit → Act → World → Prop} (hgd : o.guard = none) (s x : Operand) (t : TypeId)
    (ho : o.op = .call { callee := .builtin .append, args := #[s, x], argTypes := #[t, t] }) (base : Nat) (e : TypeId) {z : Value} {size bytes : Nat} (ht : P.underlying t = some (.slice e))
    (hinfo : (P.info? e).map (fun i => (i.zero, i.size, i.bytes)) = some (some z, size, bytes)) (hzs : z.cells.size = size) (hsz : 0 < size) (hby : 0 < bytes)
    (v : Value) (n : Nat) (xs : List Value) (hs : a.eval s = v) (hown : W.ownsRow base e size v n xs)
    (b : Nat) (news : List Value) (hx : a.eval x = .slice (some ⟨b, 0, none⟩) 1 1) (hl : news.length = 1 * size) (h1 : ∀ u ∈ news, u.oneCell' = true) (hnews : ∀ j u, news[j]? = some u → W.cell? ⟨b, j, none⟩ = some u)
    (hbytes : (n + 1) * bytes ≤ 140737488355328) (hbase : base ≤ W.heap.size) (w0 : World) (hB : Below base w0 W)
    (h : ∀ v' w', w'.ownsRow base e size v' (n + 1) (xs ++ news) → Below base w0 w' → W.heap.size ≤ w'.heap.size → (∃ g cap, v' = .slice (some ⟨g, 0, none⟩) (n + 1) cap) → W.grownBy w' v.ownBlock → wpList P ops Q rest (a.put o.dst v') w') : wpList P ops Q (o :: rest) a W := by
  obtain ⟨i, hi, hz0, hz1, hz2⟩ := info_parts hinfo
  have h63 : n + 1 ≤ maxLen := by
    have : n + 1 ≤ (n + 1) * bytes := Nat.le_mul_of_pos_right _ hby
    unfold maxLen; omega
  refine wpList_append_own _ hgd s x t ho base e i z size bytes ht hi hz0 hz1 hz2 hzs hsz v n xs hs hown ⟨b, 0, none⟩ 1 1 news hx hl ?_ h1 h63 hbytes hbase ?_
  · intro j u hu
    have : (⟨b, 0, none⟩ : Addr).add j = ⟨b, j, none⟩ := by unfold Addr.add; split <;> simp_all
    rw [this]; exact hnews j u hu
  · intro v' w' h2 h3 _
    exact h v' w' h2 (hB.grown h3 hbase (fun k hk => (hown.lt k hk).1)) h3.size (ownsRow_succ h2) h3
end Go.Proofs.YtacedfcckkpciaaGreatDoor
