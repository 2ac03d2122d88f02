/- The document's graph in memory: values, nodes, edges, what nodes have. -/
import Derived.Test.YtflhpmgjehjjkaaGreatDoorWkHJo
import Derived.Test.YtflhpmgjehjjkaaGreatDoorWkIJo
import Derived.Test.YtflhpmgjehjjkaaGreatDoorFcKJo
import Derived.Test.YtflhpmgjehjjkaaGreatDoorTreeHJo
namespace Go.Proofs.YtflhpmgjehjjkaaGreatDoor

/-- So many edges of a word lead from x to y. -/
def Pth (E : List KeyP) (word : ByteArray) : Nat → Int → Int → Prop
  | 0, x, y => x = y
  | n + 1, x, y => ∃ k ∈ E, k.a = x ∧ wordIs word k = true ∧ Pth E word n k.b y
theorem Pth.snoc {E : List KeyP} {word : ByteArray} : ∀ {n : Nat} {x z : Int}, Pth E word n x z → ∀ {k : KeyP}, k ∈ E → k.a = z → wordIs word k = true → Pth E word (n + 1) x k.b
  | 0, _x, _z, h, k, hk, e, hw => ⟨k, hk, e.trans h.symm, hw, rfl⟩
  | _n + 1, _x, _z, ⟨q, hq, h1, h2, h3⟩, _k, hk, e, hw => ⟨q, hq, h1, h2, Pth.snoc h3 hk e hw⟩
theorem Pth.last {E : List KeyP} {word : ByteArray} : ∀ {n : Nat} {x y : Int}, Pth E word (n + 1) x y → ∃ k ∈ E, Pth E word n x k.a ∧ wordIs word k = true ∧ k.b = y
  | 0, x, y, ⟨k, hk, h1, h2, h3⟩ => ⟨k, hk, h1.symm, h2, h3⟩
  | n + 1, x, y, ⟨q, hq, h1, h2, h3⟩ => by
    obtain ⟨k, hk, g1, g2, g3⟩ := Pth.last h3
    exact ⟨k, hk, ⟨q, hq, h1, h2, g1⟩, g2, g3⟩
theorem Pth.join {E : List KeyP} {word : ByteArray} : ∀ {n m : Nat} {x y z : Int}, Pth E word n x y → Pth E word m y z → Pth E word (n + m) x z
  | 0, m, x, y, z, h, g => by rw [Nat.zero_add, show x = y from h]; exact g
  | n + 1, m, x, y, z, ⟨q, hq, h1, h2, h3⟩, g => by
    rw [show n + 1 + m = n + m + 1 by omega]
    exact ⟨q, hq, h1, h2, Pth.join h3 g⟩
/-- So many, and no fewer. -/
def Mn (E : List KeyP) (word : ByteArray) (n : Nat) (x y : Int) : Prop := Pth E word n x y ∧ ∀ m, m < n → ¬ Pth E word m x y
theorem Mn.one {E : List KeyP} {word : ByteArray} {n m : Nat} {x y : Int} (h : Mn E word n x y) (g : Mn E word m x y) : n = m := by
  rcases Nat.lt_trichotomy n m with e | e | e
  · exact absurd h.1 (g.2 n e)
  · exact e
  · exact absurd g.1 (h.2 m e)
theorem Pth.mn {E : List KeyP} {word : ByteArray} {x y : Int} : ∀ {n : Nat}, Pth E word n x y → ∃ m, m ≤ n ∧ Mn E word m x y := fun {n} => by
  induction n using Nat.strongRecOn with
  | ind n ih =>
    intro h
    by_cases hm : ∃ m, m < n ∧ Pth E word m x y
    · obtain ⟨m, h1, h2⟩ := hm
      obtain ⟨k, g1, g2⟩ := ih m h1 h2
      exact ⟨k, by omega, g2⟩
    · exact ⟨n, Nat.le_refl _, h, fun m h1 h2 => hm ⟨m, h1, h2⟩⟩
theorem mem_next {E : List KeyP} {word : ByteArray} {x y : Int} : y ∈ nextP E x word ↔ ∃ k ∈ E, k.a = x ∧ wordIs word k = true ∧ k.b = y := by
  unfold nextP
  rw [List.mem_filterMap]
  constructor
  · rintro ⟨k, hk, e⟩
    split at e
    · rename_i h; cases e; exact ⟨k, hk, h.1, h.2, rfl⟩
    · cases e
  · rintro ⟨k, hk, h1, h2, rfl⟩
    exact ⟨k, hk, if_pos ⟨h1, h2⟩⟩

/-! ### Hops -/
theorem hopIn_mem {c : List Int × List Int} {y z : Int} : z ∈ (hopIn c y).1 ↔ z ∈ c.1 ∨ z = y := by
  unfold hopIn
  split
  · rename_i h; exact ⟨.inl, fun e => e.elim id (fun e => by rw [e]; exact h)⟩
  · simp
theorem hopFold_mem {z : Int} : ∀ {l : List Int} {c : List Int × List Int}, z ∈ (l.foldl hopIn c).1 ↔ z ∈ c.1 ∨ z ∈ l
  | [], c => by simp
  | y :: l, c => by
    rw [List.foldl_cons, hopFold_mem (l := l), hopIn_mem, List.mem_cons, or_assoc]
theorem hopTo_mem {E : List KeyP} {word : ByteArray} {z : Int} : ∀ {l : List Int} {c : List Int × List Int}, z ∈ (l.foldl (hopTo E word) c).1 ↔ z ∈ c.1 ∨ ∃ x ∈ l, z ∈ nextP E x word
  | [], c => by simp
  | y :: l, c => by
    rw [List.foldl_cons, hopTo_mem (l := l)]
    unfold hopTo
    rw [hopFold_mem]
    simp only [List.mem_cons, exists_eq_or_imp, or_assoc]
/-- What is new is in the line, and nothing else. -/
def NewIs (had : List Int) (c : List Int × List Int) : Prop := ∀ z, z ∈ c.2 ↔ z ∈ c.1 ∧ z ∉ had
theorem NewIs.in' {had : List Int} {c : List Int × List Int} (h : NewIs had c) (hs : ∀ z ∈ had, z ∈ c.1) (y : Int) : NewIs had (hopIn c y) ∧ ∀ z ∈ had, z ∈ (hopIn c y).1 := by
  refine ⟨?_, fun z hz => hopIn_mem.2 (.inl (hs z hz))⟩
  unfold hopIn
  split
  · exact h
  · rename_i hn
    intro z
    simp only [List.mem_append, List.mem_singleton]
    rw [h z]
    constructor
    · rintro (⟨h1, h2⟩ | rfl)
      · exact ⟨.inl h1, h2⟩
      · exact ⟨.inr rfl, fun e => hn (hs _ e)⟩
    · rintro ⟨h1 | h1, h2⟩
      · exact .inl ⟨h1, h2⟩
      · exact .inr h1
theorem NewIs.fold {had : List Int} : ∀ {l : List Int} {c : List Int × List Int}, NewIs had c → (∀ z ∈ had, z ∈ c.1) → NewIs had (l.foldl hopIn c) ∧ ∀ z ∈ had, z ∈ (l.foldl hopIn c).1
  | [], _, h, hs => ⟨h, hs⟩
  | y :: l, _c, h, hs => NewIs.fold (l := l) (h.in' hs y).1 (h.in' hs y).2
theorem NewIs.line {E : List KeyP} {word : ByteArray} {had : List Int} : ∀ {l : List Int} {c : List Int × List Int}, NewIs had c → (∀ z ∈ had, z ∈ c.1) → NewIs had (l.foldl (hopTo E word) c)
  | [], _, h, _ => h
  | y :: l, _c, h, hs => NewIs.line (l := l) (h.fold (l := nextP E y word) hs).1 (h.fold (l := nextP E y word) hs).2
structure HopIs (E : List KeyP) (word : ByteArray) (x : Int) (n : Nat) (c : List Int × List Int) : Prop where
  all : ∀ y, y ∈ c.1 ↔ ∃ m, m ≤ n ∧ Pth E word m x y
  new : ∀ y, y ∈ c.2 ↔ Mn E word n x y
theorem hopS_is (E : List KeyP) (word : ByteArray) (x : Int) : ∀ n, HopIs E word x n (hopS E word x n)
  | 0 => by
    refine ⟨fun y => ?_, fun y => ?_⟩
    · show y ∈ [x] ↔ _
      rw [List.mem_singleton]
      refine ⟨fun e => ⟨0, Nat.le_refl _, e.symm⟩, fun ⟨m, hm, h⟩ => ?_⟩
      obtain rfl : m = 0 := by omega
      exact (show x = y from h).symm
    · show y ∈ [x] ↔ _
      rw [List.mem_singleton]
      exact ⟨fun e => ⟨e.symm, fun m hm => absurd hm (Nat.not_lt_zero _)⟩, fun h => (show x = y from h.1).symm⟩
  | n + 1 => by
    have ih := hopS_is E word x n
    rw [hopS]
    have step : ∀ y, Pth E word (n + 1) x y → (∃ m, m ≤ n ∧ Pth E word m x y) ∨ ∃ z, z ∈ (hopS E word x n).2 ∧ y ∈ nextP E z word := fun y hy => by
      obtain ⟨k, hk, h1, h2, h3⟩ := Pth.last hy
      obtain ⟨m, hm, hmn⟩ := h1.mn
      by_cases e : m = n
      · subst e
        exact .inr ⟨k.a, (ih.new _).2 hmn, mem_next.2 ⟨k, hk, rfl, h2, h3⟩⟩
      · exact .inl ⟨m + 1, by omega, by rw [← h3]; exact hmn.1.snoc hk rfl h2⟩
    split
    · rename_i he
      have hno : ∀ y, Pth E word (n + 1) x y → ∃ m, m ≤ n ∧ Pth E word m x y := fun y hy => by
        rcases step y hy with h | ⟨z, hz, _⟩
        · exact h
        · rw [he] at hz; cases hz
      refine ⟨fun y => ?_, fun y => ?_⟩
      · rw [ih.all]
        constructor
        · rintro ⟨m, hm, h⟩; exact ⟨m, by omega, h⟩
        · rintro ⟨m, hm, h⟩
          by_cases e : m = n + 1
          · subst e; exact hno y h
          · exact ⟨m, by omega, h⟩
      · rw [he]
        constructor
        · intro h; cases h
        · rintro ⟨h1, h2⟩
          obtain ⟨m, hm, h⟩ := hno y h1
          exact absurd h (h2 m (by omega))
    · have hall : ∀ y, y ∈ (hopLine E word (hopS E word x n).1 (hopS E word x n).2).1 ↔ ∃ m, m ≤ n + 1 ∧ Pth E word m x y := fun y => by
        unfold hopLine
        rw [hopTo_mem]
        simp only [ih.all]
        constructor
        · rintro (⟨m, hm, h⟩ | ⟨z, hz, h⟩)
          · exact ⟨m, by omega, h⟩
          · obtain ⟨k, hk, h1, h2, rfl⟩ := mem_next.1 h
            exact ⟨n + 1, Nat.le_refl _, ((ih.new z).1 hz).1.snoc hk h1 h2⟩
        · rintro ⟨m, hm, h⟩
          by_cases e : m = n + 1
          · subst e; exact step y h
          · exact .inl ⟨m, by omega, h⟩
      refine ⟨hall, fun y => ?_⟩
      have hnew : NewIs (hopS E word x n).1 (hopLine E word (hopS E word x n).1 (hopS E word x n).2) := by
        unfold hopLine
        exact NewIs.line (fun z => ⟨fun h => (by cases h), fun h => absurd h.1 h.2⟩) fun z hz => hz
      rw [hnew y, hall, ih.all]
      constructor
      · rintro ⟨⟨m, hm, h⟩, h2⟩
        have e : m = n + 1 := by
          by_cases e : m = n + 1
          · exact e
          · exact absurd ⟨m, by omega, h⟩ h2
        subst e
        exact ⟨h, fun j hj g => h2 ⟨j, by omega, g⟩⟩
      · rintro ⟨h1, h2⟩
        exact ⟨⟨_, Nat.le_refl _, h1⟩, fun ⟨j, hj, g⟩ => h2 j (by omega) g⟩
theorem hop_mem {E : List KeyP} {word : ByteArray} {x y : Int} {n : Nat} : y ∈ hopP E word x n ↔ ∃ m, m ≤ n ∧ Pth E word m x y := (hopS_is E word x n).all y
theorem hop_nodup (E : List KeyP) (word : ByteArray) (x : Int) (n : Nat) : (hopP E word x n).Nodup := (hopS_ok E word x n).nod

/-! ### How far -/
/-- In one round: what was there stays; what is new is one farther. -/
structure Ext (E : List KeyP) (word : ByteArray) (n : Nat) (F : List (Int × Int)) (c : List (Int × Int) × List Int) : Prop where
  keep : ∀ z v, F.lookup z = some v → c.1.lookup z = some v
  new : ∀ z v, c.1.lookup z = some v → F.lookup z = none → v = (n : Int) + 1 ∧ z ∈ c.2 ∧ ∃ k ∈ E, k.a = z ∧ wordIs word k = true ∧ F.lookup k.b = some (n : Int)
  lin : ∀ z ∈ c.2, F.lookup z = none ∧ (c.1.lookup z).isSome = true
theorem Ext.in' {E : List KeyP} {word : ByteArray} {n : Nat} {F : List (Int × Int)} {c : List (Int × Int) × List Int} (h : Ext E word n F c) {x : Int} (hx : F.lookup x = some (n : Int)) {k : KeyP} (hk : k ∈ E) : Ext E word n F (farIn word x c k) := by
  unfold farIn
  split
  · rename_i hc
    obtain ⟨h1, h2, h3⟩ := hc
    have hn : c.1.lookup k.a = none := by simpa using h2
    have hF : F.lookup k.a = none := by
      cases e : F.lookup k.a with
      | none => rfl
      | some v => rw [h.keep _ _ e] at hn; cases hn
    rw [h.keep _ _ hx, Option.getD_some]
    refine ⟨fun z v hz => lookup_keep (h.keep z v hz), fun z v hz hF' => ?_, fun z hz => ?_⟩
    · rw [lookup_snoc] at hz
      cases hl : c.1.lookup z with
      | some u =>
        rw [hl] at hz; cases hz
        obtain ⟨a, b, d⟩ := h.new z _ hl hF'
        exact ⟨a, List.mem_append_left _ b, d⟩
      | none =>
        rw [hl] at hz
        simp only at hz
        split at hz
        · rename_i e
          cases hz
          have e' := eq_of_beq e
          subst e'
          exact ⟨rfl, by simp, k, hk, rfl, h3, by rw [h1]; exact hx⟩
        · cases hz
    · rcases List.mem_append.1 hz with hz | hz
      · obtain ⟨a, b⟩ := h.lin z hz
        obtain ⟨v, hv⟩ := Option.isSome_iff_exists.1 b
        exact ⟨a, by rw [lookup_keep hv]; rfl⟩
      · simp at hz; subst hz
        exact ⟨hF, by rw [lookup_snoc, hn]; simp⟩
  · exact h
theorem Ext.fold {E : List KeyP} {word : ByteArray} {n : Nat} {F : List (Int × Int)} {x : Int} (hx : F.lookup x = some (n : Int)) : ∀ {l : List KeyP} {c : List (Int × Int) × List Int}, Ext E word n F c → (∀ k ∈ l, k ∈ E) → Ext E word n F (l.foldl (farIn word x) c)
  | [], _, h, _ => h
  | k :: l, _, h, hl => Ext.fold hx (l := l) (h.in' hx (hl k (by simp))) fun q hq => hl q (List.mem_cons_of_mem _ hq)
theorem Ext.line {E : List KeyP} {word : ByteArray} {n : Nat} {F : List (Int × Int)} : ∀ {l : List Int} {c : List (Int × Int) × List Int}, Ext E word n F c → (∀ x ∈ l, F.lookup x = some (n : Int)) → Ext E word n F (l.foldl (farTo E word) c)
  | [], _, h, _ => h
  | x :: l, _, h, hl => Ext.line (l := l) (h.fold (hl x (by simp)) fun k hk => hk) fun q hq => hl q (List.mem_cons_of_mem _ hq)
theorem farIn_has {word : ByteArray} {x : Int} {c : List (Int × Int) × List Int} {k : KeyP} (h1 : k.b = x) (h3 : wordIs word k = true) : ((farIn word x c k).1.lookup k.a).isSome = true := by
  unfold farIn
  split
  · rename_i hc
    have hn : c.1.lookup k.a = none := by simpa using hc.2.1
    rw [lookup_snoc, hn]; simp
  · rename_i hc
    cases e : c.1.lookup k.a with
    | some v => rfl
    | none => exact absurd ⟨h1, by rw [e]; rfl, h3⟩ hc
theorem farFold_has {word : ByteArray} {x : Int} {k : KeyP} (h1 : k.b = x) (h3 : wordIs word k = true) : ∀ {l : List KeyP} {c : List (Int × Int) × List Int}, k ∈ l → ((l.foldl (farIn word x) c).1.lookup k.a).isSome = true
  | [], _, h => by cases h
  | q :: l, c, h => by
    rcases List.mem_cons.1 h with rfl | h
    · obtain ⟨v, hv⟩ := Option.isSome_iff_exists.1 (farIn_has (c := c) h1 h3)
      show ((l.foldl (farIn word x) (farIn word x c k)).1.lookup k.a).isSome = true
      rw [farFold_keep hv]; rfl
    · exact farFold_has h1 h3 (l := l) h
theorem farLine_has {E : List KeyP} {word : ByteArray} {k : KeyP} (hk : k ∈ E) (h3 : wordIs word k = true) : ∀ {l : List Int} {c : List (Int × Int) × List Int}, k.b ∈ l → ((l.foldl (farTo E word) c).1.lookup k.a).isSome = true
  | [], _, h => by cases h
  | x :: l, c, h => by
    rcases List.mem_cons.1 h with e | h
    · obtain ⟨v, hv⟩ := Option.isSome_iff_exists.1 (farFold_has (l := E) (c := c) e h3 hk)
      show ((l.foldl (farTo E word) (farTo E word c x)).1.lookup k.a).isSome = true
      rw [farTo_keep (show (farTo E word c x).1.lookup k.a = some v from hv)]; rfl
    · exact farLine_has hk h3 (l := l) h
structure FarIs (E : List KeyP) (word : ByteArray) (y : Int) (n : Nat) (c : List (Int × Int) × List Int) : Prop where
  val : ∀ z v, c.1.lookup z = some v → ∃ m : Nat, v = m ∧ m ≤ n ∧ Mn E word m z y
  all : ∀ z m, m ≤ n → Pth E word m z y → (c.1.lookup z).isSome = true
  lin : ∀ z, z ∈ c.2 ↔ c.1.lookup z = some (n : Int)
theorem FarIs.mn {E : List KeyP} {word : ByteArray} {y : Int} {n : Nat} {c : List (Int × Int) × List Int} (h : FarIs E word y n c) {z : Int} {m : Nat} (hm : m ≤ n) (hz : Mn E word m z y) : c.1.lookup z = some (m : Int) := by
  obtain ⟨v, hv⟩ := Option.isSome_iff_exists.1 (h.all z m hm hz.1)
  obtain ⟨k, rfl, _, h2⟩ := h.val z v hv
  rw [hv, h2.one hz]
theorem farS_is (E : List KeyP) (word : ByteArray) (y : Int) : ∀ n, FarIs E word y n (farS E word y n)
  | 0 => by
    have hl : ∀ z v, ([(y, (0 : Int))] : List (Int × Int)).lookup z = some v ↔ z = y ∧ v = 0 := fun z v => by
      rw [List.lookup_cons]
      by_cases e : z = y
      · subst e; simp [eq_comm]
      · have : (z == y) = false := by simpa using e
        simp [this, e]
    refine ⟨fun z v hz => ?_, fun z m hm h => ?_, fun z => ?_⟩
    · obtain ⟨rfl, rfl⟩ := (hl z v).1 hz
      exact ⟨0, rfl, Nat.le_refl _, rfl, fun m hm => absurd hm (Nat.not_lt_zero _)⟩
    · obtain rfl : m = 0 := by omega
      have e : z = y := h
      show (([(y, (0 : Int))] : List (Int × Int)).lookup z).isSome = true
      rw [(hl z 0).2 ⟨e, rfl⟩]; rfl
    · show z ∈ [y] ↔ ([(y, (0 : Int))] : List (Int × Int)).lookup z = some _
      rw [hl, List.mem_singleton]; simp
  | n + 1 => by
    have ih := farS_is E word y n
    rw [farS]
    have step : ∀ z, Pth E word (n + 1) z y → (∃ m, m ≤ n ∧ Pth E word m z y) ∨ ∃ k ∈ E, k.a = z ∧ wordIs word k = true ∧ k.b ∈ (farS E word y n).2 := fun z ⟨k, hk, h1, h2, h3⟩ => by
      obtain ⟨m, hm, hmn⟩ := h3.mn
      by_cases e : m = n
      · subst e
        exact .inr ⟨k, hk, h1, h2, (ih.lin _).2 (ih.mn (Nat.le_refl _) hmn)⟩
      · exact .inl ⟨m + 1, by omega, k, hk, h1, h2, hmn.1⟩
    split
    · rename_i he
      have hno : ∀ z, Pth E word (n + 1) z y → ∃ m, m ≤ n ∧ Pth E word m z y := fun z hz => by
        rcases step z hz with h | ⟨k, _, _, _, h⟩
        · exact h
        · rw [he] at h; cases h
      refine ⟨fun z v hz => ?_, fun z m hm h => ?_, fun z => ?_⟩
      · obtain ⟨m, h1, h2, h3⟩ := ih.val z v hz
        exact ⟨m, h1, by omega, h3⟩
      · by_cases e : m = n + 1
        · subst e
          obtain ⟨m, hm, h⟩ := hno z h
          exact ih.all z m hm h
        · exact ih.all z m (by omega) h
      · rw [he]
        constructor
        · intro h; cases h
        · intro h
          obtain ⟨m, h1, h2, _⟩ := ih.val z _ h
          omega
    · have h0 : Ext E word n (farS E word y n).1 ((farS E word y n).1, []) := ⟨fun z v h => h, fun z v h g => (by rw [show (farS E word y n).1.lookup z = some v from h] at g; cases g), fun z hz => (by cases hz)⟩
      have hx : Ext E word n (farS E word y n).1 (farLine E word (farS E word y n).1 (farS E word y n).2) := by
        unfold farLine
        exact h0.line fun x hx => (ih.lin x).1 hx
      have hall : ∀ z m, m ≤ n + 1 → Pth E word m z y → ((farLine E word (farS E word y n).1 (farS E word y n).2).1.lookup z).isSome = true := fun z m hm h => by
        have old : ∀ j, j ≤ n → Pth E word j z y → ((farLine E word (farS E word y n).1 (farS E word y n).2).1.lookup z).isSome = true := fun j hj g => by
          obtain ⟨v, hv⟩ := Option.isSome_iff_exists.1 (ih.all z j hj g)
          rw [hx.keep z v hv]; rfl
        by_cases e : m = n + 1
        · subst e
          rcases step z h with ⟨j, hj, g⟩ | ⟨k, hk, rfl, h2, h3⟩
          · exact old j hj g
          · exact farLine_has hk h2 h3
        · exact old m (by omega) h
      have hval : ∀ z v, (farLine E word (farS E word y n).1 (farS E word y n).2).1.lookup z = some v → ∃ m : Nat, v = m ∧ m ≤ n + 1 ∧ Mn E word m z y ∧ ((farS E word y n).1.lookup z = none → m = n + 1) := fun z v hz => by
        cases e : (farS E word y n).1.lookup z with
        | some u =>
          have := hx.keep z u e
          rw [hz] at this; cases this
          obtain ⟨m, h1, h2, h3⟩ := ih.val z v e
          exact ⟨m, h1, by omega, h3, fun h => by cases h⟩
        | none =>
          obtain ⟨h1, _, k, hk, h2, h3, h4⟩ := hx.new z v hz e
          refine ⟨n + 1, by rw [h1]; omega, Nat.le_refl _, ⟨?_, fun m hm g => ?_⟩, fun _ => rfl⟩
          · obtain ⟨m, g1, _, g2⟩ := ih.val _ _ h4
            have : m = n := by omega
            subst this
            exact ⟨k, hk, h2, h3, g2.1⟩
          · have := ih.all z m (by omega) g
            rw [e] at this; cases this
      refine ⟨fun z v hz => ?_, hall, fun z => ?_⟩
      · obtain ⟨m, h1, h2, h3, _⟩ := hval z v hz
        exact ⟨m, h1, h2, h3⟩
      · constructor
        · intro hz
          obtain ⟨h1, h2⟩ := hx.lin z hz
          obtain ⟨v, hv⟩ := Option.isSome_iff_exists.1 h2
          obtain ⟨m, g1, _, _, g2⟩ := hval z v hv
          rw [hv, g1, g2 h1]
        · intro hz
          cases e : (farS E word y n).1.lookup z with
          | some u =>
            have := hx.keep z u e
            rw [hz] at this
            obtain ⟨m, g1, g2, _⟩ := ih.val z u e
            have e2 : ((n + 1 : Nat) : Int) = u := Option.some.inj this
            omega
          | none => exact (hx.new z _ hz e).2.1
/-- At the end the map tells how far each one is that there is a way from. -/
structure FarTo (E : List KeyP) (word : ByteArray) (y : Int) (F : List (Int × Int)) : Prop where
  is : ∀ z v, F.lookup z = some v ↔ ∃ m : Nat, v = m ∧ Mn E word m z y
theorem farS_all {E : List KeyP} {word : ByteArray} {y : Int} {n : Nat} (h : (farS E word y n).2 = []) : FarTo E word y (farS E word y n).1 := by
  refine ⟨fun z v => ⟨fun hz => ?_, ?_⟩⟩
  · obtain ⟨m, h1, _, h2⟩ := (farS_is E word y n).val z v hz
    exact ⟨m, h1, h2⟩
  · rintro ⟨m, rfl, hm⟩
    have := farS_is E word y (n + m)
    rw [farS_stay h m] at this
    exact this.mn (by omega) hm
end Go.Proofs.YtflhpmgjehjjkaaGreatDoor

namespace Go.Proofs.YtflhpmgjehjjkaaGreatDoor

/-! ### Distances told along edges -/
def setF (F : List (Int × Int)) (b d : Int) : List (Int × Int) := if (F.lookup b).isSome = true then F.map fun p => if p.1 = b then (b, d) else p else F ++ [(b, d)]
def relaxF (word : ByteArray) (c : List (Int × Int) × Bool) (k : KeyP) : List (Int × Int) × Bool :=
  if wordIs word k = true then match c.1.lookup k.a with
    | none => c
    | some d => match c.1.lookup k.b with
      | none => (setF c.1 k.b (d + 1), true)
      | some u => if u > d + 1 then (setF c.1 k.b (d + 1), true) else c
  else c
theorem lookup_map {F : List (Int × Int)} {b d z : Int} : (F.map fun p => if p.1 = b then (b, d) else p).lookup z = if z = b then (F.lookup z).map (fun _ => d) else F.lookup z := by
  induction F with
  | nil => simp
  | cons p F ih =>
    obtain ⟨a, v⟩ := p
    rw [List.map_cons, List.lookup_cons]
    by_cases hb : a = b
    · rw [if_pos hb]
      subst hb
      by_cases hz : z = a
      · subst hz; simp
      · have : (z == a) = false := by simpa using hz
        simp only [this, List.lookup_cons, ih, if_neg hz]
    · rw [if_neg hb]
      by_cases hz : z = a
      · subst hz; simp [hb]
      · have : (z == a) = false := by simpa using hz
        simp only [this, List.lookup_cons, ih]
theorem lookup_setF {F : List (Int × Int)} {b d z : Int} : (setF F b d).lookup z = if z = b then some d else F.lookup z := by
  unfold setF
  split
  · rename_i h
    rw [lookup_map]
    split
    · rename_i e; subst e
      obtain ⟨v, hv⟩ := Option.isSome_iff_exists.1 h
      rw [hv]; rfl
    · rfl
  · rename_i h
    have hn : F.lookup b = none := Option.not_isSome_iff_eq_none.1 h
    rw [lookup_snoc]
    by_cases e : z = b
    · subst e; rw [hn]; simp
    · have : (z == b) = false := by simpa using e
      rw [if_neg e, this]
      cases F.lookup z <;> rfl
theorem keys_setF {F : List (Int × Int)} {b d : Int} : (setF F b d).map (·.1) = if (F.lookup b).isSome = true then F.map (·.1) else F.map (·.1) ++ [b] := by
  unfold setF
  split
  · rw [List.map_map]
    exact List.map_congr_left fun p _ => by
      show (if p.1 = b then (b, d) else p).1 = p.1
      split
      · rename_i e; exact e.symm
      · rfl
  · simp
theorem lookup_none {F : List (Int × Int)} {b : Int} : F.lookup b = none ↔ b ∉ F.map (·.1) := by
  constructor
  · intro h hm
    obtain ⟨p, hp, e⟩ := List.mem_map.1 hm
    exact lookup_no h p hp e
  · intro h
    cases e : F.lookup b with
    | none => rfl
    | some v => exact absurd (List.mem_map.2 ⟨_, lookup_mem e, rfl⟩) h
structure RF (E : List KeyP) (word : ByteArray) (x : Int) (F : List (Int × Int)) : Prop where
  nod : (F.map (·.1)).Nodup
  sub : ∀ p ∈ F, p.1 = x ∨ p.1 ∈ E.map (·.b)
  rng : ∀ p ∈ F, 0 ≤ p.2 ∧ p.2 < F.length
  root : F.lookup x = some 0
  ok : ∀ z v, F.lookup z = some v → ∃ m : Nat, v = m ∧ Pth E word m x z
theorem RF.start (E : List KeyP) (word : ByteArray) (x : Int) : RF E word x [(x, 0)] := by
  refine ⟨by simp, fun p hp => .inl (by simp at hp; rw [hp]), fun p hp => by simp at hp; subst hp; simp, by simp, fun z v h => ?_⟩
  rw [List.lookup_cons] at h
  split at h
  · rename_i e; cases h; exact ⟨0, rfl, (eq_of_beq e).symm⟩
  · cases h
theorem RF.size {E : List KeyP} {word : ByteArray} {x : Int} {F : List (Int × Int)} (h : RF E word x F) : F.length ≤ E.length + 1 := by
  have := nodup_le (m := x :: E.map (·.b)) h.nod fun z hz => by
    obtain ⟨p, hp, rfl⟩ := List.mem_map.1 hz
    rcases h.sub p hp with e | e
    · rw [e]; simp
    · exact List.mem_cons_of_mem _ e
  simpa using this
theorem setF_len (F : List (Int × Int)) (b d : Int) : (setF F b d).length = if (F.lookup b).isSome = true then F.length else F.length + 1 := by
  unfold setF
  split <;> simp
theorem mem_setF {F : List (Int × Int)} {b d : Int} : ∀ p ∈ setF F b d, p = (b, d) ∨ p ∈ F := fun p hp => by
  unfold setF at hp
  split at hp
  · obtain ⟨q, hq, e⟩ := List.mem_map.1 hp
    split at e
    · exact .inl e.symm
    · exact .inr (by rw [← e]; exact hq)
  · rcases List.mem_append.1 hp with h | h
    · exact .inr h
    · exact .inl (by simpa using h)
theorem RF.set {E : List KeyP} {word : ByteArray} {x d : Int} {F : List (Int × Int)} (h : RF E word x F) {k : KeyP} (hk : k ∈ E) (hw : wordIs word k = true) (hd : F.lookup k.a = some d) (hu : ∀ u, F.lookup k.b = some u → u > d + 1) : RF E word x (setF F k.b (d + 1)) := by
  have hda := h.rng _ (lookup_mem hd)
  simp only at hda
  have hne : k.b ≠ x := fun e => by
    have := hu 0 (by rw [e]; exact h.root)
    omega
  refine ⟨?_, fun p hp => ?_, fun p hp => ?_, ?_, fun z v hz => ?_⟩
  · rw [keys_setF]
    split
    · exact h.nod
    · rename_i hn
      refine List.nodup_append.2 ⟨h.nod, by simp, fun a ha b hb e => ?_⟩
      simp at hb; subst hb; subst e
      exact lookup_none.1 (Option.not_isSome_iff_eq_none.1 hn) ha
  · rcases mem_setF p hp with e | hp
    · subst e; exact .inr (List.mem_map.2 ⟨k, hk, rfl⟩)
    · exact h.sub p hp
  · rw [setF_len]
    split
    · rename_i hs
      obtain ⟨u, hu'⟩ := Option.isSome_iff_exists.1 hs
      rcases mem_setF p hp with e | hp
      · subst e
        have := hu u hu'
        have := h.rng _ (lookup_mem hu')
        simp only at this ⊢
        omega
      · exact h.rng p hp
    · rcases mem_setF p hp with e | hp
      · subst e
        simp only; omega
      · have := h.rng p hp; omega
  · rw [lookup_setF, if_neg (fun e => hne e.symm)]; exact h.root
  · rw [lookup_setF] at hz
    split at hz
    · rename_i e
      cases hz
      obtain ⟨m, h1, h2⟩ := h.ok _ _ hd
      exact ⟨m + 1, by omega, by rw [e]; exact h2.snoc hk rfl hw⟩
    · exact h.ok z v hz
theorem RF.relax {E : List KeyP} {word : ByteArray} {x : Int} {c : List (Int × Int) × Bool} (h : RF E word x c.1) {k : KeyP} (hk : k ∈ E) : RF E word x (relaxF word c k).1 := by
  unfold relaxF
  split
  · rename_i hw
    cases ha : c.1.lookup k.a with
    | none => exact h
    | some d =>
      simp only
      cases hb : c.1.lookup k.b with
      | none => exact h.set hk hw ha (fun u e => by rw [hb] at e; cases e)
      | some u =>
        simp only
        split
        · rename_i hg
          exact h.set hk hw ha (fun v e => by rw [hb] at e; cases e; exact hg)
        · exact h
  · exact h
theorem RF.fold {E : List KeyP} {word : ByteArray} {x : Int} : ∀ {l : List KeyP} {c : List (Int × Int) × Bool}, RF E word x c.1 → (∀ k ∈ l, k ∈ E) → RF E word x (l.foldl (relaxF word) c).1
  | [], _, h, _ => h
  | k :: l, _, h, hl => RF.fold (l := l) (h.relax (hl k (by simp))) fun q hq => hl q (List.mem_cons_of_mem _ hq)
/-! ### It comes to an end -/
def sumF (F : List (Int × Int)) : Nat := (F.map fun p => p.2.toNat).sum
def measF (E : List KeyP) (F : List (Int × Int)) : Nat := (E.length + 1 - F.length) * (E.length + 2) + sumF F
theorem sum_map_less {b d u : Int} : ∀ {F : List (Int × Int)}, (F.map (·.1)).Nodup → F.lookup b = some u → d.toNat < u.toNat → sumF (F.map fun p => if p.1 = b then (b, d) else p) < sumF F
  | [], _, h, _ => by cases h
  | (a, v) :: F, hn, h, hd => by
    obtain ⟨h1, h2⟩ := List.nodup_cons.1 hn
    unfold sumF at *
    rw [List.map_cons, List.map_cons, List.map_cons, List.sum_cons, List.sum_cons]
    rw [List.lookup_cons] at h
    by_cases e : b = a
    · subst e
      simp at h
      subst h
      have e2 : (F.map fun p => if p.1 = b then (b, d) else p) = F := by
        conv => rhs; rw [← List.map_id F]
        exact List.map_congr_left fun p hp => if_neg fun e => h1 (List.mem_map.2 ⟨p, hp, e⟩)
      rw [e2, if_pos rfl]
      show d.toNat + _ < v.toNat + _
      omega
    · have : (b == a) = false := by simpa using e
      rw [this] at h
      have ih := sum_map_less (F := F) h2 h hd
      unfold sumF at ih
      rw [if_neg (fun e' => e e'.symm)]
      omega
theorem RF.less {E : List KeyP} {word : ByteArray} {x d : Int} {F : List (Int × Int)} (h : RF E word x F) {k : KeyP} (hk : k ∈ E) (hw : wordIs word k = true) (hd : F.lookup k.a = some d) (hu : ∀ u, F.lookup k.b = some u → u > d + 1) : measF E (setF F k.b (d + 1)) < measF E F := by
  have hda := h.rng _ (lookup_mem hd)
  simp only at hda
  have h2 := (h.set hk hw hd hu).size
  rw [setF_len] at h2
  unfold measF
  rw [setF_len]
  cases hs : F.lookup k.b with
  | none =>
    rw [hs] at h2
    simp at h2
    have e : sumF (setF F k.b (d + 1)) = sumF F + (d + 1).toNat := by
      unfold setF sumF
      rw [hs]
      simp
    rw [e]
    simp only [Option.isSome_none, Bool.false_eq_true, if_false]
    obtain ⟨r, hr⟩ : ∃ r, E.length + 1 - F.length = r + 1 := ⟨E.length - F.length, by omega⟩
    rw [hr, show E.length + 1 - (F.length + 1) = r by omega, Nat.add_mul]
    omega
  | some u =>
    have h3 := sum_map_less (d := d + 1) h.nod hs (by have := hu u hs; omega)
    simp only [Option.isSome_some, if_true]
    have e : setF F k.b (d + 1) = F.map fun p => if p.1 = k.b then (k.b, d + 1) else p := by unfold setF; rw [hs]; rfl
    rw [e]
    omega
theorem RF.relax_less {E : List KeyP} {word : ByteArray} {x : Int} {c : List (Int × Int) × Bool} (h : RF E word x c.1) {k : KeyP} (hk : k ∈ E) : relaxF word c k = c ∨ ((relaxF word c k).2 = true ∧ measF E (relaxF word c k).1 < measF E c.1) := by
  unfold relaxF
  split
  · rename_i hw
    cases ha : c.1.lookup k.a with
    | none => exact .inl rfl
    | some d =>
      simp only
      cases hb : c.1.lookup k.b with
      | none => exact .inr ⟨rfl, h.less hk hw ha (fun u e => by rw [hb] at e; cases e)⟩
      | some u =>
        simp only
        split
        · rename_i hg
          exact .inr ⟨rfl, h.less hk hw ha (fun v e => by rw [hb] at e; cases e; exact hg)⟩
        · exact .inl rfl
  · exact .inl rfl
theorem RF.pass {E : List KeyP} {word : ByteArray} {x : Int} : ∀ {l : List KeyP} {c : List (Int × Int) × Bool}, RF E word x c.1 → (∀ k ∈ l, k ∈ E) →
    l.foldl (relaxF word) c = c ∨ ((l.foldl (relaxF word) c).2 = true ∧ measF E (l.foldl (relaxF word) c).1 < measF E c.1)
  | [], _, _, _ => .inl rfl
  | k :: l, c, h, hl => by
    have h1 := h.relax_less (hl k (by simp))
    have h2 := RF.pass (l := l) (h.relax (hl k (by simp))) fun q hq => hl q (List.mem_cons_of_mem _ hq)
    rw [List.foldl_cons]
    rcases h1 with e | ⟨e1, e2⟩
    · rw [e] at h2 ⊢; exact h2
    · rcases h2 with e | ⟨g1, g2⟩
      · rw [e]; exact .inr ⟨e1, e2⟩
      · exact .inr ⟨g1, by omega⟩
/-- No edge leads to one nearer than told. -/
def ClosedF (E : List KeyP) (word : ByteArray) (F : List (Int × Int)) : Prop := ∀ k ∈ E, wordIs word k = true → ∀ d, F.lookup k.a = some d → ∃ u, F.lookup k.b = some u ∧ u ≤ d + 1
theorem relax_still {word : ByteArray} {c : List (Int × Int) × Bool} {k : KeyP} (h : (relaxF word c k).2 = false) : relaxF word c k = c ∧ (wordIs word k = true → ∀ d, c.1.lookup k.a = some d → ∃ u, c.1.lookup k.b = some u ∧ u ≤ d + 1) := by
  unfold relaxF at h ⊢
  split
  · rename_i hw
    rw [if_pos hw] at h
    cases ha : c.1.lookup k.a with
    | none => exact ⟨rfl, fun _ d e => by cases e⟩
    | some d =>
      rw [ha] at h
      simp only at h ⊢
      cases hb : c.1.lookup k.b with
      | none => rw [hb] at h; cases h
      | some u =>
        rw [hb] at h
        simp only at h ⊢
        split at h
        · cases h
        · rename_i hg
          rw [if_neg hg]
          exact ⟨rfl, fun _ e he => by cases he; exact ⟨u, rfl, by omega⟩⟩
  · rename_i hw
    exact ⟨rfl, fun e => absurd e hw⟩
theorem pass_still {word : ByteArray} : ∀ {l : List KeyP} {c : List (Int × Int) × Bool}, (l.foldl (relaxF word) c).2 = false → l.foldl (relaxF word) c = c ∧ ∀ k ∈ l, wordIs word k = true → ∀ d, c.1.lookup k.a = some d → ∃ u, c.1.lookup k.b = some u ∧ u ≤ d + 1
  | [], _, _ => ⟨rfl, fun k hk => (by cases hk)⟩
  | k :: l, c, h => by
    rw [List.foldl_cons] at h ⊢
    obtain ⟨h1, h2⟩ := pass_still (l := l) h
    rw [h1] at h
    obtain ⟨h3, h4⟩ := relax_still h
    rw [h3] at h1 h2
    rw [h3]
    refine ⟨h1, fun q hq => ?_⟩
    rcases List.mem_cons.1 hq with rfl | hq
    · exact h4
    · exact h2 q hq
/-- How far from x: just those to which there is a way. -/
structure FarFrom (E : List KeyP) (word : ByteArray) (x : Int) (F : List (Int × Int)) : Prop where
  is : ∀ z v, F.lookup z = some v ↔ ∃ m : Nat, v = m ∧ Mn E word m x z
theorem RF.closed {E : List KeyP} {word : ByteArray} {x : Int} {F : List (Int × Int)} (h : RF E word x F) (hc : ClosedF E word F) : FarFrom E word x F := by
  have low : ∀ (m : Nat) (z : Int), Pth E word m x z → ∃ u, F.lookup z = some u ∧ u ≤ m := fun m => by
    induction m with
    | zero => intro z hz; exact ⟨0, by rw [← show x = z from hz]; exact h.root, by omega⟩
    | succ m ih =>
      intro z hz
      obtain ⟨k, hk, h1, h2, rfl⟩ := Pth.last hz
      obtain ⟨u, hu, hm⟩ := ih _ h1
      obtain ⟨v, hv, hm'⟩ := hc k hk h2 u hu
      exact ⟨v, hv, by omega⟩
  refine ⟨fun z v => ⟨fun hz => ?_, ?_⟩⟩
  · obtain ⟨m, rfl, hp⟩ := h.ok z v hz
    obtain ⟨j, hj, hm⟩ := hp.mn
    obtain ⟨u, hu, hl⟩ := low j z hm.1
    rw [hz] at hu
    have := Option.some.inj hu
    obtain rfl : j = m := by omega
    exact ⟨j, rfl, hm⟩
  · rintro ⟨m, rfl, hm⟩
    obtain ⟨u, hu, hl⟩ := low m z hm.1
    obtain ⟨j, rfl, hp⟩ := h.ok z u hu
    have : ¬ j < m := fun e => hm.2 j e hp
    rw [hu]; congr 1; omega
/-! ### Ways -/
/-- The way of which each next node is the least one that is nearer, among those. -/
def RW (E : List KeyP) (word : ByteArray) (nodes : List Int) (y : Int) : Nat → Int → List Int → Prop
  | 0, x, W => x = y ∧ W = [x]
  | d + 1, x, W => ∃ z W', W = x :: W' ∧ z ∈ nodes ∧ Mn E word 1 x z ∧ Mn E word d z y ∧ (∀ u ∈ nodes, Mn E word 1 x u → Mn E word d u y → z ≤ u) ∧ RW E word nodes y d z W'
/-- The least one of those that are one nearer. -/
structure BestL (far : List (Int × Int)) (d best : Int) (l : List Int) : Prop where
  one : best = -1 ∨ (best ∈ l ∧ 0 ≤ best ∧ far.lookup best = some (d - 1))
  low : ∀ y ∈ l, far.lookup y = some (d - 1) → 0 ≤ best ∧ best ≤ y
theorem BestL.step {far : List (Int × Int)} {d best y : Int} {l : List Int} (h : BestL far d best l) (hy : 0 ≤ y) : BestL far d (bestIn far d best y) (l ++ [y]) := by
  have keep : best = -1 ∨ (best ∈ l ++ [y] ∧ 0 ≤ best ∧ far.lookup best = some (d - 1)) := h.one.elim .inl fun e => .inr ⟨List.mem_append_left _ e.1, e.2⟩
  unfold bestIn
  cases hl : far.lookup y with
  | none =>
    refine ⟨keep, fun z hz e => ?_⟩
    rcases List.mem_append.1 hz with hz | hz
    · exact h.low z hz e
    · simp at hz; subst hz; rw [hl] at e; cases e
  | some e =>
    simp only
    split
    · rename_i hc
      refine ⟨.inr ⟨by simp, hy, by rw [hl, hc.1]⟩, fun z hz e' => ?_⟩
      rcases List.mem_append.1 hz with hz | hz
      · have := h.low z hz e'
        rcases hc.2 with e0 | e0
        · omega
        · exact ⟨hy, by omega⟩
      · simp at hz; subst hz; exact ⟨hy, Int.le_refl _⟩
    · rename_i hc
      refine ⟨keep, fun z hz e' => ?_⟩
      rcases List.mem_append.1 hz with hz | hz
      · exact h.low z hz e'
      · simp at hz; subst hz
        rw [hl] at e'; cases e'
        by_cases h0 : best < 0
        · exact absurd ⟨rfl, .inl h0⟩ hc
        · by_cases h1 : z < best
          · exact absurd ⟨rfl, .inr h1⟩ hc
          · omega
theorem BestL.fold {far : List (Int × Int)} {d : Int} : ∀ {l m : List Int} {best : Int}, BestL far d best m → (∀ y ∈ l, 0 ≤ y) → BestL far d (l.foldl (bestIn far d) best) (m ++ l)
  | [], m, best, h, _ => by simpa using h
  | y :: l, m, best, h, hl => by
    have := BestL.fold (l := l) (h.step (hl y (by simp))) fun z hz => hl z (List.mem_cons_of_mem _ hz)
    simpa using this
theorem way_rw {E : List KeyP} {word : ByteArray} {nodes : List Int} {y : Int} {F : List (Int × Int)} (hF : FarTo E word y F) (hE : ∀ k ∈ E, 0 ≤ k.b ∧ k.b ∈ nodes) : ∀ (d : Nat) (x : Int), Mn E word d x y → RW E word nodes y d x (wayL E word F y d x)
  | 0, x, h => ⟨h.1, rfl⟩
  | d + 1, x, h => by
    have hx : F.lookup x = some ((d + 1 : Nat) : Int) := (hF.is _ _).2 ⟨_, rfl, h⟩
    have hne : x ≠ y := fun e => h.2 0 (by omega) e
    have hnx : ∀ z ∈ nextP E x word, 0 ≤ z ∧ z ∈ nodes := fun z hz => by
      obtain ⟨k, hk, _, _, rfl⟩ := mem_next.1 hz
      exact hE k hk
    have hb := BestL.fold (far := F) (d := ((d + 1 : Nat) : Int)) (l := nextP E x word) (m := []) (best := -1) ⟨.inl rfl, fun z hz => (by cases hz)⟩ fun z hz => (hnx z hz).1
    have hbe : bestP E word F x = (nextP E x word).foldl (bestIn F ((d + 1 : Nat) : Int)) (-1) := by unfold bestP; rw [hx]; rfl
    rw [← hbe, List.nil_append] at hb
    have nearer : ∀ z, F.lookup z = some (((d + 1 : Nat) : Int) - 1) ↔ Mn E word d z y := fun z => by
      rw [hF.is]
      constructor
      · rintro ⟨m, e, hm⟩
        obtain rfl : m = d := by omega
        exact hm
      · intro hm; exact ⟨d, by omega, hm⟩
    obtain ⟨k, hk, k1, k2, k3⟩ := h.1
    have hkd : Mn E word d k.b y := ⟨k3, fun m hm g => h.2 (m + 1) (by omega) ⟨k, hk, k1, k2, g⟩⟩
    have hkn : k.b ∈ nextP E x word := mem_next.2 ⟨k, hk, k1, k2, rfl⟩
    have h0 := (hb.low _ hkn ((nearer _).2 hkd)).1
    rcases hb.one with e | ⟨hin, _, hbl⟩
    · omega
    have hbd := (nearer _).1 hbl
    have one : ∀ z, Mn E word d z y → z ∈ nextP E x word → Mn E word 1 x z := fun z hz hn => by
      obtain ⟨q, hq, q1, q2, q3⟩ := mem_next.1 hn
      refine ⟨⟨q, hq, q1, q2, q3⟩, fun m hm g => ?_⟩
      obtain rfl : m = 0 := by omega
      have e : x = z := g
      subst e
      exact h.2 d (by omega) hz.1
    show ∃ z W', wayL E word F y (d + 1) x = x :: W' ∧ _
    refine ⟨bestP E word F x, wayL E word F y d (bestP E word F x), ?_, (hnx _ hin).2, one _ hbd hin, hbd, fun u _ hu1 hu2 => ?_, way_rw hF hE d _ hbd⟩
    · show (if x = y then [x] else _) = _
      rw [if_neg hne]
    · obtain ⟨q, hq, q1, q2, q3⟩ := hu1.1
      exact (hb.low u (mem_next.2 ⟨q, hq, q1, q2, q3⟩) ((nearer u).2 hu2)).2
end Go.Proofs.YtflhpmgjehjjkaaGreatDoor

namespace Go.Proofs.YtflhpmgjehjjkaaGreatDoor
open Go.RowKit Go.Deep Go.Shelf Go.Sort Go.Maps

/-! ### In plain words -/
def ofP (G : List (KeyP × ByteArray)) (k : KeyP) : ByteArray := ((G.find? fun p => decide (p.1 = k)).map (·.2)).getD ⟨#[]⟩
def isN (G : List (KeyP × ByteArray)) (n : Int) : Bool := decide ((ofP G ⟨1, n, ⟨#[]⟩, 0⟩).size ≠ 0)
def nodesK (G : List (KeyP × ByteArray)) (kind : ByteArray) : List Int := (G.filter fun p => decide (p.1.kind = 1) && (decide (kind.size = 0) || decide (p.2 = kind))).map (·.1.a)

/-- Texts that are read. -/
def StrsIn (w : World) (ao : Option Addr) (l : List ByteArray) : Prop := ∀ (j : Nat) x, l[j]? = some x → ∃ b, ao = some ⟨b, 0, none⟩ ∧ w.cell? ⟨b, j, none⟩ = some (.string x)
theorem StrsIn.below {w w' : World} {ao : Option Addr} {l : List ByteArray} (h : StrsIn w ao l) (hb : Below w.heap.size w w') : StrsIn w' ao l := fun j p hp => by
  obtain ⟨b, h1, h2⟩ := h j p hp
  exact ⟨b, h1, below_cell hb (World.block_lt_of_cell? w _ h2) h2⟩
/-- The document's graph. -/
structure RG (w : World) (rb : Nat) (G : List (KeyP × ByteArray)) : Prop where
  blk : ∃ ko kc vo vc, w.heap[rb]? = some (.cells #[.slice ko G.length kc, .slice vo G.length vc] 144 (0, 0)) ∧ KeysIn w ko (G.map (·.1)) ∧ StrsIn w vo (G.map (·.2))
  len : G.length ≤ 4000
  i64' : ∀ p ∈ G, i64 p.1.a ∧ i64 p.1.b
theorem RG.below {w w' : World} {rb : Nat} {G : List (KeyP × ByteArray)} (h : RG w rb G) (hb : Below w.heap.size w w') : RG w' rb G := by
  obtain ⟨ko, kc, vo, vc, h1, h2, h3⟩ := h.blk
  exact ⟨⟨ko, kc, vo, vc, (hb.block _ (lt_of_block h1)).trans h1, h2.below hb, h3.below hb⟩, h.len, h.i64'⟩
theorem RG.cells {w : World} {rb : Nat} {G : List (KeyP × ByteArray)} (h : RG w rb G) : ∃ ko kc vo vc, w.cell? ⟨rb, 0, none⟩ = some (.slice ko G.length kc) ∧ w.cell? ⟨rb, 1, none⟩ = some (.slice vo G.length vc) ∧ rb < w.heap.size ∧ KeysIn w ko (G.map (·.1)) ∧ StrsIn w vo (G.map (·.2)) := by
  obtain ⟨ko, kc, vo, vc, h1, h2, h3⟩ := h.blk
  exact ⟨ko, kc, vo, vc, block_cell h1 0, block_cell h1 1, lt_of_block h1, h2, h3⟩
/-- The i-th key and value. -/
theorem rg_get {w : World} {ko vo : Option Addr} {G : List (KeyP × ByteArray)} (hk : KeysIn w ko (G.map (·.1))) (hv : StrsIn w vo (G.map (·.2))) {i : Nat} (hi : i < G.length) : ∃ bk bv k s, ko = some ⟨bk, 0, none⟩ ∧ vo = some ⟨bv, 0, none⟩ ∧ Hid (G[i]? = some (k, s)) ∧ bk < w.heap.size ∧ bv < w.heap.size ∧
    w.cell? ⟨bk, i * 4, none⟩ = some (.int .i64 k.kind) ∧ w.cell? ⟨bk, i * 4 + 1, none⟩ = some (.int .i64 k.a) ∧ w.cell? ⟨bk, i * 4 + 2, none⟩ = some (.string k.word) ∧ w.cell? ⟨bk, i * 4 + 3, none⟩ = some (.int .i64 k.b) ∧ w.cell? ⟨bv, i, none⟩ = some (.string s) := by
  obtain ⟨⟨k, s⟩, hg⟩ : ∃ p, G[i]? = some p := ⟨_, List.getElem?_eq_getElem hi⟩
  obtain ⟨bk, e1, c0, c1, c2, c3⟩ := hk i k (by rw [List.getElem?_map, hg]; rfl)
  obtain ⟨bv, e2, d0⟩ := hv i s (by rw [List.getElem?_map, hg]; rfl)
  exact ⟨bk, bv, k, s, e1, e2, Lib.hid hg, World.block_lt_of_cell? w _ c0, World.block_lt_of_cell? w _ d0, c0, c1, c2, c3, d0⟩
theorem ofP_at {G : List (KeyP × ByteArray)} {i : Nat} {k : KeyP} {s : ByteArray} (h : G[i]? = some (k, s)) (hn : ∀ p ∈ G.take i, p.1 ≠ k) : ofP G k = s := by
  have e : G = G.take i ++ ((k, s) :: G.drop (i + 1)) := by
    have h1 := (List.take_append_drop i G).symm
    rw [List.drop_eq_getElem_cons (List.getElem?_eq_some_iff.1 h).1, (List.getElem?_eq_some_iff.1 h).2] at h1
    exact h1
  unfold ofP
  rw [e, List.find?_append, List.find?_eq_none.2 (fun p hp => by simpa using hn p hp)]
  simp
theorem ofP_no {G : List (KeyP × ByteArray)} {k : KeyP} (hn : ∀ p ∈ G, p.1 ≠ k) : ofP G k = ⟨#[]⟩ := by
  unfold ofP
  rw [List.find?_eq_none.2 (fun p hp => by simpa using hn p hp)]
  rfl
set_option maxRecDepth 100000 in
set_option maxHeartbeats 4000000 in
theorem rgof_any (k : KeyP) (w : World) {rb : Nat} {G : List (KeyP × ByteArray)} (h : RG w rb G) :
    Calls Tryz.prog 65 #[.pointer (some ⟨rb, 0, none⟩), .agg #[.int .i64 k.kind, .int .i64 k.a, .string k.word, .int .i64 k.b]] w fun e w' => e = .returned (.string (ofP G k)) ∧ Below w.heap.size w w' := by
  obtain ⟨ko, kc, vo, vc, c0, c1, hrl, hK, hS⟩ := h.cells
  have hlen := h.len
  obtain ⟨V, hV⟩ : ∃ V, V = w.alloc (.cells #[.int .i64 k.kind, .int .i64 k.a, .string k.word, .int .i64 k.b] 44) := ⟨_, rfl⟩
  obtain ⟨kx, hkx⟩ : ∃ kx, kx = w.heap.size := ⟨_, rfl⟩
  have hB : Below w.heap.size w V := by rw [hV]; exact (Below.refl _ _).alloc (Nat.le_refl _) _
  have hkb : V.heap[kx]? = some (.cells #[.int .i64 k.kind, .int .i64 k.a, .string k.word, .int .i64 k.b] 44 (0, 0)) := by rw [hV, hkx]; exact block_alloc_new _ _
  have c0 := below_cell hB hrl c0
  have c1 := below_cell hB hrl c1
  have hrl' := Nat.lt_of_lt_of_le hrl hB.size
  have HK := Lib.hid (hK.below hB)
  have HS := Lib.hid (hS.below hB)
  have HB := Lib.hid hB
  have HV := Lib.hid hV
  have HKX := Lib.hid hkx
  have HKB := Lib.hid hkb
  clear h hB hV hkx hkb hK hS
  obtain ⟨kk, ka, kw, kb⟩ := k
  go_enter Tryz.func65, Tryz.ntmps65
  go_wp2_with (rw [← HV.out, ← HKX.out])
  go_loopw [12] (fun vi X => ∃ i : Nat, i ≤ G.length ∧ vi = .int .i64 i ∧ Below V.heap.size V X ∧ ∀ p ∈ G.take i, p.1 ≠ ⟨kk, ka, kw, kb⟩) (fun vi _ => G.length - (intOf vi).toNat)
  case atStart => exact ⟨0, Nat.zero_le _, rfl, Below.refl _ _, fun p hp => by simp at hp⟩
  case round =>
    obtain ⟨i, hi, rfl, hb, hn⟩ := hrel
    have hbw : Below w.heap.size w wr := HB.out.trans (hb.mono HB.out.size)
    by_cases hlt : i < G.length
    · obtain ⟨bk, bv, q, s, rfl, rfl, hg, hbk, hbv, d0, d1, d2, d3, e0⟩ := rg_get (HK.out.below hb) (HS.out.below hb) hlt
      obtain ⟨W4, hW4⟩ : ∃ W4, W4 = wr.alloc (.cells #[.int .i64 q.kind, .int .i64 q.a, .string q.word, .int .i64 q.b] 44) := ⟨_, rfl⟩
      obtain ⟨qx, hqx⟩ : ∃ qx, qx = wr.heap.size := ⟨_, rfl⟩
      have b4 : Below wr.heap.size wr W4 := by rw [hW4]; exact (Below.refl _ _).alloc (Nat.le_refl _) _
      have hqb : W4.heap[qx]? = some (.cells #[.int .i64 q.kind, .int .i64 q.a, .string q.word, .int .i64 q.b] 44 (0, 0)) := by rw [hW4, hqx]; exact block_alloc_new _ _
      have k0 : W4.cell? ⟨qx, 0, none⟩ = some (.int .i64 q.kind) := block_cell hqb 0
      have k1 : W4.cell? ⟨qx, 1, none⟩ = some (.int .i64 q.a) := block_cell hqb 1
      have k2 : W4.cell? ⟨qx, 2, none⟩ = some (.string q.word) := block_cell hqb 2
      have k3 : W4.cell? ⟨qx, 3, none⟩ = some (.int .i64 q.b) := block_cell hqb 3
      have hql : qx < W4.heap.size := lt_of_block hqb
      have hxb := (b4.block kx (lt_of_block ((hb.block kx (lt_of_block HKB.out)).trans HKB.out))).trans ((hb.block kx (lt_of_block HKB.out)).trans HKB.out)
      have x0 : W4.cell? ⟨kx, 0, none⟩ = some (.int .i64 kk) := block_cell hxb 0
      have x1 : W4.cell? ⟨kx, 1, none⟩ = some (.int .i64 ka) := block_cell hxb 1
      have x2 : W4.cell? ⟨kx, 2, none⟩ = some (.string kw) := block_cell hxb 2
      have x3 : W4.cell? ⟨kx, 3, none⟩ = some (.int .i64 kb) := block_cell hxb 3
      have hxl : kx < W4.heap.size := lt_of_block hxb
      have r1 := below_cell b4 (Nat.lt_of_lt_of_le hrl' hb.size) (below_cell hb hrl' c1)
      have hrl4 := Nat.lt_of_lt_of_le (Nat.lt_of_lt_of_le hrl' hb.size) b4.size
      have e1 := below_cell b4 hbv e0
      have hbv4 := Nat.lt_of_lt_of_le hbv b4.size
      have heq := keyEqB_iff q.kind q.a q.b kk ka kb q.word kw
      have i0 : (0 : Int) ≤ (i : Int) := by omega
      have i1 : (i : Int) < (G.length : Int) := by omega
      have hst : G.take (i + 1) = G.take i ++ [(q, s)] := by rw [List.take_add_one, hg.out]; rfl
      have HW4 := Lib.hid hW4
      have HQX := Lib.hid hqx
      have HN := Lib.hid hn
      have HST := Lib.hid hst
      have HB4 := Lib.hid (hb.trans (b4.mono hb.size))
      have HBW := Lib.hid (hbw.trans (b4.mono hbw.size))
      clear hW4 hqx hqb hxb hn hst b4 hb hbw c0 c1
      have HLG := Lib.hid hg.out
      clear hg
      by_cases hqe : q = ⟨kk, ka, kw, kb⟩
      · rw [decide_eq_true hqe] at heq
        have hof := ofP_at HLG.out (fun p hp => by rw [hqe]; exact HN.out p hp)
        rw [hqe] at hof
        have HOF := Lib.hid hof
        clear hqe hof
        obtain ⟨qk, qa, qw, qb⟩ := q
        simp only [] at d0 d1 d2 d3 k0 k1 k2 k3 heq
        go_wp2_with (rw [← HW4.out, ← HQX.out])
        go_ret
        exact ⟨by rw [HOF.out]; rfl, HBW.out⟩
      · rw [decide_eq_false hqe] at heq
        have HNE := Lib.hid hqe
        clear hqe
        obtain ⟨qk, qa, qw, qb⟩ := q
        simp only [] at d0 d1 d2 d3 k0 k1 k2 k3 heq
        go_wp2_with (rw [← HW4.out, ← HQX.out])
        refine ⟨⟨i + 1, by omega, by go_num, HB4.out, fun p hp => ?_⟩, by simp [intOf]; omega⟩
        rw [HST.out] at hp
        rcases List.mem_append.1 hp with hp | hp
        · exact HN.out p hp
        · rw [List.mem_singleton.1 hp]; exact HNE.out
    · obtain rfl : i = G.length := by omega
      have HBW := Lib.hid hbw
      have HN := Lib.hid hn
      clear hb hbw hn
      rw [List.take_of_length_le (Nat.le_refl _)] at HN
      go_wp2_with fail
      go_ret
      exact ⟨by rw [ofP_no HN.out]; rfl, HBW.out⟩
theorem rgis_any (n : Int) (w : World) {rb : Nat} {G : List (KeyP × ByteArray)} (h : RG w rb G) :
    Calls Tryz.prog 64 #[.pointer (some ⟨rb, 0, none⟩), .int .i64 n] w fun e w' => e = .returned (.bool (isN G n)) ∧ Below w.heap.size w w' := by
  have HC := Lib.hid (rgof_any ⟨1, n, ⟨#[]⟩, 0⟩ w h)
  clear h
  have hE : isN G n = decide ((ofP G ⟨1, n, ⟨#[]⟩, 0⟩).size ≠ 0) := rfl
  obtain ⟨v, hv⟩ : ∃ v, v = ofP G ⟨1, n, ⟨#[]⟩, 0⟩ := ⟨_, rfl⟩
  rw [← hv] at HC hE
  have HE := Lib.hid hE
  clear hv hE
  go_enter Tryz.func64, Tryz.ntmps64
  by_cases h0 : v.size = 0
  · have h1 := empty_true h0
    have HI : Hid (isN G n = false) := Lib.hid (by rw [HE.out]; simp [h0])
    clear h0
    go_wp2_with (go_at_call 65; (with_reducible refine HC.out.mono ?_); rintro e w1 ⟨rfl, b1⟩; have HB := Lib.hid b1; clear b1)
    go_ret
    exact ⟨by rw [HI.out]; rfl, HB.out⟩
  · have h1 := empty_false h0
    have HI : Hid (isN G n = true) := Lib.hid (by rw [HE.out]; simp [h0])
    clear h0
    go_wp2_with (go_at_call 65; (with_reducible refine HC.out.mono ?_); rintro e w1 ⟨rfl, b1⟩; have HB := Lib.hid b1; clear b1)
    go_ret
    exact ⟨by rw [HI.out]; rfl, HB.out⟩
end Go.Proofs.YtflhpmgjehjjkaaGreatDoor
