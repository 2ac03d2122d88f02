/- A change is said (says): where the key has a tree. -/
import Derived.Deep.QuietTactic
import Derived.BigQuiet
import Derived.StillTailTactics
import Derived.LoopTactic
import Derived.Test.YtacedfcckkpciaaGreatDoorPwAL
import Derived.Test.YtacedfcckkpciaaGreatDoorErrCL
import Derived.Test.YtacedfcckkpciaaGreatDoorClsL
import Derived.Test.YtacedfcckkpciaaGreatDoorTSpL
namespace Go.Proofs.YtacedfcckkpciaaGreatDoor
open Go.RowKit Go.Deep Go.Shelf Go.Sort Go.Maps

/-- What stands in the block beside the past. -/
structure Rest where
  pre : List Value
  post : List Value
  ty : TypeId
/-- What is in memory for a past: the maps' blocks, the trees. -/
structure Gh where
  am : Option Nat
  tm : Option Nat
  ts : List Tr
def Gh.foot (g : Gh) (pb k : Nat) : Prop := k = pb ∨ g.am = some k ∨ g.tm = some k ∨ ∃ x ∈ g.ts, x.foot k
def noGh : Gh := ⟨none, none, []⟩
def pcells (R : Rest) (n go nx : Int) (am tm : Option Nat) : Array Value := (R.pre ++ ([.int .i64 n, .int .i64 go, .int .i64 nx, .map am, .map tm] : List Value) ++ R.post).toArray
structure Ids (s : Pst) : Prop where
  nod : (s.vs.map (·.id)).Nodup
  rng : ∀ v ∈ s.vs, 0 ≤ v.id ∧ v.id < s.next
  key : ∀ v ∈ s.vs, keyB v.key = true
  next0 : 0 ≤ s.next
  len : (s.vs.length : Int) ≤ s.next
theorem Wf.ids {s : Pst} (h : Wf s) : Ids s := ⟨h.nod, h.rng, h.key, h.next0, h.len⟩
structure PastI (w : World) (pb po : Nat) (R : Rest) (s : Pst) (g : Gh) (I : KeyP → List It) : Prop where
  len : R.pre.length = po
  cells : w.heap[pb]? = some (.cells (pcells R s.now s.gone s.next g.am g.tm) R.ty (0, 0))
  ids : Ids s
  vers : versAt w s.vs g.am
  trees : treesAt w g.ts g.tm
  both : g.am = none ↔ g.tm = none
  keys : (g.ts.map (·.key)).Nodup
  keyOk : ∀ x ∈ g.ts, keyB x.key = true
  tree : ∀ x ∈ g.ts, TreeAt w x.tb (I x.key) x.t x.mb
  all : ∀ v ∈ s.vs, ∃ x ∈ g.ts, x.key = v.key
  apart : g.ts.Pairwise fun x y => ∀ k, x.foot k → ¬ y.foot k
  ne : ∀ x ∈ g.ts, ∀ k, x.foot k → k ≠ pb ∧ g.am ≠ some k ∧ g.tm ≠ some k
  nea : ∀ m, g.am = some m → m ≠ pb ∧ g.tm ≠ some m
  net : ∀ m, g.tm = some m → m ≠ pb
/-- The trees have the spans of the versions. -/
structure PastAt (w : World) (pb po : Nat) (R : Rest) (s : Pst) (g : Gh) : Prop extends PastI w pb po R s g (itemsK s.vs) where
  tlen : (g.ts.length : Int) ≤ s.next

theorem pcells_at {R : Rest} {po : Nat} (hl : R.pre.length = po) (n go nx : Int) (am tm : Option Nat) : (pcells R n go nx am tm)[po]? = some (.int .i64 n) ∧ (pcells R n go nx am tm)[po + 1]? = some (.int .i64 go) ∧ (pcells R n go nx am tm)[po + 2]? = some (.int .i64 nx) ∧ (pcells R n go nx am tm)[po + 3]? = some (.map am) ∧ (pcells R n go nx am tm)[po + 4]? = some (.map tm) := by
  subst hl
  unfold pcells
  refine ⟨?_, ?_, ?_, ?_, ?_⟩ <;> simp [List.getElem?_append]
theorem pcells_set0 {R : Rest} {po : Nat} (hl : R.pre.length = po) (n go nx n' : Int) (am tm : Option Nat) : (pcells R n go nx am tm).setIfInBounds po (.int .i64 n') = pcells R n' go nx am tm := by subst hl; simp [pcells]
theorem pcells_set1 {R : Rest} {po : Nat} (hl : R.pre.length = po) (n go nx n' : Int) (am tm : Option Nat) : (pcells R n go nx am tm).setIfInBounds (po + 1) (.int .i64 n') = pcells R n n' nx am tm := by subst hl; simp [pcells, List.set_append]
theorem pcells_set2 {R : Rest} {po : Nat} (hl : R.pre.length = po) (n go nx n' : Int) (am tm : Option Nat) : (pcells R n go nx am tm).setIfInBounds (po + 2) (.int .i64 n') = pcells R n go n' am tm := by subst hl; simp [pcells, List.set_append]
theorem pcells_set3 {R : Rest} {po : Nat} (hl : R.pre.length = po) (n go nx : Int) (am tm am' : Option Nat) : (pcells R n go nx am tm).setIfInBounds (po + 3) (.map am') = pcells R n go nx am' tm := by subst hl; simp [pcells, List.set_append]
theorem pcells_set4 {R : Rest} {po : Nat} (hl : R.pre.length = po) (n go nx : Int) (am tm tm' : Option Nat) : (pcells R n go nx am tm).setIfInBounds (po + 4) (.map tm') = pcells R n go nx am tm' := by subst hl; simp [pcells, List.set_append]
/-- The five places. -/
theorem past_cells {w : World} {pb po : Nat} {R : Rest} {n go nx : Int} {am tm : Option Nat} (hl : R.pre.length = po) (h : w.heap[pb]? = some (.cells (pcells R n go nx am tm) R.ty (0, 0))) :
    w.cell? ⟨pb, po, none⟩ = some (.int .i64 n) ∧ w.cell? ⟨pb, po + 1, none⟩ = some (.int .i64 go) ∧ w.cell? ⟨pb, po + 2, none⟩ = some (.int .i64 nx) ∧ w.cell? ⟨pb, po + 3, none⟩ = some (.map am) ∧ w.cell? ⟨pb, po + 4, none⟩ = some (.map tm) := by
  obtain ⟨a, b, c, d, e⟩ := pcells_at hl n go nx am tm
  exact ⟨(block_cell h _).trans a, (block_cell h _).trans b, (block_cell h _).trans c, (block_cell h _).trans d, (block_cell h _).trans e⟩
theorem past_free {w : World} {pb : Nat} {R : Rest} {n go nx : Int} {am tm : Option Nat} (h : w.heap[pb]? = some (.cells (pcells R n go nx am tm) R.ty (0, 0))) (i : Nat) : w.frozen? ⟨pb, i, none⟩ = false := block_free h i

theorem PastI.lt {w : World} {pb po : Nat} {R : Rest} {s : Pst} {g : Gh} {I : KeyP → List It} (h : PastI w pb po R s g I) : ∀ k, g.foot pb k → k < w.heap.size := by
  intro k hk
  rcases hk with rfl | hk | hk | ⟨x, hx, hk⟩
  · exact lt_of_block h.cells
  · have := h.vers; rw [hk] at this; obtain ⟨D, h1, _⟩ := this; exact h1.lt
  · have := h.trees; rw [hk] at this; obtain ⟨D, h1, _⟩ := this; exact h1.lt
  · exact (h.tree x hx).lt k hk
theorem PastI.frame {F : Nat → Prop} {w w' : World} {pb po : Nat} {R : Rest} {s : Pst} {g : Gh} {I : KeyP → List It} (h : PastI w pb po R s g I) (hf : Fr F w w') (hn : ∀ k, g.foot pb k → ¬ F k) : PastI w' pb po R s g I :=
  ⟨h.len, hf.keeps h.cells (hn _ (.inl rfl)), h.ids, h.vers.frame hf (fun m e => hn m (.inr (.inl e))), h.trees.frame hf (fun m e => hn m (.inr (.inr (.inl e)))), h.both, h.keys, h.keyOk,
    fun x hx => (h.tree x hx).frame hf (fun k hk => hn k (.inr (.inr (.inr ⟨x, hx, hk⟩)))), h.all, h.apart, h.ne, h.nea, h.net⟩
theorem PastI.below {w w' : World} {pb po : Nat} {R : Rest} {s : Pst} {g : Gh} {I : KeyP → List It} (h : PastI w pb po R s g I) (hb : Below w.heap.size w w') : PastI w' pb po R s g I :=
  h.frame (F := fun _ => False) (Fr.new hb) (fun _ _ e => e)
theorem PastAt.lt {w : World} {pb po : Nat} {R : Rest} {s : Pst} {g : Gh} (h : PastAt w pb po R s g) : ∀ k, g.foot pb k → k < w.heap.size := PastI.lt h.toPastI
theorem PastAt.frame {F : Nat → Prop} {w w' : World} {pb po : Nat} {R : Rest} {s : Pst} {g : Gh} (h : PastAt w pb po R s g) (hf : Fr F w w') (hn : ∀ k, g.foot pb k → ¬ F k) : PastAt w' pb po R s g := ⟨PastI.frame h.toPastI hf hn, h.tlen⟩
theorem PastAt.below {w w' : World} {pb po : Nat} {R : Rest} {s : Pst} {g : Gh} (h : PastAt w pb po R s g) (hb : Below w.heap.size w w') : PastAt w' pb po R s g := ⟨PastI.below h.toPastI hb, h.tlen⟩
/-- A new past. -/
theorem past_new {w : World} {pb po : Nat} {R : Rest} (hl : R.pre.length = po) (h : w.heap[pb]? = some (.cells (pcells R 0 0 0 none none) R.ty (0, 0))) : PastAt w pb po R ⟨0, 0, 0, []⟩ noGh :=
  ⟨⟨hl, h, ⟨List.nodup_nil, (fun _ hv => by cases hv), (fun _ hv => by cases hv), Int.le_refl _, Int.le_refl _⟩, rfl, rfl, Iff.rfl, List.nodup_nil, (fun _ hx => by cases hx), (fun _ hx => by cases hx), (fun _ hx => by cases hx), .nil, (fun _ hx => by cases hx), (fun _ e => by cases e), (fun _ e => by cases e)⟩, Int.le_refl _⟩
/-- What a call on a past leaves: its blocks are the old ones, or new. -/
def Grows (g g' : Gh) (pb : Nat) (w : World) : Prop := ∀ k, g'.foot pb k → g.foot pb k ∨ w.heap.size ≤ k
theorem Grows.refl (g : Gh) (pb : Nat) (w : World) : Grows g g pb w := fun _ h => .inl h
theorem Grows.trans {g g' g'' : Gh} {pb : Nat} {w w' : World} (h : Grows g g' pb w) (h' : Grows g' g'' pb w') (hs : w.heap.size ≤ w'.heap.size) : Grows g g'' pb w := fun k hk => by
  rcases h' k hk with e | e
  · exact h k e
  · exact .inr (Nat.le_trans hs e)
/-- A tree that is there stays where it is. -/
def Keeps (g g' : Gh) : Prop := ∀ y ∈ g.ts, ∃ y' ∈ g'.ts, y'.key = y.key ∧ y'.tb = y.tb
theorem Keeps.refl (g : Gh) : Keeps g g := fun y hy => ⟨y, hy, rfl, rfl⟩
theorem Keeps.trans {a b c : Gh} (h : Keeps a b) (k : Keeps b c) : Keeps a c := fun y hy => by
  obtain ⟨y1, h1, h2, h3⟩ := h y hy
  obtain ⟨y2, k1, k2, k3⟩ := k y1 h1
  exact ⟨y2, k1, k2.trans h2, k3.trans h3⟩
/-- Two frames of one past, one behind the other. -/
theorem Fr.past {g g' : Gh} {pb : Nat} {a b c : World} (h : Fr (g.foot pb) a b) (k : Fr (g'.foot pb) b c) (hg : Grows g g' pb a) : Fr (g.foot pb) a c :=
  h.next k fun i hi hf => by
    rcases hg i hf with e | e
    · exact e
    · omega

/-! ### One step each -/
theorem TreeAt.perm' {w : World} {tb : Nat} {L L' : List It} {t : BT Nd} {mb : Option Nat} (h : TreeAt w tb L t mb) (hp : L.Perm L') : TreeAt w tb L' t mb :=
  ⟨h.cells, h.tin, h.sep, h.fit, h.bal, h.srt, h.ids, h.perm.trans hp, by
    have hm := h.mp
    cases mb with
    | none => have e : L = [] := hm; subst e; exact hp.symm.eq_nil
    | some m => obtain ⟨D, h1, h2⟩ := hm; exact ⟨D, by rw [← hp.length_eq]; exact h1, h2.perm hp⟩, h.nt, h.nm⟩
/-- Other lists of the same spans. -/
theorem PastI.perm {w : World} {pb po : Nat} {R : Rest} {s : Pst} {g : Gh} {I J : KeyP → List It} (h : PastI w pb po R s g I) (hp : ∀ x ∈ g.ts, (I x.key).Perm (J x.key)) : PastI w pb po R s g J :=
  ⟨h.len, h.cells, h.ids, h.vers, h.trees, h.both, h.keys, h.keyOk, fun x hx => (h.tree x hx).perm' (hp x hx), h.all, h.apart, h.ne, h.nea, h.net⟩
def setTr (ts : List Tr) (x' : Tr) : List Tr := ts.map fun y => if y.key = x'.key then x' else y
def Gh.set (g : Gh) (x' : Tr) : Gh := { g with ts := setTr g.ts x' }
def updI (I : KeyP → List It) (k : KeyP) (L : List It) (k' : KeyP) : List It := if k' = k then L else I k'
theorem MapOf.same {α : Type} {kl : α → Lit} {dt : α → DataW Unit} {D : DataW Unit} {L : List α} (h : MapOf kl dt D L) (f : α → α) (hk : ∀ x ∈ L, kl (f x) = kl x) (hd : ∀ x ∈ L, dt (f x) = dt x) : MapOf kl dt D (L.map f) :=
  ⟨h.tidy, by rw [h.size, List.length_map], fun q hq => by
    rw [h.has q hq]
    constructor
    · rintro ⟨x, hx, rfl⟩; exact ⟨f x, List.mem_map.2 ⟨x, hx, rfl⟩, hk x hx⟩
    · rintro ⟨y, hy, rfl⟩; obtain ⟨x, hx, rfl⟩ := List.mem_map.1 hy; exact ⟨x, hx, (hk x hx).symm⟩, fun y hy d => by
    obtain ⟨x, hx, rfl⟩ := List.mem_map.1 hy
    rw [hk x hx, hd x hx]; exact h.at' x hx d⟩
theorem Keeps.set {g : Gh} {x x' : Tr} (hd : (g.ts.map (·.key)).Nodup) (hx : x ∈ g.ts) (hk : x'.key = x.key) (hb : x'.tb = x.tb) : Keeps g (g.set x') := fun y hy => by
  refine ⟨_, List.mem_map.2 ⟨y, hy, rfl⟩, ?_, ?_⟩
  · split
    · rename_i e; exact e.symm
    · rfl
  · split
    · rename_i e
      rw [hb, nodup_inj (·.key) g.ts hd y hy x hx (e.trans hk)]
    · rfl
/-- One tree turns. -/
theorem PastI.turn {w w' : World} {pb po : Nat} {R : Rest} {s : Pst} {g : Gh} {I : KeyP → List It} {x x' : Tr} {L : List It} (h : PastI w pb po R s g I) (hx : x ∈ g.ts) (hk : x'.key = x.key) (hb : x'.tb = x.tb)
    (ht : TreeAt w' x'.tb L x'.t x'.mb) (hf : Fr x.foot w w') (hg : ∀ k, x'.foot k → x.foot k ∨ w.heap.size ≤ k) : PastI w' pb po R s (g.set x') (updI I x.key L) ∧ Grows g (g.set x') pb w ∧ Fr (g.foot pb) w w' := by
  have hkeys : ∀ y ∈ g.ts, y.key = x'.key → y = x := fun y hy e => nodup_inj (·.key) g.ts h.keys y hy x hx (e.trans hk)
  have hfx : ∀ k, x.foot k → g.foot pb k := fun k hk => .inr (.inr (.inr ⟨x, hx, hk⟩))
  have hpf : ∀ k, k = pb ∨ g.am = some k ∨ g.tm = some k → ¬ x.foot k := fun k hk hf => by
    obtain ⟨a, b, c⟩ := h.ne x hx k hf
    rcases hk with e | e | e
    · exact a e
    · exact b e
    · exact c e
  have hother : ∀ y ∈ g.ts, y ≠ x → ∀ k, y.foot k → ¬ x.foot k := fun y hy hne k h1 h2 => by
    have : ∀ l : List Tr, l.Pairwise (fun x y => ∀ k, x.foot k → ¬ y.foot k) → ∀ a ∈ l, ∀ b ∈ l, a ≠ b → ∀ k, a.foot k → ¬ b.foot k := fun l => by
      induction l with
      | nil => intro _ a ha; cases ha
      | cons c l ih =>
        intro hp a ha b hb hab k ka kb
        obtain ⟨p1, p2⟩ := List.pairwise_cons.1 hp
        rcases List.mem_cons.1 ha with e1 | a1
        · rcases List.mem_cons.1 hb with e2 | b1
          · exact hab (e1.trans e2.symm)
          · exact p1 b b1 k (by rw [← e1]; exact ka) kb
        · rcases List.mem_cons.1 hb with e2 | b1
          · exact p1 a a1 k (by rw [← e2]; exact kb) ka
          · exact ih p2 a a1 b b1 hab k ka kb
    exact this g.ts h.apart y hy x hx hne k h1 h2
  have hmem : ∀ y' ∈ setTr g.ts x', y' = x' ∨ (y' ∈ g.ts ∧ y' ≠ x ∧ y'.key ≠ x'.key) := fun y' hy' => by
    obtain ⟨y, hy, rfl⟩ := List.mem_map.1 hy'
    by_cases e : y.key = x'.key
    · rw [if_pos e]; exact .inl rfl
    · rw [if_neg e]; exact .inr ⟨hy, fun e' => e (by rw [e', hk]), e⟩
  have hkm : ∀ y ∈ g.ts, (if y.key = x'.key then x' else y).key = y.key := fun y hy => by
    split
    · rename_i e; exact e.symm
    · rfl
  have hgr : Grows g (g.set x') pb w := by
    rintro k (e | e | e | ⟨y', hy', e⟩)
    · exact .inl (.inl e)
    · exact .inl (.inr (.inl e))
    · exact .inl (.inr (.inr (.inl e)))
    · rcases hmem y' hy' with rfl | ⟨hy, _, _⟩
      · rcases hg k e with e | e
        · exact .inl (hfx k e)
        · exact .inr e
      · exact .inl (.inr (.inr (.inr ⟨y', hy, e⟩)))
  have hlt := h.lt
  refine ⟨⟨h.len, hf.keeps h.cells (hpf _ (.inl rfl)), h.ids, h.vers.frame hf (fun m e => hpf m (.inr (.inl e))), ?_, h.both, ?_, ?_, ?_, ?_, ?_, ?_, h.nea, h.net⟩, hgr, hf.mono (fun k _ hk => hfx k hk)⟩
  · have h1 := h.trees.frame hf (fun m e => hpf m (.inr (.inr e)))
    show treesAt w' (setTr g.ts x') g.tm
    cases ht' : g.tm with
    | none =>
      rw [ht'] at h1
      have e : g.ts = [] := h1
      rw [e] at hx; cases hx
    | some m =>
      rw [ht'] at h1
      obtain ⟨D, h2, h3⟩ := h1
      refine ⟨D, by unfold setTr; rw [List.length_map]; exact h2, h3.same _ (fun y hy => ?_) (fun y hy => ?_)⟩
      · show kK _ = kK _
        rw [hkm y hy]
      · show ptrD _ = ptrD _
        split
        · rename_i e; rw [hkeys y hy e, hb]
        · rfl
  · have e : (setTr g.ts x').map (·.key) = g.ts.map (·.key) := by
      unfold setTr
      rw [List.map_map]
      exact List.map_congr_left hkm
    show ((setTr g.ts x').map (·.key)).Nodup
    rw [e]; exact h.keys
  · intro y' hy'
    rcases hmem y' hy' with rfl | ⟨hy, _, _⟩
    · rw [hk]; exact h.keyOk x hx
    · exact h.keyOk y' hy
  · intro y' hy'
    rcases hmem y' hy' with rfl | ⟨hy, hne, hke⟩
    · unfold updI; rw [if_pos hk]; exact ht
    · unfold updI
      rw [if_neg (by rw [← hk]; exact hke)]
      exact (h.tree y' hy).frame hf (fun k h1 => hother y' hy hne k h1)
  · intro v hv
    obtain ⟨y, hy, e⟩ := h.all v hv
    exact ⟨_, List.mem_map.2 ⟨y, hy, rfl⟩, by rw [hkm y hy]; exact e⟩
  · show (setTr g.ts x').Pairwise _
    unfold setTr
    rw [List.pairwise_map]
    have hn : g.ts.Pairwise fun a b => a.key ≠ b.key := List.pairwise_map.1 h.keys
    refine List.Pairwise.imp_of_mem ?_ (h.apart.and hn)
    intro a b ha hb hab k
    by_cases ea : a.key = x'.key
    · have eb : b.key ≠ x'.key := fun e => hab.2 (ea.trans e.symm)
      rw [if_pos ea, if_neg eb]
      intro h1 h2
      rcases hg k h1 with h1 | h1
      · exact hab.1 k (by rw [hkeys a ha ea]; exact h1) h2
      · have := hlt k (.inr (.inr (.inr ⟨b, hb, h2⟩))); omega
    · rw [if_neg ea]
      by_cases eb : b.key = x'.key
      · rw [if_pos eb]
        intro h1 h2
        rcases hg k h2 with h2 | h2
        · exact hab.1 k h1 (by rw [hkeys b hb eb]; exact h2)
        · have := hlt k (.inr (.inr (.inr ⟨a, ha, h1⟩))); omega
      · rw [if_neg eb]; exact hab.1 k
  · intro y' hy' k hk'
    rcases hmem y' hy' with rfl | ⟨hy, _, _⟩
    · rcases hg k hk' with e | e
      · exact h.ne x hx k e
      · refine ⟨fun e' => ?_, fun e' => ?_, fun e' => ?_⟩
        · have := hlt k (.inl e'); omega
        · have := hlt k (.inr (.inl e')); omega
        · have := hlt k (.inr (.inr (.inl e'))); omega
    · exact h.ne y' hy k hk'
/-- The versions' map turns. -/
theorem PastI.store {w w' : World} {pb po : Nat} {R : Rest} {s s' : Pst} {g : Gh} {I : KeyP → List It} {m : Nat} (h : PastI w pb po R s g I) (hm : g.am = some m) (hf : Fr (· = m) w w') (hv : versAt w' s'.vs (some m)) (hi : Ids s')
    (e1 : s'.now = s.now) (e2 : s'.gone = s.gone) (e3 : s'.next = s.next) (hall : ∀ v ∈ s'.vs, ∃ x ∈ g.ts, x.key = v.key) : PastI w' pb po R s' g I ∧ Fr (g.foot pb) w w' := by
  obtain ⟨a1, a2⟩ := h.nea m hm
  refine ⟨⟨h.len, ?_, hi, by rw [hm]; exact hv, h.trees.frame hf (fun k e e' => a2 (by rw [← e']; exact e)), h.both, h.keys, h.keyOk, fun x hx => (h.tree x hx).frame hf (fun k hk e => (h.ne x hx k hk).2.1 (by rw [e]; exact hm)), hall, h.apart, h.ne, h.nea, h.net⟩, hf.mono (fun k _ e => .inr (.inl (by rw [e]; exact hm)))⟩
  rw [e1, e2, e3]
  exact hf.keeps h.cells (fun e => a1 e.symm)
/-- A place of the past itself turns. -/
theorem PastI.place {w : World} {pb po : Nat} {R : Rest} {s s' : Pst} {g : Gh} {I : KeyP → List It} {i : Nat} {v : Value} (h : PastI w pb po R s g I) (hc : (pcells R s.now s.gone s.next g.am g.tm).setIfInBounds i v = pcells R s'.now s'.gone s'.next g.am g.tm)
    (hi : Ids s') (hv : s'.vs = s.vs) : PastI (w.setCell ⟨pb, i, none⟩ v) pb po R s' g I ∧ Fr (g.foot pb) w (w.setCell ⟨pb, i, none⟩ v) := by
  have hf : Fr (· = pb) w (w.setCell ⟨pb, i, none⟩ v) := Fr.setCell (F := (· = pb)) (Fr.refl _ w) (p := ⟨pb, i, none⟩) (fun _ => rfl) _
  refine ⟨⟨h.len, ?_, hi, by rw [hv]; exact h.vers.frame hf (fun m e => (h.nea m e).1), h.trees.frame hf (fun m e => h.net m e), h.both, h.keys, h.keyOk, fun x hx => (h.tree x hx).frame hf (fun k hk => (h.ne x hx k hk).1), by rw [hv]; exact h.all, h.apart, h.ne, h.nea, h.net⟩, hf.mono (fun k _ e => .inl e)⟩
  rw [← hc]
  exact block_set h.cells i v
/-- A tree more. -/
theorem PastI.newTree {w w' : World} {pb po : Nat} {R : Rest} {s : Pst} {g : Gh} {I : KeyP → List It} {m tb : Nat} {k : KeyP} (h : PastI w pb po R s g I) (hm : g.tm = some m) (hf : Fr (· = m) w w') (hk : keyB k = true) (hn : ∀ x ∈ g.ts, x.key ≠ k) (hI : I k = [])
    (hb : w.heap[tb]? = some (.cells #[.pointer none, .map none] 148 (0, 0))) (hfree : ¬ g.foot pb tb) (ht : treesAt w' (⟨k, tb, .nil, none⟩ :: g.ts) (some m)) :
    PastI w' pb po R s { g with ts := ⟨k, tb, .nil, none⟩ :: g.ts } I ∧ Fr (g.foot pb) w w' := by
  have hft : ∀ j, (⟨k, tb, .nil, none⟩ : Tr).foot j → j = tb := fun j hj => by
    rcases hj with e | e | e
    · exact e
    · cases e
    · cases e
  have hmt : tb ≠ m := fun e => hfree (.inr (.inr (.inl (by rw [e]; exact hm))))
  refine ⟨⟨h.len, hf.keeps h.cells (fun e => h.net m hm e.symm), h.ids, h.vers.frame hf (fun j e e' => (h.nea j e).2 (by rw [e']; exact hm)), by rw [hm]; exact ht, h.both, ?_, ?_, ?_, ?_, ?_, ?_, h.nea, h.net⟩, hf.mono (fun j _ e => .inr (.inr (.inl (by rw [e]; exact hm))))⟩
  · refine List.nodup_cons.2 ⟨fun hc => ?_, h.keys⟩
    obtain ⟨x, hx, e⟩ := List.mem_map.1 hc
    exact hn x hx e
  · intro x hx
    rcases List.mem_cons.1 hx with rfl | hx
    · exact hk
    · exact h.keyOk x hx
  · intro x hx
    rcases List.mem_cons.1 hx with rfl | hx
    · show TreeAt w' tb (I k) .nil none
      rw [hI]
      exact tree_new (hf.keeps hb hmt)
    · exact (h.tree x hx).frame hf (fun j hj e => (h.ne x hx j hj).2.2 (by rw [e]; exact hm))
  · intro v hv
    obtain ⟨x, hx, e⟩ := h.all v hv
    exact ⟨x, List.mem_cons_of_mem _ hx, e⟩
  · refine List.pairwise_cons.2 ⟨fun x hx j h1 h2 => ?_, h.apart⟩
    exact hfree (.inr (.inr (.inr ⟨x, hx, by rw [← hft j h1]; exact h2⟩)))
  · intro x hx j hj
    rcases List.mem_cons.1 hx with rfl | hx
    · have e := hft j hj
      subst e
      exact ⟨fun e' => hfree (.inl e'), fun e' => hfree (.inr (.inl e')), fun e' => hfree (.inr (.inr (.inl e')))⟩
    · exact h.ne x hx j hj
end Go.Proofs.YtacedfcckkpciaaGreatDoor

namespace Go.Proofs.YtacedfcckkpciaaGreatDoor
open Go.RowKit Go.Deep Go.Shelf Go.Sort Go.Maps

theorem pnow_any (pb po : Nat) (R : Rest) (s : Pst) (g : Gh) (w : World) (h : PastAt w pb po R s g) :
    Calls Tryz.prog 16 #[.pointer (some ⟨pb, po, none⟩)] w fun e w' => e = .returned (.int .i64 s.now) ∧ w = w' := by
  obtain ⟨c0, _, _, _, _⟩ := past_cells h.len h.cells
  clear h
  go_enter Tryz.func16, Tryz.ntmps16
  go_wp2
  go_ret
  exact ⟨rfl, rfl⟩
theorem pknown_any (pb po : Nat) (R : Rest) (s : Pst) (g : Gh) (w : World) (h : PastAt w pb po R s g) :
    Calls Tryz.prog 18 #[.pointer (some ⟨pb, po, none⟩)] w fun e w' => e = .returned (.int .i64 s.gone) ∧ w = w' := by
  obtain ⟨_, c1, _, _, _⟩ := past_cells h.len h.cells
  clear h
  go_enter Tryz.func18, Tryz.ntmps18
  go_wp2
  go_ret
  exact ⟨rfl, rfl⟩

def Begun (pb po : Nat) (R : Rest) (s : Pst) (g : Gh) (w : World) (e : Ending) (w' : World) : Prop :=
  ∃ g', e = .returned (.tuple #[]) ∧ PastAt w' pb po R s g' ∧ g'.am.isSome = true ∧ g'.tm.isSome = true ∧ Fr (g.foot pb) w w' ∧ Grows g g' pb w ∧ Keeps g g'
set_option maxRecDepth 100000 in
theorem pbegin_some (pb po : Nat) (R : Rest) (s : Pst) (g : Gh) (m : Nat) (w : World) (h : PastAt w pb po R s g) (hm : g.am = some m) :
    Calls Tryz.prog 33 #[.pointer (some ⟨pb, po, none⟩)] w (Begun pb po R s g w) := by
  obtain ⟨_, _, _, c3, _⟩ := past_cells h.len h.cells
  rw [hm] at c3
  have hend : Begun pb po R s g w (.returned (.tuple #[])) w := ⟨g, rfl, h, by rw [hm]; rfl, by
    cases ht : g.tm with
    | none => rw [h.both.2 ht] at hm; cases hm
    | some _ => rfl, Fr.refl _ _, Grows.refl _ _ _, Keeps.refl _⟩
  have HE := Lib.hid hend
  have hqm := fun (w : World) => run_eql_map_nil (P := Tryz.prog) w 24 3 92 (some m) Tryz.underlying24
  clear h hm hend
  go_enter Tryz.func33, Tryz.ntmps33
  go_wp2
  refine bodyPost_end (results_none rfl _ _ _) rfl ?_
  exact HE.out
theorem begun_none {pb po : Nat} {R : Rest} {s : Pst} {g : Gh} {w : World} (h : PastAt w pb po R s g) (hm : g.am = none) (ht : g.tm = none) :
    Begun pb po R s g w (.returned (.tuple #[])) ((((w.setCell ⟨pb, po + 3, none⟩ (.map (some w.heap.size))).setCell ⟨pb, po + 4, none⟩ (.map (some (w.heap.size + 1)))).alloc (.map #[] 0)).alloc (.map #[] 0)) := by
  have hlt := lt_of_block h.cells
  have hvs : s.vs = [] := by have := h.vers; rw [hm] at this; exact this
  have hts : g.ts = [] := by have := h.trees; rw [ht] at this; exact this
  obtain ⟨W2, hW2⟩ : ∃ W2, W2 = (w.setCell ⟨pb, po + 3, none⟩ (.map (some w.heap.size))).setCell ⟨pb, po + 4, none⟩ (.map (some (w.heap.size + 1))) := ⟨_, rfl⟩
  rw [← hW2]
  have hs2 : W2.heap.size = w.heap.size := by rw [hW2]; simp
  have hc2 : W2.heap[pb]? = some (.cells (pcells R s.now s.gone s.next (some w.heap.size) (some (w.heap.size + 1))) R.ty (0, 0)) := by
    have c := h.cells
    rw [hm, ht] at c
    have c1 := block_set c (po + 3) (.map (some w.heap.size))
    rw [pcells_set3 h.len] at c1
    have c2 := block_set c1 (po + 4) (.map (some (w.heap.size + 1)))
    rw [pcells_set4 h.len] at c2
    rw [hW2]; exact c2
  have hf2 : Fr (· = pb) w W2 := by
    rw [hW2]
    exact Fr.setCell (F := (· = pb)) (Fr.setCell (F := (· = pb)) (Fr.refl _ w) (p := ⟨pb, po + 3, none⟩) (fun _ => rfl) _) (p := ⟨pb, po + 4, none⟩) (fun _ => rfl) _
  have hv : versAt ((W2.alloc (.map #[] 0)).alloc (.map #[] 0)) s.vs (some w.heap.size) := by
    rw [hvs]
    refine ⟨.map [], ?_, mapOf_nil⟩
    have := (World.ownsMap_made W2 Tryz.prog 3 verR).alloc (.map #[] 0)
    rw [hs2] at this
    exact this
  have htm : treesAt ((W2.alloc (.map #[] 0)).alloc (.map #[] 0)) g.ts (some (w.heap.size + 1)) := by
    rw [hts]
    refine ⟨.map [], ?_, mapOf_nil⟩
    have := World.ownsMap_made (W2.alloc (.map #[] 0)) Tryz.prog 29 treeR
    have e : (W2.alloc (.map #[] 0)).heap.size = w.heap.size + 1 := by simp [hs2]
    rw [e] at this
    exact this
  refine ⟨⟨some w.heap.size, some (w.heap.size + 1), g.ts⟩, rfl, ⟨⟨h.len, block_alloc (block_alloc hc2 _) _, h.ids, hv, htm, by simp, h.keys, h.keyOk, ?_, h.all, h.apart, ?_, ?_, ?_⟩, h.tlen⟩, rfl, rfl, ((hf2.alloc _).alloc _).mono (fun k _ e => .inl e), ?_, fun y hy => ⟨y, hy, rfl, rfl⟩⟩
  · intro x hx; rw [hts] at hx; cases hx
  · intro x hx; rw [hts] at hx; cases hx
  · intro m e
    cases e
    exact ⟨by omega, by simp⟩
  · intro m e
    cases e
    omega
  · rintro k (e | e | e | ⟨x, hx, _⟩)
    · exact .inl (.inl e)
    · cases e; exact .inr (Nat.le_refl _)
    · cases e; exact .inr (by omega)
    · change x ∈ g.ts at hx
      rw [hts] at hx; cases hx
set_option maxRecDepth 100000 in
theorem pbegin_none (pb po : Nat) (R : Rest) (s : Pst) (g : Gh) (w : World) (h : PastAt w pb po R s g) (hm : g.am = none) :
    Calls Tryz.prog 33 #[.pointer (some ⟨pb, po, none⟩)] w (Begun pb po R s g w) := by
  have ht := h.both.1 hm
  obtain ⟨_, _, _, c3, c4⟩ := past_cells h.len h.cells
  have f3 := past_free h.cells (po + 3)
  have f4 := past_free h.cells (po + 4)
  rw [hm] at c3
  rw [ht] at c4
  have hlt := lt_of_block h.cells
  have HE := Lib.hid (begun_none h hm ht)
  have hqm := fun (w : World) => run_eql_map_nil (P := Tryz.prog) w 24 3 92 none Tryz.underlying24
  have hmm := @run_makeMap Tryz.prog
  clear h hm ht
  go_enter Tryz.func33, Tryz.ntmps33
  go_wp2
  refine bodyPost_end (results_none rfl _ _ _) rfl ?_
  exact HE.out
theorem pbegin_any (pb po : Nat) (R : Rest) (s : Pst) (g : Gh) (w : World) (h : PastAt w pb po R s g) :
    Calls Tryz.prog 33 #[.pointer (some ⟨pb, po, none⟩)] w (Begun pb po R s g w) := by
  cases hm : g.am with
  | none => exact pbegin_none pb po R s g w h hm
  | some m => exact pbegin_some pb po R s g m w h hm

/-! ### Which counts are known -/
/-- What asking for a count answers: 2: there were not so many; 7: it is not known any more; 0: it is. -/
def askE (s : Pst) (a : Int) : Int := if a < 0 ∨ s.now < a then 2 else if a < s.gone then 7 else 0
theorem askE_0 {s : Pst} {a : Int} (h : askE s a = 0) : 0 ≤ a ∧ a ≤ s.now ∧ s.gone ≤ a := by
  unfold askE at h
  split at h
  · cases h
  · split at h
    · cases h
    · omega
def errN (n : Int) : Value := if n = 0 then .nilIface else errV n
theorem errN_0 : errN 0 = .nilIface := rfl
theorem errN_ne {n : Int} (h : n ≠ 0) : errN n = errV n := by unfold errN; rw [if_neg h]
set_option maxRecDepth 100000 in
theorem pright_any (pb po : Nat) (R : Rest) (s : Pst) (g : Gh) (a : Int) (w : World) (h : PastAt w pb po R s g) :
    Calls Tryz.prog 28 #[.pointer (some ⟨pb, po, none⟩), .int .i64 a] w fun e w' => e = .returned (errN (askE s a)) ∧ w = w' := by
  obtain ⟨c0, c1, _, _, _⟩ := past_cells h.len h.cells
  clear h
  by_cases h0 : a < 0
  · have e : errN (askE s a) = .iface 62 (.int .i64 2) := by unfold askE; rw [if_pos (.inl h0)]; rfl
    have HE := Lib.hid e
    clear e
    go_enter Tryz.func28, Tryz.ntmps28
    go_wp2
    go_ret
    exact ⟨by rw [HE.out]; rfl, rfl⟩
  · by_cases h1 : s.now < a
    · have e : errN (askE s a) = .iface 62 (.int .i64 2) := by unfold askE; rw [if_pos (.inr h1)]; rfl
      have HE := Lib.hid e
      have h0' : decide (a < 0) = false := by simpa using h0
      clear e
      go_enter Tryz.func28, Tryz.ntmps28
      go_wp2
      go_ret
      exact ⟨by rw [HE.out]; rfl, rfl⟩
    · have h0' : decide (a < 0) = false := by simpa using h0
      have h1' : decide (s.now < a) = false := by simpa using h1
      by_cases h2 : a < s.gone
      · have e : errN (askE s a) = .iface 62 (.int .i64 7) := by unfold askE; rw [if_neg (by omega), if_pos h2]; rfl
        have HE := Lib.hid e
        clear e
        go_enter Tryz.func28, Tryz.ntmps28
        go_wp2
        go_ret
        exact ⟨by rw [HE.out]; rfl, rfl⟩
      · have e : errN (askE s a) = .nilIface := by unfold askE; rw [if_neg (by omega), if_neg h2]; rfl
        have HE := Lib.hid e
        clear e
        go_enter Tryz.func28, Tryz.ntmps28
        go_wp2
        go_ret
        exact ⟨by rw [HE.out]; rfl, rfl⟩

set_option maxRecDepth 100000 in
theorem vseen_any (v : Ver) (a : Int) (w : World) : Calls Tryz.prog 31 #[verV v, .int .i64 a] w fun e w' => e = .returned (.bool (seenB v a)) ∧ Below w.heap.size w w' := by
  unfold verV
  by_cases h0 : v.bg ≤ a
  · by_cases h1 : v.en = 0
    · have HE := Lib.hid (show seenB v a = true by unfold seenB; simp [h0, h1])
      have h1' : (v.en == 0) = true := by simpa using h1
      clear h1
      go_enter Tryz.func31, Tryz.ntmps31
      go_wp2
      go_ret
      exact ⟨by rw [HE.out]; rfl, (Below.refl _ _).alloc (Nat.le_refl _) _⟩
    · have h1' : (v.en == 0) = false := by simpa using h1
      have HE := Lib.hid (show seenB v a = decide (a < v.en) by unfold seenB; simp [h0, h1])
      clear h1
      go_enter Tryz.func31, Tryz.ntmps31
      go_wp2
      go_ret
      exact ⟨by rw [HE.out]; rfl, (Below.refl _ _).alloc (Nat.le_refl _) _⟩
  · have HE := Lib.hid (show seenB v a = false by unfold seenB; simp [h0])
    have h0' : decide (v.bg ≤ a) = false := by simpa using h0
    go_enter Tryz.func31, Tryz.ntmps31
    go_wp2
    go_ret
    exact ⟨by rw [HE.out]; rfl, (Below.refl _ _).alloc (Nat.le_refl _) _⟩
end Go.Proofs.YtacedfcckkpciaaGreatDoor

namespace Go.Proofs.YtacedfcckkpciaaGreatDoor
open Go.RowKit Go.Deep Go.Shelf Go.Sort Go.Maps

theorem cells4 {w : World} {b : Nat} {x0 x1 x2 x3 : Value} {t : TypeId} {fz : Nat × Nat} (h : w.heap[b]? = some (.cells #[x0, x1, x2, x3] t fz)) : w.cell? ⟨b, 0, none⟩ = some x0 ∧ w.cell? ⟨b, 1, none⟩ = some x1 ∧ w.cell? ⟨b, 2, none⟩ = some x2 ∧ w.cell? ⟨b, 3, none⟩ = some x3 :=
  ⟨block_cell h 0, block_cell h 1, block_cell h 2, block_cell h 3⟩
theorem cells2 {w : World} {b : Nat} {x0 x1 : Value} {t : TypeId} {fz : Nat × Nat} (h : w.heap[b]? = some (.cells #[x0, x1] t fz)) : w.cell? ⟨b, 0, none⟩ = some x0 ∧ w.cell? ⟨b, 1, none⟩ = some x1 := ⟨block_cell h 0, block_cell h 1⟩
theorem below_drewN' {B : Nat} {a w : World} (h : Below B a w) (n : Nat) : Below B a (w.drewN n) := ⟨h.os, h.tape, h.output, h.size, h.block⟩
/-- The boxes of a key and of a span. -/
structure KBox (w : World) (b : Nat) (k : KeyP) (f t : Int) : Prop where
  key : w.heap[b]? = some (.cells #[.int .i64 k.kind, .int .i64 k.a, .string k.word, .int .i64 k.b] 29 (0, 0))
  span : w.heap[b + 1]? = some (.cells #[.int .i64 f, .int .i64 t] 44 (0, 0))
theorem KBox.new (w : World) (k : KeyP) (f t : Int) : KBox ((w.alloc (.cells #[.int .i64 k.kind, .int .i64 k.a, .string k.word, .int .i64 k.b] 29)).alloc (.cells #[.int .i64 f, .int .i64 t] 44)) w.heap.size k f t :=
  ⟨block_alloc (block_alloc_new w _) _, by
    have := block_alloc_new (w.alloc (.cells #[.int .i64 k.kind, .int .i64 k.a, .string k.word, .int .i64 k.b] 29)) (.cells #[.int .i64 f, .int .i64 t] 44)
    rw [show (w.alloc (.cells #[.int .i64 k.kind, .int .i64 k.a, .string k.word, .int .i64 k.b] 29)).heap.size = w.heap.size + 1 by simp] at this
    exact this⟩
theorem KBox.frame {F : Nat → Prop} {w w' : World} {b : Nat} {k : KeyP} {f t : Int} (h : KBox w b k f t) (hf : Fr F w w') (h1 : ¬ F b) (h2 : ¬ F (b + 1)) : KBox w' b k f t := ⟨hf.keeps h.key h1, hf.keeps h.span h2⟩
theorem KBox.cells {w : World} {b : Nat} {k : KeyP} {f t : Int} (h : KBox w b k f t) : w.cell? ⟨b, 0, none⟩ = some (.int .i64 k.kind) ∧ w.cell? ⟨b, 1, none⟩ = some (.int .i64 k.a) ∧ w.cell? ⟨b, 2, none⟩ = some (.string k.word) ∧ w.cell? ⟨b, 3, none⟩ = some (.int .i64 k.b) ∧ w.cell? ⟨b + 1, 0, none⟩ = some (.int .i64 f) ∧ w.cell? ⟨b + 1, 1, none⟩ = some (.int .i64 t) := by
  obtain ⟨a, b, c, d⟩ := cells4 h.key
  obtain ⟨e, g⟩ := cells2 h.span
  exact ⟨a, b, c, d, e, g⟩

theorem itemsK_add (s : Pst) (k : KeyP) (f t : Int) (x : ByteArray) (k' : KeyP) : itemsK (addV s k f t x).vs k' = updI (itemsK s.vs) k ((f, s.next, t) :: itemsK s.vs k) k' := by
  unfold updI itemsK addV
  by_cases e : k' = k
  · subst e; simp [Ver.item]
  · rw [if_neg e]
    rw [List.filter_cons_of_neg (by simpa using fun e' => e e'.symm)]
theorem Ids.add {s : Pst} (h : Ids s) {k : KeyP} (hk : keyB k = true) (f t : Int) (x : ByteArray) : Ids (addV s k f t x) := by
  refine ⟨?_, fun v hv => ?_, fun v hv => ?_, ?_, ?_⟩
  · simp only [addV, List.map_cons, List.nodup_cons]
    refine ⟨fun hm => ?_, h.nod⟩
    obtain ⟨v, hv, e⟩ := List.mem_map.1 hm
    have := (h.rng v hv).2
    omega
  · rcases List.mem_cons.1 hv with rfl | hv
    · exact ⟨h.next0, by simp only [addV]; omega⟩
    · have := h.rng v hv; exact ⟨this.1, by simp only [addV]; omega⟩
  · rcases List.mem_cons.1 hv with rfl | hv
    · exact hk
    · exact h.key v hv
  · simp only [addV]; have := h.next0; omega
  · simp only [addV, List.length_cons]; have := h.len; omega
theorem items_any {s : Pst} (h : Ids s) (k : KeyP) : (itemsK s.vs k).any (fun y => y.2.1 == s.next) = false := by
  cases e : (itemsK s.vs k).any (fun y => y.2.1 == s.next) with
  | false => rfl
  | true =>
    obtain ⟨y, hy, e1⟩ := List.any_eq_true.1 e
    obtain ⟨v, hv, _, rfl⟩ := mem_itemsK.1 hy
    have := (h.rng v hv).2
    simp [Ver.item] at e1
    omega
theorem items_len {s : Pst} (h : Ids s) (k : KeyP) : ((itemsK s.vs k).length : Int) ≤ s.next := by
  have h1 := List.length_filter_le (fun v : Ver => decide (v.key = k)) s.vs
  have h2 := h.len
  unfold itemsK
  rw [List.length_map]; omega
theorem setTr_mem {ts : List Tr} {x x' : Tr} (hx : x ∈ ts) (hk : x'.key = x.key) : x' ∈ setTr ts x' := List.mem_map.2 ⟨x, hx, by rw [if_pos hk.symm]⟩

/-- What is left of add once the tree has the span: the versions' map, and the next number. -/
theorem padded {w w3 w4 w5 : World} {pb po : Nat} {R : Rest} {s : Pst} {g g3 : Gh} {k : KeyP} {f t : Int} {x : ByteArray} {am : Nat} {y : Tr} {t' : BT Nd} {mb' : Option Nat} {D5 : DataW Unit}
    (h3 : PastI w3 pb po R s g3 (itemsK s.vs)) (htl : (g3.ts.length : Int) ≤ s.next + 1) (hg3 : Grows g g3 pb w) (hkp : Keeps g g3) (hf3 : Fr (g.foot pb) w w3) (hs3 : w.heap.size ≤ w3.heap.size) (ha : g3.am = some am) (ht : g3.tm.isSome = true) (hk : keyB k = true) (hy : y ∈ g3.ts) (hyk : y.key = k)
    (hT : TreeAt w4 y.tb ((f, s.next, t) :: itemsK s.vs k) t' mb') (hF : Fr y.foot w3 w4) (hG : ∀ j, Go.Proofs.YtacedfcckkpciaaGreatDoor.foot y.tb t' mb' j → y.foot j ∨ w3.heap.size ≤ j)
    (o2 : MapOf vK verD D5 s.vs) (hown : w5.ownsMap Tryz.prog 3 verR am (s.vs.length + 1) (D5.put (kI s.next) (verD ⟨s.next, k, f, t, x, s.now, 0⟩))) (F5 : Fr (· = am) w4 w5) :
    Begun pb po R (addV s k f t x) g w (.returned (.tuple #[])) (w5.setCell ⟨pb, po + 2, none⟩ (.int .i64 (s.next + 1))) := by
  obtain ⟨h4, G4, F4⟩ := PastI.turn (x' := ⟨k, y.tb, t', mb'⟩) h3 hy hyk.symm rfl hT hF hG
  have hids := h3.ids.add hk f t x
  have hnew : ∀ v ∈ s.vs, vK v ≠ vK ⟨s.next, k, f, t, x, s.now, 0⟩ := fun v hv => kI_ne (by have := (h3.ids.rng v hv).2; simp only; omega)
  have hv5 : versAt w5 (addV s k f t x).vs (some am) := ⟨_, hown, o2.put ⟨s.next, k, f, t, x, s.now, 0⟩ kI_key hnew⟩
  obtain ⟨a1, a2⟩ := h4.nea am ha
  have hall : ∀ v ∈ (addV s k f t x).vs, ∃ z ∈ (g3.set ⟨k, y.tb, t', mb'⟩).ts, z.key = v.key := fun v hv => by
    rcases List.mem_cons.1 hv with rfl | hv
    · exact ⟨_, setTr_mem hy hyk.symm, rfl⟩
    · exact h4.all v hv
  have F6 : Fr (· = pb) w5 (w5.setCell ⟨pb, po + 2, none⟩ (.int .i64 (s.next + 1))) := Fr.setCell (F := (· = pb)) (Fr.refl _ w5) (p := ⟨pb, po + 2, none⟩) (fun _ => rfl) _
  have hc5 : w5.heap[pb]? = some (.cells (pcells R s.now s.gone s.next (g3.set ⟨k, y.tb, t', mb'⟩).am (g3.set ⟨k, y.tb, t', mb'⟩).tm) R.ty (0, 0)) := F5.keeps h4.cells (fun e => a1 e.symm)
  have hc6 := block_set hc5 (po + 2) (.int .i64 (s.next + 1))
  rw [pcells_set2 h3.len] at hc6
  have h6 : PastI (w5.setCell ⟨pb, po + 2, none⟩ (.int .i64 (s.next + 1))) pb po R (addV s k f t x) (g3.set ⟨k, y.tb, t', mb'⟩) (updI (itemsK s.vs) y.key ((f, s.next, t) :: itemsK s.vs k)) := by
    refine ⟨h4.len, hc6, hids, ?_, ?_, h4.both, h4.keys, h4.keyOk, fun z hz => ?_, hall, h4.apart, h4.ne, h4.nea, h4.net⟩
    · rw [show (g3.set ⟨k, y.tb, t', mb'⟩).am = some am from ha]
      exact hv5.frame F6 (fun m e => by cases e; exact a1)
    · exact (h4.trees.frame F5 (fun m e e' => a2 (by rw [← e']; exact e))).frame F6 (fun m e => h4.net m e)
    · exact ((h4.tree z hz).frame F5 (fun j hj e => (h4.ne z hz j hj).2.1 (by rw [e]; exact ha))).frame F6 (fun j hj => (h4.ne z hz j hj).1)
  have hF : Fr ((g3.set ⟨k, y.tb, t', mb'⟩).foot pb) w4 (w5.setCell ⟨pb, po + 2, none⟩ (.int .i64 (s.next + 1))) :=
    (F5.mono (fun j _ e => .inr (.inl (by rw [e]; exact ha)))).trans (F6.mono (fun j _ e => .inl e))
  refine ⟨g3.set ⟨k, y.tb, t', mb'⟩, rfl, ⟨h6.perm (fun z _ => by rw [hyk, itemsK_add]), by show ((setTr g3.ts _).length : Int) ≤ s.next + 1; unfold setTr; rw [List.length_map]; exact htl⟩, by rw [show (g3.set ⟨k, y.tb, t', mb'⟩).am = some am from ha]; rfl, ht, ?_, hg3.trans G4 hs3, hkp.trans (Keeps.set h3.keys hy hyk.symm rfl)⟩
  exact hf3.past (F4.past hF G4) hg3

set_option maxRecDepth 100000 in
set_option maxHeartbeats 4000000 in
theorem padd_old (k : KeyP) (f t : Int) (x : ByteArray) (pb po : Nat) (R : Rest) (s : Pst) (g : Gh) (am tm : Nat) (y : Tr) (w : World) (h : PastAt w pb po R s g) (ha : g.am = some am) (ht : g.tm = some tm) (hk : keyB k = true) (hr : rightB f t = true) (hn : s.next < 4000) (hy : treeFor g.ts k = some y) :
    Calls Tryz.prog 66 #[.pointer (some ⟨pb, po, none⟩), .agg #[.int .i64 k.kind, .int .i64 k.a, .string k.word, .int .i64 k.b], .agg #[.int .i64 f, .int .i64 t], .string x, .int .i64 s.now] w (Begun pb po R (addV s k f t x) g w) := by
  obtain ⟨W1, hW1⟩ : ∃ W1, W1 = (w.alloc (.cells #[.int .i64 k.kind, .int .i64 k.a, .string k.word, .int .i64 k.b] 29)).alloc (.cells #[.int .i64 f, .int .i64 t] 44) := ⟨_, rfl⟩
  have hB1 : Below w.heap.size w W1 := by rw [hW1]; exact ((Below.refl _ w).alloc (Nat.le_refl _) _).alloc (by simp) _
  have hs1 : W1.heap.size = w.heap.size + 2 := by rw [hW1]; simp
  have hK1 : KBox W1 w.heap.size k f t := by rw [hW1]; exact KBox.new w k f t
  have P1 := h.below hB1
  have hlk : ∀ n, (Instr.lookup 25 (.map (some tm)) (.agg #[.int .i64 k.kind, .int .i64 k.a, .string k.word, .int .i64 k.b]) false).run Tryz.prog (W1.drewN n) = .ok (.pointer (some ⟨y.tb, 0, none⟩)) (W1.drewN n) := fun n => by
    have hT := P1.trees.frame (Fr.drewN (Fr.refl (fun _ => False) W1) n) (fun _ _ e => e)
    have := tree_look hT P1.keyOk hk
    rw [ht, trPtr_some hy] at this
    exact this
  obtain ⟨_, _, c2, _, c4⟩ := past_cells P1.len P1.cells
  rw [ht] at c4
  obtain ⟨k0, k1, k2, k3, k4, k5⟩ := hK1.cells
  have HW1 := Lib.hid hW1
  have HB1 := Lib.hid hB1
  have HK1 := Lib.hid hK1
  have HS1 := Lib.hid hs1
  have HP := Lib.hid h
  have HP1 := Lib.hid P1
  have HA := Lib.hid ha
  have HT := Lib.hid ht
  have HY := Lib.hid hy
  have HK := Lib.hid hk
  have HR := Lib.hid hr
  clear hW1 hB1 hK1 hs1 h P1 ha ht hy hk hr
  go_enter Tryz.func66, Tryz.ntmps66
  go_wp2_with fail
  rw [← HW1.out]
  go_quiet (fail)
  revert nq; intro n1
  go_wp2_with fail
  obtain ⟨W2, hW2⟩ : ∃ W2, W2 = W1.drewN n1 := ⟨_, rfl⟩
  rw [← hW2]
  have hB2 : Below W1.heap.size W1 W2 := by rw [hW2]; exact below_drewN' (Below.refl _ _) _
  have hs2 : W2.heap.size = w.heap.size + 2 := by rw [hW2]; exact HS1.out
  have hK2 := HK1.out.frame (Fr.new (F := fun _ => False) hB2) (fun e => e) (fun e => e)
  have P2 := HP1.out.below hB2
  have HK2 := Lib.hid hK2
  have HP2 := Lib.hid P2
  have HS2 := Lib.hid hs2
  have HB2 := Lib.hid (HB1.out.trans (hB2.mono (by rw [HS1.out]; omega)))
  clear c2 c4 k0 k1 k2 k3 k4 k5 hlk
  obtain ⟨_, _, c2, c3, _⟩ := past_cells P2.len P2.cells
  rw [HA.out] at c3
  obtain ⟨k0, k1, k2, k3, k4, k5⟩ := hK2.cells
  clear hW2 hB2 hs2 hK2 P2
  refine wp_region_tail 6 (by kernel_rfl) (by kernel_rfl) ?_
  simp only [List.take_succ_cons, List.take_zero, List.drop_succ_cons, List.drop_zero]
  repeat still_step
  refine wpStill_nil ?_
  go_wp2_with fail
  have hym := (treeFor_some HY.out).1
  have hyk := (treeFor_some HY.out).2
  have HYK := Lib.hid hyk
  have HYM := Lib.hid hym
  have T2 : TreeAt W2.drew y.tb (itemsK s.vs k) y.t y.mb := by
    have := (HP2.out.below ((Below.refl _ W2).drew)).tree y hym
    rw [hyk] at this; exact this
  have HT2 := Lib.hid T2
  clear hyk hym T2
  refine (tadd_ok s.next f t W2.drew y.tb (itemsK s.vs k) y.t y.mb HT2.out HP.out.ids.next0 (by omega) HR.out (items_any HP.out.ids k) (by have := items_len HP.out.ids k; omega)).mono ?_
  rintro e w4 ⟨t4, m4, rfl, T4, F4, G4⟩
  have F4' : Fr y.foot W2 w4 := (Fr.drew (Fr.refl _ W2)).trans F4
  have hfy : ∀ j, y.foot j → j < w.heap.size := fun j hj => HP.out.lt j (.inr (.inr (.inr ⟨y, HYM.out, hj⟩)))
  have hK4 := HK2.out.frame F4' (fun e => by have := hfy _ e; omega) (fun e => by have := hfy _ e; omega)
  have hc4 := F4'.keeps HP2.out.cells (fun e => (HP.out.ne y HYM.out pb e).1 rfl)
  have hv4 := HP2.out.vers.frame F4' (fun j e e' => (HP.out.ne y HYM.out j e').2.1 e)
  rw [HA.out] at hv4
  obtain ⟨D, hown, hD⟩ := hv4
  have HT4 := Lib.hid T4
  have HF4 := Lib.hid F4'
  have HG4 := Lib.hid G4
  have HD := Lib.hid hD
  have hsz4 := F4'.size
  have HSZ4 := Lib.hid hsz4
  clear T4 F4 F4' G4 hD hfy hsz4 c2 c3 k0 k1 k2 k3 k4 k5
  obtain ⟨_, _, c2, c3, _⟩ := past_cells HP2.out.len hc4
  have f2 := past_free hc4 (po + 2)
  rw [HA.out] at c3
  obtain ⟨k0, k1, k2, k3, _, _⟩ := hK4.cells
  have HC4 := Lib.hid hc4
  have hl := HP.out.ids.len
  have hn0 := HP.out.ids.next0
  have hib : i64 s.next := ⟨by omega, by omega⟩
  have HIB := Lib.hid hib
  have hva := (HP.out.nea am HA.out).1
  clear hK4 hc4 hib
  go_wp2_with fail
  refine wp_region_tail 12 (by kernel_rfl) (by kernel_rfl) ?_
  simp only [List.take_succ_cons, List.take_zero, List.drop_succ_cons, List.drop_zero]
  repeat still_step
  refine wpStill_nil ?_
  go_wp2_with (at_mapUpdate; refine wpList_mapUpdate_own _ rfl _ _ _ 24 rfl 3 92 intLaw Tryz.underlying24 verR am s.vs.length D rfl (World.ownsMap.drew hown) (by unfold maxLen; omega) _ _ _ rfl rfl (keyOf_int_mk Tryz.underlying3 (wfI HIB.out)) (verD ⟨s.next, k, f, t, x, s.now, 0⟩) [] (verR_mk ⟨s.next, k, f, t, x, s.now, 0⟩) ?_; intro w5 hown5 hgrow5; have F5 : Fr (· = am) w4 w5 := (Fr.drew (Fr.refl _ w4)).trans (Fr.ofGrown hgrow5); have hc5 := F5.keeps HC4.out (fun e => hva e.symm); have HF5 := Lib.hid F5; have HO5 := Lib.hid hown5; clear hgrow5 F5 hown5 c2 c3 f2 k0 k1 k2 k3; obtain ⟨_, _, c2, _, _⟩ := past_cells HP2.out.len hc5; have f2 := past_free hc5 (po + 2); have hb5 := lt_of_block hc5; clear hc5)
  have hend := padded (t := t) (x := x) HP2.out.toPastI (by have := HP2.out.tlen; omega) (Grows.refl _ _ _) (Keeps.refl _) (Fr.new HB2.out) HB2.out.size HA.out (by rw [HT.out]; rfl) HK.out HYM.out HYK.out HT4.out HF4.out (fun j hj => HG4.out j hj) HD.out HO5.out HF5.out
  refine bodyPost_end (results_none rfl _ _ _) rfl ?_
  exact hend

theorem ptrD_nat (b : Nat) : treeR (.pointer (some ⟨b, 0, none⟩)) = some (ptrD (b : Nat), []) := rfl
set_option maxRecDepth 100000 in
set_option maxHeartbeats 4000000 in
theorem padd_new (k : KeyP) (f t : Int) (x : ByteArray) (pb po : Nat) (R : Rest) (s : Pst) (g : Gh) (am tm : Nat) (w : World) (h : PastAt w pb po R s g) (ha : g.am = some am) (ht : g.tm = some tm) (hk : keyB k = true) (hr : rightB f t = true) (hn : s.next < 4000) (hy : treeFor g.ts k = none) :
    Calls Tryz.prog 66 #[.pointer (some ⟨pb, po, none⟩), .agg #[.int .i64 k.kind, .int .i64 k.a, .string k.word, .int .i64 k.b], .agg #[.int .i64 f, .int .i64 t], .string x, .int .i64 s.now] w (Begun pb po R (addV s k f t x) g w) := by
  obtain ⟨W1, hW1⟩ : ∃ W1, W1 = (w.alloc (.cells #[.int .i64 k.kind, .int .i64 k.a, .string k.word, .int .i64 k.b] 29)).alloc (.cells #[.int .i64 f, .int .i64 t] 44) := ⟨_, rfl⟩
  have hB1 : Below w.heap.size w W1 := by rw [hW1]; exact ((Below.refl _ w).alloc (Nat.le_refl _) _).alloc (by simp) _
  have hs1 : W1.heap.size = w.heap.size + 2 := by rw [hW1]; simp
  have hK1 : KBox W1 w.heap.size k f t := by rw [hW1]; exact KBox.new w k f t
  have P1 := h.below hB1
  have hlk : ∀ n, (Instr.lookup 25 (.map (some tm)) (.agg #[.int .i64 k.kind, .int .i64 k.a, .string k.word, .int .i64 k.b]) false).run Tryz.prog (W1.drewN n) = .ok (.pointer none) (W1.drewN n) := fun n => by
    have hT := P1.trees.frame (Fr.drewN (Fr.refl (fun _ => False) W1) n) (fun _ _ e => e)
    have := tree_look hT P1.keyOk hk
    rw [ht, trPtr_none hy] at this
    exact this
  obtain ⟨_, _, c2, _, c4⟩ := past_cells P1.len P1.cells
  rw [ht] at c4
  obtain ⟨k0, k1, k2, k3, k4, k5⟩ := hK1.cells
  have HW1 := Lib.hid hW1
  have HB1 := Lib.hid hB1
  have HK1 := Lib.hid hK1
  have HS1 := Lib.hid hs1
  have HP := Lib.hid h
  have HP1 := Lib.hid P1
  have HA := Lib.hid ha
  have HT := Lib.hid ht
  have HY := Lib.hid hy
  have HK := Lib.hid hk
  have HR := Lib.hid hr
  clear hW1 hB1 hK1 hs1 h P1 ha ht hy hk hr
  go_enter Tryz.func66, Tryz.ntmps66
  go_wp2_with fail
  rw [← HW1.out]
  go_quiet (fail)
  revert nq; intro n1
  go_wp2_with fail
  obtain ⟨tb, htb⟩ : ∃ tb, tb = W1.heap.size := ⟨_, rfl⟩
  rw [← htb]
  obtain ⟨W2, hW2⟩ : ∃ W2, W2 = (W1.drewN n1).alloc (.cells #[.pointer none, .map none] 148) := ⟨_, rfl⟩
  rw [← hW2]
  have hB2 : Below W1.heap.size W1 W2 := by rw [hW2]; exact (below_drewN' (Below.refl _ _) _).alloc (Nat.le_refl _) _
  have hs2 : W2.heap.size = w.heap.size + 3 := by rw [hW2]; have := HS1.out; simp [this]
  have hK2 := HK1.out.frame (Fr.new (F := fun _ => False) hB2) (fun e => e) (fun e => e)
  have P2 := HP1.out.below hB2
  have ht2 : W2.heap[tb]? = some (.cells #[.pointer none, .map none] 148 (0, 0)) := by
    rw [hW2, htb]; exact block_alloc_new (W1.drewN n1) _
  have htb' : tb = w.heap.size + 2 := by rw [htb]; exact HS1.out
  have HTB := Lib.hid htb'
  have HT2B := Lib.hid ht2
  have HK2 := Lib.hid hK2
  have HP2 := Lib.hid P2
  have HS2 := Lib.hid hs2
  have HB2 := Lib.hid (HB1.out.trans (hB2.mono (by rw [HS1.out]; omega)))
  clear c2 c4 k0 k1 k2 k3 k4 k5 hlk
  have hv2 := P2.trees
  rw [HT.out] at hv2
  obtain ⟨Dt, hownt, hDt⟩ := hv2
  have HDT := Lib.hid hDt
  obtain ⟨_, _, _, _, c4⟩ := past_cells P2.len P2.cells
  rw [HT.out] at c4
  obtain ⟨k0, k1, k2, k3, k4, k5⟩ := hK2.cells
  have htl := HP.out.tlen
  have hnet := HP.out.net tm HT.out
  have htm : tm < w.heap.size := HP.out.lt tm (.inr (.inr (.inl HT.out)))
  clear hW2 hB2 hs2 hK2 P2 ht2 htb htb' hDt
  refine wp_region_tail 6 (by kernel_rfl) (by kernel_rfl) ?_
  simp only [List.take_succ_cons, List.take_zero, List.drop_succ_cons, List.drop_zero]
  repeat still_step
  refine wpStill_nil ?_
  go_wp2_with (at_mapUpdate; refine wpList_mapUpdate_own _ rfl _ _ _ 25 rfl 29 89 keyLaw Tryz.underlying25 treeR tm g.ts.length Dt rfl (World.ownsMap.drew hownt) (by unfold maxLen; omega) _ _ _ rfl rfl (keyOf_key HK.out) (ptrD (tb : Nat)) [] rfl ?_; intro w3 hown3 hgrow3)
  have F3 : Fr (· = tm) W2 w3 := (Fr.drew (Fr.refl _ W2)).trans (Fr.ofGrown hgrow3)
  have hnk := treeFor_none HY.out
  have hnt : ∀ z ∈ g.ts, tK z ≠ tK ⟨k, tb, .nil, none⟩ := fun z hz e => hnk z hz (kK_inj (HP.out.keyOk z hz) HK.out e)
  have hti : itemsK s.vs k = [] := by
    cases e : itemsK s.vs k with
    | nil => rfl
    | cons z l =>
      obtain ⟨v, hv, hvk, _⟩ := mem_itemsK.1 (show z ∈ itemsK s.vs k by rw [e]; simp)
      obtain ⟨z', hz', e'⟩ := HP.out.all v hv
      exact absurd (e'.trans hvk) (hnk z' hz')
  have hfree : ¬ g.foot pb tb := fun e => by have := HP.out.lt tb e; have := HTB.out; omega
  obtain ⟨P3, FF3⟩ := PastI.newTree HP2.out.toPastI HT.out F3 HK.out hnk hti HT2B.out hfree ⟨_, hown3, HDT.out.put (⟨k, tb, .nil, none⟩ : Tr) (kK_key k) hnt⟩
  have hK3 := HK2.out.frame F3 (by omega) (by omega)
  have hs3 := F3.size
  obtain ⟨y, hY⟩ : ∃ y : Tr, y = ⟨k, tb, .nil, none⟩ := ⟨_, rfl⟩
  rw [← hY] at P3
  obtain ⟨g3, hG3⟩ : ∃ g3 : Gh, g3 = { g with ts := y :: g.ts } := ⟨_, rfl⟩
  have hG3' : ({ am := g.am, tm := g.tm, ts := y :: g.ts } : Gh) = g3 := hG3.symm
  rw [hG3'] at P3
  have ha3 : g3.am = some am := by rw [hG3]; exact HA.out
  have ht3 : g3.tm.isSome = true := by rw [hG3]; show g.tm.isSome = true; rw [HT.out]; rfl
  have hym : y ∈ g3.ts := by rw [hG3]; simp
  have hyk : y.key = k := by rw [hY]
  have hytb : y.tb = tb := by rw [hY]
  have htl3 : (g3.ts.length : Int) ≤ s.next + 1 := by rw [hG3]; simp only [List.length_cons]; omega
  have hgr3 : Grows g g3 pb w := by
    rw [hG3]
    rintro j (e | e | e | ⟨z, hz, e⟩)
    · exact .inl (.inl e)
    · exact .inl (.inr (.inl e))
    · exact .inl (.inr (.inr (.inl e)))
    · rcases List.mem_cons.1 hz with rfl | hz
      · rw [hY] at e
        rcases e with e | e | e
        · right; have e' : j = tb := e; have := HTB.out; omega
        · cases e
        · cases e
      · exact .inl (.inr (.inr (.inr ⟨z, hz, e⟩)))
  have hkp3 : Keeps g g3 := by rw [hG3]; exact fun z hz => ⟨z, List.mem_cons_of_mem _ hz, rfl, rfl⟩
  have hfy : ∀ j, y.foot j → j = tb := fun j hj => by
    rw [hY] at hj
    rcases hj with e | e | e
    · exact e
    · cases e
    · cases e
  have hFF3 : Fr (g.foot pb) w w3 := (Fr.new HB2.out).next FF3 (fun _ _ e => e)
  have HY3 := Lib.hid (And.intro ha3 (And.intro ht3 (And.intro hym (And.intro hyk (And.intro hytb (And.intro htl3 (And.intro hgr3 (And.intro hfy (And.intro hFF3 hkp3)))))))))
  have HP3 := Lib.hid P3
  have HK3 := Lib.hid hK3
  have HSZ3 := Lib.hid hs3
  clear k0 k1 k2 k3 k4 k5 c4 hgrow3 hown3 hownt F3 hnk hnt hti hfree FF3 ha3 ht3 hym hyk htl3 hgr3 hfy hFF3 hkp3 hY hG3 hG3'
  obtain ⟨_, _, c2, c3, _⟩ := past_cells P3.len P3.cells
  rw [HY3.out.1] at c3
  obtain ⟨k0, k1, k2, k3, k4, k5⟩ := hK3.cells
  have hbt : W2.heap.size ≤ w3.heap.size := hs3
  clear hK3 P3 hs3
  go_wp2_with fail
  rw [← hytb]
  clear hytb
  refine wp_region_tail 6 (by kernel_rfl) (by kernel_rfl) ?_
  simp only [List.take_succ_cons, List.take_zero, List.drop_succ_cons, List.drop_zero]
  repeat still_step
  refine wpStill_nil ?_
  go_wp2_with fail
  have T3 : TreeAt w3.drew y.tb (itemsK s.vs k) y.t y.mb := by
    have := (HP3.out.below ((Below.refl _ w3).drew)).tree y HY3.out.2.2.1
    rw [HY3.out.2.2.2.1] at this; exact this
  have HT3 := Lib.hid T3
  clear T3
  refine (tadd_ok s.next f t w3.drew y.tb (itemsK s.vs k) y.t y.mb HT3.out HP.out.ids.next0 (by omega) HR.out (items_any HP.out.ids k) (by have := items_len HP.out.ids k; omega)).mono ?_
  rintro e w4 ⟨t4, m4, rfl, T4, F4, G4⟩
  have F4' : Fr y.foot w3 w4 := (Fr.drew (Fr.refl _ w3)).trans F4
  have hfy : ∀ j, y.foot j → j = tb := HY3.out.2.2.2.2.2.2.2.1
  have hK4 := HK3.out.frame F4' (fun e => by have := hfy _ e; have := HTB.out; omega) (fun e => by have := hfy _ e; have := HTB.out; omega)
  have hc4 := F4'.keeps HP3.out.cells (fun e => (HP3.out.ne y HY3.out.2.2.1 pb e).1 rfl)
  have hv4 := HP3.out.vers.frame F4' (fun j e e' => (HP3.out.ne y HY3.out.2.2.1 j e').2.1 e)
  rw [HY3.out.1] at hv4
  obtain ⟨D, hown, hD⟩ := hv4
  have HT4 := Lib.hid T4
  have HF4 := Lib.hid F4'
  have HG4 := Lib.hid G4
  have HD := Lib.hid hD
  have hsz4 := F4'.size
  have HSZ4 := Lib.hid hsz4
  clear T4 F4 F4' G4 hD hfy hsz4 c2 c3 k0 k1 k2 k3 k4 k5
  obtain ⟨_, _, c2, c3, _⟩ := past_cells HP3.out.len hc4
  have f2 := past_free hc4 (po + 2)
  rw [HY3.out.1] at c3
  obtain ⟨k0, k1, k2, k3, _, _⟩ := hK4.cells
  have HC4 := Lib.hid hc4
  have hl := HP.out.ids.len
  have hn0 := HP.out.ids.next0
  have hib : i64 s.next := ⟨by omega, by omega⟩
  have HIB := Lib.hid hib
  have hva := (HP3.out.nea am HY3.out.1).1
  clear hK4 hc4 hib
  go_wp2_with fail
  refine wp_region_tail 12 (by kernel_rfl) (by kernel_rfl) ?_
  simp only [List.take_succ_cons, List.take_zero, List.drop_succ_cons, List.drop_zero]
  repeat still_step
  refine wpStill_nil ?_
  go_wp2_with (at_mapUpdate; refine wpList_mapUpdate_own _ rfl _ _ _ 24 rfl 3 92 intLaw Tryz.underlying24 verR am s.vs.length D rfl (World.ownsMap.drew hown) (by unfold maxLen; omega) _ _ _ rfl rfl (keyOf_int_mk Tryz.underlying3 (wfI HIB.out)) (verD ⟨s.next, k, f, t, x, s.now, 0⟩) [] (verR_mk ⟨s.next, k, f, t, x, s.now, 0⟩) ?_; intro w5 hown5 hgrow5; have F5 : Fr (· = am) w4 w5 := (Fr.drew (Fr.refl _ w4)).trans (Fr.ofGrown hgrow5); have hc5 := F5.keeps HC4.out (fun e => hva e.symm); have HF5 := Lib.hid F5; have HO5 := Lib.hid hown5; clear hgrow5 F5 hown5 c2 c3 f2 k0 k1 k2 k3; obtain ⟨_, _, c2, _, _⟩ := past_cells HP3.out.len hc5; have f2 := past_free hc5 (po + 2); have hb5 := lt_of_block hc5; clear hc5)
  have hend := padded (t := t) (x := x) HP3.out HY3.out.2.2.2.2.2.1 HY3.out.2.2.2.2.2.2.1 HY3.out.2.2.2.2.2.2.2.2.2 HY3.out.2.2.2.2.2.2.2.2.1 (by have := HB2.out.size; omega) HY3.out.1 HY3.out.2.1 HK.out HY3.out.2.2.1 HY3.out.2.2.2.1 HT4.out HF4.out (fun j hj => HG4.out j hj) HD.out HO5.out HF5.out
  refine bodyPost_end (results_none rfl _ _ _) rfl ?_
  exact hend
theorem padd_any (k : KeyP) (f t : Int) (x : ByteArray) (pb po : Nat) (R : Rest) (s : Pst) (g : Gh) (w : World) (h : PastAt w pb po R s g) (ha : g.am.isSome = true) (ht : g.tm.isSome = true) (hk : keyB k = true) (hr : rightB f t = true) (hn : s.next < 4000) :
    Calls Tryz.prog 66 #[.pointer (some ⟨pb, po, none⟩), .agg #[.int .i64 k.kind, .int .i64 k.a, .string k.word, .int .i64 k.b], .agg #[.int .i64 f, .int .i64 t], .string x, .int .i64 s.now] w (Begun pb po R (addV s k f t x) g w) := by
  obtain ⟨am, ha⟩ := Option.isSome_iff_exists.1 ha
  obtain ⟨tm, ht⟩ := Option.isSome_iff_exists.1 ht
  cases hy : treeFor g.ts k with
  | none => exact padd_new k f t x pb po R s g am tm w h ha ht hk hr hn hy
  | some y => exact padd_old k f t x pb po R s g am tm y w h ha ht hk hr hn hy
end Go.Proofs.YtacedfcckkpciaaGreatDoor

namespace Go.Proofs.YtacedfcckkpciaaGreatDoor
open Go.RowKit Go.Deep Go.Shelf Go.Sort Go.Maps

theorem Fr.cell {F : Nat → Prop} {w w' : World} (h : Fr F w w') {b o : Nat} {v : Value} (hc : w.cell? ⟨b, o, none⟩ = some v) (hn : ¬ F b) : w'.cell? ⟨b, o, none⟩ = some v :=
  (World.cell?_of_block (w := w) (a := ⟨b, o, none⟩) (h.block b (World.block_lt_of_cell? w _ hc) hn)).trans hc
theorem Fr.free {F : Nat → Prop} {w w' : World} (h : Fr F w w') {b o : Nat} (hb : b < w.heap.size) (hc : w.frozen? ⟨b, o, none⟩ = false) (hn : ¬ F b) : w'.frozen? ⟨b, o, none⟩ = false :=
  (World.frozen?_of_block (w := w) (a := ⟨b, o, none⟩) (h.block b hb hn)).trans hc
/-- What a call has built of its own, with where it lies. -/
theorem ownsRow_at {w : World} {base : Nat} {e : TypeId} {size : Nat} {v : Value} {n : Nat} {xs : List Value} (h : w.ownsRow base e size v n xs) :
    ∃ ao cap, v = .slice ao n cap ∧ ∀ j u, xs[j]? = some u → ∃ b, ao = some ⟨b, 0, none⟩ ∧ base ≤ b ∧ w.cell? ⟨b, j, none⟩ = some u := by
  have h0 := h
  rcases h.2 with ⟨rfl, hn⟩ | ⟨g, cap, cur, rfl, hbg, hh, hnc, hcm, hcs, htk⟩
  · subst hn
    have hx : xs = [] := List.eq_nil_of_length_eq_zero (by simpa using h.1)
    subst hx
    exact ⟨none, 0, rfl, fun j u hu => by simp at hu⟩
  · refine ⟨some ⟨g, 0, none⟩, cap, rfl, fun j u hu => ⟨g, rfl, hbg, ?_⟩⟩
    have hj : j < n * size := by
      rw [← h.1]; exact (List.getElem?_eq_some_iff.1 hu).1
    rw [h0.cellAt j hj, hu]
theorem ownsRow_intsB {w : World} {base n : Nat} {v : Value} {l : List Int} {e : TypeId} (h : w.ownsRow base e 1 v n (l.map (Value.int .i64))) : ∃ ao cap, v = .slice ao l.length cap ∧ ∀ j x, l[j]? = some x → ∃ b, ao = some ⟨b, 0, none⟩ ∧ base ≤ b ∧ w.cell? ⟨b, j, none⟩ = some (.int .i64 x) := by
  have hn : n = l.length := by have := h.1; simp at this; omega
  subst hn
  obtain ⟨ao, cap, rfl, hc⟩ := ownsRow_at h
  exact ⟨ao, cap, rfl, fun i x hx => hc i (.int .i64 x) (by simp [hx])⟩
theorem ownsRow_spansB {w : World} {base n : Nat} {v : Value} {l : List (Int × Int)} {e : TypeId} (h : w.ownsRow base e 2 v n (flat l)) : ∃ ao cap, v = .slice ao l.length cap ∧ ∀ j x y, l[j]? = some (x, y) → ∃ b, ao = some ⟨b, 0, none⟩ ∧ base ≤ b ∧ w.cell? ⟨b, j * 2, none⟩ = some (.int .i64 x) ∧ w.cell? ⟨b, j * 2 + 1, none⟩ = some (.int .i64 y) := by
  have hn : n = l.length := by have := h.1; rw [flat_length] at this; omega
  subst hn
  obtain ⟨ao, cap, rfl, hc⟩ := ownsRow_at h
  refine ⟨ao, cap, rfl, fun i x y hx => ?_⟩
  obtain ⟨f1, f2⟩ := flat_get l i x y hx
  obtain ⟨b, h1, hb, h2⟩ := hc _ _ f1
  obtain ⟨b', h1', _, h2'⟩ := hc _ _ f2
  rw [h1] at h1'; cases h1'
  exact ⟨b, h1, hb, h2, h2'⟩

/-! ### Plain -/
theorem sayAll_snoc (o : OpP) (s : Pst) (l : List Int) (k : Nat) (id : Int) (h : l[k]? = some id) : sayAll o s (l.take (k + 1)) = sayId o (sayAll o s (l.take k)) id := by
  unfold sayAll
  rw [List.take_succ_eq_append_getElem (List.getElem?_eq_some_iff.1 h).1, List.foldl_append, (List.getElem?_eq_some_iff.1 h).2]; rfl
theorem addAll_snoc (s : Pst) (k : KeyP) (x : ByteArray) (l : List (Int × Int)) (j : Nat) (a b : Int) (h : l[j]? = some (a, b)) : addAll s k x (l.take (j + 1)) = addV (addAll s k x (l.take j)) k a b x := by
  unfold addAll
  rw [List.take_succ_eq_append_getElem (List.getElem?_eq_some_iff.1 h).1, List.foldl_append, (List.getElem?_eq_some_iff.1 h).2]; rfl
theorem sayId_skip {o : OpP} {s : Pst} {id : Int} {v : Ver} (hf : s.vs.find? (fun u => decide (u.id = id)) = some v) (h : 0 < v.en) : sayId o s id = s := by
  unfold sayId; rw [hf]; show (if 0 < v.en then s else cutV s o v) = s; rw [if_pos h]
theorem sayId_cut {o : OpP} {s : Pst} {id : Int} {v : Ver} (hf : s.vs.find? (fun u => decide (u.id = id)) = some v) (h : ¬ 0 < v.en) : sayId o s id = cutV s o v := by
  unfold sayId; rw [hf]; show (if 0 < v.en then s else cutV s o v) = _; rw [if_neg h]
theorem filter_perm_cons {α : Type} (f : α → Int) : ∀ {l : List α}, (l.map f).Nodup → ∀ {v : α}, v ∈ l → l.Perm (v :: l.filter fun u => decide (f u ≠ f v))
  | [], _, _, hv => by cases hv
  | a :: l, hn, v, hv => by
    rw [List.map_cons, List.nodup_cons] at hn
    rcases List.mem_cons.1 hv with e | hv
    · subst e
      rw [List.filter_cons_of_neg (by simp)]
      have : l.filter (fun u => decide (f u ≠ f v)) = l := by
        rw [List.filter_eq_self]
        intro u hu
        simp only [decide_eq_true_eq]
        exact fun e => hn.1 (List.mem_map.2 ⟨u, hu, e⟩)
      rw [this]
    · have hne : f a ≠ f v := fun e => hn.1 (List.mem_map.2 ⟨v, hv, e.symm⟩)
      rw [List.filter_cons_of_pos (by simpa using hne)]
      exact ((filter_perm_cons f hn.2 hv).cons a).trans (List.Perm.swap _ _ _)
theorem dropV_perm {s : Pst} (h : (s.vs.map (·.id)).Nodup) {v : Ver} (hv : v ∈ s.vs) : s.vs.Perm (v :: (dropV s v.id).vs) := filter_perm_cons (fun u : Ver => u.id) h hv
theorem endV_perm {s : Pst} (h : (s.vs.map (·.id)).Nodup) {v : Ver} (hv : v ∈ s.vs) : (endV s v.id).vs.Perm ({ v with en := s.now } :: (dropV s v.id).vs) := by
  have h1 := (dropV_perm h hv).map fun u : Ver => if u.id = v.id then { u with en := s.now } else u
  rw [List.map_cons, if_pos rfl] at h1
  have e : ((dropV s v.id).vs.map fun u : Ver => if u.id = v.id then { u with en := s.now } else u) = (dropV s v.id).vs := by
    refine (List.map_congr_left (g := id) fun u hu => ?_).trans (List.map_id _)
    rw [if_neg (mem_drop.1 hu).2]; rfl
  rw [e] at h1
  exact h1
theorem itemsK_perm {l m : List Ver} (h : l.Perm m) (k : KeyP) : (itemsK l k).Perm (itemsK m k) := (h.filter _).map _
theorem itemsK_cons (v : Ver) (l : List Ver) (k : KeyP) : itemsK (v :: l) k = if v.key = k then v.item :: itemsK l k else itemsK l k := by
  unfold itemsK
  split
  · rename_i e; rw [List.filter_cons_of_pos (by simpa using e)]; rfl
  · rename_i e; rw [List.filter_cons_of_neg (by simpa using e)]
theorem items_drop {s : Pst} (h : (s.vs.map (·.id)).Nodup) {v : Ver} (hv : v ∈ s.vs) : (itemsK s.vs v.key).Perm ((v.fr, v.id, v.to) :: itemsK (dropV s v.id).vs v.key) := by
  have := itemsK_perm (dropV_perm h hv) v.key
  rw [itemsK_cons, if_pos rfl] at this
  exact this
theorem items_drop' {s : Pst} (h : (s.vs.map (·.id)).Nodup) {v : Ver} (hv : v ∈ s.vs) (k : KeyP) : (updI (itemsK s.vs) v.key (itemsK (dropV s v.id).vs v.key) k).Perm (itemsK (dropV s v.id).vs k) := by
  unfold updI
  split
  · rename_i e; rw [e]
  · rename_i e
    have := itemsK_perm (dropV_perm h hv) k
    rw [itemsK_cons, if_neg (fun e' => e e'.symm)] at this
    exact this
theorem items_end {s : Pst} (id : Int) (k : KeyP) : itemsK (endV s id).vs k = itemsK s.vs k := by
  unfold itemsK endV
  induction s.vs with
  | nil => rfl
  | cons u l ih =>
    have e1 : (if u.id = id then { u with en := s.now } else u).key = u.key := by split <;> rfl
    have e2 : (if u.id = id then { u with en := s.now } else u).item = u.item := by split <;> rfl
    simp only [List.map_cons]
    by_cases hk : u.key = k
    · rw [List.filter_cons_of_pos (by rw [e1]; simpa using hk), List.filter_cons_of_pos (by simpa using hk), List.map_cons, List.map_cons, e2, ih]
    · rw [List.filter_cons_of_neg (by rw [e1]; simpa using hk), List.filter_cons_of_neg (by simpa using hk), ih]
theorem Ids.drop {s : Pst} (h : Ids s) (id : Int) : Ids (dropV s id) := by
  have hm : ∀ v ∈ (dropV s id).vs, v ∈ s.vs := fun v hv => (mem_drop.1 hv).1
  refine ⟨h.nod.sublist (List.Sublist.map _ List.filter_sublist), fun v hv => h.rng v (hm v hv), fun v hv => h.key v (hm v hv), h.next0, ?_⟩
  have := List.length_filter_le (fun u : Ver => decide (u.id ≠ id)) s.vs
  have := h.len
  simp only [dropV]; omega
theorem Ids.end' {s : Pst} (h : Ids s) (id : Int) : Ids (endV s id) := by
  refine ⟨?_, fun v hv => ?_, fun v hv => ?_, h.next0, by simpa [endV] using h.len⟩
  · have : (endV s id).vs.map (·.id) = s.vs.map (·.id) := by
      simp only [endV, List.map_map]
      refine List.map_congr_left fun u _ => ?_
      simp only [Function.comp]; split <;> rfl
    rw [this]; exact h.nod
  · rcases mem_end.1 hv with ⟨hv, _⟩ | ⟨u, hu, _, rfl⟩
    · exact h.rng v hv
    · exact h.rng u hu
  · rcases mem_end.1 hv with ⟨hv, _⟩ | ⟨u, hu, _, rfl⟩
    · exact h.key v hv
    · exact h.key u hu

/-! ### In memory -/
/-- One is struck from its tree and from the map. -/
theorem past_drop {w w4 w5 : World} {pb po : Nat} {R : Rest} {s : Pst} {g : Gh} {am : Nat} {y : Tr} {v : Ver} {t' : BT Nd} {mb' : Option Nat} {D : DataW Unit} {n : Nat}
    (h : PastAt w pb po R s g) (ha : g.am = some am) (hy : y ∈ g.ts) (hyk : y.key = v.key) (hv : v ∈ s.vs)
    (hT : TreeAt w4 y.tb (itemsK (dropV s v.id).vs v.key) t' mb') (hF : Fr y.foot w w4) (hG : ∀ j, Go.Proofs.YtacedfcckkpciaaGreatDoor.foot y.tb t' mb' j → y.foot j)
    (o2 : MapOf vK verD D s.vs) (hown : w5.ownsMap Tryz.prog 3 verR am n (D.del (kI v.id))) (F5 : Fr (· = am) w4 w5) :
    ∃ g', PastAt w5 pb po R (dropV s v.id) g' ∧ g'.am = g.am ∧ g'.tm = g.tm ∧ Fr (g.foot pb) w w5 ∧ (∀ j, g'.foot pb j → g.foot pb j) ∧ Keeps g g' := by
  obtain ⟨h4, G4, F4⟩ := PastI.turn (x' := ⟨v.key, y.tb, t', mb'⟩) h.toPastI hy hyk.symm rfl hT hF (fun k hk => .inl (hG k hk))
  have hnd : ∀ u ∈ (dropV s v.id).vs, vK u ≠ vK v := fun u hu => kI_ne (mem_drop.1 hu).2
  have o3 : MapOf vK verD (D.del (kI v.id)) (dropV s v.id).vs := (o2.perm (dropV_perm h.ids.nod hv)).del kI_key hnd
  have hv5 : versAt w5 (dropV s v.id).vs (some am) := ⟨_, by
    have := owns_tight hown
    rw [o3.size] at this
    exact this, o3⟩
  have hall : ∀ u ∈ (dropV s v.id).vs, ∃ z ∈ (g.set ⟨v.key, y.tb, t', mb'⟩).ts, z.key = u.key := fun u hu => h4.all u (mem_drop.1 hu).1
  obtain ⟨h5, F5'⟩ := PastI.store (s' := dropV s v.id) h4 (m := am) ha F5 hv5 (h.ids.drop v.id) rfl rfl rfl hall
  refine ⟨g.set ⟨v.key, y.tb, t', mb'⟩, ⟨h5.perm (fun z _ => ?_), by show ((setTr g.ts _).length : Int) ≤ s.next; unfold setTr; rw [List.length_map]; exact h.tlen⟩, rfl, rfl, F4.past F5' G4, ?_, Keeps.set h.keys hy hyk.symm rfl⟩
  · rw [hyk]
    exact items_drop' h.ids.nod hv z.key
  · rintro j (e | e | e | ⟨z, hz, e⟩)
    · exact .inl e
    · exact .inr (.inl e)
    · exact .inr (.inr (.inl e))
    · obtain ⟨z', hz', rfl⟩ := List.mem_map.1 hz
      split at e
      · exact .inr (.inr (.inr ⟨y, hy, hG j e⟩))
      · exact .inr (.inr (.inr ⟨z', hz', e⟩))
/-- One is taken back, in the map. -/
theorem past_end {w w5 : World} {pb po : Nat} {R : Rest} {s : Pst} {g : Gh} {am : Nat} {v : Ver} {D : DataW Unit} {n : Nat}
    (h : PastAt w pb po R s g) (ha : g.am = some am) (hv : v ∈ s.vs)
    (o2 : MapOf vK verD D s.vs) (hown : w5.ownsMap Tryz.prog 3 verR am n (D.put (kI v.id) (verD { v with en := s.now }))) (F5 : Fr (· = am) w w5) :
    PastAt w5 pb po R (endV s v.id) g ∧ Fr (g.foot pb) w w5 := by
  have hnd : ∀ u ∈ (dropV s v.id).vs, vK u ≠ vK v := fun u hu => kI_ne (mem_drop.1 hu).2
  have o3 : MapOf vK verD (D.put (kI v.id) (verD { v with en := s.now })) (endV s v.id).vs := ((o2.perm (dropV_perm h.ids.nod hv)).over { v with en := s.now } rfl kI_key hnd).perm (endV_perm h.ids.nod hv).symm
  have hv5 : versAt w5 (endV s v.id).vs (some am) := ⟨_, by
    have := owns_tight hown
    rw [o3.size] at this
    exact this, o3⟩
  have hall : ∀ u ∈ (endV s v.id).vs, ∃ z ∈ g.ts, z.key = u.key := fun u hu => by
    rcases mem_end.1 hu with ⟨hu, _⟩ | ⟨u', hu', _, rfl⟩
    · exact h.all u hu
    · exact h.all u' hu'
  obtain ⟨h5, F5'⟩ := PastI.store (s' := endV s v.id) h.toPastI (m := am) ha F5 hv5 (h.ids.end' v.id) rfl rfl rfl hall
  exact ⟨⟨h5.perm (fun z _ => by rw [items_end]), h.tlen⟩, F5'⟩
end Go.Proofs.YtacedfcckkpciaaGreatDoor

namespace Go.Proofs.YtacedfcckkpciaaGreatDoor
open Go.RowKit Go.Deep Go.Shelf Go.Sort Go.Maps

def opCs (o : OpP) : Array Value := #[.int .i64 o.key.kind, .int .i64 o.key.a, .string o.key.word, .int .i64 o.key.b, .int .i64 o.fr, .int .i64 o.to, .string o.value]
/-- The box of a change. -/
def OBox (w : World) (b : Nat) (o : OpP) : Prop := w.heap[b]? = some (.cells #[.int .i64 o.key.kind, .int .i64 o.key.a, .string o.key.word, .int .i64 o.key.b, .int .i64 o.fr, .int .i64 o.to, .string o.value] 46 (0, 0))
theorem OBox.cells {w : World} {b : Nat} {o : OpP} (h : OBox w b o) : w.cell? ⟨b, 0, none⟩ = some (.int .i64 o.key.kind) ∧ w.cell? ⟨b, 1, none⟩ = some (.int .i64 o.key.a) ∧ w.cell? ⟨b, 2, none⟩ = some (.string o.key.word) ∧ w.cell? ⟨b, 3, none⟩ = some (.int .i64 o.key.b) ∧ w.cell? ⟨b, 4, none⟩ = some (.int .i64 o.fr) ∧ w.cell? ⟨b, 5, none⟩ = some (.int .i64 o.to) ∧ w.cell? ⟨b, 6, none⟩ = some (.string o.value) :=
  ⟨block_cell h 0, block_cell h 1, block_cell h 2, block_cell h 3, block_cell h 4, block_cell h 5, block_cell h 6⟩
theorem OBox.frame {F : Nat → Prop} {w w' : World} {b : Nat} {o : OpP} (h : OBox w b o) (hf : Fr F w w') (hn : ¬ F b) : OBox w' b o := hf.keeps h hn
theorem begun_step {pb po : Nat} {R : Rest} {s : Pst} {g g1 : Gh} {w w1 : World} {e : Ending} {w2 : World} (h : Begun pb po R s g1 w1 e w2) (hf : Fr (g.foot pb) w w1) (hg : Grows g g1 pb w) (hk : Keeps g g1) : Begun pb po R s g w e w2 := by
  obtain ⟨g2, h1, h2, h3, h4, h5, h6, h7⟩ := h
  exact ⟨g2, h1, h2, h3, h4, hf.past h5 hg, hg.trans h6 hf.size, hk.trans h7⟩
theorem hits_none {s : Pst} {o : OpP} {g : Gh} (hall : ∀ v ∈ s.vs, ∃ x ∈ g.ts, x.key = v.key) (hy : treeFor g.ts o.key = none) : hits s o = [] := by
  have hti : itemsK s.vs o.key = [] := by
    cases e : itemsK s.vs o.key with
    | nil => rfl
    | cons z l =>
      obtain ⟨v, hv, hvk, _⟩ := mem_itemsK.1 (show z ∈ itemsK s.vs o.key by rw [e]; simp)
      obtain ⟨z', hz', e'⟩ := hall v hv
      exact absurd (e'.trans hvk) (treeFor_none hy z' hz')
  unfold hits meetsL
  rw [hti]
  split
  · simp [sortI]
  · rfl

set_option maxRecDepth 100000 in
set_option maxHeartbeats 4000000 in
theorem psays_none (o : OpP) (pb po : Nat) (R : Rest) (s : Pst) (g : Gh) (w : World) (h : PastAt w pb po R s g) (ha : g.am.isSome = true) (ht : g.tm.isSome = true) (ho : opB o = true) (hn : s.next + 3 ≤ 4000) (hy : treeFor g.ts o.key = none) :
    Calls Tryz.prog 34 #[.pointer (some ⟨pb, po, none⟩), .agg #[.int .i64 o.key.kind, .int .i64 o.key.a, .string o.key.word, .int .i64 o.key.b, .int .i64 o.fr, .int .i64 o.to, .string o.value]] w (Begun pb po R (sayO o s) g w) := by
  have hk := op_key ho
  have hr := opB_right ho
  have hh := hits_none h.all hy
  obtain ⟨tm, ht'⟩ := Option.isSome_iff_exists.1 ht
  obtain ⟨W1, hW1⟩ : ∃ W1, W1 = w.alloc (.cells #[.int .i64 o.key.kind, .int .i64 o.key.a, .string o.key.word, .int .i64 o.key.b, .int .i64 o.fr, .int .i64 o.to, .string o.value] 46) := ⟨_, rfl⟩
  have hB1 : Below w.heap.size w W1 := by rw [hW1]; exact (Below.refl _ w).alloc (Nat.le_refl _) _
  have hK1 : OBox W1 w.heap.size o := by rw [hW1]; exact block_alloc_new w _
  have P1 := h.below hB1
  have hlk : ∀ n, (Instr.lookup 25 (.map (some tm)) (.agg #[.int .i64 o.key.kind, .int .i64 o.key.a, .string o.key.word, .int .i64 o.key.b]) false).run Tryz.prog (W1.drewN n) = .ok (.pointer none) (W1.drewN n) := fun n => by
    have hT := P1.trees.frame (Fr.drewN (Fr.refl (fun _ => False) W1) n) (fun _ _ e => e)
    have := tree_look hT P1.keyOk hk
    rw [ht', trPtr_none hy] at this
    exact this
  obtain ⟨c0, _, _, _, c4⟩ := past_cells P1.len P1.cells
  rw [ht'] at c4
  obtain ⟨k0, k1, k2, k3, k4, k5, k6⟩ := hK1.cells
  have HW1 := Lib.hid hW1
  have HB1 := Lib.hid hB1
  have HP := Lib.hid h
  have HP1 := Lib.hid P1
  have HA := Lib.hid ha
  have HT := Lib.hid ht
  have HK := Lib.hid hk
  have HR := Lib.hid hr
  have HH := Lib.hid hh
  clear hW1 hB1 hK1 h P1 ha ht ht' hy hk hr hh ho
  by_cases h0 : o.value.size = 0
  · have hs : sayO o s = s := by unfold sayO; rw [if_pos h0, HH.out]; rfl
    have hv1 := empty_true h0
    have hv2 : (!o.value.toList.isEmpty) = false := by rw [hv1]; rfl
    have HS := Lib.hid hs
    clear hs h0
    go_enter Tryz.func34, Tryz.ntmps34
    go_wp2_with fail
    rw [← HW1.out]
    go_quiet (fail)
    revert nq; intro n1
    go_wp2_with fail
    refine bodyPost_end (results_none rfl _ _ _) rfl ?_
    have hB : Below w.heap.size w (W1.drewN n1) := below_drewN' HB1.out n1
    rw [HS.out]
    exact ⟨g, rfl, HP.out.below hB, HA.out, HT.out, Fr.new hB, Grows.refl _ _ _, Keeps.refl _⟩
  · have hs : sayO o s = addV s o.key o.fr o.to o.value := by unfold sayO; rw [if_neg h0, HH.out]; rfl
    have hv1 := empty_false h0
    have hv2 : (!o.value.toList.isEmpty) = true := by rw [hv1]; rfl
    have HS := Lib.hid hs
    clear hs h0
    go_enter Tryz.func34, Tryz.ntmps34
    go_wp2_with fail
    rw [← HW1.out]
    go_quiet (fail)
    revert nq; intro n1
    go_wp2_with fail
    obtain ⟨W2, hW2⟩ : ∃ W2, W2 = W1.drewN n1 := ⟨_, rfl⟩
    rw [← hW2]
    have hB2 : Below w.heap.size w W2 := by rw [hW2]; exact below_drewN' HB1.out n1
    have hK2 : OBox W2 w.heap.size o := by rw [hW2, HW1.out]; exact block_alloc_new w _
    have P2 := HP.out.below hB2
    have HP2 := Lib.hid P2
    have HB2 := Lib.hid hB2
    clear c0 c4 k0 k1 k2 k3 k4 k5 k6 hlk
    obtain ⟨c0, _, _, _, _⟩ := past_cells P2.len P2.cells
    obtain ⟨k0, k1, k2, k3, k4, k5, k6⟩ := hK2.cells
    clear hW2 hB2 hK2 P2
    refine wp_region_tail 11 (by kernel_rfl) (by kernel_rfl) ?_
    simp only [List.take_succ_cons, List.take_zero, List.drop_succ_cons, List.drop_zero]
    repeat still_step
    refine wpStill_nil ?_
    go_wp2_with fail
    refine (padd_any o.key o.fr o.to o.value pb po R s g W2.drew (HP2.out.below (Below.refl _ W2).drew) HA.out HT.out HK.out HR.out (by omega)).mono ?_
    intro e w3 hb3
    have hend := begun_step hb3 (Fr.new HB2.out.drew) (Grows.refl _ _ _) (Keeps.refl _)
    rw [← HS.out] at hend
    have HE := Lib.hid hend
    have he : e = .returned (.tuple #[]) := hb3.choose_spec.1
    subst he
    clear hb3 hend
    go_wp2_with fail
    refine bodyPost_end (results_none rfl _ _ _) rfl ?_
    exact HE.out
end Go.Proofs.YtacedfcckkpciaaGreatDoor

namespace Go.Proofs.YtacedfcckkpciaaGreatDoor
open Go.RowKit Go.Deep Go.Shelf Go.Sort Go.Maps

structure SLoop (pb po : Nat) (R : Rest) (s : Pst) (g : Gh) (o : OpP) (w3 : World) (ids : List Int) (k : Nat) (g' : Gh) (wr : World) : Prop where
  at' : PastAt wr pb po R (sayAll o s (ids.take k)) g'
  say : Say s (sayAll o s (ids.take k)) o (ids.drop k)
  am : g'.am.isSome = true
  tm : g'.tm.isSome = true
  fr : Fr (g.foot pb) w3 wr
  gr : Grows g g' pb w3
  kp : Keeps g g'
structure ILoop (pb po : Nat) (R : Rest) (s : Pst) (g : Gh) (k : KeyP) (x : ByteArray) (parts : List (Int × Int)) (w3 : World) (j : Nat) (g' : Gh) (wr : World) : Prop where
  at' : PastAt wr pb po R (addAll s k x (parts.take j)) g'
  am : g'.am.isSome = true
  tm : g'.tm.isSome = true
  fr : Fr (g.foot pb) w3 wr
  gr : Grows g g' pb w3
  kp : Keeps g g'

/-- The boxes of a round: the change, the version, its span. -/
structure VBox (W : World) (ob vb sb : Nat) (o : OpP) (v : Ver) (en : Int) : Prop where
  op : OBox W ob o
  ver : W.heap[vb]? = some (.cells #[.int .i64 v.key.kind, .int .i64 v.key.a, .string v.key.word, .int .i64 v.key.b, .string v.val, .int .i64 v.bg, .int .i64 en] 92 (0, 0))
  span : W.heap[sb]? = some (.cells #[.int .i64 v.fr, .int .i64 v.to] 44 (0, 0))
theorem VBox.frame {F : Nat → Prop} {W W' : World} {ob vb sb : Nat} {o : OpP} {v : Ver} {en : Int} (h : VBox W ob vb sb o v en) (hf : Fr F W W') (h1 : ¬ F ob) (h2 : ¬ F vb) (h3 : ¬ F sb) : VBox W' ob vb sb o v en := ⟨h.op.frame hf h1, hf.keeps h.ver h2, hf.keeps h.span h3⟩
theorem VBox.vcells {W : World} {ob vb sb : Nat} {o : OpP} {v : Ver} {en : Int} (h : VBox W ob vb sb o v en) : W.cell? ⟨vb, 0, none⟩ = some (.int .i64 v.key.kind) ∧ W.cell? ⟨vb, 1, none⟩ = some (.int .i64 v.key.a) ∧ W.cell? ⟨vb, 2, none⟩ = some (.string v.key.word) ∧ W.cell? ⟨vb, 3, none⟩ = some (.int .i64 v.key.b) ∧ W.cell? ⟨vb, 4, none⟩ = some (.string v.val) ∧ W.cell? ⟨vb, 5, none⟩ = some (.int .i64 v.bg) ∧ W.cell? ⟨vb, 6, none⟩ = some (.int .i64 en) :=
  ⟨block_cell h.ver 0, block_cell h.ver 1, block_cell h.ver 2, block_cell h.ver 3, block_cell h.ver 4, block_cell h.ver 5, block_cell h.ver 6⟩

/-- What the parts need of them. -/
structure TBox (W : World) (ob vb sb : Nat) (o : OpP) (v : Ver) : Prop where
  op : OBox W ob o
  val : W.cell? ⟨vb, 4, none⟩ = some (.string v.val)
  span : W.heap[sb]? = some (.cells #[.int .i64 v.fr, .int .i64 v.to] 44 (0, 0))
theorem TBox.frame {F : Nat → Prop} {W W' : World} {ob vb sb : Nat} {o : OpP} {v : Ver} (h : TBox W ob vb sb o v) (hf : Fr F W W') (h1 : ¬ F ob) (h2 : ¬ F vb) (h3 : ¬ F sb) : TBox W' ob vb sb o v := ⟨h.op.frame hf h1, hf.cell h.val h2, hf.keeps h.span h3⟩
theorem VBox.toT {W : World} {ob vb sb : Nat} {o : OpP} {v : Ver} {en : Int} (h : VBox W ob vb sb o v en) : TBox W ob vb sb o v := ⟨h.op, block_cell h.ver 4, h.span⟩
/-- Where a round stands once the version is struck, or ended. -/
structure Mid (pb po : Nat) (R : Rest) (g : Gh) (o : OpP) (v : Ver) (w3 : World) (ob vb sb : Nat) (bs : Pst) (g9 : Gh) (w9 : World) : Prop where
  at' : PastAt w9 pb po R bs g9
  am : g9.am.isSome = true
  tm : g9.tm.isSome = true
  fr : Fr (g.foot pb) w3 w9
  gr : Grows g g9 pb w3
  kp : Keeps g g9
  box : TBox w9 ob vb sb o v
  no : ∀ j, g9.foot pb j → j ≠ ob ∧ j < vb
  size : sb < w9.heap.size

theorem mid_of {pb po : Nat} {R : Rest} {s : Pst} {g g' g9 : Gh} {o : OpP} {v : Ver} {w3 wr W7 w9 : World} {ids : List Int} {k ob vb sb : Nat} {bs : Pst} (hL : SLoop pb po R s g o w3 ids k g' wr) (hB : Below wr.heap.size wr W7)
    (P9 : PastAt w9 pb po R bs g9) (ea : g9.am = g'.am) (et : g9.tm = g'.tm) (F9 : Fr (g'.foot pb) W7 w9) (hsub : ∀ j, g9.foot pb j → g'.foot pb j) (K9 : Keeps g' g9) (hX : TBox w9 ob vb sb o v) (hno : ∀ j, g'.foot pb j → j ≠ ob ∧ j < vb) (hs : sb < w9.heap.size) :
    Mid pb po R g o v w3 ob vb sb bs g9 w9 :=
  ⟨P9, by rw [ea]; exact hL.am, by rw [et]; exact hL.tm, (hL.fr.trans (Fr.new hB)).past F9 hL.gr, fun j hj => hL.gr j (hsub j hj), hL.kp.trans K9, hX, fun j hj => hno j (hsub j hj), hs⟩

set_option maxRecDepth 100000 in
set_option maxHeartbeats 8000000 in
theorem psays_some (o : OpP) (pb po : Nat) (R : Rest) (s : Pst) (g : Gh) (y : Tr) (w : World) (h : PastAt w pb po R s g) (hW : Wf s) (ha : g.am.isSome = true) (ht : g.tm.isSome = true) (ho : opB o = true) (hn0 : 1 ≤ s.now) (hn1 : s.now ≤ 150) (hn : s.next + 3 ≤ 4000) (hy : treeFor g.ts o.key = some y) :
    Calls Tryz.prog 34 #[.pointer (some ⟨pb, po, none⟩), .agg #[.int .i64 o.key.kind, .int .i64 o.key.a, .string o.key.word, .int .i64 o.key.b, .int .i64 o.fr, .int .i64 o.to, .string o.value]] w (Begun pb po R (sayO o s) g w) := by
  have hk := op_key ho
  have hr := opB_right ho
  obtain ⟨tm, ht'⟩ := Option.isSome_iff_exists.1 ht
  obtain ⟨hym, hyk⟩ := treeFor_some hy
  obtain ⟨W1, hW1⟩ : ∃ W1, W1 = w.alloc (.cells #[.int .i64 o.key.kind, .int .i64 o.key.a, .string o.key.word, .int .i64 o.key.b, .int .i64 o.fr, .int .i64 o.to, .string o.value] 46) := ⟨_, rfl⟩
  have hB1 : Below w.heap.size w W1 := by rw [hW1]; exact (Below.refl _ w).alloc (Nat.le_refl _) _
  have hK1 : OBox W1 w.heap.size o := by rw [hW1]; exact block_alloc_new w _
  have hs1 : w.heap.size < W1.heap.size := by rw [hW1]; simp
  have P1 := h.below hB1
  have hlk : ∀ n, (Instr.lookup 25 (.map (some tm)) (.agg #[.int .i64 o.key.kind, .int .i64 o.key.a, .string o.key.word, .int .i64 o.key.b]) false).run Tryz.prog (W1.drewN n) = .ok (.pointer (some ⟨y.tb, 0, none⟩)) (W1.drewN n) := fun n => by
    have hT := P1.trees.frame (Fr.drewN (Fr.refl (fun _ => False) W1) n) (fun _ _ e => e)
    have := tree_look hT P1.keyOk hk
    rw [ht', trPtr_some hy] at this
    exact this
  obtain ⟨c0, _, _, _, c4⟩ := past_cells P1.len P1.cells
  rw [ht'] at c4
  obtain ⟨k0, k1, k2, k3, k4, k5, k6⟩ := hK1.cells
  have HW1 := Lib.hid hW1
  have HB1 := Lib.hid hB1
  have HK1 := Lib.hid hK1
  have HP := Lib.hid h
  have HA := Lib.hid ha
  have HT := Lib.hid ht
  have HK := Lib.hid hk
  have HR := Lib.hid hr
  have HO := Lib.hid ho
  have HW := Lib.hid hW
  have HYM := Lib.hid hym
  have HYK := Lib.hid hyk
  clear hW1 hB1 hK1 h P1 ha ht ht' hy hk hr ho hW hym hyk
  go_enter Tryz.func34, Tryz.ntmps34
  go_wp2_with fail
  rw [← HW1.out]
  go_quiet (fail)
  revert nq; intro n1
  go_wp2_with fail
  obtain ⟨W2, hW2⟩ : ∃ W2, W2 = W1.drewN n1 := ⟨_, rfl⟩
  rw [← hW2]
  have hB2 : Below W1.heap.size W1 W2 := by rw [hW2]; exact below_drewN' (Below.refl _ _) _
  have hK2 := HK1.out.frame (Fr.new (F := fun _ => False) hB2) (fun e => e)
  have hs2 : w.heap.size < W2.heap.size := by have := hB2.size; omega
  have hBB2 := HB1.out.trans (hB2.mono (by omega))
  have P2 := HP.out.below hBB2
  have HK2 := Lib.hid hK2
  have HP2 := Lib.hid P2
  have HB2 := Lib.hid hBB2
  have T2 : TreeAt W2 y.tb (itemsK s.vs o.key) y.t y.mb := by have := P2.tree y HYM.out; rw [HYK.out] at this; exact this
  have HT2 := Lib.hid T2
  clear hW2 hB2 hBB2 hK2 P2 T2 c0 c4 k0 k1 k2 k3 k4 k5 k6 hlk
  refine (tmeets_any o.fr o.to W2 y.tb (itemsK s.vs o.key) y.t y.mb HT2.out (by have := items_len HP.out.ids o.key; omega)).mono ?_
  rintro e w3 ⟨v3, rfl, own3, b3⟩
  obtain ⟨ids, hids⟩ : ∃ ids, ids = hits s o := ⟨_, rfl⟩
  have own3' : w3.ownsRow W2.heap.size 3 1 v3 ids.length (ids.map (Value.int .i64)) := by rw [hids]; exact own3
  obtain ⟨ao, cap, rfl, hcs⟩ := ownsRow_intsB own3'
  have hlen : ids.length < 4000 := by
    have h1 := items_len HP.out.ids o.key
    have h2 := meetsL_length (itemsK s.vs o.key) o.fr o.to
    have h3 : ids.length = (meetsL (itemsK s.vs o.key) o.fr o.to).length := by rw [hids]; rfl
    omega
  have P3 := HP2.out.below b3
  have hK3 := HK2.out.frame (Fr.new (F := fun _ => False) b3) (fun e => e)
  have hs3 := b3.size
  have hlt0 : ∀ k, g.foot pb k → k < w.heap.size := HP.out.lt
  have hB3 : Below w.heap.size w w3 := HB2.out.trans (b3.mono (by omega))
  have hst : SLoop pb po R s g o w3 ids 0 g w3 := ⟨by simpa [sayAll] using P3, by simpa [sayAll, hids] using Say.start HW.out HR.out, HA.out, HT.out, Fr.refl _ _, Grows.refl _ _ _, Keeps.refl _⟩
  have HST := Lib.hid hst
  have HIDS := Lib.hid hids
  have HCS := Lib.hid hcs
  have HK3 := Lib.hid hK3
  have HB3 := Lib.hid hB3
  have HLT := Lib.hid hlt0
  clear own3 own3' b3 P3 hK3 hB3 hst hids hcs hlt0
  go_wp2_with fail
  go_loopw [26] (fun i wr => ∃ (k : Nat) (g' : Gh), k ≤ ids.length ∧ i = .int .i64 k ∧ SLoop pb po R s g o w3 ids k g' wr) (fun i _ => ids.length - (intOf i).toNat)
  case atStart => exact ⟨0, g, by omega, rfl, HST.out⟩
  case round =>
    obtain ⟨k, g', hk, rfl, hL⟩ := hrel
    obtain ⟨sk, hsk⟩ : ∃ sk, sk = sayAll o s (ids.take k) := ⟨_, rfl⟩
    have P := hL.at'
    have hS := hL.say
    rw [← hsk] at P hS
    have hnow := hS.now
    obtain ⟨cl, cr, hcl, hcr, hbud, _, _⟩ := hS.bud
    have hKw := HK3.out.frame hL.fr (fun e => by have := HLT.out _ e; omega)
    have hsw := hL.fr.size
    have HL := Lib.hid hL
    have HSK := Lib.hid hsk
    have HS := Lib.hid hS
    have HNOW := Lib.hid hnow
    have HPk := Lib.hid P
    have HKw := Lib.hid hKw
    obtain ⟨am, ham⟩ := Option.isSome_iff_exists.1 hL.am
    have HAM := Lib.hid ham
    by_cases hlt : k < ids.length
    · clear hL hsk hS hnow
      obtain ⟨id, hid⟩ : ∃ id, ids[k]? = some id := ⟨_, List.getElem?_eq_getElem hlt⟩
      obtain ⟨b, rfl, hbb, hc⟩ := HCS.out k id hid
      have hcw := HL.out.fr.cell hc (fun e => by have := HLT.out _ e; omega)
      have hdrop : ids.drop k = id :: ids.drop (k + 1) := by
        rw [List.drop_eq_getElem_cons hlt]
        congr 1
        rw [List.getElem?_eq_getElem hlt] at hid
        exact Option.some.inj hid
      have hS1 : Say s sk o (id :: ids.drop (k + 1)) := by rw [← hdrop]; exact HS.out
      obtain ⟨v, hv, hvid, hvk, hlo, hhi, hfind⟩ := hS1.found
      subst hvid
      obtain ⟨y', hym', hyk', hyb'⟩ := HL.out.kp y HYM.out
      have hyo : y'.key = o.key := hyk'.trans HYK.out
      have hrng := P.ids.rng v hv
      have hib : i64 v.id := ⟨by omega, by omega⟩
      have hvl : (Instr.lookup 24 (.map (some am)) (.int .i64 v.id) false).run Tryz.prog wr = .ok (.agg #[.int .i64 v.key.kind, .int .i64 v.key.a, .string v.key.word, .int .i64 v.key.b, .string v.val, .int .i64 v.bg, .int .i64 v.en]) wr := by
        have := P.vers
        rw [ham] at this
        exact ver_look this hv hib
      have hsn := sayAll_snoc o s ids k v.id hid
      rw [← HSK.out] at hsn
      have hst := hS1.step HR.out
      obtain ⟨c0, _, _, c3, _⟩ := past_cells P.len P.cells
      rw [ham] at c3
      obtain ⟨k0, k1, k2, k3, k4, k5, k6⟩ := hKw.cells
      have hwb : w.heap.size < wr.heap.size := by omega
      have hbw : b < wr.heap.size := World.block_lt_of_cell? wr _ hcw
      have HSN := Lib.hid hsn
      have HST2 := Lib.hid hst
      have HFIND := Lib.hid hfind
      have HV := Lib.hid hv
      have HVK := Lib.hid hvk
      have HYM' := Lib.hid hym'
      have HYO := Lib.hid hyo
      have HYB := Lib.hid hyb'
      have HIB := Lib.hid hib
      have HS1 := Lib.hid hS1
      clear hsn hst hfind hv hvk hym' hyo hyb' hyk' hib hS1 hdrop hid hc hrng P ham hKw
      by_cases hen : 0 < v.en
      · have hend : ∀ (W : World), Below wr.heap.size wr W → SLoop pb po R s g o w3 ids (k + 1) g' W := fun W hB => by
          have e : sayAll o s (ids.take (k + 1)) = sk := by rw [HSN.out]; exact sayId_skip HFIND.out hen
          refine ⟨by rw [e]; exact HPk.out.below hB, ?_, HL.out.am, HL.out.tm, HL.out.fr.trans (Fr.new hB), HL.out.gr, HL.out.kp⟩
          have := HST2.out
          rw [sayId_skip HFIND.out hen] at this
          rw [e]; exact this
        have HE := Lib.hid hend
        clear hend
        go_wp2_with fail
        go_roundw
        case rel => exact ⟨k + 1, g', by omega, by go_num, HE.out _ ((Below.refl _ _).alloc (Nat.le_refl _) _)⟩
        case measure => simp [intOf]; omega
      · have hen0 : decide (0 < v.en) = false := by simpa using hen
        have hve : v.en = 0 := (HS.out.wf.live HV.out).1 hen
        have hsc : sayId o sk v.id = cutV sk o v := sayId_cut HFIND.out hen
        have hcut : Cuts sk o v := by
          obtain ⟨u, u1, u2, u3, u4, u5, u6⟩ := HS1.out.found
          have : u = v := HS.out.wf.same u1 HV.out u2
          subst this
          exact ⟨u1, u3, hve, u4, u5⟩
        obtain ⟨W4, hW4⟩ : ∃ W4, W4 = wr.alloc (.cells #[.int .i64 v.key.kind, .int .i64 v.key.a, .string v.key.word, .int .i64 v.key.b, .string v.val, .int .i64 v.bg, .int .i64 v.en] 92) := ⟨_, rfl⟩
        have hB4 : Below wr.heap.size wr W4 := by rw [hW4]; exact (Below.refl _ _).alloc (Nat.le_refl _) _
        have hs4 : W4.heap.size = wr.heap.size + 1 := by rw [hW4]; simp
        have hv4 : W4.heap[wr.heap.size]? = some (.cells #[.int .i64 v.key.kind, .int .i64 v.key.a, .string v.key.word, .int .i64 v.key.b, .string v.val, .int .i64 v.bg, .int .i64 v.en] 92 (0, 0)) := by rw [hW4]; exact block_alloc_new wr _
        have hT4 : TreeAt W4 y.tb (itemsK sk.vs v.key) y'.t y'.mb := by
          have := (HPk.out.below hB4).tree y' HYM'.out
          rw [HYO.out, ← HVK.out, HYB.out] at this
          exact this
        have hmi : (v.fr, v.id, v.to) ∈ itemsK sk.vs v.key := mem_itemsK.2 ⟨v, HV.out, rfl, rfl⟩
        have HW4 := Lib.hid hW4
        have HB4 := Lib.hid hB4
        have HS4 := Lib.hid hs4
        have HV4 := Lib.hid hv4
        have HT4 := Lib.hid hT4
        have HMI := Lib.hid hmi
        have HSC := Lib.hid hsc
        have HCUT := Lib.hid hcut
        have HVE := Lib.hid hve
        clear hen hve hsc hcut hW4 hB4 hs4 hv4 hT4 hmi
        go_wp2_with fail
        rw [← HW4.out]
        refine (tspan_has v.id v.fr v.to HIB.out W4 y.tb (itemsK sk.vs v.key) y'.t y'.mb HT4.out HMI.out).mono ?_
        rintro e w5 ⟨rfl, b5⟩
        have hs5 := b5.size
        have HB5 := Lib.hid b5
        clear b5 c0 c3 k0 k1 k2 k3 k4 k5 k6 hvl
        go_wp2_with fail
        obtain ⟨W6, hW6⟩ : ∃ W6, W6 = w5.alloc (.cells #[.int .i64 v.fr, .int .i64 v.to] 44) := ⟨_, rfl⟩
        rw [← hW6]
        obtain ⟨vb, hvb⟩ : ∃ vb, vb = wr.heap.size := ⟨_, rfl⟩
        obtain ⟨sb, hsb⟩ : ∃ sb, sb = w5.heap.size := ⟨_, rfl⟩
        rw [← hvb, ← hsb]
        have hs6 : W6.heap.size = sb + 1 := by rw [hW6, hsb]; simp
        have hvs : vb < sb := by rw [hvb, hsb]; have := HS4.out; omega
        have hB6 : Below wr.heap.size wr W6 := by rw [hW6]; exact (HB4.out.trans (HB5.out.mono (by rw [HS4.out]; omega))).alloc (by have := HS4.out; omega) _
        have hX6 : VBox W6 w.heap.size vb sb o v v.en := by
          refine ⟨HKw.out.frame (Fr.new (F := fun _ => False) hB6) (fun e => e), ?_, ?_⟩
          · rw [hW6, hvb]
            refine block_alloc ?_ _
            exact (Fr.new (F := fun _ => False) HB5.out).keeps HV4.out (fun e => e)
          · rw [hW6, hsb]; exact block_alloc_new w5 _
        have P6 := HPk.out.below hB6
        obtain ⟨c0, _, _, c3, _⟩ := past_cells P6.len P6.cells
        rw [HAM.out] at c3
        obtain ⟨v0, v1, v2, v3, v4, v5, v6⟩ := hX6.vcells
        have HX6 := Lib.hid hX6
        have HP6 := Lib.hid P6
        have HS6 := Lib.hid hs6
        have HVB := Lib.hid hvb
        have HSB := Lib.hid hsb
        have HB6 := Lib.hid hB6
        clear hX6 P6 hs6 hvb hsb hB6 hW6
        have hno : ∀ j, g'.foot pb j → j ≠ w.heap.size ∧ j < vb := fun j hj => by
          refine ⟨fun e => ?_, by rw [HVB.out]; exact HPk.out.lt j hj⟩
          rcases HL.out.gr j hj with e1 | e1
          · have := HLT.out _ e1; omega
          · omega
        have hyf : ∀ j, y'.foot j → g'.foot pb j := fun j hj => .inr (.inr (.inr ⟨y', HYM'.out, hj⟩))
        obtain ⟨bs, hbs⟩ : ∃ bs, bs = (if v.bg = sk.now then dropV sk v.id else endV sk v.id) := ⟨_, rfl⟩
        have HNO := Lib.hid hno
        have HYF := Lib.hid hyf
        have HBS := Lib.hid hbs
        clear hno hyf hbs
        rcases Decidable.em (v.bg = sk.now) with hbg | hbg
        focus
          have hbq : (v.bg == sk.now) = true := by simpa using hbg
          have e1 : bs = dropV sk v.id := by rw [HBS.out, if_pos hbg]
          have E1 := Lib.hid e1
          clear hbg e1
          go_quiet (fail)
          revert nq; intro n2
          go_wp2_with fail
          obtain ⟨W7, hW7⟩ : ∃ W7, W7 = W6.drewN n2 := ⟨_, rfl⟩
          rw [← hW7]
          have hB7 : Below W6.heap.size W6 W7 := by rw [hW7]; exact below_drewN' (Below.refl _ _) _
          have P7 := HP6.out.below hB7
          have hX7 := HX6.out.frame (Fr.new (F := fun _ => False) hB7) (fun e => e) (fun e => e) (fun e => e)
          have T7 : TreeAt W7 y.tb ((v.fr, v.id, v.to) :: itemsK (dropV sk v.id).vs v.key) y'.t y'.mb := by
            have := P7.tree y' HYM'.out
            rw [HYO.out, ← HVK.out, HYB.out] at this
            exact this.perm' (items_drop HPk.out.ids.nod HV.out)
          have hs7 : W7.heap.size = sb + 1 := by rw [hW7]; exact HS6.out
          have HP7 := Lib.hid P7
          have HX7 := Lib.hid hX7
          have HT7 := Lib.hid T7
          have HB7 := Lib.hid hB7
          have HS7 := Lib.hid hs7
          clear hW7 hB7 P7 hX7 T7 hs7 c0 c3 v0 v1 v2 v3 v4 v5 v6
          refine (tdrop_ok v.id v.fr v.to HIB.out W7 y.tb (itemsK (dropV sk v.id).vs v.key) y'.t y'.mb HT7.out (by have := items_len (HPk.out.ids.drop v.id) v.key; have : (dropV sk v.id).next = sk.next := rfl; omega)).mono ?_
          rintro e w8 ⟨t8, m8, rfl, T8, F8, G8⟩
          have F8' : Fr y'.foot W7 w8 := by unfold Tr.foot; rw [HYB.out]; exact F8
          have T8' : TreeAt w8 y'.tb (itemsK (dropV sk v.id).vs v.key) t8 m8 := by rw [HYB.out]; exact T8
          have G8' : ∀ j, Go.Proofs.YtacedfcckkpciaaGreatDoor.foot y'.tb t8 m8 j → y'.foot j := fun j hj => by unfold Tr.foot; rw [HYB.out] at hj ⊢; exact G8 j hj
          have hc8 := F8'.keeps HP7.out.cells (fun e => (HP7.out.ne y' HYM'.out pb e).1 rfl)
          have hX8 := HX7.out.frame F8' (fun e => (HNO.out _ (HYF.out _ e)).1 rfl) (fun e => by have := (HNO.out _ (HYF.out _ e)).2; omega) (fun e => by have := (HNO.out _ (HYF.out _ e)).2; omega)
          have hv8 := HP7.out.vers.frame F8' (fun j e e' => (HP7.out.ne y' HYM'.out j e').2.1 e)
          rw [HAM.out] at hv8
          obtain ⟨D, hown, hD⟩ := hv8
          have hs8 := F8'.size
          have HT8 := Lib.hid T8'
          have HF8 := Lib.hid F8'
          have HG8 := Lib.hid G8'
          have HD := Lib.hid hD
          have HX8 := Lib.hid hX8
          have HS8 := Lib.hid hs8
          obtain ⟨_, _, _, c3, _⟩ := past_cells HP7.out.len hc8
          rw [HAM.out] at c3
          have hamb := HPk.out.lt am (.inr (.inl HAM.out))
          have hamo := HNO.out am (.inr (.inl HAM.out))
          have HAMB := Lib.hid (And.intro hamb hamo)
          clear T8 F8 G8 F8' T8' G8' hD hX8 hs8 hc8 hamb hamo
          go_wp2_with (at_delete; refine wpList_delete_own _ rfl _ _ 24 3 rfl 92 intLaw Tryz.underlying24 verR am sk.vs.length D rfl hown _ _ rfl (keyOf_int_mk Tryz.underlying3 (wfI HIB.out)) ?_; intro w9 hown9 hturn9; have F9 : Fr (· = am) w8 w9 := Fr.ofGrown hturn9.grown; obtain ⟨g9, P9, a9, t9, F9', G9, K9⟩ := past_drop HP7.out HAM.out HYM'.out (HYO.out.trans HVK.out.symm) HV.out HT8.out HF8.out HG8.out HD.out hown9 F9; have hX9 := HX8.out.toT.frame F9 (fun e => HAMB.out.2.1 e.symm) (fun e => by have := HAMB.out.2.2; omega) (fun e => by have := HAMB.out.2.2; omega); have hs9 := F9.size; have HP9 := Lib.hid P9; have HA9 := Lib.hid a9; have HT9 := Lib.hid t9; have HF9 := Lib.hid F9'; have HG9 := Lib.hid G9; have HK9 := Lib.hid K9; have HX9 := Lib.hid hX9; have HS9 := Lib.hid hs9; obtain ⟨_, _, _, _, k4, k5, _⟩ := hX9.op.cells; obtain ⟨q0, q1⟩ := cells2 hX9.span; clear hown9 hturn9 F9 P9 a9 t9 F9' G9 K9 hX9 hs9 c3)
          have hmid : Mid pb po R g o v w3 w.heap.size vb sb bs g9 w9 := mid_of HL.out (HB6.out.trans (HB7.out.mono (by have := HS6.out; have := HVB.out; omega))) (by rw [E1.out]; exact HP9.out) HA9.out HT9.out HF9.out HG9.out HK9.out HX9.out HNO.out (by have := HS9.out; have := HS8.out; have := HS7.out; omega)
          have HM := Lib.hid hmid
          clear hmid
        rotate_left
        focus
          have hbq : (v.bg == sk.now) = false := by simpa using hbg
          have e1 : bs = endV sk v.id := by rw [HBS.out, if_neg hbg]
          have E1 := Lib.hid e1
          clear hbg e1
          have f6 : W6.frozen? ⟨vb, 6, none⟩ = false := block_free HX6.out.ver 6
          have hvl6 : vb < W6.heap.size := by have := HS6.out; omega
          go_quiet (fail)
          revert nq; intro n2
          go_wp2_with fail
          obtain ⟨W8, hW8⟩ : ∃ W8, W8 = (W6.drewN n2).setCell ⟨vb, 6, none⟩ (.int .i64 sk.now) := ⟨_, rfl⟩
          rw [← hW8]
          have hF8 : Fr (· = vb) W6 W8 := by rw [hW8]; exact Fr.setCell (F := (· = vb)) (Fr.drewN (Fr.refl _ W6) n2) (p := ⟨vb, 6, none⟩) (fun _ => rfl) _
          have hX8 : VBox W8 w.heap.size vb sb o v sk.now := by
            have hv := HX6.out.ver
            refine ⟨HX6.out.op.frame hF8 (fun e => by have := HVB.out; omega), ?_, hF8.keeps HX6.out.span (fun e => by omega)⟩
            rw [hW8]
            exact block_set (w := W6.drewN n2) hv 6 (.int .i64 sk.now)
          have P8 := HP6.out.frame hF8 (fun j hj e => by have := (HNO.out j hj).2; omega)
          have hs8 : W8.heap.size = sb + 1 := by rw [hW8]; simpa using HS6.out
          have hB8 : Below wr.heap.size wr W8 := HB6.out.trans (hF8.below (B := wr.heap.size) (fun j _ e => by rw [e, HVB.out]; exact Nat.le_refl _) (by have := HS6.out; have := HVB.out; omega))
          have hv8 := P8.vers
          rw [HAM.out] at hv8
          obtain ⟨D, hown, hD⟩ := hv8
          have HP8 := Lib.hid P8
          have HX8 := Lib.hid hX8
          have HB8 := Lib.hid hB8
          have HS8 := Lib.hid hs8
          have HD := Lib.hid hD
          clear c0 c3 v0 v1 v2 v3 v4 v5 v6 f6
          obtain ⟨_, _, _, c3, _⟩ := past_cells P8.len P8.cells
          rw [HAM.out] at c3
          obtain ⟨v0, v1, v2, v3, v4, v5, v6⟩ := hX8.vcells
          have hamo := HNO.out am (.inr (.inl HAM.out))
          have hl := HPk.out.ids.len
          have HAMB := Lib.hid hamo
          clear hW8 hF8 hX8 P8 hs8 hB8 hD hamo hvl6
          refine wp_region_tail 6 (by kernel_rfl) (by kernel_rfl) ?_
          simp only [List.take_succ_cons, List.take_zero, List.drop_succ_cons, List.drop_zero]
          repeat still_step
          refine wpStill_nil ?_
          go_wp2_with (at_mapUpdate; refine wpList_mapUpdate_own _ rfl _ _ _ 24 rfl 3 92 intLaw Tryz.underlying24 verR am sk.vs.length D rfl (World.ownsMap.drew hown) (by unfold maxLen; omega) _ _ _ rfl rfl (keyOf_int_mk Tryz.underlying3 (wfI HIB.out)) (verD { v with en := sk.now }) [] rfl ?_; intro w9 hown9 hgrow9; have F9 : Fr (· = am) W8 w9 := (Fr.drew (Fr.refl _ W8)).trans (Fr.ofGrown hgrow9); obtain ⟨P9, F9'⟩ := past_end HP8.out HAM.out HV.out HD.out hown9 F9; have hX9 := HX8.out.toT.frame F9 (fun e => HAMB.out.1 e.symm) (fun e => by have := HAMB.out.2; omega) (fun e => by have := HAMB.out.2; omega); have hs9 := F9.size; have HP9 := Lib.hid P9; have HF9 := Lib.hid F9'; have HX9 := Lib.hid hX9; have HS9 := Lib.hid hs9; obtain ⟨_, _, _, _, k4, k5, _⟩ := hX9.op.cells; obtain ⟨q0, q1⟩ := cells2 hX9.span; clear hown9 hgrow9 F9 P9 F9' hX9 hs9 c3 v0 v1 v2 v3 v4 v5 v6)
          obtain ⟨g9, hg9⟩ : ∃ g9, g9 = g' := ⟨_, rfl⟩
          have hmid : Mid pb po R g o v w3 w.heap.size vb sb bs g9 w9 := by
            rw [hg9]
            exact mid_of HL.out HB8.out (by rw [E1.out]; exact HP9.out) rfl rfl HF9.out (fun _ e => e) (Keeps.refl _) HX9.out HNO.out (by have := HS9.out; have := HS8.out; omega)
          have HM := Lib.hid hmid
          clear hmid
        all_goals
          clear k4 k5 q0 q1
          have hm := HM.out
          refine (less_any v.fr v.to o.fr o.to w9).mono ?_
          rintro e w10 ⟨v10, rfl, own10, b10⟩
          obtain ⟨parts, hparts⟩ : ∃ parts, parts = lessL v.fr v.to o.fr o.to := ⟨_, rfl⟩
          rw [← hparts] at own10
          obtain ⟨ao2, cap2, rfl, hps⟩ := ownsRow_spansB own10
          have P10 := hm.at'.below b10
          have hX10 := hm.box.frame (Fr.new (F := fun _ => False) b10) (fun e => e) (fun e => e) (fun e => e)
          have hs10 := b10.size
          have hI0 : ILoop pb po R bs g9 o.key v.val parts w10 0 g9 w10 := ⟨by simpa [addAll] using P10, hm.am, hm.tm, Fr.refl _ _, Grows.refl _ _ _, Keeps.refl _⟩
          have hbs : cutV sk o v = addAll bs o.key v.val parts := by rw [hparts, HBS.out]; rfl
          have hpr : ∀ p ∈ parts, rightB p.1 p.2 = true := by
            have := (cut_parts HS.out.wf HCUT.out HR.out).right
            rw [← hparts] at this; exact this
          have hpl : parts.length ≤ 2 := by rw [hparts]; exact lessL_le _ _ _ _
          have hbn : (addAll bs o.key v.val parts).next ≤ s.next + 2 := by
            obtain ⟨x1, x2, x3, x4, x5, _, _⟩ := HST2.out.bud
            rw [HSC.out, hbs] at x5
            omega
          rw [addAll_next] at hbn
          have hlt9 : ∀ j, g9.foot pb j → j < w9.heap.size := hm.at'.lt
          have hs9' := hm.size
          have hfr10 : Fr (g.foot pb) w3 w10 := hm.fr.trans (Fr.new b10)
          have HI0 := Lib.hid hI0
          have HBN := Lib.hid hbs
          have HPR := Lib.hid hpr
          have HX10 := Lib.hid hX10
          have HPS := Lib.hid hps
          have HLT9 := Lib.hid hlt9
          have HFR10 := Lib.hid hfr10
          have HPARTS := Lib.hid hparts
          have hno9 := hm.no
          have HNO9 := Lib.hid hno9
          clear own10 b10 P10 hX10 hI0 hbs hpr hps hlt9 hfr10 hparts hno9 hm
          go_wp2_with fail
          obtain ⟨wo, rfl⟩ : ∃ wo : World, wo = wr := ⟨_, rfl⟩
          go_loopw [76] (fun i wi => ∃ (j : Nat) (gi : Gh), j ≤ parts.length ∧ i = .int .i64 j ∧ ILoop pb po R bs g9 o.key v.val parts w10 j gi wi) (fun i _ => parts.length - (intOf i).toNat)
          case atStart => exact ⟨0, g9, by omega, rfl, HI0.out⟩
          case round =>
            obtain ⟨j, gi, hj, rfl, hIL⟩ := hrel
            have HIL := Lib.hid hIL
            clear hIL
            by_cases hjl : j < parts.length
            · obtain ⟨x1, x2, hx⟩ : ∃ x1 x2, parts[j]? = some (x1, x2) := ⟨parts[j].1, parts[j].2, List.getElem?_eq_getElem hjl⟩
              obtain ⟨b2, rfl, hb2, d0, d1⟩ := HPS.out j x1 x2 hx
              have d0 := HIL.out.fr.cell d0 (fun e => by have := HLT9.out _ e; omega)
              have d1 := HIL.out.fr.cell d1 (fun e => by have := HLT9.out _ e; omega)
              have hb2w : b2 < wr.heap.size := World.block_lt_of_cell? wr _ d0
              have hrx : rightB x1 x2 = true := HPR.out (x1, x2) (List.mem_of_getElem? hx)
              have hsx := addAll_snoc bs o.key v.val parts j x1 x2 hx
              have HRX := Lib.hid hrx
              have HSX := Lib.hid hsx
              clear hrx hsx hx
              go_wp2_with fail
              obtain ⟨W11, hW11⟩ : ∃ W11, W11 = wr.alloc (.cells #[.int .i64 x1, .int .i64 x2] 44) := ⟨_, rfl⟩
              rw [← hW11]
              have hB11 : Below wr.heap.size wr W11 := by rw [hW11]; exact (Below.refl _ _).alloc (Nat.le_refl _) _
              have hxb : W11.heap[wr.heap.size]? = some (.cells #[.int .i64 x1, .int .i64 x2] 44 (0, 0)) := by rw [hW11]; exact block_alloc_new wr _
              have P11 := HIL.out.at'.below hB11
              have hX11 := (HX10.out.frame HIL.out.fr (fun e => (HNO9.out _ e).1 rfl) (fun e => by have := (HNO9.out _ e).2; omega) (fun e => by have := (HNO9.out _ e).2; omega)).frame (Fr.new (F := fun _ => False) hB11) (fun e => e) (fun e => e) (fun e => e)
              have F11 : Fr (g9.foot pb) w10 W11.drew := (HIL.out.fr.trans (Fr.new hB11)).drew
              have HP11 := Lib.hid P11
              have HF11 := Lib.hid F11
              obtain ⟨c0, _, _, _, _⟩ := past_cells P11.len P11.cells
              obtain ⟨k0, k1, k2, k3, _, _, _⟩ := hX11.op.cells
              obtain ⟨y0, y1⟩ := cells2 hxb
              have v4 := hX11.val
              have hnx : (addAll bs o.key v.val (parts.take j)).next < 4000 := by
                rw [addAll_next, List.length_take]
                omega
              clear hW11 hB11 hxb P11 hX11 F11 d0 d1
              refine wp_region_tail 10 (by kernel_rfl) (by kernel_rfl) ?_
              simp only [List.take_succ_cons, List.take_zero, List.drop_succ_cons, List.drop_zero]
              repeat still_step
              refine wpStill_nil ?_
              go_wp2_with fail
              refine (padd_any o.key x1 x2 v.val pb po R _ gi W11.drew (HP11.out.below (Below.refl _ W11).drew) HIL.out.am HIL.out.tm HK.out HRX.out hnx).mono ?_
              rintro e w12 ⟨g12, rfl, P12, a12, t12, F12, G12, K12⟩
              have hI : ILoop pb po R bs g9 o.key v.val parts w10 (j + 1) g12 w12 := ⟨by rw [HSX.out]; exact P12, a12, t12, HF11.out.past F12 HIL.out.gr, HIL.out.gr.trans G12 HF11.out.size, HIL.out.kp.trans K12⟩
              have HI := Lib.hid hI
              clear P12 a12 t12 F12 G12 K12 hI c0 k0 k1 k2 k3 y0 y1 v4 hnx
              go_wp2_with fail
              go_roundw
              case rel => exact ⟨j + 1, g12, by omega, by go_num, HI.out⟩
              case measure => simp [intOf]; omega
            · have hje : parts.take j = parts := List.take_of_length_le (by omega)
              have e2 : sayAll o s (ids.take (k + 1)) = addAll bs o.key v.val (parts.take j) := by rw [HSN.out, HSC.out, HBN.out, hje]
              have hend : SLoop pb po R s g o w3 ids (k + 1) gi wr := by
                refine ⟨by rw [e2]; exact HIL.out.at', ?_, HIL.out.am, HIL.out.tm, HFR10.out.past HIL.out.fr HM.out.gr, HM.out.gr.trans HIL.out.gr HFR10.out.size, HM.out.kp.trans HIL.out.kp⟩
                have := HST2.out
                rw [← HSN.out] at this
                exact this
              have HE := Lib.hid hend
              clear hje e2 hend
              go_wp2_with fail
              go_roundw
              case rel => exact ⟨k + 1, gi, by omega, by go_num, HE.out⟩
              case measure => simp [intOf]; omega
    · clear hL hsk hS hnow
      have hkl : k = ids.length := by omega
      have hsa : sk = sayAll o s (hits s o) := by rw [HSK.out, hkl, List.take_of_length_le (Nat.le_refl _), HIDS.out]
      have HSA := Lib.hid hsa
      obtain ⟨c0, _, _, _, _⟩ := past_cells P.len P.cells
      obtain ⟨k0, k1, k2, k3, k4, k5, k6⟩ := hKw.cells
      have hfr : Fr (g.foot pb) w wr := (Fr.new HB3.out).trans HL.out.fr
      have hgr : Grows g g' pb w := fun j hj => by
        rcases HL.out.gr j hj with e | e
        · exact .inl e
        · exact .inr (by have := HB3.out.size; omega)
      have HFR := Lib.hid hfr
      have HGR := Lib.hid hgr
      clear hsa hkl P hKw ham hfr hgr
      by_cases h0 : o.value.size = 0
      · have hs : sayO o s = sk := by unfold sayO; rw [if_pos h0, HSA.out]
        have hv1 := empty_true h0
        have hv2 : (!o.value.toList.isEmpty) = false := by rw [hv1]; rfl
        have HE : Hid (Begun pb po R (sayO o s) g w (.returned (.tuple #[])) wr) := Lib.hid ⟨g', rfl, by rw [hs]; exact HPk.out, HL.out.am, HL.out.tm, HFR.out, HGR.out, HL.out.kp⟩
        clear hs h0
        go_wp2_with fail
        refine bodyPost_end (results_none rfl _ _ _) rfl ?_
        exact HE.out
      · have hs : sayO o s = addV sk o.key o.fr o.to o.value := by unfold sayO; rw [if_neg h0, HSA.out]
        have hv1 := empty_false h0
        have hv2 : (!o.value.toList.isEmpty) = true := by rw [hv1]; rfl
        have HS' := Lib.hid hs
        clear hs h0
        go_wp2_with fail
        refine wp_region_tail 11 (by kernel_rfl) (by kernel_rfl) ?_
        simp only [List.take_succ_cons, List.take_zero, List.drop_succ_cons, List.drop_zero]
        repeat still_step
        refine wpStill_nil ?_
        go_wp2_with fail
        refine (padd_any o.key o.fr o.to o.value pb po R sk g' wr.drew (HPk.out.below (Below.refl _ wr).drew) HL.out.am HL.out.tm HK.out HR.out (by omega)).mono ?_
        intro e w4 hb4
        have hend := begun_step hb4 HFR.out.drew HGR.out HL.out.kp
        rw [← HS'.out] at hend
        have HE := Lib.hid hend
        have he : e = .returned (.tuple #[]) := hb4.choose_spec.1
        subst he
        clear hb4 hend
        go_wp2_with fail
        refine bodyPost_end (results_none rfl _ _ _) rfl ?_
        exact HE.out
end Go.Proofs.YtacedfcckkpciaaGreatDoor
