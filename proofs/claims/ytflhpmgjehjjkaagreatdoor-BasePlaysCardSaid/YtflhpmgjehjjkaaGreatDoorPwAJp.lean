/- The maps of a past: versions by number; trees by key. What a look-up in them gives. -/
import Derived.DeepKeys4
import Derived.WideKeyArgs2
import Derived.Test.YtflhpmgjehjjkaaGreatDoorPastRJp
import Derived.Test.YtflhpmgjehjjkaaGreatDoorMapGJp
import Derived.Test.YtflhpmgjehjjkaaGreatDoorTreeSJp
import Derived.Test.YtflhpmgjehjjkaaGreatDoorFcKJp
import Derived.Test.YtflhpmgjehjjkaaGreatDoorFcOJp
namespace Go.Proofs.YtflhpmgjehjjkaaGreatDoor
open Go.RowKit Go.Deep Go.Shelf Go.Sort Go.Maps Go.WideMaps
def keyV (k : KeyP) : Value := .agg #[.int .i64 k.kind, .int .i64 k.a, .string k.word, .int .i64 k.b]
def keyLs (k : KeyP) : List Lit := [.int .i64 k.kind, .int .i64 k.a, .string k.word.data.toList, .int .i64 k.b]
def kK (k : KeyP) : Lit := .string (keyBytes (keyLs k))
theorem kK_key (k : KeyP) : WideAt.IsKeyLit (kK k) := by trivial
theorem key_keyType : Tryz.prog.keyType 44 = true := by kernel_rfl
theorem key_laidOut : laidOutB Tryz.prog = true := by kernel_rfl
theorem key_row : (44 : TypeId) < Tryz.prog.types.size := of_decide_eq_true (by kernel_rfl)
theorem key_wide : (match Tryz.prog.underlying 44 with | some (.array _ _) | some (.struct _) => true | _ => false) = true := by kernel_rfl
theorem key_at : Tryz.prog.keyTypeAt 2 44 = true := by kernel_rfl
set_option maxRecDepth 100000 in
theorem keyLaw : Keyed Tryz.prog 44 := Keyed.of_law (deep_law_laid key_laidOut (m := 2) (by decide) key_row key_at key_wide)
theorem succ_of_lt {a n : Nat} (h : a < n) : ∃ m, n = m + 1 := ⟨n - 1, by omega⟩
theorem key_sizes : ∃ n, Tryz.prog.types.size = n + 1 := succ_of_lt key_row
theorem wfkey {k : KeyP} (h : keyB k = true) : (i64 k.kind /\ i64 k.a /\ i64 k.b) /\ k.word.size <= 12 := by
 have hw := key_word h
 unfold keyB nodeB at h
 have hs : k.word.size <= 12 := by
  rcases hw with hw | hw
  · omega
  · unfold wordB at hw; simp at hw; omega
 unfold i64
 split at h
 · rename_i h1; simp at h; refine ⟨⟨?_, ?_, ?_⟩, hs⟩ <;> omega
 · split at h
   · rename_i h1; simp at h; refine ⟨⟨?_, ?_, ?_⟩, hs⟩ <;> omega
   · split at h
     · rename_i h1; simp at h; refine ⟨⟨?_, ?_, ?_⟩, hs⟩ <;> omega
     · cases h
set_option maxRecDepth 100000 in
theorem key_lits (n : Nat) (k : KeyP) (h : keyB k = true) : Tryz.prog.keyLits (n + 2) 44 [.int .i64 k.kind, .int .i64 k.a, .string k.word, .int .i64 k.b] = some (keyLs k) := by
 obtain ⟨⟨h1, h2, h3⟩, h4⟩ := wfkey h
 have w1 := wfI h1
 have w2 := wfI h2
 have w3 := wfI h3
 have w4 : k.word.size <= maxLen := by unfold maxLen; omega
 simp [Program.keyLits, Tryz.underlying44, Tryz.underlying3, Tryz.underlying9, cellsKey, cellsIntO, cellsStrO, w1, w2, w3, w4, keyLs]
theorem keyOf_key {k : KeyP} (h : keyB k = true) : keyOf Tryz.prog 44 (keyV k) = some (kK k) := by
 obtain ⟨n, hn⟩ := key_sizes
 have hf : (keyV k).formed Tryz.prog 44 = true := by
  unfold keyV Value.formed; simp only [Tryz.underlying44, cellsKey]; rfl
 unfold keyOf
 rw [Tryz.underlying44]
 simp only [key_keyType, hf, Bool.and_self, if_true, hn]
 show ((Tryz.prog.keyLits (n + 1 + 1) 44 [.int .i64 k.kind, .int .i64 k.a, .string k.word, .int .i64 k.b]).map fun ls => Lit.string (keyBytes ls)) = _
 rw [key_lits n k h]; rfl
theorem keyV_inj {x y : KeyP} (h : keyV x = keyV y) : x = y := by
 obtain ⟨a, b, c, d⟩ := x; obtain ⟨a', b', c', d'⟩ := y
 simp [keyV] at h
 obtain ⟨rfl, rfl, rfl, rfl⟩ := h; rfl
theorem kK_inj {x y : KeyP} (hx : keyB x = true) (hy : keyB y = true) (h : kK x = kK y) : x = y := keyV_inj (keyLaw.inj (keyOf_key hx) (by rw [h]; exact keyOf_key hy))
def verV (v : Ver) : Value := .agg #[.int .i64 v.key.kind, .int .i64 v.key.a, .string v.key.word, .int .i64 v.key.b, .string v.val, .int .i64 v.bg, .int .i64 v.en]
def verD7 (k a : Int) (s : ByteArray) (b : Int) (x : ByteArray) (g e : Int) : DataW Unit := .agg [.lit (.int .i64 k), .lit (.int .i64 a), .lit (.string s.data.toList), .lit (.int .i64 b), .lit (.string x.data.toList), .lit (.int .i64 g), .lit (.int .i64 e)]
def verD (v : Ver) : DataW Unit := verD7 v.key.kind v.key.a v.key.word v.key.b v.val v.bg v.en
def verR : Value -> Option (DataW Unit × List MemPlace)
 | .agg ⟨[.int .i64 k, .int .i64 a, .string s, .int .i64 b, .string x, .int .i64 g, .int .i64 e]⟩ => some (verD7 k a s b x g e, [])
 | _ => none
theorem verR_mk (v : Ver) : verR (verV v) = some (verD v, []) := rfl
theorem verR_shape {v : Value} {z : DataW Unit × List MemPlace} (h : verR v = some z) : ∃ k a s b x g e, v = .agg #[.int .i64 k, .int .i64 a, .string s, .int .i64 b, .string x, .int .i64 g, .int .i64 e] /\ z = (verD7 k a s b x g e, []) := by
 unfold verR at h
 split at h
 · rename_i k a s b x g e; cases h; exact ⟨k, a, s, b, x, g, e, rfl, rfl⟩
 · cases h
theorem verD7_inj {k a b g e k' a' b' g' e' : Int} {s x s' x' : ByteArray} (h : verD7 k a s b x g e = verD7 k' a' s' b' x' g' e') : k = k' /\ a = a' /\ s = s' /\ b = b' /\ x = x' /\ g = g' /\ e = e' := by
 simp [verD7] at h
 obtain ⟨h1, h2, h3, h4, h5, h6, h7⟩ := h
 exact ⟨h1, h2, bytes_ext (by rw [h3]), h4, bytes_ext (by rw [h5]), h6, h7⟩
theorem verR_inv {v : Value} {u : Ver} {ps : List MemPlace} (h : verR v = some (verD u, ps)) : v = verV u := by
 obtain ⟨k, a, s, b, x, g, e, rfl, h2⟩ := verR_shape h
 obtain ⟨h3, h4, h5, h6, h7, h8, h9⟩ := verD7_inj (congrArg Prod.fst h2)
 unfold verV
 rw [h3, h4, h5, h6, h7, h8, h9]
def vK (v : Ver) : Lit := kI v.id
theorem zeroVer (w : World) : (zeroValue 179).run Tryz.prog w = .ok (verV noVer) w := by kernel_rfl
def versAt (w : World) (vs : List Ver) : Option Nat -> Prop
 | none => vs = []
 | some m => ∃ D, w.ownsMap Tryz.prog 3 verR m vs.length D /\ MapOf vK verD D vs
theorem versAt.frame {F : Nat -> Prop} {w w' : World} {vs : List Ver} {am : Option Nat} (h : versAt w vs am) (hf : Fr F w w') (hn : ∀ m, am = some m -> ¬ F m) : versAt w' vs am := by
 cases am with
 | none => exact h
 | some m => obtain ⟨D, h1, h2⟩ := h; exact ⟨D, owns_frame h1 hf (hn m rfl), h2⟩
theorem ver_look {w : World} {vs : List Ver} {m : Nat} (h : versAt w vs (some m)) {v : Ver} (hv : v ∈ vs) (hi : i64 v.id) : (Instr.lookup 24 (.map (some m)) (.int .i64 v.id) false).run Tryz.prog w = .ok (verV v) w := by
 obtain ⟨D, hown, hD⟩ := h
 obtain ⟨u, ps, hr, hu⟩ := hown.lookup intLaw Tryz.underlying24 (zeroVer w) (verR_mk noVer) (keyOf_int_mk Tryz.underlying3 (wfI hi))
 rw [show D.atKey (.int .i64 v.id) (verD noVer) = verD v from hD.at' v hv _] at hu
 rw [hr, verR_inv hu]
structure Tr where
 key : KeyP
 tb : Nat
 t : BT Nd
 mb : Option Nat
def Tr.foot (x : Tr) (k : Nat) : Prop := Go.Proofs.YtflhpmgjehjjkaaGreatDoor.foot x.tb x.t x.mb k
def ptrD (n : Int) : DataW Unit := .lit (.int .i64 n)
def treeR : Value -> Option (DataW Unit × List MemPlace)
 | .pointer none => some (ptrD (-1), [])
 | .pointer (some ⟨b, 0, none⟩) => some (ptrD (b : Nat), [])
 | _ => none
theorem treeR_none {v : Value} {ps : List MemPlace} (h : treeR v = some (ptrD (-1), ps)) : v = .pointer none := by
 unfold treeR at h
 split at h
 · rfl
 · exfalso; simp [ptrD] at h
 · cases h
theorem treeR_some {v : Value} {b : Nat} {ps : List MemPlace} (h : treeR v = some (ptrD (b : Nat), ps)) : v = .pointer (some ⟨b, 0, none⟩) := by
 unfold treeR at h
 split at h
 · exfalso; simp [ptrD] at h
 · rename_i b'
   simp [ptrD] at h
   have e : b' = b := by omega
   rw [e]
 · cases h
def tK (x : Tr) : Lit := kK x.key
def tD (x : Tr) : DataW Unit := ptrD (x.tb : Nat)
def treeFor (ts : List Tr) (k : KeyP) : Option Tr := ts.find? fun x => decide (x.key = k)
def trPtr (ts : List Tr) (k : KeyP) : Value := match treeFor ts k with | some x => .pointer (some ⟨x.tb, 0, none⟩) | none => .pointer none
def treesAt (w : World) (ts : List Tr) : Option Nat -> Prop
 | none => ts = []
 | some m => ∃ D, w.ownsMap Tryz.prog 44 treeR m ts.length D /\ MapOf tK tD D ts
theorem treesAt.frame {F : Nat -> Prop} {w w' : World} {ts : List Tr} {tm : Option Nat} (h : treesAt w ts tm) (hf : Fr F w w') (hn : ∀ m, tm = some m -> ¬ F m) : treesAt w' ts tm := by
 cases tm with
 | none => exact h
 | some m => obtain ⟨D, h1, h2⟩ := h; exact ⟨D, owns_frame h1 hf (hn m rfl), h2⟩
theorem zeroTree (w : World) : (zeroValue 176).run Tryz.prog w = .ok (.pointer none) w := by kernel_rfl
theorem tree_look {w : World} {ts : List Tr} {tm : Option Nat} (h : treesAt w ts tm) (hts : ∀ x ∈ ts, keyB x.key = true) {k : KeyP} (hk : keyB k = true) : (Instr.lookup 25 (.map tm) (keyV k) false).run Tryz.prog w = .ok (trPtr ts k) w := by
 cases tm with
 | none =>
   have e : ts = [] := h
   subst e
   exact look_nil false keyLaw Tryz.underlying25 (zeroTree w) (keyOf_key hk)
 | some m =>
   obtain ⟨D, hown, hD⟩ := h
   obtain ⟨u, ps, hr, hu⟩ := hown.lookup keyLaw Tryz.underlying25 (zeroTree w) (zd := ptrD (-1)) rfl (keyOf_key hk)
   rw [hr]
   unfold trPtr treeFor
   cases hf : ts.find? fun x => decide (x.key = k) with
   | some x =>
     have e : x.key = k := by simpa using List.find?_some hf
     rw [<- e, show D.atKey (kK x.key) (ptrD (-1)) = ptrD (x.tb : Nat) from hD.at' x (List.mem_of_find?_eq_some hf) _] at hu
     rw [treeR_some hu]
   | none =>
     have hn : Maps.has D (kK k) = false := hD.none (kK_key k) fun y hy e => by
      have := List.find?_eq_none.1 hf y hy
      exact this (by simpa using kK_inj (hts y hy) hk e)
     rw [atKey_of_not_has hn] at hu
     rw [treeR_none hu]
theorem treeFor_some {ts : List Tr} {k : KeyP} {x : Tr} (h : treeFor ts k = some x) : x ∈ ts /\ x.key = k := ⟨List.mem_of_find?_eq_some h, by simpa using List.find?_some h⟩
theorem treeFor_none {ts : List Tr} {k : KeyP} (h : treeFor ts k = none) : ∀ x ∈ ts, x.key ≠ k := fun x hx e => by
 have := List.find?_eq_none.1 h x hx
 exact this (by simpa using e)
theorem trPtr_some {ts : List Tr} {k : KeyP} {x : Tr} (h : treeFor ts k = some x) : trPtr ts k = .pointer (some ⟨x.tb, 0, none⟩) := by unfold trPtr; rw [h]
theorem trPtr_none {ts : List Tr} {k : KeyP} (h : treeFor ts k = none) : trPtr ts k = .pointer none := by unfold trPtr; rw [h]
end Go.Proofs.YtflhpmgjehjjkaaGreatDoor
