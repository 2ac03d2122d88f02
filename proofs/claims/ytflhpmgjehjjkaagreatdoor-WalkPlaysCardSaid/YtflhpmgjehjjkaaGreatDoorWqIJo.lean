/- The program's graph: what nodes have (Prop); Hops' second error; the graph beside a past that goes on. -/
import Derived.Test.YtflhpmgjehjjkaaGreatDoorWkIJo
import Derived.Test.YtflhpmgjehjjkaaGreatDoorWkDJo
import Derived.Test.YtflhpmgjehjjkaaGreatDoorRpTJo
namespace Go.Proofs.YtflhpmgjehjjkaaGreatDoor
open Go.RowKit Go.Deep Go.Shelf Go.Sort Go.Maps Go.WideMaps

/-! ### Keys whose word is any text -/
structure KeyOk (k : KeyP) : Prop where
  kind : i64 k.kind
  a : i64 k.a
  b : i64 k.b
  word : k.word.size ≤ maxLen
theorem KeyOk.of {k : KeyP} (h : keyB k = true) : KeyOk k := by
  obtain ⟨⟨h1, h2, h3⟩, h4⟩ := wfkey h
  exact ⟨h1, h2, h3, by unfold maxLen; omega⟩
set_option maxRecDepth 100000 in
theorem key_litsG (n : Nat) (k : KeyP) (h : KeyOk k) : Tryz.prog.keyLits (n + 2) 44 [.int .i64 k.kind, .int .i64 k.a, .string k.word, .int .i64 k.b] = some (keyLs k) := by
  have w1 := wfI h.kind
  have w2 := wfI h.a
  have w3 := wfI h.b
  have w4 := h.word
  simp [Program.keyLits, Tryz.underlying44, Tryz.underlying3, Tryz.underlying9, cellsKey, cellsIntO, cellsStrO, w1, w2, w3, w4, keyLs]
theorem keyOf_keyG {k : KeyP} (h : KeyOk k) : keyOf Tryz.prog 44 (keyV k) = some (kK k) := by
  obtain ⟨n, hn⟩ := key_sizes
  have hf : (keyV k).formed Tryz.prog 44 = true := by
    unfold keyV Value.formed; simp only [Tryz.underlying44, cellsKey]; rfl
  unfold keyOf
  rw [Tryz.underlying44]
  simp only [key_keyType, hf, Bool.and_self, if_true, hn]
  show ((Tryz.prog.keyLits (n + 1 + 1) 44 [.int .i64 k.kind, .int .i64 k.a, .string k.word, .int .i64 k.b]).map fun ls => Lit.string (keyBytes ls)) = _
  rw [key_litsG n k h]; rfl
theorem kK_injG {x y : KeyP} (hx : KeyOk x) (hy : KeyOk y) (h : kK x = kK y) : x = y := keyV_inj (keyLaw.inj (keyOf_keyG hx) (by rw [h]; exact keyOf_keyG hy))
def lookK (P : List (KeyP × ByteArray)) (k : KeyP) : Option ByteArray := (P.find? fun p => decide (p.1 = k)).map (·.2)
theorem GP.look {w : World} {gb : Nat} {P : List (KeyP × ByteArray)} (h : GP w gb P) {k : KeyP} (hk : KeyOk k) : ∃ pb, w.cell? ⟨gb, 2, none⟩ = some (.map (some pb)) ∧
    (Instr.lookup 120 (.map (some pb)) (.agg #[.int .i64 k.kind, .int .i64 k.a, .string k.word, .int .i64 k.b]) true).run Tryz.prog w = .ok (.tuple #[.string ((lookK P k).getD ⟨#[]⟩), .bool (lookK P k).isSome]) w := by
  obtain ⟨v0, v1, pb, D, n, h1, hown, hD⟩ := h.own
  refine ⟨pb, block_cell h1 2, ?_⟩
  obtain ⟨u, ps, hr, hu⟩ := hown.look_ok keyLaw Tryz.underlying120 (zeroStrW w) (strVT.put ⟨#[]⟩) (keyOf_keyG hk)
  obtain ⟨b', rfl, e1⟩ := strVT.inv _ _ hu
  simp only [Prod.mk.injEq] at e1
  unfold lookK
  cases hf : P.find? fun p => decide (p.1 = k) with
  | some p =>
    have hp := List.mem_of_find?_eq_some hf
    have he : p.1 = k := by simpa using List.find?_some hf
    have e2 := hD.at' p hp (strD ⟨#[]⟩)
    rw [he] at e2
    have e3 : b' = p.2 := strVT.inj _ _ (e1.1.symm.trans e2)
    have e4 : Maps.has D (kK k) = true := (hD.has _ (kK_key _)).2 ⟨p, hp, by rw [he]⟩
    rw [e3, e4] at hr
    exact hr
  | none =>
    have hn : ∀ p ∈ P, kK p.1 ≠ kK k := fun p hp e => by
      have := List.find?_eq_none.1 hf p hp
      have e2 := kK_injG (KeyOk.of (h.key p hp)) hk e
      simp [e2] at this
    have e4 : Maps.has D (kK k) = false := hD.none (kK_key _) hn
    have e3 : b' = ⟨#[]⟩ := strVT.inj _ _ (e1.1.symm.trans (atKey_of_not_has e4 _))
    rw [e3, e4] at hr
    exact hr
/-- What Prop hands back. -/
def propG (N : List (Int × ByteArray)) (P : List (KeyP × ByteArray)) (n : Int) (word : ByteArray) : ByteArray × Int :=
  if (N.lookup n).isSome = true then (match lookK P ⟨3, n, word, 0⟩ with | some v => (v, 0) | none => (⟨#[]⟩, 8)) else (⟨#[]⟩, 7)
set_option maxRecDepth 100000 in
set_option maxHeartbeats 2000000 in
theorem gprop_any (n : Int) (word : ByteArray) (w : World) {gb nb : Nat} {eo : Option Addr} {N : List (Int × ByteArray)} {E : List KeyP} {P : List (KeyP × ByteArray)} (hG : GAt w gb nb eo N E) (hP : GP w gb P) (hn : i64 n) (hw : word.size ≤ maxLen) :
    Calls Tryz.prog 25 #[.pointer (some ⟨gb, 0, none⟩), .int .i64 n, .string word] w fun e w' => e = .returned (.tuple #[.string (propG N P n word).1, errN (propG N P n word).2]) ∧ w = w' := by
  obtain ⟨ec, c0, c1, hgl⟩ := hG.cells
  obtain ⟨nn, hN⟩ := hG.nod
  obtain ⟨pb, c2, hl2⟩ := hP.look (k := ⟨3, n, word, 0⟩) ⟨by show i64 3; unfold i64; omega, hn, by show i64 0; unfold i64; omega, hw⟩
  have hlk := hN.look_ok strVT Tryz.underlying119 ⟨#[]⟩ (zeroStrW w) hn
  have hQ : propG N P n word = (if (N.lookup n).isSome = true then (match lookK P ⟨3, n, word, 0⟩ with | some v => (v, (0 : Int)) | none => ((⟨#[]⟩ : ByteArray), (8 : Int))) else ((⟨#[]⟩ : ByteArray), (7 : Int))) := rfl
  clear hG hN hP c1
  simp only [] at hl2
  cases ho : N.lookup n with
  | none =>
    rw [ho] at hlk hQ
    simp only [Option.getD_none, Option.isSome_none] at hlk
    have HQ : Hid (propG N P n word = (⟨#[]⟩, 7)) := Lib.hid (by rw [hQ]; rfl)
    clear hQ ho hl2
    go_enter Tryz.func25, Tryz.ntmps25
    go_wp2_with fail
    go_ret2
    exact ⟨by rw [HQ.out]; show _ = Ending.returned (.tuple #[.string ⟨#[]⟩, errN 7]); rw [errN_of (by decide)]; rfl, rfl⟩
  | some v0 =>
    rw [ho] at hlk hQ
    simp only [Option.getD_some, Option.isSome_some] at hlk
    cases hp : lookK P ⟨3, n, word, 0⟩ with
    | none =>
      rw [hp] at hl2 hQ
      simp only [Option.getD_none, Option.isSome_none] at hl2
      have HQ : Hid (propG N P n word = (⟨#[]⟩, 8)) := Lib.hid (by rw [hQ]; rfl)
      clear hQ ho hp
      go_enter Tryz.func25, Tryz.ntmps25
      go_wp2_with fail
      go_ret2
      exact ⟨by rw [HQ.out]; show _ = Ending.returned (.tuple #[.string ⟨#[]⟩, errN 8]); rw [errN_of (by decide)]; rfl, rfl⟩
    | some v =>
      rw [hp] at hl2 hQ
      simp only [Option.getD_some, Option.isSome_some] at hl2
      have HQ : Hid (propG N P n word = (v, 0)) := Lib.hid (by rw [hQ]; rfl)
      clear hQ ho hp
      go_enter Tryz.func25, Tryz.ntmps25
      go_wp2_with fail
      go_ret2
      exact ⟨by rw [HQ.out]; rfl, rfl⟩
set_option maxRecDepth 100000 in
set_option maxHeartbeats 2000000 in
theorem hops_rng (x h : Int) (word : ByteArray) (w : World) {gb nb : Nat} {eo : Option Addr} {N : List (Int × ByteArray)} {E : List KeyP} (hG : GAt w gb nb eo N E) (hx : i64 x) (hin : (N.lookup x).isSome = true) (hh : ¬ (0 ≤ h ∧ h ≤ 1048576)) :
    Calls Tryz.prog 16 #[.pointer (some ⟨gb, 0, none⟩), .int .i64 x, .string word, .int .i64 h] w fun e w' => e = .returned (.tuple #[.slice none 0 0, errV 2]) ∧ w = w' := by
  obtain ⟨ec, c0, c1, hgl⟩ := hG.cells
  obtain ⟨nn, hN⟩ := hG.nod
  have hlk := hN.look_ok strVT Tryz.underlying119 ⟨#[]⟩ (zeroStrW w) hx
  rw [hin] at hlk
  obtain ⟨v0, hv0⟩ : ∃ v0, v0 = (N.lookup x).getD ⟨#[]⟩ := ⟨_, rfl⟩
  rw [← hv0] at hlk
  clear hG hN hin c1 hv0
  unfold errV
  by_cases h0 : h < 0
  · clear hh
    go_enter Tryz.func16, Tryz.ntmps16
    go_wp2_with fail
    go_ret2
    exact ⟨rfl, rfl⟩
  · have h1 : h > 1048576 := by omega
    clear hh
    go_enter Tryz.func16, Tryz.ntmps16
    go_wp2_with fail
    go_ret2
    exact ⟨rfl, rfl⟩
end Go.Proofs.YtflhpmgjehjjkaaGreatDoor
