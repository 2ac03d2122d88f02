/- PastPlays is proved: whatever slice of steps, whatever slice of questions and whatever number come in, the call returns true, and each argument reads afterwards as it read before; the package-level variables that the row lists are tied to the program's text by the card. There are no other conditions. -/
import Derived.Deep.SlicePairs
import Derived.ProofKit
import Derived.Lib.SmallJoins
import Derived.Deep.DeepCutAuto
import Derived.Deep.RegionHeld3
import Derived.SevenTiedAt
import Derived.ChangeSame
import Derived.ChangeVars
import Derived.JoinedOf
import Derived.RowKit
import Derived.RowKitTokens
import Derived.LaidLaws
import Derived.LaidHandle
import Derived.LaidSub
import Derived.Lay
import Derived.Stop.Joined
import Derived.Test.YtacedfcckkpciaaGreatDoorRpKL
import Derived.Test.YtacedfcckkpciaaGreatDoorRpPL
import Derived.Test.YtacedfcckkpciaaGreatDoorErrCL
import Derived.Test.YtacedfcckkpciaaGreatDoorClsL
import Derived.Test.YtacedfcckkpciaaGreatDoorRpHL
import Derived.Test.YtacedfcckkpciaaGreatDoorRpFL
import Derived.Test.YtacedfcckkpciaaGreatDoorFcOL
import Derived.Test.YtacedfcckkpciaaGreatDoorFcSL
import Derived.Test.YtacedfcckkpciaaGreatDoorPickL
import Derived.Test.YtacedfcckkpciaaGreatDoorTreeXL
import Derived.Test.YtacedfcckkpciaaGreatDoorTie
import Derived.Test.YtacedfcckkpciaaGreatDoorCards
namespace Go.Proofs.YtacedfcckkpciaaGreatDoor
open Go.RowKit Go.Deep Go.Shelf Go.Sort Go.Maps

theorem ownsRow_len {w : World} {base : Nat} {e : TypeId} {size : Nat} {v : Value} {n : Nat} {xs : List Value} (h : w.ownsRow base e size v n xs) : n ≤ maxLen := by
  rcases h.2 with ⟨_, h0⟩ | ⟨g, cap, cur, _, _, _, h1, h2, _⟩
  · rw [h0]; exact Nat.zero_le _
  · exact Nat.le_trans h1 h2
section
variable {F : Nat → Prop} {rb : Nat} {hist : List (List OpP)} {known : Int} {w : World} {pb po : Nat} {R : Rest} {s : Pst} {g : Gh}
theorem askE_R (h : PastIs w pb po R hist s g) (hk : s.gone = known) (a : Int) : askE s a = askR hist.length known a := by unfold askE askR; rw [h.now, hk]
theorem errN_of {n : Int} (h : n ≠ 0) : errN n = errV n := by unfold errN; rw [if_neg h]
theorem pvalue_same (h : PastIs w pb po R hist s g) (hk : s.gone = known) (k : KeyP) (a t : Int) (hs : k.word.size ≤ maxLen) :
    Calls Tryz.prog 9 #[.pointer (some ⟨pb, po, none⟩), .agg #[.int .i64 k.kind, .int .i64 k.a, .string k.word, .int .i64 k.b], .int .i64 a, .int .i64 t] w fun e w' => e = .returned (.tuple #[.string (valR hist known k a t).1, errN (valR hist known k a t).2]) ∧ Below w.heap.size w w' := by
  have hv := pvalue_any k a t pb po R s g w h.at' hs (by have := h.nx; omega)
  have e : valV s k a t = .tuple #[.string (valR hist known k a t).1, errN (valR hist known k a t).2] := by
    have ha := askE_R h hk a
    unfold valR
    by_cases h0 : askR hist.length known a = 0
    · rw [if_neg (by rw [h0]; decide)]
      cases hb : keyB k && timeB t with
      | true =>
        rw [Bool.and_eq_true] at hb
        obtain ⟨q1, q2, q3⟩ := askR_0 h0
        rw [if_pos rfl, valV_ok (by rw [ha]; exact h0) hb.1 hb.2]
        obtain ⟨n, rfl⟩ : ∃ n : Nat, a = n := ⟨a.toNat, by omega⟩
        rw [value_told h.wf h.told hb.2 (by rw [hk]; exact q3) (by omega)]
        rfl
      | false =>
        rw [if_neg (by decide)]
        have : valE s k a t = 1 := by unfold valE; rw [if_neg (by rw [ha, h0]; decide), hb]; rfl
        unfold valV
        rw [this, if_neg (by decide)]
    · rw [if_pos h0, valV_ask (by rw [ha]; exact h0), ha]
      simp only [errN_of h0]
  rw [e] at hv
  exact hv

def PSpec (hist : List (List OpP)) (known : Int) (k : KeyP) (a : Int) (L : List Pc) : Prop := (pieRE hist known k a = 0 → PiecesOf hist k a.toNat L) ∧ (pieRE hist known k a ≠ 0 → L = [])
theorem PSpec.one {k : KeyP} {a : Int} {L M : List Pc} (h : PSpec hist known k a L) (h' : PSpec hist known k a M) : L = M := by
  rcases Decidable.em (pieRE hist known k a = 0) with e | e
  · exact (h.1 e).one (h'.1 e) fun _ => rfl
  · rw [h.2 e, h'.2 e]
theorem pieRE_0 {k : KeyP} {a : Int} (h : pieRE hist known k a = 0) : askR hist.length known a = 0 ∧ keyB k = true := by
  unfold pieRE at h
  rcases Decidable.em (askR hist.length known a = 0) with e | e
  · rw [if_neg (by rw [e]; decide)] at h
    cases hb : keyB k with
    | true => exact ⟨e, rfl⟩
    | false => rw [hb] at h; exact absurd h (by decide)
  · rw [if_pos e] at h; exact absurd h e
theorem pcsAt_nil (w : World) : PcsAt w none [] := fun j p h => by cases h
theorem rpieces_same (h : RP F w rb hist known) (k : KeyP) (a : Int) (hs : k.word.size ≤ maxLen) :
    Calls Tryz.prog 50 #[.pointer (some ⟨rb, 0, none⟩), .agg #[.int .i64 k.kind, .int .i64 k.a, .string k.word, .int .i64 k.b], .int .i64 a] w fun e w' => ∃ (ao : Option Addr) (cap : Nat) (L : List Pc), e = .returned (.tuple #[.slice ao L.length cap, .int .i64 (pieRE hist known k a)]) ∧ PSpec hist known k a L ∧ L.length ≤ maxLen ∧ PcsAt w' ao L ∧ Below w.heap.size w w' := by
  rcases Decidable.em (pieRE hist known k a = 0) with e | e
  · obtain ⟨q1, q2, q3⟩ := askR_0 (pieRE_0 e).1
    obtain ⟨n, rfl⟩ : ∃ n : Nat, a = n := ⟨a.toNat, by omega⟩
    refine (rppieces_ok k n w h hs e).mono ?_
    rintro e1 w' ⟨v, L, rfl, hp, hl, hown, hb⟩
    obtain ⟨ao, cap, rfl, hat⟩ := ownsRow_pcs hown
    exact ⟨ao, cap, L, by rw [e], ⟨fun _ => hp, fun h => absurd e h⟩, by unfold maxLen; omega, hat, hb⟩
  · refine (rppieces_bad k a w h hs e).mono ?_
    rintro e1 w' ⟨rfl, hb⟩
    exact ⟨none, 0, [], rfl, ⟨fun h => absurd h e, fun _ => rfl⟩, by decide, pcsAt_nil _, hb⟩
theorem ppieces_same (h : PastIs w pb po R hist s g) (hk : s.gone = known) (k : KeyP) (a : Int) (hs : k.word.size ≤ maxLen) :
    Calls Tryz.prog 13 #[.pointer (some ⟨pb, po, none⟩), .agg #[.int .i64 k.kind, .int .i64 k.a, .string k.word, .int .i64 k.b], .int .i64 a] w fun e w' => ∃ (ao : Option Addr) (cap : Nat) (L : List Pc), e = .returned (.tuple #[.slice ao L.length cap, errN (pieRE hist known k a)]) ∧ PSpec hist known k a L ∧ PcsAt w' ao L ∧ Below w.heap.size w w' := by
  have ha := askE_R h hk a
  have hE : pieE s k a = pieRE hist known k a := by unfold pieE pieRE; rw [ha]
  rcases Decidable.em (pieRE hist known k a = 0) with e | e
  · obtain ⟨e1, e2⟩ := pieRE_0 e
    obtain ⟨q1, q2, q3⟩ := askR_0 e1
    obtain ⟨n, rfl⟩ : ∃ n : Nat, a = n := ⟨a.toNat, by omega⟩
    refine (pieces_is k n pb po R hist s g w h e2 (by rw [hk]; exact q3) (by omega)).mono ?_
    rintro e1 w' ⟨v, L, rfl, hp, _, hl, hown, hb⟩
    obtain ⟨ao, cap, rfl, hat⟩ := ownsRow_pcs hown
    exact ⟨ao, cap, L, by rw [e]; rfl, ⟨fun _ => hp, fun h => absurd e h⟩, hat, hb⟩
  · refine (pPieces_bad k a pb po R s g w h.at' hs (by rw [hE]; exact e)).mono ?_
    rintro e1 w' ⟨rfl, hb⟩
    exact ⟨none, 0, [], by rw [hE, errN_of e]; rfl, ⟨fun h => absurd h e, fun _ => rfl⟩, pcsAt_nil _, hb⟩

def ESpec (hist : List (List OpP)) (known : Int) (k : KeyP) (a b f t : Int) (L : List ByteArray) : Prop := (everRE hist known k a b f t = 0 → EversIs hist k a.toNat b.toNat f t L) ∧ (everRE hist known k a b f t ≠ 0 → L = [])
theorem ESpec.one {k : KeyP} {a b f t : Int} {L M : List ByteArray} (h : ESpec hist known k a b f t L) (h' : ESpec hist known k a b f t M) : L = M := by
  rcases Decidable.em (everRE hist known k a b f t = 0) with e | e
  · exact (h.1 e).one (h'.1 e) fun _ => Iff.rfl
  · rw [h.2 e, h'.2 e]
theorem everRE_0 {k : KeyP} {a b f t : Int} (h : everRE hist known k a b f t = 0) : askR hist.length known a = 0 ∧ askR hist.length known b = 0 ∧ a ≤ b ∧ keyB k = true ∧ rightB f t = true := by
  unfold everRE at h
  rcases Decidable.em (askR hist.length known a = 0) with e | e
  · rw [if_neg (by rw [e]; decide)] at h
    rcases Decidable.em (askR hist.length known b = 0) with e2 | e2
    · rw [if_neg (by rw [e2]; decide)] at h
      rcases Decidable.em (b < a) with e3 | e3
      · rw [if_pos e3] at h; exact absurd h (by decide)
      · rw [if_neg e3] at h
        cases hb : keyB k && rightB f t with
        | true => rw [Bool.and_eq_true] at hb; exact ⟨e, e2, by omega, hb.1, hb.2⟩
        | false => rw [hb] at h; exact absurd h (by decide)
    · rw [if_pos e2] at h; exact absurd h e2
  · rw [if_pos e] at h; exact absurd h e
theorem textsIn_nil (w : World) : TextsIn w none [] := fun j p h => by cases h
theorem rever_same (h : RP F w rb hist known) (k : KeyP) (a b f t : Int) (hs : k.word.size ≤ maxLen) :
    Calls Tryz.prog 52 #[.pointer (some ⟨rb, 0, none⟩), .agg #[.int .i64 k.kind, .int .i64 k.a, .string k.word, .int .i64 k.b], .int .i64 a, .int .i64 b, .agg #[.int .i64 f, .int .i64 t]] w fun e w' => ∃ (ao : Option Addr) (cap : Nat) (L : List ByteArray), e = .returned (.tuple #[.slice ao L.length cap, .int .i64 (everRE hist known k a b f t)]) ∧ ESpec hist known k a b f t L ∧ L.length ≤ maxLen ∧ TextsIn w' ao L ∧ Below w.heap.size w w' := by
  rcases Decidable.em (everRE hist known k a b f t = 0) with e | e
  · obtain ⟨e1, e2, e3, e4, e5⟩ := everRE_0 e
    obtain ⟨q1, q2, q3⟩ := askR_0 e1
    obtain ⟨r1, r2, r3⟩ := askR_0 e2
    obtain ⟨n, rfl⟩ : ∃ n : Nat, a = n := ⟨a.toNat, by omega⟩
    obtain ⟨m, rfl⟩ : ∃ m : Nat, b = m := ⟨b.toNat, by omega⟩
    refine (rpever_ok k n m f t w h hs e).mono ?_
    rintro e1 w' ⟨v, L, rfl, hp, hown, hb⟩
    have hle := ownsRow_len hown
    obtain ⟨ao, cap, rfl, hat⟩ := ownsRow_textsIn hown
    exact ⟨ao, cap, L, by rw [e], ⟨fun _ => hp, fun h => absurd e h⟩, hle, hat, hb⟩
  · refine (rpever_bad k a b f t w h hs e).mono ?_
    rintro e1 w' ⟨rfl, hb⟩
    exact ⟨none, 0, [], rfl, ⟨fun h => absurd h e, fun _ => rfl⟩, by decide, textsIn_nil _, hb⟩
theorem pever_same (h : PastIs w pb po R hist s g) (hk : s.gone = known) (k : KeyP) (a b f t : Int) (hs : k.word.size ≤ maxLen) :
    Calls Tryz.prog 15 #[.pointer (some ⟨pb, po, none⟩), .agg #[.int .i64 k.kind, .int .i64 k.a, .string k.word, .int .i64 k.b], .int .i64 a, .int .i64 b, .agg #[.int .i64 f, .int .i64 t]] w fun e w' => ∃ (ao : Option Addr) (cap : Nat) (L : List ByteArray), e = .returned (.tuple #[.slice ao L.length cap, errN (everRE hist known k a b f t)]) ∧ ESpec hist known k a b f t L ∧ TextsIn w' ao L ∧ Below w.heap.size w w' := by
  have ha := askE_R h hk a
  have hb := askE_R h hk b
  have hE : everE s k a b f t = everRE hist known k a b f t := by unfold everE everRE; rw [ha, hb]
  rcases Decidable.em (everRE hist known k a b f t = 0) with e | e
  · obtain ⟨e1, e2, e3, e4, e5⟩ := everRE_0 e
    obtain ⟨q1, q2, q3⟩ := askR_0 e1
    obtain ⟨r1, r2, r3⟩ := askR_0 e2
    obtain ⟨n, rfl⟩ : ∃ n : Nat, a = n := ⟨a.toNat, by omega⟩
    obtain ⟨m, rfl⟩ : ∃ m : Nat, b = m := ⟨b.toNat, by omega⟩
    refine (ever_is k n m f t pb po R hist s g w h e4 e5 (by rw [hk]; exact q3) (by omega) (by omega)).mono ?_
    rintro e1 w' ⟨v, L, rfl, hp, hown, hb⟩
    obtain ⟨ao, cap, rfl, hat⟩ := ownsRow_textsIn hown
    exact ⟨ao, cap, L, by rw [e]; rfl, ⟨fun _ => hp, fun h => absurd e h⟩, hat, hb⟩
  · refine (pever_bad k a b f t pb po R s g w h.at' hs (by rw [hE]; exact e)).mono ?_
    rintro e1 w' ⟨rfl, hb⟩
    exact ⟨none, 0, [], by rw [hE, errN_of e]; rfl, ⟨fun h => absurd h e, fun _ => rfl⟩, textsIn_nil _, hb⟩

def KSpec (hist : List (List OpP)) (known : Int) (a t : Int) (L : List KeyP) : Prop := (keyRE hist known a t = 0 → KeysIs hist a.toNat t L) ∧ (keyRE hist known a t ≠ 0 → L = [])
theorem KSpec.one {a t : Int} {L M : List KeyP} (h : KSpec hist known a t L) (h' : KSpec hist known a t M) : L = M := by
  rcases Decidable.em (keyRE hist known a t = 0) with e | e
  · exact (h.1 e).one (h'.1 e) fun _ => rfl
  · rw [h.2 e, h'.2 e]
theorem keysIn_nil (w : World) : KeysIn w none [] := fun j p h => by cases h
theorem rkeys_same (h : RP F w rb hist known) (a t : Int) :
    Calls Tryz.prog 54 #[.pointer (some ⟨rb, 0, none⟩), .int .i64 a, .int .i64 t] w fun e w' => ∃ (ao : Option Addr) (cap : Nat) (L : List KeyP), e = .returned (.tuple #[.slice ao L.length cap, .int .i64 (keyRE hist known a t)]) ∧ KSpec hist known a t L ∧ L.length ≤ maxLen ∧ KeysIn w' ao L ∧ Below w.heap.size w w' := by
  rcases Decidable.em (keyRE hist known a t = 0) with e | e
  · obtain ⟨q1, q2, q3⟩ := askR_0 (keyRE_0 e).1
    obtain ⟨n, rfl⟩ : ∃ n : Nat, a = n := ⟨a.toNat, by omega⟩
    refine (rpkeys_ok n t w h e).mono ?_
    rintro e1 w' ⟨v, L, rfl, hp, hown, hb⟩
    have hle := ownsRow_len hown
    obtain ⟨ao, cap, rfl, hat⟩ := ownsRow_keysIn hown
    exact ⟨ao, cap, L, by rw [e], ⟨fun _ => hp, fun h => absurd e h⟩, hle, hat, hb⟩
  · refine (rpkeys_bad a t w h e).mono ?_
    rintro e1 w' ⟨rfl, rfl⟩
    exact ⟨none, 0, [], rfl, ⟨fun h => absurd h e, fun _ => rfl⟩, by decide, keysIn_nil _, Below.refl _ _⟩
theorem pkeys_same (h : PastIs w pb po R hist s g) (hok : ∀ l ∈ hist, okL l = true) (hk : s.gone = known) (a t : Int) :
    Calls Tryz.prog 21 #[.pointer (some ⟨pb, po, none⟩), .int .i64 a, .int .i64 t] w fun e w' => ∃ (ao : Option Addr) (cap : Nat) (L : List KeyP), e = .returned (.tuple #[.slice ao L.length cap, errN (keyRE hist known a t)]) ∧ KSpec hist known a t L ∧ KeysIn w' ao L ∧ Below w.heap.size w w' := by
  have ha := askE_R h hk a
  have hE : keyE s a t = keyRE hist known a t := by unfold keyE keyRE; rw [ha]
  rcases Decidable.em (keyRE hist known a t = 0) with e | e
  · obtain ⟨e1, e2⟩ := keyRE_0 e
    obtain ⟨q1, q2, q3⟩ := askR_0 e1
    obtain ⟨n, rfl⟩ : ∃ n : Nat, a = n := ⟨a.toNat, by omega⟩
    refine (keys_is n t pb po R hist s g w h (fun l hl => (okL_iff.1 (hok l hl)).2) e2 (by rw [hk]; exact q3) (by omega)).mono ?_
    rintro e1 w' ⟨v, L, rfl, hp, _, hl, hown, hb⟩
    obtain ⟨ao, cap, rfl, hat⟩ := ownsRow_keysIn hown
    exact ⟨ao, cap, L, by rw [e]; rfl, ⟨fun _ => hp, fun h => absurd e h⟩, hat, hb⟩
  · refine (pkeys_bad a t pb po R s g w h.at' (by rw [hE]; exact e)).mono ?_
    rintro e1 w' ⟨rfl, rfl⟩
    exact ⟨none, 0, [], by rw [hE, errN_of e]; rfl, ⟨fun h => absurd h e, fun _ => rfl⟩, keysIn_nil _, Below.refl _ _⟩
end
end Go.Proofs.YtacedfcckkpciaaGreatDoor

namespace Go.Proofs.YtacedfcckkpciaaGreatDoor
open Go.RowKit Go.Deep Go.Shelf Go.Sort Go.Maps

theorem errN_is (w : World) (n : Int) : ErrIs w (errN n) n (-1) := by
  unfold errN
  by_cases h : n = 0
  · rw [if_pos h]; exact .inl ⟨rfl, h, rfl⟩
  · rw [if_neg h]; exact .inr (.inl ⟨rfl, rfl⟩)
theorem bare_same (n : Int) (w : World) (hg : ErrVar w) : Calls Tryz.prog 25 #[errN n, .int .i64 n] w fun e w' => e = .returned (.bool true) ∧ Below w.heap.size w w' := by
  have := bare_any (errN n) n (-1) n w hg (errN_is w n)
  rw [show (n == n && (-1 : Int) == -1) = true by simp] at this
  exact this
/-- What a question's box holds. -/
structure AB (A : Nat) (kk ka : Int) (kw : ByteArray) (kb a b t f u : Int) (X : World) : Prop where
  c0 : X.cell? ⟨A, 0, none⟩ = some (.int .i64 kk)
  c1 : X.cell? ⟨A, 1, none⟩ = some (.int .i64 ka)
  c2 : X.cell? ⟨A, 2, none⟩ = some (.string kw)
  c3 : X.cell? ⟨A, 3, none⟩ = some (.int .i64 kb)
  c4 : X.cell? ⟨A, 4, none⟩ = some (.int .i64 a)
  c5 : X.cell? ⟨A, 5, none⟩ = some (.int .i64 b)
  c6 : X.cell? ⟨A, 6, none⟩ = some (.int .i64 t)
  c7 : X.cell? ⟨A, 7, none⟩ = some (.int .i64 f)
  c8 : X.cell? ⟨A, 8, none⟩ = some (.int .i64 u)
  lt : A < X.heap.size
theorem AB.below {A : Nat} {kk ka : Int} {kw : ByteArray} {kb a b t f u : Int} {X Y : World} (h : AB A kk ka kw kb a b t f u X) (k : Below X.heap.size X Y) : AB A kk ka kw kb a b t f u Y :=
  ⟨below_cell k h.lt h.c0, below_cell k h.lt h.c1, below_cell k h.lt h.c2, below_cell k h.lt h.c3, below_cell k h.lt h.c4, below_cell k h.lt h.c5, below_cell k h.lt h.c6, below_cell k h.lt h.c7, below_cell k h.lt h.c8, Nat.lt_of_lt_of_le h.lt k.size⟩
/-- The two pasts, in one world. -/
structure TP (F : Nat → Prop) (pb po rb : Nat) (R : Rest) (hist : List (List OpP)) (s : Pst) (g : Gh) (known : Int) (X : World) : Prop where
  p : PastIs X pb po R hist s g
  r : RP F X rb hist known
  k : s.gone = known
  e : ErrVar X
theorem TP.below {F : Nat → Prop} {pb po rb : Nat} {R : Rest} {hist : List (List OpP)} {s : Pst} {g : Gh} {known : Int} {X Y : World} (h : TP F pb po rb R hist s g known X) (b : Below X.heap.size X Y) : TP F pb po rb R hist s g known Y :=
  ⟨h.p.below b, h.r.below b, h.k, h.e.below b⟩
set_option maxRecDepth 100000 in
set_option maxHeartbeats 16000000 in
theorem tells_any {F : Nat → Prop} {pb po rb : Nat} {R : Rest} {hist : List (List OpP)} {s : Pst} {g : Gh} {known : Int} (kk ka : Int) (kw : ByteArray) (kb a b t f u : Int) (w : World) (h : TP F pb po rb R hist s g known w) (hs : kw.size ≤ maxLen) :
    Calls Tryz.prog 27 #[.pointer (some ⟨pb, po, none⟩), .pointer (some ⟨rb, 0, none⟩), .agg #[.int .i64 kk, .int .i64 ka, .string kw, .int .i64 kb, .int .i64 a, .int .i64 b, .int .i64 t, .int .i64 f, .int .i64 u]] w fun e w' => e = .returned (.bool true) ∧ Below w.heap.size w w' := by
  obtain ⟨A, hA⟩ : ∃ A, A = w.heap.size := ⟨_, rfl⟩
  obtain ⟨W0, hW0⟩ : ∃ W0, W0 = w.alloc (.cells #[.int .i64 kk, .int .i64 ka, .string kw, .int .i64 kb, .int .i64 a, .int .i64 b, .int .i64 t, .int .i64 f, .int .i64 u] 86) := ⟨_, rfl⟩
  have hB0 : Below w.heap.size w W0 := by rw [hW0]; exact (Below.refl _ _).alloc (Nat.le_refl _) _
  have hblk : W0.heap[A]? = some (.cells #[.int .i64 kk, .int .i64 ka, .string kw, .int .i64 kb, .int .i64 a, .int .i64 b, .int .i64 t, .int .i64 f, .int .i64 u] 86 (0, 0)) := by rw [hW0, hA]; exact block_alloc_new _ _
  have hab : AB A kk ka kw kb a b t f u W0 := ⟨block_cell hblk 0, block_cell hblk 1, block_cell hblk 2, block_cell hblk 3, block_cell hblk 4, block_cell hblk 5, block_cell hblk 6, block_cell hblk 7, block_cell hblk 8, lt_of_block hblk⟩
  have T0 := Lib.hid (h.below hB0)
  have A0 := Lib.hid hab
  have B0 := Lib.hid hB0
  have HW0 := Lib.hid hW0
  have HA := Lib.hid hA
  obtain ⟨p0, p1, p2, p3, p4, p5, p6, p7, p8, pl⟩ := hab
  have hsm : kw.size ≤ 9223372036854775807 := by unfold maxLen at hs; omega
  clear h hblk hB0 hW0 hA
  by_cases hlen : (kw.size : Int) > 60
  · go_enter Tryz.func27, Tryz.ntmps27
    go_wp2_with (rw [← HW0.out, ← HA.out])
    go_ret
    exact ⟨rfl, B0.out⟩
  · obtain ⟨x, hx⟩ : ∃ x, x = (valR hist known ⟨kk, ka, kw, kb⟩ a t).1 := ⟨_, rfl⟩
    obtain ⟨n1, hn1⟩ : ∃ n, n = (valR hist known ⟨kk, ka, kw, kb⟩ a t).2 := ⟨_, rfl⟩
    obtain ⟨n2, hn2⟩ : ∃ n, n = pieRE hist known ⟨kk, ka, kw, kb⟩ a := ⟨_, rfl⟩
    obtain ⟨n3, hn3⟩ : ∃ n, n = everRE hist known ⟨kk, ka, kw, kb⟩ a b f u := ⟨_, rfl⟩
    obtain ⟨n4, hn4⟩ : ∃ n, n = keyRE hist known a t := ⟨_, rfl⟩
    have CV := Lib.hid fun (X : World) (hT : TP F pb po rb R hist s g known X) => rpvalue_any ⟨kk, ka, kw, kb⟩ a t X hT.r hs
    have CW := Lib.hid fun (X : World) (hT : TP F pb po rb R hist s g known X) => pvalue_same hT.p hT.k ⟨kk, ka, kw, kb⟩ a t hs
    rw [← hx, ← hn1] at CV CW
    have CP := Lib.hid fun (X : World) (hT : TP F pb po rb R hist s g known X) => rpieces_same hT.r ⟨kk, ka, kw, kb⟩ a hs
    have CQ := Lib.hid fun (X : World) (hT : TP F pb po rb R hist s g known X) => ppieces_same hT.p hT.k ⟨kk, ka, kw, kb⟩ a hs
    rw [← hn2] at CP CQ
    have CE := Lib.hid fun (X : World) (hT : TP F pb po rb R hist s g known X) => rever_same hT.r ⟨kk, ka, kw, kb⟩ a b f u hs
    have CG := Lib.hid fun (X : World) (hT : TP F pb po rb R hist s g known X) => pever_same hT.p hT.k ⟨kk, ka, kw, kb⟩ a b f u hs
    rw [← hn3] at CE CG
    have CK := Lib.hid fun (X : World) (hT : TP F pb po rb R hist s g known X) => rkeys_same hT.r a t
    have CL := Lib.hid fun (X : World) (hT : TP F pb po rb R hist s g known X) => pkeys_same hT.p hT.r.ok hT.k a t
    rw [← hn4] at CK CL
    have CB := Lib.hid fun (n : Int) (X : World) (hT : TP F pb po rb R hist s g known X) => bare_same n X hT.e
    have hxx : (!x.toList == x.toList) = false := by simp
    clear hx hn1 hn2 hn3 hn4
    go_enter Tryz.func27, Tryz.ntmps27
    go_wp2_with (first
      | (rw [← HW0.out, ← HA.out])
      | (go_at_call 49; (with_reducible refine (CV.out W0 T0.out).mono ?_); rintro e w1 ⟨rfl, b1⟩; have T1 := Lib.hid (T0.out.below b1); have A1 := Lib.hid (A0.out.below b1); have B1 := Lib.hid (B0.out.trans (b1.mono B0.out.size)); clear p0 p1 p2 p3 p4 p5 p6 p7 p8 pl b1; obtain ⟨p0, p1, p2, p3, p4, p5, p6, p7, p8, pl⟩ := A1.out)
      | (go_at_call 9; (with_reducible refine (CW.out w1 T1.out).mono ?_); rintro e w2 ⟨rfl, b1⟩; have T2 := Lib.hid (T1.out.below b1); have A2 := Lib.hid (A1.out.below b1); have B2 := Lib.hid (B1.out.trans (b1.mono B1.out.size)); clear p0 p1 p2 p3 p4 p5 p6 p7 p8 pl b1; obtain ⟨p0, p1, p2, p3, p4, p5, p6, p7, p8, pl⟩ := A2.out)
      | (go_at_call 25; (with_reducible refine (CB.out n1 w2 T2.out).mono ?_); rintro e w3 ⟨rfl, b1⟩; have T3 := Lib.hid (T2.out.below b1); have A3 := Lib.hid (A2.out.below b1); have B3 := Lib.hid (B2.out.trans (b1.mono B2.out.size)); clear p0 p1 p2 p3 p4 p5 p6 p7 p8 pl b1; obtain ⟨p0, p1, p2, p3, p4, p5, p6, p7, p8, pl⟩ := A3.out)
      | (go_at_call 50; (with_reducible refine (CP.out w3 T3.out).mono ?_); rintro e w4 ⟨ao, ca, L, rfl, hl1, hl2, hl3, b1⟩; have S4 := Lib.hid hl1; have Z4 := Lib.hid hl2; have L4 := Lib.hid hl3; have T4 := Lib.hid (T3.out.below b1); have A4 := Lib.hid (A3.out.below b1); have B4 := Lib.hid (B3.out.trans (b1.mono B3.out.size)); clear p0 p1 p2 p3 p4 p5 p6 p7 p8 pl b1 hl1 hl2 hl3; obtain ⟨p0, p1, p2, p3, p4, p5, p6, p7, p8, pl⟩ := A4.out)
      | (go_at_call 13; (with_reducible refine (CQ.out w4 T4.out).mono ?_); rintro e w5 ⟨bo, cb, L', rfl, hl1, hl3, b1⟩; obtain rfl := S4.out.one hl1; have L5 := Lib.hid hl3; have K5 := Lib.hid (L4.out.below b1); have T5 := Lib.hid (T4.out.below b1); have A5 := Lib.hid (A4.out.below b1); have B5 := Lib.hid (B4.out.trans (b1.mono B4.out.size)); clear p0 p1 p2 p3 p4 p5 p6 p7 p8 pl b1 hl1 hl3; obtain ⟨p0, p1, p2, p3, p4, p5, p6, p7, p8, pl⟩ := A5.out)
      | (go_at_call 25; (with_reducible refine (CB.out n2 w5 T5.out).mono ?_); rintro e w6 ⟨rfl, b1⟩; have L6 := Lib.hid (L5.out.below b1); have K6 := Lib.hid (K5.out.below b1); have T6 := Lib.hid (T5.out.below b1); have A6 := Lib.hid (A5.out.below b1); have B6 := Lib.hid (B5.out.trans (b1.mono B5.out.size)); clear p0 p1 p2 p3 p4 p5 p6 p7 p8 pl b1; obtain ⟨p0, p1, p2, p3, p4, p5, p6, p7, p8, pl⟩ := A6.out)
      | (go_at_call 51; (with_reducible refine (samePieces_any L bo ao cb ca w6 L6.out K6.out Z4.out).mono ?_); rintro e w7 ⟨rfl, b1⟩; have T7 := Lib.hid (T6.out.below b1); have A7 := Lib.hid (A6.out.below b1); have B7 := Lib.hid (B6.out.trans (b1.mono B6.out.size)); clear p0 p1 p2 p3 p4 p5 p6 p7 p8 pl b1; obtain ⟨p0, p1, p2, p3, p4, p5, p6, p7, p8, pl⟩ := A7.out)
      | (go_at_call 52; (with_reducible refine (CE.out w7 T7.out).mono ?_); rintro e w8 ⟨co, cc, E, rfl, hl1, hl2, hl3, b1⟩; have S8 := Lib.hid hl1; have Z8 := Lib.hid hl2; have L8 := Lib.hid hl3; have T8 := Lib.hid (T7.out.below b1); have A8 := Lib.hid (A7.out.below b1); have B8 := Lib.hid (B7.out.trans (b1.mono B7.out.size)); clear p0 p1 p2 p3 p4 p5 p6 p7 p8 pl b1 hl1 hl2 hl3; obtain ⟨p0, p1, p2, p3, p4, p5, p6, p7, p8, pl⟩ := A8.out)
      | (go_at_call 15; (with_reducible refine (CG.out w8 T8.out).mono ?_); rintro e w9 ⟨do_, cd, E', rfl, hl1, hl3, b1⟩; obtain rfl := S8.out.one hl1; have L9 := Lib.hid hl3; have K9 := Lib.hid (L8.out.below b1); have T9 := Lib.hid (T8.out.below b1); have A9 := Lib.hid (A8.out.below b1); have B9 := Lib.hid (B8.out.trans (b1.mono B8.out.size)); clear p0 p1 p2 p3 p4 p5 p6 p7 p8 pl b1 hl1 hl3; obtain ⟨p0, p1, p2, p3, p4, p5, p6, p7, p8, pl⟩ := A9.out)
      | (go_at_call 25; (with_reducible refine (CB.out n3 w9 T9.out).mono ?_); rintro e w10 ⟨rfl, b1⟩; have L10 := Lib.hid (L9.out.below b1); have K10 := Lib.hid (K9.out.below b1); have T10 := Lib.hid (T9.out.below b1); have A10 := Lib.hid (A9.out.below b1); have B10 := Lib.hid (B9.out.trans (b1.mono B9.out.size)); clear p0 p1 p2 p3 p4 p5 p6 p7 p8 pl b1; obtain ⟨p0, p1, p2, p3, p4, p5, p6, p7, p8, pl⟩ := A10.out)
      | (go_at_call 53; (with_reducible refine (sameTexts_any E do_ co cd cc w10 L10.out K10.out Z8.out).mono ?_); rintro e w11 ⟨rfl, b1⟩; have T11 := Lib.hid (T10.out.below b1); have A11 := Lib.hid (A10.out.below b1); have B11 := Lib.hid (B10.out.trans (b1.mono B10.out.size)); clear p0 p1 p2 p3 p4 p5 p6 p7 p8 pl b1; obtain ⟨p0, p1, p2, p3, p4, p5, p6, p7, p8, pl⟩ := A11.out)
      | (go_at_call 54; (with_reducible refine (CK.out w11 T11.out).mono ?_); rintro e w12 ⟨fo, cf, K, rfl, hl1, hl2, hl3, b1⟩; have S12 := Lib.hid hl1; have Z12 := Lib.hid hl2; have L12 := Lib.hid hl3; have T12 := Lib.hid (T11.out.below b1); have A12 := Lib.hid (A11.out.below b1); have B12 := Lib.hid (B11.out.trans (b1.mono B11.out.size)); clear p0 p1 p2 p3 p4 p5 p6 p7 p8 pl b1 hl1 hl2 hl3; obtain ⟨p0, p1, p2, p3, p4, p5, p6, p7, p8, pl⟩ := A12.out)
      | (go_at_call 21; (with_reducible refine (CL.out w12 T12.out).mono ?_); rintro e w13 ⟨go_, cg, K', rfl, hl1, hl3, b1⟩; obtain rfl := S12.out.one hl1; have L13 := Lib.hid hl3; have K13 := Lib.hid (L12.out.below b1); have T13 := Lib.hid (T12.out.below b1); have B13 := Lib.hid (B12.out.trans (b1.mono B12.out.size)); clear p0 p1 p2 p3 p4 p5 p6 p7 p8 pl b1 hl1 hl3))
    have CB13 := Lib.hid fun (X : InC (Bel w13)) => CB.out n4 X.w (T13.out.below X.ok)
    have CS13 := Lib.hid fun (X : InC (Bel w13)) => sameKeys_any K go_ fo cg cf X.w (L13.out.below X.ok) (K13.out.below X.ok) Z12.out
    have CN13 := Lib.hid fun (X : InC (Bel w13)) => pnow_any pb po R s g X.w (T13.out.below X.ok).p.at'
    have CR13 := Lib.hid fun (X : InC (Bel w13)) => rpnow_any X.w (T13.out.below X.ok).r
    have CM13 := Lib.hid fun (X : InC (Bel w13)) => pknown_any pb po R s g X.w (T13.out.below X.ok).p.at'
    rw [T13.out.k] at CM13
    rw [T13.out.p.now] at CN13
    obtain ⟨rao, rc, ⟨_, r1⟩, _, _⟩ := T13.out.r.get
    have rl := T13.out.r.lt
    have r1' : ∀ X : InC (Bel w13), X.w.cell? ⟨rb, 1, none⟩ = some (.int .i64 known) := fun X => X.cell r1
    refine wp_region_in (S := Bel w13) (by kernel_rfl) (by kernel_rfl) (bel_drew (Below.refl _ w13)) (fun hne => ?_)
    repeat (go_big_quiet_step (first
      | (go_at_call 25; exact InC.call (CB13.out _))
      | (go_at_call 55; exact InC.call (CS13.out _))
      | (go_at_call 16; exact InC.call_same ((CN13.out _).mono fun _ _ h => ⟨h.1, h.2.symm⟩))
      | (go_at_call 46; exact InC.call_same (CR13.out _))
      | (go_at_call 18; exact InC.call_same ((CM13.out _).mono fun _ _ h => ⟨h.1, h.2.symm⟩))))
    refine wpQuiet_nil ?_
    rintro _ ⟨X, rfl⟩
    go_wp2_with fail
    go_ret
    exact ⟨by simp, B13.out.trans (X.ok.mono B13.out.size)⟩
end Go.Proofs.YtacedfcckkpciaaGreatDoor

namespace Go.Proofs.YtacedfcckkpciaaGreatDoor
open Go.RowKit Go.Deep Go.Shelf Go.Sort Go.Maps

/-- What the history is behind a transaction. -/
def histR (hist : List (List OpP)) (l : List OpP) : List (List OpP) := if okL l = true ∧ hist.length < 150 then hist ++ [l] else hist
theorem comR_ok {N : Nat} {l : List OpP} (h : okL l = true) (hn : N < 150) : comR N l = (0, -1) := by unfold comR; rw [if_pos h, if_pos hn]
theorem comR_full {N : Nat} {l : List OpP} (h : okL l = true) (hn : ¬ N < 150) : comR N l = (12, -1) := by unfold comR; rw [if_pos h, if_neg hn]
theorem comR_bad {N : Nat} {l : List OpP} (h : okL l = false) : comR N l = (writeR l).2 := by unfold comR; rw [if_neg (by rw [h]; decide)]
section
variable {pb rb : Nat} {R : Rest} {hist : List (List OpP)} {known : Int} {s : Pst} {g : Gh}
theorem pcommit_same (ao : Option Addr) (c : Nat) (l : List OpP) (w : World) (h : TP (g.foot pb) pb 0 rb R hist s g known w) (hl : opsAt w ao l) (hm : l.length ≤ maxLen) (hsep : l ≠ [] → SepOps ao g pb) (hg : PowTab w) (hs : ∀ o ∈ l, o.key.word.size ≤ 100000 ∧ o.value.size ≤ 100000) :
    Calls Tryz.prog 11 #[.pointer (some ⟨pb, 0, none⟩), .slice ao l.length c] w fun e w' => ∃ v s' g', e = .returned v ∧ ErrIs w' v (comR hist.length l).1 (comR hist.length l).2 ∧ PastIs w' pb 0 R (histR hist l) s' g' ∧ s'.gone = known ∧ Fr (g.foot pb) w w' ∧ Grows g g' pb w := by
  have hlen := h.p.len
  cases hok : okL l with
  | false =>
    refine (pcommit_bad ao c l pb 0 w hl hm hs hg hok).mono ?_
    rintro e w' ⟨⟨v, rfl, hv⟩, hb⟩
    exact ⟨v, s, g, rfl, by rw [comR_bad hok]; exact hv, by unfold histR; rw [if_neg (by rw [hok]; simp)]; exact h.p.below hb, h.k, Fr.new hb, Grows.refl _ _ _⟩
  | true =>
    by_cases hn : hist.length < 150
    · refine (commit_is ao c l pb 0 R hist s g w h.p hl (hsep fun e => by subst e; have := (okL_iff.1 hok).1.1; simp at this) hg hok hn).mono ?_
      rintro e w' ⟨s', g', rfl, hp, hgone, hf, hG⟩
      exact ⟨_, s', g', rfl, by rw [comR_ok hok hn]; exact .inl ⟨rfl, rfl, rfl⟩, by unfold histR; rw [if_pos ⟨hok, hn⟩]; exact hp, hgone.trans h.k, hf, hG⟩
    · refine (pcommit_full ao c l pb 0 R s g w h.p.at' hl hg hok (by have := h.p.now; omega)).mono ?_
      rintro e w' ⟨rfl, hb⟩
      exact ⟨_, s, g, rfl, by rw [comR_full hok hn]; exact .inr (.inl ⟨rfl, rfl⟩), by unfold histR; rw [if_neg (fun h => hn h.2)]; exact h.p.below hb, h.k, Fr.new hb, Grows.refl _ _ _⟩
theorem rpcommit_same {F : Nat → Prop} (ao : Option Addr) (c : Nat) (l : List OpP) (w : World) (h : RP F w rb hist known) (hl : opsAt w ao l) (hg : PowTab w) (hs : ∀ o ∈ l, o.key.word.size ≤ 100000 ∧ o.value.size ≤ 100000) (hF : ∀ k, F k → k < w.heap.size) :
    Calls Tryz.prog 23 #[.pointer (some ⟨rb, 0, none⟩), .slice ao l.length c] w fun e w' => e = .returned (.agg #[.int .i64 (comR hist.length l).1, .int .i64 (comR hist.length l).2]) ∧ RP F w' rb (histR hist l) known ∧ Fr (· = rb) w w' := by
  cases hok : okL l with
  | false =>
    refine (rpcommit_bad ao c l w h hl hok hg hs).mono ?_
    rintro e w' ⟨rfl, hb⟩
    exact ⟨by rw [comR_bad hok], by unfold histR; rw [if_neg (by rw [hok]; simp)]; exact h.below hb, Fr.new hb⟩
  | true =>
    by_cases hn : hist.length < 150
    · refine (rpcommit_ok ao c l w h hl hok hg hF hn).mono ?_
      rintro e w' ⟨rfl, hp, hf⟩
      exact ⟨by rw [comR_ok hok hn], by unfold histR; rw [if_pos ⟨hok, hn⟩]; exact hp, hf⟩
    · refine (rpcommit_full ao c l w h hl hok hg (by omega)).mono ?_
      rintro e w' ⟨rfl, hb⟩
      exact ⟨by rw [comR_full hok hn], by unfold histR; rw [if_neg (fun h => hn h.2)]; exact h.below hb, Fr.new hb⟩
theorem pforget_same (a : Int) (w : World) (h : TP (g.foot pb) pb 0 rb R hist s g known w) :
    Calls Tryz.prog 19 #[.pointer (some ⟨pb, 0, none⟩), .int .i64 a] w fun e w' => ∃ s' g', e = .returned (errN (forR hist.length known a)) ∧ PastIs w' pb 0 R hist s' g' ∧ s'.gone = (if forR hist.length known a = 0 then a else known) ∧ Fr (g.foot pb) w w' ∧ Grows g g' pb w := by
  have hnow := h.p.now
  have hk := h.k
  have hE : forgE s a = forR hist.length known a := by unfold forgE forR; rw [hnow, hk]
  by_cases h0 : forR hist.length known a = 0
  · have h12 : s.gone ≤ a ∧ a ≤ s.now := by
      unfold forR at h0
      rw [hnow, hk]
      split at h0
      · exact absurd h0 (by decide)
      · split at h0
        · exact absurd h0 (by decide)
        · omega
    refine (forget_is a pb 0 R hist s g w h.p h12.1 h12.2).mono ?_
    rintro e w' ⟨s', g', rfl, hp, hgone, hf, hG⟩
    exact ⟨s', g', by rw [h0]; rfl, hp, by rw [if_pos h0]; exact hgone, hf, hG⟩
  · refine (pforget_bad a pb 0 R s g w h.p.at' (by rw [hE]; exact h0)).mono ?_
    rintro e w' ⟨rfl, rfl⟩
    exact ⟨s, g, by rw [hE, errN_of h0], h.p, by rw [if_neg h0]; exact hk, Fr.refl _ _, Grows.refl _ _ _⟩
end
/-- Where the two pasts lie. -/
structure PZ (w0 Z : World) (pb rb : Nat) : Prop where
  z : Below w0.heap.size w0 Z
  b0 : w0.heap.size ≤ pb
  b1 : pb < rb
  b2 : rb < Z.heap.size
  ev : ErrVar w0
  pt : PowTab w0
theorem PZ.be {w0 Z X : World} {pb rb : Nat} (h : PZ w0 Z pb rb) (f : Fr (fun k => k = pb ∨ k = rb) Z X) : Below w0.heap.size w0 X :=
  h.z.trans (f.below (fun k _ e => by have := h.b0; have := h.b1; omega) h.z.size)
/-- Both pasts, in a world that began as Z. -/
structure PP (w0 Z : World) (pb rb : Nat) (R : Rest) (hist : List (List OpP)) (s : Pst) (g : Gh) (known : Int) (X : World) : Prop where
  pz : PZ w0 Z pb rb
  p : PastIs X pb 0 R hist s g
  r : RP (g.foot pb) X rb hist known
  k : s.gone = known
  fr : Fr (fun k => k = pb ∨ k = rb) Z X
  ft : ∀ k, g.foot pb k → k = pb ∨ Z.heap.size ≤ k
/-- Behind the real one's turn. -/
structure PH (w0 Z : World) (pb rb : Nat) (R : Rest) (hist hist' : List (List OpP)) (s' : Pst) (g' : Gh) (known known' : Int) (X : World) : Prop where
  pz : PZ w0 Z pb rb
  p : PastIs X pb 0 R hist' s' g'
  r : RP (g'.foot pb) X rb hist known
  k : s'.gone = known'
  fr : Fr (fun k => k = pb ∨ k = rb) Z X
  ft : ∀ k, g'.foot pb k → k = pb ∨ Z.heap.size ≤ k
section
variable {w0 Z X Y : World} {pb rb : Nat} {R : Rest} {hist hist' : List (List OpP)} {s s' : Pst} {g g' : Gh} {known known' : Int}
theorem PP.tp (h : PP w0 Z pb rb R hist s g known X) : TP (g.foot pb) pb 0 rb R hist s g known X := ⟨h.p, h.r, h.k, h.pz.ev.below (h.pz.be h.fr)⟩
theorem PP.be (h : PP w0 Z pb rb R hist s g known X) : Below w0.heap.size w0 X := h.pz.be h.fr
theorem PP.pow (h : PP w0 Z pb rb R hist s g known X) : PowTab X := h.pz.pt.below h.be
theorem PH.pow (h : PH w0 Z pb rb R hist hist' s' g' known known' X) : PowTab X := h.pz.pt.below (h.pz.be h.fr)
theorem PH.ev (h : PH w0 Z pb rb R hist hist' s' g' known known' X) : ErrVar X := h.pz.ev.below (h.pz.be h.fr)
theorem PP.below (h : PP w0 Z pb rb R hist s g known X) (b : Below X.heap.size X Y) : PP w0 Z pb rb R hist s g known Y :=
  ⟨h.pz, h.p.below b, h.r.below b, h.k, h.fr.trans (Fr.new b), h.ft⟩
theorem PP.half (h : PP w0 Z pb rb R hist s g known X) (hp : PastIs Y pb 0 R hist' s' g') (hk : s'.gone = known') (hf : Fr (g.foot pb) X Y) (hG : Grows g g' pb X) : PH w0 Z pb rb R hist hist' s' g' known known' Y := by
  have hs := h.fr.size
  refine ⟨h.pz, hp, h.r.turn hf hG, hk, h.fr.next hf (fun k hk e => ?_), fun k hk => ?_⟩
  · rcases h.ft k e with e | e
    · exact .inl e
    · omega
  · rcases hG k hk with e | e
    · exact h.ft k e
    · exact .inr (by omega)
theorem PH.full (h : PH w0 Z pb rb R hist hist' s' g' known known' X) (hr : RP (g'.foot pb) Y rb hist' known') (hf : Fr (· = rb) X Y) : PP w0 Z pb rb R hist' s' g' known' Y :=
  ⟨h.pz, h.p.frame hf (fun k hk e => by subst e; exact hr.nf hk), hr, h.k, h.fr.trans (hf.mono fun k _ e => .inr e), h.ft⟩
theorem PH.footlt (h : PH w0 Z pb rb R hist hist' s' g' known known' X) : ∀ k, g'.foot pb k → k < X.heap.size := h.p.at'.lt
/-- An error's box is not the reference's. -/
theorem errIs_rb {F : Nat → Prop} {v : Value} {n p : Int} (h : ErrIs X v n p) (hr : RP F X rb hist known) (hf : Fr (· = rb) X Y) : ErrIs Y v n p := by
  rcases h with h | h | ⟨b, h1, h2, h3⟩
  · exact .inl h
  · exact .inr (.inl h)
  · have hne : b ≠ rb := fun e => by
      subst e
      obtain ⟨ao, c, ⟨c0, _⟩, _⟩ := hr.get
      rw [h2] at c0; cases c0
    have hb := hf.block b (World.block_lt_of_cell? X _ h2) hne
    exact .inr (.inr ⟨b, h1, (World.cell?_of_block (a := ⟨b, 0, none⟩) hb).trans h2, (World.cell?_of_block (a := ⟨b, 1, none⟩) hb).trans h3⟩)
/-- Changes that lay there from the start, and are in neither past. -/
theorem PP.ops (h : PP w0 Z pb rb R hist s g known X) {ao : Option Addr} {l : List OpP} (hl : opsAt Z ao l) (hn : l ≠ [] → ∀ b f, ao = some ⟨b, f, none⟩ → b < Z.heap.size ∧ b ≠ pb ∧ b ≠ rb) : opsAt X ao l ∧ (l ≠ [] → SepOps ao g pb) := by
  refine ⟨fun i o hi => ?_, fun h0 b f e hf => ?_⟩
  · obtain ⟨b, f, e, hc⟩ := hl i o hi
    obtain ⟨n1, n2, n3⟩ := hn (fun e => by subst e; simp at hi) b f e
    exact ⟨b, f, e, fun j u hj => (World.cell?_of_block (a := ⟨b, _, none⟩) (h.fr.block b n1 (fun e => by omega))).trans (hc j u hj)⟩
  · obtain ⟨n1, n2, n3⟩ := hn h0 b f e
    rcases h.ft b hf with e | e
    · exact n2 e
    · omega
theorem PH.ops (h : PH w0 Z pb rb R hist hist' s' g' known known' X) {ao : Option Addr} {l : List OpP} (hl : opsAt Z ao l) (hn : l ≠ [] → ∀ b f, ao = some ⟨b, f, none⟩ → b < Z.heap.size ∧ b ≠ pb ∧ b ≠ rb) : opsAt X ao l := fun i o hi => by
  obtain ⟨b, f, e, hc⟩ := hl i o hi
  obtain ⟨n1, n2, n3⟩ := hn (fun e => by subst e; simp at hi) b f e
  exact ⟨b, f, e, fun j u hj => (World.cell?_of_block (a := ⟨b, _, none⟩) (h.fr.block b n1 (fun e => by omega))).trans (hc j u hj)⟩
end
/-! ### What comes in -/
structure AskP where
  key : KeyP
  a : Int
  b : Int
  t : Int
  f : Int
  u : Int
def askCells (x : AskP) : List Value := [.int .i64 x.key.kind, .int .i64 x.key.a, .string x.key.word, .int .i64 x.key.b, .int .i64 x.a, .int .i64 x.b, .int .i64 x.t, .int .i64 x.f, .int .i64 x.u]
def asksAt (w : World) (ao : Option Addr) (l : List AskP) : Prop := ∀ i x, l[i]? = some x → ∃ b f, ao = some ⟨b, f, none⟩ ∧ ∀ j u, (askCells x)[j]? = some u → w.cell? ⟨b, f + i * 9 + j, none⟩ = some u
structure StepP where
  what : Int
  n : Int
  torn : Int
  ops : List OpP
/-- A list of steps: each its header, and its changes. -/
def stepsAt (w : World) (ao : Option Addr) (l : List StepP) : Prop := ∀ i x, l[i]? = some x → ∃ b f, ao = some ⟨b, f, none⟩ ∧ ∃ oo oc, w.cell? ⟨b, f + i * 4, none⟩ = some (.int .i64 x.what) ∧ w.cell? ⟨b, f + i * 4 + 1, none⟩ = some (.int .i64 x.n) ∧ w.cell? ⟨b, f + i * 4 + 2, none⟩ = some (.int .i64 x.torn) ∧ w.cell? ⟨b, f + i * 4 + 3, none⟩ = some (.slice oo x.ops.length oc) ∧ opsAt w oo x.ops ∧ x.ops.length ≤ maxLen
theorem opsAt_lt {w : World} {ao : Option Addr} {l : List OpP} (h : opsAt w ao l) (hl : l ≠ []) : ∀ b f, ao = some ⟨b, f, none⟩ → b < w.heap.size := fun b f e => by
  cases l with
  | nil => exact absurd rfl hl
  | cons o l =>
    obtain ⟨b', f', e', hc⟩ := h 0 o rfl
    rw [e] at e'; cases e'
    exact World.block_lt_of_cell? w _ (hc 0 _ rfl)
end Go.Proofs.YtacedfcckkpciaaGreatDoor

namespace Go.Proofs.YtacedfcckkpciaaGreatDoor
open Go.ChangeShapes Go.WideShapes Go.ChangeAt Go.RowKit Go.Joins Go.Deep

theorem cellsStep : Tryz.prog.cellsOf 79 = 4 := by kernel_rfl
theorem cellsAsk : Tryz.prog.cellsOf 86 = 9 := by kernel_rfl
theorem cellsOpsS : Tryz.prog.cellsOf 42 = 1 := by kernel_rfl
set_option maxRecDepth 100000 in
theorem ops_trod {H : Type} {enc : TypeId × Value → H} {W : World} {fuel : Nat} {cs : List Value} {x : DataW H × List MemPlace} (h : DataW.trod enc Tryz.prog W 0 (fun _ => true) true fuel 42 cs = some x) :
    ∃ ao l cap, cs = [.slice ao l.length cap] ∧ opsAt W ao l ∧ l.length ≤ maxLen := by
  rcases Go.Deep.open_slice Tryz.underlying42 h with ⟨hc, _⟩ | ⟨a, len, cap, m, n, D, Pl, hc, hb, hl, hm, hmm, _, hx⟩
  · exact ⟨none, [], 0, hc, (fun i p h => by simp at h), Nat.zero_le _⟩
  · simp only [if_true] at hmm
    have key : ∀ i, i < len → ∃ o : OpP, ∀ j u, (opCells o)[j]? = some u → W.cell? (a.add (i * 7 + j)) = some u := by
      intro i hi
      obtain ⟨cs', h1, h2⟩ := hx i (by omega)
      rw [cellsOp] at h1
      obtain ⟨_, hlen, hcell⟩ := World.cells?_some h1
      obtain ⟨o, ho⟩ := op_trod h2
      refine ⟨o, fun j u hj => ?_⟩
      have hj7 : j < 7 := (List.getElem?_eq_some_iff.1 hj).1
      have c := hcell j (by omega)
      rw [add_add] at c
      rw [ho, hj] at c
      exact c
    obtain ⟨q, hq⟩ := choose_lt key
    refine ⟨some a, (List.range len).map q, cap, by rw [hc]; simp, ?_, by simp; omega⟩
    intro i o ho
    simp only [List.getElem?_map, Option.map_eq_some_iff] at ho
    obtain ⟨i', hi', rfl⟩ := ho
    obtain ⟨hlt, rfl⟩ := List.getElem?_eq_some_iff.1 hi'
    simp only [List.length_range] at hlt
    simp only [List.getElem_range] at *
    have z0 := hq 0 (by omega) 0 _ rfl
    have hs := World.cell?_spot z0
    obtain ⟨b, f, sp⟩ := a
    have hsp : sp = none := by simpa [Addr.add] using hs
    subst hsp
    have ha : ∀ k, (⟨b, f, none⟩ : Addr).add k = ⟨b, f + k, none⟩ := fun k => by unfold Addr.add; split <;> simp_all
    refine ⟨b, f, rfl, fun j u hj => ?_⟩
    have := hq i hlt j u hj
    rw [ha, ← Nat.add_assoc] at this
    exact this
set_option maxRecDepth 100000 in
theorem step_trod {H : Type} {enc : TypeId × Value → H} {W : World} {fuel : Nat} {cs : List Value} {x : DataW H × List MemPlace} (h : DataW.trod enc Tryz.prog W 0 (fun _ => true) true fuel 79 cs = some x) :
    ∃ s : StepP, ∃ oo oc, cs = [.int .i64 s.what, .int .i64 s.n, .int .i64 s.torn, .slice oo s.ops.length oc] ∧ opsAt W oo s.ops ∧ s.ops.length ≤ maxLen := by
  obtain ⟨xs, n, _, _, hl, hxl, hf⟩ := DataW.trod_struct Tryz.underlying79 h
  rw [cellsStep] at hl
  match xs, hxl, cs, hl with
  | [y0, y1, y2, y3], _, [v0, v1, v2, v3], _ =>
    have g0 := hf 0 _ rfl
    have g1 := hf 1 _ rfl
    have g2 := hf 2 _ rfl
    have g3 := hf 3 _ rfl
    simp [cellsIntO, cellsOpsS] at g0 g1 g2 g3
    obtain ⟨x0, e0, _, _⟩ := DataW.trod_int Tryz.underlying3 g0
    obtain ⟨x1, e1, _, _⟩ := DataW.trod_int Tryz.underlying3 g1
    obtain ⟨x2, e2, _, _⟩ := DataW.trod_int Tryz.underlying3 g2
    obtain ⟨oo, l, oc, e3, ho, hm⟩ := ops_trod g3
    simp at e0 e1 e2 e3
    exact ⟨⟨x0, x1, x2, l⟩, oo, oc, by simp [e0, e1, e2, e3], ho, hm⟩
set_option maxRecDepth 100000 in
theorem ask_trod {H : Type} {enc : TypeId × Value → H} {W : World} {sp : Nat → Bool} {held : Bool} {base fuel : Nat} {cs : List Value} {x : DataW H × List MemPlace} (h : DataW.trod enc Tryz.prog W base sp held fuel 86 cs = some x) :
    ∃ s : AskP, cs = askCells s ∧ s.key.word.size ≤ maxLen := by
  obtain ⟨xs, n, _, _, hl, hxl, hf⟩ := DataW.trod_struct Tryz.underlying86 h
  rw [cellsAsk] at hl
  match xs, hxl, cs, hl with
  | [y0, y1, y2, y3, y4], _, [v0, v1, v2, v3, v4, v5, v6, v7, v8], _ =>
    have g0 := hf 0 _ rfl
    have g1 := hf 1 _ rfl
    have g2 := hf 2 _ rfl
    have g3 := hf 3 _ rfl
    have g4 := hf 4 _ rfl
    simp [cellsKey, cellsIntO, cellsSpanO] at g0 g1 g2 g3 g4
    obtain ⟨k, ek, hk⟩ := key_trod g0
    obtain ⟨x1, e1, _, _⟩ := DataW.trod_int Tryz.underlying3 g1
    obtain ⟨x2, e2, _, _⟩ := DataW.trod_int Tryz.underlying3 g2
    obtain ⟨x3, e3, _, _⟩ := DataW.trod_int Tryz.underlying3 g3
    obtain ⟨zs, m, _, _, _, hzl, hf2⟩ := DataW.trod_struct Tryz.underlying44 g4
    match zs, hzl with
    | [z0, z1], _ =>
      have t0 := hf2 0 _ rfl
      have t1 := hf2 1 _ rfl
      simp [cellsIntO] at t0 t1
      obtain ⟨x4, e4, _, _⟩ := DataW.trod_int Tryz.underlying3 t0
      obtain ⟨x5, e5, _, _⟩ := DataW.trod_int Tryz.underlying3 t1
      simp at e1 e2 e3 e4 e5
      simp [keyCells] at ek
      obtain ⟨k0, k1, k2, k3⟩ := ek
      exact ⟨⟨k, x1, x2, x3, x4, x5⟩, by simp [askCells, k0, k1, k2, k3, e1, e2, e3, e4, e5], hk⟩
set_option maxRecDepth 100000 in
theorem open_steps {H : Type} {enc : TypeId × Value → H} {W : World} {v : Value} {d : DataW H} {p : List MemPlace} (hv : ∃ a len cap, v = .slice a len cap)
    (h : DataW.Trod enc Tryz.prog W 0 (fun _ => true) true 68 v d p) : ∃ ao l cap, v = .slice ao l.length cap ∧ stepsAt W ao l ∧ l.length ≤ maxLen := by
  obtain ⟨fuel, h⟩ := h
  obtain ⟨a0, len0, cap0, rfl⟩ := hv
  rcases Go.Deep.open_slice Tryz.underlying68 h with ⟨hc, _⟩ | ⟨a, len, cap, m, n, D, Pl, hc, hb, hl, hm, hmm, _, hx⟩
  · simp [Value.cells] at hc
    obtain ⟨rfl, rfl, rfl⟩ := hc
    exact ⟨none, [], 0, rfl, (fun i p h => by simp at h), Nat.zero_le _⟩
  · simp [Value.cells] at hc
    obtain ⟨rfl, rfl, rfl⟩ := hc
    simp only [if_true] at hmm
    have key : ∀ i, i < len0 → ∃ o : StepP × Option Addr × Nat, (∀ j u, ([.int .i64 o.1.what, .int .i64 o.1.n, .int .i64 o.1.torn, .slice o.2.1 o.1.ops.length o.2.2] : List Value)[j]? = some u → W.cell? (a.add (i * 4 + j)) = some u) ∧ opsAt W o.2.1 o.1.ops ∧ o.1.ops.length ≤ maxLen := by
      intro i hi
      obtain ⟨cs', h1, h2⟩ := hx i (by omega)
      rw [cellsStep] at h1
      obtain ⟨_, hlen, hcell⟩ := World.cells?_some h1
      obtain ⟨s, oo, oc, ho, h3, h4⟩ := step_trod h2
      refine ⟨⟨s, oo, oc⟩, fun j u hj => ?_, h3, h4⟩
      have hj4 : j < 4 := (List.getElem?_eq_some_iff.1 hj).1
      have c := hcell j (by omega)
      rw [add_add] at c
      rw [ho] at c
      exact c.trans hj
    haveI : Inhabited (StepP × Option Addr × Nat) := ⟨⟨⟨0, 0, 0, []⟩, none, 0⟩⟩
    obtain ⟨q, hq⟩ := choose_lt key
    refine ⟨some a, (List.range len0).map fun i => (q i).1, cap0, by simp, ?_, by simp; omega⟩
    intro i o ho
    simp only [List.getElem?_map, Option.map_eq_some_iff] at ho
    obtain ⟨i', hi', rfl⟩ := ho
    obtain ⟨hlt, rfl⟩ := List.getElem?_eq_some_iff.1 hi'
    simp only [List.length_range] at hlt
    simp only [List.getElem_range] at *
    have z0 := (hq 0 (by omega)).1 0 _ rfl
    have hs := World.cell?_spot z0
    obtain ⟨b, f, sp⟩ := a
    have hsp : sp = none := by simpa [Addr.add] using hs
    subst hsp
    have ha : ∀ k, (⟨b, f, none⟩ : Addr).add k = ⟨b, f + k, none⟩ := fun k => by unfold Addr.add; split <;> simp_all
    obtain ⟨hc, ho, hm⟩ := hq i hlt
    have hc' : ∀ j u, ([.int .i64 (q i).1.what, .int .i64 (q i).1.n, .int .i64 (q i).1.torn, .slice (q i).2.1 (q i).1.ops.length (q i).2.2] : List Value)[j]? = some u → W.cell? ⟨b, f + i * 4 + j, none⟩ = some u := fun j u hj => by
      have := hc j u hj
      rw [ha, ← Nat.add_assoc] at this
      exact this
    exact ⟨b, f, rfl, (q i).2.1, (q i).2.2, hc' 0 _ rfl, hc' 1 _ rfl, hc' 2 _ rfl, hc' 3 _ rfl, ho, hm⟩
set_option maxRecDepth 100000 in
theorem open_asks {H : Type} {enc : TypeId × Value → H} {W : World} {v : Value} {d : DataW H} {p : List MemPlace} (hv : ∃ a len cap, v = .slice a len cap)
    (h : DataW.Trod enc Tryz.prog W 0 (fun _ => true) true 69 v d p) : ∃ ao l cap, v = .slice ao l.length cap ∧ asksAt W ao l ∧ (∀ x ∈ l, x.key.word.size ≤ maxLen) ∧ l.length ≤ maxLen := by
  obtain ⟨fuel, h⟩ := h
  obtain ⟨a0, len0, cap0, rfl⟩ := hv
  rcases Go.Deep.open_slice Tryz.underlying69 h with ⟨hc, _⟩ | ⟨a, len, cap, m, n, D, Pl, hc, hb, hl, hm, hmm, _, hx⟩
  · simp [Value.cells] at hc
    obtain ⟨rfl, rfl, rfl⟩ := hc
    exact ⟨none, [], 0, rfl, (fun i p h => by simp at h), (fun x h => by cases h), Nat.zero_le _⟩
  · simp [Value.cells] at hc
    obtain ⟨rfl, rfl, rfl⟩ := hc
    simp only [if_true] at hmm
    have key : ∀ i, i < len0 → ∃ o : AskP, (∀ j u, (askCells o)[j]? = some u → W.cell? (a.add (i * 9 + j)) = some u) ∧ o.key.word.size ≤ maxLen := by
      intro i hi
      obtain ⟨cs', h1, h2⟩ := hx i (by omega)
      rw [cellsAsk] at h1
      obtain ⟨_, hlen, hcell⟩ := World.cells?_some h1
      obtain ⟨o, ho, hk⟩ := ask_trod h2
      refine ⟨o, fun j u hj => ?_, hk⟩
      have hj9 : j < 9 := (List.getElem?_eq_some_iff.1 hj).1
      have c := hcell j (by omega)
      rw [add_add] at c
      rw [ho, hj] at c
      exact c
    haveI : Inhabited AskP := ⟨⟨⟨0, 0, ⟨#[]⟩, 0⟩, 0, 0, 0, 0, 0⟩⟩
    obtain ⟨q, hq⟩ := choose_lt key
    refine ⟨some a, (List.range len0).map q, cap0, by simp, ?_, ?_, by simp; omega⟩
    · intro i o ho
      simp only [List.getElem?_map, Option.map_eq_some_iff] at ho
      obtain ⟨i', hi', rfl⟩ := ho
      obtain ⟨hlt, rfl⟩ := List.getElem?_eq_some_iff.1 hi'
      simp only [List.length_range] at hlt
      simp only [List.getElem_range] at *
      have z0 := (hq 0 (by omega)).1 0 _ rfl
      have hs := World.cell?_spot z0
      obtain ⟨b, f, sp⟩ := a
      have hsp : sp = none := by simpa [Addr.add] using hs
      subst hsp
      have ha : ∀ k, (⟨b, f, none⟩ : Addr).add k = ⟨b, f + k, none⟩ := fun k => by unfold Addr.add; split <;> simp_all
      refine ⟨b, f, rfl, fun j u hj => ?_⟩
      have := (hq i hlt).1 j u hj
      rw [ha, ← Nat.add_assoc] at this
      exact this
    · intro x hx
      obtain ⟨i, hi, rfl⟩ := List.mem_map.1 hx
      exact (hq i (List.mem_range.1 hi)).2
end Go.Proofs.YtacedfcckkpciaaGreatDoor

namespace Go.Proofs.YtacedfcckkpciaaGreatDoor
open Go.RowKit Go.Deep Go.Shelf Go.Sort Go.Maps

theorem is_same (v : Value) (n p : Int) (w : World) (hg : ErrVar w) (h : ErrIs w v n p) : Calls Tryz.prog 22 #[v, .agg #[.int .i64 n, .int .i64 p]] w fun e w' => e = .returned (.bool true) ∧ Below w.heap.size w w' := by
  have := is_any v n p n p w hg h
  rw [show (n == n && p == p) = true by simp] at this
  exact this
theorem asks_in {w X : World} {q : List AskP} {ai : Option Addr} (h : asksAt w ai q) {r : Nat} {y : AskP} (hy : q[r]? = some y) (hB : Below w.heap.size w X) : ∃ b f, ai = some ⟨b, f, none⟩ ∧ b < X.heap.size ∧ X.cell? ⟨b, f + r * 9, none⟩ = some (.int .i64 y.key.kind) ∧ X.cell? ⟨b, f + r * 9 + 1, none⟩ = some (.int .i64 y.key.a) ∧ X.cell? ⟨b, f + r * 9 + 2, none⟩ = some (.string y.key.word) ∧ X.cell? ⟨b, f + r * 9 + 3, none⟩ = some (.int .i64 y.key.b) ∧ X.cell? ⟨b, f + r * 9 + 4, none⟩ = some (.int .i64 y.a) ∧ X.cell? ⟨b, f + r * 9 + 5, none⟩ = some (.int .i64 y.b) ∧ X.cell? ⟨b, f + r * 9 + 6, none⟩ = some (.int .i64 y.t) ∧ X.cell? ⟨b, f + r * 9 + 7, none⟩ = some (.int .i64 y.f) ∧ X.cell? ⟨b, f + r * 9 + 8, none⟩ = some (.int .i64 y.u) := by
  obtain ⟨b, f, e, hc⟩ := h r y hy
  have hb := World.block_lt_of_cell? w _ (hc 0 _ rfl)
  exact ⟨b, f, e, Nat.lt_of_lt_of_le hb hB.size, below_cell hB hb (hc 0 _ rfl), below_cell hB hb (hc 1 _ rfl), below_cell hB hb (hc 2 _ rfl), below_cell hB hb (hc 3 _ rfl), below_cell hB hb (hc 4 _ rfl), below_cell hB hb (hc 5 _ rfl), below_cell hB hb (hc 6 _ rfl), below_cell hB hb (hc 7 _ rfl), below_cell hB hb (hc 8 _ rfl)⟩
def oneOp : OpP := ⟨⟨1, 7, ⟨#[]⟩, 0⟩, 1, 2, ⟨#[120]⟩⟩
set_option maxRecDepth 100000 in
set_option maxHeartbeats 16000000 in
theorem pastPlays_walk (l : List StepP) (q : List AskP) (many : Int) (ao ai : Option Addr) (cap capi : Nat) (w : World) (hl : stepsAt w ao l) (hlm : l.length ≤ maxLen) (hq : asksAt w ai q) (hqm : q.length ≤ maxLen) (hqk : ∀ x ∈ q, x.key.word.size ≤ maxLen) (hm : i64B many) (hg : PowTab w) (hv : ErrVar w) :
    Calls Tryz.prog 5 #[.slice ao l.length cap, .slice ai q.length capi, .int .i64 many] w fun e w' => e = .returned (.bool true) ∧ Below w.heap.size w w' := by
  unfold maxLen at hlm hqm
  have HL := Lib.hid hl
  have HQ := Lib.hid hq
  have HQK := Lib.hid hqk
  have HG := Lib.hid hg
  have HV := Lib.hid hv
  clear hl hq hqk hg hv
  by_cases h25 : l.length ≤ 25 ∧ q.length ≤ 15
  · obtain ⟨h25, h15⟩ := h25
    have h25z : ¬ (l.length : Int) > 25 := by omega
    have h15z : ¬ (q.length : Int) > 15 := by omega
    obtain ⟨Z, hZ⟩ : ∃ Z, Z = ((w.alloc (.cells #[.int .i64 0, .int .i64 0, .int .i64 0, .map none, .map none] 27)).alloc (.cells #[.slice none 0 0, .int .i64 0] 72)).alloc (.cells #[.int .i64 1, .int .i64 7, .string ⟨#[]⟩, .int .i64 0, .int .i64 1, .int .i64 2, .string ⟨#[120]⟩] 46) := ⟨_, rfl⟩
    obtain ⟨pb, hpb⟩ : ∃ pb, pb = w.heap.size := ⟨_, rfl⟩
    obtain ⟨rb, hrb⟩ : ∃ rb, rb = w.heap.size + 1 := ⟨_, rfl⟩
    obtain ⟨ob, hob⟩ : ∃ ob, ob = w.heap.size + 1 + 1 := ⟨_, rfl⟩
    have hBZ : Below w.heap.size w Z := by rw [hZ]; exact (((Below.refl _ _).alloc (Nat.le_refl _) _).alloc (by simp) _).alloc (by simp; omega) _
    have hszZ : Z.heap.size = w.heap.size + 3 := by rw [hZ]; simp
    have hPZ : PZ w Z pb rb := ⟨hBZ, by omega, by omega, by omega, HV.out, HG.out⟩
    have hblP : Z.heap[pb]? = some (.cells #[.int .i64 0, .int .i64 0, .int .i64 0, .map none, .map none] 27 (0, 0)) := by rw [hZ, hpb]; exact block_alloc (block_alloc (block_alloc_new _ _) _) _
    have hblR : Z.heap[rb]? = some (.cells #[.slice none 0 0, .int .i64 0] 72 (0, 0)) := by rw [hZ, hrb]; exact block_alloc (new_blk _ _ _ _ (by simp)) _
    have hblO : Z.heap[ob]? = some (.cells #[.int .i64 1, .int .i64 7, .string ⟨#[]⟩, .int .i64 0, .int .i64 1, .int .i64 2, .string ⟨#[120]⟩] 46 (0, 0)) := by rw [hZ, hob]; exact new_blk _ _ _ _ (by simp)
    have hone : opsAt Z (some ⟨ob, 0, none⟩) [oneOp] := fun i o hi => by
      match i, hi with
      | 0, hi =>
        simp at hi; subst hi
        exact ⟨ob, 0, rfl, fun j u hj => by rw [show 0 + 0 * 7 + j = j by omega, block_cell hblO j]; simpa [opCells, oneOp] using hj⟩
    have hpp : PP w Z pb rb ⟨[], [], 27⟩ [] ⟨0, 0, 0, []⟩ noGh 0 Z := by
      refine ⟨hPZ, past_is_new rfl hblP, ⟨⟨none, 0, hblR, ⟨Nat.le_refl _, Nat.zero_le _, fun _ => rfl⟩, fun i t h => by simp at h⟩, fun h => ?_, (fun t h => by cases h), by decide⟩, rfl, Fr.refl _ _, fun k h => .inl (foot_new h)⟩
      have := foot_new h
      omega
    have hsep1 : [oneOp] ≠ [] → ∀ b f, (some ⟨ob, 0, none⟩ : Option Addr) = some ⟨b, f, none⟩ → b < Z.heap.size ∧ b ≠ pb ∧ b ≠ rb := fun _ b f e => by
      cases e
      exact ⟨by omega, by omega, by omega⟩
    have hs1 : ∀ o ∈ [oneOp], o.key.word.size ≤ 100000 ∧ o.value.size ≤ 100000 := fun o ho => by
      simp at ho; subst ho; exact ⟨by decide, by decide⟩
    obtain ⟨l1, hl1, hlen1⟩ : ∃ l1, l1 = [oneOp] ∧ l1.length = 1 := ⟨_, rfl, rfl⟩
    rw [← hl1] at hone hsep1 hs1
    clear hl1
    obtain ⟨C, hCz, hC0, hC1⟩ : ∃ C : Int, wrap64 ((IntKind.u64.wrap many).tmod 151) = C ∧ 0 ≤ C ∧ C < 151 := ⟨pickI many 151, rfl, (pickI_lt many 151 (by decide) (by decide)).1, (pickI_lt many 151 (by decide) (by decide)).2⟩
    have HZ := Lib.hid hZ
    have HPB := Lib.hid hpb
    have HRB := Lib.hid hrb
    have HOB := Lib.hid hob
    have HPP := Lib.hid hpp
    have HONE := Lib.hid hone
    have HSZ := Lib.hid hszZ
    have HBZ := Lib.hid hBZ
    have HS1 := Lib.hid hsep1
    have HS2 := Lib.hid hs1
    clear hZ hpb hrb hob hpp hone hszZ hBZ hsep1 hs1 hblP hblR hblO hPZ
    go_enter Tryz.func5, Tryz.ntmps5
    go_wp2_with fail
    rw [← HZ.out, ← HOB.out, ← HRB.out, ← HPB.out]
    go_loopw [10] (fun vi X => ∃ (i : Nat) (hist : List (List OpP)) (s : Pst) (g : Gh), vi = .int .i64 i ∧ i ≤ 151 ∧ PP w Z pb rb ⟨[], [], 27⟩ hist s g 0 X) (fun vi _ => 151 - (intOf vi).toNat)
    case atStart => exact ⟨0, _, _, _, rfl, by omega, HPP.out⟩
    case round =>
      obtain ⟨i, hist, s, g, rfl, hi, hq⟩ := hrel
      have HQ1 := Lib.hid hq
      clear hq
      by_cases hlt : (i : Int) < C
      · obtain ⟨ho1, ho2⟩ := HQ1.out.ops HONE.out HS1.out
        have hca := pcommit_same (some ⟨ob, 0, none⟩) 1 l1 wr HQ1.out.tp ho1 (by rw [hlen1]; decide) ho2 HQ1.out.pow HS2.out
        rw [hlen1] at hca
        have CB := Lib.hid fun (X : World) (hist' : List (List OpP)) (s' : Pst) (g' : Gh) (h : PH w Z pb rb ⟨[], [], 27⟩ hist hist' s' g' 0 0 X) => rpcommit_same (some ⟨ob, 0, none⟩) 1 l1 X h.r (h.ops HONE.out HS1.out) h.pow HS2.out h.footlt
        rw [hlen1] at CB
        obtain ⟨n1, hn1⟩ : ∃ n, n = (comR hist.length l1).1 := ⟨_, rfl⟩
        obtain ⟨n2, hn2⟩ : ∃ n, n = (comR hist.length l1).2 := ⟨_, rfl⟩
        rw [← hn1, ← hn2] at hca CB
        have HCA := Lib.hid hca
        clear ho1 ho2 hca hn1 hn2
        go_wp2_with (first
          | (go_at_call 11; (with_reducible refine HCA.out.mono ?_); rintro e x1 ⟨v, s', g', rfl, hv, hp, hk, hf, hG⟩; have HH := Lib.hid (HQ1.out.half hp hk hf hG); have HV1 := Lib.hid hv; clear hv hp hk hf hG)
          | (go_at_call 23; (with_reducible refine (CB.out x1 _ s' g' HH.out).mono ?_); rintro e x2 ⟨rfl, hr, hf⟩; have HP2 := Lib.hid (HH.out.full hr hf); have HV2 := Lib.hid (errIs_rb HV1.out HH.out.r hf); clear hr hf)
          | (go_at_call 22; (with_reducible refine (is_same v n1 n2 x2 HP2.out.tp.e HV2.out).mono ?_); rintro e x3 ⟨rfl, b3⟩; have HP3 := Lib.hid (HP2.out.below b3); clear b3))
        exact ⟨⟨i + 1, _, _, _, by go_num, by omega, HP3.out⟩, by simp [intOf]; omega⟩
      · go_wp2_with fail
        go_loopw [11] (fun vi X => ∃ (i : Nat) (hist : List (List OpP)) (s : Pst) (g : Gh) (known : Int), i ≤ l.length ∧ vi = .int .i64 i ∧ PP w Z pb rb ⟨[], [], 27⟩ hist s g known X) (fun vi _ => l.length - (intOf vi).toNat)
        case atStart => exact ⟨0, _, _, _, _, Nat.zero_le _, rfl, HQ1.out⟩
        case round =>
          clear HQ1 hlt hi
          obtain ⟨i, hist, s, g, known, hi, rfl, hq⟩ := hrel
          have HQ1 := Lib.hid hq
          clear hq
          by_cases hlt : i < l.length
          · obtain ⟨x, hx⟩ : ∃ x, l[i]? = some x := ⟨_, List.getElem?_eq_getElem hlt⟩
            obtain ⟨b, f, rfl, oo, oc, d0, d1, d2, d3, ho, hom⟩ := HL.out i x hx
            obtain ⟨xw, xn, xt, xo⟩ := x
            simp only [] at d0 d1 d2 d3 ho hom
            have hbw := World.block_lt_of_cell? w _ d0
            have c0 := below_cell HQ1.out.be hbw d0
            have c1 := below_cell HQ1.out.be hbw d1
            have c2 := below_cell HQ1.out.be hbw d2
            have c3 := below_cell HQ1.out.be hbw d3
            have hbr := Nat.lt_of_lt_of_le hbw HQ1.out.be.size
            have hoZ : opsAt Z oo xo := ho.below HBZ.out
            have hsp : xo ≠ [] → ∀ b f, oo = some ⟨b, f, none⟩ → b < Z.heap.size ∧ b ≠ pb ∧ b ≠ rb := fun h0 b f e => by
              have := opsAt_lt ho h0 b f e
              have := HPB.out
              have := HRB.out
              have := HSZ.out
              omega
            obtain ⟨W4, hW4⟩ : ∃ W4, W4 = wr.alloc (.cells #[.int .i64 xw, .int .i64 xn, .int .i64 xt, .slice oo xo.length oc] 79) := ⟨_, rfl⟩
            obtain ⟨xk, hxk⟩ : ∃ xk, xk = wr.heap.size := ⟨_, rfl⟩
            have hB4 : Below wr.heap.size wr W4 := by rw [hW4]; exact (Below.refl _ _).alloc (Nat.le_refl _) _
            have hxb : W4.heap[xk]? = some (.cells #[.int .i64 xw, .int .i64 xn, .int .i64 xt, .slice oo xo.length oc] 79 (0, 0)) := by rw [hW4, hxk]; exact block_alloc_new _ _
            have e0 : W4.cell? ⟨xk, 0, none⟩ = some (.int .i64 xw) := block_cell hxb 0
            have e1 : W4.cell? ⟨xk, 1, none⟩ = some (.int .i64 xn) := block_cell hxb 1
            have e3 : W4.cell? ⟨xk, 3, none⟩ = some (.slice oo xo.length oc) := block_cell hxb 3
            have hxl : xk < W4.heap.size := lt_of_block hxb
            have hQ4 := HQ1.out.below hB4
            obtain ⟨ho1, ho2⟩ := hQ4.ops hoZ hsp
            have hnf : ∀ k, g.foot pb k → k ≠ xk := fun k hk e => by have := HQ1.out.p.at'.lt k hk; omega
            have hxr : xk ≠ rb := by have := HQ1.out.r.lt; omega
            have hsh := short_any oo oc xo W4 ho1 hom
            have i0 : (0 : Int) ≤ (i : Int) := by omega
            have i1 : (i : Int) < (l.length : Int) := by omega
            have HW4 := Lib.hid hW4
            have HXK := Lib.hid hxk
            have HQ4 := Lib.hid hQ4
            have HO1 := Lib.hid ho1
            have HO2 := Lib.hid ho2
            have HOZ := Lib.hid hoZ
            have HSP := Lib.hid hsp
            have HNF := Lib.hid hnf
            clear hW4 hxk hB4 hxb hQ4 ho1 ho2 hoZ hsp hnf ho d0 d1 d2 d3 hx HQ1
            cases hshB : shortB xo with
            | false =>
              rw [hshB] at hsh
              have HSH := Lib.hid hsh
              clear hsh hshB
              go_wp2_with (first | (rw [← HW4.out, ← HXK.out]) | (go_at_call 24; (with_reducible refine HSH.out.mono ?_); rintro e w5 ⟨rfl, rfl⟩))
              exact ⟨⟨i + 1, hist, s, g, known, by omega, by go_num, HQ4.out⟩, by simp [intOf]; omega⟩
            | true =>
              rw [hshB] at hsh
              have hs2 : ∀ o ∈ xo, o.key.word.size ≤ 100000 ∧ o.value.size ≤ 100000 := fun o ho => by have := (shortB_spec hshB).2 o ho; omega
              have HSZ2 := Lib.hid hs2
              have HSH := Lib.hid hsh
              clear hsh hshB hs2
              go_upto_block 4 with (first | (rw [← HW4.out, ← HXK.out]) | (go_at_call 24; (with_reducible refine HSH.out.mono ?_); rintro e w5 ⟨rfl, rfl⟩))
              go_cut [] (fun X => ∃ (hist : List (List OpP)) (s : Pst) (g : Gh) (known : Int), PP w Z pb rb ⟨[], [], 27⟩ hist s g known X)
              case first =>
                by_cases hw0 : xw = 0
                · subst hw0
                  obtain ⟨n1, hn1⟩ : ∃ n, n = (comR hist.length xo).1 := ⟨_, rfl⟩
                  obtain ⟨n2, hn2⟩ : ∃ n, n = (comR hist.length xo).2 := ⟨_, rfl⟩
                  have CA := Lib.hid fun (X : World) (hX : Below W4.heap.size W4 X) => pcommit_same oo oc xo X (HQ4.out.below hX).tp (HO1.out.below hX) hom HO2.out (HQ4.out.below hX).pow HSZ2.out
                  have CB := Lib.hid fun (X : World) (hist' : List (List OpP)) (s' : Pst) (g' : Gh) (h : PH w Z pb rb ⟨[], [], 27⟩ hist hist' s' g' known known X) => rpcommit_same oo oc xo X h.r (h.ops HOZ.out HSP.out) h.pow HSZ2.out h.footlt
                  rw [← hn1, ← hn2] at CA CB
                  clear hn1 hn2
                  go_wp2_with fail
                  go_region_held3 (fun X => X.cell? ⟨xk, 3, none⟩ = some (.slice oo xo.length oc))
                    (first | exact e3 | exact hS3 | exact hS2 | exact hS1)
                    (first
                      | (go_at_call 11; (with_reducible refine (CA.out _ (Below.refl _ _).drew).mono ?_); rintro e x1 ⟨v, s', g', rfl, hv, hp, hk, hf, hG⟩; have HH := Lib.hid ((HQ4.out.below (Below.refl _ _).drew).half hp hk hf hG); have HV1 := Lib.hid hv; have hS1 := (World.cell?_of_block (a := ⟨xk, 3, none⟩) (hf.block xk hxl (fun h => HNF.out xk h rfl))).trans e3; have hx1 := Nat.lt_of_lt_of_le hxl hf.size; clear hv hp hk hf hG)
                      | (go_at_call 23; (with_reducible refine (CB.out x1 _ s' g' HH.out).mono ?_); rintro e x2 ⟨rfl, hr, hf⟩; have HP2 := Lib.hid (HH.out.full hr hf); have HV2 := Lib.hid (errIs_rb HV1.out HH.out.r hf); have hS2 := (World.cell?_of_block (a := ⟨xk, 3, none⟩) (hf.block xk hx1 hxr)).trans hS1; have hx2 := Nat.lt_of_lt_of_le hx1 hf.size; clear hr hf)
                      | (go_at_call 22; (with_reducible refine (is_same v n1 n2 x2 HP2.out.tp.e HV2.out).mono ?_); rintro e x3 ⟨rfl, b3⟩; have HP3 := Lib.hid (HP2.out.below b3); have hS3 := below_cell b3 hx2 hS2; clear b3))
                  go_wp2_with fail
                  go_meet
                  exact ⟨_, _, _, _, HP3.out⟩
                · by_cases hw1 : xw = 1
                  · subst hw1
                    obtain ⟨n1, hn1⟩ : ∃ n, n = forR hist.length known xn := ⟨_, rfl⟩
                    have CA := Lib.hid fun (X : World) (hX : Below W4.heap.size W4 X) => pforget_same xn X (HQ4.out.below hX).tp
                    have CB := Lib.hid fun (X : World) (s' : Pst) (g' : Gh) (h : PH w Z pb rb ⟨[], [], 27⟩ hist hist s' g' known (if n1 = 0 then xn else known) X) => rpforget_any xn X h.r
                    rw [← hn1] at CA CB
                    clear hn1
                    go_wp2_with fail
                    go_region_held3 (fun X => X.cell? ⟨xk, 1, none⟩ = some (.int .i64 xn))
                      (first | exact e1 | exact hS3 | exact hS2 | exact hS1)
                      (first
                        | (go_at_call 19; (with_reducible refine (CA.out _ (Below.refl _ _).drew).mono ?_); rintro e x1 ⟨s', g', rfl, hp, hk, hf, hG⟩; have HH := Lib.hid ((HQ4.out.below (Below.refl _ _).drew).half hp hk hf hG); have hS1 := (World.cell?_of_block (a := ⟨xk, 1, none⟩) (hf.block xk hxl (fun h => HNF.out xk h rfl))).trans e1; have hx1 := Nat.lt_of_lt_of_le hxl hf.size; clear hp hk hf hG)
                        | (go_at_call 26; (with_reducible refine (CB.out x1 s' g' HH.out).mono ?_); rintro e x2 ⟨rfl, hr, hf⟩; have HP2 := Lib.hid (HH.out.full hr hf); have hS2 := (World.cell?_of_block (a := ⟨xk, 1, none⟩) (hf.block xk hx1 hxr)).trans hS1; have hx2 := Nat.lt_of_lt_of_le hx1 hf.size; clear hr hf)
                        | (go_at_call 25; (with_reducible refine (bare_same n1 x2 HP2.out.tp.e).mono ?_); rintro e x3 ⟨rfl, b3⟩; have HP3 := Lib.hid (HP2.out.below b3); have hS3 := below_cell b3 hx2 hS2; clear b3))
                    go_wp2_with fail
                    go_meet
                    exact ⟨_, _, _, _, HP3.out⟩
                  · go_wp2_with fail
                    go_meet
                    exact ⟨_, _, _, _, HQ4.out⟩
              case rest =>
                obtain ⟨hist, s, g, known, hq⟩ := hcut
                have HQ5 := Lib.hid hq
                clear hq HQ4 HO1 HO2 HOZ HSP HNF e0 e1 e3
                by_cases hq0 : q.length = 0
                · have hq0z : ¬ (q.length : Int) > 0 := by omega
                  go_wp2_with fail
                  exact ⟨⟨i + 1, hist, s, g, known, by omega, by go_num, HQ5.out⟩, by simp [intOf]; omega⟩
                · have hq0z : (q.length : Int) > 0 := by omega
                  obtain ⟨r, hr⟩ : ∃ r, r = i % q.length := ⟨_, rfl⟩
                  have hrl : r < q.length := by rw [hr]; exact Nat.mod_lt _ (by omega)
                  have hrz : (i : Int).tmod (q.length : Int) = (r : Int) := by rw [hr, Int.tmod_eq_emod_of_nonneg (by omega)]; exact (Int.natCast_emod _ _).symm
                  obtain ⟨y, hy⟩ : ∃ y, q[r]? = some y := ⟨_, List.getElem?_eq_getElem hrl⟩
                  obtain ⟨yb, yf, rfl, hyb, y0, y1, y2, y3, y4, y5, y6, y7, y8⟩ := asks_in HQ.out hy HQ5.out.be
                  have hT := tells_any y.key.kind y.key.a y.key.word y.key.b y.a y.b y.t y.f y.u _ HQ5.out.tp (HQK.out y (List.mem_of_getElem? hy))
                  obtain ⟨⟨zk, za, zw, zb⟩, ya, yb', yt, yf', yu⟩ := y
                  simp only [] at y0 y1 y2 y3 y4 y5 y6 y7 y8 hT
                  have r0 : (0 : Int) ≤ (r : Int) := by omega
                  have r1 : (r : Int) < (q.length : Int) := by omega
                  clear hr hy
                  go_wp2_with (go_at_call 27; (with_reducible refine hT.mono ?_); rintro e x4 ⟨rfl, b4⟩; have HQ6 := Lib.hid (HQ5.out.below b4); clear b4)
                  exact ⟨⟨i + 1, hist, s, g, known, by omega, by go_num, HQ6.out⟩, by simp [intOf]; omega⟩
          · obtain rfl : i = l.length := by omega
            go_wp2_with fail
            go_loopw [13] (fun vi X => ∃ j : Nat, j ≤ q.length ∧ vi = .int .i64 j ∧ PP w Z pb rb ⟨[], [], 27⟩ hist s g known X) (fun vi _ => q.length - (intOf vi).toNat)
            case atStart => exact ⟨0, Nat.zero_le _, rfl, HQ1.out⟩
            case round =>
              clear HQ1
              obtain ⟨r, hr, rfl, hq⟩ := hrel
              have HQ5 := Lib.hid hq
              clear hq
              by_cases hrl : r < q.length
              · obtain ⟨y, hy⟩ : ∃ y, q[r]? = some y := ⟨_, List.getElem?_eq_getElem hrl⟩
                obtain ⟨yb, yf, rfl, hyb, y0, y1, y2, y3, y4, y5, y6, y7, y8⟩ := asks_in HQ.out hy HQ5.out.be
                have hT := tells_any y.key.kind y.key.a y.key.word y.key.b y.a y.b y.t y.f y.u _ HQ5.out.tp (HQK.out y (List.mem_of_getElem? hy))
                obtain ⟨⟨zk, za, zw, zb⟩, ya, yb', yt, yf', yu⟩ := y
                simp only [] at y0 y1 y2 y3 y4 y5 y6 y7 y8 hT
                have r0 : (0 : Int) ≤ (r : Int) := by omega
                have r1 : (r : Int) < (q.length : Int) := by omega
                clear hy
                go_wp2_with (go_at_call 27; (with_reducible refine hT.mono ?_); rintro e x4 ⟨rfl, b4⟩; have HQ6 := Lib.hid (HQ5.out.below b4); clear b4)
                exact ⟨⟨r + 1, by omega, by go_num, HQ6.out⟩, by simp [intOf]; omega⟩
              · go_wp2_with fail
                go_ret
                exact ⟨rfl, HQ5.out.be⟩
  · by_cases h1 : l.length ≤ 25
    · have h25z : ¬ (l.length : Int) > 25 := by omega
      have h15z : (q.length : Int) > 15 := by omega
      go_enter Tryz.func5, Tryz.ntmps5
      go_wp2_with fail
      go_ret
      exact ⟨rfl, Below.refl _ _⟩
    · have h25z : (l.length : Int) > 25 := by omega
      go_enter Tryz.func5, Tryz.ntmps5
      go_wp2_with fail
      go_ret
      exact ⟨rfl, Below.refl _ _⟩
end Go.Proofs.YtacedfcckkpciaaGreatDoor

namespace Go.Proofs.YtacedfcckkpciaaGreatDoor
open Go Go.ChangeShapes Go.WideShapes Go.ChangeAt Go.RowKit Go.Joins

theorem wf_i64L {n : Int} (h : (Lit.int .i64 n).wf = true) : i64B n := by
  simp [Lit.wf, IntKind.min, IntKind.max, IntKind.bits, IntKind.signed] at h
  unfold i64B
  omega
theorem ownPl : ownKnob Tryz.prog.godebug = none := by kernel_rfl
theorem laidOutPl : laidOutB Tryz.prog = true := by kernel_rfl
theorem etPl : Tryz.prog.globalNamed "errors.errorType" = some 0 := by kernel_rfl
theorem rtPl : (Tryz.prog.cutTypes.find? (·.1 == "internal/reflectlite.rtype")).map (·.2) = some 200 := by kernel_rfl
theorem oneRowPl : ((List.range Tryz.prog.types.size).filter fun t => Tryz.prog.rowNamed t [101, 114, 114, 111, 114]) = [34] := by kernel_rfl

theorem errVar_of_laidPl {W : World} (h : laidMetH Tryz.prog Rows.pastPlaysRow.laid W) : ErrVar W := by
  have h' : laidMet Tryz.prog _ W ∧ handlesMet Tryz.prog [("errors.errorType", Rows.laid_errors_errorType)] W := h.filter fun x => x.1 == "errors.errorType"
  obtain ⟨name, u, ty, e1, e2, e3, e4, e5⟩ := h'.2 _ (List.mem_singleton.2 rfl)
  have en : name = [101, 114, 114, 111, 114] := (Option.some.inj e1).symm
  subst en
  obtain rfl := Option.some.inj (rtPl.symm.trans e2)
  have hm : ty ∈ (List.range Tryz.prog.types.size).filter fun t => Tryz.prog.rowNamed t [101, 114, 114, 111, 114] := List.mem_filter.2 ⟨List.mem_range.2 e3, e4⟩
  rw [oneRowPl] at hm
  obtain rfl := List.mem_singleton.1 hm
  have hh : typeHandle Tryz.prog 34 = .pointer (some ⟨7, 34, none⟩) := by kernel_rfl
  rw [hh] at e5
  have := World.var?_cell etPl e5 0
  unfold ErrVar
  simpa using this
theorem powTab_of_laidPl {W : World} (h : laidMetH Tryz.prog Rows.pastPlaysRow.laid W) : PowTab W := by
  have h' : laidMet Tryz.prog [("internal/strconv.uint64pow10", Rows.laid_internal_strconv_uint64pow10)] W := h.filter fun x => x.1 == "internal/strconv.uint64pow10"
  exact Lib.tabIs_of_head (g := 1) (t := 295) (e := 222) (n := 20) (rest := []) (by kernel_rfl) (by kernel_rfl) Tryz.underlying295 Tryz.underlying222 (by kernel_rfl) (by kernel_rfl) (by
    have e : (Rows.laid_internal_strconv_uint64pow10 : DataW Unit) = Lib.tabData .u64 Lib.pow10Tab := by kernel_rfl
    rw [← e]; exact h')

/-- A world that meets the condition: the handle, then the plain tables. -/
noncomputable def handleWorldPl (os : Os) : World :=
  let w0 := World.holding Tryz.prog os ⟨#[], #[], []⟩
  { w0 with heap := w0.heap.modify 0 fun
      | .cells _ t frozen => .cells #[.iface 200 (.agg #[.pointer (some ⟨7, 34, none⟩)])] t frozen
      | o => o }
noncomputable def laidWorldPl (os : Os) : World := (handleWorldPl os).layVars Tryz.prog (Rows.pastPlaysRow.laid.filter fun x => x.2.handleName?.isNone)
theorem laidWorldPl_met (os : Os) (args : Array Value) : laidMetH Tryz.prog Rows.pastPlaysRow.laid ((laidWorldPl os).forCall (fun _ _ => 0) ⟨#[], args, []⟩).memory := by
  have hd : laidMet Tryz.prog (Rows.pastPlaysRow.laid.filter fun x => x.2.handleName?.isNone) (laidWorldPl os) := by
    refine laidMet_layVars (w0 := handleWorldPl os) ((Rows.pastPlaysRow.laid.filter fun x => x.2.handleName?.isNone).map (·.1)) [] ?_ ?_ ?_ ?_
    · have e1 : ((Rows.pastPlaysRow.laid.filter fun x => x.2.handleName?.isNone).filter fun x => ((Rows.pastPlaysRow.laid.filter fun x => x.2.handleName?.isNone).map (·.1)).contains x.1) = (Rows.pastPlaysRow.laid.filter fun x => x.2.handleName?.isNone) := List.filter_eq_self.2 fun x hx => List.contains_iff_mem.2 (List.mem_map.2 ⟨x, hx, rfl⟩)
      rw [e1]; rfl
    · kernel_rfl
    · kernel_rfl
    · have e2 : ((Rows.pastPlaysRow.laid.filter fun x => x.2.handleName?.isNone).filter fun x => !((Rows.pastPlaysRow.laid.filter fun x => x.2.handleName?.isNone).map (·.1)).contains x.1) = [] := List.filter_eq_nil_iff.2 fun x hx => by rw [List.contains_iff_mem.2 (List.mem_map.2 ⟨x, hx, rfl⟩)]; simp
      rw [e2]; exact LaidIn.none
  exact laidMetH_of_parts (hd.of_heap (by simp [World.memory, World.forCall, Input.heap])) (by kernel_rfl)

set_option maxRecDepth 100000 in
theorem pastPlays_lifted (os : Os) (started : os.Started) (H : Type) (enc : TypeId × Value → H) :
    ReturnsInHanded {} Tryz.checked os 5 .any (fun w args => (Rows.pastPlaysSpec.pre enc Tryz.prog Tryz.f5 [] false w args ∧ laidMetH Tryz.prog Rows.pastPlaysRow.laid w) ∧ sizedMet enc Tryz.prog Tryz.f5 (OpenSpec.ofChange Rows.pastPlaysSpec) false w args)
      (Rows.pastPlaysSpec.post enc Tryz.prog Tryz.f5 false true false false) := by
  refine returnsInHanded_of_change_and (C := Tryz.checked) (X := fun w _ => laidMetH Tryz.prog Rows.pastPlaysRow.laid w) (fun _ _ _ hh h => h.of_heap hh) ownPl started (by kernel_rfl) Tryz.func5
    (ChangeSpec.witness_at (enc := enc) (C := Tryz.checked) (os := os) (X := fun w _ => laidMetH Tryz.prog Rows.pastPlaysRow.laid w) false (laidWorldPl os) #[.slice none 0 0, .slice none 0 0, .int .i64 0] 8 rfl (by kernel_rfl) (by kernel_rfl) (by kernel_rfl) (by kernel_rfl) (by kernel_rfl) (laidWorldPl_met os _)) ?_
  intro W base args ds gs before hval0 hW _ _ hL _
  have hval : ∀ (j : Nat) t v, Tryz.f5.params[j]? = some t → args[j]? = some v → Value.okWide Tryz.prog W .any base t v := hval0
  have hW' := hW
  obtain ⟨p, q, hA0, hV, rfl, _, _⟩ := hW
  have hA : DataW.TrodAll enc Tryz.prog W 0 (fun _ => true) true Tryz.f5.params.toList args.toList ds p := hA0
  rw [Tryz.params5] at hA hval
  obtain ⟨v0, v1, v2, d0, d1, d2, p0, p1, p2, rfl, rfl, rfl, h0, h1, h2⟩ := trodAll_three hA
  obtain ⟨rfl, rfl⟩ := trodVars_none hV
  have h0k := h0
  have h1k := h1
  have h2k := h2
  obtain ⟨a0, l0, c0, rfl, s0, m0⟩ := open_steps (okWide_slice Tryz.underlying68 (hval 0 68 v0 rfl rfl)) h0
  obtain ⟨a1, l1, c1, rfl, s1, k1, m1⟩ := open_asks (okWide_slice Tryz.underlying69 (hval 1 69 v1 rfl rfl)) h1
  obtain ⟨x, rfl, hx2, hx3, wx⟩ := open_int Tryz.underlying3 (hval 2 3 v2 rfl rfl) h2
  have hlt : ∀ x ∈ p0 ++ p1 ++ p2, x.block < W.heap.size := fun x hx => by have := hW'.lt x (by simpa using hx); simpa using this
  clear hA0 hval0 h0 h1 h2
  simp only [List.append_nil] at hW'
  refine (pastPlays_walk l0 l1 x a0 a1 c0 c1 W s0 m0 s1 m1 k1 (wf_i64L wx) (powTab_of_laidPl hL) (errVar_of_laidPl hL)).mono fun e W' ⟨he, hb⟩ => ?_
  subst he
  have t0 := Below.trod laidOutPl (by kernel_rfl) (of_decide_eq_true (by kernel_rfl)) h0k hb (fun x hx => hlt x (by simp [hx]))
  have t1 := Below.trod laidOutPl (by kernel_rfl) (of_decide_eq_true (by kernel_rfl)) h1k hb (fun x hx => hlt x (by simp [hx]))
  have t2 := Below.trod laidOutPl (by kernel_rfl) (of_decide_eq_true (by kernel_rfl)) h2k hb (fun x hx => hlt x (by simp [hx]))
  exact ⟨_, rfl, _, _, _, [], _, [], hW', trodAll_mk1 (shut_bool Tryz.underlying4 _), trodAll_mk3 t0 t1 t2, rfl, hb.frame _, fun h => by cases h⟩

theorem pastPlays_row : Rows.PastPlaysSaid :=
  OpenClaim.holds_of_wide 5 Tryz.f5 rfl rfl rfl rfl rfl rfl rfl ⟨rfl, rfl, rfl, rfl, rfl⟩ rfl rfl rfl rfl rfl (by kernel_rfl) Tryz.func5 (by kernel_rfl)
    (of_decide_eq_true (by kernel_rfl)) (by unfold Func.isWrapper; first | (rw [if_pos (by decide +kernel)]; kernel_rfl) | (rw [if_neg (by decide +kernel)]; exact ⟨rfl, rfl⟩))
    (fun os started H enc _ => pastPlays_lifted os started H enc)

theorem pastPlays_holds : Rows.PastPlaysCardSaid :=
  Claim7.holds_tied_plain_at .later [] [.data, .data, .data, .data, .handle, .pinned] true (true, "9edad2126b3e84dfafb1e16180421f2ff1676d7957f7175d5bae2cab91916939") true
    pastPlays_row (fun _ h => by cases h) (by kernel_rfl) (fun _ h => by cases h) pastPlays_row_tie rfl ⟨rfl, rfl⟩ (by kernel_rfl) rfl
    (fun f fn hf hfn => by
      obtain rfl : f = 5 := Option.some.inj ((show Tryz.prog.funcNamed "palimpsest/palimpsestlaw.PastPlays" = some 5 by kernel_rfl).symm.trans hf) |>.symm
      obtain rfl : fn = Tryz.f5 := (Option.some.inj (Tryz.func5.symm.trans hfn)).symm
      exact ⟨by kernel_rfl, fun j t ht => by
        rw [Tryz.params5] at ht
        rcases j with _ | _ | _ | j
        · have : t = 68 := by simpa using ht.symm
          subst this
          exact (show Tryz.prog.wantsStandIn 68 = false by kernel_rfl)
        · have : t = 69 := by simpa using ht.symm
          subst this
          exact (show Tryz.prog.wantsStandIn 69 = false by kernel_rfl)
        · have : t = 3 := by simpa using ht.symm
          subst this
          exact (show Tryz.prog.wantsStandIn 3 = false by kernel_rfl)
        · simp at ht⟩)
    (by kernel_rfl)
#print axioms pastPlays_holds
end Go.Proofs.YtacedfcckkpciaaGreatDoor
