/- BaseCrashes is proved: whatever slice of Says, whatever two slices of numbers and whatever number come in, the call returns true, and each argument reads afterwards as it read before; the package-level variables that the row lists are tied to the program's text by the card. There are no other conditions. -/
import Derived.Deep.DeepCutAuto
import Derived.Deep.RegionHeld3
import Derived.Carry
import Derived.SevenTiedAt
import Derived.ChangeSame
import Derived.ChangeVars
import Derived.ChangeMaps5
import Derived.JoinedOf
import Derived.HandedShaped
import Derived.Shelf.Vars
import Derived.RowKit
import Derived.RowKitTokens
import Derived.LaidLaws
import Derived.LaidHandle
import Derived.LaidSub
import Derived.Lay
import Derived.Stop.Joined
import Derived.Test.YtflhpmgjehjjkaaGreatDoorPsDJq
import Derived.Test.YtflhpmgjehjjkaaGreatDoorBpAJq
import Derived.Test.YtflhpmgjehjjkaaGreatDoorPsEJq
import Derived.Test.YtflhpmgjehjjkaaGreatDoorPpAJq
import Derived.Test.YtflhpmgjehjjkaaGreatDoorPickJq
import Derived.Test.YtflhpmgjehjjkaaGreatDoorPcEqJq
import Derived.Test.YtflhpmgjehjjkaaGreatDoorBcJJq
import Derived.Test.YtflhpmgjehjjkaaGreatDoorBcLJq
import Derived.Test.YtflhpmgjehjjkaaGreatDoorSayOJq
import Derived.Test.YtflhpmgjehjjkaaGreatDoorTreeXJq
import Derived.Test.YtflhpmgjehjjkaaGreatDoorTie
import Derived.Test.YtflhpmgjehjjkaaGreatDoorCards
namespace Go.Proofs.YtflhpmgjehjjkaaGreatDoor
open Go.RowKit Go.Deep Go.Shelf Go.Sort Go.Maps

def keyBlk (k : KeyP) : Obj := .cells #[.int .i64 k.kind, .int .i64 k.a, .string k.word, .int .i64 k.b] 44 (0, 0)
/-- Where blocks may lie that are turned: older than the transactions, or newer. -/
def Out (w Z : World) (zo k : Nat) : Prop := (w.heap.size ≤ k ∧ k < zo) ∨ Z.heap.size ≤ k
/-- The places. -/
structure CZ (w Z X : World) (zo db pb kb : Nat) : Prop where
  z : Below w.heap.size w Z
  zz : zo ≤ Z.heap.size
  d : w.heap.size ≤ db ∧ db < zo
  p : w.heap.size ≤ pb ∧ pb < zo
  k : w.heap.size ≤ kb ∧ kb < zo
  fr : Fr (fun k => w.heap.size ≤ k ∧ k < zo) Z X
  ev : ErrVar w
  pt : PowTab w
  nv : NumVars w
/-- The base, the past, the key. -/
structure CJ (w Z : World) (zo db pb kb : Nat) (K : KeyP) (bb : Nat) (cut : Bool) (left : Int) (down : Bool) (log : List Ent) (hb hp : List (List OpP)) (D : List ByteArray) (s : Pst) (g : Gh) (s2 : Pst) (g2 : Gh) (X : World) : Prop where
  cz : CZ w Z X zo db pb kb
  key : X.heap[kb]? = some (keyBlk K)
  bi : BI X bb db D cut left log down hb 0 s g
  bo : ∀ k, g.foot bb k → Out w Z zo k ∧ k ≠ kb
  pi : PastIs X pb 0 ⟨[], [], 27⟩ hp s2 g2
  pk : s2.gone = 0
  po : ∀ k, g2.foot pb k → Out w Z zo k ∧ k ≠ kb ∧ ¬ FBD g bb db k
  kd : kb ≠ db
def CI (w Z : World) (zo db pb kb : Nat) (K : KeyP) (bb : Nat) (cut : Bool) (left : Int) (down : Bool) (log : List Ent) (hb hp : List (List OpP)) (X : World) : Prop := ∃ D s g s2 g2, CJ w Z zo db pb kb K bb cut left down log hb hp D s g s2 g2 X
section
variable {w Z X Y : World} {zo db pb kb : Nat} {K : KeyP} {bb : Nat} {cut : Bool} {left : Int} {down : Bool} {log : List Ent} {hb hp : List (List OpP)}
theorem CZ.turn (h : CZ w Z X zo db pb kb) {F : Nat → Prop} (hf : Fr F X Y) (hF : ∀ k, F k → Out w Z zo k) : CZ w Z Y zo db pb kb :=
  ⟨h.z, h.zz, h.d, h.p, h.k, h.fr.next hf (fun k hk e => by
    rcases hF k e with e | e
    · exact e
    · omega), h.ev, h.pt, h.nv⟩
theorem CZ.be (h : CZ w Z X zo db pb kb) : Below w.heap.size w X := h.z.trans (h.fr.below (fun _ _ e => e.1) h.z.size)
theorem CZ.pow (h : CZ w Z X zo db pb kb) : PowTab X := h.pt.below h.be
theorem CZ.num (h : CZ w Z X zo db pb kb) : NumVars X := h.nv.below h.be
theorem CZ.err (h : CZ w Z X zo db pb kb) : ErrVar X := h.ev.below h.be
theorem CZ.below (h : CZ w Z X zo db pb kb) (hb : Below X.heap.size X Y) : CZ w Z Y zo db pb kb := h.turn (F := fun _ => False) (Fr.new hb) (fun _ e => e.elim)
/-- Transactions: as they were made. -/
theorem CZ.ops (h : CZ w Z X zo db pb kb) {b : Nat} (hb : zo ≤ b ∧ b < Z.heap.size) {t : List OpP} (ht : opsAt Z (some ⟨b, 0, none⟩) t) : opsAt X (some ⟨b, 0, none⟩) t :=
  opsAt_fr ht h.fr fun b' f e hk => by cases e; omega
theorem out_not {b : Nat} (hb : zo ≤ b ∧ b < Z.heap.size) : ¬ Out w Z zo b := fun h => by unfold Out at h; omega
theorem CJ.below {D : List ByteArray} {s s2 : Pst} {g g2 : Gh} (h : CJ w Z zo db pb kb K bb cut left down log hb hp D s g s2 g2 X) (hb' : Below X.heap.size X Y) : CJ w Z zo db pb kb K bb cut left down log hb hp D s g s2 g2 Y :=
  ⟨h.cz.below hb', (hb'.block _ (lt_of_block h.key)).trans h.key, h.bi.below hb', h.bo, h.pi.below hb', h.pk, h.po, h.kd⟩
theorem CI.below (h : CI w Z zo db pb kb K bb cut left down log hb hp X) (hb' : Below X.heap.size X Y) : CI w Z zo db pb kb K bb cut left down log hb hp Y := by
  obtain ⟨D, s, g, s2, g2, h⟩ := h
  exact ⟨D, s, g, s2, g2, h.below hb'⟩
theorem CI.cz (h : CI w Z zo db pb kb K bb cut left down log hb hp X) : CZ w Z X zo db pb kb := by
  obtain ⟨D, s, g, s2, g2, h⟩ := h; exact h.cz
section
variable {D : List ByteArray} {s s2 : Pst} {g g2 : Gh}
theorem CJ.outD (h : CJ w Z zo db pb kb K bb cut left down log hb hp D s g s2 g2 X) : Out w Z zo db := .inl h.cz.d
theorem CJ.outB (h : CJ w Z zo db pb kb K bb cut left down log hb hp D s g s2 g2 X) : ∀ k, FBD g bb db k → Out w Z zo k := fun k hk => by
  rcases hk with hk | hk
  · exact (h.bo k hk).1
  · rw [hk]; exact h.outD
/-- The base turned. -/
theorem CJ.turnB (h : CJ w Z zo db pb kb K bb cut left down log hb hp D s g s2 g2 X) {cut' : Bool} {left' : Int} {down' : Bool} {log' : List Ent} {hb' : List (List OpP)} (hn : BN X bb db cut left log hb 0 g cut' left' log' down' hb' 0 Y) : CI w Z zo db pb kb K bb cut' left' down' log' hb' hp Y := by
  obtain ⟨⟨D', s', g', n1, n2⟩, nf⟩ := hn
  have hkb : ¬ (g.foot bb kb ∨ kb = db) := fun hk => by
    rcases hk with hk | hk
    · exact (h.bo kb hk).2 rfl
    · exact h.kd hk
  have hkl := lt_of_block h.key
  have hXl := h.cz.fr.size
  refine ⟨D', s', g', s2, g2, h.cz.turn nf h.outB, nf.keeps h.key hkb, n1, fun k hk => ?_, h.pi.frame nf (fun k hk e => (h.po k hk).2.2 e), h.pk, fun k hk => ⟨(h.po k hk).1, (h.po k hk).2.1, fun e => ?_⟩, h.kd⟩
  · rcases n2 k hk with e | e
    · exact h.bo k e
    · exact ⟨.inr (by omega), by omega⟩
  · rcases e with e | e
    · rcases n2 k e with e' | e'
      · exact (h.po k hk).2.2 (.inl e')
      · have := h.pi.at'.lt k hk; omega
    · exact (h.po k hk).2.2 (.inr e)
/-- The past turned. -/
theorem CJ.turnP (h : CJ w Z zo db pb kb K bb cut left down log hb hp D s g s2 g2 X) {hp' : List (List OpP)} {s' : Pst} {g' : Gh} (hq : PastIs Y pb 0 ⟨[], [], 27⟩ hp' s' g') (hk : s'.gone = s2.gone) (hf : Fr (g2.foot pb) X Y) (hG : Grows g2 g' pb X) : CJ w Z zo db pb kb K bb cut left down log hb hp' D s g s' g' Y := by
  have hkl := lt_of_block h.key
  have hXl := h.cz.fr.size
  refine ⟨h.cz.turn hf (fun k hk => (h.po k hk).1), hf.keeps h.key (fun e => (h.po kb e).2.1 rfl), h.bi.frame hf (fun k hk e => (h.po k e).2.2 (.inl hk)) (fun e => (h.po db e).2.2 (.inr rfl)), h.bo, hq, hk.trans h.pk, fun k hk => ?_, h.kd⟩
  rcases hG k hk with e | e
  · exact h.po k e
  · refine ⟨.inr (by omega), by omega, fun e' => ?_⟩
    rcases e' with e' | e'
    · have := h.bi.p.at'.lt k e'; omega
    · have := h.bi.dk.lt; omega
/-- A transaction is committed to the base. -/
theorem ci_commit (c : Nat) (t : List OpP) (torn : Int) {b : Nat} (h : CJ w Z zo db pb kb K bb cut left false log hb hp D s g s2 g2 X) (hb' : zo ≤ b ∧ b < Z.heap.size) (ht : opsAt Z (some ⟨b, 0, none⟩) t) (hok : okL t = true) (hl : log.length < 150) (hti : i64 torn) :
    Calls Tryz.prog 36 #[.pointer (some ⟨bb, 0, none⟩), .slice (some ⟨b, 0, none⟩) t.length c, .int .i64 torn] X fun e w' =>
      (offB cut left = true → e = .returned (errV 14) ∧ CI w Z zo db pb kb K bb cut left true log hb hp w') ∧ (offB cut left = false → e = .returned .nilIface ∧ ∃ l2, CI w Z zo db pb kb K bb cut l2 false (log ++ [.tx t]) (hb ++ [t]) hp w') := by
  have hr : roomE false log.length = 0 := by unfold roomE; rw [if_neg (by decide), if_neg (by omega)]
  have hops := h.cz.ops hb' ht
  cases ho : offB cut left with
  | true =>
    refine (bcommit_off (some ⟨b, 0, none⟩) c t torn X h.bi hr hops h.cz.pow hok ho hti).mono ?_
    rintro e w' ⟨rfl, hn⟩
    exact ⟨fun _ => ⟨rfl, h.turnB hn⟩, (fun e => by cases e)⟩
  | false =>
    refine (bcommit_ok (some ⟨b, 0, none⟩) c t torn X h.bi hr hops (fun b' f e => ?_) h.cz.pow (fun Y hf => ?_) hok ho).mono ?_
    · cases e
      refine ⟨fun hk => out_not hb' (h.bo b hk).1, fun e => ?_⟩
      have := h.cz.d; omega
    · exact (h.cz.turn hf fun k hk => by
        rcases hk with hk | hk
        · rw [hk]; exact (h.bo bb (.inl rfl)).1
        · rw [hk]; exact h.outD).pow
    · rintro e w' ⟨rfl, l2, hn, _⟩
      exact ⟨(fun e => by cases e), fun _ => ⟨rfl, l2, h.turnB hn⟩⟩
/-- A transaction is committed to the past. -/
theorem ci_pcommit (c : Nat) (t : List OpP) {b : Nat} (h : CJ w Z zo db pb kb K bb cut left down log hb hp D s g s2 g2 X) (hb' : zo ≤ b ∧ b < Z.heap.size) (ht : opsAt Z (some ⟨b, 0, none⟩) t) (hok : okL t = true) (hl : hp.length < 150) :
    Calls Tryz.prog 9 #[.pointer (some ⟨pb, 0, none⟩), .slice (some ⟨b, 0, none⟩) t.length c] X fun e w' => e = .returned .nilIface ∧ CI w Z zo db pb kb K bb cut left down log hb (hp ++ [t]) w' := by
  refine (commit_is (some ⟨b, 0, none⟩) c t pb 0 _ hp s2 g2 X h.pi (h.cz.ops hb' ht) (fun b' f e hk => ?_) h.cz.pow hok hl).mono ?_
  · cases e
    exact out_not hb' (h.po b hk).1
  · rintro e w' ⟨s', g', rfl, hq, hk, hf, hG⟩
    exact ⟨rfl, D, s, g, s', g', h.turnP hq hk hf hG⟩
/-- The power. -/
theorem ci_cut (n : Int) (hn : i64 n) (h : CJ w Z zo db pb kb K bb cut left down log hb hp D s g s2 g2 X) :
    Calls Tryz.prog 35 #[.pointer (some ⟨db, 0, none⟩), .int .i64 n] X fun e w' => e = .returned (.tuple #[]) ∧ CI w Z zo db pb kb K bb (decide (0 ≤ n)) (imax n 0) down log hb hp w' := by
  refine (bcut_any n hn X h.bi.dk).mono ?_
  rintro e w' ⟨rfl, hd, hf⟩
  have hdl := h.bi.dk.lt
  refine ⟨rfl, h.turnB ⟨⟨D, s, g, ⟨h.bi.pl, h.bi.says, hd, h.bi.p.frame hf (fun k hk e => h.bi.nf (e ▸ hk)), h.bi.k, h.bi.nf, fun hc => ?_⟩, Grows.refl _ _ _⟩, hf.mono fun _ _ e => .inr e⟩⟩
  unfold i64 at hn
  unfold imax
  have := of_decide_eq_true hc
  omega
/-- The disk is opened anew: a base beside. -/
theorem ci_open (h : CJ w Z zo db pb kb K bb cut left down log hb hp D s g s2 g2 X) :
    Calls Tryz.prog 33 #[.pointer (some ⟨db, 0, none⟩)] X fun e w' => ∃ bb' s' g', e = .returned (.tuple #[.pointer (some ⟨bb', 0, none⟩), .nilIface]) ∧ CJ w Z zo db pb kb K bb' cut left false log hb hp D s' g' s2 g2 w' ∧ CJ w Z zo db pb kb K bb cut left down log hb hp D s g s2 g2 w' ∧ Below X.heap.size X w' := by
  refine (bopen_any X h.bi.dk h.bi.says h.bi.pl h.cz.pow h.cz.num).mono ?_
  rintro e w' ⟨bb', s', g', rfl, hp', hk, hnew, hbl⟩
  have hdl := h.bi.dk.lt
  have hkl := lt_of_block h.key
  have hXl := h.cz.fr.size
  have h' := h.below hbl
  refine ⟨bb', s', g', rfl, ⟨h'.cz, h'.key, ⟨h'.bi.pl, h'.bi.says, h'.bi.dk, hp', hk, fun e => ?_, h'.bi.lr⟩, fun k hk => ?_, h'.pi, h'.pk, fun k hk => ⟨(h.po k hk).1, (h.po k hk).2.1, fun e => ?_⟩, h.kd⟩, h', hbl⟩
  · have := hnew db e; omega
  · have := hnew k hk
    exact ⟨.inr (by omega), by omega⟩
  · rcases e with e | e
    · have h1 := hnew k e
      have h2 := h.pi.at'.lt k hk
      omega
    · exact (h.po k hk).2.2 (.inr e)
end
end
end Go.Proofs.YtflhpmgjehjjkaaGreatDoor

namespace Go.Proofs.YtflhpmgjehjjkaaGreatDoor
open Go.RowKit Go.Deep Go.Shelf Go.Sort Go.Maps

def kpOp : OpP := ⟨keyP 1, 0, 5, ⟨#[97]⟩⟩
theorem kp_key : keyP 1 = ⟨1, 1, ⟨#[]⟩, 0⟩ := by decide +kernel
theorem kp_ok : okL [kpOp] = true := by decide +kernel
theorem kp_said : saidH ([] ++ [[kpOp]]) (keyP 1) 1 3 = ⟨#[97]⟩ := by decide +kernel
theorem disk_zeroK : Tryz.zeroCells84 = (dcells (List.replicate 150 ⟨#[]⟩) false 0).toArray := by kernel_rfl
theorem kept_step {w Z w1 w2 W3 : World} {db bb lb : Nat} {s : Pst} {g : Gh} (hZ : Z = w.alloc (.cells Tryz.zeroCells84 84)) (hdb : db = w.heap.size) (hD : BD Z db (List.replicate 150 ⟨#[]⟩) false 0) (hp : PastIs w1 bb 1 (BR db ([] : List Ent).length false) [] s g) (hk : s.gone = (0 : Nat)) (hn : ∀ k, g.foot bb k → Z.heap.size ≤ k) (hb : Below Z.heap.size Z w1) (h2 : Below w1.heap.size w1 w2) (hlb : lb = w2.heap.size)
    (h3 : W3 = w2.alloc (.cells #[.int .i64 (keyP 1).kind, .int .i64 (keyP 1).a, .string (keyP 1).word, .int .i64 (keyP 1).b, .int .i64 0, .int .i64 5, .string ⟨#[97]⟩] 70)) (hg : PowTab w) :
    Calls Tryz.prog 36 #[.pointer (some ⟨bb, 0, none⟩), .slice (some ⟨lb, 0, none⟩) 1 1, .int .i64 (-1)] W3 fun e w' => e = .returned .nilIface ∧ (∃ D l2 s' g', BI w' bb db D false l2 [.tx [kpOp]] false [[kpOp]] 0 s' g') ∧ Below w.heap.size w w' := by
  have hzs : Z.heap.size = w.heap.size + 1 := by rw [hZ]; simp
  have hBZ : Below w.heap.size w Z := by rw [hZ]; exact (Below.refl _ _).alloc (Nat.le_refl _) _
  have hb3 : Below w2.heap.size w2 W3 := by rw [h3]; exact (Below.refl _ _).alloc (Nat.le_refl _) _
  have hs1 := hb.size
  have hs2 := h2.size
  have hb13 : Below w1.heap.size w1 W3 := h2.trans (hb3.mono hs2)
  have hbz3 : Below w.heap.size w W3 := (hBZ.trans (hb.mono (by omega))).trans (hb13.mono (by omega))
  have hbi : BI W3 bb db (List.replicate 150 ⟨#[]⟩) false 0 [] false [] 0 s g := ⟨rfl, Says.empty, (hD.below hb).below hb13, hp.below hb13, hk, (fun h => by have := hn db h; omega), (fun h => by cases h)⟩
  have hops : opsAt W3 (some ⟨lb, 0, none⟩) [kpOp] := by rw [h3, hlb]; exact opsAt_one w2 70 kpOp
  have hlt : ∀ k, g.foot bb k → k < w1.heap.size := fun k hk => hp.at'.lt k hk
  refine (bcommit_ok (some ⟨lb, 0, none⟩) 1 [kpOp] (-1) W3 hbi rfl hops (fun b f e => ?_) (hg.below hbz3) (fun X hf => ?_) kp_ok rfl).mono ?_
  · cases e
    exact ⟨fun hk => by have := hlt _ hk; omega, by omega⟩
  · refine hg.below (hbz3.trans (hf.below (fun k _ hk => ?_) hbz3.size))
    rcases hk with hk | hk
    · have := hn bb (.inl rfl); omega
    · omega
  · rintro e w' ⟨rfl, l2, hn', _⟩
    obtain ⟨D', s', g', h1, _⟩ := hn'.bi
    refine ⟨rfl, ⟨D', l2, s', g', h1⟩, hbz3.trans (hn'.fr.below (fun k _ hk => ?_) hbz3.size)⟩
    rcases hk with hk | hk
    · have := hn k hk; omega
    · omega
theorem kept_open {X Y : World} {bb db b5 : Nat} {D : List ByteArray} {l2 : Int} {s s5 : Pst} {g g5 : Gh} (h : BI X bb db D false l2 [.tx [kpOp]] false [[kpOp]] 0 s g) (hp : PastIs Y b5 1 (BR db ([.tx [kpOp]] : List Ent).length false) [[kpOp]] s5 g5) (hk : s5.gone = (0 : Nat)) (hn : ∀ k, g5.foot b5 k → X.heap.size ≤ k) (hb : Below X.heap.size X Y) : BI Y b5 db D false l2 [.tx [kpOp]] false [[kpOp]] 0 s5 g5 :=
  ⟨h.pl, h.says, h.dk.below hb, hp, hk, fun e => by have h1 := hn db e; have h2 := h.dk.lt; omega, fun e => by cases e⟩
theorem kept_value {Y : World} {db b5 : Nat} {D : List ByteArray} {l2 : Int} {s5 : Pst} {g5 : Gh} (h : BI Y b5 db D false l2 [.tx [kpOp]] false [[kpOp]] 0 s5 g5) :
    Calls Tryz.prog 51 #[.pointer (some ⟨b5, 1, none⟩), .agg #[.int .i64 (keyP 1).kind, .int .i64 (keyP 1).a, .string (keyP 1).word, .int .i64 (keyP 1).b], .int .i64 1, .int .i64 3] Y fun e w' => e = .returned (.tuple #[.string ⟨#[97]⟩, .nilIface]) ∧ Below Y.heap.size Y w' := by
  have := value_is (keyP 1) 1 3 b5 1 _ [[kpOp]] s5 g5 Y h.p (by rw [kp_key]; decide) (by decide) (by rw [h.k]; decide) (by decide)
  rw [show saidH [[kpOp]] (keyP 1) 1 3 = ⟨#[97]⟩ from kp_said] at this
  exact this
set_option maxRecDepth 100000 in
set_option maxHeartbeats 4000000 in
theorem kept_any (w : World) (hg : PowTab w) (hn : NumVars w) : Calls Tryz.prog 32 #[] w fun e w' => e = .returned (.bool true) ∧ Below w.heap.size w w' := by
  obtain ⟨Z, hZ⟩ : ∃ Z, Z = w.alloc (.cells Tryz.zeroCells84 84) := ⟨_, rfl⟩
  obtain ⟨db, hdb⟩ : ∃ db, db = w.heap.size := ⟨_, rfl⟩
  have hBZ : Below w.heap.size w Z := by rw [hZ]; exact (Below.refl _ _).alloc (Nat.le_refl _) _
  have hzs : Z.heap.size = db + 1 := by rw [hZ, hdb]; simp
  have hD : BD Z db (List.replicate 150 ⟨#[]⟩) false 0 := ⟨by rw [hZ, hdb, ← disk_zeroK]; exact block_alloc_new _ _, by simp⟩
  have HC1 := Lib.hid (bopen_any Z hD Says.empty (log := []) (hist := []) (known := 0) rfl (hg.below hBZ) (hn.below hBZ))
  have HZ := Lib.hid hZ
  have HDB := Lib.hid hdb
  have HBZ := Lib.hid hBZ
  have HZS := Lib.hid hzs
  have HD := Lib.hid hD
  have HG := Lib.hid hg
  have HN := Lib.hid hn
  have HK := Lib.hid fun (X : World) => keyOf_any 1 X (by unfold i64B; omega)
  clear hZ hdb hBZ hD hzs hg hn
  go_enter Tryz.func32, Tryz.ntmps32
  go_upto_region 3 with (first
    | (rw [← HZ.out, ← HDB.out])
    | (go_at_call 33; (with_reducible refine HC1.out.mono ?_); rintro e w1 ⟨bb, s, g, rfl, hp, hk, hnew, hb⟩; have HP1 := Lib.hid hp; have HK1 := Lib.hid hk; have HNW := Lib.hid hnew; have HB1 := Lib.hid hb; clear hp hk hnew hb))
  go_upto_region 4 with (first
    | (go_at_call 34; (with_reducible refine (HK.out _).mono ?_); rintro e w2 ⟨rfl, b2⟩; obtain ⟨lb, hlb⟩ : ∃ lb, lb = w2.heap.size := ⟨_, rfl⟩; obtain ⟨W3, hW3⟩ : ∃ W3, W3 = w2.alloc (.cells #[.int .i64 (keyP 1).kind, .int .i64 (keyP 1).a, .string (keyP 1).word, .int .i64 (keyP 1).b, .int .i64 0, .int .i64 5, .string ⟨#[97]⟩] 70) := ⟨_, rfl⟩; have HLB := Lib.hid hlb; have HW3 := Lib.hid hW3; have hc := Lib.hid (kept_step HZ.out HDB.out HD.out HP1.out HK1.out HNW.out HB1.out b2 hlb hW3 HG.out); have HB2 := Lib.hid b2; clear b2 hlb hW3)
    | (rw [← HW3.out, ← HLB.out])
    | (go_at_call 36; (with_reducible refine hc.out.mono ?_); rintro e w4 ⟨rfl, h4, hbe4⟩; obtain ⟨D4, l4, s4, g4, h4⟩ := h4; have H4 := Lib.hid h4; have HB4 := Lib.hid hbe4; have HO := Lib.hid (bopen_any w4 h4.dk h4.says h4.pl (HG.out.below hbe4) (HN.out.below hbe4)); clear h4 hbe4))
  clear HC1 HP1 HK1 HNW HB1 HD HW3 HLB hc HZ HDB HZS HBZ
  go_wp2_with (first
    | (go_at_call 33; (with_reducible refine HO.out.mono ?_); rintro e w5 ⟨b5, s5, g5, rfl, hp, hk, hnew, hb⟩; have H5 := Lib.hid (kept_open H4.out hp hk hnew hb); have HB5 := Lib.hid (HB4.out.trans (hb.mono HB4.out.size)); clear hp hk hnew hb)
    | (go_at_call 38; (with_reducible refine (bpast_any w5 H5.out).mono ?_); rintro e w6 ⟨rfl, rfl⟩)
    | (go_at_call 34; (with_reducible refine (HK.out w5).mono ?_); rintro e w7 ⟨rfl, b7⟩; have H7 := Lib.hid (H5.out.below b7); have HB7 := Lib.hid (HB5.out.trans (b7.mono HB5.out.size)); have HV := Lib.hid (kept_value H7.out); clear b7)
    | (go_at_call 51; (with_reducible refine HV.out.mono ?_); rintro e w8 ⟨rfl, b8⟩; have H8 := Lib.hid (H7.out.below b8); have HB8 := Lib.hid (HB7.out.trans (b8.mono HB7.out.size)); clear b8)
    | (go_at_call 39; (with_reducible refine (bused_any w8 H8.out).mono ?_); rintro e w9 ⟨rfl, rfl⟩))
  go_ret
  exact ⟨by simp, HB8.out⟩
end Go.Proofs.YtflhpmgjehjjkaaGreatDoor

namespace Go.Proofs.YtflhpmgjehjjkaaGreatDoor
open Go.RowKit Go.Deep Go.Shelf Go.Sort Go.Maps

theorem tdiv3_rng {x : Int} (h : i64B x) : -9223372036854775808 ≤ x.tdiv 3 ∧ x.tdiv 3 ≤ 9223372036854775807 := by
  unfold i64B at h
  rcases Int.le_total 0 x with h0 | h0
  · rw [Int.tdiv_eq_ediv_of_nonneg h0]
    omega
  · have : x.tdiv 3 = - ((-x).tdiv 3) := by rw [Int.neg_tdiv, Int.neg_neg]
    rw [this, Int.tdiv_eq_ediv_of_nonneg (by omega)]
    omega
/-- Behind the base's Commit. -/
def AftC (w Z : World) (zo db pb kb : Nat) (K : KeyP) (bb : Nat) (cut : Bool) (left : Int) (log : List Ent) (hist : List (List OpP)) (t : List OpP) (v : Value) (n : Int) (X : World) : Prop :=
  (n = 14 ∧ v = errV 14 ∧ CI w Z zo db pb kb K bb cut left true log hist hist X) ∨ (n = 0 ∧ v = .nilIface ∧ ∃ l2, CI w Z zo db pb kb K bb cut l2 false (log ++ [.tx t]) (hist ++ [t]) hist X)
theorem aft_of {w Z X : World} {zo db pb kb : Nat} {K : KeyP} {bb : Nat} {cut : Bool} {left : Int} {log : List Ent} {hist : List (List OpP)} {t : List OpP} {e : Ending} (h1 : offB cut left = true → e = .returned (errV 14) ∧ CI w Z zo db pb kb K bb cut left true log hist hist X) (h2 : offB cut left = false → e = .returned .nilIface ∧ ∃ l2, CI w Z zo db pb kb K bb cut l2 false (log ++ [.tx t]) (hist ++ [t]) hist X) : ∃ v, e = .returned v ∧ ∃ n, AftC w Z zo db pb kb K bb cut left log hist t v n X := by
  cases ho : offB cut left with
  | true => exact ⟨_, (h1 ho).1, 14, .inl ⟨rfl, rfl, (h1 ho).2⟩⟩
  | false => exact ⟨_, (h2 ho).1, 0, .inr ⟨rfl, rfl, (h2 ho).2⟩⟩
section
variable {w Z X : World} {zo db pb kb : Nat} {K : KeyP} {bb : Nat} {cut : Bool} {left : Int} {log : List Ent} {hist : List (List OpP)} {t : List OpP} {v : Value} {n : Int}
theorem AftC.cz (h : AftC w Z zo db pb kb K bb cut left log hist t v n X) : CZ w Z X zo db pb kb := by
  rcases h with ⟨_, _, h⟩ | ⟨_, _, _, h⟩
  · exact h.cz
  · exact h.cz
theorem AftC.isE (h : AftC w Z zo db pb kb K bb cut left log hist t v n X) : ErrIs X v n (-1) := by
  rcases h with ⟨rfl, rfl, _⟩ | ⟨rfl, rfl, _⟩
  · exact .inr (.inl ⟨rfl, rfl⟩)
  · exact .inl ⟨rfl, rfl, rfl⟩
end
theorem AftC.below {w Z X Y : World} {zo db pb kb : Nat} {K : KeyP} {bb : Nat} {cut : Bool} {left : Int} {log : List Ent} {hist : List (List OpP)} {t : List OpP} {v : Value} {n : Int} (h : AftC w Z zo db pb kb K bb cut left log hist t v n X) (hb : Below X.heap.size X Y) : AftC w Z zo db pb kb K bb cut left log hist t v n Y := by
  rcases h with ⟨h1, h2, h⟩ | ⟨h1, h2, l2, h⟩
  · exact .inl ⟨h1, h2, h.below hb⟩
  · exact .inr ⟨h1, h2, l2, h.below hb⟩
theorem bc_pieces {w : World} {pb po : Nat} {R : Rest} {hist : List (List OpP)} {s : Pst} {g : Gh} (h : PastIs w pb po R hist s g) (hk : s.gone = 0) {k : KeyP} (hkb : keyB k = true) {n : Nat} (hn : n ≤ hist.length) :
    Calls Tryz.prog 40 #[.pointer (some ⟨pb, po, none⟩), .agg #[.int .i64 k.kind, .int .i64 k.a, .string k.word, .int .i64 k.b], .int .i64 (n : Nat)] w fun e w' => ∃ (ao : Option Addr) (cap : Nat) (L : List Pc), e = .returned (.tuple #[.slice ao L.length cap, .nilIface]) ∧ PiecesOf hist k n L ∧ L.length ≤ maxLen ∧ PcsAt w' ao L ∧ Below w.heap.size w w' := by
  refine (pieces_is k n pb po R hist s g w h hkb (by rw [hk]; omega) hn).mono ?_
  rintro e w' ⟨v, L, rfl, hp, _, hl, hown, hb⟩
  obtain ⟨ao, cap, rfl, hat⟩ := ownsRow_pcs hown
  exact ⟨ao, cap, L, rfl, hp, ownsRow_len hown, hat, hb⟩
theorem bc_start {w w1 Z1 w2 Z2 w3 Z3 Z : World} {db pb kb bb zo : Nat} {s : Pst} {g : Gh} {K : KeyP} (b1 : Below w.heap.size w w1) (hZ1 : Z1 = w1.alloc (.cells Tryz.zeroCells84 84)) (hdb : db = w1.heap.size) (hp : PastIs w2 bb 1 (BR db ([] : List Ent).length false) [] s g) (hk : s.gone = (0 : Nat)) (hn : ∀ k, g.foot bb k → Z1.heap.size ≤ k) (hb : Below Z1.heap.size Z1 w2)
    (hZ2 : Z2 = w2.alloc (.cells #[.int .i64 0, .int .i64 0, .int .i64 0, .map none, .map none] 27)) (hpb : pb = w2.heap.size) (b3 : Below Z2.heap.size Z2 w3) (hZ3 : Z3 = w3.alloc (.cells #[.int .i64 K.kind, .int .i64 K.a, .string K.word, .int .i64 K.b] 44)) (hkb : kb = w3.heap.size) (hzo : zo = Z3.heap.size) (b4 : Below Z3.heap.size Z3 Z) (hv : ErrVar w) (hg : PowTab w) (hnv : NumVars w) :
    CI w Z zo db pb kb K bb false 0 false [] [] [] Z := by
  have hD : BD Z1 db (List.replicate 150 ⟨#[]⟩) false 0 := ⟨by rw [hZ1, hdb, ← disk_zeroK]; exact block_alloc_new _ _, by simp⟩
  have z1 : Z1.heap.size = w1.heap.size + 1 := by rw [hZ1]; simp
  have z2 : Z2.heap.size = w2.heap.size + 1 := by rw [hZ2]; simp
  have z3 : Z3.heap.size = w3.heap.size + 1 := by rw [hZ3]; simp
  have s1 := b1.size
  have s2 := hb.size
  have s3 := b3.size
  have s4 := b4.size
  have a1 : Below w1.heap.size w1 Z1 := by rw [hZ1]; exact (Below.refl _ _).alloc (Nat.le_refl _) _
  have a2 : Below w2.heap.size w2 Z2 := by rw [hZ2]; exact (Below.refl _ _).alloc (Nat.le_refl _) _
  have a3 : Below w3.heap.size w3 Z3 := by rw [hZ3]; exact (Below.refl _ _).alloc (Nat.le_refl _) _
  have c3 : Below w3.heap.size w3 Z := a3.trans (b4.mono (by omega))
  have c2 : Below Z2.heap.size Z2 Z := b3.trans (c3.mono (by omega))
  have c1 : Below w2.heap.size w2 Z := a2.trans (c2.mono (by omega))
  have c0 : Below Z1.heap.size Z1 Z := hb.trans (c1.mono (by omega))
  have hz : Below w.heap.size w Z := (b1.trans (a1.mono s1)).trans (c0.mono (by omega))
  have hpb2 : Z2.heap[pb]? = some (.cells (pcells ⟨[], [], 27⟩ 0 0 0 none none) 27 (0, 0)) := by rw [hZ2, hpb]; exact block_alloc_new _ _
  have hkb3 : Z3.heap[kb]? = some (keyBlk K) := by rw [hZ3, hkb]; exact block_alloc_new _ _
  have hlt : ∀ k, g.foot bb k → k < w2.heap.size := fun k hk => hp.at'.lt k hk
  refine ⟨_, s, g, ⟨0, 0, 0, []⟩, noGh, ⟨hz, by omega, by omega, by omega, by omega, Fr.refl _ _, hv, hg, hnv⟩, (b4.block _ (by omega)).trans hkb3, ⟨rfl, Says.empty, hD.below c0, hp.below c1, hk, fun h => ?_, fun h => by cases h⟩, fun k hk => ?_, (past_is_new (po := 0) rfl hpb2).below c2, rfl, fun k hk => ?_, by omega⟩
  · have := hn db h; omega
  · have h1 := hn k hk
    have h2 := hlt k hk
    exact ⟨.inl (by omega), by omega⟩
  · have := foot_new hk
    refine ⟨.inl (by omega), by omega, fun e => ?_⟩
    rcases e with e | e
    · have := hlt k e; omega
    · omega
set_option maxRecDepth 100000 in
set_option maxHeartbeats 16000000 in
theorem baseCrashes_walk (l : List SayP) (cuts torn : List Int) (key : Int) (ao ac at_ : Option Addr) (cap capc capt : Nat) (w : World) (hl : saysAt w ao l) (hlm : l.length ≤ maxLen) (hi : ∀ s ∈ l, s.Ok) (hc : intsAt w ac cuts) (hcm : cuts.length ≤ maxLen) (hci : ∀ x ∈ cuts, i64B x) (ht : intsAt w at_ torn) (htm : torn.length ≤ maxLen) (hti : ∀ x ∈ torn, i64B x) (hk : i64B key) (hg : PowTab w) (hv : ErrVar w) (hn : NumVars w) :
    Calls Tryz.prog 5 #[.slice ao l.length cap, .slice ac cuts.length capc, .slice at_ torn.length capt, .int .i64 key] w fun e w' => e = .returned (.bool true) ∧ Below w.heap.size w w' := by
  unfold maxLen at hlm hcm htm
  have HL := Lib.hid hl
  have HI := Lib.hid hi
  have HC := Lib.hid hc
  have HCI := Lib.hid hci
  have HT := Lib.hid ht
  have HTI := Lib.hid hti
  have HG := Lib.hid hg
  have HV := Lib.hid hv
  have HN := Lib.hid hn
  clear hl hi hc hci ht hti hg hv hn
  by_cases hs : l.length ≤ 60 ∧ cuts.length ≤ 60 ∧ torn.length ≤ 60
  · obtain ⟨hs1, hs2, hs3⟩ := hs
    have g1 : ¬ (l.length : Int) > 60 := by omega
    have g2 : ¬ (cuts.length : Int) > 60 := by omega
    have g3 : ¬ (torn.length : Int) > 60 := by omega
    have HKP := Lib.hid (kept_any w HG.out HN.out)
    have KK := Lib.hid fun X => keyOf_any key X hk
    go_enter Tryz.func5, Tryz.ntmps5
    go_upto_region 5 with (go_at_call 32; (with_reducible refine HKP.out.mono ?_); rintro e w1 ⟨rfl, b1⟩; have B1 := Lib.hid b1; clear b1)
    obtain ⟨Z1, hZ1⟩ : ∃ Z1, Z1 = w1.alloc (.cells Tryz.zeroCells84 84) := ⟨_, rfl⟩
    obtain ⟨db, hdb⟩ : ∃ db, db = w1.heap.size := ⟨_, rfl⟩
    have hD : BD Z1 db (List.replicate 150 ⟨#[]⟩) false 0 := ⟨by rw [hZ1, hdb, ← disk_zeroK]; exact block_alloc_new _ _, by simp⟩
    have hBZ1 : Below w1.heap.size w1 Z1 := by rw [hZ1]; exact (Below.refl _ _).alloc (Nat.le_refl _) _
    have hBwZ1 := B1.out.trans (hBZ1.mono B1.out.size)
    have HC1 := Lib.hid (bopen_any Z1 hD Says.empty (log := []) (hist := []) (known := 0) rfl (HG.out.below hBwZ1) (HN.out.below hBwZ1))
    have HZ1 := Lib.hid hZ1
    have HDB := Lib.hid hdb
    clear hZ1 hdb hD hBZ1 hBwZ1
    go_upto_region 9 with (first
      | (rw [← HZ1.out, ← HDB.out])
      | (go_at_call 33; (with_reducible refine HC1.out.mono ?_); rintro e w2 ⟨bb, s, g, rfl, hp, hk, hnew, hb⟩; have HP1 := Lib.hid hp; have HK1 := Lib.hid hk; have HNW := Lib.hid hnew; have HB1 := Lib.hid hb; clear hp hk hnew hb))
    obtain ⟨Z2, hZ2⟩ : ∃ Z2, Z2 = w2.alloc (.cells #[.int .i64 0, .int .i64 0, .int .i64 0, .map none, .map none] 27) := ⟨_, rfl⟩
    obtain ⟨pb, hpb⟩ : ∃ pb, pb = w2.heap.size := ⟨_, rfl⟩
    have HZ2 := Lib.hid hZ2
    have HPB := Lib.hid hpb
    clear hZ2 hpb
    obtain ⟨K, hK⟩ : ∃ K, K = keyP key := ⟨_, rfl⟩
    rw [← hK] at KK
    have HKB := Lib.hid (show keyB K = true by rw [hK]; exact keyP_B key)
    clear hK
    go_upto_region 11 with (first
      | (rw [← HZ2.out, ← HPB.out])
      | (go_at_call 34; (with_reducible refine (KK.out _).mono ?_); rintro e w3 ⟨rfl, b3⟩; have B3 := Lib.hid b3; clear b3))
    obtain ⟨Z3, hZ3⟩ : ∃ Z3, Z3 = w3.alloc (.cells #[.int .i64 K.kind, .int .i64 K.a, .string K.word, .int .i64 K.b] 44) := ⟨_, rfl⟩
    obtain ⟨kb, hkb⟩ : ∃ kb, kb = w3.heap.size := ⟨_, rfl⟩
    rw [← hZ3, ← hkb]
    obtain ⟨zo, hzo⟩ : ∃ zo, zo = Z3.heap.size := ⟨_, rfl⟩
    have hb3z : Below w.heap.size w Z3 := by
      have a1 : Below w1.heap.size w1 Z1 := by rw [HZ1.out]; exact (Below.refl _ _).alloc (Nat.le_refl _) _
      have a2 : Below w2.heap.size w2 Z2 := by rw [HZ2.out]; exact (Below.refl _ _).alloc (Nat.le_refl _) _
      have a3 : Below w3.heap.size w3 Z3 := by rw [hZ3]; exact (Below.refl _ _).alloc (Nat.le_refl _) _
      have q1 := B1.out.trans (a1.mono B1.out.size)
      have q2 := q1.trans (HB1.out.mono q1.size)
      have q3 := q2.trans (a2.mono q2.size)
      have q4 := q3.trans (B3.out.mono q3.size)
      exact q4.trans (a3.mono q4.size)
    have HOP := Lib.hid (ops_any l ao cap Z3 (HL.out.below hb3z) (by omega) HI.out)
    have hTok := opsT_ok l
    have hTl := opsT_len l
    have HZ3 := Lib.hid hZ3
    have HKX := Lib.hid hkb
    have HZO := Lib.hid hzo
    generalize opsT l = T at *
    have HTOK := Lib.hid hTok
    clear hZ3 hkb hzo hb3z hTok
    go_wp2_with (go_at_call 8; (with_reducible refine HOP.out.mono ?_); rintro e Z ⟨v, rfl, htx, b4⟩; obtain ⟨tao, tc, rfl, htx⟩ := htx; have HTX := Lib.hid htx; have HST := Lib.hid (bc_start B1.out HZ1.out HDB.out HP1.out HK1.out HNW.out HB1.out HZ2.out HPB.out B3.out HZ3.out HKX.out HZO.out b4 HV.out HG.out HN.out); clear htx b4)
    rw [← HZO.out] at HTX
    clear HC1 HP1 HK1 HNW HB1 HZ1 HDB HZ2 HPB B3 HZ3 HKX HKP KK HOP B1 HZO
    go_loopw [10, 15] (fun vb vi X => ∃ (i bb : Nat) (cut : Bool) (left : Int) (log : List Ent) (hist : List (List OpP)), i ≤ T.length ∧ vi = .int .i64 i ∧ vb = .pointer (some ⟨bb, 0, none⟩) ∧ CI w Z zo db pb kb K bb cut left false log hist hist X ∧ log.length = hist.length ∧ hist.length ≤ i) (fun _ vi _ => T.length - (intOf vi).toNat)
    case atStart => exact ⟨0, bb, _, _, _, _, Nat.zero_le _, rfl, rfl, HST.out, rfl, Nat.le_refl _⟩
    case round =>
      as_aux_lemma =>
        clear HST
        obtain ⟨i, bb, cut, left, log, hist, hi, rfl, rfl, hq, hlog, hhi⟩ := hrel
        have HQ := Lib.hid hq
        have HLG := Lib.hid hlog
        clear hq hlog
        by_cases hlt : i < T.length
        · obtain ⟨t, ht⟩ : ∃ t, T[i]? = some t := ⟨_, List.getElem?_eq_getElem hlt⟩
          obtain ⟨b0, b, tcap, rfl, hb0, hcl, hbb, htops⟩ := HTX.out i t ht
          have htok := HTOK.out t (List.mem_of_getElem? ht)
          have i0 : (0 : Int) ≤ (i : Int) := by omega
          have i1 : (i : Int) < (T.length : Int) := by omega
          have HTO := Lib.hid htops
          have HTK := Lib.hid htok
          have HCL := Lib.hid hcl
          clear ht htops htok hcl
          have hcuts := HC.out.below HQ.out.cz.be
          go_upto_region 16 with fail
          go_cut [77] (fun v wx => wx = wr ∧ ∃ B : Bool, v = .bool B ∧ (B = true → 0 < cuts.length))
          case first =>
            as_aux_lemma =>
              rcases Nat.eq_zero_or_pos cuts.length with hz | hz
              · go_wp2_with fail
                go_meet
                exact ⟨rfl, _, rfl, fun h => by simp at h⟩
              · obtain ⟨bi, oi, x, gx, rfl, ci⟩ := intsAt_get hcuts (k := i % cuts.length) (Nat.mod_lt _ hz)
                have hx := HCI.out x (List.mem_of_getElem? gx.out)
                have PK := Lib.hid fun X => pick_any x 3 X hx.1 (by have := hx.2; omega) (by decide) (by decide)
                generalize pickI x 3 = p3 at *
                have e0 : (0 : Int) ≤ (i : Int) % (cuts.length : Int) := Int.emod_nonneg _ (by omega)
                have e1 : (i : Int) % (cuts.length : Int) < (cuts.length : Int) := Int.emod_lt_of_pos _ (by omega)
                go_wp2_with (go_at_call 11; (with_reducible refine (PK.out _).mono ?_); rintro e w1 ⟨rfl, rfl⟩)
                go_meet
                exact ⟨rfl, _, rfl, fun _ => hz⟩
          case rest =>
            as_aux_lemma =>
              obtain ⟨hwc, B, rfl, hBz⟩ := hcut
              have hwc := hwc.symm
              subst hwc
              have HBZ := Lib.hid hBz
              clear hBz
              go_upto_if 77 with fail
              go_cut [] (fun X => ∃ (cut : Bool) (left : Int), CI w Z zo db pb kb K bb cut left false log hist hist X)
              case first =>
                as_aux_lemma =>
                  cases B
                  · go_wp2_with fail
                    go_meet
                    exact ⟨_, _, HQ.out⟩
                  · have hz := HBZ.out rfl
                    obtain ⟨bi, oi, x, gx, rfl, ci⟩ := intsAt_get hcuts (k := i % cuts.length) (Nat.mod_lt _ hz)
                    have hx := HCI.out x (List.mem_of_getElem? gx.out)
                    have e0 : (0 : Int) ≤ (i : Int) % (cuts.length : Int) := Int.emod_nonneg _ (by omega)
                    have e1 : (i : Int) % (cuts.length : Int) < (cuts.length : Int) := Int.emod_lt_of_pos _ (by omega)
                    have hxd : -9223372036854775808 ≤ x.tdiv 3 ∧ x.tdiv 3 ≤ 9223372036854775807 := tdiv3_rng hx
                    have PK := Lib.hid fun X => pick_any (x.tdiv 3) 3 X hxd.1 (by omega) (by decide) (by decide)
                    have hpk := pickI_lt (x.tdiv 3) 3 (by decide) (by decide)
                    generalize pickI (x.tdiv 3) 3 = p3 at *
                    obtain ⟨D, s, g, s2, g2, hj⟩ := HQ.out
                    have HCU := Lib.hid (ci_cut p3 (by unfold i64; omega) hj)
                    clear hj
                    go_wp2_with (first
                      | (go_at_call 11; (with_reducible refine (PK.out _).mono ?_); rintro e w1 ⟨rfl, rfl⟩)
                      | (go_at_call 35; (with_reducible refine HCU.out.mono ?_); rintro e w5 ⟨rfl, h5⟩; have H5 := Lib.hid h5; clear h5))
                    go_meet
                    exact ⟨_, _, H5.out⟩
              case rest =>
                as_aux_lemma =>
                  obtain ⟨cut, left, hq⟩ := hcut
                  have HQ1 := Lib.hid hq
                  have htorn := HT.out.below hq.cz.be
                  clear hq HQ
                  go_upto_if 92 with fail
                  go_cut [17] (fun v wx => wx = wc ∧ ∃ tv : Int, v = .int .i64 tv ∧ i64 tv)
                  case first =>
                    as_aux_lemma =>
                      rcases Nat.eq_zero_or_pos torn.length with hz | hz
                      · have hzd : decide (0 < torn.length) = false := decide_eq_false (by omega)
                        have hzn : ¬ 0 < torn.length := by omega
                        clear hz
                        go_wp2_with fail
                        go_meet
                        exact ⟨rfl, _, rfl, by unfold i64; omega⟩
                      · obtain ⟨bi, oi, x, gx, rfl, ci⟩ := intsAt_get htorn (k := i % torn.length) (Nat.mod_lt _ hz)
                        have hx := HTI.out x (List.mem_of_getElem? gx.out)
                        have PK := Lib.hid fun X => pick_any x 200 X hx.1 (by have := hx.2; omega) (by decide) (by decide)
                        have hpk := pickI_lt x 200 (by decide) (by decide)
                        generalize pickI x 200 = p3 at *
                        have e0 : (0 : Int) ≤ (i : Int) % (torn.length : Int) := Int.emod_nonneg _ (by omega)
                        have e1 : (i : Int) % (torn.length : Int) < (torn.length : Int) := Int.emod_lt_of_pos _ (by omega)
                        go_wp2_with (go_at_call 11; (with_reducible refine (PK.out _).mono ?_); rintro e w1 ⟨rfl, rfl⟩)
                        go_meet
                        exact ⟨rfl, _, rfl, by unfold i64; omega⟩
                  case rest =>
                    as_aux_lemma =>
                      obtain ⟨hwc, tv, rfl, htv⟩ := hcut
                      have hwc := hwc.symm
                      subst hwc
                      have HTV := Lib.hid htv
                      clear htv htorn
                      obtain ⟨D, s, g, s2, g2, hj⟩ := HQ1.out
                      have hl150 : log.length < 150 := by have := HLG.out; omega
                      have hcw := (World.cell?_of_block (a := ⟨b0, i, none⟩) (hj.cz.fr.block b0 hb0.2 (fun e => by omega))).trans HCL.out
                      have CM := Lib.hid (ci_commit tcap t tv hj hbb HTO.out HTK.out hl150 HTV.out)
                      have hb0l := World.block_lt_of_cell? _ _ hcw
                      clear hj
                      go_upto_region 21 with fail
                      go_cut [18] (fun v X => ∃ n, AftC w Z zo db pb kb K bb cut left log hist t v n X)
                      case first =>
                        as_aux_lemma =>
                          go_wp2_with (go_at_call 36; (with_reducible refine CM.out.mono ?_); rintro e w5 ⟨h5, h6⟩; obtain ⟨v, rfl, hA⟩ := aft_of h5 h6; have HA := Lib.hid hA; clear h5 h6 hA)
                          go_meet
                          exact HA.out
                      case rest =>
                        as_aux_lemma =>
                          obtain ⟨n, hA⟩ := hcut
                          have HTE := Lib.hid (tell_any _ n (-1) _ hA.cz.err hA.isE)
                          have HA := Lib.hid hA
                          clear hA CM hcw HQ1
                          go_upto_block 2 with (go_at_call 18; (with_reducible refine HTE.out.mono ?_); rintro e w6 ⟨rfl, b6⟩; have HA6 := Lib.hid (HA.out.below b6); clear b6)
                          go_cut [10] (fun vb X => ∃ (bb : Nat) (cut : Bool) (left : Int) (log : List Ent) (hist : List (List OpP)), vb = .pointer (some ⟨bb, 0, none⟩) ∧ CI w Z zo db pb kb K bb cut left false log hist hist X ∧ log.length = hist.length ∧ hist.length ≤ i + 1)
                          case first =>
                            as_aux_lemma =>
                              rcases HA6.out with ⟨rfl, _, hci⟩ | ⟨rfl, _, l2, hci⟩
                              · obtain ⟨D, s, g, s2, g2, hj⟩ := hci
                                have HDN := Lib.hid (bdown_any w6 hj.bi)
                                have HCU := Lib.hid (ci_cut (-1) (by unfold i64; omega) hj)
                                clear hj HA6 HA HTE
                                go_wp2_with (first
                                  | (go_at_call 37; (with_reducible refine HDN.out.mono ?_); rintro e w7 ⟨rfl, rfl⟩)
                                  | (go_at_call 35; (with_reducible refine HCU.out.mono ?_); rintro e w8 ⟨rfl, h8⟩; obtain ⟨D8, s8, g8, s28, g28, hj8⟩ := h8; have HOP := Lib.hid (ci_open hj8); clear hj8)
                                  | (go_at_call 33; (with_reducible refine HOP.out.mono ?_); rintro e w9 ⟨bb', s', g', rfl, h9, _, _⟩; have H9 := Lib.hid h9; clear h9))
                                go_meet
                                exact ⟨bb', _, _, _, _, rfl, ⟨_, _, _, _, _, H9.out⟩, HLG.out, by omega⟩
                              · obtain ⟨D, s, g, s2, g2, hj⟩ := hci
                                have hcw := (World.cell?_of_block (a := ⟨b0, i, none⟩) (hj.cz.fr.block b0 hb0.2 (fun e => by omega))).trans HCL.out
                                have hb06 := World.block_lt_of_cell? _ _ hcw
                                have HPC := Lib.hid (ci_pcommit tcap t hj hbb HTO.out HTK.out (by omega))
                                clear hj HA6 HA HTE
                                go_wp2_with (go_at_call 9; (with_reducible refine HPC.out.mono ?_); rintro e w7 ⟨rfl, h7⟩; have H7 := Lib.hid h7; clear h7)
                                go_meet
                                exact ⟨bb, _, _, _, _, rfl, H7.out, by rw [List.length_append, List.length_append, HLG.out]; rfl, by rw [List.length_append, List.length_singleton]; omega⟩
                          case rest =>
                            as_aux_lemma =>
                              clear HA6 HA HTE HLG hhi hl150 hb0l
                              obtain ⟨bb, cut, left, log, hist, rfl, hq, hlog, hhi⟩ := hcut
                              obtain ⟨D, s, g, s2, g2, hj⟩ := hq
                              have HOP := Lib.hid (ci_open hj)
                              have HLG := Lib.hid hlog
                              clear hj hlog
                              go_upto_region 35 with (go_at_call 33; (with_reducible refine HOP.out.mono ?_); rintro e w9 ⟨bc, s', g', rfl, h9, h10, b9⟩; have H9 := Lib.hid h9; have H10 := Lib.hid h10; clear h9 h10 b9)
                              have P1 := Lib.hid (bpast_any w9 H9.out.bi)
                              have P2 := Lib.hid (bpast_any w9 H10.out.bi)
                              have hn1 := pnow_any bc 1 _ s' g' w9 H9.out.bi.p.at'
                              have hn2 := pnow_any bb 1 _ s g w9 H10.out.bi.p.at'
                              have hn3 := pnow_any pb 0 _ s2 g2 w9 H9.out.pi.at'
                              have hu := bused_any w9 H9.out.bi
                              rw [H9.out.bi.p.now] at hn1
                              rw [H10.out.bi.p.now] at hn2
                              rw [H9.out.pi.now] at hn3
                              rw [HLG.out] at hu
                              have N1 := Lib.hid hn1
                              have N2 := Lib.hid hn2
                              have N3 := Lib.hid hn3
                              have U1 := Lib.hid hu
                              have hnn : ((hist.length : Int) != (hist.length : Int)) = false := by simp
                              clear hn1 hn2 hn3 hu
                              go_upto_region 37 with (first
                                | (go_at_call 38; (first | (with_reducible refine P1.out.mono ?_) | (with_reducible refine P2.out.mono ?_)); rintro e w10 ⟨rfl, rfl⟩)
                                | (go_at_call 12; (first | (with_reducible refine N1.out.mono ?_) | (with_reducible refine N2.out.mono ?_) | (with_reducible refine N3.out.mono ?_)); rintro e w10 ⟨rfl, rfl⟩)
                                | (go_at_call 39; (with_reducible refine U1.out.mono ?_); rintro e w10 ⟨rfl, rfl⟩))
                              clear P1 P2 N1 N2 U1 HOP
                              go_wp2_with fail
                              go_loopw [20] (fun va X => ∃ a : Nat, a ≤ hist.length + 1 ∧ va = .int .i64 a ∧ CJ w Z zo db pb kb K bc cut left false log hist hist D s' g' s2 g2 X ∧ CJ w Z zo db pb kb K bb cut left false log hist hist D s g s2 g2 X) (fun va _ => hist.length + 1 - (intOf va).toNat)
                              case atStart => exact ⟨0, Nat.zero_le _, rfl, H9.out, H10.out⟩
                              case round =>
                                as_aux_lemma =>
                                  clear H9 H10 N3
                                  obtain ⟨a, ha, rfl, hc1, hc2⟩ := hrel
                                  have hn3 := pnow_any pb 0 _ s2 g2 wr hc1.pi.at'
                                  rw [hc1.pi.now] at hn3
                                  have N3 := Lib.hid hn3
                                  have H1 := Lib.hid hc1
                                  have H2 := Lib.hid hc2
                                  clear hn3 hc1 hc2
                                  by_cases hah : a ≤ hist.length
                                  · have a0 : (a : Int) ≤ (hist.length : Int) := by omega
                                    have PP1 := Lib.hid (bc_pieces H1.out.pi H1.out.pk HKB.out hah)
                                    have hky := H1.out.key
                                    unfold keyBlk at hky
                                    have k0 : wr.cell? ⟨kb, 0, none⟩ = some (.int .i64 K.kind) := block_cell hky 0
                                    have k1 : wr.cell? ⟨kb, 1, none⟩ = some (.int .i64 K.a) := block_cell hky 1
                                    have k2 : wr.cell? ⟨kb, 2, none⟩ = some (.string K.word) := block_cell hky 2
                                    have k3 : wr.cell? ⟨kb, 3, none⟩ = some (.int .i64 K.b) := block_cell hky 3
                                    have kl : kb < wr.heap.size := lt_of_block hky
                                    clear hky
                                    go_upto_region 41 with (first
                                      | (go_at_call 12; (with_reducible refine N3.out.mono ?_); rintro e w10 ⟨rfl, rfl⟩)
                                      | (go_at_call 40; (with_reducible refine PP1.out.mono ?_); rintro e w11 ⟨ao1, cp1, L1, rfl, hp1, hl1, ha1, b1⟩; have HP1 := Lib.hid hp1; have HL1 := Lib.hid hl1; have HA1 := Lib.hid ha1; have H3 := Lib.hid (H1.out.below b1); have H4 := Lib.hid (H2.out.below b1); have m0 := below_cell b1 kl k0; have m1 := below_cell b1 kl k1; have m2 := below_cell b1 kl k2; have m3 := below_cell b1 kl k3; have ml := Nat.lt_of_lt_of_le kl b1.size; clear hp1 hl1 ha1 b1))
                                    clear k0 k1 k2 k3 kl PP1 N3 H1 H2
                                    have P1 := Lib.hid fun (X : World) (hX : Below w11.heap.size w11 X) => bpast_any X (H3.out.bi.below hX)
                                    have PP2 := Lib.hid fun (X : World) (hX : Below w11.heap.size w11 X) => bc_pieces (H3.out.bi.p.below hX) H3.out.bi.k HKB.out hah
                                    go_region_held3 (fun X => X.cell? ⟨kb, 0, none⟩ = some (.int .i64 K.kind) ∧ X.cell? ⟨kb, 1, none⟩ = some (.int .i64 K.a) ∧ X.cell? ⟨kb, 2, none⟩ = some (.string K.word) ∧ X.cell? ⟨kb, 3, none⟩ = some (.int .i64 K.b))
                                      (first | exact ⟨m0, m1, m2, m3⟩ | exact hS2)
                                      (first
                                        | (go_at_call 38; (with_reducible refine (P1.out _ (Below.refl _ _).drew).mono ?_); rintro e x1 ⟨rfl, rfl⟩)
                                        | (go_at_call 40; (with_reducible refine (PP2.out _ (Below.refl _ _).drew).mono ?_); rintro e x2 ⟨ao2, cp2, L2, rfl, hp2, _, ha2, b2⟩; obtain rfl : L1 = L2 := HP1.out.one hp2 fun _ => rfl; have HA2 := Lib.hid ha2; have b2' := (Below.refl w11.heap.size w11).drew.trans b2; have HA3 := Lib.hid (HA1.out.below b2'); have H5 := Lib.hid (H3.out.below b2'); have H6 := Lib.hid (H4.out.below b2'); have hS2 := And.intro (below_cell b2 ml m0) (And.intro (below_cell b2 ml m1) (And.intro (below_cell b2 ml m2) (below_cell b2 ml m3))); clear hp2 ha2 b2 b2'))
                                    have hll : ((L1.length : Int) != (L1.length : Int)) = false := by simp
                                    have hm9 := HL1.out
                                    unfold maxLen at hm9
                                    clear m0 m1 m2 m3 P1 PP2 hS2 HP1 HL1 HA1 H3 H4
                                    go_wp2_with fail
                                    go_loopw [25] (fun vj X => ∃ q : Nat, q ≤ L1.length ∧ vj = .int .i64 q ∧ Below x2.heap.size x2 X) (fun vj _ => L1.length - (intOf vj).toNat)
                                    case atStart => exact ⟨0, Nat.zero_le _, rfl, Below.refl _ _⟩
                                    case round =>
                                      as_aux_lemma =>
                                        obtain ⟨q, hq, rfl, hbx⟩ := hrel
                                        by_cases hql : q < L1.length
                                        · obtain ⟨p, hp⟩ : ∃ p, L1[q]? = some p := ⟨_, List.getElem?_eq_getElem hql⟩
                                          obtain ⟨pf, pt, pu⟩ := p
                                          obtain ⟨ba, rfl, y0, y1, y2⟩ := (HA3.out.below hbx) q _ hp
                                          obtain ⟨bq, rfl, z0, z1, z2⟩ := (HA2.out.below hbx) q _ hp
                                          simp only at y0 y1 y2 z0 z1 z2
                                          have qa0 := fun X : InC (Bel wr) => X.cell y0
                                          have qa1 := fun X : InC (Bel wr) => X.cell y1
                                          have qa2 := fun X : InC (Bel wr) => X.cell y2
                                          have qc0 := fun X : InC (Bel wr) => X.cell z0
                                          have qc1 := fun X : InC (Bel wr) => X.cell z1
                                          have qc2 := fun X : InC (Bel wr) => X.cell z2
                                          have HBX := Lib.hid hbx
                                          have q0 : (0 : Int) ≤ (q : Int) := by omega
                                          have q1 : (q : Int) < (L1.length : Int) := by omega
                                          clear hp hbx y0 y1 y2 z0 z1 z2
                                          go_wp2_with fail
                                          refine wp_region_in (S := Bel wr) (by kernel_rfl) (by kernel_rfl) (bel_drew (Below.refl _ wr)) (fun hne => ?_)
                                          repeat (go_big_quiet_step (fail))
                                          refine wpQuiet_nil ?_
                                          rintro _ ⟨X, rfl⟩
                                          go_wp2_with fail
                                          exact ⟨⟨q + 1, by omega, by go_num, HBX.out.trans (X.ok.mono HBX.out.size)⟩, by simp [intOf]; omega⟩
                                        · obtain rfl : q = L1.length := by omega
                                          have HBX := Lib.hid hbx
                                          clear hbx
                                          go_wp2_with fail
                                          exact ⟨⟨a + 1, by omega, by go_num, H5.out.below HBX.out, H6.out.below HBX.out⟩, by simp [intOf]; omega⟩
                                  · go_wp2_with (go_at_call 12; (with_reducible refine N3.out.mono ?_); rintro e w10 ⟨rfl, rfl⟩)
                                    exact ⟨⟨i + 1, bb, cut, left, log, hist, by omega, by go_num, rfl, ⟨_, _, _, _, _, H2.out⟩, HLG.out, by omega⟩, by simp [intOf]; omega⟩
        · obtain rfl : i = T.length := by omega
          go_wp2_with fail
          go_ret
          exact ⟨rfl, HQ.out.cz.be⟩
  · by_cases h1 : l.length ≤ 60
    · by_cases h2 : cuts.length ≤ 60
      · have g1 : ¬ (l.length : Int) > 60 := by omega
        have g2 : ¬ (cuts.length : Int) > 60 := by omega
        have g3 : (torn.length : Int) > 60 := by omega
        go_enter Tryz.func5, Tryz.ntmps5
        go_wp2_with fail
        go_ret
        exact ⟨rfl, Below.refl _ _⟩
      · have g1 : ¬ (l.length : Int) > 60 := by omega
        have g2 : (cuts.length : Int) > 60 := by omega
        go_enter Tryz.func5, Tryz.ntmps5
        go_wp2_with fail
        go_ret
        exact ⟨rfl, Below.refl _ _⟩
    · have g1 : (l.length : Int) > 60 := by omega
      go_enter Tryz.func5, Tryz.ntmps5
      go_wp2_with fail
      go_ret
      exact ⟨rfl, Below.refl _ _⟩
end Go.Proofs.YtflhpmgjehjjkaaGreatDoor

namespace Go.Proofs.YtflhpmgjehjjkaaGreatDoor
open Go Go.ChangeShapes Go.WideShapes Go.ChangeAt Go.RowKit Go.Joins

section
variable {H : Type} {enc : TypeId × Value → H}
/-- The wrap whose contract is handed what the row lists, the sizes and the world's shape. -/
theorem returns_and_shaped {a : Assume} {C : Checked} {os : Os} {f : FuncId} {fn : Func} {s : ChangeSpec} {conds : List PathCond} {apart fresh handsOn again : Bool} {X : World → Array Value → Prop}
    (hX : ∀ (w w' : World) (args : Array Value), w.heap = w'.heap → X w args → X w' args)
    (own : ownKnob C.prog.godebug = none) (started : os.Started) (noInit : C.prog.inits.idxOf? f = none) (hfn : C.prog.funcs[f]? = some fn)
    (witness : ∃ (w : World) (tape : Tape) (i : Input), w.os = os ∧ (w.forCall tape i).Shaped C.prog ∧ i.vars = [] ∧ Input.okWide C.prog (w.forCall tape i) .any w.heap.size f i ∧
      ((s.pre enc C.prog fn conds apart (w.forCall tape i).memory i.args ∧ X (w.forCall tape i).memory i.args) ∧ sizedMet enc C.prog fn (OpenSpec.ofChange s) apart (w.forCall tape i).memory i.args) ∧ a.holds C.prog (lone (Frame.enter C.prog f i.args .normal) [] (w.forCall tape i)))
    (contract : ∀ (W : World) (base : Nat) (args : Array Value) (ds gs : List (DataW H)) (before : List MemPlace),
      (∀ (j : Nat) t v, fn.params[j]? = some t → args[j]? = some v → Value.okWide C.prog W .any base t v) →
      DataW.Whole enc C.prog fn.params.toList s.vars apart W args.toList ds gs before →
      (DataW.weightsEach C.prog (fn.params.toList ++ s.plain.varTypes C.prog) (ds ++ gs)).all (· ≤ reachBytes) = true → X W args → W.ShapedOpen C.prog →
      Calls C.prog f args W fun e W' => ∃ v, e = .returned v ∧ s.post enc C.prog fn apart fresh handsOn again W args v W') :
    ReturnsInHanded a C os f .any (fun w args => (s.pre enc C.prog fn conds apart w args ∧ X w args) ∧ sizedMet enc C.prog fn (OpenSpec.ofChange s) apart w args) (s.post enc C.prog fn apart fresh handsOn again) := by
  refine returnsInHanded_of_calls own started noInit witness ?_
  intro w tape i _ hsh _ hok hpre _
  obtain ⟨_, _, _, fn', hfn', _, _, _, _, hval⟩ := hok
  have e : fn' = fn := Option.some.inj (hfn'.symm.trans hfn)
  subst e
  obtain ⟨⟨⟨ds, gs, before, hw, _⟩, hx⟩, hz⟩ := hpre
  have hw' := DataW.Whole.of_heap (w' := w.forCall tape i) (by rfl) hw
  refine (contract (w.forCall tape i) w.heap.size i.args ds gs before hval hw' (hz.weights hw) (hX _ _ _ (by rfl) hx) hsh).mono fun e W' ⟨v, he, hp⟩ => ?_
  subst he
  exact ChangeSpec.post_blind hp

/-- A variable that is listed as an interface value holds one. -/
theorem iface_of_laid {P : Program} {n nm : String} {d : DataW Unit} {W : World} {g : Nat} {ti : TypeId} {ms : Array (String × TypeId)} (h : laidMet P [(n, .iface nm d)] W)
    (hg : P.globalNamed n = some g) (ht : (P.globals[g]?).map (·.type) = some ti) (hi : P.underlying ti = some (.interface ms)) : ∃ t p, W.cell? ⟨g, 0, none⟩ = some (.iface t p) := by
  obtain ⟨ps, ⟨g0, t0, cs0, f0, p0, q0, hg0, ht0, hv0, hd0, _, _⟩, _, _⟩ := h
  obtain rfl := Option.some.inj (hg.symm.trans hg0)
  obtain rfl := Option.some.inj (ht.symm.trans ht0)
  obtain ⟨_, u, v, e, _, _⟩ := iface_of_trod hi hd0
  obtain ⟨l0⟩ := cs0
  obtain rfl : l0 = [.iface u v] := e
  exact ⟨u, v, by simpa using World.var?_cell hg hv0 0⟩
end
theorem ownBc : ownKnob Tryz.prog.godebug = none := by kernel_rfl
theorem laidOutBc : laidOutB Tryz.prog = true := by kernel_rfl
theorem etBc : Tryz.prog.globalNamed "errors.errorType" = some 0 := by kernel_rfl
theorem rtBc : (Tryz.prog.cutTypes.find? (·.1 == "internal/reflectlite.rtype")).map (·.2) = some 262 := by kernel_rfl
theorem oneRowBc : ((List.range Tryz.prog.types.size).filter fun t => Tryz.prog.rowNamed t [101, 114, 114, 111, 114]) = [31] := by kernel_rfl

theorem errVar_of_laidBc {W : World} (h : laidMetH Tryz.prog Rows.baseCrashesRow.laid W) : ErrVar W := by
  have h' : laidMet Tryz.prog _ W ∧ handlesMet Tryz.prog [("errors.errorType", Rows.laid_errors_errorType)] W := h.filter fun x => x.1 == "errors.errorType"
  obtain ⟨name, u, ty, e1, e2, e3, e4, e5⟩ := h'.2 _ (List.mem_singleton.2 rfl)
  have en : name = [101, 114, 114, 111, 114] := (Option.some.inj e1).symm
  subst en
  obtain rfl := Option.some.inj (rtBc.symm.trans e2)
  have hm : ty ∈ (List.range Tryz.prog.types.size).filter fun t => Tryz.prog.rowNamed t [101, 114, 114, 111, 114] := List.mem_filter.2 ⟨List.mem_range.2 e3, e4⟩
  rw [oneRowBc] at hm
  obtain rfl := List.mem_singleton.1 hm
  have hh : typeHandle Tryz.prog 31 = .pointer (some ⟨9, 31, none⟩) := by kernel_rfl
  rw [hh] at e5
  have := World.var?_cell etBc e5 0
  unfold ErrVar
  simpa using this
theorem powTab_of_laidBc {W : World} (h : laidMetH Tryz.prog Rows.baseCrashesRow.laid W) : PowTab W := by
  have h' : laidMet Tryz.prog [("internal/strconv.uint64pow10", Rows.laid_internal_strconv_uint64pow10)] W := h.filter fun x => x.1 == "internal/strconv.uint64pow10"
  exact Lib.tabIs_of_head (g := 3) (t := 363) (e := 260) (n := 20) (rest := []) (by kernel_rfl) (by kernel_rfl) Tryz.underlying363 Tryz.underlying260 (by kernel_rfl) (by kernel_rfl) (by
    have e : (Rows.laid_internal_strconv_uint64pow10 : DataW Unit) = Lib.tabData .u64 Lib.pow10Tab := by kernel_rfl
    rw [← e]; exact h')

theorem numVars_of_laidBc {W : World} (h : laidMetH Tryz.prog Rows.baseCrashesRow.laid W) (hs : W.ShapedOpen Tryz.prog) : NumVars W where
  syn := iface_of_laid (n := "strconv.ErrSyntax") (h.filter fun x => x.1 == "strconv.ErrSyntax") (by kernel_rfl) (ti := 31) (by kernel_rfl) Tryz.underlying31
  rng := iface_of_laid (n := "strconv.ErrRange") (h.filter fun x => x.1 == "strconv.ErrRange") (by kernel_rfl) (ti := 31) (by kernel_rfl) Tryz.underlying31
  len := cell_of_shapedOpen_int (t := 3) (zero := #[.int .i64 0]) hs (by decide +kernel) (by kernel_rfl) rfl (by kernel_rfl) (by kernel_rfl) Tryz.underlying3


/-- A world that meets the condition: the handle, then the plain tables. -/
noncomputable def handleWorldBc (os : Os) : World :=
  let w0 := World.holding Tryz.prog os ⟨#[], #[], []⟩
  { w0 with heap := w0.heap.modify 0 fun
      | .cells _ t frozen => .cells #[.iface 262 (.agg #[.pointer (some ⟨9, 31, none⟩)])] t frozen
      | o => o }
noncomputable def laidWorldBc (os : Os) : World := (handleWorldBc os).layVars Tryz.prog (Rows.baseCrashesRow.laid.filter fun x => x.2.handleName?.isNone)
theorem laidWorldBc_met (os : Os) (args : Array Value) : laidMetH Tryz.prog Rows.baseCrashesRow.laid ((laidWorldBc os).forCall (fun _ _ => 0) ⟨#[], args, []⟩).memory := by
  have hd : laidMet Tryz.prog (Rows.baseCrashesRow.laid.filter fun x => x.2.handleName?.isNone) (laidWorldBc os) := by
    refine laidMet_layVars (w0 := handleWorldBc os) ((Rows.baseCrashesRow.laid.filter fun x => x.2.handleName?.isNone).map (·.1)) [] ?_ ?_ ?_ ?_
    · have e1 : ((Rows.baseCrashesRow.laid.filter fun x => x.2.handleName?.isNone).filter fun x => ((Rows.baseCrashesRow.laid.filter fun x => x.2.handleName?.isNone).map (·.1)).contains x.1) = (Rows.baseCrashesRow.laid.filter fun x => x.2.handleName?.isNone) := List.filter_eq_self.2 fun x hx => List.contains_iff_mem.2 (List.mem_map.2 ⟨x, hx, rfl⟩)
      rw [e1]; rfl
    · kernel_rfl
    · kernel_rfl
    · have e2 : ((Rows.baseCrashesRow.laid.filter fun x => x.2.handleName?.isNone).filter fun x => !((Rows.baseCrashesRow.laid.filter fun x => x.2.handleName?.isNone).map (·.1)).contains x.1) = [] := List.filter_eq_nil_iff.2 fun x hx => by rw [List.contains_iff_mem.2 (List.mem_map.2 ⟨x, hx, rfl⟩)]; simp
      rw [e2]; exact LaidIn.none
  exact laidMetH_of_parts (hd.of_heap (by simp [World.memory, World.forCall, Input.heap])) (by kernel_rfl)

set_option maxRecDepth 100000 in
theorem baseCrashes_lifted (os : Os) (started : os.Started) (H : Type) (enc : TypeId × Value → H) :
    ReturnsInHanded {} Tryz.checked os 5 .any (fun w args => (Rows.baseCrashesSpec.pre enc Tryz.prog Tryz.f5 [] false w args ∧ laidMetH Tryz.prog Rows.baseCrashesRow.laid w) ∧ sizedMet enc Tryz.prog Tryz.f5 (OpenSpec.ofChange Rows.baseCrashesSpec) false w args)
      (Rows.baseCrashesSpec.post enc Tryz.prog Tryz.f5 false true false false) := by
  refine returns_and_shaped (C := Tryz.checked) (X := fun w _ => laidMetH Tryz.prog Rows.baseCrashesRow.laid w) (fun _ _ _ hh h => h.of_heap hh) ownBc started (by kernel_rfl) Tryz.func5
    (ChangeSpec.witness_at (enc := enc) (C := Tryz.checked) (os := os) (X := fun w _ => laidMetH Tryz.prog Rows.baseCrashesRow.laid w) false (laidWorldBc os) #[.slice none 0 0, .slice none 0 0, .slice none 0 0, .int .i64 0] 8 rfl (by kernel_rfl) (by kernel_rfl) (by kernel_rfl) (by kernel_rfl) (by kernel_rfl) (laidWorldBc_met os _)) ?_
  intro W base args ds gs before hval0 hW _ hL hsh
  have hval : ∀ (j : Nat) t v, Tryz.f5.params[j]? = some t → args[j]? = some v → Value.okWide Tryz.prog W .any base t v := hval0
  have hW' := hW
  obtain ⟨p, q, hA0, hV, rfl, _, _⟩ := hW
  have hA : DataW.TrodAll enc Tryz.prog W 0 (fun _ => true) true Tryz.f5.params.toList args.toList ds p := hA0
  rw [Tryz.params5] at hA hval
  obtain ⟨v0, v1, v2, v3, d0, d1, d2, d3, p0, p1, p2, p3, rfl, rfl, rfl, h0, h1, h2, h3⟩ := trodAll_four hA
  obtain ⟨rfl, rfl⟩ := trodVars_none hV
  have h0k := h0
  have h1k := h1
  have h2k := h2
  have h3k := h3
  obtain ⟨a0, l0, c0, rfl, s0, i0, m0⟩ := open_says (okWide_slice Tryz.underlying22 (hval 0 22 v0 rfl rfl)) h0
  obtain ⟨a1, l1, c1, rfl, s1, i1, m1⟩ := open_intsL (okWide_slice Tryz.underlying46 (hval 1 46 v1 rfl rfl)) h1
  obtain ⟨a2, l2, c2, rfl, s2, i2, m2⟩ := open_intsL (okWide_slice Tryz.underlying46 (hval 2 46 v2 rfl rfl)) h2
  obtain ⟨x, rfl, hx2, hx3, wx⟩ := open_int Tryz.underlying3 (hval 3 3 v3 rfl rfl) h3
  have hlt : ∀ x ∈ p0 ++ p1 ++ p2 ++ p3, x.block < W.heap.size := fun x hx => by have := hW'.lt x (by simpa using hx); simpa using this
  clear hA0 hval0 h0 h1 h2 h3
  simp only [List.append_nil] at hW'
  refine (baseCrashes_walk l0 l1 l2 x a0 a1 a2 c0 c1 c2 W s0 m0 i0 s1 m1 (fun x h => by have := i1 x h; unfold i64B; omega) s2 m2 (fun x h => by have := i2 x h; unfold i64B; omega) (wf_i64S wx) (powTab_of_laidBc hL) (errVar_of_laidBc hL) (numVars_of_laidBc hL hsh)).mono fun e W' ⟨he, hb⟩ => ?_
  subst he
  have t0 := Below.trod laidOutBc (by kernel_rfl) (of_decide_eq_true (by kernel_rfl)) h0k hb (fun x hx => hlt x (by simp [hx]))
  have t1 := Below.trod laidOutBc (by kernel_rfl) (of_decide_eq_true (by kernel_rfl)) h1k hb (fun x hx => hlt x (by simp [hx]))
  have t2 := Below.trod laidOutBc (by kernel_rfl) (of_decide_eq_true (by kernel_rfl)) h2k hb (fun x hx => hlt x (by simp [hx]))
  have t3 := Below.trod laidOutBc (by kernel_rfl) (of_decide_eq_true (by kernel_rfl)) h3k hb (fun x hx => hlt x (by simp [hx]))
  exact ⟨_, rfl, _, _, _, [], _, [], hW', trodAll_mk1 (shut_bool Tryz.underlying4 _), trodAll_mk4 t0 t1 t2 t3, rfl, hb.frame _, fun h => by cases h⟩

theorem baseCrashes_row : Rows.BaseCrashesSaid :=
  OpenClaim.holds_of_wide 5 Tryz.f5 rfl rfl rfl rfl rfl rfl rfl ⟨rfl, rfl, rfl, rfl, rfl⟩ rfl rfl rfl rfl rfl (by kernel_rfl) Tryz.func5 jBc
    (of_decide_eq_true (by kernel_rfl)) (by unfold Func.isWrapper; first | (rw [if_pos (by decide +kernel)]; kernel_rfl) | (rw [if_neg (by decide +kernel)]; exact ⟨rfl, rfl⟩))
    (fun os started H enc _ => baseCrashes_lifted os started H enc)

theorem baseCrashes_holds : Rows.BaseCrashesCardSaid :=
  Claim7.holds_tied_plain_at .later [] [.data, .data, .data, .data, .handle, .sentinel, .sentinel, .pinned] true (true, "b8d250f63fa68d1bf1eab8692826e97db3b37e0597505282d86cdcb349f1085d") true
    baseCrashes_row (fun _ h => by cases h) kBc_w (fun _ h => by cases h) baseCrashes_row_tie rfl ⟨rfl, rfl⟩ kBc_m rfl
    (fun f fn hf hfn => by
      obtain rfl : f = 5 := Option.some.inj ((show Tryz.prog.funcNamed "palimpsest/palimpsestkeep.BaseCrashes" = some 5 by kernel_rfl).symm.trans hf) |>.symm
      obtain rfl : fn = Tryz.f5 := (Option.some.inj (Tryz.func5.symm.trans hfn)).symm
      exact ⟨kBc_l, fun j t ht => by
        rw [Tryz.params5] at ht
        rcases j with _ | _ | _ | _ | j
        · have : t = 22 := by simpa using ht.symm
          subst this
          exact kBc_Says
        · have : t = 46 := by simpa using ht.symm
          subst this
          exact kBc_Ints
        · have : t = 46 := by simpa using ht.symm
          subst this
          exact kBc_Ints
        · have : t = 3 := by simpa using ht.symm
          subst this
          exact kBc_int
        · simp at ht⟩)
    kBc_g
#print axioms baseCrashes_holds
end Go.Proofs.YtflhpmgjehjjkaaGreatDoor
