/- sort.Slice's pdqsort. -/
import Derived.Shelf.SlSortFuncK.WholeK
import Derived.Deep.DeepCutAuto
import Derived.Deep.CutBlock
import Derived.Sort.WalkC4
import Derived.Sort.LotD4
import Derived.Sort.Walk11
import Derived.Sort.WalkA6
import Derived.Sort.WalkB3
import Derived.Test.YtflhpmgjehjjkaaGreatDoorSortYJp
import Derived.Test.YtflhpmgjehjjkaaGreatDoorFrameJp
import Derived.Test.YtflhpmgjehjjkaaGreatDoorShelfJp
namespace Go.Proofs.YtflhpmgjehjjkaaGreatDoor
open Go.RowKit Go.Shelf Go.Sort Go.Lib Go.Deep
def Shp (blk : Nat) (w W : World) : Prop := ∀ cur t fz, w.heap[blk]? = some (.cells cur t fz) -> ∃ cur' : Array Value, W.heap[blk]? = some (.cells cur' t fz) /\ cur'.size = cur.size
theorem Shp.refl (blk : Nat) (w : World) : Shp blk w w := fun cur _ _ h => ⟨cur, h, rfl⟩
theorem Shp.trans {blk : Nat} {a b c : World} (h : Shp blk a b) (k : Shp blk b c) : Shp blk a c := fun cur t fz h0 => by
 obtain ⟨c1, h1, e1⟩ := h cur t fz h0
 obtain ⟨c2, h2, e2⟩ := k c1 t fz h1
 exact ⟨c2, h2, e2.trans e1⟩
theorem Shp.same {blk : Nat} {w W : World} (h : W.heap[blk]? = w.heap[blk]?) : Shp blk w W := fun cur _ _ h0 => ⟨cur, h.trans h0, rfl⟩
theorem Shp.set {blk : Nat} {w W : World} (h : Shp blk w W) (i : Nat) (v : Value) : Shp blk w (W.setCell ⟨blk, i, none⟩ v) := h.trans fun cur t fz h0 => ⟨_, block_set h0 i v, by simp⟩
theorem Shp.setCells {blk : Nat} {a : World} : ∀ (vs : List Value) (o : Nat) (w : World), Shp blk a w -> Shp blk a (w.setCells blk o vs)
 | [], _, _, h => h
 | v :: r, o, w, h => by rw [World.setCells]; exact Shp.setCells r (o + 1) _ (h.set o v)
structure At (blk : Nat) (w W : World) (d : Array KeyP) : Prop where
 row : HoldsK encK 4 W blk 0 d
 fr : Fr (· = blk) w W
 lt : blk < w.heap.size
 sh : Shp blk w W
theorem holdsK_same {W W' : World} {blk : Nat} {d : Array KeyP} (h : HoldsK encK 4 W blk 0 d) (hb : W'.heap[blk]? = W.heap[blk]?) : HoldsK encK 4 W' blk 0 d := fun j hj => by
 have := h j hj
 simp only [World.cell?, World.frozen?] at this ⊢
 rw [hb]; exact this
theorem At.start {blk : Nat} {w : World} {d : Array KeyP} (h : HoldsK encK 4 w blk 0 d) (hb : blk < w.heap.size) : At blk w w d := ⟨h, Fr.refl _ _, hb, Shp.refl _ _⟩
theorem At.lt' {blk : Nat} {w W : World} {d : Array KeyP} (h : At blk w W d) : blk < W.heap.size := Nat.lt_of_lt_of_le h.lt h.fr.size
theorem At.here {blk : Nat} {w W : World} {d : Array KeyP} (h : At blk w W d) : At blk W W d := ⟨h.row, Fr.refl _ _, h.lt', Shp.refl _ _⟩
theorem At.trans {blk : Nat} {w W X : World} {d d' : Array KeyP} (h : At blk w W d) (k : At blk W X d') : At blk w X d' := ⟨k.row, h.fr.trans k.fr, h.lt, h.sh.trans k.sh⟩
theorem At.below {blk : Nat} {w W X : World} {d : Array KeyP} (h : At blk w W d) (hb : Below W.heap.size W X) : At blk w X d :=
 ⟨holdsK_same h.row (hb.block _ h.lt'), h.fr.trans (Fr.new hb), h.lt, h.sh.trans (Shp.same (hb.block _ h.lt'))⟩
theorem At.cell {blk : Nat} {w W : World} {d : Array KeyP} (h : At blk w W d) {b o : Nat} {v : Value} (hne : b ≠ blk) (hb : b < w.heap.size) (hc : w.cell? ⟨b, o, none⟩ = some v) : W.cell? ⟨b, o, none⟩ = some v :=
 (World.cell?_of_block (a := ⟨b, o, none⟩) (h.fr.block b hb hne)).trans hc
theorem Fr.setCells {F : Nat -> Prop} {a : World} {b : Nat} (hb : F b) : ∀ (vs : List Value) (o : Nat) (w : World), Fr F a w -> Fr F a (w.setCells b o vs)
 | [], _, _, h => h
 | v :: r, o, w, h => by rw [World.setCells]; exact Fr.setCells hb r (o + 1) _ (h.setCell (p := ⟨b, o, none⟩) (fun _ => hb) v)
theorem At.swap {blk : Nat} {w W : World} {d : Array KeyP} (h : At blk w W d) {i j : Nat} (hi : i < d.size) (hj : j < d.size) :
  At blk w ((W.setCells blk (0 + i * 4) (encK d[j]!)).setCells blk (0 + j * 4) (encK d[i]!)) (swp d i j) := by
 refine ⟨?_, Fr.setCells (F := (· = blk)) rfl _ _ _ (Fr.setCells (F := (· = blk)) rfl _ _ _ h.fr), h.lt, Shp.setCells _ _ _ (Shp.setCells _ _ _ h.sh)⟩
 have e := putRowK_swp encK 4 (fun _ => rfl) W blk 0 d i j hi hj
 rw [putRowK_self _ _ _ _ _ _ h.row] at e
 rw [e]
 exact holdsK_putRowK encK 4 W blk 0 d _ h.row (size_swp _ _ _)
structure SX (g sf blk : Nat) (lb sb : Array Value) (n : Nat) (w : World) : Prop where
 enter : ∀ args X, (callFunc g args).run Tryz.prog X = .ok (.enter g args) X
 less : ∀ X d, At blk w X d -> d.size = n -> ∀ i j : Nat, i < n -> j < n -> Calls Tryz.prog g (#[.int .i64 i, .int .i64 j] ++ lb) X fun e X' => e = .returned (.bool (keyLess d[i]! d[j]!)) /\ Below X.heap.size X X'
 swap : SwapSwapsK Tryz.prog sf sb encK 4 blk 0 n
 size : n < 4611686018427387904
theorem SX.on {g sf blk n : Nat} {lb sb : Array Value} {w W : World} {d : Array KeyP} (h : SX g sf blk lb sb n w) (k : At blk w W d) : SX g sf blk lb sb n W :=
 ⟨h.enter, fun X d' hX => h.less X d' (k.trans hX), h.swap, h.size⟩
theorem SX.ask {g sf blk n : Nat} {lb sb : Array Value} {w X : World} {d : Array KeyP} (h : SX g sf blk lb sb n w) (hA : At blk w X d) (hs : d.size = n) (x y : Int) (i j : Nat) (v : Bool) (hx : x = i) (hy : y = j) (hi : i < n) (hj : j < n) (hv : keyLess d[i]! d[j]! = v) :
  Calls Tryz.prog g (#[.int .i64 x, .int .i64 y] ++ lb) X fun e X' => e = .returned (.bool v) /\ Below X.heap.size X X' := by
 subst hx hy hv
 exact h.less X d hA hs i j hi hj
theorem SX.swaps {g sf blk n : Nat} {lb sb : Array Value} {w X : World} {d : Array KeyP} (h : SX g sf blk lb sb n w) (hA : At blk w X d) (hs : d.size = n) (x y : Int) (i j : Nat) (hx : x = i) (hy : y = j) (hi : i < n) (hj : j < n) :
  ∃ X', (callFunc sf (#[.int .i64 x, .int .i64 y] ++ sb)).run Tryz.prog X = .ok (.value (.tuple #[])) X' /\ At blk X X' (swp d i j) := by
 subst hx hy
 exact ⟨_, h.swap X d hA.row hs i j hi hj, hA.here.swap (by omega) (by omega)⟩
structure Bx (B g sf : Nat) (lb sb : Array Value) (W : World) : Prop where
 c0 : W.cell? ⟨B, 0, none⟩ = some (.func (.func g) #[] lb)
 c1 : W.cell? ⟨B, 1, none⟩ = some (.func (.func sf) #[] sb)
 lt : B < W.heap.size
theorem Bx.new (g sf : Nat) (lb sb : Array Value) (w : World) : Bx w.heap.size g sf lb sb (w.alloc (.cells #[.func (.func g) #[] lb, .func (.func sf) #[] sb] 277)) := ⟨by simp, by simp, by simp⟩
theorem Bx.on {B g sf blk : Nat} {lb sb : Array Value} {w W : World} {d : Array KeyP} (h : Bx B g sf lb sb w) (k : At blk w W d) (hne : B ≠ blk) : Bx B g sf lb sb W := ⟨k.cell hne h.lt h.c0, k.cell hne h.lt h.c1, Nat.lt_of_lt_of_le h.lt k.fr.size⟩
theorem Bx.below {B g sf : Nat} {lb sb : Array Value} {W X : World} (h : Bx B g sf lb sb W) (b : Below W.heap.size W X) : Bx B g sf lb sb X := ⟨below_cell b h.lt h.c0, below_cell b h.lt h.c1, Nat.lt_of_lt_of_le h.lt b.size⟩
set_option maxHeartbeats 2000000 in
set_option maxRecDepth 100000 in
theorem sIns_any {g sf blk n : Nat} {lb sb : Array Value} (a b : Nat) (d : Array KeyP) (w : World) (hX : SX g sf blk lb sb n w) (hA : At blk w w d) (hs : d.size = n) (hab : a <= b) (hb : b <= n) :
  Calls Tryz.prog 206 #[.agg #[.func (.func g) #[] lb, .func (.func sf) #[] sb], .int .i64 a, .int .i64 b] w fun e w' => e = .returned (.tuple #[]) /\ At blk w w' (insertionSort keyLess d a b) := by
 obtain ⟨W1, hW1⟩ : ∃ W1, W1 = w.alloc (.cells #[.func (.func g) #[] lb, .func (.func sf) #[] sb] 277) := ⟨_, rfl⟩
 have hA1 : At blk w W1 d := by rw [hW1]; exact hA.below ((Below.refl _ _).alloc (Nat.le_refl _) _)
 have hB1 : Bx w.heap.size g sf lb sb W1 := by rw [hW1]; exact Bx.new _ _ _ _ _
 have hne : w.heap.size ≠ blk := by have := hA.lt; omega
 have eg := hX.enter
 have hsz := hX.size
 have HX := Lib.hid hX
 have HA1 := Lib.hid hA1
 have HB1 := Lib.hid hB1
 have HW1 := Lib.hid hW1
 clear hX hA hA1 hB1 hW1
 go_enter Tryz.func206, Tryz.ntmps206
 go_wp2_with fail
 rw [<- HW1.out]
 go_loopw [6] (fun vi X => ∃ (i : Nat) (dk : Array KeyP), vi = .int .i64 i /\ a < i /\ i <= b + 1 /\ dk.size = n /\ At blk w X dk /\ Bx w.heap.size g sf lb sb X /\ insOuter keyLess a b i dk = insOuter keyLess a b (a + 1) d) (fun vi _ => b + 1 - (intOf vi).toNat)
 case atStart => exact ⟨a + 1, d, by go_num, by omega, by omega, hs, HA1.out, HB1.out, rfl⟩
 case round =>
  obtain ⟨i, dk, rfl, hai, hib, hsk, hAt, hBx, hO⟩ := hrel
  have HO := Lib.hid hO
  have HAT := Lib.hid hAt
  have HBX := Lib.hid hBx
  clear hO hAt hBx
  by_cases hlt : i < b
  · have hltz : (i : Int) < (b : Int) := by omega
    go_wp2_with fail
    go_loopw [7] (fun vj X => ∃ (j : Nat) (dj : Array KeyP), vj = .int .i64 j /\ a <= j /\ j <= i /\ dj.size = n /\ At blk w X dj /\ Bx w.heap.size g sf lb sb X /\ insInner keyLess a j dj = insInner keyLess a i dk) (fun vj _ => (intOf vj).toNat)
    case atStart => exact ⟨i, dk, rfl, by omega, Nat.le_refl _, hsk, HAT.out, HBX.out, rfl⟩
    case round =>
     obtain ⟨j, dj, rfl, haj, hji, hsj, hAt2, hBx2, hI⟩ := hrel
     have HI := Lib.hid hI
     have HA2 := Lib.hid hAt2
     have HB2 := Lib.hid hBx2
     obtain ⟨c0, c1, hBl⟩ := hBx2
     have OUT := Lib.hid fun (hst : j <= a \/ keyLess dj[j]! dj[j - 1]! = false) => (show insOuter keyLess a b (i + 1) dj = insOuter keyLess a b (a + 1) d by rw [<- HO.out, insOuter_go _ _ _ _ _ hlt, <- HI.out, insInner_stop _ _ _ _ hst])
     clear hI hAt2
     by_cases hja : a < j
     · have hjaz : (a : Int) < (j : Int) := by omega
       cases hlv : keyLess dj[j]! dj[j - 1]! with
       | true =>
         have hl := HX.out.ask HA2.out hsj (j : Int) ((j : Int) - 1) j (j - 1) true rfl (by omega) (by omega) (by omega) hlv
         go_wp2_with (go_at_fn g; refine hl.mono ?_; rintro e w' ⟨rfl, b'⟩; have HA' := Lib.hid (HA2.out.below b'); have HB' := Lib.hid (HB2.out.below b'); obtain ⟨c0', c1', hBl'⟩ := HB'.out; obtain ⟨X', hsw, hA''⟩ := HX.out.swaps HA'.out hsj (j : Int) ((j : Int) - 1) j (j - 1) rfl (by omega) (by omega) (by omega); have HA'' := Lib.hid (HA'.out.trans hA''); have HB'' := Lib.hid (HB'.out.on hA'' hne); clear b' hA'')
         exact ⟨⟨j - 1, swp dj j (j - 1), by congr 1; omega, by omega, by omega, by rw [size_swp]; exact hsj, HA''.out, HB''.out, by rw [<- HI.out, insInner_go keyLess a j dj hja hlv]⟩, by simp [intOf]; omega⟩
       | false =>
         have hl := HX.out.ask HA2.out hsj (j : Int) ((j : Int) - 1) j (j - 1) false rfl (by omega) (by omega) (by omega) hlv
         go_wp2_with (go_at_fn g; refine hl.mono ?_; rintro e w' ⟨rfl, b'⟩; have HA' := Lib.hid (HA2.out.below b'); have HB' := Lib.hid (HB2.out.below b'); clear b')
         exact ⟨⟨i + 1, dj, by go_num, by omega, by omega, hsj, HA'.out, HB'.out, OUT.out (.inr hlv)⟩, by simp [intOf]; omega⟩
     · have hjaz : ¬ ((a : Int) < (j : Int)) := by omega
       go_wp2_with fail
       exact ⟨⟨i + 1, dj, by go_num, by omega, by omega, hsj, HA2.out, HB2.out, OUT.out (.inl (by omega))⟩, by simp [intOf]; omega⟩
  · have hltz : ¬ ((i : Int) < (b : Int)) := by omega
    go_wp2_with fail
    go_end0
    exact ⟨rfl, by unfold insertionSort; rw [<- HO.out, insOuter_stop _ _ _ _ _ hlt]; exact HAT.out⟩
set_option maxHeartbeats 8000000 in
set_option maxRecDepth 100000 in
theorem sPartEq_any {g sf blk n : Nat} {lb sb : Array Value} (a b pivot : Nat) (d : Array KeyP) (w : World) (hX : SX g sf blk lb sb n w) (hA : At blk w w d) (hs : d.size = n) (hap : a <= pivot) (hpb : pivot < b) (hb : b <= n) :
  Calls Tryz.prog 212 #[.agg #[.func (.func g) #[] lb, .func (.func sf) #[] sb], .int .i64 a, .int .i64 b, .int .i64 pivot] w fun e w' => e = .returned (.int .i64 (partitionEqual keyLess d a b pivot).1) /\ At blk w w' (partitionEqual keyLess d a b pivot).2 := by
 obtain ⟨W1, hW1⟩ : ∃ W1, W1 = w.alloc (.cells #[.func (.func g) #[] lb, .func (.func sf) #[] sb] 277) := ⟨_, rfl⟩
 have hA1 : At blk w W1 d := by rw [hW1]; exact hA.below ((Below.refl _ _).alloc (Nat.le_refl _) _)
 have hB1 : Bx w.heap.size g sf lb sb W1 := by rw [hW1]; exact Bx.new _ _ _ _ _
 have hne : w.heap.size ≠ blk := by have := hA.lt; omega
 have eg := hX.enter
 have hsz := hX.size
 obtain ⟨W2, hsw, hA2⟩ := hX.swaps hA1 hs (a : Int) (pivot : Int) a pivot rfl rfl (by omega) (by omega)
 have hB2 := hB1.on hA2 hne
 have HA2 := Lib.hid (hA1.trans hA2)
 have HB2 := Lib.hid hB2
 have HX := Lib.hid hX
 obtain ⟨c0, c1, hBl⟩ := hB1
 have HW1 := Lib.hid hW1
 have hs2 : (swp d a pivot).size = n := by rw [size_swp]; exact hs
 clear hX hA hA1 hW1 hA2 hB2
 go_enter Tryz.func212, Tryz.ntmps212
 go_wp2_with (rw [<- HW1.out])
 go_loopw [9, 10] (fun vi vj X => ∃ (i j : Nat) (dk : Array KeyP), vi = .int .i64 i /\ vj = .int .i64 j /\ a < i /\ i <= j + 1 /\ j < b /\ dk.size = n /\ At blk w X dk /\ Bx w.heap.size g sf lb sb X /\ partEqLoop keyLess a i j dk = partEqLoop keyLess a (a + 1) (b - 1) (swp d a pivot)) (fun vi vj _ => (intOf vj).toNat + 1 - (intOf vi).toNat)
 case atStart => exact ⟨a + 1, b - 1, _, by go_num, by go_num, by omega, by omega, by omega, hs2, HA2.out, HB2.out, rfl⟩
 case round =>
  obtain ⟨i, j, dk, rfl, rfl, hai, hij, hjb, hsk, hAt, hBx, hO⟩ := hrel
  have HO := Lib.hid hO
  have HA3 := Lib.hid hAt
  have HB3 := Lib.hid hBx
  clear hO hAt hBx c0 c1 hBl
  go_upto_block 2 with fail
  go_cut [9] (fun v X => ∃ i' : Nat, v = .int .i64 i' /\ i <= i' /\ i' <= j + 1 /\ i' = scanUp (fun x => !keyLess dk[a]! x) dk j i /\ At blk w X dk /\ Bx w.heap.size g sf lb sb X)
  case first =>
   go_wp2_with fail
   go_loopw [9] (fun v X => ∃ i' : Nat, v = .int .i64 i' /\ i <= i' /\ i' <= j + 1 /\ scanUp (fun x => !keyLess dk[a]! x) dk j i' = scanUp (fun x => !keyLess dk[a]! x) dk j i /\ At blk w X dk /\ Bx w.heap.size g sf lb sb X) (fun v _ => j + 1 - (intOf v).toNat)
   case atStart => exact ⟨i, rfl, Nat.le_refl _, hij, rfl, HA3.out, HB3.out⟩
   case round =>
    obtain ⟨i', rfl, hi1, hi2, hsc, hAt, hBx⟩ := hrel
    have HS := Lib.hid hsc
    have HA4 := Lib.hid hAt
    have HB4 := Lib.hid hBx
    obtain ⟨c0, c1, hBl⟩ := hBx
    clear hsc hAt
    by_cases hle : i' <= j
    · have hlez : (i' : Int) <= (j : Int) := by omega
      cases hlv : keyLess dk[a]! dk[i']! with
      | false =>
        have hl := HX.out.ask HA4.out hsk (a : Int) (i' : Int) a i' false rfl rfl (by omega) (by omega) hlv
        go_wp2_with (go_at_fn g; refine hl.mono ?_; rintro e w' ⟨rfl, b'⟩; have HA' := Lib.hid (HA4.out.below b'); have HB' := Lib.hid (HB4.out.below b'); clear b')
        exact ⟨⟨i' + 1, by go_num, by omega, by omega, (scanUp_go (fun x => !keyLess dk[a]! x) dk j i' hle (by rw [hlv]; rfl)).symm.trans HS.out, HA'.out, HB'.out⟩, by simp [intOf]; omega⟩
      | true =>
        have hl := HX.out.ask HA4.out hsk (a : Int) (i' : Int) a i' true rfl rfl (by omega) (by omega) hlv
        go_wp2_with (go_at_fn g; refine hl.mono ?_; rintro e w' ⟨rfl, b'⟩; have HA' := Lib.hid (HA4.out.below b'); have HB' := Lib.hid (HB4.out.below b'); clear b')
        go_meet
        exact ⟨i', rfl, hi1, hi2, (scanUp_end (fun x => !keyLess dk[a]! x) dk j i' (.inr (by rw [hlv]; rfl))).symm.trans HS.out, HA'.out, HB'.out⟩
    · have hlez : ¬ (i' : Int) <= (j : Int) := by omega
      go_wp2_with fail
      go_meet
      exact ⟨i', rfl, hi1, hi2, (scanUp_end (fun x => !keyLess dk[a]! x) dk j i' (.inl hle)).symm.trans HS.out, HA4.out, HB4.out⟩
  case rest =>
   obtain ⟨i2, rfl, hi1, hi2, he2, hAt, hBx⟩ := hcut
   have HE2 := Lib.hid he2
   have HA4 := Lib.hid hAt
   have HB4 := Lib.hid hBx
   clear he2 hAt hBx HA3 HB3
   go_upto_block 4 with fail
   go_cut [10] (fun v X => ∃ j' : Nat, v = .int .i64 j' /\ j' <= j /\ i2 <= j' + 1 /\ j' = scanDown (fun x => keyLess dk[a]! x) dk i2 j /\ At blk w X dk /\ Bx w.heap.size g sf lb sb X)
   case first =>
    go_wp2_with fail
    go_loopw [10] (fun v X => ∃ j' : Nat, v = .int .i64 j' /\ j' <= j /\ i2 <= j' + 1 /\ scanDown (fun x => keyLess dk[a]! x) dk i2 j' = scanDown (fun x => keyLess dk[a]! x) dk i2 j /\ At blk w X dk /\ Bx w.heap.size g sf lb sb X) (fun v _ => (intOf v).toNat)
    case atStart => exact ⟨j, rfl, Nat.le_refl _, hi2, rfl, HA4.out, HB4.out⟩
    case round =>
     obtain ⟨j', rfl, hj1, hj2, hsc, hAt, hBx⟩ := hrel
     have HS := Lib.hid hsc
     have HA5 := Lib.hid hAt
     have HB5 := Lib.hid hBx
     obtain ⟨c0, c1, hBl⟩ := hBx
     clear hsc hAt
     by_cases hle : i2 <= j'
     · have hlez : (i2 : Int) <= (j' : Int) := by omega
       cases hlv : keyLess dk[a]! dk[j']! with
       | true =>
         have hl := HX.out.ask HA5.out hsk (a : Int) (j' : Int) a j' true rfl rfl (by omega) (by omega) hlv
         go_wp2_with (go_at_fn g; refine hl.mono ?_; rintro e w' ⟨rfl, b'⟩; have HA' := Lib.hid (HA5.out.below b'); have HB' := Lib.hid (HB5.out.below b'); clear b')
         exact ⟨⟨j' - 1, by congr 1; omega, by omega, by omega, (scanDown_go (fun x => keyLess dk[a]! x) dk i2 j' hle (by omega) hlv).symm.trans HS.out, HA'.out, HB'.out⟩, by simp [intOf]; omega⟩
       | false =>
         have hl := HX.out.ask HA5.out hsk (a : Int) (j' : Int) a j' false rfl rfl (by omega) (by omega) hlv
         go_wp2_with (go_at_fn g; refine hl.mono ?_; rintro e w' ⟨rfl, b'⟩; have HA' := Lib.hid (HA5.out.below b'); have HB' := Lib.hid (HB5.out.below b'); clear b')
         go_meet
         exact ⟨j', rfl, hj1, hj2, (scanDown_end (fun x => keyLess dk[a]! x) dk i2 j' (.inr hlv)).symm.trans HS.out, HA'.out, HB'.out⟩
     · have hlez : ¬ (i2 : Int) <= (j' : Int) := by omega
       go_wp2_with fail
       go_meet
       exact ⟨j', rfl, hj1, hj2, (scanDown_end (fun x => keyLess dk[a]! x) dk i2 j' (.inl hle)).symm.trans HS.out, HA5.out, HB5.out⟩
   case rest =>
    obtain ⟨j2, rfl, hj1, hj2, he3, hAt, hBx⟩ := hcut
    have HE3 := Lib.hid he3
    have HA5 := Lib.hid hAt
    have HB5 := Lib.hid hBx
    obtain ⟨c0, c1, hBl⟩ := hBx
    clear he3 hAt HA4 HB4
    by_cases hle : i2 <= j2
    · have hlez : ¬ (i2 : Int) > (j2 : Int) := by omega
      have hlt3 := scans_lt keyLess a i j dk (by omega) HE2.out HE3.out hle
      obtain ⟨X', hsw, hA''⟩ := HX.out.swaps HA5.out hsk (i2 : Int) (j2 : Int) i2 j2 rfl rfl (by omega) (by omega)
      have HA'' := Lib.hid (HA5.out.trans hA'')
      have HB'' := Lib.hid (HB5.out.on hA'' hne)
      clear hA''
      go_wp2_with fail
      exact ⟨⟨i2 + 1, j2 - 1, swp dk i2 j2, by go_num, by congr 1; omega, by omega, by omega, by omega, by rw [size_swp]; exact hsk, HA''.out, HB''.out, by rw [<- HO.out]; exact (partEq_go keyLess a i j dk HE2.out HE3.out (by omega)).symm⟩, by simp [intOf]; omega⟩
    · have hlez : (i2 : Int) > (j2 : Int) := by omega
      have hv : partitionEqual keyLess d a b pivot = (i2, dk) := by unfold partitionEqual; rw [<- HO.out]; exact partEq_break keyLess a i j dk HE2.out HE3.out (by omega)
      have HV := Lib.hid hv
      clear hv
      go_wp2_with fail
      go_ret
      exact ⟨by rw [HV.out]; try rfl, by rw [HV.out]; exact HA5.out⟩
set_option maxHeartbeats 8000001 in
set_option maxRecDepth 100000 in
theorem sPart_any {g sf blk n : Nat} {lb sb : Array Value} (a b pivot : Nat) (d : Array KeyP) (w : World) (hX : SX g sf blk lb sb n w) (hA : At blk w w d) (hs : d.size = n) (hap : a <= pivot) (hpb : pivot < b) (hb : b <= n) :
  Calls Tryz.prog 213 #[.agg #[.func (.func g) #[] lb, .func (.func sf) #[] sb], .int .i64 a, .int .i64 b, .int .i64 pivot] w fun e w' => e = .returned (.tuple #[.int .i64 (partition keyLess d a b pivot).1, .bool (partition keyLess d a b pivot).2.1]) /\ At blk w w' (partition keyLess d a b pivot).2.2 := by
 obtain ⟨W1, hW1⟩ : ∃ W1, W1 = w.alloc (.cells #[.func (.func g) #[] lb, .func (.func sf) #[] sb] 277) := ⟨_, rfl⟩
 have hA1 : At blk w W1 d := by rw [hW1]; exact hA.below ((Below.refl _ _).alloc (Nat.le_refl _) _)
 have hB1 : Bx w.heap.size g sf lb sb W1 := by rw [hW1]; exact Bx.new _ _ _ _ _
 have hne : w.heap.size ≠ blk := by have := hA.lt; omega
 have eg := hX.enter
 have hsz := hX.size
 obtain ⟨W2, hsw, hA2⟩ := hX.swaps hA1 hs (a : Int) (pivot : Int) a pivot rfl rfl (by omega) (by omega)
 obtain ⟨i0, hi0⟩ : ∃ i0, i0 = a + 1 := ⟨_, rfl⟩
 obtain ⟨j0, hj0⟩ : ∃ j0, j0 = b - 1 := ⟨_, rfl⟩
 obtain ⟨d0, hd0⟩ : ∃ d0, d0 = swp d a pivot := ⟨_, rfl⟩
 rw [<- hd0] at hA2
 have hB2 := hB1.on hA2 hne
 have HA2 := Lib.hid (hA1.trans hA2)
 have HB2 := Lib.hid hB2
 have HX := Lib.hid hX
 obtain ⟨c0, c1, hBl⟩ := hB1
 have HW1 := Lib.hid hW1
 have hsk : d0.size = n := by rw [hd0, size_swp]; exact hs
 have HI0 := Lib.hid hi0
 have HJ0 := Lib.hid hj0
 have HD0 := Lib.hid hd0
 have hia : a < i0 := by omega
 have hij0 : i0 <= j0 + 1 := by omega
 have hjb0 : j0 < b := by omega
 have hii : (a : Int) + 1 = (i0 : Int) := by omega
 have hjj : (b : Int) - 1 = (j0 : Int) := by omega
 clear hX hA hA1 hW1 hA2 hB2 hi0 hj0 hd0
 go_enter Tryz.func213, Tryz.ntmps213
 go_upto_block 0 with (rw [<- HW1.out])
 clear c0 c1 hBl hsw
 go_upto_block 0 with fail
 go_cut [10] (fun v X => ∃ i' : Nat, v = .int .i64 i' /\ i0 <= i' /\ i' <= j0 + 1 /\ i' = scanUp (fun x => keyLess x d0[a]!) d0 j0 i0 /\ At blk w X d0 /\ Bx w.heap.size g sf lb sb X)
 case first =>
  go_wp2_with fail
  go_loopw [10] (fun v X => ∃ i' : Nat, v = .int .i64 i' /\ i0 <= i' /\ i' <= j0 + 1 /\ scanUp (fun x => keyLess x d0[a]!) d0 j0 i' = scanUp (fun x => keyLess x d0[a]!) d0 j0 i0 /\ At blk w X d0 /\ Bx w.heap.size g sf lb sb X) (fun v _ => j0 + 1 - (intOf v).toNat)
  case atStart => exact ⟨i0, by go_num, Nat.le_refl _, by omega, rfl, HA2.out, HB2.out⟩
  case round =>
   obtain ⟨i', rfl, hi1, hi2, hsc, hAt, hBx⟩ := hrel
   have HS := Lib.hid hsc
   have HA4 := Lib.hid hAt
   have HB4 := Lib.hid hBx
   obtain ⟨c0, c1, hBl⟩ := hBx
   clear hsc hAt
   by_cases hle : i' <= j0
   · have hlez : (i' : Int) <= (j0 : Int) := by omega
     cases hlv : keyLess d0[i']! d0[a]! with
     | true =>
       have hl := HX.out.ask HA4.out hsk (i' : Int) (a : Int) i' a true rfl rfl (by omega) (by omega) hlv
       go_wp2_with (go_at_fn g; refine hl.mono ?_; rintro e w' ⟨rfl, b'⟩; have HA' := Lib.hid (HA4.out.below b'); have HB' := Lib.hid (HB4.out.below b'); clear b')
       exact ⟨⟨i' + 1, by go_num, by omega, by omega, (scanUp_go (fun x => keyLess x d0[a]!) d0 j0 i' hle hlv).symm.trans HS.out, HA'.out, HB'.out⟩, by simp [intOf]; omega⟩
     | false =>
       have hl := HX.out.ask HA4.out hsk (i' : Int) (a : Int) i' a false rfl rfl (by omega) (by omega) hlv
       go_wp2_with (go_at_fn g; refine hl.mono ?_; rintro e w' ⟨rfl, b'⟩; have HA' := Lib.hid (HA4.out.below b'); have HB' := Lib.hid (HB4.out.below b'); clear b')
       go_meet
       exact ⟨i', rfl, hi1, hi2, (scanUp_end (fun x => keyLess x d0[a]!) d0 j0 i' (.inr hlv)).symm.trans HS.out, HA'.out, HB'.out⟩
   · have hlez : ¬ (i' : Int) <= (j0 : Int) := by omega
     go_wp2_with fail
     go_meet
     exact ⟨i', rfl, hi1, hi2, (scanUp_end (fun x => keyLess x d0[a]!) d0 j0 i' (.inl hle)).symm.trans HS.out, HA4.out, HB4.out⟩
 case rest =>
  obtain ⟨i2, rfl, hi1, hi2, he2, hAt, hBx⟩ := hcut
  have HE2 := Lib.hid he2
  have HA4 := Lib.hid hAt
  have HB4 := Lib.hid hBx
  clear he2 hAt hBx
  go_upto_block 2 with fail
  go_cut [11] (fun v X => ∃ j' : Nat, v = .int .i64 j' /\ j' <= j0 /\ i2 <= j' + 1 /\ j' = scanDown (fun x => !keyLess x d0[a]!) d0 i2 j0 /\ At blk w X d0 /\ Bx w.heap.size g sf lb sb X)
  case first =>
   go_wp2_with fail
   go_loopw [11] (fun v X => ∃ j' : Nat, v = .int .i64 j' /\ j' <= j0 /\ i2 <= j' + 1 /\ scanDown (fun x => !keyLess x d0[a]!) d0 i2 j' = scanDown (fun x => !keyLess x d0[a]!) d0 i2 j0 /\ At blk w X d0 /\ Bx w.heap.size g sf lb sb X) (fun v _ => (intOf v).toNat)
   case atStart => exact ⟨j0, (by first | rfl | (congr 1; omega)), Nat.le_refl _, hi2, rfl, HA4.out, HB4.out⟩
   case round =>
    obtain ⟨j', rfl, hj1, hj2, hsc, hAt, hBx⟩ := hrel
    have HS := Lib.hid hsc
    have HA5 := Lib.hid hAt
    have HB5 := Lib.hid hBx
    obtain ⟨c0, c1, hBl⟩ := hBx
    clear hsc hAt
    by_cases hle : i2 <= j'
    · have hlez : (i2 : Int) <= (j' : Int) := by omega
      cases hlv : keyLess d0[j']! d0[a]! with
      | false =>
        have hl := HX.out.ask HA5.out hsk (j' : Int) (a : Int) j' a false rfl rfl (by omega) (by omega) hlv
        go_wp2_with (go_at_fn g; refine hl.mono ?_; rintro e w' ⟨rfl, b'⟩; have HA' := Lib.hid (HA5.out.below b'); have HB' := Lib.hid (HB5.out.below b'); clear b')
        exact ⟨⟨j' - 1, by congr 1; omega, by omega, by omega, (scanDown_go (fun x => !keyLess x d0[a]!) d0 i2 j' hle (by omega) (by rw [hlv]; rfl)).symm.trans HS.out, HA'.out, HB'.out⟩, by simp [intOf]; omega⟩
      | true =>
        have hl := HX.out.ask HA5.out hsk (j' : Int) (a : Int) j' a true rfl rfl (by omega) (by omega) hlv
        go_wp2_with (go_at_fn g; refine hl.mono ?_; rintro e w' ⟨rfl, b'⟩; have HA' := Lib.hid (HA5.out.below b'); have HB' := Lib.hid (HB5.out.below b'); clear b')
        go_meet
        exact ⟨j', rfl, hj1, hj2, (scanDown_end (fun x => !keyLess x d0[a]!) d0 i2 j' (.inr (by rw [hlv]; rfl))).symm.trans HS.out, HA'.out, HB'.out⟩
    · have hlez : ¬ (i2 : Int) <= (j' : Int) := by omega
      go_wp2_with fail
      go_meet
      exact ⟨j', rfl, hj1, hj2, (scanDown_end (fun x => !keyLess x d0[a]!) d0 i2 j' (.inl hle)).symm.trans HS.out, HA5.out, HB5.out⟩
  case rest =>
   obtain ⟨j2, rfl, hj1, hj2, he3, hAt, hBx⟩ := hcut
   have HE3 := Lib.hid he3
   have HA5 := Lib.hid hAt
   have HB5 := Lib.hid hBx
   obtain ⟨c0, c1, hBl⟩ := hBx
   clear he3 hAt
   by_cases hle : i2 <= j2
   · have hlez : ¬ (i2 : Int) > (j2 : Int) := by omega
     have hlt3 := part_scans_lt keyLess a i0 j0 d0 (by omega) HE2.out HE3.out hle
     have hP := part_first_go keyLess d a b pivot HI0.out HJ0.out HD0.out HE2.out HE3.out (by omega)
     have HP := Lib.hid hP
     obtain ⟨X', hsw, hA''⟩ := HX.out.swaps HA5.out hsk (i2 : Int) (j2 : Int) i2 j2 rfl rfl (by omega) (by omega)
     have HA'' := Lib.hid (HA5.out.trans hA'')
     have HB'' := Lib.hid (HB5.out.on hA'' hne)
     have hs3 : (swp d0 i2 j2).size = n := by rw [size_swp]; exact hsk
     clear hA'' hP
     go_wp2_with fail
     go_loopw [10, 11] (fun vi vj X => ∃ (i j : Nat) (dk : Array KeyP), vi = .int .i64 i /\ vj = .int .i64 j /\ a < i /\ i <= j + 1 /\ j < b /\ dk.size = n /\ At blk w X dk /\ Bx w.heap.size g sf lb sb X /\ partLoop keyLess a i j dk = partLoop keyLess a (i2 + 1) (j2 - 1) (swp d0 i2 j2)) (fun vi vj _ => (intOf vj).toNat + 1 - (intOf vi).toNat)
     case atStart => exact ⟨i2 + 1, j2 - 1, _, by go_num, by congr 1; omega, by omega, by omega, by omega, hs3, HA''.out, HB''.out, rfl⟩
     case round =>
      clear HE2 HE3 hlt3 hle hlez hsk c0 c1 hBl hsw
      obtain ⟨i, j, dk, rfl, rfl, hai, hij, hjb, hsk, hAt, hBx, hO⟩ := hrel
      have HO := Lib.hid hO
      have HA3 := Lib.hid hAt
      have HB3 := Lib.hid hBx
      clear hO hAt hBx
      go_upto_block 6 with fail
      go_cut [10] (fun v X => ∃ i' : Nat, v = .int .i64 i' /\ i <= i' /\ i' <= j + 1 /\ i' = scanUp (fun x => keyLess x dk[a]!) dk j i /\ At blk w X dk /\ Bx w.heap.size g sf lb sb X)
      case first =>
       go_wp2_with fail
       go_loopw [10] (fun v X => ∃ i' : Nat, v = .int .i64 i' /\ i <= i' /\ i' <= j + 1 /\ scanUp (fun x => keyLess x dk[a]!) dk j i' = scanUp (fun x => keyLess x dk[a]!) dk j i /\ At blk w X dk /\ Bx w.heap.size g sf lb sb X) (fun v _ => j + 1 - (intOf v).toNat)
       case atStart => exact ⟨i, by go_num, Nat.le_refl _, by omega, rfl, HA3.out, HB3.out⟩
       case round =>
        obtain ⟨i', rfl, hi1, hi2, hsc, hAt, hBx⟩ := hrel
        have HS := Lib.hid hsc
        have HA4 := Lib.hid hAt
        have HB4 := Lib.hid hBx
        obtain ⟨c0, c1, hBl⟩ := hBx
        clear hsc hAt
        by_cases hle : i' <= j
        · have hlez : (i' : Int) <= (j : Int) := by omega
          cases hlv : keyLess dk[i']! dk[a]! with
          | true =>
            have hl := HX.out.ask HA4.out hsk (i' : Int) (a : Int) i' a true rfl rfl (by omega) (by omega) hlv
            go_wp2_with (go_at_fn g; refine hl.mono ?_; rintro e w' ⟨rfl, b'⟩; have HA' := Lib.hid (HA4.out.below b'); have HB' := Lib.hid (HB4.out.below b'); clear b')
            exact ⟨⟨i' + 1, by go_num, by omega, by omega, (scanUp_go (fun x => keyLess x dk[a]!) dk j i' hle hlv).symm.trans HS.out, HA'.out, HB'.out⟩, by simp [intOf]; omega⟩
          | false =>
            have hl := HX.out.ask HA4.out hsk (i' : Int) (a : Int) i' a false rfl rfl (by omega) (by omega) hlv
            go_wp2_with (go_at_fn g; refine hl.mono ?_; rintro e w' ⟨rfl, b'⟩; have HA' := Lib.hid (HA4.out.below b'); have HB' := Lib.hid (HB4.out.below b'); clear b')
            go_meet
            exact ⟨i', rfl, hi1, hi2, (scanUp_end (fun x => keyLess x dk[a]!) dk j i' (.inr hlv)).symm.trans HS.out, HA'.out, HB'.out⟩
        · have hlez : ¬ (i' : Int) <= (j : Int) := by omega
          go_wp2_with fail
          go_meet
          exact ⟨i', rfl, hi1, hi2, (scanUp_end (fun x => keyLess x dk[a]!) dk j i' (.inl hle)).symm.trans HS.out, HA4.out, HB4.out⟩
      case rest =>
       obtain ⟨i2, rfl, hi1, hi2, he2, hAt, hBx⟩ := hcut
       have HE2 := Lib.hid he2
       have HA4 := Lib.hid hAt
       have HB4 := Lib.hid hBx
       clear he2 hAt hBx
       go_upto_block 8 with fail
       go_cut [11] (fun v X => ∃ j' : Nat, v = .int .i64 j' /\ j' <= j /\ i2 <= j' + 1 /\ j' = scanDown (fun x => !keyLess x dk[a]!) dk i2 j /\ At blk w X dk /\ Bx w.heap.size g sf lb sb X)
       case first =>
        go_wp2_with fail
        go_loopw [11] (fun v X => ∃ j' : Nat, v = .int .i64 j' /\ j' <= j /\ i2 <= j' + 1 /\ scanDown (fun x => !keyLess x dk[a]!) dk i2 j' = scanDown (fun x => !keyLess x dk[a]!) dk i2 j /\ At blk w X dk /\ Bx w.heap.size g sf lb sb X) (fun v _ => (intOf v).toNat)
        case atStart => exact ⟨j, (by first | rfl | (congr 1; omega)), Nat.le_refl _, hi2, rfl, HA4.out, HB4.out⟩
        case round =>
         obtain ⟨j', rfl, hj1, hj2, hsc, hAt, hBx⟩ := hrel
         have HS := Lib.hid hsc
         have HA5 := Lib.hid hAt
         have HB5 := Lib.hid hBx
         obtain ⟨c0, c1, hBl⟩ := hBx
         clear hsc hAt
         by_cases hle : i2 <= j'
         · have hlez : (i2 : Int) <= (j' : Int) := by omega
           cases hlv : keyLess dk[j']! dk[a]! with
           | false =>
             have hl := HX.out.ask HA5.out hsk (j' : Int) (a : Int) j' a false rfl rfl (by omega) (by omega) hlv
             go_wp2_with (go_at_fn g; refine hl.mono ?_; rintro e w' ⟨rfl, b'⟩; have HA' := Lib.hid (HA5.out.below b'); have HB' := Lib.hid (HB5.out.below b'); clear b')
             exact ⟨⟨j' - 1, by congr 1; omega, by omega, by omega, (scanDown_go (fun x => !keyLess x dk[a]!) dk i2 j' hle (by omega) (by rw [hlv]; rfl)).symm.trans HS.out, HA'.out, HB'.out⟩, by simp [intOf]; omega⟩
           | true =>
             have hl := HX.out.ask HA5.out hsk (j' : Int) (a : Int) j' a true rfl rfl (by omega) (by omega) hlv
             go_wp2_with (go_at_fn g; refine hl.mono ?_; rintro e w' ⟨rfl, b'⟩; have HA' := Lib.hid (HA5.out.below b'); have HB' := Lib.hid (HB5.out.below b'); clear b')
             go_meet
             exact ⟨j', rfl, hj1, hj2, (scanDown_end (fun x => !keyLess x dk[a]!) dk i2 j' (.inr (by rw [hlv]; rfl))).symm.trans HS.out, HA'.out, HB'.out⟩
         · have hlez : ¬ (i2 : Int) <= (j' : Int) := by omega
           go_wp2_with fail
           go_meet
           exact ⟨j', rfl, hj1, hj2, (scanDown_end (fun x => !keyLess x dk[a]!) dk i2 j' (.inl hle)).symm.trans HS.out, HA5.out, HB5.out⟩
       case rest =>
        obtain ⟨j2, rfl, hj1, hj2, he3, hAt, hBx⟩ := hcut
        have HE3 := Lib.hid he3
        have HA5 := Lib.hid hAt
        have HB5 := Lib.hid hBx
        obtain ⟨c0, c1, hBl⟩ := hBx
        clear he3 hAt
        by_cases hle : i2 <= j2
        · have hlez : ¬ (i2 : Int) > (j2 : Int) := by omega
          have hlt3 := part_scans_lt keyLess a i j dk (by omega) HE2.out HE3.out hle
          obtain ⟨X', hsw, hA''⟩ := HX.out.swaps HA5.out hsk (i2 : Int) (j2 : Int) i2 j2 rfl rfl (by omega) (by omega)
          have HA'' := Lib.hid (HA5.out.trans hA'')
          have HB'' := Lib.hid (HB5.out.on hA'' hne)
          clear hA''
          go_wp2_with fail
          exact ⟨⟨i2 + 1, j2 - 1, swp dk i2 j2, by go_num, by congr 1; omega, by omega, by omega, by omega, by rw [size_swp]; exact hsk, HA''.out, HB''.out, by rw [<- HO.out]; exact (part_go keyLess a i j dk HE2.out HE3.out (by omega)).symm⟩, by simp [intOf]; omega⟩
        · have hlez : (i2 : Int) > (j2 : Int) := by omega
          have hv : partition keyLess d a b pivot = (j2, false, swp dk j2 a) := by rw [HP.out, <- HO.out, part_break keyLess a i j dk HE2.out HE3.out (by omega)]
          have HV := Lib.hid hv
          obtain ⟨X', hsw, hA''⟩ := HX.out.swaps HA5.out hsk (j2 : Int) (a : Int) j2 a rfl rfl (by omega) (by omega)
          have HA'' := Lib.hid (HA5.out.trans hA'')
          clear hv hA''
          go_wp2_with fail
          go_ret2
          exact ⟨by rw [HV.out]; try rfl, by rw [HV.out]; exact HA''.out⟩
   · have hlez : (i2 : Int) > (j2 : Int) := by omega
     have hv := part_first_break keyLess d a b pivot HI0.out HJ0.out HD0.out HE2.out HE3.out (by omega)
     have HV := Lib.hid hv
     obtain ⟨X', hsw, hA''⟩ := HX.out.swaps HA5.out hsk (j2 : Int) (a : Int) j2 a rfl rfl (by omega) (by omega)
     have HA'' := Lib.hid (HA5.out.trans hA'')
     clear hv hA''
     go_wp2_with fail
     go_ret2
     exact ⟨by rw [HV.out]; try rfl, by rw [HV.out]; exact HA''.out⟩
theorem At.ctr {blk c : Nat} {w X Y : World} {d : Array KeyP} (h : At blk w X d) (k : Fr (· = c) X Y) (hc : w.heap.size <= c) : At blk w Y d :=
 ⟨holdsK_same h.row (k.block blk h.lt' (by have := h.lt; intro e; omega)), h.fr.next k (fun i hi e => by have := h.lt; omega), h.lt, h.sh.trans (Shp.same (k.block blk h.lt' (by have := h.lt; intro e; omega)))⟩
theorem Bx.ctr {B g sf c : Nat} {lb sb : Array Value} {X Y : World} (h : Bx B g sf lb sb X) (k : Fr (· = c) X Y) (hne : B ≠ c) : Bx B g sf lb sb Y :=
 ⟨(World.cell?_of_block (a := ⟨B, 0, none⟩) (k.block B h.lt hne)).trans h.c0, (World.cell?_of_block (a := ⟨B, 1, none⟩) (k.block B h.lt hne)).trans h.c1, Nat.lt_of_lt_of_le h.lt k.size⟩
def Ct (c s : Nat) (X : World) : Prop := X.heap[c]? = some (.cells #[.int .i64 s] 3 (0, 0))
theorem Ct.below {c s : Nat} {X Y : World} (h : Ct c s X) (b : Below X.heap.size X Y) : Ct c s Y := (b.block c (lt_of_block h)).trans h
theorem Ct.cell {c s : Nat} {X : World} (h : Ct c s X) : X.cell? ⟨c, 0, none⟩ = some (.int .i64 s) := block_cell h 0
theorem Ct.free {c s : Nat} {X : World} (h : Ct c s X) : X.frozen? ⟨c, 0, none⟩ = false := block_free h 0
theorem Ct.lt {c s : Nat} {X : World} (h : Ct c s X) : c < X.heap.size := lt_of_block h
theorem Ct.set {c s : Nat} {X : World} (h : Ct c s X) (t : Nat) : Ct c t (X.setCell ⟨c, 0, none⟩ (.int .i64 t)) := block_set h 0 _
set_option maxHeartbeats 2000000 in
set_option maxRecDepth 100000 in
theorem sOrder2_any {g sf blk n : Nat} {lb sb : Array Value} (w X : World) (hX : SX g sf blk lb sb n w) (d : Array KeyP) (hA : At blk w X d) (hs : d.size = n) (a b c s : Nat) (ha : a < n) (hb : b < n) (hC : Ct c s X) (hsm : s < 4611686018427387904) :
  Calls Tryz.prog 290 #[.agg #[.func (.func g) #[] lb, .func (.func sf) #[] sb], .int .i64 a, .int .i64 b, .pointer (some ⟨c, 0, none⟩)] X fun e w' => e = .returned (.tuple #[.int .i64 (order2 keyLess d a b s).1, .int .i64 (order2 keyLess d a b s).2.1]) /\ Fr (· = c) X w' /\ Ct c (order2 keyLess d a b s).2.2 w' := by
 obtain ⟨W1, hW1⟩ : ∃ W1, W1 = X.alloc (.cells #[.func (.func g) #[] lb, .func (.func sf) #[] sb] 277) := ⟨_, rfl⟩
 have b1 : Below X.heap.size X W1 := by rw [hW1]; exact (Below.refl _ _).alloc (Nat.le_refl _) _
 have hA1 := hA.below b1
 have hB1 : Bx X.heap.size g sf lb sb W1 := by rw [hW1]; exact Bx.new _ _ _ _ _
 have hC1 := hC.below b1
 have eg := hX.enter
 have HB := Lib.hid b1
 have HC1 := Lib.hid hC1
 have HW1 := Lib.hid hW1
 cases hlv : keyLess d[b]! d[a]! with
 | true =>
   have hl := hX.ask hA1 hs (b : Int) (a : Int) b a true rfl rfl hb ha hlv
   have e2 : order2 keyLess d a b s = (b, a, s + 1) := by simp [order2, hlv]
   rw [e2]
   obtain ⟨c0, c1, hBl⟩ := hB1
   clear e2 hlv hC hC1 b1 hX hA hA1 hW1
   go_enter Tryz.func290, Tryz.ntmps290
   go_wp2_with (first | (rw [<- HW1.out]) | (go_at_fn g; refine hl.mono ?_; rintro e w' ⟨rfl, b'⟩; have HC' := Lib.hid (HC1.out.below b'); have k0 := HC'.out.cell; have k1 := HC'.out.free; have k2 := HC'.out.lt; have HB' := Lib.hid b'; clear b'))
   go_ret2
   refine ⟨rfl, (Fr.new HB.out).trans (Fr.setCell (F := (· = c)) (Fr.new HB'.out) (p := ⟨c, 0, none⟩) (fun _ => rfl) _), ?_⟩
   have := HC'.out.set (s + 1)
   simpa using this
 | false =>
   have hl := hX.ask hA1 hs (b : Int) (a : Int) b a false rfl rfl hb ha hlv
   have e2 : order2 keyLess d a b s = (a, b, s) := by simp [order2, hlv]
   rw [e2]
   obtain ⟨c0, c1, hBl⟩ := hB1
   clear e2 hlv hC hC1 b1 hX hA hA1 hW1
   go_enter Tryz.func290, Tryz.ntmps290
   go_wp2_with (first | (rw [<- HW1.out]) | (go_at_fn g; refine hl.mono ?_; rintro e w' ⟨rfl, b'⟩; have HC' := Lib.hid (HC1.out.below b'); have HB' := Lib.hid b'; clear b'))
   go_ret2
   exact ⟨rfl, (Fr.new HB.out).trans (Fr.new HB'.out), HC'.out⟩
set_option maxHeartbeats 2000000 in
set_option maxRecDepth 100000 in
theorem sMedian_any {g sf blk n : Nat} {lb sb : Array Value} (w X : World) (hX : SX g sf blk lb sb n w) (d : Array KeyP) (hA : At blk w X d) (hs : d.size = n) (x y z c s : Nat) (hx : x < n) (hy : y < n) (hz : z < n) (hC : Ct c s X) (hc : w.heap.size <= c) (hsm : s + 3 < 4611686018427387904) :
  Calls Tryz.prog 261 #[.agg #[.func (.func g) #[] lb, .func (.func sf) #[] sb], .int .i64 x, .int .i64 y, .int .i64 z, .pointer (some ⟨c, 0, none⟩)] X fun e w' => e = .returned (.int .i64 (median keyLess d x y z s).1) /\ Fr (· = c) X w' /\ Ct c (median keyLess d x y z s).2 w' := by
 obtain ⟨W1, hW1⟩ : ∃ W1, W1 = X.alloc (.cells #[.func (.func g) #[] lb, .func (.func sf) #[] sb] 277) := ⟨_, rfl⟩
 have b1 : Below X.heap.size X W1 := by rw [hW1]; exact (Below.refl _ _).alloc (Nat.le_refl _) _
 have hA1 := hA.below b1
 have hB1 : Bx X.heap.size g sf lb sb W1 := by rw [hW1]; exact Bx.new _ _ _ _ _
 have hC1 := hC.below b1
 have hne : X.heap.size ≠ c := by have := hC.lt; omega
 have l1 := order2_lt' keyLess d s (a := x) (b := y) (by omega) (by omega)
 have s1 := order2_swaps' keyLess d x y s
 obtain ⟨p1, q1, t1, h1⟩ : ∃ p1 q1 t1, order2 keyLess d x y s = (p1, q1, t1) := ⟨_, _, _, rfl⟩
 rw [h1] at l1 s1
 have l2 := order2_lt' keyLess d t1 (a := q1) (b := z) l1.2 (by omega)
 have s2 := order2_swaps' keyLess d q1 z t1
 obtain ⟨p2, q2, t2, h2⟩ : ∃ p2 q2 t2, order2 keyLess d q1 z t1 = (p2, q2, t2) := ⟨_, _, _, rfl⟩
 rw [h2] at l2 s2
 obtain ⟨p3, q3, t3, h3⟩ : ∃ p3 q3 t3, order2 keyLess d p1 p2 t2 = (p3, q3, t3) := ⟨_, _, _, rfl⟩
 have hm : median keyLess d x y z s = (q3, t3) := by simp only [median, h1, h2, h3]
 rw [hm]
 simp only [] at l1 s1 l2 s2
 have k1 := sOrder2_any w W1 hX d hA1 hs x y c s hx hy hC1 (by omega)
 rw [h1] at k1
 have k2 := Lib.hid fun (Y : World) (hY : Fr (· = c) W1 Y) (hCY : Ct c t1 Y) => sOrder2_any w Y hX d (hA1.ctr hY hc) hs q1 z c t1 (by omega) hz hCY (by omega)
 rw [h2] at k2
 have k3 := Lib.hid fun (Y : World) (hY : Fr (· = c) W1 Y) (hCY : Ct c t2 Y) => sOrder2_any w Y hX d (hA1.ctr hY hc) hs p1 p2 c t2 (by omega) (by omega) hCY (by omega)
 rw [h3] at k3
 have HB1 := Lib.hid hB1
 obtain ⟨c0, c1, hBl⟩ := hB1
 have HW1 := Lib.hid hW1
 have HB := Lib.hid b1
 clear hm h1 h2 h3 hC hC1 b1 hX hA hA1 hW1 l1 l2 s1 s2
 go_enter Tryz.func261, Tryz.ntmps261
 go_wp2_with (first
  | (rw [<- HW1.out])
  | (go_at_call 290; (with_reducible refine k1.mono ?_); rintro e w1 ⟨rfl, f1, g1⟩; have F1 := Lib.hid f1; have G1 := Lib.hid g1; obtain ⟨d0, d1, hBd⟩ := HB1.out.ctr f1 hne; clear f1 g1)
  | (go_at_call 290; (with_reducible refine (k2.out w1 F1.out G1.out).mono ?_); rintro e w2 ⟨rfl, f2, g2⟩; have F2 := Lib.hid (F1.out.trans f2); have G2 := Lib.hid g2; obtain ⟨e0, e1, hBe⟩ := HB1.out.ctr F2.out hne; clear f2 g2)
  | (go_at_call 290; (with_reducible refine (k3.out w2 F2.out G2.out).mono ?_); rintro e w3 ⟨rfl, f3, g3⟩; have F3 := Lib.hid (F2.out.trans f3); have G3 := Lib.hid g3; clear f3 g3))
 go_ret
 exact ⟨rfl, (Fr.new HB.out).trans F3.out, G3.out⟩
set_option maxHeartbeats 2000000 in
set_option maxRecDepth 100000 in
theorem sMedAdj_any {g sf blk n : Nat} {lb sb : Array Value} (w X : World) (hX : SX g sf blk lb sb n w) (d : Array KeyP) (hA : At blk w X d) (hs : d.size = n) (x c s : Nat) (hx : 1 <= x) (hx2 : x + 1 < n) (hC : Ct c s X) (hc : w.heap.size <= c) (hsm : s + 3 < 4611686018427387904) :
  Calls Tryz.prog 260 #[.agg #[.func (.func g) #[] lb, .func (.func sf) #[] sb], .int .i64 x, .pointer (some ⟨c, 0, none⟩)] X fun e w' => e = .returned (.int .i64 (medianAdjacent keyLess d x s).1) /\ Fr (· = c) X w' /\ Ct c (medianAdjacent keyLess d x s).2 w' := by
 obtain ⟨W1, hW1⟩ : ∃ W1, W1 = X.alloc (.cells #[.func (.func g) #[] lb, .func (.func sf) #[] sb] 277) := ⟨_, rfl⟩
 have b1 : Below X.heap.size X W1 := by rw [hW1]; exact (Below.refl _ _).alloc (Nat.le_refl _) _
 have hm := sMedian_any w W1 hX d (hA.below b1) hs (x - 1) x (x + 1) c s (by omega) (by omega) hx2 (hC.below b1) hc hsm
 rw [show ((x - 1 : Nat) : Int) = (x : Int) - 1 by omega, show ((x + 1 : Nat) : Int) = (x : Int) + 1 by omega] at hm
 have hB1 : Bx X.heap.size g sf lb sb W1 := by rw [hW1]; exact Bx.new _ _ _ _ _
 have hsz := hX.size
 obtain ⟨c0, c1, hBl⟩ := hB1
 have HW1 := Lib.hid hW1
 have HB := Lib.hid b1
 clear hC b1 hX hA hW1
 go_enter Tryz.func260, Tryz.ntmps260
 go_wp2_with (first
  | (rw [<- HW1.out])
  | (go_at_call 261; (with_reducible refine hm.mono ?_); rintro e w1 ⟨rfl, f1, g1⟩; have F1 := Lib.hid f1; have G1 := Lib.hid g1; clear f1 g1))
 go_ret
 exact ⟨rfl, (Fr.new HB.out).trans F1.out, G1.out⟩
structure PW (g sf blk : Nat) (lb sb : Array Value) (w : World) (d : Array KeyP) (s : Nat) (X : World) : Prop where
 at' : At blk w X d
 ct : Ct (w.heap.size + 1) s X
 bx : Bx w.heap.size g sf lb sb X
theorem PW.step {g sf blk s t : Nat} {lb sb : Array Value} {w X Y : World} {d : Array KeyP} (h : PW g sf blk lb sb w d s X) (f : Fr (· = w.heap.size + 1) X Y) (k : Ct (w.heap.size + 1) t Y) : PW g sf blk lb sb w d t Y :=
 ⟨h.at'.ctr f (by omega), k, h.bx.ctr f (by omega)⟩
set_option maxHeartbeats 4000000 in
set_option maxRecDepth 100000 in
theorem sPivot_any {g sf blk n : Nat} {lb sb : Array Value} (a b : Nat) (d : Array KeyP) (w : World) (hX : SX g sf blk lb sb n w) (hA : At blk w w d) (hs : d.size = n) (hab : a < b) (hb : b <= n) :
  Calls Tryz.prog 209 #[.agg #[.func (.func g) #[] lb, .func (.func sf) #[] sb], .int .i64 a, .int .i64 b] w fun e w' => e = .returned (.tuple #[.int .i64 (choosePivot keyLess d a b).1, .int .i64 (hintCode (choosePivot keyLess d a b).2)]) /\ At blk w w' d := by
 obtain ⟨W2, hW2⟩ : ∃ W2, W2 = (w.alloc (.cells #[.func (.func g) #[] lb, .func (.func sf) #[] sb] 277)).alloc (.cells #[.int .i64 0] 3) := ⟨_, rfl⟩
 have hP : PW g sf blk lb sb w d 0 W2 := by
  rw [hW2]
  exact ⟨hA.below (((Below.refl _ _).alloc (Nat.le_refl _) _).alloc (by simp) _), by have := block_alloc_new (w.alloc (.cells #[.func (.func g) #[] lb, .func (.func sf) #[] sb] 277)) (.cells #[.int .i64 0] 3); simpa [Ct] using this, by
   have hb := Bx.new g sf lb sb w
   exact hb.below ((Below.refl _ _).alloc (Nat.le_refl _) _)⟩
 have hsz := hX.size
 have HW2 := Lib.hid hW2
 have HP := Lib.hid hP
 rw [choosePivot_eq]
 obtain ⟨I, hI⟩ : ∃ I : Nat, I = a + (b - a) / 4 * 1 := ⟨_, rfl⟩
 obtain ⟨J, hJ⟩ : ∃ J : Nat, J = a + (b - a) / 4 * 2 := ⟨_, rfl⟩
 obtain ⟨K, hK⟩ : ∃ K : Nat, K = a + (b - a) / 4 * 3 := ⟨_, rfl⟩
 have eI : ((a : Int) + ((b : Int) - (a : Int)) / 4) = (I : Int) := by omega
 have eJ : ((a : Int) + ((b : Int) - (a : Int)) / 4 * 2) = (J : Int) := by omega
 have eK : ((a : Int) + ((b : Int) - (a : Int)) / 4 * 3) = (K : Int) := by omega
 by_cases h8 : b - a >= 8
 · by_cases h50 : b - a >= 50
   · obtain ⟨i1, s1, h1⟩ : ∃ i1 s1, medianAdjacent keyLess d I 0 = (i1, s1) := ⟨_, _, rfl⟩
     obtain ⟨j1, s2, h2⟩ : ∃ j1 s2, medianAdjacent keyLess d J s1 = (j1, s2) := ⟨_, _, rfl⟩
     obtain ⟨k1, s3, h3⟩ : ∃ k1 s3, medianAdjacent keyLess d K s2 = (k1, s3) := ⟨_, _, rfl⟩
     obtain ⟨p, s, h4⟩ : ∃ p s, median keyLess d i1 j1 k1 s3 = (p, s) := ⟨_, _, rfl⟩
     have hraw : rawPivot keyLess d a b = (p, s) := by simp only [rawPivot, if_pos h8, if_pos h50, <- hI, <- hJ, <- hK, h1, h2, h3, h4]
     have m1 := medianAdjacent_mem keyLess d I 0; rw [h1] at m1
     have m2 := medianAdjacent_mem keyLess d J s1; rw [h2] at m2
     have m3 := medianAdjacent_mem keyLess d K s2; rw [h3] at m3
     have n1 := medianAdjacent_count keyLess d I 0; rw [h1] at n1
     have n2 := medianAdjacent_count keyLess d J s1; rw [h2] at n2
     have n3 := medianAdjacent_count keyLess d K s2; rw [h3] at n3
     simp only [] at m1 m2 m3 n1 n2 n3
     have c1 := sMedAdj_any w W2 hX d hP.at' hs I (w.heap.size + 1) 0 (by omega) (by omega) hP.ct (by omega) (by omega)
     rw [h1] at c1
     have c2 := Lib.hid fun (Y : World) (hY : PW g sf blk lb sb w d s1 Y) => sMedAdj_any w Y hX d hY.at' hs J (w.heap.size + 1) s1 (by omega) (by omega) hY.ct (by omega) (by omega)
     rw [h2] at c2
     have c3 := Lib.hid fun (Y : World) (hY : PW g sf blk lb sb w d s2 Y) => sMedAdj_any w Y hX d hY.at' hs K (w.heap.size + 1) s2 (by omega) (by omega) hY.ct (by omega) (by omega)
     rw [h3] at c3
     have c4 := Lib.hid fun (Y : World) (hY : PW g sf blk lb sb w d s3 Y) => sMedian_any w Y hX d hY.at' hs i1 j1 k1 (w.heap.size + 1) s3 (by omega) (by omega) (by omega) hY.ct (by omega) (by omega)
     rw [h4] at c4
     rw [hraw]
     obtain ⟨Hc, hHc⟩ : ∃ Hc : Int, Hc = hintCode (hintOf s) := ⟨_, rfl⟩
     have hh0 : s = 0 -> Hc = 1 := fun h => by rw [hHc, h]; rfl
     have hh12 : s = 12 -> Hc = 2 := fun h => by rw [hHc, h]; rfl
     have hhx : s ≠ 0 -> s ≠ 12 -> Hc = 0 := fun h1 h2 => by rw [hHc]; unfold hintOf; rw [if_neg h1, if_neg h2]; rfl
     show Calls Tryz.prog 209 _ w fun e w' => e = .returned (.tuple #[.int .i64 (p : Int), .int .i64 (hintCode (hintOf s))]) /\ At blk w w' d
     rw [<- hHc]
     clear hHc hraw h1 h2 h3 h4 hI hJ hK m1 m2 m3 hW2 hX hA
     obtain ⟨x0, x1, hxl⟩ := hP.bx
     have y0 := hP.ct.cell
     clear hP
     go_enter Tryz.func209, Tryz.ntmps209
     go_wp2_with (first
      | (rw [<- HW2.out])
      | (go_at_call 260; (with_reducible refine c1.mono ?_); rintro e w1 ⟨rfl, f1, g1⟩; have P1 := Lib.hid (HP.out.step f1 g1); obtain ⟨u0, u1, hul⟩ := P1.out.bx; clear f1 g1)
      | (go_at_call 260; (with_reducible refine (c2.out w1 P1.out).mono ?_); rintro e w2 ⟨rfl, f1, g1⟩; have P2 := Lib.hid (P1.out.step f1 g1); obtain ⟨u2, u3, hul2⟩ := P2.out.bx; clear f1 g1)
      | (go_at_call 260; (with_reducible refine (c3.out w2 P2.out).mono ?_); rintro e w3 ⟨rfl, f1, g1⟩; have P3 := Lib.hid (P2.out.step f1 g1); obtain ⟨u4, u5, hul3⟩ := P3.out.bx; clear f1 g1)
      | (go_at_call 261; (with_reducible refine (c4.out w3 P3.out).mono ?_); rintro e w4 ⟨rfl, f1, g1⟩; have P4 := Lib.hid (P3.out.step f1 g1); have y4 := P4.out.ct.cell; clear f1 g1))
     all_goals
      go_ret2
      refine ⟨?_, P4.out.at'⟩
      first
       | (have e0 : (s : Int) = 0 := of_beq_int (by assumption)
          rw [hh0 (by omega)]; rfl)
       | (have e1 : (s : Int) = 12 := of_beq_int (by assumption)
          rw [hh12 (by omega)]; rfl)
       | (have e0 : (s : Int) ≠ 0 := of_bne_int (by assumption)
          have e1 : (s : Int) ≠ 12 := of_bne_int (by assumption)
          rw [hhx (by omega) (by omega)]; rfl)
       | (rw [hh0 (by omega)]; rfl)
   · obtain ⟨p, s, h4⟩ : ∃ p s, median keyLess d I J K 0 = (p, s) := ⟨_, _, rfl⟩
     have hraw : rawPivot keyLess d a b = (p, s) := by simp only [rawPivot, if_pos h8, if_neg h50, <- hI, <- hJ, <- hK, h4]
     have c4 := sMedian_any w W2 hX d hP.at' hs I J K (w.heap.size + 1) 0 (by omega) (by omega) (by omega) hP.ct (by omega) (by omega)
     rw [h4] at c4
     rw [hraw]
     obtain ⟨Hc, hHc⟩ : ∃ Hc : Int, Hc = hintCode (hintOf s) := ⟨_, rfl⟩
     have hh0 : s = 0 -> Hc = 1 := fun h => by rw [hHc, h]; rfl
     have hh12 : s = 12 -> Hc = 2 := fun h => by rw [hHc, h]; rfl
     have hhx : s ≠ 0 -> s ≠ 12 -> Hc = 0 := fun h1 h2 => by rw [hHc]; unfold hintOf; rw [if_neg h1, if_neg h2]; rfl
     show Calls Tryz.prog 209 _ w fun e w' => e = .returned (.tuple #[.int .i64 (p : Int), .int .i64 (hintCode (hintOf s))]) /\ At blk w w' d
     rw [<- hHc]
     clear hHc hraw h4 hI hJ hK hW2 hX hA
     obtain ⟨x0, x1, hxl⟩ := hP.bx
     have y0 := hP.ct.cell
     clear hP
     go_enter Tryz.func209, Tryz.ntmps209
     go_wp2_with (first
      | (rw [<- HW2.out])
      | (go_at_call 261; (with_reducible refine c4.mono ?_); rintro e w4 ⟨rfl, f1, g1⟩; have P4 := Lib.hid (HP.out.step f1 g1); have y4 := P4.out.ct.cell; clear f1 g1))
     all_goals
      go_ret2
      refine ⟨?_, P4.out.at'⟩
      first
       | (have e0 : (s : Int) = 0 := of_beq_int (by assumption)
          rw [hh0 (by omega)]; rfl)
       | (have e1 : (s : Int) = 12 := of_beq_int (by assumption)
          rw [hh12 (by omega)]; rfl)
       | (have e0 : (s : Int) ≠ 0 := of_bne_int (by assumption)
          have e1 : (s : Int) ≠ 12 := of_bne_int (by assumption)
          rw [hhx (by omega) (by omega)]; rfl)
       | (rw [hh0 (by omega)]; rfl)
 · have hraw : rawPivot keyLess d a b = (J, 0) := by simp only [rawPivot, if_neg h8, <- hJ]
   rw [hraw]
   show Calls Tryz.prog 209 _ w fun e w' => e = .returned (.tuple #[.int .i64 (J : Int), .int .i64 1]) /\ At blk w w' d
   clear hraw hI hJ hK hW2 hX hA
   obtain ⟨x0, x1, hxl⟩ := hP.bx
   have y0 := hP.ct.cell
   clear hP
   go_enter Tryz.func209, Tryz.ntmps209
   go_wp2_with (rw [<- HW2.out])
   go_ret2
   exact ⟨rfl, HP.out.at'⟩
theorem size_shiftDown (lt : KeyP -> KeyP -> Bool) : ∀ (j : Nat) (d : Array KeyP), (shiftDown lt j d).size = d.size
 | 0, d => by rw [shiftDown]
 | j + 1, d => by
   rw [shiftDown]
   split
   · rfl
   · rw [size_shiftDown lt j, size_swp]
theorem size_fixDown (a k n : Nat) (d : Array KeyP) (hs : d.size = n) : (fixDown keyLess a k d).size = n := by
 unfold fixDown
 split
 · rw [size_shiftDown, hs]
 · exact hs
set_option maxHeartbeats 8000000 in
set_option maxRecDepth 100000 in
theorem sPIns_any {g sf blk n : Nat} {lb sb : Array Value} (a b : Nat) (d : Array KeyP) (w : World) (hX : SX g sf blk lb sb n w) (hA : At blk w w d) (hs : d.size = n) (hab : a < b) (hb : b <= n) :
  Calls Tryz.prog 211 #[.agg #[.func (.func g) #[] lb, .func (.func sf) #[] sb], .int .i64 a, .int .i64 b] w fun e w' => e = .returned (.bool (partialInsertionSort keyLess d a b).2) /\ At blk w w' (partialInsertionSort keyLess d a b).1 := by
 obtain ⟨W1, hW1⟩ : ∃ W1, W1 = w.alloc (.cells #[.func (.func g) #[] lb, .func (.func sf) #[] sb] 277) := ⟨_, rfl⟩
 have hA1 : At blk w W1 d := by rw [hW1]; exact hA.below ((Below.refl _ _).alloc (Nat.le_refl _) _)
 have hB1 : Bx w.heap.size g sf lb sb W1 := by rw [hW1]; exact Bx.new _ _ _ _ _
 have hne : w.heap.size ≠ blk := by have := hA.lt; omega
 have eg := hX.enter
 have hsz := hX.size
 have HX := Lib.hid hX
 have HA1 := Lib.hid hA1
 have HB1 := Lib.hid hB1
 have HW1 := Lib.hid hW1
 clear hX hA hA1 hB1 hW1
 go_enter Tryz.func211, Tryz.ntmps211
 go_wp2_with fail
 rw [<- HW1.out]
 go_loopw [7, 8] (fun vi vs X => ∃ (i s : Nat) (dk : Array KeyP), vi = .int .i64 i /\ vs = .int .i64 s /\ s <= 5 /\ a < i /\ i <= b /\ dk.size = n /\ At blk w X dk /\ Bx w.heap.size g sf lb sb X /\ partialIns keyLess a b (5 - s) i dk = partialIns keyLess a b 5 (a + 1) d) (fun _ vs _ => 5 - (intOf vs).toNat)
 case atStart => exact ⟨a + 1, 0, d, by go_num, rfl, by omega, by omega, by omega, hs, HA1.out, HB1.out, rfl⟩
 case round =>
  obtain ⟨i, s, dk, rfl, rfl, hs5, hai, hib, hsk, hAt, hBx, hO⟩ := hrel
  have HO := Lib.hid hO
  have HA2 := Lib.hid hAt
  have HB2 := Lib.hid hBx
  clear hO hAt hBx
  by_cases hss : s < 5
  · have hssz : (s : Int) < 5 := by omega
    go_upto_block 2 with fail
    go_cut [7] (fun v X => ∃ k : Nat, v = .int .i64 k /\ i <= k /\ k <= b /\ scanSorted keyLess dk b i = k /\ At blk w X dk /\ Bx w.heap.size g sf lb sb X)
    case first =>
     go_wp2_with fail
     go_loopw [7] (fun v X => ∃ k : Nat, v = .int .i64 k /\ i <= k /\ k <= b /\ scanSorted keyLess dk b k = scanSorted keyLess dk b i /\ At blk w X dk /\ Bx w.heap.size g sf lb sb X) (fun v _ => b - (intOf v).toNat)
     case atStart => exact ⟨i, rfl, Nat.le_refl _, hib, rfl, HA2.out, HB2.out⟩
     case round =>
      obtain ⟨k, rfl, hik, hkb, hsc, hAt, hBx⟩ := hrel
      have HS := Lib.hid hsc
      have HA4 := Lib.hid hAt
      have HB4 := Lib.hid hBx
      obtain ⟨c0, c1, hBl⟩ := hBx
      clear hsc hAt
      by_cases hle : k < b
      · have hlez : (k : Int) < (b : Int) := by omega
        cases hlv : keyLess dk[k]! dk[k - 1]! with
        | false =>
          have hl := HX.out.ask HA4.out hsk (k : Int) ((k : Int) - 1) k (k - 1) false rfl (by omega) (by omega) (by omega) hlv
          go_wp2_with (go_at_fn g; refine hl.mono ?_; rintro e w' ⟨rfl, b'⟩; have HA' := Lib.hid (HA4.out.below b'); have HB' := Lib.hid (HB4.out.below b'); clear b')
          exact ⟨⟨k + 1, by go_num, by omega, by omega, (scanSorted_go keyLess dk b k hle hlv).symm.trans HS.out, HA'.out, HB'.out⟩, by simp [intOf]; omega⟩
        | true =>
          have hl := HX.out.ask HA4.out hsk (k : Int) ((k : Int) - 1) k (k - 1) true rfl (by omega) (by omega) (by omega) hlv
          go_wp2_with (go_at_fn g; refine hl.mono ?_; rintro e w' ⟨rfl, b'⟩; have HA' := Lib.hid (HA4.out.below b'); have HB' := Lib.hid (HB4.out.below b'); clear b')
          go_meet
          exact ⟨k, rfl, hik, hkb, HS.out.symm.trans (scanSorted_stop keyLess dk b k (.inr hlv)), HA'.out, HB'.out⟩
      · have hlez : ¬ (k : Int) < (b : Int) := by omega
        clear c0 c1 hBl
        go_wp2_with fail
        go_meet
        exact ⟨k, rfl, hik, hkb, HS.out.symm.trans (scanSorted_stop keyLess dk b k (.inl hle)), HA4.out, HB4.out⟩
    case rest =>
     obtain ⟨k, rfl, hik, hkb, hsc, hAt, hBx⟩ := hcut
     have HSC := Lib.hid hsc
     have HA3 := Lib.hid hAt
     have HB3 := Lib.hid hBx
     clear hsc hAt HA2 HB2
     by_cases hkb' : k = b
     · have hkbz : (k : Int) = (b : Int) := by omega
       have hv : partialInsertionSort keyLess d a b = (dk, true) := by unfold partialInsertionSort; rw [<- HO.out, pi_true keyLess a b s i dk hss (HSC.out.trans hkb')]
       have HV := Lib.hid hv
       have HK := Lib.hid hkb'
       clear hv hBx hkb'
       go_wp2_with fail
       go_ret
       exact ⟨by rw [HV.out]; try rfl, by rw [HV.out]; exact HA3.out⟩
     · have hkbz : ¬ (k : Int) = (b : Int) := by omega
       by_cases h50 : b - a < 50
       · have h50z : (b : Int) - (a : Int) < 50 := by omega
         have hv : partialInsertionSort keyLess d a b = (dk, false) := by unfold partialInsertionSort; rw [<- HO.out, pi_short keyLess a b s i dk hss (by rw [HSC.out]; exact hkb') h50]
         have HV := Lib.hid hv
         clear hv hBx
         go_wp2_with fail
         go_ret
         exact ⟨by rw [HV.out]; try rfl, by rw [HV.out]; exact HA3.out⟩
       · have h50z : ¬ (b : Int) - (a : Int) < 50 := by omega
         obtain ⟨c0, c1, hBl⟩ := hBx
         obtain ⟨X', hsw, hA''⟩ := HX.out.swaps HA3.out hsk (k : Int) ((k : Int) - 1) k (k - 1) rfl (by omega) (by omega) (by omega)
         have HA4 := Lib.hid (HA3.out.trans hA'')
         have HB4 := Lib.hid (HB3.out.on hA'' hne)
         have hs1 : (swp dk k (k - 1)).size = n := by rw [size_swp]; exact hsk
         clear hA''
         go_upto_if 47 with fail
         clear c0 c1 hBl
         go_cut [] (fun X => At blk w X (fixDown keyLess a k (swp dk k (k - 1))) /\ Bx w.heap.size g sf lb sb X)
         case first =>
          by_cases hka : k - a >= 2
          · have hkaz : (k : Int) - (a : Int) >= 2 := by omega
            have hfd : fixDown keyLess a k (swp dk k (k - 1)) = shiftDown keyLess (k - 1) (swp dk k (k - 1)) := by unfold fixDown; rw [if_pos hka]
            have HFD := Lib.hid hfd
            clear hfd
            go_wp2_with fail
            go_loopw [9] (fun v X => ∃ (j : Nat) (dj : Array KeyP), v = .int .i64 j /\ j <= k - 1 /\ dj.size = n /\ At blk w X dj /\ Bx w.heap.size g sf lb sb X /\ shiftDown keyLess j dj = shiftDown keyLess (k - 1) (swp dk k (k - 1))) (fun v _ => (intOf v).toNat)
            case atStart => exact ⟨k - 1, _, by congr 1; omega, Nat.le_refl _, hs1, HA4.out, HB4.out, rfl⟩
            case round =>
             obtain ⟨j, dj, rfl, hjk, hsj, hAt, hBx, hD⟩ := hrel
             have HD := Lib.hid hD
             have HA5 := Lib.hid hAt
             have HB5 := Lib.hid hBx
             obtain ⟨c0, c1, hBl⟩ := hBx
             clear hD hAt
             by_cases hj1 : 1 <= j
             · have hj1z : (j : Int) >= 1 := by omega
               cases hlv : keyLess dj[j]! dj[j - 1]! with
               | true =>
                 have hl := HX.out.ask HA5.out hsj (j : Int) ((j : Int) - 1) j (j - 1) true rfl (by omega) (by omega) (by omega) hlv
                 go_wp2_with (go_at_fn g; refine hl.mono ?_; rintro e w' ⟨rfl, b'⟩; have HA' := Lib.hid (HA5.out.below b'); have HB' := Lib.hid (HB5.out.below b'); obtain ⟨c0', c1', hBl'⟩ := HB'.out; obtain ⟨X', hsw', hA''⟩ := HX.out.swaps HA'.out hsj (j : Int) ((j : Int) - 1) j (j - 1) rfl (by omega) (by omega) (by omega); have HA'' := Lib.hid (HA'.out.trans hA''); have HB'' := Lib.hid (HB'.out.on hA'' hne); clear b' hA'')
                 exact ⟨⟨j - 1, swp dj j (j - 1), by congr 1; omega, by omega, by rw [size_swp]; exact hsj, HA''.out, HB''.out, (shiftDown_go keyLess j dj hj1 hlv).symm.trans HD.out⟩, by simp [intOf]; omega⟩
               | false =>
                 have hl := HX.out.ask HA5.out hsj (j : Int) ((j : Int) - 1) j (j - 1) false rfl (by omega) (by omega) (by omega) hlv
                 go_wp2_with (go_at_fn g; refine hl.mono ?_; rintro e w' ⟨rfl, b'⟩; have HA' := Lib.hid (HA5.out.below b'); have HB' := Lib.hid (HB5.out.below b'); clear b')
                 go_meet
                 exact ⟨by rw [HFD.out, <- HD.out, shiftDown_stop keyLess j dj (.inr hlv)]; exact HA'.out, HB'.out⟩
             · have hj1z : ¬ (j : Int) >= 1 := by omega
               clear c0 c1 hBl
               go_wp2_with fail
               go_meet
               exact ⟨by rw [HFD.out, <- HD.out, shiftDown_stop keyLess j dj (.inl (by omega))]; exact HA5.out, HB5.out⟩
          · have hkaz : ¬ (k : Int) - (a : Int) >= 2 := by omega
            have hfd : fixDown keyLess a k (swp dk k (k - 1)) = swp dk k (k - 1) := by unfold fixDown; rw [if_neg hka]
            have HFD := Lib.hid hfd
            clear hfd
            go_wp2_with fail
            go_meet
            exact ⟨by rw [HFD.out]; exact HA4.out, HB4.out⟩
         case rest =>
          obtain ⟨hAt, hBx⟩ := hcut
          obtain ⟨dd, hdd⟩ : ∃ dd, dd = fixDown keyLess a k (swp dk k (k - 1)) := ⟨_, rfl⟩
          rw [<- hdd] at hAt
          have hs2 : dd.size = n := by rw [hdd]; exact size_fixDown a k n _ hs1
          have HDD := Lib.hid hdd
          have HA5 := Lib.hid hAt
          have HB5 := Lib.hid hBx
          clear hAt hBx hdd HA4 HB4 hsw
          by_cases hkc : b - k >= 2
          · have hkcz : (b : Int) - (k : Int) >= 2 := by omega
            have hfu : fixUp keyLess b k dd = shiftUp keyLess b (k + 1) dd := by unfold fixUp; rw [if_pos hkc]
            have HFU := Lib.hid hfu
            clear hfu
            go_wp2_with fail
            go_loopw [10] (fun v X => ∃ (j : Nat) (dj : Array KeyP), v = .int .i64 j /\ k + 1 <= j /\ j <= b /\ dj.size = n /\ At blk w X dj /\ Bx w.heap.size g sf lb sb X /\ shiftUp keyLess b j dj = shiftUp keyLess b (k + 1) dd) (fun v _ => b - (intOf v).toNat)
            case atStart => exact ⟨k + 1, _, by go_num, Nat.le_refl _, by omega, hs2, HA5.out, HB5.out, rfl⟩
            case round =>
             obtain ⟨j, dj, rfl, hkj, hjb, hsj, hAt, hBx, hD⟩ := hrel
             have HD := Lib.hid hD
             have HA6 := Lib.hid hAt
             have HB6 := Lib.hid hBx
             obtain ⟨c0, c1, hBl⟩ := hBx
             clear hD hAt
             by_cases hj1 : j < b
             · have hj1z : (j : Int) < (b : Int) := by omega
               cases hlv : keyLess dj[j]! dj[j - 1]! with
               | true =>
                 have hl := HX.out.ask HA6.out hsj (j : Int) ((j : Int) - 1) j (j - 1) true rfl (by omega) (by omega) (by omega) hlv
                 go_wp2_with (go_at_fn g; refine hl.mono ?_; rintro e w' ⟨rfl, b'⟩; have HA' := Lib.hid (HA6.out.below b'); have HB' := Lib.hid (HB6.out.below b'); obtain ⟨c0', c1', hBl'⟩ := HB'.out; obtain ⟨X', hsw', hA''⟩ := HX.out.swaps HA'.out hsj (j : Int) ((j : Int) - 1) j (j - 1) rfl (by omega) (by omega) (by omega); have HA'' := Lib.hid (HA'.out.trans hA''); have HB'' := Lib.hid (HB'.out.on hA'' hne); clear b' hA'')
                 exact ⟨⟨j + 1, swp dj j (j - 1), by go_num, by omega, by omega, by rw [size_swp]; exact hsj, HA''.out, HB''.out, (shiftUp_go keyLess b j dj hj1 hlv).symm.trans HD.out⟩, by simp [intOf]; omega⟩
               | false =>
                 have hl := HX.out.ask HA6.out hsj (j : Int) ((j : Int) - 1) j (j - 1) false rfl (by omega) (by omega) (by omega) hlv
                 go_wp2_with (go_at_fn g; refine hl.mono ?_; rintro e w' ⟨rfl, b'⟩; have HA' := Lib.hid (HA6.out.below b'); have HB' := Lib.hid (HB6.out.below b'); clear b')
                 exact ⟨⟨k, s + 1, dj, rfl, by go_num, by omega, by omega, hkb, hsj, HA'.out, HB'.out, by rw [<- HO.out, pi_go keyLess a b s i k dk hss HSC.out hkb' h50, <- HDD.out, HFU.out, <- HD.out, shiftUp_stop keyLess b j dj (.inr hlv)]⟩, by simp [intOf]; omega⟩
             · have hj1z : ¬ (j : Int) < (b : Int) := by omega
               clear c0 c1 hBl
               go_wp2_with fail
               exact ⟨⟨k, s + 1, dj, rfl, by go_num, by omega, by omega, hkb, hsj, HA6.out, HB6.out, by rw [<- HO.out, pi_go keyLess a b s i k dk hss HSC.out hkb' h50, <- HDD.out, HFU.out, <- HD.out, shiftUp_stop keyLess b j dj (.inl hj1)]⟩, by simp [intOf]; omega⟩
          · have hkcz : ¬ (b : Int) - (k : Int) >= 2 := by omega
            have hfu : fixUp keyLess b k dd = dd := by unfold fixUp; rw [if_neg hkc]
            have HFU := Lib.hid hfu
            clear hfu
            go_wp2_with fail
            exact ⟨⟨k, s + 1, dd, rfl, by go_num, by omega, by omega, hkb, hs2, HA5.out, HB5.out, by rw [<- HO.out, pi_go keyLess a b s i k dk hss HSC.out hkb' h50, <- HDD.out, HFU.out]⟩, by simp [intOf]; omega⟩
  · have hssz : ¬ (s : Int) < 5 := by omega
    have hv : partialInsertionSort keyLess d a b = (dk, false) := by unfold partialInsertionSort; rw [<- HO.out, show s = 5 by omega, pi_end]
    have HV := Lib.hid hv
    clear hv
    go_wp2_with fail
    go_ret
    exact ⟨by rw [HV.out]; try rfl, by rw [HV.out]; exact HA2.out⟩
set_option maxHeartbeats 4000000 in
set_option maxRecDepth 100000 in
theorem sSift_any {g sf blk n : Nat} {lb sb : Array Value} (lo hi first : Nat) (d : Array KeyP) (w : World) (hX : SX g sf blk lb sb n w) (hA : At blk w w d) (hs : d.size = n) (hlo : lo <= hi) (hb : first + hi <= n) :
  Calls Tryz.prog 257 #[.agg #[.func (.func g) #[] lb, .func (.func sf) #[] sb], .int .i64 lo, .int .i64 hi, .int .i64 first] w fun e w' => e = .returned (.tuple #[]) /\ At blk w w' (siftDown keyLess hi first lo d) := by
 obtain ⟨W1, hW1⟩ : ∃ W1, W1 = w.alloc (.cells #[.func (.func g) #[] lb, .func (.func sf) #[] sb] 277) := ⟨_, rfl⟩
 have hA1 : At blk w W1 d := by rw [hW1]; exact hA.below ((Below.refl _ _).alloc (Nat.le_refl _) _)
 have hB1 : Bx w.heap.size g sf lb sb W1 := by rw [hW1]; exact Bx.new _ _ _ _ _
 have hne : w.heap.size ≠ blk := by have := hA.lt; omega
 have eg := hX.enter
 have hsz := hX.size
 have HX := Lib.hid hX
 have HA1 := Lib.hid hA1
 have HB1 := Lib.hid hB1
 have HW1 := Lib.hid hW1
 clear hX hA hA1 hB1 hW1
 go_enter Tryz.func257, Tryz.ntmps257
 go_wp2_with fail
 rw [<- HW1.out]
 go_loopw [8] (fun v X => ∃ (root : Nat) (dk : Array KeyP), v = .int .i64 root /\ root <= hi /\ dk.size = n /\ At blk w X dk /\ Bx w.heap.size g sf lb sb X /\ siftDown keyLess hi first root dk = siftDown keyLess hi first lo d) (fun v _ => hi - (intOf v).toNat)
 case atStart => exact ⟨lo, d, rfl, hlo, hs, HA1.out, HB1.out, rfl⟩
 case round =>
  obtain ⟨root, dk, rfl, hr, hsk, hAt, hBx, hO⟩ := hrel
  have HO := Lib.hid hO
  have HA2 := Lib.hid hAt
  have HB2 := Lib.hid hBx
  clear hO hAt
  by_cases h0 : hi <= 2 * root + 1
  · have h0z : (hi : Int) <= 2 * (root : Int) + 1 := by omega
    clear hBx
    go_wp2_with fail
    go_end0
    exact ⟨rfl, by rw [<- HO.out, sd_end keyLess dk h0]; exact HA2.out⟩
  · have h0z : ¬ ((hi : Int) <= 2 * (root : Int) + 1) := by omega
    go_upto_region 4 with fail
    go_cut [32] (fun v X => v = .bool (decide (2 * root + 2 < hi) && keyLess dk[first + (2 * root + 1)]! dk[first + (2 * root + 2)]!) /\ At blk w X dk /\ Bx w.heap.size g sf lb sb X)
    case first =>
     obtain ⟨c0, c1, hBl⟩ := hBx
     by_cases h1 : 2 * root + 2 < hi
     · have h1z : 2 * (root : Int) + 1 + 1 < (hi : Int) := by omega
       cases hL : keyLess dk[first + (2 * root + 1)]! dk[first + (2 * root + 2)]! with
       | true =>
         have hl := HX.out.ask HA2.out hsk ((first : Int) + (2 * (root : Int) + 1)) ((first : Int) + (2 * (root : Int) + 1) + 1) (first + (2 * root + 1)) (first + (2 * root + 2)) true (by omega) (by omega) (by omega) (by omega) hL
         go_wp2_with (go_at_fn g; refine hl.mono ?_; rintro e w' ⟨rfl, b'⟩; have HA' := Lib.hid (HA2.out.below b'); have HB' := Lib.hid (HB2.out.below b'); clear b')
         go_meet
         exact ⟨by rw [decide_eq_true h1, hL]; rfl, HA'.out, HB'.out⟩
       | false =>
         have hl := HX.out.ask HA2.out hsk ((first : Int) + (2 * (root : Int) + 1)) ((first : Int) + (2 * (root : Int) + 1) + 1) (first + (2 * root + 1)) (first + (2 * root + 2)) false (by omega) (by omega) (by omega) (by omega) hL
         go_wp2_with (go_at_fn g; refine hl.mono ?_; rintro e w' ⟨rfl, b'⟩; have HA' := Lib.hid (HA2.out.below b'); have HB' := Lib.hid (HB2.out.below b'); clear b')
         go_meet
         exact ⟨by rw [hL, Bool.and_false], HA'.out, HB'.out⟩
     · have h1z : ¬ (2 * (root : Int) + 1 + 1 < (hi : Int)) := by omega
       go_wp2_with fail
       go_meet
       exact ⟨by rw [decide_eq_false h1]; rfl, HA2.out, HB2.out⟩
    case rest =>
     obtain ⟨rfl, hA3, hB3⟩ := hcut
     clear hBx HA2 HB2
     have HA3 := Lib.hid hA3
     have HB3 := Lib.hid hB3
     obtain ⟨c0, c1, hBl⟩ := hB3
     clear hA3
     cases hL : (decide (2 * root + 2 < hi) && keyLess dk[first + (2 * root + 1)]! dk[first + (2 * root + 2)]!) with
     | false =>
       have hL' : 2 * root + 2 < hi -> keyLess dk[first + (2 * root + 1)]! dk[first + (2 * root + 2)]! = false := fun h => by rw [decide_eq_true h] at hL; exact hL
       have HL' := Lib.hid hL'
       clear hL hL'
       cases hG : keyLess dk[first + root]! dk[first + (2 * root + 1)]! with
       | true =>
         have hl := HX.out.ask HA3.out hsk ((first : Int) + (root : Int)) ((first : Int) + (2 * (root : Int) + 1)) (first + root) (first + (2 * root + 1)) true (by omega) (by omega) (by omega) (by omega) hG
         go_wp2_with (go_at_fn g; refine hl.mono ?_; rintro e w' ⟨rfl, b'⟩; have HA' := Lib.hid (HA3.out.below b'); have HB' := Lib.hid (HB3.out.below b'); obtain ⟨c0', c1', hBl'⟩ := HB'.out; obtain ⟨X', hsw, hA''⟩ := HX.out.swaps HA'.out hsk ((first : Int) + (root : Int)) ((first : Int) + (2 * (root : Int) + 1)) (first + root) (first + (2 * root + 1)) (by omega) (by omega) (by omega) (by omega); have HA'' := Lib.hid (HA'.out.trans hA''); have HB'' := Lib.hid (HB'.out.on hA'' hne); clear b' hA'')
         exact ⟨⟨2 * root + 1, swp dk (first + root) (first + (2 * root + 1)), by go_num, by omega, by rw [size_swp]; exact hsk, HA''.out, HB''.out, by rw [<- HO.out, sd_left_go keyLess dk (by omega) HL'.out hG]⟩, by simp [intOf]; omega⟩
       | false =>
         have hl := HX.out.ask HA3.out hsk ((first : Int) + (root : Int)) ((first : Int) + (2 * (root : Int) + 1)) (first + root) (first + (2 * root + 1)) false (by omega) (by omega) (by omega) (by omega) hG
         go_wp2_with (go_at_fn g; refine hl.mono ?_; rintro e w' ⟨rfl, b'⟩; have HA' := Lib.hid (HA3.out.below b'); clear b')
         (try simp only [Exit.inBlock, Exit.then]); refine bodyPost_ret (results_none rfl _ _ _) rfl ?_
         exact ⟨rfl, by rw [<- HO.out, sd_left_stop keyLess dk (by omega) HL'.out hG]; exact HA'.out⟩
     | true =>
       rw [Bool.and_eq_true, decide_eq_true_eq] at hL
       obtain ⟨h1, hL⟩ := hL
       cases hG : keyLess dk[first + root]! dk[first + (2 * root + 2)]! with
       | true =>
         have hl := HX.out.ask HA3.out hsk ((first : Int) + (root : Int)) ((first : Int) + (2 * (root : Int) + 1 + 1)) (first + root) (first + (2 * root + 2)) true (by omega) (by omega) (by omega) (by omega) hG
         go_wp2_with (go_at_fn g; refine hl.mono ?_; rintro e w' ⟨rfl, b'⟩; have HA' := Lib.hid (HA3.out.below b'); have HB' := Lib.hid (HB3.out.below b'); obtain ⟨c0', c1', hBl'⟩ := HB'.out; obtain ⟨X', hsw, hA''⟩ := HX.out.swaps HA'.out hsk ((first : Int) + (root : Int)) ((first : Int) + (2 * (root : Int) + 1 + 1)) (first + root) (first + (2 * root + 2)) (by omega) (by omega) (by omega) (by omega); have HA'' := Lib.hid (HA'.out.trans hA''); have HB'' := Lib.hid (HB'.out.on hA'' hne); clear b' hA'')
         exact ⟨⟨2 * root + 2, swp dk (first + root) (first + (2 * root + 2)), by go_num, by omega, by rw [size_swp]; exact hsk, HA''.out, HB''.out, by rw [<- HO.out, sd_right_go keyLess dk h1 hL hG]⟩, by simp [intOf]; omega⟩
       | false =>
         have hl := HX.out.ask HA3.out hsk ((first : Int) + (root : Int)) ((first : Int) + (2 * (root : Int) + 1 + 1)) (first + root) (first + (2 * root + 2)) false (by omega) (by omega) (by omega) (by omega) hG
         go_wp2_with (go_at_fn g; refine hl.mono ?_; rintro e w' ⟨rfl, b'⟩; have HA' := Lib.hid (HA3.out.below b'); clear b')
         (try simp only [Exit.inBlock, Exit.then]); refine bodyPost_ret (results_none rfl _ _ _) rfl ?_
         exact ⟨rfl, by rw [<- HO.out, sd_right_stop keyLess dk h1 hL hG]; exact HA'.out⟩
set_option maxHeartbeats 4000000 in
set_option maxRecDepth 100000 in
theorem sHeap_any {g sf blk n : Nat} {lb sb : Array Value} (a b : Nat) (d : Array KeyP) (w : World) (hX : SX g sf blk lb sb n w) (hA : At blk w w d) (hs : d.size = n) (hab : a <= b) (hb : b <= n) :
  Calls Tryz.prog 207 #[.agg #[.func (.func g) #[] lb, .func (.func sf) #[] sb], .int .i64 a, .int .i64 b] w fun e w' => e = .returned (.tuple #[]) /\ At blk w w' (heapSort keyLess d a b) := by
 obtain ⟨W1, hW1⟩ : ∃ W1, W1 = w.alloc (.cells #[.func (.func g) #[] lb, .func (.func sf) #[] sb] 277) := ⟨_, rfl⟩
 have hA1 : At blk w W1 d := by rw [hW1]; exact hA.below ((Below.refl _ _).alloc (Nat.le_refl _) _)
 have hB1 : Bx w.heap.size g sf lb sb W1 := by rw [hW1]; exact Bx.new _ _ _ _ _
 have hne : w.heap.size ≠ blk := by have := hA.lt; omega
 have ecast : ((b - a : Nat) : Int) = (b : Int) - (a : Int) := by omega
 have hsz := hX.size
 have HST := Lib.hid (half_start hab)
 have HX := Lib.hid hX
 have HA1 := Lib.hid hA1
 have HB1 := Lib.hid hB1
 have HW1 := Lib.hid hW1
 clear hX hA hA1 hB1 hW1
 go_enter Tryz.func207, Tryz.ntmps207
 go_wp2_with fail
 rw [<- HW1.out]
 go_loopw [9] (fun v X => ∃ (kx : Nat) (dk : Array KeyP), v = .int .i64 ((kx : Int) - 1) /\ kx <= (b - a - 1) / 2 + 1 /\ dk.size = n /\ At blk w X dk /\ Bx w.heap.size g sf lb sb X /\ heapBuild keyLess (b - a) a kx dk = heapBuild keyLess (b - a) a ((b - a - 1) / 2 + 1) d) (fun v _ => (intOf v + 1).toNat)
 case atStart => exact ⟨_, d, by rw [HST.out], Nat.le_refl _, hs, HA1.out, HB1.out, rfl⟩
 case round =>
  obtain ⟨kx, dk, rfl, hkx, hsk, hAt, hBx, hO⟩ := hrel
  have HO := Lib.hid hO
  have HA2 := Lib.hid hAt
  have HB2 := Lib.hid hBx
  obtain ⟨c0, c1, hBl⟩ := hBx
  clear hO hAt
  cases kx with
  | zero =>
    have hd : heapBuild keyLess (b - a) a ((b - a - 1) / 2 + 1) d = dk := HO.out.symm
    have HD := Lib.hid hd
    clear hd
    go_wp2_with fail
    go_loopw [10] (fun v X => ∃ (kx : Nat) (dj : Array KeyP), v = .int .i64 ((kx : Int) - 1) /\ kx <= b - a /\ dj.size = n /\ At blk w X dj /\ Bx w.heap.size g sf lb sb X /\ heapPop keyLess a kx dj = heapPop keyLess a (b - a) dk) (fun v _ => (intOf v + 1).toNat)
    case atStart => exact ⟨b - a, dk, by rw [ecast], Nat.le_refl _, hsk, HA2.out, HB2.out, rfl⟩
    case round =>
     obtain ⟨kx, dj, rfl, hkx, hsj, hAt, hBx, hO2⟩ := hrel
     have HO2 := Lib.hid hO2
     have HA3 := Lib.hid hAt
     have HB3 := Lib.hid hBx
     clear c0 c1 hBl
     obtain ⟨c0, c1, hBl⟩ := hBx
     clear hO2 hAt
     cases kx with
     | zero =>
       go_wp2_with fail
       go_end0
       exact ⟨rfl, by unfold heapSort; rw [HD.out, <- HO2.out]; exact HA3.out⟩
     | succ kx =>
       obtain ⟨X', hsw, hA''⟩ := HX.out.swaps HA3.out hsj (a : Int) ((a : Int) + (kx : Int)) a (a + kx) rfl (by omega) (by omega) (by omega)
       have HA'' := Lib.hid (HA3.out.trans hA'')
       have HB'' := Lib.hid (HB3.out.on hA'' hne)
       have hs2 : (swp dj a (a + kx)).size = n := by rw [size_swp]; exact hsj
       obtain ⟨c0', c1', hBl'⟩ := HB''.out
       have HC := Lib.hid (sSift_any 0 kx a (swp dj a (a + kx)) X' (HX.out.on HA''.out) HA''.out.here hs2 (Nat.zero_le _) (by omega))
       rw [show ((0 : Nat) : Int) = 0 from rfl] at HC
       clear hA''
       go_wp2_with (go_at_call 257; (with_reducible refine HC.out.mono ?_); rintro e w2 ⟨rfl, k2⟩; have HA4 := Lib.hid (HA''.out.trans k2); have HB4 := Lib.hid (HB''.out.on k2 hne); clear k2)
       go_roundw
       case rel =>
        (repeat apply Exists.intro)
        exact ⟨⟨kx, siftDown keyLess kx a 0 (swp dj a (a + kx)), by go_num, by omega, by rw [size_siftDown keyLess _ _ _ _ _ (Nat.le_refl _), hs2], HA4.out, HB4.out, HO2.out⟩, rfl⟩
       case measure => simp [intOf]
  | succ kx =>
    have HC := Lib.hid (sSift_any kx (b - a) a dk wr (HX.out.on HA2.out) HA2.out.here hsk (by omega) (by omega))
    rw [ecast] at HC
    go_wp2_with (go_at_call 257; (with_reducible refine HC.out.mono ?_); rintro e w2 ⟨rfl, k2⟩; have HA4 := Lib.hid (HA2.out.trans k2); have HB4 := Lib.hid (HB2.out.on k2 hne); clear k2)
    exact ⟨⟨kx, siftDown keyLess (b - a) a kx dk, by go_num, by omega, by rw [size_siftDown keyLess _ _ _ _ _ (Nat.le_refl _), hsk], HA4.out, HB4.out, HO.out⟩, by simp [intOf]⟩
theorem swoKL : SWO keyLess := by
 have h : ltOf keyCmp = keyLess := by funext x y; exact cmpK_lt x y
 rw [<- h]; exact swoK
theorem fr_sortWorldK {W : World} {blk n : Nat} {d : Array KeyP} (os : Array Obj) : Fr (· = blk) W (sortWorldK encK 4 W blk 0 n d os) := Fr.ofGrown (grownBy_putRow (flatK encK 4 d))
theorem shp_sortWorldK {W : World} {blk n : Nat} {d : Array KeyP} (os : Array Obj) : Shp blk W (sortWorldK encK 4 W blk 0 n d os) := fun cur t fz h0 => ⟨_, heap_putRow (flatK encK 4 d) h0, by simp [putCells]⟩
theorem At.grown {blk n : Nat} {w W W' : World} {d d' : Array KeyP} {os : Array Obj} (h : At blk w W d) (hw : W' = sortWorldK encK 4 W blk 0 n d' os) (hs : d'.size = d.size) : At blk w W' d' := by
 subst hw
 exact ⟨holdsK_sortWorldK encK 4 W blk 0 n d d' os h.lt' h.row hs, h.fr.trans (fr_sortWorldK os), h.lt, h.sh.trans (shp_sortWorldK os)⟩
theorem sBreak_any {g sf blk n : Nat} {lb sb : Array Value} (a b : Nat) (d : Array KeyP) (w : World) (hX : SX g sf blk lb sb n w) (hA : At blk w w d) (hs : d.size = n) (hab : a <= b) (hb : b <= n) :
  Calls Tryz.prog 208 #[.agg #[.func (.func g) #[] lb, .func (.func sf) #[] sb], .int .i64 a, .int .i64 b] w fun e w' => e = .returned (.tuple #[]) /\ At blk w w' (breakPatterns d a b) :=
 (Any.breakPatterns_func_cells_w (P := Tryz.prog) { Tryz.laysGg6 with } encK 4 (fun _ => rfl) (.func g) #[] lb sf sb blk 0 a b d w (by rw [hs]; exact hX.swap) hA.row hA.lt hab (by omega) (by rw [hs]; exact hX.size)).mono
  fun e w' ⟨he, m, os, hw⟩ => ⟨he, hA.grown hw (breakPatterns_holds d a b hab (by omega)).1⟩
theorem sRev_any {g sf blk n : Nat} {lb sb : Array Value} (a b : Nat) (d : Array KeyP) (w : World) (hX : SX g sf blk lb sb n w) (hA : At blk w w d) (hs : d.size = n) (hab : a <= b) (hb : b <= n) :
  Calls Tryz.prog 210 #[.agg #[.func (.func g) #[] lb, .func (.func sf) #[] sb], .int .i64 a, .int .i64 b] w fun e w' => e = .returned (.tuple #[]) /\ At blk w w' (reverseRange d a b) :=
 (Any.reverseRange_func_cells_w (P := Tryz.prog) { Tryz.laysGg6 with } encK 4 (fun _ => rfl) (.func g) #[] lb sf sb blk 0 a b d w (by rw [hs]; exact hX.swap) hA.row hA.lt hab (by omega) (by rw [hs]; exact hX.size)).mono
  fun e w' ⟨he, m, os, hw⟩ => ⟨he, hA.grown hw (reverseRange_holds d a b hab (by omega)).1⟩
set_option maxHeartbeats 12800000 in
set_option maxRecDepth 1000000 in
theorem sPdq_any {g sf blk n : Nat} {lb sb : Array Value} : ∀ (N a b limit : Nat) (d : Array KeyP) (w : World), b - a < N -> SX g sf blk lb sb n w -> At blk w w d -> d.size = n -> a <= b -> b <= n -> limit < 4611686018427387904 -> Go.Sort.Below keyLess a b d →
  Calls Tryz.prog 164 #[.agg #[.func (.func g) #[] lb, .func (.func sf) #[] sb], .int .i64 a, .int .i64 b, .int .i64 limit] w fun e w' => e = .returned (.tuple #[]) /\ At blk w w' (pdq keyLess d a b limit true true) := by
 intro N
 induction N with
 | zero => intro _ _ _ _ _ h; exact absurd h (Nat.not_lt_zero _)
 | succ N ih =>
   intro a b limit d w hN hX hA hs hab hb hlimit hBel0
   obtain ⟨W1, hW1⟩ : ∃ W1, W1 = w.alloc (.cells #[.func (.func g) #[] lb, .func (.func sf) #[] sb] 277) := ⟨_, rfl⟩
   have hA1 : At blk w W1 d := by rw [hW1]; exact hA.below ((Below.refl _ _).alloc (Nat.le_refl _) _)
   have hB1 : Bx w.heap.size g sf lb sb W1 := by rw [hW1]; exact Bx.new _ _ _ _ _
   have hne : w.heap.size ≠ blk := by have := hA.lt; omega
   have eg := hX.enter
   have hsz := hX.size
   have HX := Lib.hid hX
   have HA1 := Lib.hid hA1
   have HB1 := Lib.hid hB1
   have HW1 := Lib.hid hW1
   have IH := Lib.hid ih
   clear hX hA hA1 hB1 hW1 ih
   go_enter Tryz.func164, Tryz.ntmps164
   go_wp2_with fail
   rw [<- HW1.out]
   go_loopg [1, 2, 3, 8, 9] (b - a) (fun kx s1 s2 s3 s8 s9 wr => ∃ (a' b' lim : Nat) (wb wp : Bool) (dk : Array KeyP), s1 = .int .i64 a' /\ s2 = .int .i64 b' /\ s3 = .int .i64 lim /\ s8 = .bool wb /\ s9 = .bool wp ∧
    a' <= b' /\ b' <= n /\ b' - a' <= kx /\ kx <= b - a /\ lim <= limit /\ dk.size = n /\ Go.Sort.Below keyLess a' b' dk /\ At blk w wr dk /\ Bx w.heap.size g sf lb sb wr /\ pdq keyLess dk a' b' lim wb wp = pdq keyLess d a b limit true true)
   case atStart => exact ⟨a, b, limit, true, true, d, rfl, rfl, rfl, rfl, rfl, hab, hb, Nat.le_refl _, Nat.le_refl _, Nat.le_refl _, hs, hBel0, HA1.out, HB1.out, rfl⟩
   case round =>
    obtain ⟨a', b', lim, wb, wp, dk, rfl, rfl, rfl, rfl, rfl, hab', hb', hkx, hkN, hlim, hds, hBel, hAt, hBx, heq⟩ := hrel
    have HBel0 := Lib.hid hBel0
    have HBel := Lib.hid hBel
    clear hBel0 hBel
    obtain ⟨x0, x1, hxl⟩ := hBx
    have HAt := Lib.hid hAt
    clear hAt
    have A : Aside (pdq keyLess dk a' b' lim wb wp = pdq keyLess d a b limit true true) := heq
    clear heq
    by_cases h12 : b' - a' <= 12
    · have h12z : (b' : Int) - (a' : Int) <= 12 := by omega
      have hc := sIns_any a' b' dk wr (HX.out.on HAt.out) HAt.out.here hds hab' hb'
      go_wp2_with (go_at_call 206; (with_reducible refine hc.mono ?_); rintro e w1 ⟨rfl, hw1⟩)
      (try simp only [Exit.inBlock, Exit.then]); refine bodyPost_ret (results_none rfl _ _ _) rfl ?_
      refine ⟨rfl, ?_⟩
      rw [<- A.out, pdq_small h12]
      exact HAt.out.trans hw1
    · have h12z : ¬ ((b' : Int) - (a' : Int) <= 12) := by omega
      by_cases hl0 : lim = 0
      · subst hl0
        have hc := sHeap_any a' b' dk wr (HX.out.on HAt.out) HAt.out.here hds hab' hb'
        go_wp2_with (go_at_call 207; (with_reducible refine hc.mono ?_); rintro e w1 ⟨rfl, hw1⟩)
        (try simp only [Exit.inBlock, Exit.then]); refine bodyPost_ret (results_none rfl _ _ _) rfl ?_
        refine ⟨rfl, ?_⟩
        rw [<- A.out, pdq_heap h12 rfl]
        exact HAt.out.trans hw1
      · have hl0z : ¬ ((lim : Int) = 0) := by omega
        obtain ⟨s1, B1, hc1, s2, B2, hpv, s3, B3⟩ := rd_facts (lt := keyLess) (limit := lim) (wb := wb) (wp := wp) swoKL partialInsertionSort_holds reverseRange_holds (show a' < b' by omega) (show b' <= dk.size by omega) HBel.out
        have e1 := s1.trans hds
        have e2 := s2.trans hds
        have e3 := s3.trans hds
        have S1 := Lib.hid e1
        have S2 := Lib.hid e2
        have S3 := Lib.hid e3
        have S12 := Lib.hid s1
        have BB3 := Lib.hid B3
        clear e1 e2 e3 s1 s2 s3 B1 B2 B3
        -- 'if !wasBalanced'
        go_upto_if 35 with fail
        go_cut [3] (fun s3 wc => s3 = .int .i64 (rd keyLess dk a' b' lim wb wp).lim /\ At blk w wc (rd keyLess dk a' b' lim wb wp).d1 /\ Bx w.heap.size g sf lb sb wc)
        case first =>
         cases wb
         · have hc := sBreak_any a' b' dk wr (HX.out.on HAt.out) HAt.out.here hds hab' hb'
           go_wp2_with (go_at_call 208; (with_reducible refine hc.mono ?_); rintro e w1 ⟨rfl, hw1⟩)
           go_meet
           exact ⟨by show Value.int .i64 ((lim : Int) - 1) = Value.int .i64 ((lim - 1 : Nat) : Int); congr 1; omega, HAt.out.trans hw1, Bx.on ⟨x0, x1, hxl⟩ hw1 hne⟩
         · go_wp2_with fail
           go_meet
           exact ⟨rfl, HAt.out, ⟨x0, x1, hxl⟩⟩
        case rest =>
         obtain ⟨rfl, hAt1, hBx1⟩ := hcut
         clear x0 x1 hxl
         obtain ⟨y0, y1, hyl⟩ := hBx1
         have HAt1 := Lib.hid hAt1
         clear hAt1 HAt
         have hc17 : Calls Tryz.prog 209 #[.agg #[.func (.func g) #[] lb, .func (.func sf) #[] sb], .int .i64 a', .int .i64 b'] wc fun e w' => e = .returned (.tuple #[.int .i64 (rd keyLess dk a' b' lim wb wp).c.1, .int .i64 (hintCode (rd keyLess dk a' b' lim wb wp).c.2)]) /\ At blk wc w' (rd keyLess dk a' b' lim wb wp).d1 :=
          sPivot_any a' b' (rd keyLess dk a' b' lim wb wp).d1 wc (HX.out.on HAt1.out) HAt1.out.here S1.out (by omega) hb'
         go_upto_if 50 with (go_at_call 209; (with_reducible refine hc17.mono ?_); rintro e w2 ⟨rfl, hw2⟩)
         have HAt2 := Lib.hid (HAt1.out.trans hw2)
         have hBx2 : Bx w.heap.size g sf lb sb w2 := Bx.on ⟨y0, y1, hyl⟩ hw2 hne
         clear y0 y1 hyl hw2
         obtain ⟨z0, z1, hzl⟩ := hBx2
         -- 'if hint == decreasingHint'
         go_cut [11, 12] (fun s11 s12 wc => s11 = .int .i64 (rd keyLess dk a' b' lim wb wp).pivot /\ s12 = .int .i64 (hintCode (rd keyLess dk a' b' lim wb wp).hint) /\ At blk w wc (rd keyLess dk a' b' lim wb wp).d2 /\ Bx w.heap.size g sf lb sb wc)
         case first =>
          by_cases hh : (rd keyLess dk a' b' lim wb wp).c.2 = .decreasing
          · have hcode : hintCode (rd keyLess dk a' b' lim wb wp).c.2 = 2 := by rw [hh]; rfl
            obtain ⟨e2, epv, eht⟩ := rd_dec hh
            have hc18 := sRev_any a' b' (rd keyLess dk a' b' lim wb wp).d1 w2 (HX.out.on HAt2.out) HAt2.out.here S1.out hab' hb'
            have E2 := Lib.hid e2
            have EPV := Lib.hid epv
            have EHT := Lib.hid eht
            clear e2 epv eht
            go_wp2_with (go_at_call 210; (with_reducible refine hc18.mono ?_); rintro e w3 ⟨rfl, hw3⟩)
            go_meet
            exact ⟨by rw [EPV.out]; congr 1; omega, by rw [EHT.out]; rfl, by rw [E2.out]; exact HAt2.out.trans hw3, Bx.on ⟨z0, z1, hzl⟩ hw3 hne⟩
          · have hcode : ¬ (hintCode (rd keyLess dk a' b' lim wb wp).c.2 = 2) := fun h => hh (hintCode_two h)
            obtain ⟨e2, epv, eht⟩ := rd_not hh
            have E2 := Lib.hid e2
            have EPV := Lib.hid epv
            have EHT := Lib.hid eht
            clear e2 epv eht
            go_wp2_with fail
            go_meet
            exact ⟨by rw [EPV.out], by rw [EHT.out], by rw [E2.out]; exact HAt2.out, ⟨z0, z1, hzl⟩⟩
         case rest =>
          obtain ⟨rfl, rfl, hAt3, hBx3⟩ := hcut
          clear z0 z1 hzl HAt2 HAt1
          obtain ⟨v0, v1, hvl⟩ := hBx3
          have HAt3 := Lib.hid hAt3
          clear hAt3
          -- the test over Booleans
          go_upto_region 16 with fail
          go_cut [12, 68] (fun s12 s68 wx => s12 = .int .i64 (hintCode (rd keyLess dk a' b' lim wb wp).hint) /\ s68 = .bool (wb && wp && decide ((rd keyLess dk a' b' lim wb wp).hint = .increasing)) /\ wx = wc)
          case first =>
           cases wb <;> cases wp <;> cases hh3 : (rd keyLess dk a' b' lim _ _).hint <;>
            (have hcode3 := congrArg hintCode hh3
             simp only [hintCode] at hcode3
             go_wp2_with fail
             go_meet
             exact ⟨by simp [hh3, hintCode], by simp [hh3, hintCode], rfl⟩)
          case rest =>
           obtain ⟨rfl, rfl, hwx⟩ := hcut
           subst hwx
           go_upto_if 68 with fail
           go_cut [] (fun wx => (rd keyLess dk a' b' lim wb wp).pi.2 = false /\ At blk w wx (rd keyLess dk a' b' lim wb wp).pi.1 /\ Bx w.heap.size g sf lb sb wx)
           case first =>
            cases h68 : (wb && wp && decide ((rd keyLess dk a' b' lim wb wp).hint = .increasing))
            · have epi := rd_pi_no h68
              have EPI := Lib.hid epi
              clear epi
              go_wp2_with fail
              go_meet
              exact ⟨by rw [EPI.out], by rw [EPI.out]; exact HAt3.out, ⟨v0, v1, hvl⟩⟩
            · have epi := rd_pi_yes h68
              have hc19 := sPIns_any a' b' (rd keyLess dk a' b' lim wb wp).d2 _ (HX.out.on HAt3.out) HAt3.out.here S2.out (by omega) hb'
              rw [<- epi] at hc19
              have EPI := Lib.hid epi
              clear epi
              cases hp2 : (rd keyLess dk a' b' lim wb wp).pi.2 with
              | false =>
                rw [hp2] at hc19
                go_wp2_with (go_at_call 211; (with_reducible refine hc19.mono ?_); rintro e w4 ⟨rfl, hw4⟩)
                go_meet
                exact ⟨hp2, HAt3.out.trans hw4, Bx.on ⟨v0, v1, hvl⟩ hw4 hne⟩
              | true =>
                rw [hp2] at hc19
                go_wp2_with (go_at_call 211; (with_reducible refine hc19.mono ?_); rintro e w4 ⟨rfl, hw4⟩)
                (try simp only [Exit.inBlock, Exit.then]); refine bodyPost_ret (results_none rfl _ _ _) rfl ?_
                refine ⟨rfl, ?_⟩
                rw [<- A.out, pdq_done h12 hl0 hp2]
                exact HAt3.out.trans hw4
           case rest =>
            obtain ⟨hp2, hAt5, hBx5⟩ := hcut
            clear v0 v1 hvl HAt3
            obtain ⟨t0, t1, htl⟩ := hBx5
            have HAt5 := Lib.hid hAt5
            clear hAt5
            obtain ⟨dp, hdp⟩ : ∃ dp, dp = (rd keyLess dk a' b' lim wb wp).pi.1 := ⟨_, rfl⟩
            obtain ⟨pv, hpve⟩ : ∃ pv, pv = (rd keyLess dk a' b' lim wb wp).pivot := ⟨_, rfl⟩
            obtain ⟨lm, hlm⟩ : ∃ lm, lm = (rd keyLess dk a' b' lim wb wp).lim := ⟨_, rfl⟩
            have hlml : lm <= lim := by rw [hlm]; exact rd_lim_le
            have PS := Lib.hid (pdq_eq (lt := keyLess) (d := dk) (a := a') (b := b') (limit := lim) (wb := wb) (wp := wp) h12 hl0 hp2)
            have PL := Lib.hid (pdq_left (lt := keyLess) (d := dk) (a := a') (b := b') (limit := lim) (wb := wb) (wp := wp) h12 hl0 hp2)
            have PR := Lib.hid (pdq_right (lt := keyLess) (d := dk) (a := a') (b := b') (limit := lim) (wb := wb) (wp := wp) h12 hl0 hp2)
            rw [<- hdp, <- hpve, <- hlm] at PS PL PR
            rw [<- hdp] at HAt5 S3 BB3
            rw [<- hpve] at hpv
            rw [<- hpve, <- hlm]
            clear hp2 hdp hpve hlm hc1 S1 S2 S12 hc17
            -- the test 'a > 0 && !data.Less(a-1, pivot)'
            go_upto_region 18 with fail
            go_cut [83] (fun s83 wx => s83 = .bool (decide (a' > 0) && !keyLess dp[a' - 1]! dp[pv]!) /\ At blk w wx dp /\ Bx w.heap.size g sf lb sb wx)
            case first =>
             rcases Nat.eq_zero_or_pos a' with ha0 | ha0
             · have ha0z : decide ((a' : Int) > 0) = false := decide_eq_false (by omega)
               go_wp2_with fail
               go_meet
               exact ⟨by simp [ha0], HAt5.out, ⟨t0, t1, htl⟩⟩
             · have ha0z : (a' : Int) > 0 := by omega
               cases hlv : keyLess dp[a' - 1]! dp[pv]! with
               | true =>
                 have hl := HX.out.ask HAt5.out S3.out ((a' : Int) - 1) (pv : Int) (a' - 1) pv true (by omega) rfl (by omega) (by omega) hlv
                 go_wp2_with (go_at_fn g; refine hl.mono ?_; rintro e w' ⟨rfl, b'⟩; have HA' := Lib.hid (HAt5.out.below b'); have HB' := Lib.hid (Bx.below ⟨t0, t1, htl⟩ b'); clear b')
                 go_meet
                 exact ⟨by simp [ha0, hlv], HA'.out, HB'.out⟩
               | false =>
                 have hl := HX.out.ask HAt5.out S3.out ((a' : Int) - 1) (pv : Int) (a' - 1) pv false (by omega) rfl (by omega) (by omega) hlv
                 go_wp2_with (go_at_fn g; refine hl.mono ?_; rintro e w' ⟨rfl, b'⟩; have HA' := Lib.hid (HAt5.out.below b'); have HB' := Lib.hid (Bx.below ⟨t0, t1, htl⟩ b'); clear b')
                 go_meet
                 exact ⟨by simp [ha0, hlv], HA'.out, HB'.out⟩
            case rest =>
             obtain ⟨rfl, hAt6, hBx6⟩ := hcut
             clear t0 t1 htl HAt5
             have HAt6 := Lib.hid hAt6
             clear hAt6
             obtain ⟨q0, q1, hql⟩ := hBx6
             cases h87 : (decide (a' > 0) && !keyLess dp[a' - 1]! dp[pv]!)
             · obtain ⟨mid, ap, d4, hx⟩ : ∃ mid ap d4, partition keyLess dp a' b' pv = (mid, ap, d4) := ⟨_, _, _, rfl⟩
               obtain ⟨r1, r2, r3, r4, r5, r6, r7⟩ := round_part swoKL (partition_holds keyLess) hpv.1 hpv.2 (show b' <= dp.size by rw [S3.out]; exact hb') BB3.out hx
               have hc22 := sPart_any a' b' pv dp _ (HX.out.on HAt6.out) HAt6.out.here S3.out hpv.1 hpv.2 hb'
               rw [hx] at hc22
               have hs4 : d4.size = n := r3.trans S3.out
               have PL1 := Lib.hid (PL.out h87 (by rw [hx]; exact ⟨r1, r2⟩))
               have PR1 := Lib.hid (PR.out h87 (by rw [hx]; exact ⟨r1, r2⟩))
               rw [hx] at PL1 PR1
               have R4 := Lib.hid r4
               have R5 := Lib.hid r5
               have R6 := Lib.hid r6
               have R7 := Lib.hid r7
               have HS4 := Lib.hid hs4
               clear hx PL PR PS r3 r4 r5 r6 r7 hs4
               go_upto_if 109 with (go_at_call 213; (with_reducible refine hc22.mono ?_); rintro e w7 ⟨rfl, hw7⟩)
               have HAt7 := Lib.hid (HAt6.out.trans hw7)
               have hBx7 : Bx w.heap.size g sf lb sb w7 := Bx.on ⟨q0, q1, hql⟩ hw7 hne
               clear q0 q1 hql hw7
               obtain ⟨p0, p1, hpl⟩ := hBx7
               by_cases h4 : mid - a' < b' - mid
               · have h4z : (mid : Int) - (a' : Int) < (b' : Int) - (mid : Int) := by omega
                 have hih := IH.out a' mid lm d4 w7 (by omega) (HX.out.on HAt7.out) HAt7.out.here HS4.out (by omega) (by omega) (by omega) R4.out
                 obtain ⟨pL, sL⟩ := pdq_sorts keyLess swoKL d4 a' mid lm true true (by omega) (by rw [HS4.out]; omega) R4.out
                 have HP := Lib.hid pL
                 have HSo := Lib.hid sL
                 clear pL sL
                 go_wp2_with (go_at_call 164; (with_reducible refine hih.mono ?_); rintro e w8 ⟨rfl, hw8⟩)
                 go_roundg (b' - (mid + 1))
                 case measure => omega
                 case rel =>
                  refine ⟨mid + 1, b', lm, decide (mid - a' >= (b' - a') / 8), ap, pdq keyLess d4 a' mid lm true true, by simp, rfl, rfl, ?_, rfl, by omega, by omega, Nat.le_refl _, by omega, by omega, by rw [HP.out.1, HS4.out], (R6.out _ HP.out HSo.out).1, HAt7.out.trans hw8, Bx.on ⟨p0, p1, hpl⟩ hw8 hne, ?_⟩
                  · exact congrArg Value.bool (eighth (by omega) (by omega))
                  · rw [<- A.out]; exact (PL1.out h4).symm
               · have h4z : ¬ ((mid : Int) - (a' : Int) < (b' : Int) - (mid : Int)) := by omega
                 have hih := IH.out (mid + 1) b' lm d4 w7 (by omega) (HX.out.on HAt7.out) HAt7.out.here HS4.out (by omega) (by omega) (by omega) R5.out
                 rw [show ((mid + 1 : Nat) : Int) = (mid : Int) + 1 by omega] at hih
                 obtain ⟨pL, sL⟩ := pdq_sorts keyLess swoKL d4 (mid + 1) b' lm true true (by omega) (by rw [HS4.out]; omega) R5.out
                 have HP := Lib.hid pL
                 have HSo := Lib.hid sL
                 clear pL sL
                 go_wp2_with (go_at_call 164; (with_reducible refine hih.mono ?_); rintro e w8 ⟨rfl, hw8⟩)
                 go_roundg (mid - a')
                 case measure => omega
                 case rel =>
                  refine ⟨a', mid, lm, decide (b' - mid >= (b' - a') / 8), ap, pdq keyLess d4 (mid + 1) b' lm true true, rfl, rfl, rfl, ?_, rfl, by omega, by omega, Nat.le_refl _, by omega, by omega, by rw [HP.out.1, HS4.out], (R7.out _ HP.out HSo.out).1, HAt7.out.trans hw8, Bx.on ⟨p0, p1, hpl⟩ hw8 hne, ?_⟩
                  · exact congrArg Value.bool (eighth (by omega) (by omega))
                  · rw [<- A.out]; exact (PR1.out h4).symm
             · have h87' := h87
               simp only [Bool.and_eq_true, decide_eq_true_eq, Bool.not_eq_true'] at h87'
               obtain ⟨mid, d4, hx⟩ : ∃ mid d4, partitionEqual keyLess dp a' b' pv = (mid, d4) := ⟨_, _, rfl⟩
               obtain ⟨r1, r2, r3, r4, _⟩ := round_eq swoKL (partitionEqual_holds keyLess) h87'.1 hpv.1 hpv.2 (show b' <= dp.size by rw [S3.out]; exact hb') BB3.out h87'.2 hx
               have hc21 := sPartEq_any a' b' pv dp _ (HX.out.on HAt6.out) HAt6.out.here S3.out hpv.1 hpv.2 hb'
               rw [hx] at hc21
               have PS1 := Lib.hid (PS.out h87 (by rw [hx]; exact ⟨r1, r2⟩))
               rw [hx] at PS1
               have R4 := Lib.hid r4
               have HS4 := Lib.hid (r3.trans S3.out)
               clear hx PL PR PS r3 r4 h87'
               go_wp2_with (go_at_call 212; (with_reducible refine hc21.mono ?_); rintro e w7 ⟨rfl, hw7⟩)
               go_roundg (b' - mid)
               case measure => omega
               case rel =>
                exact ⟨mid, b', lm, wb, wp, d4, rfl, rfl, rfl, rfl, rfl, r2, hb', Nat.le_refl _, by omega, by omega, HS4.out, R4.out, HAt6.out.trans hw7, Bx.on ⟨q0, q1, hql⟩ hw7 hne, by rw [<- A.out]; exact PS1.out.symm⟩
end Go.Proofs.YtflhpmgjehjjkaaGreatDoor
