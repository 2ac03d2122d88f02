/- How keys are compared, once more: but draws and new blocks nothing turns; the sort of a slice of keys of the call's own. -/
import Derived.Test.YtflhpmgjehjjkaaGreatDoorFcGJp
import Derived.Test.YtflhpmgjehjjkaaGreatDoorFactMJp
import Derived.Test.YtflhpmgjehjjkaaGreatDoorSortKJp
import Derived.Test.YtflhpmgjehjjkaaGreatDoorBesideJp
import Derived.Test.YtflhpmgjehjjkaaGreatDoorPwAJp
namespace Go.Proofs.YtflhpmgjehjjkaaGreatDoor
open Go.RowKit Go.Shelf Go.Sort
set_option maxHeartbeats 1000000 in
theorem fcmp_lays (k a b k' a' b' : Int) (s s' : ByteArray) (w : World) :
  Calls Tryz.prog 100 #[.agg #[.int .i64 k, .int .i64 a, .string s, .int .i64 b], .agg #[.int .i64 k', .int .i64 a', .string s', .int .i64 b']] w fun e w' => e = .returned (.int .i64 (keyCmp ⟨k, a, s, b⟩ ⟨k', a', s', b'⟩)) /\ Lays w w' := by
 have i1 := fun w => (cmpArr k k' a a' w).1
 have i2 := fun w => (cmpArr k k' a a' w).2
 have b2 : Lays w ((w.alloc (.cells #[.int .i64 k, .int .i64 a, .string s, .int .i64 b] 44)).alloc (.cells #[.int .i64 k', .int .i64 a', .string s', .int .i64 b'] 44)) := ((Lays.refl w).alloc _).alloc _
 have b3 : Lays w (((w.alloc (.cells #[.int .i64 k, .int .i64 a, .string s, .int .i64 b] 44)).alloc (.cells #[.int .i64 k', .int .i64 a', .string s', .int .i64 b'] 44)).alloc (.cells #[.int .i64 k, .int .i64 k'] 45)) := b2.alloc _
 have b4 : Lays w ((((w.alloc (.cells #[.int .i64 k, .int .i64 a, .string s, .int .i64 b] 44)).alloc (.cells #[.int .i64 k', .int .i64 a', .string s', .int .i64 b'] 44)).alloc (.cells #[.int .i64 k, .int .i64 k'] 45)).alloc (.cells #[.int .i64 a, .int .i64 a'] 45)) := b3.alloc _
 by_cases h1 : k = k'
 · subst h1
   by_cases h2 : a = a'
   · subst h2
     by_cases h3 : s = s'
     · subst h3
       by_cases h4 : b = b'
       · subst h4
         have e : keyCmp ⟨k, a, s, b⟩ ⟨k, a, s, b⟩ = 0 := by unfold keyCmp; simp
         rw [e]; clear e
         go_enter Tryz.func100, Tryz.ntmps100
         go_wp2
         refine wp_loop_rounds 3 ?_
         rw [rounds_succ]
         go_wp2
         rw [rounds_succ]
         go_wp2
         rw [rounds_succ]
         go_wp2
         go_ret
         exact ⟨rfl, b4⟩
       · have e : keyCmp ⟨k, a, s, b⟩ ⟨k, a, s, b'⟩ = sgn (decide (b' < b)) := by unfold keyCmp; simp [h4]
         rw [e]; clear e
         have n4 : (b != b') = true := by simpa using h4
         have n5 : ((b : Int) == b') = false := by simpa using h4
         go_enter Tryz.func100, Tryz.ntmps100
         go_wp2
         refine wp_loop_rounds 3 ?_
         rw [rounds_succ]
         go_wp2
         rw [rounds_succ]
         go_wp2
         rw [rounds_succ]
         go_wp2_with (go_at_call 146; refine (sign_any _ _).mono ?_; rintro e w' ⟨rfl, rfl⟩)
         go_ret
         exact ⟨rfl, b4⟩
     · have n3 : (!s.toList == s'.toList) = true := by
        have : ¬ s.toList = s'.toList := fun e => h3 (bytes_ext (by rw [<- ByteArray.toList_eq, <- ByteArray.toList_eq]; exact e))
        simpa using this
       have n4 : (s.toList == s'.toList) = false := by simpa using n3
       have e : keyCmp ⟨k, a, s, b⟩ ⟨k, a, s', b'⟩ = sgn (!(Op.bytesLess s.toList s'.toList || (s.toList == s'.toList))) := by
        have h : (!(Op.bytesLess s.toList s'.toList || (s.toList == s'.toList))) = Op.bytesLess s'.data.toList s.data.toList := by
         rw [n4, Bool.or_false, ByteArray.toList_eq, ByteArray.toList_eq]
         rcases bless_tri s.data.toList s'.data.toList with h | h | h
         · rw [h, bless_asymm _ _ h]; rfl
         · exact absurd (bytes_ext h) h3
         · rw [h, bless_asymm _ _ h]; rfl
        rw [h]
        unfold keyCmp; simp [h3]
       rw [e]; clear e
       go_enter Tryz.func100, Tryz.ntmps100
       go_wp2
       refine wp_loop_rounds 3 ?_
       rw [rounds_succ]
       go_wp2
       rw [rounds_succ]
       go_wp2
       rw [rounds_succ]
       go_wp2_with (go_at_call 146; refine (sign_any _ _).mono ?_; rintro e w' ⟨rfl, rfl⟩)
       go_ret
       exact ⟨by rw [n4, Bool.or_false]; rfl, b4⟩
   · have e : keyCmp ⟨k, a, s, b⟩ ⟨k, a', s', b'⟩ = sgn (decide (a' < a)) := by unfold keyCmp; simp [h2]
     rw [e]; clear e
     have n4 : (a != a') = true := by simpa using h2
     go_enter Tryz.func100, Tryz.ntmps100
     go_wp2
     refine wp_loop_rounds 3 ?_
     rw [rounds_succ]
     go_wp2
     rw [rounds_succ]
     go_wp2_with (go_at_call 146; refine (sign_any _ _).mono ?_; rintro e w' ⟨rfl, rfl⟩)
     go_ret
     exact ⟨rfl, b4⟩
 · have e : keyCmp ⟨k, a, s, b⟩ ⟨k', a', s', b'⟩ = sgn (decide (k' < k)) := by unfold keyCmp; simp [h1]
   rw [e]; clear e
   have n4 : (k != k') = true := by simpa using h1
   go_enter Tryz.func100, Tryz.ntmps100
   go_wp2
   refine wp_loop_rounds 3 ?_
   rw [rounds_succ]
   go_wp2_with (go_at_call 146; refine (sign_any _ _).mono ?_; rintro e w' ⟨rfl, rfl⟩)
   go_ret
   exact ⟨rfl, b3⟩
def encK (k : KeyP) : List Value := [.int .i64 k.kind, .int .i64 k.a, .string k.word, .int .i64 k.b]
def flatKeys (l : List KeyP) : List Value := l.flatMap encK
theorem cmpK_lt (x y : KeyP) : ltOf keyCmp x y = keyLess x y := by
 unfold ltOf
 rw [cmp_less]
 cases h : keyLess x y
 · by_cases e : x = y
   · simp [e]
   · simp [e]
 · simp
theorem swoK : SWO (ltOf keyCmp) where
 irrefl x := by rw [cmpK_lt]; exact keyLess_irrefl x
 trans x y z h1 h2 := by rw [cmpK_lt] at *; exact keyLess_trans x y z h1 h2
 ntrans x y z h1 h2 := by
  rw [cmpK_lt] at *
  cases h : keyLess x z with
  | false => rfl
  | true =>
    rcases keyLess_tri x y with h3 | h3 | h3
    · rw [h1] at h3; cases h3
    · subst h3; rw [h2] at h; cases h
    · rw [keyLess_trans y x z h3 h] at h2; cases h2
theorem totK (x y : KeyP) (h1 : ltOf keyCmp x y = false) (h2 : ltOf keyCmp y x = false) : x = y := by
 rw [cmpK_lt] at *
 rcases keyLess_tri x y with h3 | h3 | h3
 · rw [h1] at h3; cases h3
 · exact h3
 · rw [h2] at h3; cases h3
def sortKeys (l : List KeyP) : List KeyP := l.mergeSort fun x y => !(ltOf keyCmp) y x
theorem sortKeys_perm (l : List KeyP) : (sortKeys l).Perm l := List.mergeSort_perm _ _
theorem sortKeys_sorted {l : List KeyP} (hn : l.Nodup) : (sortKeys l).Pairwise fun x y => keyLess x y = true := by
 have h1 := List.pairwise_mergeSort (le := fun x y : KeyP => !(ltOf keyCmp) y x) (fun a b c h1 h2 => by
  rw [cmpK_lt, Bool.not_eq_true'] at *
  cases h : keyLess c a with
  | false => rfl
  | true =>
    rcases keyLess_tri b c with h3 | h3 | h3
    · rw [keyLess_trans b c a h3 h] at h1; cases h1
    · subst h3; rw [h1] at h; cases h
    · rw [h2] at h3; cases h3) (fun a b => by
  rw [cmpK_lt, cmpK_lt]
  cases h : keyLess b a with
  | false => simp
  | true => rw [keyLess_asymm b a h]; rfl) l
 have h2 : (sortKeys l).Nodup := (sortKeys_perm l).nodup_iff.2 hn
 refine (h1.and h2).imp fun {a b} h => ?_
 obtain ⟨h3, h4⟩ := h
 rw [cmpK_lt, Bool.not_eq_true'] at h3
 rcases keyLess_tri a b with h5 | h5 | h5
 · exact h5
 · exact absurd h5 h4
 · rw [h3] at h5; cases h5
theorem sortKeys_own (base : Nat) (v : Value) (l : List KeyP) (w : World) (hown : w.ownsRow base 44 4 v l.length (flatKeys l)) (hb : base <= w.heap.size) (hsz : l.length < 4611686018427387904) :
  Calls Tryz.prog 99 #[v, .func (.func 100) #[] #[]] w fun e' w' => e' = .returned (.tuple #[]) /\ w'.ownsRow base 44 4 v l.length (flatKeys (sortKeys l)) /\ Below base w w' :=
 sortFunc_own Tryz.sortKey 4 (by decide) Tryz.isAgg44 Tryz.sizeOf44 encK (fun _ => rfl) (fun x v hv => by simp [encK] at hv; rcases hv with rfl | rfl | rfl | rfl <;> rfl) keyCmp swoK totK 100 #[] (enters_of Tryz.func100 (by kernel_rfl) rfl)
  (fun W x y => fcmp_lays x.kind x.a x.b y.kind y.a y.b x.word y.word W) base 44 v l w hown hb hsz
end Go.Proofs.YtflhpmgjehjjkaaGreatDoor
