/- All values that were ever said of a key (Ever): the set of them, a map's keys, sorted. -/
import Derived.Sort.KeysCollected
import Derived.Sort.Walk0
import Derived.Test.YtacedfcckkpciaaGreatDoorPwML
namespace Go.Proofs.YtacedfcckkpciaaGreatDoor
open Go.RowKit Go.Deep Go.Shelf Go.Sort Go.Maps

/-! ### The library: maps.Keys, slices.Sorted -/
theorem mapsKeys_any (mb : Option Nat) (W : World) : Calls Tryz.prog 39 #[.map mb] W fun e w' => e = .returned (.func (.func 73) #[] #[.pointer (some ⟨W.heap.size, 0, none⟩)]) ∧ w' = W.alloc (.cells #[.map mb] 57) :=
  callsIn_wide.1 (AnyZ.keys_in Tryz.keysT Fence.wide 5 trivial rfl mb W)
theorem sortsT (m : Nat) : AnyZ.SortsIn Tryz.prog Tryz.sortedT_ren Fence.wide m :=
  ⟨fun blk off cap ss W hH hblk hsz => callsIn_wide.2 (AnyM.slices_Sort_string Tryz.sortT blk off cap ss W hH hblk hsz),
   fun p cap W => callsIn_wide.2 (AnyM.slices_Sort_string_none Tryz.sortT p cap W)⟩
def encStr' (l : List UInt8) : Value := Go.Proofs.encStr l
set_option maxHeartbeats 1000000 in
theorem sortedKeys_any (b nn : Nat) (D0 : DataW Unit) (R : Value → Option (DataW Unit × List MemPlace)) (w : World) (hown : w.ownsMap Tryz.prog 9 R b nn D0) (hmax : Maps.size D0 ≤ maxLen) (hbytes : Maps.size D0 * 16 ≤ 140737488355328) :
    Calls Tryz.prog 38 #[.func (.func 73) #[] #[.pointer (some ⟨w.heap.size, 0, none⟩)]] (w.alloc (.cells #[.map (some b)] 57)) fun e w' => ∃ (v : Value) (ss : List (List UInt8)), e = .returned v ∧ ss.Perm (strKeys D0) ∧
      w'.ownsRow (w.alloc (.cells #[.map (some b)] 57)).heap.size 9 1 v ss.length ((ss.mergeSort (fun x y => decide (x ≤ y))).map Go.Proofs.encStr) ∧ Below (w.alloc (.cells #[.map (some b)] 57)).heap.size (w.alloc (.cells #[.map (some b)] 57)) w' := by
  have hbl := hown.lt
  have hseq : SeqGives Fence.wide 2 Tryz.prog 73 #[.pointer (some ⟨w.heap.size, 0, none⟩)] Go.Proofs.encStr (fun ss => ss.Perm (strKeys D0)) (Maps.size D0) (w.alloc (.cells #[.map (some b)] 57)) :=
    AnyZ.keys_gives (ρ := Tryz.keysT_ren) { Tryz.keysT with } Fence.wide _ trivial rfl (by omega) w.heap.size b nn D0 _ (by simp) (by simp) (by
      obtain ⟨es, clock, hb, Ft, hs, hD⟩ := hown
      exact ⟨es, clock, (Below.heap_alloc _ _ b hbl).trans hb, Ft, hs, hD⟩)
  refine (callsIn_wide.1 (AnyZ.sorted_in Tryz.sortedT Fence.wide 5 trivial trivial trivial trivial rfl (by omega) (sortsT _) (enters_of Tryz.func72 (by kernel_rfl) rfl) 73 #[.pointer (some ⟨w.heap.size, 0, none⟩)] trivial (enters_of Tryz.func73 (by kernel_rfl) rfl) _ _ hmax hbytes _ hseq)).mono ?_
  rintro e w' ⟨v, ss, h1, h2, h3, _, h4⟩
  exact ⟨v, ss, h1, h2, h3, h4⟩

/-! ### A set of texts in a map -/
def sK (x : ByteArray) : Lit := .string x.data.toList
theorem sK_key (x : ByteArray) : WideAt.IsKeyLit (sK x) := by trivial
theorem sK_inj {x y : ByteArray} (h : sK x = sK y) : x = y := bytes_ext (by simpa [sK] using h)
def boolD : DataW Unit := .lit (.bool true)
def boolR : Value → Option (DataW Unit × List MemPlace)
  | .bool b => some (.lit (.bool b), [])
  | _ => none
theorem strLaw : Keyed Tryz.prog 9 := string_keyed Tryz.underlying9
theorem keyOf_str {x : ByteArray} (h : x.size ≤ maxLen) : keyOf Tryz.prog 9 (.string x) = some (sK x) := by
  simp [keyOf, Tryz.underlying9, mapKey, h, sK]
/-- The map has just these texts. -/
structure HadIs (w : World) (b n : Nat) (L : List ByteArray) : Prop where
  nod : L.Nodup
  own : ∃ D, w.ownsMap Tryz.prog 9 boolR b n D ∧ MapOf sK (fun _ => boolD) D L
theorem HadIs.frame {F : Nat → Prop} {w w' : World} {b n : Nat} {L : List ByteArray} (h : HadIs w b n L) (hf : Fr F w w') (hn : ¬ F b) : HadIs w' b n L := by
  obtain ⟨D, h1, h2⟩ := h.own
  exact ⟨h.nod, D, owns_frame h1 hf hn, h2⟩
/-- One text more, perhaps there already. -/
theorem had_put {D : DataW Unit} {L : List ByteArray} (hn : L.Nodup) (h : MapOf sK (fun _ => boolD) D L) (x : ByteArray) : ∃ L', L'.Nodup ∧ MapOf sK (fun _ => boolD) (D.put (sK x) boolD) L' ∧ ∀ y, y ∈ L' ↔ y = x ∨ y ∈ L := by
  by_cases hx : x ∈ L
  · obtain ⟨l1, l2, rfl⟩ := List.append_of_mem hx
    have hp : (l1 ++ x :: l2).Perm (x :: (l1 ++ l2)) := List.perm_middle
    have hn' := hp.nodup_iff.1 hn
    obtain ⟨n1, _⟩ := List.nodup_cons.1 hn'
    have h' := (h.perm hp).over x rfl (sK_key x) (fun y hy e => n1 (by rw [← sK_inj e]; exact hy))
    refine ⟨x :: (l1 ++ l2), hn', h', fun y => ?_⟩
    simp only [List.mem_cons, List.mem_append]
    constructor
    · rintro (h | h | h)
      · exact .inl h
      · exact .inr (.inl h)
      · exact .inr (.inr (.inr h))
    · rintro (h | h | h | h)
      · exact .inl h
      · exact .inr (.inl h)
      · exact .inl h
      · exact .inr (.inr h)
  · exact ⟨x :: L, List.nodup_cons.2 ⟨hx, hn⟩, h.put x (sK_key x) (fun y hy e => hx (by rw [← sK_inj e]; exact hy)), fun y => by simp⟩
/-- The keys, sorted: these texts, in order, each once. -/
theorem had_sorted {w : World} {b n : Nat} {D : DataW Unit} {L : List ByteArray} (hn : L.Nodup) (hown : w.ownsMap Tryz.prog 9 boolR b n D) (h : MapOf sK (fun _ => boolD) D L) {ss : List (List UInt8)} (hs : ss.Perm (strKeys D)) :
    ∃ S : List ByteArray, (ss.mergeSort (fun x y => decide (x ≤ y))).map Go.Proofs.encStr = S.map Value.string ∧ S.length = ss.length ∧ S.Pairwise bLess ∧ ∀ x, x ∈ S ↔ x ∈ L := by
  have hp : (L.map (·.data.toList)).Perm (strKeys D) := by
    obtain ⟨es, rfl, e1, _⟩ := hown.entries strLaw
    obtain ⟨es', e2, e3⟩ := hown.keysOf
    cases e2
    refine perm_strKeys e1 (fun p hp => ?_) ?_ (fun x => ?_)
    · obtain ⟨v, hv⟩ := e3 p hp
      obtain ⟨y, _, hy, _⟩ := Maps.keyOf_str Tryz.underlying9 hv
      exact ⟨y, hy⟩
    · exact List.pairwise_map.2 (hn.imp fun {a b} hab e => hab (bytes_ext e))
    · rw [h.has _ (by trivial)]
      simp only [List.mem_map, sK, Lit.string.injEq]
  have hq : (ss.mergeSort (fun x y => decide (x ≤ y))).Perm (L.map (·.data.toList)) := (List.mergeSort_perm _ _).trans (hs.trans hp.symm)
  have hso : (ss.mergeSort (fun x y => decide (x ≤ y))).Pairwise fun a b => decide (a ≤ b) = true :=
    List.pairwise_mergeSort (fun a b c h1 h2 => by simp only [decide_eq_true_eq] at *; exact List.le_trans h1 h2) (fun a b => by simp only [Bool.or_eq_true, decide_eq_true_eq]; exact List.le_total a b) ss
  have hnd : (ss.mergeSort (fun x y => decide (x ≤ y))).Nodup := hq.nodup_iff.2 (List.pairwise_map.2 (hn.imp fun {a b} hab e => hab (bytes_ext e)))
  refine ⟨(ss.mergeSort (fun x y => decide (x ≤ y))).map fun l => ⟨l.toArray⟩, ?_, by simp, ?_, fun x => ?_⟩
  · rw [List.map_map]; rfl
  · rw [List.pairwise_map]
    refine (hso.and hnd).imp fun {a b} h => ?_
    unfold bLess
    rw [bytesLess_eq]
    simp only [decide_eq_true_eq]
    obtain ⟨h1, h2⟩ := h
    simp only [decide_eq_true_eq] at h1
    exact Std.lt_of_le_of_ne h1 h2
  · rw [List.mem_map]
    constructor
    · rintro ⟨l, hl, rfl⟩
      obtain ⟨y, hy, rfl⟩ := List.mem_map.1 (hq.mem_iff.1 hl)
      exact hy
    · intro hx
      exact ⟨x.data.toList, hq.mem_iff.2 (List.mem_map.2 ⟨x, hx, rfl⟩), rfl⟩

/-! ### Plain -/
def everT (vs : List Ver) (a b : Int) (ids : List Int) : List ByteArray := (ids.filter (everB vs a b)).map fun id => (verAt vs id).val
theorem everT_all (vs : List Ver) (k : KeyP) (a b f t : Int) : everT vs a b (meetsL (itemsK vs k) f t) = everU vs k a b f t := rfl
theorem everT_yes {vs : List Ver} {a b : Int} {ids : List Int} {j : Nat} {id : Int} {v : Ver} (h : ids[j]? = some id) (hv : verAt vs id = v) (hs : everB vs a b id = true) : everT vs a b (ids.take (j + 1)) = everT vs a b (ids.take j) ++ [v.val] := by
  unfold everT
  rw [List.take_succ_eq_append_getElem (List.getElem?_eq_some_iff.1 h).1, (List.getElem?_eq_some_iff.1 h).2, List.filter_append, List.map_append]
  congr 1
  rw [List.filter_cons_of_pos hs]
  simp [hv]
theorem everT_no {vs : List Ver} {a b : Int} {ids : List Int} {j : Nat} {id : Int} (h : ids[j]? = some id) (hs : everB vs a b id = false) : everT vs a b (ids.take (j + 1)) = everT vs a b (ids.take j) := by
  unfold everT
  rw [List.take_succ_eq_append_getElem (List.getElem?_eq_some_iff.1 h).1, (List.getElem?_eq_some_iff.1 h).2, List.filter_append, List.map_append, List.filter_cons_of_neg (by rw [hs]; decide)]
  simp
end Go.Proofs.YtacedfcckkpciaaGreatDoor
