/- A past's Commit, where it does not say. -/
import Derived.Laws.AppendOwnNone
import Derived.Lib.AppendZeros
import Derived.Test.YtflhpmgjehjjkaaGreatDoorPickJp
import Derived.Test.YtflhpmgjehjjkaaGreatDoorApFJp
import Derived.Test.YtflhpmgjehjjkaaGreatDoorRpDJp
import Derived.Test.YtflhpmgjehjjkaaGreatDoorPwHJp
import Derived.Test.YtflhpmgjehjjkaaGreatDoorErrCJp
namespace Go.Proofs.YtflhpmgjehjjkaaGreatDoor
open Go.RowKit Go.Deep Go.Shelf Go.Sort Go.Maps
structure SayP where
 key : Int
 fr : Int
 many : Int
 value : Int
 last : Int
def sayCells (s : SayP) : List Value := [.int .i64 s.key, .int .i64 s.fr, .int .i64 s.many, .int .i64 s.value, .int .i64 s.last]
def saysAt (w : World) (ao : Option Addr) (l : List SayP) : Prop := ∀ i s, l[i]? = some s -> ∃ b f, ao = some ⟨b, f, none⟩ /\ ∀ j u, (sayCells s)[j]? = some u -> w.cell? ⟨b, f + i * 5 + j, none⟩ = some u
theorem saysAt.below {w w' : World} {ao : Option Addr} {l : List SayP} (h : saysAt w ao l) (hb : Below w.heap.size w w') : saysAt w' ao l :=
 fun i o hi => let ⟨b, f, h1, h2⟩ := h i o hi
  ⟨b, f, h1, fun j u hj => (hb.cell (p := ⟨b, _, none⟩) (World.block_lt_of_cell? w _ (h2 j u hj))).trans (h2 j u hj)⟩
def flatW (l : List OpP) : List Value := l.flatMap opCells
theorem flatW_length (l : List OpP) : (flatW l).length = l.length * 7 := by
 induction l with
 | nil => rfl
 | cons o l ih => unfold flatW at *; rw [List.flatMap_cons, List.length_append, ih, show (opCells o).length = 7 from rfl, List.length_cons]; omega
theorem flatW_get : ∀ (l : List OpP) (i j : Nat) (o : OpP) (u : Value), l[i]? = some o -> (opCells o)[j]? = some u -> (flatW l)[i * 7 + j]? = some u
 | [], i, j, o, u, h, _ => by simp at h
 | a :: l, 0, j, o, u, h, hu => by
   simp at h; subst h
   have hj : j < 7 := (List.getElem?_eq_some_iff.1 hu).1
   unfold flatW; rw [List.flatMap_cons, Nat.zero_mul, Nat.zero_add, List.getElem?_append_left (by rw [show (opCells a).length = 7 from rfl]; exact hj)]; exact hu
 | a :: l, i + 1, j, o, u, h, hu => by
   have ih := flatW_get l i j o u (by simpa using h) hu
   unfold flatW at *; rw [List.flatMap_cons, List.getElem?_append_right (by rw [show (opCells a).length = 7 from rfl]; omega), show (opCells a).length = 7 from rfl, show (i + 1) * 7 + j - 7 = i * 7 + j by omega]; exact ih
theorem ownsRow_opsW {w : World} {base n : Nat} {v : Value} {l : List OpP} {e : TypeId} (h : w.ownsRow base e 7 v n (flatW l)) (hne : l ≠ []) : ∃ b cap, v = .slice (some ⟨b, 0, none⟩) l.length cap /\ base <= b /\ opsAt w (some ⟨b, 0, none⟩) l := by
 have hn : n = l.length := by have := h.1; rw [flatW_length] at this; omega
 subst hn
 obtain ⟨ao, cap, rfl, hn, hc⟩ := ownsRow_slice h
 cases l with
 | nil => exact absurd rfl hne
 | cons o l =>
   obtain ⟨b, h1, h2⟩ := hc _ _ (flatW_get (o :: l) 0 0 o _ rfl rfl)
   subst h1
   refine ⟨b, cap, rfl, (h.lt b rfl).1, fun i o' ho => ⟨b, 0, rfl, fun j u hu => ?_⟩⟩
   obtain ⟨b', h1', h2'⟩ := hc _ _ (flatW_get _ i j o' u ho hu)
   cases h1'
   rw [Nat.zero_add]; exact h2'
theorem infoOpW : (Tryz.prog.info? 70).map (fun i => (i.zero, i.size, i.bytes)) = some (some (.agg #[.int .i64 0, .int .i64 0, .string ⟨#[]⟩, .int .i64 0, .int .i64 0, .int .i64 0, .string ⟨#[]⟩]), 7, 72) := by kernel_rfl
theorem infoOpsW : (Tryz.prog.info? 33).map (fun i => (i.zero, i.size, i.bytes)) = some (some (.slice none 0 0), 1, 24) := by kernel_rfl
theorem opCells_one (o : OpP) : ∀ u ∈ opCells o, u.oneCell' = true := by
 intro u hu
 simp [opCells] at hu
 rcases hu with rfl | rfl | rfl | rfl | rfl | rfl | rfl <;> rfl
structure OpsIn (z : Nat) (T : List (List OpP)) (L : List OpP) (v u : Value) (w : World) : Prop where
 row : ∃ hs : List Value, w.ownsRow z 33 1 v T.length hs /\ ∀ (i : Nat) (h : Value) (t : List OpP), hs[i]? = some h -> T[i]? = some t -> ∃ b cap, h = .slice (some ⟨b, 0, none⟩) t.length cap /\ (z <= b /\ b < w.heap.size) /\ Apart v b /\ Apart u b /\ opsAt w (some ⟨b, 0, none⟩) t
 cur : w.ownsRow z 70 7 u L.length (flatW L)
 ap : ∀ p, u.ownBlock = some p -> Apart v p
theorem opsAt_grown {w w' : World} {r : Option Nat} {b : Nat} {t : List OpP} (h : opsAt w (some ⟨b, 0, none⟩) t) (hg : w.grownBy w' r) (hr : r ≠ some b) : opsAt w' (some ⟨b, 0, none⟩) t := fun i o hi => by
 obtain ⟨b', f, he, h2⟩ := h i o hi
 cases he
 exact ⟨b, 0, rfl, fun j u hu => hg.cell (h2 j u hu) (fun e => hr e.symm)⟩
theorem OpsIn.below {z : Nat} {T : List (List OpP)} {L : List OpP} {v u : Value} {w w' : World} (h : OpsIn z T L v u w) (hb : Below w.heap.size w w') : OpsIn z T L v u w' := by
 obtain ⟨⟨hs, h1, h2⟩, h3, h4⟩ := h
 refine ⟨⟨hs, ownsRow_below h1 hb, fun i hd t hi ht => ?_⟩, ownsRow_below h3 hb, h4⟩
 obtain ⟨b, cap, q1, q2, q3, q4, q5⟩ := h2 i hd t hi ht
 exact ⟨b, cap, q1, ⟨q2.1, Nat.lt_of_lt_of_le q2.2 hb.size⟩, q3, q4, q5.below hb⟩
theorem OpsIn.new (z : Nat) (w : World) : OpsIn z [] [] (.slice none 0 0) (.slice none 0 0) w :=
 ⟨⟨[], World.ownsRow_nil _ _ _ _, fun i h t hi => by cases hi⟩, World.ownsRow_nil _ _ _ _, fun p hp => by cases hp⟩
theorem OpsIn.more {z : Nat} {T : List (List OpP)} {L : List OpP} {v u u' : Value} {w w' : World} {o : OpP} (h : OpsIn z T L v u w) (ho : w'.ownsRow z 70 7 u' (L ++ [o]).length (flatW (L ++ [o]))) (hg : w.grownBy w' u.ownBlock) (hf : ∀ p, p < w.heap.size -> Apart u p -> Apart u' p) : OpsIn z T (L ++ [o]) v u' w' := by
 obtain ⟨⟨hs, h1, h2⟩, h3, h4⟩ := h
 have hvu : ∀ p, v.ownBlock = some p -> Apart u p := fun p hp e => h4 p e hp
 refine ⟨⟨hs, h1.kept hg ?_, fun i hd t hi ht => ?_⟩, ho, fun p hp e => ?_⟩
 · cases hv : v.ownBlock with
   | none => exact .inl rfl
   | some p => exact .inr fun e => hvu p hv e.symm
 · obtain ⟨b, cap, q1, q2, q3, q4, q5⟩ := h2 i hd t hi ht
   exact ⟨b, cap, q1, ⟨q2.1, Nat.lt_of_lt_of_le q2.2 hg.size⟩, q3, hf b q2.2 q4, opsAt_grown q5 hg q4⟩
 · exact hf p (h1.lt p e).2 (hvu p e) hp
theorem OpsIn.done {z : Nat} {T : List (List OpP)} {L : List OpP} {v v' u : Value} {w w' : World} (h : OpsIn z T L v u w) (hne : L ≠ []) (hrow : ∀ hs, w.ownsRow z 33 1 v T.length hs -> w'.ownsRow z 33 1 v' (T.length + 1) (hs ++ [u])) (hg : w.grownBy w' v.ownBlock) (hf : ∀ p, p < w.heap.size -> Apart v p -> Apart v' p) : OpsIn z (T ++ [L]) [] v' (.slice none 0 0) w' := by
 obtain ⟨⟨hs, h1, h2⟩, h3, h4⟩ := h
 refine ⟨⟨hs ++ [u], by rw [List.length_append]; exact hrow hs h1, fun i hd t hi ht => ?_⟩, World.ownsRow_nil _ _ _ _, fun p hp => by cases hp⟩
 have hl : hs.length = T.length := by have := h1.1; omega
 have key : ∃ b cap, hd = .slice (some ⟨b, 0, none⟩) t.length cap /\ z <= b /\ Apart v b /\ opsAt w (some ⟨b, 0, none⟩) t /\ b < w.heap.size := by
  rw [List.getElem?_append] at hi ht
  by_cases hlt : i < T.length
  · rw [if_pos (by omega)] at hi
    rw [if_pos hlt] at ht
    obtain ⟨b, cap, q1, q2, q3, q4, q5⟩ := h2 i hd t hi ht
    exact ⟨b, cap, q1, q2.1, q3, q5, q2.2⟩
  · rw [if_neg (by omega)] at hi
    rw [if_neg hlt] at ht
    have hi0 : i - T.length = 0 := by
     have := (List.getElem?_eq_some_iff.1 ht).1
     simp at this; omega
    rw [hi0] at ht
    rw [hl, hi0] at hi
    simp at hi ht
    subst hi ht
    obtain ⟨b, cap, q1, q2, q3⟩ := ownsRow_opsW h3 hne
    subst q1
    exact ⟨b, cap, rfl, q2, h4 b rfl, q3, (h3.lt b rfl).2⟩
 obtain ⟨b, cap, q1, q2, q3, q4, q5⟩ := key
 exact ⟨b, cap, q1, ⟨q2, Nat.lt_of_lt_of_le q5 hg.size⟩, hf b q5 q3, (fun e => by cases e), opsAt_grown q4 hg q3⟩
theorem appMany {W : World} {ops : Array Oper} {rest : List Oper} {o : Oper} {a : Act} {Q : Exit -> Act -> World -> Prop} (hgd : o.guard = none) (s x : Operand) (t : TypeId)
  (ho : o.op = .call { callee := .builtin .append, args := #[s, x], argTypes := #[t, t] }) (base : Nat) (e : TypeId) (ht : Tryz.prog.underlying t = some (.slice e)) {z : Value} {size bytes : Nat} (hinfo : (Tryz.prog.info? e).map (fun i => (i.zero, i.size, i.bytes)) = some (some z, size, bytes)) (hzs : z.cells.size = size) (hsz : 0 < size)
  (v : Value) (n : Nat) (xs : List Value) (hs : a.eval s = v) (hown : W.ownsRow base e size v n xs) (ao : Option Addr) (m c : Nat) (hx : a.eval x = .slice ao m c) (hnone : ao = none -> m = 0 /\ c = 0) (news : List Value) (hl : news.length = m * size) (hnews : ∀ p, ao = some p -> ∀ j u, news[j]? = some u -> W.cell? (p.add j) = some u) (h1 : ∀ u ∈ news, u.oneCell' = true)
  (h63 : n + m <= maxLen) (hbytes : (n + m) * bytes <= 140737488355328) (hbase : base <= W.heap.size) (w0 : World) (hB : Below base w0 W)
  (h : ∀ v' w', w'.ownsRow base e size v' (n + m) (xs ++ news) -> Below base w0 w' -> W.heap.size <= w'.heap.size -> W.grownBy w' v.ownBlock -> (∀ p, w'.heap.size <= p -> v'.ownBlock ≠ some p) -> wpList Tryz.prog ops Q rest (a.put o.dst v') w') : wpList Tryz.prog ops Q (o :: rest) a W := by
 obtain ⟨i0, hi, hz0, hz1, hz2⟩ := info_parts hinfo
 cases ao with
 | none =>
   obtain ⟨rfl, rfl⟩ := hnone rfl
   have hn : news = [] := List.eq_nil_of_length_eq_zero (by simpa using hl)
   subst hn
   refine wpList_append_own_none hgd s x t ho base e i0 size ht hi v n xs hs hown hx (h v W ?_ hB (Nat.le_refl _) ⟨rfl, rfl, rfl, Nat.le_refl _, fun _ _ _ => rfl⟩ fun p hp e => ?_)
   · simpa using hown
   · have := (hown.lt p e).2; omega
 | some p =>
   obtain ⟨v', w', hr, h2, h3, _⟩ := run_append_own (P := Tryz.prog) W base t o.type e i0 z size bytes ht hi hz0 hz1 hz2 hzs hsz v n xs hown p m c news hl (hnews p rfl) h1 h63 hbytes hbase
   exact Lib.wpList_append_run W hgd s x t t ho v (.slice (some p) m c) hs hx v' w' hr (h v' w' h2 (hB.grown h3 hbase (fun k hk => (hown.lt k hk).1)) h3.size h3 fun p hp e => by have := (h2.lt p e).2; omega)
theorem own_empty {base : Nat} {e : TypeId} {size : Nat} (w : World) (hb : base <= w.heap.size) : (w.alloc (.cells #[] e)).ownsRow base e size (.slice (some ⟨w.heap.size, 0, none⟩) 0 0) 0 [] :=
 World.ownsRow_made w #[] 0 hb (by simp [maxLen]) (by simp)
theorem add_at (b f j : Nat) : (⟨b, f, none⟩ : Addr).add j = ⟨b, f + j, none⟩ := by unfold Addr.add; split <;> simp_all
theorem RP.mono {F G : Nat -> Prop} {w : World} {rb : Nat} {hist : List (List OpP)} {known : Int} (h : RP F w rb hist known) (hG : ∀ k, G k -> F k) : RP G w rb hist known := by
 obtain ⟨⟨ao, c, h1, hc, h2⟩, h3, h4, h5⟩ := h
 refine ⟨⟨ao, c, h1, hc, fun i t ht => ?_⟩, fun e => h3 (hG _ e), h4, h5⟩
 obtain ⟨b0, b, cap, e, ⟨p1, p2, p3⟩, p4, ⟨q1, q2, q3⟩, q4⟩ := h2 i t ht
 exact ⟨b0, b, cap, e, ⟨p1, p2, fun e => p3 (hG _ e)⟩, p4, ⟨q1, q2, fun e => q3 (hG _ e)⟩, q4⟩
theorem opsAt_flat {w : World} {b f : Nat} {l : List OpP} (h : opsAt w (some ⟨b, f, none⟩) l) : ∀ j u, (flatW l)[j]? = some u -> w.cell? ⟨b, f + j, none⟩ = some u := by
 intro j u hj
 have hlt : j < l.length * 7 := by rw [<- flatW_length]; exact (List.getElem?_eq_some_iff.1 hj).1
 have hi : j / 7 < l.length := by omega
 obtain ⟨o, ho⟩ : ∃ o, l[j / 7]? = some o := ⟨_, List.getElem?_eq_getElem hi⟩
 obtain ⟨u', hu'⟩ : ∃ u', (opCells o)[j % 7]? = some u' := ⟨_, List.getElem?_eq_getElem (by rw [show (opCells o).length = 7 from rfl]; omega)⟩
 have h1 := flatW_get l (j / 7) (j % 7) o u' ho hu'
 rw [show j / 7 * 7 + j % 7 = j by omega, hj] at h1
 cases h1
 obtain ⟨b', f', e, hc⟩ := h (j / 7) o ho
 cases e
 have := hc (j % 7) _ hu'
 rw [show f + j / 7 * 7 + j % 7 = f + j by omega] at this
 exact this
theorem RP.hdrs {F : Nat -> Prop} {w : World} {rb : Nat} {hist : List (List OpP)} {known : Int} (h : RP F w rb hist known) : ∃ ao c, w.heap[rb]? = some (.cells #[.slice ao hist.length c, .int .i64 known] 57 (0, 0)) /\ (ao = none -> hist.length = 0 /\ c = 0) /\ ∃ hs : List Value, hs.length = hist.length /\ (∀ p, ao = some p -> p = ⟨p.block, 0, none⟩ \/ hist.length = 0) /\ (∀ p, ao = some p -> ∀ i u, hs[i]? = some u -> w.cell? (p.add i) = some u) ∧
  ∀ (i : Nat) u t, hs[i]? = some u -> hist[i]? = some t -> ∃ b cap, u = .slice (some ⟨b, 0, none⟩) t.length cap /\ (b < w.heap.size /\ b ≠ rb /\ ¬ F b) /\ opsAt w (some ⟨b, 0, none⟩) t := by
 obtain ⟨⟨ao, c, h1, hc, h2⟩, _, _, _⟩ := h
 have key : ∀ i, i < hist.length -> ∃ u : Value, (∀ p, ao = some p -> w.cell? (p.add i) = some u) /\ (∀ p, ao = some p -> p = ⟨p.block, 0, none⟩) /\ ∀ t, hist[i]? = some t -> ∃ b cap, u = .slice (some ⟨b, 0, none⟩) t.length cap /\ (b < w.heap.size /\ b ≠ rb /\ ¬ F b) /\ opsAt w (some ⟨b, 0, none⟩) t := fun i hi => by
  obtain ⟨t, ht⟩ : ∃ t, hist[i]? = some t := ⟨_, List.getElem?_eq_getElem hi⟩
  obtain ⟨b0, b, cap, rfl, p1, p2, p3, p4⟩ := h2 i t ht
  have hadd : ∀ k, (⟨b0, 0, none⟩ : Addr).add k = ⟨b0, k, none⟩ := fun k => by unfold Addr.add; split <;> simp_all
  exact ⟨_, fun p e => by cases e; rw [hadd]; exact p2, fun p e => by cases e; rfl, fun t' ht' => by rw [ht] at ht'; cases ht'; exact ⟨b, cap, rfl, p3, p4⟩⟩
 haveI : Inhabited Value := ⟨.nilIface⟩
 obtain ⟨q, hq⟩ := Go.Deep.choose_lt key
 have hget : ∀ (i : Nat) u, ((List.range hist.length).map q)[i]? = some u -> i < hist.length /\ u = q i := fun i u hu => by
  simp only [List.getElem?_map, Option.map_eq_some_iff] at hu
  obtain ⟨i', hi', rfl⟩ := hu
  obtain ⟨hlt, rfl⟩ := List.getElem?_eq_some_iff.1 hi'
  simp only [List.length_range] at hlt
  exact ⟨hlt, by simp⟩
 refine ⟨ao, c, h1, fun e => ⟨by have := hc.2.2 e; have := hc.1; omega, hc.2.2 e⟩, (List.range hist.length).map q, by simp, fun p e => ?_, fun p e i u hu => ?_, fun i u t hu ht => ?_⟩
 · rcases Nat.eq_zero_or_pos hist.length with h0 | h0
   · exact .inr h0
   · exact .inl ((hq 0 h0).2.1 p e)
 · obtain ⟨hlt, rfl⟩ := hget i u hu
   exact (hq i hlt).1 p e
 · obtain ⟨hlt, rfl⟩ := hget i u hu
   exact (hq i hlt).2.2 t ht
section
variable {F : Nat -> Prop} {rb : Nat} {hist : List (List OpP)} {known : Int}
set_option maxRecDepth 100000 in
set_option maxHeartbeats 4000000 in
theorem rpcommit_ok (ao : Option Addr) (c : Nat) (l : List OpP) (w : World) (h : RP F w rb hist known) (hl : opsAt w ao l) (hok : okL l = true) (hg : PowTab w) (hF : ∀ k, F k -> k < w.heap.size) (hn : hist.length < 150) :
  Calls Tryz.prog 21 #[.pointer (some ⟨rb, 0, none⟩), .slice ao l.length c] w fun e w' => e = .returned (.agg #[.int .i64 0, .int .i64 (-1)]) /\ RP F w' rb (hist ++ [l]) known /\ Fr (· = rb) w w' := by
 obtain ⟨⟨hl1, hl8⟩, hall⟩ := okL_iff.1 hok
 obtain ⟨W1, hW1⟩ : ∃ W1, W1 = w.alloc (.cells #[.int .i64 0, .int .i64 0] 61) := ⟨_, rfl⟩
 have hB1 : Below w.heap.size w W1 := by rw [hW1]; exact (Below.refl _ _).alloc (Nat.le_refl _) _
 have hx1 : W1.heap[w.heap.size]? = some (.cells #[.int .i64 0, .int .i64 0] 61 (0, 0)) := by rw [hW1]; exact heap_alloc_new _ _
 have hsz : ∀ o ∈ l, o.key.word.size <= 100000 /\ o.value.size <= 100000 := fun o ho => by
  have h1 := List.all_eq_true.1 hall o ho
  have h2 := (wfkey (op_key h1)).2
  rcases op_value h1 with h3 | h3
  · omega
  · unfold wordB at h3; simp at h3; omega
 have hw := rwrite_any ao c l W1 (hl.below hB1) hsz (hg.below hB1)
 rw [okL_write hok] at hw
 have HW := Lib.hid hw
 have HW1 := Lib.hid hW1
 have HB1 := Lib.hid hB1
 have HX1 := Lib.hid hx1
 have HL := Lib.hid hl
 have HP := Lib.hid h
 have HF := Lib.hid hF
 have HOK := Lib.hid hok
 clear hw hW1 hB1 hx1 hl h hF hok hsz hall hg
 go_enter Tryz.func21, Tryz.ntmps21
 go_wp2_with fail
 rw [<- HW1.out]
 refine HW.out.mono ?_
 rintro e W2 ⟨rfl, b2⟩
 obtain ⟨W3, hW3⟩ : ∃ W3, W3 = W2.alloc (.cells #[.int .i64 0, .int .i64 (-1)] 61) := ⟨_, rfl⟩
 have b23 : Below W2.heap.size W2 W3 := by rw [hW3]; exact (Below.refl _ _).alloc (Nat.le_refl _) _
 have hx3 : W3.heap[W2.heap.size]? = some (.cells #[.int .i64 0, .int .i64 (-1)] 61 (0, 0)) := by rw [hW3]; exact heap_alloc_new _ _
 have b13 : Below W1.heap.size W1 W3 := below_trans b2 b2.size b23
 have b03 : Below w.heap.size w W3 := HB1.out.trans (b13.mono HB1.out.size)
 have hP3 := HP.out.below b03
 have hwl : w.heap.size < W1.heap.size := lt_of_block HX1.out
 have hx13 : W3.heap[w.heap.size]? = some (.cells #[.int .i64 0, .int .i64 0] 61 (0, 0)) := (b13.block _ hwl).trans HX1.out
 have CN := Lib.hid (rpnow_any W3 hP3)
 obtain ⟨ao0, c0, hrbw, hnone, hs, hsl, _, hscw, hsg⟩ := HP.out.hdrs
 have hrb := (b03.block rb HP.out.lt).trans hrbw
 have hsc : ∀ p, ao0 = some p -> ∀ (i : Nat) (u : Value), hs[i]? = some u -> W3.cell? (p.add i) = some u := fun p e i u hu => (b03.cell (World.block_lt_of_cell? w _ (hscw p e i u hu))).trans (hscw p e i u hu)
 have q0 : W3.cell? ⟨W2.heap.size, 0, none⟩ = some (.int .i64 0) := by simp [World.cell?, hx3]
 have hs12 : W1.heap.size <= W2.heap.size := b2.size
 have hs23 : W2.heap.size < W3.heap.size := lt_of_block hx3
 have hrl : rb < w.heap.size := HP.out.lt
 have hlb : (hist.length : Int) < 150 := by omega
 have HW3 := Lib.hid hW3
 have HB03 := Lib.hid b03
 have HX13 := Lib.hid hx13
 have HRB := Lib.hid hrb
 have HNO := Lib.hid hnone
 have HSL := Lib.hid hsl
 have HSC := Lib.hid hsc
 have HSG := Lib.hid hsg
 clear hW3 b23 hx3 b13 b03 hx13 hP3 hrb hrbw hnone hsl hsc hscw hsg b2
 go_wp2_with fail
 rw [<- HW3.out]
 go_wp2_with fail
 refine CN.out.mono ?_
 rintro e W3 ⟨rfl, rfl⟩
 have hz3 : w.heap.size <= W3.heap.size := HB03.out.size
 have hone : ∀ u ∈ hs, u.oneCell' = true := fun u hu => by
  obtain ⟨i, hi, rfl⟩ := List.getElem_of_mem hu
  obtain ⟨t, ht⟩ : ∃ t, hist[i]? = some t := ⟨_, List.getElem?_eq_getElem (by have := HSL.out; omega)⟩
  obtain ⟨b, cap, e, _⟩ := HSG.out i hs[i] t (List.getElem?_eq_getElem hi) ht
  rw [e]; rfl
 have hc4 : ∀ o : Obj, ∀ p, ao0 = some p -> ∀ j u, hs[j]? = some u -> (W3.alloc o).cell? (p.add j) = some u := fun o p e j u hu => by
  have h1 := HSC.out p e j u hu
  exact ((Below.refl W3.heap.size W3).alloc (Nat.le_refl _) o).cell (World.block_lt_of_cell? W3 _ h1) |>.trans h1
 have r0 : ∀ o : Obj, (W3.alloc o).cell? ⟨rb, 0, none⟩ = some (.slice ao0 hist.length c0) := fun o => by
  have := block_alloc HRB.out o
  simp [World.cell?, this]
 have hll : l ≠ [] := by
  rintro rfl
  simp at hl1
 obtain ⟨bl, fl, hal⟩ : ∃ bl fl, ao = some ⟨bl, fl, none⟩ := by
  obtain ⟨o, ho⟩ : ∃ o, l[0]? = some o := ⟨_, List.getElem?_eq_getElem (by omega)⟩
  obtain ⟨b, f, e, _⟩ := HL.out 0 o ho
  exact ⟨b, f, e⟩
 subst hal
 have hr3 : rb < W3.heap.size := by omega
 have HONE := Lib.hid hone
 have HC4 := Lib.hid hc4
 have HLL := Lib.hid hll
 clear hone hc4 hll
 have hz33 : W3.heap.size <= W3.heap.size := Nat.le_refl _
 go_wp2_with (first
  | (at_builtin; refine appMany rfl _ _ 28 rfl W3.heap.size 33 Tryz.underlying28 infoOpsW rfl (by decide) (.slice (some ⟨W3.heap.size, 0, none⟩) 0 0) 0 [] rfl (own_empty W3 hz33) ao0 hist.length c0 rfl HNO.out hs (by rw [HSL.out, Nat.mul_one]) (HC4.out _) HONE.out (by unfold maxLen; omega) (by omega) (by simp) W3 ((Below.refl _ _).alloc hz33 _) ?_; intro v1 w5 h1 b5 s5 g5 n5; have HO1 := Lib.hid h1; have HB5 := Lib.hid b5; have hz5 : W3.heap.size <= w5.heap.size := b5.size; have hs35 : W3.heap.size < w5.heap.size := (by simp at s5; omega); have hl5 := Lib.hid (HL.out.below (HB03.out.trans (b5.mono hz3))); clear h1 b5 s5 g5 n5)
  | (at_builtin; refine appMany rfl _ _ 33 rfl w5.heap.size 70 Tryz.underlying33 infoOpW rfl (by decide) (.slice (some ⟨w5.heap.size, 0, none⟩) 0 0) 0 [] rfl (own_empty w5 (Nat.le_refl _)) (some ⟨bl, fl, none⟩) l.length c rfl (fun e => by cases e) (flatW l) (flatW_length l) (fun p e j u hu => by cases e; rw [add_at]; exact opsAt_flat (hl5.out.below ((Below.refl w5.heap.size w5).alloc (Nat.le_refl _) _)) j u hu) (fun u hu => by obtain ⟨o, _, ho⟩ := List.mem_flatMap.1 hu; exact opCells_one o u ho) (by unfold maxLen; omega) (by omega) (by simp) w5 ((Below.refl _ _).alloc (Nat.le_refl _) _) ?_; intro v2 w7 h2 b7 s7 g7 n7; have HO2 := Lib.hid h2; have HB57 := Lib.hid b7; have HB7 := Lib.hid (below_trans HB5.out hz5 (b7 : Below w5.heap.size w5 w7)); have hz7 : W3.heap.size <= w7.heap.size := (by have := b7.size; omega); have hs57 : w5.heap.size < w7.heap.size := (by simp at s7; omega); obtain ⟨b2, c2, hv2, hb2, ho2⟩ := ownsRow_opsW (l := l) (by simpa using HO2.out) HLL.out; have hbl2 := (HO2.out.lt b2 (by rw [hv2]; rfl)).2; subst hv2; have HO2' := Lib.hid ho2; clear h2 b7 s7 g7 n7 ho2)
  | (at_builtin; refine appMany rfl _ _ 28 rfl W3.heap.size 33 Tryz.underlying28 infoOpsW rfl (by decide) v1 (0 + hist.length) ([] ++ hs) rfl (ownsRow_below HO1.out (HB57.out.alloc (by omega) _)) (some ⟨w7.heap.size, 0, none⟩) 1 1 rfl (fun e => by cases e) [.slice (some ⟨b2, 0, none⟩) l.length c2] rfl (fun p e j u hu => by cases e; rw [add_at]; match j, hu with | 0, hu => simp at hu; subst hu; simp) (fun u hu => by simp at hu; subst hu; rfl) (by unfold maxLen; omega) (by omega) (by simp; omega) W3 (HB7.out.alloc hz7 _) ?_; intro v3 w9 h3 b9 s9 g9 n9; have HO3 := Lib.hid h3; have HB9 := Lib.hid b9; have HG9 := Lib.hid g9; have hz9 : W3.heap.size <= w9.heap.size := b9.size; have hs79 : w7.heap.size < w9.heap.size := (by simp at s9; omega); obtain ⟨a3, c3, hv3, hn3, hc3⟩ := ownsRow_slice h3; subst hv3; have HN3 := Lib.hid hn3; have HC3 := Lib.hid hc3; have hrb9 := (HB9.out.block rb hr3).trans HRB.out; have y0 : w9.cell? ⟨rb, 0, none⟩ = some (.slice ao0 hist.length c0) := (by simp [World.cell?, hrb9]); have z0 : w9.frozen? ⟨rb, 0, none⟩ = false := (by simp [World.frozen?, hrb9]); have hr9 : rb < w9.heap.size := (by omega); have HRB9 := Lib.hid hrb9; clear h3 b9 s9 g9 n9 hn3 hc3 hrb9))
 obtain ⟨W10, hW10⟩ : ∃ W10, W10 = w9.setCell ⟨rb, 0, none⟩ (.slice a3 (hist.length + 1) c3) := ⟨_, rfl⟩
 have hf10 : Fr (· = rb) w9 W10 := by rw [hW10]; exact Fr.setCell (F := (· = rb)) (p := ⟨rb, 0, none⟩) (Fr.refl _ _) (fun _ => rfl) _
 have hrb10 : W10.heap[rb]? = some (.cells #[.slice a3 (hist.length + 1) c3, .int .i64 known] 57 (0, 0)) := by rw [hW10]; have := block_set HRB9.out 0 (.slice a3 (hist.length + 1) c3); simpa using this
 have hwl3 : w.heap.size < W3.heap.size := by omega
 have hx10 : W10.heap[w.heap.size]? = some (.cells #[.int .i64 0, .int .i64 0] 61 (0, 0)) := (hf10.block w.heap.size (by omega) (by omega)).trans ((HB9.out.block _ hwl3).trans HX13.out)
 rw [<- hW10]
 have HF10 := Lib.hid hf10
 have HRB10 := Lib.hid hrb10
 have HX10 := Lib.hid hx10
 clear hW10 hf10 hrb10 hx10 y0 z0 r0 q0
 refine (rbare_any 0 W10).mono ?_
 rintro e W11 ⟨rfl, b11⟩
 have hx11 := (b11.block w.heap.size (lt_of_block HX10.out)).trans HX10.out
 have y0 : W11.cell? ⟨w.heap.size, 0, none⟩ = some (.int .i64 0) := by simp [World.cell?, hx11]
 have y1 : W11.cell? ⟨w.heap.size, 1, none⟩ = some (.int .i64 0) := by simp [World.cell?, hx11]
 have z0 : W11.frozen? ⟨w.heap.size, 0, none⟩ = false := by simp [World.frozen?, hx11]
 have z1 : W11.frozen? ⟨w.heap.size, 1, none⟩ = false := by simp [World.frozen?, hx11]
 have hw11 : w.heap.size < W11.heap.size := lt_of_block hx11
 have HX11 := Lib.hid hx11
 have HB11 := Lib.hid b11
 clear hx11 b11
 go_wp2_with fail
 obtain ⟨W12, hW12⟩ : ∃ W12, W12 = (W11.setCell ⟨w.heap.size, 0, none⟩ (.int .i64 0)).setCell ⟨w.heap.size, 1, none⟩ (.int .i64 (-1)) := ⟨_, rfl⟩
 rw [<- hW12]
 have hx12 : W12.heap[w.heap.size]? = some (.cells #[.int .i64 0, .int .i64 (-1)] 61 (0, 0)) := by
  rw [hW12]; have := block_set (block_set HX11.out 0 (.int .i64 0)) 1 (.int .i64 (-1)); simpa using this
 have hf12 : Fr (· = w.heap.size) W11 W12 := by
  rw [hW12]; exact Fr.setCell (F := (· = w.heap.size)) (p := ⟨w.heap.size, 1, none⟩) (Fr.setCell (F := (· = w.heap.size)) (p := ⟨w.heap.size, 0, none⟩) (Fr.refl _ _) (fun _ => rfl) _) (fun _ => rfl) _
 have k0 : W12.cell? ⟨w.heap.size, 0, none⟩ = some (.int .i64 0) := by simp [World.cell?, hx12]
 have k1 : W12.cell? ⟨w.heap.size, 1, none⟩ = some (.int .i64 (-1)) := by simp [World.cell?, hx12]
 have hcell : ∃ b3, a3 = some ⟨b3, 0, none⟩ /\ (W3.heap.size <= b3 /\ b3 < w9.heap.size) := by
  obtain ⟨b3, e, _⟩ := HC3.out hist.length (.slice (some ⟨b2, 0, none⟩) l.length c2) (by rw [List.nil_append, List.getElem?_append_right (by rw [HSL.out]; exact Nat.le_refl _), HSL.out, Nat.sub_self]; rfl)
  exact ⟨b3, e, HO3.out.lt b3 (by rw [e]; rfl)⟩
 obtain ⟨b3, rfl, hb3⟩ := hcell
 have hcc : hist.length + 1 <= c3 /\ c3 <= maxLen := by
  rcases HO3.out.2 with ⟨e, _⟩ | ⟨g, cap, cur, e, _, _, h1, h2, _⟩
  · cases e
  · injection e with e1 e2 e3
    subst e3
    exact ⟨by omega, h2⟩
 have hv1 : v1.ownBlock ≠ some b2 := fun e => by have := (HO1.out.lt b2 e).2; have := (HO2.out.lt b2 rfl).1; omega
 have hb2 := HO2.out.lt b2 rfl
 have hRP : RP (fun k => F k \/ k = w.heap.size) W10 rb (hist ++ [l]) known := by
  refine ⟨⟨some ⟨b3, 0, none⟩, c3, by rw [List.length_append]; exact HRB10.out, ⟨by rw [List.length_append]; exact hcc.1, hcc.2, fun e => by cases e⟩, fun i t ht => ?_⟩, ?_, ?_, ?_⟩
  · have hget : ∀ u, ([] ++ hs ++ [Value.slice (some ⟨b2, 0, none⟩) l.length c2])[i]? = some u -> W10.cell? ⟨b3, i, none⟩ = some u := fun u hu => by
     obtain ⟨b', e, hc⟩ := HC3.out i u hu
     cases e
     exact (World.cell?_of_block (a := ⟨b3, i, none⟩) (HF10.out.block b3 hb3.2 (by omega))).trans hc
    have hb3F : ¬ (F b3 \/ b3 = w.heap.size) := fun e => by
     rcases e with e | e
     · have := HF.out b3 e; omega
     · omega
    have hsz10 := HF10.out.size
    rcases Nat.lt_or_ge i hist.length with hi | hi
    · rw [List.getElem?_append_left hi] at ht
      obtain ⟨u, hu⟩ : ∃ u, hs[i]? = some u := ⟨_, List.getElem?_eq_getElem (by rw [HSL.out]; exact hi)⟩
      obtain ⟨b, cap, rfl, ⟨q1, q2, q3⟩, q4⟩ := HSG.out i u t hu ht
      refine ⟨b3, b, cap, rfl, ⟨by omega, by omega, hb3F⟩, hget _ (by rw [List.nil_append, List.getElem?_append_left (by rw [HSL.out]; exact hi)]; exact hu), ⟨by omega, q2, fun e => e.elim q3 (by omega)⟩, ?_⟩
      exact opsAt_same q4 ((HF10.out.block b (by omega) q2).trans ((HB9.out.block b (by omega)).trans (HB03.out.block b q1)))
    · rw [List.getElem?_append_right hi] at ht
      have h0 : i - hist.length = 0 := by have := (List.getElem?_eq_some_iff.1 ht).1; simp at this; omega
      rw [h0] at ht
      simp at ht
      subst ht
      have hi2 : i = hist.length := by omega
      subst hi2
      refine ⟨b3, b2, c2, rfl, ⟨by omega, by omega, hb3F⟩, hget _ (by rw [List.nil_append, List.getElem?_append_right (by rw [HSL.out]; exact Nat.le_refl _), HSL.out, Nat.sub_self]; rfl), ⟨by omega, by omega, fun e => by
       rcases e with e | e
       · have := HF.out b2 e; omega
       · omega⟩, ?_⟩
      have o8 : opsAt (w7.alloc (.cells #[.slice (some ⟨b2, 0, none⟩) l.length c2] 33)) (some ⟨b2, 0, none⟩) l := HO2'.out.below ((Below.refl _ _).alloc (Nat.le_refl _) _)
      have o9 : opsAt w9 (some ⟨b2, 0, none⟩) l := opsAt_grown o8 HG9.out hv1
      exact opsAt_same o9 (HF10.out.block b2 (by omega) (by omega))
  · rintro (e | e)
    · exact HP.out.nf e
    · omega
  · intro t ht
    rcases List.mem_append.1 ht with h | h
    · exact HP.out.ok t h
    · rw [List.mem_singleton.1 h]; exact HOK.out
  · rw [List.length_append]; simp; omega
 have hF12 : Fr (fun k => F k \/ k = w.heap.size) W10 W12 := (Fr.new HB11.out).trans (hf12.mono fun k _ e => .inr e)
 have hR12 := (hRP.turn (F' := fun k => F k \/ k = w.heap.size) hF12 fun k hk => .inl hk).mono (G := F) fun k hk => .inl hk
 have f1 : Fr (· = rb) w w9 := Fr.new (HB03.out.trans (HB9.out.mono hz3))
 have f3 := (f1.next HF10.out fun _ _ h => h).next (Fr.new HB11.out : Fr (fun _ => False) W10 W11) (fun _ _ h => h.elim)
 have f4 := f3.next hf12 (fun k hk e => by omega)
 exact bodyPost_ret (v := .agg #[.int .i64 0, .int .i64 (-1)]) (by simp [results, Tryz.results21, go_sem, k0, k1]) rfl ⟨rfl, hR12, f4⟩
end
end Go.Proofs.YtflhpmgjehjjkaaGreatDoor
namespace Go.Proofs.YtflhpmgjehjjkaaGreatDoor
open Go.RowKit Go.Deep Go.Shelf Go.Sort Go.Maps
section
variable {F : Nat -> Prop} {rb : Nat} {hist : List (List OpP)} {known : Int}
end
end Go.Proofs.YtflhpmgjehjjkaaGreatDoor
namespace Go.Proofs.YtflhpmgjehjjkaaGreatDoor
open Go.RowKit Go.Deep Go.Shelf Go.Sort Go.Maps
end Go.Proofs.YtflhpmgjehjjkaaGreatDoor
