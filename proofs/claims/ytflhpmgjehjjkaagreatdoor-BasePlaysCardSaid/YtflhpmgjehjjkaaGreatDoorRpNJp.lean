/- Plain law, no program in it: what the document's Pieces reckons from end to end is the pieces of what was said. -/
import Derived.Test.YtflhpmgjehjjkaaGreatDoorPastRJp
namespace Go.Proofs.YtflhpmgjehjjkaaGreatDoor
open Go
def isEnd (l : List OpP) (k : KeyP) (e : Int) : Prop := ∃ o ∈ l, o.key = k /\ (e = o.fr \/ e = o.to)
theorem saidL_same : ∀ (l : List OpP) (k : KeyP) (s t : Int) (x : ByteArray), s <= t -> (∀ e, isEnd l k e -> ¬ (s < e /\ e <= t)) -> saidL l k s x = saidL l k t x
 | [], _, _, _, _, _, _ => rfl
 | o :: l, k, s, t, x, hst, h => by
   unfold saidL
   rw [List.foldl_cons, List.foldl_cons]
   have ih := fun y => saidL_same l k s t y hst fun e ⟨p, hp, r⟩ => h e ⟨p, List.mem_cons_of_mem _ hp, r⟩
   unfold saidL at ih
   by_cases hk : k = o.key
   · have h1 := h o.fr ⟨o, by simp, hk.symm, .inl rfl⟩
     have h2 := h o.to ⟨o, by simp, hk.symm, .inr rfl⟩
     by_cases hs : o.fr <= s /\ s < o.to
     · rw [if_pos ⟨hk, hs⟩, if_pos ⟨hk, by omega, by omega⟩]; exact ih _
     · rw [if_neg (fun e => hs e.2), if_neg (fun e => hs ⟨by have := e.2; omega, by have := e.2; omega⟩)]; exact ih _
   · rw [if_neg (fun e => hk e.1), if_neg (fun e => hk e.1)]; exact ih _
theorem saidL_none : ∀ (l : List OpP) (k : KeyP) (t : Int) (x : ByteArray), (∀ o ∈ l, o.key = k -> ¬ (o.fr <= t /\ t < o.to)) -> saidL l k t x = x
 | [], _, _, _, _ => rfl
 | o :: l, k, t, x, h => by
   unfold saidL
   rw [List.foldl_cons, if_neg (fun e => h o (by simp) e.1.symm e.2)]
   exact saidL_none l k t x fun p hp => h p (List.mem_cons_of_mem _ hp)
theorem saidL_low {l : List OpP} {k : KeyP} {t : Int} (h : ∀ e, isEnd l k e -> t < e) : saidL l k t ⟨#[]⟩ = ⟨#[]⟩ :=
 saidL_none l k t _ fun o ho hk hh => by have := h o.fr ⟨o, ho, hk, .inl rfl⟩; omega
theorem saidL_high {l : List OpP} {k : KeyP} {t : Int} (h : ∀ e, isEnd l k e -> e <= t) : saidL l k t ⟨#[]⟩ = ⟨#[]⟩ :=
 saidL_none l k t _ fun o ho hk hh => by have := h o.to ⟨o, ho, hk, .inr rfl⟩; omega
theorem isEnd_take {hist : List (List OpP)} {k : KeyP} {n : Nat} {e : Int} (h : isEnd (hist.take n).flatten k e) : isEnd hist.flatten k e := by
 obtain ⟨o, ho, r⟩ := h
 obtain ⟨l, hl, ho⟩ := List.mem_flatten.1 ho
 exact ⟨o, List.mem_flatten.2 ⟨l, List.mem_of_mem_take hl, ho⟩, r⟩
def closeP (D : List Pc) (fr : Int) (last : ByteArray) (T : Int) : List Pc := if last.size = 0 then D else D ++ [⟨fr, T, last⟩]
def openP (D : List Pc) (fr : Int) (last : ByteArray) : List Pc := closeP D fr last 0
structure ScanI (f : Int -> ByteArray) (c : Int) (D : List Pc) (fr : Int) (last : ByteArray) : Prop where
 canon : ∀ T, c < T -> Canon (closeP D fr last T)
 cov : ∀ T, c < T -> ∀ t x, Cov (closeP D fr last T) t x ↔ x.size ≠ 0 /\ t < T /\ (if t <= c then f t else last) = x
 at' : f c = last
theorem scan_start {f : Int -> ByteArray} {c : Int} (h : ∀ t, t <= c -> f t = ⟨#[]⟩) : ScanI f c [] 0 ⟨#[]⟩ := by
 refine ⟨fun T _ => ?_, fun T hT t x => ?_, h c (Int.le_refl _)⟩
 · unfold closeP; rw [if_pos (show (⟨#[]⟩ : ByteArray).size = 0 from rfl)]; exact canon_nil
 · unfold closeP; rw [if_pos (show (⟨#[]⟩ : ByteArray).size = 0 from rfl)]
   constructor
   · rintro ⟨p, hp, _⟩; cases hp
   · rintro ⟨h0, _, h1⟩
     have : x = ⟨#[]⟩ := by
      rw [<- h1]
      split
      · exact h t (by assumption)
      · rfl
     rw [this] at h0; exact absurd rfl h0
theorem scan_same {f : Int -> ByteArray} {c e : Int} {D : List Pc} {fr : Int} {last : ByteArray} (h : ScanI f c D fr last) (hce : c <= e) (hf : ∀ t, c <= t -> t < e -> f t = f c) (he : f e = last) : ScanI f e D fr last := by
 refine ⟨fun T hT => h.canon T (by omega), fun T hT t x => ?_, he⟩
 rw [h.cov T (by omega)]
 have : (if t <= c then f t else last) = (if t <= e then f t else last) := by
  by_cases h1 : t <= c
  · rw [if_pos h1, if_pos (by omega)]
  · rw [if_neg h1]
    by_cases h2 : t <= e
    · rw [if_pos h2]
      by_cases h3 : t = e
      · rw [h3, he]
      · rw [hf t (by omega) (by omega), h.at']
    · rw [if_neg h2]
 rw [this]
theorem scan_turn {f : Int -> ByteArray} {c e : Int} {D : List Pc} {fr : Int} {last : ByteArray} (h : ScanI f c D fr last) (hce : c <= e) (hf : ∀ t, c <= t -> t < e -> f t = f c) (he : f e ≠ last) : ScanI f e (closeP D fr last e) e (f e) := by
 have hlt : c < e := by
  rcases Int.lt_or_le c e with h1 | h1
  · exact h1
  · exact absurd (by rw [show e = c by omega]; exact h.at') he
 have hc := h.canon e hlt
 have hv := h.cov e hlt
 generalize closeP D fr last e = C at hc hv ⊢
 -- all that is closed lies below e
 have hto : ∀ p ∈ C, p.to <= e /\ (p.to = e -> p.val ≠ f e) := fun p hp => by
  have hg := hc.good p hp
  obtain ⟨h0, h1, h2⟩ := (hv (p.to - 1) p.val).1 ⟨p, hp, ⟨by have := hg.1; omega, by omega⟩, rfl⟩
  refine ⟨by omega, fun e1 e2 => he ?_⟩
  rw [<- e2, <- h2]
  split
  · rename_i hle
    rw [show p.to - 1 = c by omega]; exact h.at'
  · rfl
 have hcov : ∀ t x, Cov C t x ↔ x.size ≠ 0 /\ t < e /\ f t = x := fun t x => by
  rw [hv]
  have : t < e -> (if t <= c then f t else last) = f t := fun h1 => by
   by_cases h2 : t <= c
   · rw [if_pos h2]
   · rw [if_neg h2, hf t (by omega) h1, h.at']
  constructor
  · rintro ⟨h0, h1, h2⟩; exact ⟨h0, h1, by rw [<- this h1]; exact h2⟩
  · rintro ⟨h0, h1, h2⟩; exact ⟨h0, h1, by rw [this h1]; exact h2⟩
 refine ⟨fun T hT => ?_, fun T hT t x => ?_, rfl⟩
 · unfold closeP
   split
   · exact hc
   · rename_i hne
     refine ⟨fun p hp => ?_, List.pairwise_append.2 ⟨hc.row, List.pairwise_singleton _ _, fun p hp q hq => ?_⟩⟩
     · rcases List.mem_append.1 hp with h1 | h1
       · exact hc.good p h1
       · rw [List.mem_singleton.1 h1]; exact ⟨hT, hne⟩
     · rw [List.mem_singleton.1 hq]; exact hto p hp
 · unfold closeP
   split
   · rename_i hz
     rw [hcov]
     have hfe : f e = ⟨#[]⟩ := size0 hz
     constructor
     · rintro ⟨h0, h1, h2⟩; exact ⟨h0, by omega, by rw [if_pos (by omega)]; exact h2⟩
     · rintro ⟨h0, h1, h2⟩
       by_cases h3 : t < e
       · rw [if_pos (by omega)] at h2; exact ⟨h0, h3, h2⟩
       · exfalso
         apply h0
         rw [<- h2]
         by_cases h4 : t <= e
         · rw [if_pos h4, show t = e by omega]; exact hz
         · rw [if_neg h4]; exact hz
   · rename_i hz
     rw [Cov.append, hcov]
     constructor
     · rintro (⟨h0, h1, h2⟩ | ⟨p, hp, h1, h2⟩)
       · exact ⟨h0, by omega, by rw [if_pos (by omega)]; exact h2⟩
       · rw [List.mem_singleton.1 hp] at h1 h2
         simp only [Pc.has] at h1 h2
         refine ⟨by rw [<- h2]; exact hz, h1.2, ?_⟩
         by_cases h4 : t <= e
         · rw [if_pos h4, show t = e by omega]; exact h2
         · rw [if_neg h4]; exact h2
     · rintro ⟨h0, h1, h2⟩
       by_cases h3 : t < e
       · rw [if_pos (by omega)] at h2; exact .inl ⟨h0, h3, h2⟩
       · refine .inr ⟨_, List.mem_singleton.2 rfl, ⟨by simp only; omega, h1⟩, ?_⟩
         by_cases h4 : t <= e
         · rw [if_pos h4, show t = e by omega] at h2; exact h2
         · rw [if_neg h4] at h2; exact h2
theorem scan_end {f : Int -> ByteArray} {c : Int} {D : List Pc} {fr : Int} {last : ByteArray} (h : ScanI f c D fr last) (hh : ∀ t, c <= t -> f t = ⟨#[]⟩) : last = ⟨#[]⟩ /\ Canon D /\ ∀ t x, Cov D t x ↔ x.size ≠ 0 /\ f t = x := by
 have hl : last = ⟨#[]⟩ := by rw [<- h.at']; exact hh c (Int.le_refl _)
 subst hl
 have hcl : ∀ T, closeP D fr ⟨#[]⟩ T = D := fun T => by unfold closeP; exact if_pos rfl
 refine ⟨rfl, by have := h.canon (c + 1) (by omega); rwa [hcl] at this, fun t x => ?_⟩
 obtain ⟨T, hT⟩ : ∃ T : Int, c < T /\ t < T := ⟨if c <= t then t + 1 else c + 1, by split <;> omega⟩
 have := h.cov T hT.1 t x
 rw [hcl] at this
 rw [this]
 have e : (if t <= c then f t else (⟨#[]⟩ : ByteArray)) = f t := by
  by_cases h1 : t <= c
  · rw [if_pos h1]
  · rw [if_neg h1, hh t (by omega)]
 rw [e]
 exact ⟨fun h => ⟨h.1, h.2.2⟩, fun h => ⟨h.1, hT.2, h.2⟩⟩
def atC (E : List Int) (j : Nat) (c : Int) : Prop := (∀ x ∈ E.take j, x <= c) /\ ∀ x ∈ E.drop j, c <= x
theorem low_of : ∀ (E : List Int), ∃ c : Int, ∀ x ∈ E, c < x
 | [] => ⟨0, fun x h => by cases h⟩
 | e :: E => by
   obtain ⟨c, hc⟩ := low_of E
   by_cases h : c < e
   · exact ⟨c, fun x hx => by
      rcases List.mem_cons.1 hx with rfl | hx
      · exact h
      · exact hc x hx⟩
   · exact ⟨e - 1, fun x hx => by
      rcases List.mem_cons.1 hx with rfl | hx
      · omega
      · have := hc x hx; omega⟩
theorem atC_next {E : List Int} (hs : E.Pairwise (· <= ·)) {j : Nat} {e : Int} (hj : E[j]? = some e) : atC E (j + 1) e := by
 obtain ⟨h1, h2⟩ := List.getElem?_eq_some_iff.1 hj
 constructor
 · intro x hx
   obtain ⟨i, hi, rfl⟩ := List.getElem_of_mem hx
   rw [List.getElem_take]
   rw [List.length_take] at hi
   rcases Nat.lt_or_ge i j with h | h
   · have := List.pairwise_iff_getElem.1 hs i j (by omega) h1 h
     rw [h2] at this; exact this
   · have : i = j := by omega
     subst this; rw [h2]; exact Int.le_refl _
 · intro x hx
   obtain ⟨i, hi, rfl⟩ := List.getElem_of_mem hx
   rw [List.getElem_drop]
   rw [List.length_drop] at hi
   have := List.pairwise_iff_getElem.1 hs j (j + 1 + i) h1 (by omega) (by omega)
   rw [h2] at this; exact this
theorem drop_ge {E : List Int} (hs : E.Pairwise (· <= ·)) {j : Nat} {e : Int} (hj : E[j]? = some e) : ∀ x ∈ E.drop j, e <= x := by
 obtain ⟨h1, h2⟩ := List.getElem?_eq_some_iff.1 hj
 intro x hx
 obtain ⟨i, hi, rfl⟩ := List.getElem_of_mem hx
 rw [List.getElem_drop]
 rw [List.length_drop] at hi
 rcases Nat.eq_zero_or_pos i with h | h
 · subst h
   have : E[j + 0]'(by omega) = e := by simpa using h2
   rw [this]; exact Int.le_refl _
 · have := List.pairwise_iff_getElem.1 hs j (j + i) h1 (by omega) (by omega)
   rw [h2] at this; exact this
structure PScan (hist : List (List OpP)) (k : KeyP) (n : Nat) (E : List Int) (j : Nat) (D : List Pc) (fr : Int) (last : ByteArray) : Prop where
 scan : ∃ c, ScanI (fun t => saidH hist k n t) c D fr last /\ atC E j c
 len : D.length <= j
section
variable {hist : List (List OpP)} {k : KeyP} {n : Nat} {E : List Int} {j : Nat} {D : List Pc} {fr : Int} {last : ByteArray}
theorem PScan.start (hE : ∀ e, isEnd hist.flatten k e -> e ∈ E) : PScan hist k n E 0 [] 0 ⟨#[]⟩ := by
 obtain ⟨c, hc⟩ := low_of E
 refine ⟨⟨c, scan_start fun t ht => ?_, ⟨fun x hx => by simp at hx, fun x hx => ?_⟩⟩, Nat.zero_le _⟩
 · exact saidL_low fun e he => by have := hc e (hE e (isEnd_take he)); omega
 · have := hc x (by simpa using hx); omega
theorem PScan.const (hE : ∀ e, isEnd hist.flatten k e -> e ∈ E) (hs : E.Pairwise (· <= ·)) {c e : Int} (ha : atC E j c) (hj : E[j]? = some e) : c <= e /\ ∀ t, c <= t -> t < e -> saidH hist k n t = saidH hist k n c := by
 have hd := drop_ge hs hj
 refine ⟨ha.2 e (List.mem_of_getElem? (i := 0) (by rw [List.getElem?_drop]; simpa using hj)), fun t h1 h2 => ?_⟩
 refine (saidL_same _ k c t _ h1 fun x hx hh => ?_).symm
 have hm := hE x (isEnd_take hx)
 rw [<- List.take_append_drop j E] at hm
 rcases List.mem_append.1 hm with h | h
 · have := ha.1 x h; omega
 · have := hd x h; omega
theorem PScan.same (h : PScan hist k n E j D fr last) (hE : ∀ e, isEnd hist.flatten k e -> e ∈ E) (hs : E.Pairwise (· <= ·)) {e : Int} (hj : E[j]? = some e) (he : saidH hist k n e = last) : PScan hist k n E (j + 1) D fr last := by
 obtain ⟨⟨c, h1, h2⟩, h3⟩ := h
 obtain ⟨c1, c2⟩ := PScan.const hE hs h2 hj
 exact ⟨⟨e, scan_same h1 c1 c2 he, atC_next hs hj⟩, by omega⟩
theorem PScan.turn (h : PScan hist k n E j D fr last) (hE : ∀ e, isEnd hist.flatten k e -> e ∈ E) (hs : E.Pairwise (· <= ·)) {e : Int} (hj : E[j]? = some e) (he : saidH hist k n e ≠ last) : PScan hist k n E (j + 1) (closeP D fr last e) e (saidH hist k n e) := by
 obtain ⟨⟨c, h1, h2⟩, h3⟩ := h
 obtain ⟨c1, c2⟩ := PScan.const hE hs h2 hj
 refine ⟨⟨e, scan_turn h1 c1 c2 he, atC_next hs hj⟩, ?_⟩
 unfold closeP
 split
 · omega
 · rw [List.length_append, List.length_singleton]; omega
theorem PScan.done (h : PScan hist k n E E.length D fr last) (hE : ∀ e, isEnd hist.flatten k e -> e ∈ E) : last = ⟨#[]⟩ /\ PiecesOf hist k n D := by
 obtain ⟨⟨c, h1, h2⟩, _⟩ := h
 obtain ⟨e1, e2, e3⟩ := scan_end h1 fun t ht => saidL_high fun x hx => by
  have := h2.1 x (by rw [List.take_of_length_le (Nat.le_refl _)]; exact hE x (isEnd_take hx)); omega
 exact ⟨e1, e2, e3⟩
end
end Go.Proofs.YtflhpmgjehjjkaaGreatDoor
