/- A map as a list of things, each with its key and its datum, whatever their order. Over any program. -/
import Derived.Maps.OwnSet
namespace Go.Proofs.YtflhpmgjehjjkaaGreatDoor
open Go.Maps
section
variable {α : Type} {kl : α -> Lit} {dt : α -> DataW Unit}
structure MapOf (kl : α -> Lit) (dt : α -> DataW Unit) (D : DataW Unit) (L : List α) : Prop where
 tidy : Tidy D
 size : Maps.size D = L.length
 has : ∀ q, WideAt.IsKeyLit q -> (Maps.has D q = true ↔ ∃ x ∈ L, kl x = q)
 at' : ∀ x ∈ L, ∀ d, D.atKey (kl x) d = dt x
theorem mapOf_nil : MapOf kl dt (.map []) [] := ⟨tidy_empty, rfl, fun q _ => ⟨(fun h => by cases h), (fun ⟨x, hx, _⟩ => by cases hx)⟩, fun x hx => by cases hx⟩
theorem MapOf.perm {D : DataW Unit} {L L' : List α} (h : MapOf kl dt D L) (hp : L.Perm L') : MapOf kl dt D L' :=
 ⟨h.tidy, by rw [h.size, hp.length_eq], fun q hq => by rw [h.has q hq]; exact ⟨fun ⟨x, hx, e⟩ => ⟨x, hp.mem_iff.1 hx, e⟩, fun ⟨x, hx, e⟩ => ⟨x, hp.mem_iff.2 hx, e⟩⟩, fun x hx => h.at' x (hp.mem_iff.2 hx)⟩
theorem MapOf.none {D : DataW Unit} {L : List α} (h : MapOf kl dt D L) {q : Lit} (hq : WideAt.IsKeyLit q) (hn : ∀ y ∈ L, kl y ≠ q) : Maps.has D q = false := by
 cases e : Maps.has D q with
 | false => rfl
 | true => obtain ⟨x, hx, e'⟩ := (h.has q hq).1 e; exact absurd e' (hn x hx)
theorem MapOf.put {D : DataW Unit} {L : List α} (h : MapOf kl dt D L) (x : α) (hk : WideAt.IsKeyLit (kl x)) (hn : ∀ y ∈ L, kl y ≠ kl x) : MapOf kl dt (D.put (kl x) (dt x)) (x :: L) := by
 refine ⟨h.tidy.put hk _, ?_, fun q hq => ?_, fun y hy d => ?_⟩
 · rw [size_put h.tidy, h.none hk hn, h.size]; simp
 · by_cases e : q = kl x
   · subst e
     rw [has_put_same h.tidy.isMap hk]
     exact ⟨fun _ => ⟨x, by simp, rfl⟩, fun _ => rfl⟩
   · rw [has_put_other e, h.has q hq]
     constructor
     · rintro ⟨y, hy, e'⟩; exact ⟨y, List.mem_cons_of_mem _ hy, e'⟩
     · rintro ⟨y, hy, e'⟩
       rcases List.mem_cons.1 hy with rfl | hy
       · exact absurd e'.symm e
       · exact ⟨y, hy, e'⟩
 · rcases List.mem_cons.1 hy with rfl | hy
   · exact atKey_put_same h.tidy.isMap hk _ _
   · rw [atKey_put_other (hn y hy)]; exact h.at' y hy d
theorem MapOf.over {D : DataW Unit} {L : List α} {x : α} (h : MapOf kl dt D (x :: L)) (x' : α) (e : kl x' = kl x) (hk : WideAt.IsKeyLit (kl x)) (hn : ∀ y ∈ L, kl y ≠ kl x) : MapOf kl dt (D.put (kl x') (dt x')) (x' :: L) := by
 have hx : Maps.has D (kl x) = true := (h.has _ hk).2 ⟨x, by simp, rfl⟩
 rw [e]
 refine ⟨h.tidy.put hk _, ?_, fun q hq => ?_, fun y hy d => ?_⟩
 · rw [size_put h.tidy, hx, h.size]; simp
 · by_cases e2 : q = kl x
   · subst e2
     rw [has_put_same h.tidy.isMap hk]
     exact ⟨fun _ => ⟨x', by simp, e⟩, fun _ => rfl⟩
   · rw [has_put_other e2, h.has q hq]
     constructor
     · rintro ⟨y, hy, e'⟩
       rcases List.mem_cons.1 hy with rfl | hy
       · exact absurd e'.symm e2
       · exact ⟨y, List.mem_cons_of_mem _ hy, e'⟩
     · rintro ⟨y, hy, e'⟩
       rcases List.mem_cons.1 hy with rfl | hy
       · exact absurd (e.symm.trans e').symm e2
       · exact ⟨y, List.mem_cons_of_mem _ hy, e'⟩
 · rcases List.mem_cons.1 hy with rfl | hy
   · rw [e]; exact atKey_put_same h.tidy.isMap hk _ _
   · rw [atKey_put_other (hn y hy)]; exact h.at' y (List.mem_cons_of_mem _ hy) d
theorem MapOf.del {D : DataW Unit} {L : List α} {x : α} (h : MapOf kl dt D (x :: L)) (hk : WideAt.IsKeyLit (kl x)) (hn : ∀ y ∈ L, kl y ≠ kl x) : MapOf kl dt (D.del (kl x)) L := by
 have hx : Maps.has D (kl x) = true := (h.has _ hk).2 ⟨x, by simp, rfl⟩
 refine ⟨h.tidy.del _, ?_, fun q hq => ?_, fun y hy d => ?_⟩
 · have := size_del (k := kl x) h.tidy
   rw [hx, h.size] at this
   simp at this; omega
 · by_cases e : q = kl x
   · subst e
     rw [has_del_same]
     exact ⟨(fun h => by cases h), (fun ⟨y, hy, e⟩ => absurd e (hn y hy))⟩
   · rw [has_del_other e, h.has q hq]
     constructor
     · rintro ⟨y, hy, e'⟩
       rcases List.mem_cons.1 hy with rfl | hy
       · exact absurd e'.symm e
       · exact ⟨y, hy, e'⟩
     · rintro ⟨y, hy, e'⟩; exact ⟨y, List.mem_cons_of_mem _ hy, e'⟩
 · rw [atKey_del_other (hn y hy)]; exact h.at' y (List.mem_cons_of_mem _ hy) d
theorem MapOf.got {D : DataW Unit} {L : List α} (h : MapOf kl dt D L) {q : Lit} (hq : WideAt.IsKeyLit q) (hs : Maps.has D q = true) : ∃ x ∈ L, kl x = q := (h.has q hq).1 hs
end
end Go.Proofs.YtflhpmgjehjjkaaGreatDoor
