/-The document's graph:Edges. -/
import Derived.Deep.DeepCutAuto
import Derived.Test.YtpgkjnebklknjaaGreatDoorWkIJr
import Derived.Test.YtpgkjnebklknjaaGreatDoorFcKJr
import Derived.Test.YtpgkjnebklknjaaGreatDoorTreeHJr
namespace Go.Proofs.YtpgkjnebklknjaaGreatDoor
structure FI (E:List KeyP) (word:ByteArray) (y:Int) (c:List (Int×Int)×List Int):Prop where
 nod:(c.1.map (·.1)).Nodup
 sub: ∀p∈c.1,p.1=y\/p.1∈E.map (·.a)
 rng: ∀p∈c.1,0<=p.2/\p.2<c.1.length
 root:c.1.lookup y=some 0
 ok: ∀z d,c.1.lookup z=some d->(d=0->z=y)/\(0<d-> ∃k∈E,k.a=z/\wordIs word k=true/\c.1.lookup k.b=some (d-1))
 mor: ∀z∈c.2,(c.1.lookup z).isSome=true
theorem FI.start (E:List KeyP) (word:ByteArray) (y:Int):FI E word y ([(y,0)],[y]):=by
 refine⟨by simp,fun p hp=> .inl (by simp at hp;rw[hp]),fun p hp=>by simp at hp;subst hp;simp,by simp,fun z d h=> ?_,fun z hz=> ?_⟩
 · rw [List.lookup_cons] at h
   split at h
   · rename_i e;cases h;exact⟨fun _=>eq_of_beq e,fun h=>absurd h (by decide)⟩
   · cases h
 · simp at hz;subst hz;simp
theorem FI.fresh {E:List KeyP} {word:ByteArray} {y:Int} {c:List (Int×Int)×List Int} (h:FI E word y c):FI E word y (c.1,[]):=⟨h.nod,h.sub,h.rng,h.root,h.ok,fun z hz=>by cases hz⟩
theorem lookup_keep {L:List (Int×Int)} {z a d v:Int} (h:L.lookup z=some v):(L++ [(a,d)]).lookup z=some v:=by
 rw[lookup_snoc,h]
theorem FI.in' {E:List KeyP} {word:ByteArray} {y x:Int} {c:List (Int×Int)×List Int} (h:FI E word y c) (hx:(c.1.lookup x).isSome=true) {k:KeyP} (hk:k∈E):FI E word y (farIn word x c k)/\((farIn word x c k).1.lookup x).isSome=true:=by
 unfold farIn
 split
 · rename_i hc
   obtain⟨h1,h2,h3⟩:=hc
   obtain⟨dx,hdx⟩:=Option.isSome_iff_exists.1 hx
   have hn:c.1.lookup k.a=none:=by simpa using h2
   rw[hdx,Option.getD_some]
   have hm:=lookup_mem hdx
   obtain⟨g1,g2⟩:=h.rng _ hm
   simp only at g1 g2
   refine⟨⟨?_,fun p hp=> ?_,fun p hp=> ?_,lookup_keep h.root,fun z d hz=> ?_,fun z hz=> ?_⟩,by rw[lookup_keep hdx];rfl⟩
   · rw [List.map_append]
     refine List.nodup_append.2 ⟨h.nod,by simp,fun a ha b hb e=> ?_⟩
     simp at hb;subst hb;subst e
     obtain⟨p,hp,e⟩:=List.mem_map.1 ha
     exact lookup_no hn p hp e
   · rcases List.mem_append.1 hp with hp|hp
     · exact h.sub p hp
     · simp at hp;subst hp;exact .inr (List.mem_map.2 ⟨k,hk,rfl⟩)
   · rw [List.length_append,List.length_singleton]
     rcases List.mem_append.1 hp with hp|hp
     · have:=h.rng p hp;omega
     · simp at hp;subst hp;simp only;omega
   · rw [lookup_snoc] at hz
     cases hl:c.1.lookup z with
     | some v=>
       rw[hl] at hz;cases hz
       obtain⟨o1,o2⟩:=h.ok z d hl
       exact⟨o1,fun hd=>by obtain⟨k',q1,q2,q3,q4⟩:=o2 hd;exact⟨k',q1,q2,q3,lookup_keep q4⟩⟩
     | none=>
       rw[hl] at hz
       simp only at hz
       split at hz
       · rename_i e
         cases hz
         have e' :=eq_of_beq e
         exact⟨fun e0=>by omega,fun _=>⟨k,hk,e'.symm,h3,by rw[h1,show dx+1-1=dx by omega];exact lookup_keep hdx⟩⟩
       · cases hz
   · rcases List.mem_append.1 hz with hz|hz
     · obtain⟨v,hv⟩:=Option.isSome_iff_exists.1 (h.mor z hz)
       rw[lookup_keep hv];rfl
     · simp at hz;subst hz
       rw[lookup_snoc,hn];simp
 · exact⟨h,hx⟩
theorem FI.fold {E:List KeyP} {word:ByteArray} {y x:Int}: ∀ {l:List KeyP} {c:List (Int×Int)×List Int},FI E word y c->(c.1.lookup x).isSome=true->(∀k∈l,k∈E)->FI E word y (l.foldl (farIn word x) c)/\((l.foldl (farIn word x) c).1.lookup x).isSome=true
 | [],_,h,hx,_=>⟨h,hx⟩
 | k ::l,c,h,hx,hl=>by
   obtain⟨h1,h2⟩:=h.in' hx (hl k (by simp))
   exact FI.fold (l:=l) h1 h2 fun z hz=>hl z (List.mem_cons_of_mem _ hz)
theorem farIn_keep {word:ByteArray} {x z v:Int} {c:List (Int×Int)×List Int} {k:KeyP} (h:c.1.lookup z=some v):(farIn word x c k).1.lookup z=some v:=by
 unfold farIn
 split
 · exact lookup_keep h
 · exact h
theorem farFold_keep {word:ByteArray} {x z v:Int}: ∀ {l:List KeyP} {c:List (Int×Int)×List Int},c.1.lookup z=some v->(l.foldl (farIn word x) c).1.lookup z=some v
 | [],_,h=>h
 | _k::l,_,h=>farFold_keep (l:=l) (farIn_keep h)
theorem farTo_keep {E:List KeyP} {word:ByteArray} {z v:Int}: ∀ {l:List Int} {c:List (Int×Int)×List Int},c.1.lookup z=some v->(l.foldl (farTo E word) c).1.lookup z=some v
 | [],_,h=>h
 | _x::l,_,h=>farTo_keep (l:=l) (farFold_keep h)
theorem FI.line {E:List KeyP} {word:ByteArray} {y:Int}: ∀ {l:List Int} {c:List (Int×Int)×List Int},FI E word y c->(∀x∈l,(c.1.lookup x).isSome=true)->FI E word y (l.foldl (farTo E word) c)
 | [],_,h,_=>h
 | x ::l,c,h,hl=>by
   obtain⟨h1,h2⟩:=FI.fold (l:=E) h (hl x (by simp)) fun k hk=>hk
   refine FI.line (l:=l) h1 fun z hz=> ?_
   obtain⟨v,hv⟩:=Option.isSome_iff_exists.1 (hl z (List.mem_cons_of_mem _ hz))
   show(((E.foldl (farIn word x) c)).1.lookup z).isSome=true
   rw[farFold_keep hv];rfl
theorem farS_ok (E:List KeyP) (word:ByteArray) (y:Int): ∀n,FI E word y (farS E word y n)
 | 0=>FI.start E word y
 | n + 1=>by
   rw[farS]
   split
   · exact farS_ok E word y n
   · exact FI.line (farS_ok E word y n).fresh fun x hx=>(farS_ok E word y n).mor x hx
theorem FI.size {E:List KeyP} {word:ByteArray} {y:Int} {c:List (Int×Int)×List Int} (h:FI E word y c):c.1.length<=E.length+1:=by
 have :=nodup_le (m:=y::E.map (·.a)) h.nod fun z hz=>by
  obtain⟨p,hp,rfl⟩:=List.mem_map.1 hz
  rcases h.sub p hp with e|e
  · rw[e];simp
  · exact List.mem_cons_of_mem _ e
 simpa using this
theorem farIn_grow (word:ByteArray) (x:Int) (c:List (Int×Int)×List Int) (k:KeyP):(farIn word x c k).1.length+c.2.length=c.1.length+(farIn word x c k).2.length:=by
 unfold farIn
 split
 · simp;omega
 · rfl
theorem farFold_grow (word:ByteArray) (x:Int): ∀(l:List KeyP) (c:List (Int×Int)×List Int),(l.foldl (farIn word x) c).1.length+c.2.length=c.1.length+(l.foldl (farIn word x) c).2.length
 | [],_=>rfl
 | k ::l,c=>by
   have h1:=farFold_grow word x l (farIn word x c k)
   have h2:=farIn_grow word x c k
   show(l.foldl (farIn word x) (farIn word x c k)).1.length+c.2.length=c.1.length+(l.foldl (farIn word x) (farIn word x c k)).2.length
   omega
theorem farLine_grow (E:List KeyP) (word:ByteArray): ∀(l:List Int) (c:List (Int×Int)×List Int),(l.foldl (farTo E word) c).1.length+c.2.length=c.1.length+(l.foldl (farTo E word) c).2.length
 | [],_=>rfl
 | x ::l,c=>by
   have h1:=farLine_grow E word l (farTo E word c x)
   have h2:=farFold_grow word x E c
   show(l.foldl (farTo E word) (farTo E word c x)).1.length+c.2.length=c.1.length+(l.foldl (farTo E word) (farTo E word c x)).2.length
   unfold farTo at*
   omega
structure BIw (far:List (Int×Int)) (d best:Int) (l:List Int):Prop where
 one:best= -1\/(0<=best/\far.lookup best=some (d-1))
 got:(∃y∈l,far.lookup y=some (d-1))->best≠ -1
theorem BIw.step {far:List (Int×Int)} {d best y:Int} {l:List Int} (h:BIw far d best l) (hy:0<=y):BIw far d (bestIn far d best y) (l++ [y]):=by
 unfold bestIn
 cases hl:far.lookup y with
 | none=>
   refine⟨h.one,fun⟨z,hz,e⟩=> ?_⟩
   rcases List.mem_append.1 hz with hz|hz
   · exact h.got ⟨z,hz,e⟩
   · simp at hz;subst hz;rw[hl] at e;cases e
 | some e=>
   simp only
   split
   · rename_i hc
     exact⟨.inr ⟨hy,by rw[hl,hc.1]⟩,fun _=>by omega⟩
   · rename_i hc
     refine⟨h.one,fun⟨z,hz,e'⟩=> ?_⟩
     rcases List.mem_append.1 hz with hz|hz
     · exact h.got ⟨z,hz,e'⟩
     · simp at hz;subst hz
       rw[hl] at e';cases e'
       rcases h.one with e0|e0
       · exact absurd ⟨rfl,.inl (by omega)⟩ hc
       · omega
theorem BIw.fold {far:List (Int×Int)} {d:Int}: ∀ {l m:List Int} {best:Int},BIw far d best m->(∀y∈l,0<=y)->BIw far d (l.foldl (bestIn far d) best) (m++l)
 | [],m,best,h,_=>by simpa using h
 | y ::l,m,best,h,hl=>by
   have:=BIw.fold (l:=l) (h.step (hl y (by simp))) fun z hz=>hl z (List.mem_cons_of_mem _ hz)
   simpa using this
theorem best_ok {E:List KeyP} {word:ByteArray} {y x d:Int} {c:List (Int×Int)×List Int} (h:FI E word y c) (hE: ∀k∈E,0<=k.b) (hx:c.1.lookup x=some d) (hd:0<d):c.1.lookup (bestP E word c.1 x)=some (d-1)/\0<=bestP E word c.1 x:=by
 obtain⟨k,hk,e1,e2,e3⟩:=(h.ok x d hx).2 hd
 have hn: ∀z∈nextP E x word,0<=z:=fun z hz=>by
  obtain⟨k',hk',rfl⟩:=List.mem_map.1 (next_sub z hz)
  exact hE k' hk'
 have hb:=BIw.fold (far:=c.1) (d:=d) (l:=nextP E x word) (m:= []) (best:= -1) ⟨.inl rfl,fun⟨z,hz,_⟩=>by cases hz⟩ hn
 have hm:k.b∈nextP E x word:=List.mem_filterMap.2 ⟨k,hk,by rw[if_pos ⟨e1,e2⟩]⟩
 unfold bestP
 rw[hx,Option.getD_some]
 have h1:=hb.got ⟨k.b,by simpa using hm,e3⟩
 rcases hb.one with e|e
 · exact absurd e h1
 · exact⟨e.2,e.1⟩
def Pth (E:List KeyP) (word:ByteArray):Nat->Int->Int->Prop
 | 0,x,y=>x=y
 | n+1,x,y=> ∃k∈E,k.a=x/\wordIs word k=true/\Pth E word n k.b y
theorem Pth.snoc {E:List KeyP} {word:ByteArray}: ∀ {n:Nat} {x z:Int},Pth E word n x z-> ∀ {k:KeyP},k∈E->k.a=z->wordIs word k=true->Pth E word (n+1) x k.b
 | 0,_x,_z,h,k,hk,e,hw=>⟨k,hk,e.trans h.symm,hw,rfl⟩
 | _n+1,_x,_z,⟨q,hq,h1,h2,h3⟩,_k,hk,e,hw=>⟨q,hq,h1,h2,Pth.snoc h3 hk e hw⟩
theorem Pth.last {E:List KeyP} {word:ByteArray}: ∀ {n:Nat} {x y:Int},Pth E word (n+1) x y-> ∃k∈E,Pth E word n x k.a/\wordIs word k=true/\k.b=y
 | 0,x,y,⟨k,hk,h1,h2,h3⟩=>⟨k,hk,h1.symm,h2,h3⟩
 | n + 1,x,y,⟨q,hq,h1,h2,h3⟩=>by
   obtain⟨k,hk,g1,g2,g3⟩:=Pth.last h3
   exact⟨k,hk,⟨q,hq,h1,h2,g1⟩,g2,g3⟩
def Mn (E:List KeyP) (word:ByteArray) (n:Nat) (x y:Int):Prop:=Pth E word n x y/\ ∀m,m<n-> ¬Pth E word m x y
theorem Mn.one {E:List KeyP} {word:ByteArray} {n m:Nat} {x y:Int} (h:Mn E word n x y) (g:Mn E word m x y):n=m:=by
 rcases Nat.lt_trichotomy n m with e|e|e
 · exact absurd h.1 (g.2 n e)
 · exact e
 · exact absurd g.1 (h.2 m e)
theorem Pth.mn {E:List KeyP} {word:ByteArray} {x y:Int}: ∀ {n:Nat},Pth E word n x y-> ∃m,m<=n/\Mn E word m x y:=fun {n}=>by
 induction n using Nat.strongRecOn with
 | ind n ih=>
   intro h
   by_cases hm: ∃m,m<n/\Pth E word m x y
   · obtain⟨m,h1,h2⟩:=hm
     obtain⟨k,g1,g2⟩:=ih m h1 h2
     exact⟨k,by omega,g2⟩
   · exact⟨n,Nat.le_refl _,h,fun m h1 h2=>hm ⟨m,h1,h2⟩⟩
theorem mem_next {E:List KeyP} {word:ByteArray} {x y:Int}:y∈nextP E x word↔ ∃k∈E,k.a=x/\wordIs word k=true/\k.b=y:=by
 unfold nextP
 rw[List.mem_filterMap]
 constructor
 · rintro⟨k,hk,e⟩
   split at e
   · rename_i h;cases e;exact⟨k,hk,h.1,h.2,rfl⟩
   · cases e
 · rintro⟨k,hk,h1,h2,rfl⟩
   exact⟨k,hk,if_pos ⟨h1,h2⟩⟩
theorem hopIn_mem {c:List Int×List Int} {y z:Int}:z∈(hopIn c y).1↔z∈c.1\/z=y:=by
 unfold hopIn
 split
 · rename_i h;exact⟨.inl,fun e=>e.elim id (fun e=>by rw[e];exact h)⟩
 · simp
theorem hopFold_mem {z:Int}: ∀ {l:List Int} {c:List Int×List Int},z∈(l.foldl hopIn c).1↔z∈c.1\/z∈l
 | [],c=>by simp
 | y ::l,c=>by
   rw[List.foldl_cons,hopFold_mem (l:=l),hopIn_mem,List.mem_cons,or_assoc]
theorem hopTo_mem {E:List KeyP} {word:ByteArray} {z:Int}: ∀ {l:List Int} {c:List Int×List Int},z∈(l.foldl (hopTo E word) c).1↔z∈c.1\/ ∃x∈l,z∈nextP E x word
 | [],c=>by simp
 | y ::l,c=>by
   rw[List.foldl_cons,hopTo_mem (l:=l)]
   unfold hopTo
   rw[hopFold_mem]
   simp only[List.mem_cons,exists_eq_or_imp,or_assoc]
def NewIs (had:List Int) (c:List Int×List Int):Prop:= ∀z,z∈c.2↔z∈c.1/\z∉had
theorem NewIs.in' {had:List Int} {c:List Int×List Int} (h:NewIs had c) (hs: ∀z∈had,z∈c.1) (y:Int):NewIs had (hopIn c y)/\ ∀z∈had,z∈(hopIn c y).1:=by
 refine⟨?_,fun z hz=>hopIn_mem.2 (.inl (hs z hz))⟩
 unfold hopIn
 split
 · exact h
 · rename_i hn
   intro z
   simp only[List.mem_append,List.mem_singleton]
   rw[h z]
   constructor
   · rintro(⟨h1,h2⟩|rfl)
     · exact⟨.inl h1,h2⟩
     · exact⟨.inr rfl,fun e=>hn (hs _ e)⟩
   · rintro⟨h1|h1,h2⟩
     · exact .inl ⟨h1,h2⟩
     · exact .inr h1
theorem NewIs.fold {had:List Int}: ∀ {l:List Int} {c:List Int×List Int},NewIs had c->(∀z∈had,z∈c.1)->NewIs had (l.foldl hopIn c)/\ ∀z∈had,z∈(l.foldl hopIn c).1
 | [],_,h,hs=>⟨h,hs⟩
 | y::l,_c,h,hs=>NewIs.fold (l:=l) (h.in' hs y).1 (h.in' hs y).2
theorem NewIs.line {E:List KeyP} {word:ByteArray} {had:List Int}: ∀ {l:List Int} {c:List Int×List Int},NewIs had c->(∀z∈had,z∈c.1)->NewIs had (l.foldl (hopTo E word) c)
 | [],_,h,_=>h
 | y::l,_c,h,hs=>NewIs.line (l:=l) (h.fold (l:=nextP E y word) hs).1 (h.fold (l:=nextP E y word) hs).2
structure HopIs (E:List KeyP) (word:ByteArray) (x:Int) (n:Nat) (c:List Int×List Int):Prop where
 all: ∀y,y∈c.1↔ ∃m,m<=n/\Pth E word m x y
 new: ∀y,y∈c.2↔Mn E word n x y
theorem hopS_is (E:List KeyP) (word:ByteArray) (x:Int): ∀n,HopIs E word x n (hopS E word x n)
 | 0 =>by
   refine⟨fun y=> ?_,fun y=> ?_⟩
   · show y∈ [x]↔_
     rw[List.mem_singleton]
     refine⟨fun e=>⟨0,Nat.le_refl _,e.symm⟩,fun⟨m,hm,h⟩=> ?_⟩
     obtain rfl:m=0:=by omega
     exact(show x=y from h).symm
   · show y∈ [x]↔_
     rw[List.mem_singleton]
     exact⟨fun e=>⟨e.symm,fun m hm=>absurd hm (Nat.not_lt_zero _)⟩,fun h=>(show x=y from h.1).symm⟩
 | n + 1=>by
   have ih:=hopS_is E word x n
   rw[hopS]
   have step: ∀y,Pth E word (n+1) x y->(∃m,m<=n/\Pth E word m x y)\/ ∃z,z∈(hopS E word x n).2/\y∈nextP E z word:=fun y hy=>by
    obtain⟨k,hk,h1,h2,h3⟩:=Pth.last hy
    obtain⟨m,hm,hmn⟩:=h1.mn
    by_cases e:m=n
    · subst e
      exact .inr ⟨k.a,(ih.new _).2 hmn,mem_next.2 ⟨k,hk,rfl,h2,h3⟩⟩
    · exact .inl ⟨m+1,by omega,by rw[<-h3];exact hmn.1.snoc hk rfl h2⟩
   split
   · rename_i he
     have hno: ∀y,Pth E word (n+1) x y-> ∃m,m<=n/\Pth E word m x y:=fun y hy=>by
      rcases step y hy with h|⟨z,hz,_⟩
      · exact h
      · rw[he] at hz;cases hz
     refine⟨fun y=> ?_,fun y=> ?_⟩
     · rw [ih.all]
       constructor
       · rintro⟨m,hm,h⟩;exact⟨m,by omega,h⟩
       · rintro⟨m,hm,h⟩
         by_cases e:m=n+1
         · subst e;exact hno y h
         · exact⟨m,by omega,h⟩
     · rw [he]
       constructor
       · intro h;cases h
       · rintro⟨h1,h2⟩
         obtain⟨m,hm,h⟩:=hno y h1
         exact absurd h (h2 m (by omega))
   · have hall: ∀y,y∈(hopLine E word (hopS E word x n).1 (hopS E word x n).2).1↔ ∃m,m<=n+1/\Pth E word m x y:=fun y=>by
      unfold hopLine
      rw[hopTo_mem]
      simp only[ih.all]
      constructor
      · rintro(⟨m,hm,h⟩|⟨z,hz,h⟩)
        · exact⟨m,by omega,h⟩
        · obtain⟨k,hk,h1,h2,rfl⟩:=mem_next.1 h
          exact⟨n+1,Nat.le_refl _,((ih.new z).1 hz).1.snoc hk h1 h2⟩
      · rintro⟨m,hm,h⟩
        by_cases e:m=n+1
        · subst e;exact step y h
        · exact .inl ⟨m,by omega,h⟩
     refine⟨hall,fun y=> ?_⟩
     have hnew:NewIs (hopS E word x n).1 (hopLine E word (hopS E word x n).1 (hopS E word x n).2):=by
      unfold hopLine
      exact NewIs.line (fun z=>⟨fun h=>(by cases h),fun h=>absurd h.1 h.2⟩) fun z hz=>hz
     rw[hnew y,hall,ih.all]
     constructor
     · rintro⟨⟨m,hm,h⟩,h2⟩
       have e:m=n+1:=by
        by_cases e:m=n+1
        · exact e
        · exact absurd ⟨m,by omega,h⟩ h2
       subst e
       exact⟨h,fun j hj g=>h2 ⟨j,by omega,g⟩⟩
     · rintro⟨h1,h2⟩
       exact⟨⟨_,Nat.le_refl _,h1⟩,fun⟨j,hj,g⟩=>h2 j (by omega) g⟩
theorem hop_mem {E:List KeyP} {word:ByteArray} {x y:Int} {n:Nat}:y∈hopP E word x n↔ ∃m,m<=n/\Pth E word m x y:=(hopS_is E word x n).all y
theorem hop_nodup (E:List KeyP) (word:ByteArray) (x:Int) (n:Nat):(hopP E word x n).Nodup:=(hopS_ok E word x n).nod
structure Ext (E:List KeyP) (word:ByteArray) (n:Nat) (F:List (Int×Int)) (c:List (Int×Int)×List Int):Prop where
 keep: ∀z v,F.lookup z=some v->c.1.lookup z=some v
 new: ∀z v,c.1.lookup z=some v->F.lookup z=none->v=(n:Int)+1/\z∈c.2/\ ∃k∈E,k.a=z/\wordIs word k=true/\F.lookup k.b=some (n:Int)
 lin: ∀z∈c.2,F.lookup z=none/\(c.1.lookup z).isSome=true
theorem Ext.in' {E:List KeyP} {word:ByteArray} {n:Nat} {F:List (Int×Int)} {c:List (Int×Int)×List Int} (h:Ext E word n F c) {x:Int} (hx:F.lookup x=some (n:Int)) {k:KeyP} (hk:k∈E):Ext E word n F (farIn word x c k):=by
 unfold farIn
 split
 · rename_i hc
   obtain⟨h1,h2,h3⟩:=hc
   have hn:c.1.lookup k.a=none:=by simpa using h2
   have hF:F.lookup k.a=none:=by
    cases e:F.lookup k.a with
    | none=>rfl
    | some v=>rw[h.keep _ _ e] at hn;cases hn
   rw[h.keep _ _ hx,Option.getD_some]
   refine⟨fun z v hz=>lookup_keep (h.keep z v hz),fun z v hz hF' => ?_,fun z hz=> ?_⟩
   · rw [lookup_snoc] at hz
     cases hl:c.1.lookup z with
     | some u=>
       rw[hl] at hz;cases hz
       obtain⟨a,b,d⟩:=h.new z _ hl hF'
       exact⟨a,List.mem_append_left _ b,d⟩
     | none=>
       rw[hl] at hz
       simp only at hz
       split at hz
       · rename_i e
         cases hz
         have e' :=eq_of_beq e
         subst e'
         exact⟨rfl,by simp,k,hk,rfl,h3,by rw[h1];exact hx⟩
       · cases hz
   · rcases List.mem_append.1 hz with hz|hz
     · obtain⟨a,b⟩:=h.lin z hz
       obtain⟨v,hv⟩:=Option.isSome_iff_exists.1 b
       exact⟨a,by rw[lookup_keep hv];rfl⟩
     · simp at hz;subst hz
       exact⟨hF,by rw[lookup_snoc,hn];simp⟩
 · exact h
theorem Ext.fold {E:List KeyP} {word:ByteArray} {n:Nat} {F:List (Int×Int)} {x:Int} (hx:F.lookup x=some (n:Int)): ∀ {l:List KeyP} {c:List (Int×Int)×List Int},Ext E word n F c->(∀k∈l,k∈E)->Ext E word n F (l.foldl (farIn word x) c)
 | [],_,h,_=>h
 | k::l,_,h,hl=>Ext.fold hx (l:=l) (h.in' hx (hl k (by simp))) fun q hq=>hl q (List.mem_cons_of_mem _ hq)
theorem Ext.line {E:List KeyP} {word:ByteArray} {n:Nat} {F:List (Int×Int)}: ∀ {l:List Int} {c:List (Int×Int)×List Int},Ext E word n F c->(∀x∈l,F.lookup x=some (n:Int))->Ext E word n F (l.foldl (farTo E word) c)
 | [],_,h,_=>h
 | x::l,_,h,hl=>Ext.line (l:=l) (h.fold (hl x (by simp)) fun k hk=>hk) fun q hq=>hl q (List.mem_cons_of_mem _ hq)
theorem farIn_has {word:ByteArray} {x:Int} {c:List (Int×Int)×List Int} {k:KeyP} (h1:k.b=x) (h3:wordIs word k=true):((farIn word x c k).1.lookup k.a).isSome=true:=by
 unfold farIn
 split
 · rename_i hc
   have hn:c.1.lookup k.a=none:=by simpa using hc.2.1
   rw[lookup_snoc,hn];simp
 · rename_i hc
   cases e:c.1.lookup k.a with
   | some v=>rfl
   | none=>exact absurd ⟨h1,by rw[e];rfl,h3⟩ hc
theorem farFold_has {word:ByteArray} {x:Int} {k:KeyP} (h1:k.b=x) (h3:wordIs word k=true): ∀ {l:List KeyP} {c:List (Int×Int)×List Int},k∈l->((l.foldl (farIn word x) c).1.lookup k.a).isSome=true
 | [],_,h=>by cases h
 | q ::l,c,h=>by
   rcases List.mem_cons.1 h with rfl|h
   · obtain⟨v,hv⟩:=Option.isSome_iff_exists.1 (farIn_has (c:=c) h1 h3)
     show((l.foldl (farIn word x) (farIn word x c k)).1.lookup k.a).isSome=true
     rw[farFold_keep hv];rfl
   · exact farFold_has h1 h3 (l:=l) h
theorem farLine_has {E:List KeyP} {word:ByteArray} {k:KeyP} (hk:k∈E) (h3:wordIs word k=true): ∀ {l:List Int} {c:List (Int×Int)×List Int},k.b∈l->((l.foldl (farTo E word) c).1.lookup k.a).isSome=true
 | [],_,h=>by cases h
 | x ::l,c,h=>by
   rcases List.mem_cons.1 h with e|h
   · obtain⟨v,hv⟩:=Option.isSome_iff_exists.1 (farFold_has (l:=E) (c:=c) e h3 hk)
     show((l.foldl (farTo E word) (farTo E word c x)).1.lookup k.a).isSome=true
     rw[farTo_keep (show(farTo E word c x).1.lookup k.a=some v from hv)];rfl
   · exact farLine_has hk h3 (l:=l) h
structure FarIs (E:List KeyP) (word:ByteArray) (y:Int) (n:Nat) (c:List (Int×Int)×List Int):Prop where
 val: ∀z v,c.1.lookup z=some v-> ∃m:Nat,v=m/\m<=n/\Mn E word m z y
 all: ∀z m,m<=n->Pth E word m z y->(c.1.lookup z).isSome=true
 lin: ∀z,z∈c.2↔c.1.lookup z=some (n:Int)
theorem FarIs.mn {E:List KeyP} {word:ByteArray} {y:Int} {n:Nat} {c:List (Int×Int)×List Int} (h:FarIs E word y n c) {z:Int} {m:Nat} (hm:m<=n) (hz:Mn E word m z y):c.1.lookup z=some (m:Int):=by
 obtain⟨v,hv⟩:=Option.isSome_iff_exists.1 (h.all z m hm hz.1)
 obtain⟨k,rfl,_,h2⟩:=h.val z v hv
 rw[hv,h2.one hz]
theorem farS_is (E:List KeyP) (word:ByteArray) (y:Int): ∀n,FarIs E word y n (farS E word y n)
 | 0 =>by
   have hl: ∀z v,([(y,(0:Int))]:List (Int×Int)).lookup z=some v↔z=y/\v=0:=fun z v=>by
    rw[List.lookup_cons]
    by_cases e:z=y
    · subst e;simp[eq_comm]
    · have:(z==y)=false:=by simpa using e
      simp[this,e]
   refine⟨fun z v hz=> ?_,fun z m hm h=> ?_,fun z=> ?_⟩
   · obtain⟨rfl,rfl⟩:=(hl z v).1 hz
     exact⟨0,rfl,Nat.le_refl _,rfl,fun m hm=>absurd hm (Nat.not_lt_zero _)⟩
   · obtain rfl:m=0:=by omega
     have e:z=y:=h
     show(([(y,(0:Int))]:List (Int×Int)).lookup z).isSome=true
     rw[(hl z 0).2 ⟨e,rfl⟩];rfl
   · show z∈ [y]↔([(y,(0:Int))]:List (Int×Int)).lookup z=some _
     rw[hl,List.mem_singleton];simp
 | n + 1=>by
   have ih:=farS_is E word y n
   rw[farS]
   have step: ∀z,Pth E word (n+1) z y->(∃m,m<=n/\Pth E word m z y)\/ ∃k∈E,k.a=z/\wordIs word k=true/\k.b∈(farS E word y n).2:=fun z ⟨k,hk,h1,h2,h3⟩=>by
    obtain⟨m,hm,hmn⟩:=h3.mn
    by_cases e:m=n
    · subst e
      exact .inr ⟨k,hk,h1,h2,(ih.lin _).2 (ih.mn (Nat.le_refl _) hmn)⟩
    · exact .inl ⟨m+1,by omega,k,hk,h1,h2,hmn.1⟩
   split
   · rename_i he
     have hno: ∀z,Pth E word (n+1) z y-> ∃m,m<=n/\Pth E word m z y:=fun z hz=>by
      rcases step z hz with h|⟨k,_,_,_,h⟩
      · exact h
      · rw[he] at h;cases h
     refine⟨fun z v hz=> ?_,fun z m hm h=> ?_,fun z=> ?_⟩
     · obtain⟨m,h1,h2,h3⟩:=ih.val z v hz
       exact⟨m,h1,by omega,h3⟩
     · by_cases e:m=n+1
       · subst e
         obtain⟨m,hm,h⟩:=hno z h
         exact ih.all z m hm h
       · exact ih.all z m (by omega) h
     · rw [he]
       constructor
       · intro h;cases h
       · intro h
         obtain⟨m,h1,h2,_⟩:=ih.val z _ h
         omega
   · have h0:Ext E word n (farS E word y n).1 ((farS E word y n).1,[]):=⟨fun z v h=>h,fun z v h g=>(by rw[show(farS E word y n).1.lookup z=some v from h] at g;cases g),fun z hz=>(by cases hz)⟩
     have hx:Ext E word n (farS E word y n).1 (farLine E word (farS E word y n).1 (farS E word y n).2):=by
      unfold farLine
      exact h0.line fun x hx=>(ih.lin x).1 hx
     have hall: ∀z m,m<=n+1->Pth E word m z y->((farLine E word (farS E word y n).1 (farS E word y n).2).1.lookup z).isSome=true:=fun z m hm h=>by
      have old: ∀j,j<=n->Pth E word j z y->((farLine E word (farS E word y n).1 (farS E word y n).2).1.lookup z).isSome=true:=fun j hj g=>by
       obtain⟨v,hv⟩:=Option.isSome_iff_exists.1 (ih.all z j hj g)
       rw[hx.keep z v hv];rfl
      by_cases e:m=n+1
      · subst e
        rcases step z h with ⟨j,hj,g⟩|⟨k,hk,rfl,h2,h3⟩
        · exact old j hj g
        · exact farLine_has hk h2 h3
      · exact old m (by omega) h
     have hval: ∀z v,(farLine E word (farS E word y n).1 (farS E word y n).2).1.lookup z=some v-> ∃m:Nat,v=m/\m<=n+1/\Mn E word m z y/\((farS E word y n).1.lookup z=none->m=n+1):=fun z v hz=>by
      cases e:(farS E word y n).1.lookup z with
      | some u=>
        have:=hx.keep z u e
        rw[hz] at this;cases this
        obtain⟨m,h1,h2,h3⟩:=ih.val z v e
        exact⟨m,h1,by omega,h3,fun h=>by cases h⟩
      | none=>
        obtain⟨h1,_,k,hk,h2,h3,h4⟩:=hx.new z v hz e
        refine⟨n+1,by rw[h1];omega,Nat.le_refl _,⟨?_,fun m hm g=> ?_⟩,fun _=>rfl⟩
        · obtain⟨m,g1,_,g2⟩:=ih.val _ _ h4
          have:m=n:=by omega
          subst this
          exact⟨k,hk,h2,h3,g2.1⟩
        · have:=ih.all z m (by omega) g
          rw[e] at this;cases this
     refine⟨fun z v hz=> ?_,hall,fun z=> ?_⟩
     · obtain⟨m,h1,h2,h3,_⟩:=hval z v hz
       exact⟨m,h1,h2,h3⟩
     · constructor
       · intro hz
         obtain⟨h1,h2⟩:=hx.lin z hz
         obtain⟨v,hv⟩:=Option.isSome_iff_exists.1 h2
         obtain⟨m,g1,_,_,g2⟩:=hval z v hv
         rw[hv,g1,g2 h1]
       · intro hz
         cases e:(farS E word y n).1.lookup z with
         | some u=>
           have:=hx.keep z u e
           rw[hz] at this
           obtain⟨m,g1,g2,_⟩:=ih.val z u e
           have e2:((n+1:Nat):Int)=u:=Option.some.inj this
           omega
         | none=>exact(hx.new z _ hz e).2.1
structure FarTo (E:List KeyP) (word:ByteArray) (y:Int) (F:List (Int×Int)):Prop where
 is: ∀z v,F.lookup z=some v↔ ∃m:Nat,v=m/\Mn E word m z y
theorem farS_all {E:List KeyP} {word:ByteArray} {y:Int} {n:Nat} (h:(farS E word y n).2= []):FarTo E word y (farS E word y n).1:=by
 refine⟨fun z v=>⟨fun hz=> ?_,?_⟩⟩
 · obtain⟨m,h1,_,h2⟩:=(farS_is E word y n).val z v hz
   exact⟨m,h1,h2⟩
 · rintro⟨m,rfl,hm⟩
   have:=farS_is E word y (n+m)
   rw[farS_stay h m] at this
   exact this.mn (by omega) hm
def RW (E:List KeyP) (word:ByteArray) (nodes:List Int) (y:Int):Nat->Int->List Int->Prop
 | 0,x,W=>x=y/\W= [x]
 | d+1,x,W=> ∃z W',W=x::W' /\z∈nodes/\Mn E word 1 x z/\Mn E word d z y/\(∀u∈nodes,Mn E word 1 x u->Mn E word d u y->z<=u)/\RW E word nodes y d z W'
structure BestL (far:List (Int×Int)) (d best:Int) (l:List Int):Prop where
 one:best= -1\/(best∈l/\0<=best/\far.lookup best=some (d-1))
 low: ∀y∈l,far.lookup y=some (d-1)->0<=best/\best<=y
theorem BestL.step {far:List (Int×Int)} {d best y:Int} {l:List Int} (h:BestL far d best l) (hy:0<=y):BestL far d (bestIn far d best y) (l++ [y]):=by
 have keep:best= -1\/(best∈l++ [y]/\0<=best/\far.lookup best=some (d-1)):=h.one.elim .inl fun e=> .inr ⟨List.mem_append_left _ e.1,e.2⟩
 unfold bestIn
 cases hl:far.lookup y with
 | none=>
   refine⟨keep,fun z hz e=> ?_⟩
   rcases List.mem_append.1 hz with hz|hz
   · exact h.low z hz e
   · simp at hz;subst hz;rw[hl] at e;cases e
 | some e=>
   simp only
   split
   · rename_i hc
     refine⟨.inr ⟨by simp,hy,by rw[hl,hc.1]⟩,fun z hz e' => ?_⟩
     rcases List.mem_append.1 hz with hz|hz
     · have:=h.low z hz e'
       rcases hc.2 with e0|e0
       · omega
       · exact⟨hy,by omega⟩
     · simp at hz;subst hz;exact⟨hy,Int.le_refl _⟩
   · rename_i hc
     refine⟨keep,fun z hz e' => ?_⟩
     rcases List.mem_append.1 hz with hz|hz
     · exact h.low z hz e'
     · simp at hz;subst hz
       rw[hl] at e';cases e'
       by_cases h0:best<0
       · exact absurd ⟨rfl,.inl h0⟩ hc
       · by_cases h1:z<best
         · exact absurd ⟨rfl,.inr h1⟩ hc
         · omega
theorem BestL.fold {far:List (Int×Int)} {d:Int}: ∀ {l m:List Int} {best:Int},BestL far d best m->(∀y∈l,0<=y)->BestL far d (l.foldl (bestIn far d) best) (m++l)
 | [],m,best,h,_=>by simpa using h
 | y ::l,m,best,h,hl=>by
   have:=BestL.fold (l:=l) (h.step (hl y (by simp))) fun z hz=>hl z (List.mem_cons_of_mem _ hz)
   simpa using this
theorem way_rw {E:List KeyP} {word:ByteArray} {nodes:List Int} {y:Int} {F:List (Int×Int)} (hF:FarTo E word y F) (hE: ∀k∈E,0<=k.b/\k.b∈nodes): ∀(d:Nat) (x:Int),Mn E word d x y->RW E word nodes y d x (wayL E word F y d x)
 | 0,x,h=>⟨h.1,rfl⟩
 | d + 1,x,h=>by
   have hx:F.lookup x=some ((d+1:Nat):Int):=(hF.is _ _).2 ⟨_,rfl,h⟩
   have hne:x≠y:=fun e=>h.2 0 (by omega) e
   have hnx: ∀z∈nextP E x word,0<=z/\z∈nodes:=fun z hz=>by
    obtain⟨k,hk,_,_,rfl⟩:=mem_next.1 hz
    exact hE k hk
   have hb:=BestL.fold (far:=F) (d:=((d+1:Nat):Int)) (l:=nextP E x word) (m:= []) (best:= -1) ⟨.inl rfl,fun z hz=>(by cases hz)⟩ fun z hz=>(hnx z hz).1
   have hbe:bestP E word F x=(nextP E x word).foldl (bestIn F ((d+1:Nat):Int)) (-1):=by unfold bestP;rw[hx];rfl
   rw[<-hbe,List.nil_append] at hb
   have nearer: ∀z,F.lookup z=some (((d+1:Nat):Int)-1)↔Mn E word d z y:=fun z=>by
    rw[hF.is]
    constructor
    · rintro⟨m,e,hm⟩
      obtain rfl:m=d:=by omega
      exact hm
    · intro hm;exact⟨d,by omega,hm⟩
   obtain⟨k,hk,k1,k2,k3⟩:=h.1
   have hkd:Mn E word d k.b y:=⟨k3,fun m hm g=>h.2 (m+1) (by omega) ⟨k,hk,k1,k2,g⟩⟩
   have hkn:k.b∈nextP E x word:=mem_next.2 ⟨k,hk,k1,k2,rfl⟩
   have h0:=(hb.low _ hkn ((nearer _).2 hkd)).1
   rcases hb.one with e|⟨hin,_,hbl⟩
   · omega
   have hbd:=(nearer _).1 hbl
   have one: ∀z,Mn E word d z y->z∈nextP E x word->Mn E word 1 x z:=fun z hz hn=>by
    obtain⟨q,hq,q1,q2,q3⟩:=mem_next.1 hn
    refine⟨⟨q,hq,q1,q2,q3⟩,fun m hm g=> ?_⟩
    obtain rfl:m=0:=by omega
    have e:x=z:=g
    subst e
    exact h.2 d (by omega) hz.1
   show ∃z W',wayL E word F y (d+1) x=x::W' /\_
   refine⟨bestP E word F x,wayL E word F y d (bestP E word F x),?_,(hnx _ hin).2,one _ hbd hin,hbd,fun u _ hu1 hu2=> ?_,way_rw hF hE d _ hbd⟩
   · show(if x=y then [x] else _)=_
     rw[if_neg hne]
   · obtain⟨q,hq,q1,q2,q3⟩:=hu1.1
     exact(hb.low u (mem_next.2 ⟨q,hq,q1,q2,q3⟩) ((nearer u).2 hu2)).2
open Go.RowKit Go.Deep Go.Shelf Go.Sort Go.Maps
def ofP (G:List (KeyP×ByteArray)) (k:KeyP):ByteArray:=((G.find? fun p=>decide (p.1=k)).map (·.2)).getD ⟨#[]⟩
def isN (G:List (KeyP×ByteArray)) (n:Int):Bool:=decide ((ofP G ⟨1,n,⟨#[]⟩,0⟩).size≠0)
def nodesK (G:List (KeyP×ByteArray)) (kind:ByteArray):List Int:=(G.filter fun p=>decide (p.1.kind=1) && (decide (kind.size=0)||decide (p.2=kind))).map (·.1.a)
def propP (G:List (KeyP×ByteArray)) (n:Int) (word:ByteArray):ByteArray×Int:=
 if isN G n=true then (if (ofP G ⟨3,n,word,0⟩).size=0 then (⟨#[]⟩,8) else (ofP G ⟨3,n,word,0⟩,0)) else (⟨#[]⟩,7)
def edgeOk (G:List (KeyP×ByteArray)) (p:KeyP×ByteArray):Bool:=decide (p.1.kind=2) && (isN G p.1.a && isN G p.1.b)
def edgesGP (G H:List (KeyP×ByteArray)):List KeyP:=(H.filter (edgeOk G)).map (·.1)
end Go.Proofs.YtpgkjnebklknjaaGreatDoor
