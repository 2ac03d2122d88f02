/-Plain law,no program in it:trees that are kept low by turns:whatever is put in and taken out,the nodes in their order are the ones that were put in;how high it is;the latest end below each node. -/
import Derived.Deep.Trees
namespace Go.Proofs.YtpgkjnebklknjaaGreatDoor
open Go.Deep
structure Nd where
 id:Int
 f:Int
 t:Int
 last:Int
 high:Int
def hiT:BT Nd->Int
 | .nil=>0
 | .node _ _ a _ _=>a.high
def laT (d:Int):BT Nd->Int
 | .nil=>d
 | .node _ _ a _ _=>max d a.last
def fitN (a:Nd) (l r:BT Nd):Nd:=⟨a.id,a.f,a.t,laT (laT a.t l) r,1+max (hiT l) (hiT r)⟩
def mkT (b:Nat) (a:Nd) (l r:BT Nd):BT Nd:= .node b 0 (fitN a l r) l r
def turnR (b:Nat) (a:Nd) (l r:BT Nd):BT Nd:=
 match l with
 | .nil=> .nil
 | .node xb _ xa xl xr=>mkT xb xa xl (mkT b a xr r)
def turnL (b:Nat) (a:Nd) (l r:BT Nd):BT Nd:=
 match r with
 | .nil=> .nil
 | .node xb _ xa xl xr=>mkT xb xa (mkT b a l xl) xr
def upL (l:BT Nd):BT Nd:=
 match l with
 | .nil=> .nil
 | .node b o a xl xr=>if hiT xl<hiT xr then turnL b a xl xr else .node b o a xl xr
def upR (r:BT Nd):BT Nd:=
 match r with
 | .nil=> .nil
 | .node b o a xl xr=>if hiT xr<hiT xl then turnR b a xl xr else .node b o a xl xr
def levelT (b:Nat) (a:Nd) (l r:BT Nd):BT Nd:=
 if 1<hiT l-hiT r then turnR b (fitN a l r) (upL l) r
 else if hiT l-hiT r< -1 then turnL b (fitN a l r) l (upR r)
 else mkT b a l r
abbrev It:=Int×Int×Int   --from,number,to
def itN (a:Nd):It:=(a.f,a.id,a.t)
def itemsT:BT Nd->List It
 | .nil=> []
 | .node _ _ a l r=>itemsT l++itN a::itemsT r
def blocksT:BT Nd->List Nat
 | .nil=> []
 | .node b _ _ l r=>b::(blocksT l++blocksT r)
def FitT:BT Nd->Prop
 | .nil=>True
 | .node _ o a l r=>o=0/\a.last=laT (laT a.t l) r/\a.high=1+max (hiT l) (hiT r)/\FitT l/\FitT r
theorem fit_mk {b:Nat} {a:Nd} {l r:BT Nd} (hl:FitT l) (hr:FitT r):FitT (mkT b a l r):=⟨rfl,rfl,rfl,hl,hr⟩
@[simp] theorem itN_fit (a:Nd) (l r:BT Nd):itN (fitN a l r)=itN a:=rfl
@[simp] theorem items_mk (b:Nat) (a:Nd) (l r:BT Nd):itemsT (mkT b a l r)=itemsT l++itN a::itemsT r:=rfl
theorem hi_nonneg: ∀ {t:BT Nd},FitT t->0<=hiT t
 | .nil,_=>Int.le_refl _
 | .node _ _ a l r,h=>by
   have h1:=hi_nonneg h.2.2.2.1
   have h2:=h.2.2.1
   show 0<=a.high
   omega
theorem hi_le: ∀ {t:BT Nd},FitT t->hiT t<=(itemsT t).length
 | .nil,_=>Int.le_refl _
 | .node b o a l r,h=>by
   have h1:=hi_le h.2.2.2.1
   have h2:=hi_le h.2.2.2.2
   have h3:=h.2.2.1
   have:(itemsT (.node b o a l r)).length=(itemsT l).length+1+(itemsT r).length:=by simp[itemsT];omega
   show a.high<=_
   omega
theorem turnR_items {b:Nat} {a:Nd} {l r:BT Nd} (h:l≠ .nil):itemsT (turnR b a l r)=itemsT l++itN a::itemsT r:=by
 cases l with
 | nil=>exact absurd rfl h
 | node xb o xa xl xr=>simp[turnR,itemsT]
theorem turnL_items {b:Nat} {a:Nd} {l r:BT Nd} (h:r≠ .nil):itemsT (turnL b a l r)=itemsT l++itN a::itemsT r:=by
 cases r with
 | nil=>exact absurd rfl h
 | node xb o xa xl xr=>simp[turnL,itemsT]
theorem turnR_fit {b:Nat} {a:Nd} {l r:BT Nd} (hl:FitT l) (hr:FitT r):FitT (turnR b a l r):=by
 cases l with
 | nil=>trivial
 | node xb o xa xl xr=>exact fit_mk hl.2.2.2.1 (fit_mk hl.2.2.2.2 hr)
theorem turnL_fit {b:Nat} {a:Nd} {l r:BT Nd} (hl:FitT l) (hr:FitT r):FitT (turnL b a l r):=by
 cases r with
 | nil=>trivial
 | node xb o xa xl xr=>exact fit_mk (fit_mk hl hr.2.2.2.1) hr.2.2.2.2
theorem ne_nil_of_hi {t:BT Nd} (h:0<hiT t):t≠ .nil:=by rintro rfl;exact absurd h (Int.lt_irrefl _)
theorem upL_items {l:BT Nd} (h:FitT l):itemsT (upL l)=itemsT l:=by
 cases l with
 | nil=>rfl
 | node b o a xl xr=>
   unfold upL
   dsimp only
   split
   · rename_i hc
     have:=hi_nonneg h.2.2.2.1
     rw[turnL_items (ne_nil_of_hi (by omega))];rfl
   · rfl
theorem upR_items {r:BT Nd} (h:FitT r):itemsT (upR r)=itemsT r:=by
 cases r with
 | nil=>rfl
 | node b o a xl xr=>
   unfold upR
   dsimp only
   split
   · rename_i hc
     have:=hi_nonneg h.2.2.2.2
     rw[turnR_items (ne_nil_of_hi (by omega))];rfl
   · rfl
theorem upL_ne {l:BT Nd} (h:FitT l) (hn:l≠ .nil):upL l≠ .nil:=by
 cases l with
 | nil=>exact hn
 | node b o a xl xr=>
   unfold upL;dsimp only;split
   · rename_i hc
     have:=hi_nonneg h.2.2.2.1
     cases xr with
     | nil=>exact absurd hc (by show ¬hiT xl<0;omega)
     | node=>simp[turnL,mkT]
   · simp
theorem upR_ne {r:BT Nd} (h:FitT r) (hn:r≠ .nil):upR r≠ .nil:=by
 cases r with
 | nil=>exact hn
 | node b o a xl xr=>
   unfold upR;dsimp only;split
   · rename_i hc
     have:=hi_nonneg h.2.2.2.2
     cases xl with
     | nil=>exact absurd hc (by show ¬hiT xr<0;omega)
     | node=>simp[turnR,mkT]
   · simp
theorem upL_fit {l:BT Nd} (h:FitT l):FitT (upL l):=by
 cases l with
 | nil=>trivial
 | node b o a xl xr=>unfold upL;dsimp only;split;exact turnL_fit h.2.2.2.1 h.2.2.2.2;exact h
theorem upR_fit {r:BT Nd} (h:FitT r):FitT (upR r):=by
 cases r with
 | nil=>trivial
 | node b o a xl xr=>unfold upR;dsimp only;split;exact turnR_fit h.2.2.2.1 h.2.2.2.2;exact h
theorem level_items {b:Nat} {a:Nd} {l r:BT Nd} (hl:FitT l) (hr:FitT r):itemsT (levelT b a l r)=itemsT l++itN a::itemsT r:=by
 unfold levelT
 have h1:=hi_nonneg hl
 have h2:=hi_nonneg hr
 split
 · rw[turnR_items (upL_ne hl (ne_nil_of_hi (by omega))),upL_items hl,itN_fit]
 · split
   · rw[turnL_items (upR_ne hr (ne_nil_of_hi (by omega))),upR_items hr,itN_fit]
   · rfl
theorem level_fit {b:Nat} {a:Nd} {l r:BT Nd} (hl:FitT l) (hr:FitT r):FitT (levelT b a l r):=by
 unfold levelT
 split
 · exact turnR_fit (upL_fit hl) hr
 · split
   · exact turnL_fit hl (upR_fit hr)
   · exact fit_mk hl hr
def aheadP (x y:It):Prop:=x.1<y.1\/x.1=y.1/\x.2.1<y.2.1
instance (x y:It):Decidable (aheadP x y):=by unfold aheadP;infer_instance
theorem ahead_trans {x y z:It} (h:aheadP x y) (k:aheadP y z):aheadP x z:=by unfold aheadP at*;omega
theorem ahead_irrefl (x:It): ¬aheadP x x:=by unfold aheadP;omega
theorem ahead_total {x y:It} (h: ¬aheadP x y) (hn:x.2.1≠y.2.1):aheadP y x:=by unfold aheadP at*;omega
def SrtT (l:List It):Prop:=l.Pairwise aheadP
def addT (nb:Nat) (x:It):BT Nd->BT Nd
 | .nil=>mkT nb ⟨x.2.1,x.1,x.2.2,0,0⟩ .nil .nil
 | .node b _ a l r=>if aheadP x (itN a) then levelT b a (addT nb x l) r else levelT b a l (addT nb x r)
def firstT (d:It):BT Nd->It
 | .nil=>d
 | .node _ _ a l _=>firstT (itN a) l
def isNil:BT Nd->Bool
 | .nil=>true
 | .node .. =>false
def dropT:BT Nd->It->BT Nd
 | .nil,_=> .nil
 | .node b _ a l r,x=>
   if a.id=x.2.1 then
    if isNil l then r else if isNil r then l
    else levelT b ⟨(firstT x r).2.1,(firstT x r).1,(firstT x r).2.2,a.last,a.high⟩ l (dropT r (firstT x r))
   else if aheadP x (itN a) then levelT b a (dropT l x) r else levelT b a l (dropT r x)
theorem add_fit (nb:Nat) (x:It): ∀ {t:BT Nd},FitT t->FitT (addT nb x t)
 | .nil,_=>fit_mk trivial trivial
 | .node b o a l r,h=>by
   unfold addT
   split
   · exact level_fit (add_fit nb x h.2.2.2.1) h.2.2.2.2
   · exact level_fit h.2.2.2.1 (add_fit nb x h.2.2.2.2)
theorem add_perm (nb:Nat) (x:It): ∀ {t:BT Nd},FitT t->(itemsT (addT nb x t)).Perm (x::itemsT t)
 | .nil,_=>by simp[addT,itemsT,itN]
 | .node b o a l r,h=>by
   unfold addT
   split
   · rw [level_items (add_fit nb x h.2.2.2.1) h.2.2.2.2]
     exact(add_perm nb x h.2.2.2.1).append_right _
   · rw [level_items h.2.2.2.1 (add_fit nb x h.2.2.2.2)]
     have:=add_perm nb x h.2.2.2.2
     refine(List.Perm.append_left (itemsT l) (this.cons (itN a))).trans ?_
     refine(List.Perm.append_left (itemsT l) (List.Perm.swap x (itN a) _)).trans ?_
     exact List.perm_middle
theorem srt_parts {l r:List It} {a:It} (h:SrtT (l++a::r)):SrtT l/\SrtT r/\(∀x∈l,aheadP x a)/\(∀x∈r,aheadP a x):=by
 unfold SrtT at*
 obtain⟨h1,h2,h3⟩:=List.pairwise_append.1 h
 obtain⟨h4,h5⟩:=List.pairwise_cons.1 h2
 exact⟨h1,h5,fun x hx=>h3 x hx a (by simp),h4⟩
theorem srt_mk {l r:List It} {a:It} (h1:SrtT l) (h2:SrtT r) (h3: ∀x∈l,aheadP x a) (h4: ∀x∈r,aheadP a x):SrtT (l++a::r):=by
 unfold SrtT at*
 refine List.pairwise_append.2 ⟨h1,List.pairwise_cons.2 ⟨h4,h2⟩,fun x hx y hy=> ?_⟩
 rcases List.mem_cons.1 hy with rfl|hy
 · exact h3 x hx
 · exact ahead_trans (h3 x hx) (h4 y hy)
theorem add_srt (nb:Nat) (x:It): ∀ {t:BT Nd},FitT t->SrtT (itemsT t)->(∀y∈itemsT t,y.2.1≠x.2.1)->SrtT (itemsT (addT nb x t))
 | .nil,_,_,_=>by simp[addT,itemsT,SrtT]
 | .node b o a l r,h,hs,hn=>by
   obtain⟨s1,s2,s3,s4⟩:=srt_parts hs
   unfold addT
   split
   · rename_i hc
     rw[level_items (add_fit nb x h.2.2.2.1) h.2.2.2.2]
     refine srt_mk (add_srt nb x h.2.2.2.1 s1 fun y hy=>hn y (by simp[itemsT,hy])) s2 (fun y hy=> ?_) s4
     rcases List.mem_cons.1 ((add_perm nb x h.2.2.2.1).mem_iff.1 hy) with rfl|hy
     · exact hc
     · exact s3 y hy
   · rename_i hc
     rw[level_items h.2.2.2.1 (add_fit nb x h.2.2.2.2)]
     refine srt_mk s1 (add_srt nb x h.2.2.2.2 s2 fun y hy=>hn y (by simp[itemsT,hy])) s3 (fun y hy=> ?_)
     rcases List.mem_cons.1 ((add_perm nb x h.2.2.2.2).mem_iff.1 hy) with rfl|hy
     · exact ahead_total hc (fun e=>hn (itN a) (by simp[itemsT]) e.symm)
     · exact s4 y hy
theorem first_spec: ∀ {t:BT Nd} (d:It),t≠ .nil-> ∃rest,itemsT t=firstT d t::rest
 | .nil,_,h=>absurd rfl h
 | .node b o a l r,d,_=>by
   by_cases hl:l= .nil
   · subst hl;exact⟨itemsT r,rfl⟩
   · obtain⟨rest,hr⟩:=first_spec (itN a) hl
     exact⟨rest++itN a::itemsT r,by simp[itemsT,firstT,hr]⟩
theorem isNil_iff {t:BT Nd}:isNil t=true↔t= .nil:=by cases t<;>simp[isNil]
theorem ids_inj: ∀ {l:List It},(l.map (·.2.1)).Nodup-> ∀ {x y:It},x∈l->y∈l->x.2.1=y.2.1->x=y
 | [],_,_,_,h,_,_=>by cases h
 | a ::l,hn,x,y,hx,hy,he=>by
   rw[List.map_cons,List.nodup_cons] at hn
   rcases List.mem_cons.1 hx with h1|h1<;>rcases List.mem_cons.1 hy with h2|h2
   · rw[h1,h2]
   · rw[h1] at he;exact(hn.1 (List.mem_map.2 ⟨y,h2,he.symm⟩)).elim
   · rw[h2] at he;exact(hn.1 (List.mem_map.2 ⟨x,h1,he⟩)).elim
   · exact ids_inj hn.2 h1 h2 he
theorem nodup_parts {l r:List It} {a:It} (h:((l++a::r).map (·.2.1)).Nodup):(l.map (·.2.1)).Nodup/\(r.map (·.2.1)).Nodup:=by
 rw[List.map_append,List.map_cons] at h
 obtain⟨h1,h2,_⟩:=List.nodup_append.1 h
 exact⟨h1,(List.nodup_cons.1 h2).2⟩
theorem drop_spec: ∀ {t:BT Nd} (x:It),FitT t->SrtT (itemsT t)->((itemsT t).map (·.2.1)).Nodup->x∈itemsT t→
  FitT (dropT t x)/\SrtT (itemsT (dropT t x))/\(itemsT t).Perm (x::itemsT (dropT t x))
 | .nil,_,_,_,_,h=>by cases h
 | .node b o a l r,x,h,hs,hu,hm=>by
   obtain⟨s1,s2,s3,s4⟩:=srt_parts hs
   obtain⟨u1,u2⟩:=nodup_parts hu
   have hma:itN a∈itemsT (.node b o a l r):=by simp[itemsT]
   unfold dropT
   by_cases hid:a.id=x.2.1
   · have hax:itN a=x:=ids_inj hu hma hm hid
     rw[if_pos hid]
     by_cases hl:isNil l=true
     · rw [if_pos hl]
       rw[isNil_iff] at hl
       subst hl
       exact⟨h.2.2.2.2,s2,by simp[itemsT,hax]⟩
     · rw [if_neg hl]
       by_cases hr:isNil r=true
       · rw [if_pos hr]
         rw[isNil_iff] at hr
         subst hr
         refine⟨h.2.2.2.1,s1,?_⟩
         simp only[itemsT,hax]
         exact List.perm_middle.trans (by simp)
       · rw [if_neg hr]
         have hrn:r≠ .nil:=fun e=>hr (isNil_iff.2 e)
         obtain⟨rest,hrest⟩:=first_spec x hrn
         have hmr:firstT x r∈itemsT r:=by rw[hrest];simp
         obtain⟨d1,d2,d3⟩:=drop_spec (firstT x r) h.2.2.2.2 s2 u2 hmr
         have d4:(itemsT (dropT r (firstT x r))).Perm rest:=by
          rw[hrest] at d3
          exact(List.Perm.cons_inv d3).symm
         have hs2:=s2
         rw[hrest] at hs2
         have hfirst:=(List.pairwise_cons.1 hs2).1
         refine⟨level_fit h.2.2.2.1 d1,?_,?_⟩
         · rw [level_items h.2.2.2.1 d1]
           refine srt_mk s1 d2 (fun y hy=>ahead_trans (s3 y hy) (s4 _ hmr)) (fun y hy=>hfirst y (d4.mem_iff.1 hy))
         · rw [level_items h.2.2.2.1 d1]
           show(itemsT l++itN a::itemsT r).Perm _
           rw[hax]
           refine List.perm_middle.trans (List.Perm.cons x (List.Perm.append_left _ ?_))
           exact d3
   · rw [if_neg hid]
     by_cases hc:aheadP x (itN a)
     · rw [if_pos hc]
       have hml:x∈itemsT l:=by
        rcases List.mem_append.1 (show x∈itemsT l++itN a::itemsT r from hm) with h1|h1
        · exact h1
        · rcases List.mem_cons.1 h1 with h2|h2
          · rw[h2] at hid;exact absurd rfl hid
          · exact absurd (ahead_trans hc (s4 x h2)) (ahead_irrefl x)
       obtain⟨d1,d2,d3⟩:=drop_spec x h.2.2.2.1 s1 u1 hml
       refine⟨level_fit d1 h.2.2.2.2,?_,?_⟩
       · rw [level_items d1 h.2.2.2.2]
         exact srt_mk d2 s2 (fun y hy=>s3 y (d3.mem_iff.2 (List.mem_cons_of_mem _ hy))) s4
       · rw [level_items d1 h.2.2.2.2]
         exact(d3.append_right (itN a::itemsT r))
     · rw [if_neg hc]
       have hmr:x∈itemsT r:=by
        rcases List.mem_append.1 (show x∈itemsT l++itN a::itemsT r from hm) with h1|h1
        · exact absurd (s3 x h1) hc
        · rcases List.mem_cons.1 h1 with h2|h2
          · rw[h2] at hid;exact absurd rfl hid
          · exact h2
       obtain⟨d1,d2,d3⟩:=drop_spec x h.2.2.2.2 s2 u2 hmr
       refine⟨level_fit h.2.2.2.1 d1,?_,?_⟩
       · rw [level_items h.2.2.2.1 d1]
         exact srt_mk s1 d2 s3 (fun y hy=>s4 y (d3.mem_iff.2 (List.mem_cons_of_mem _ hy)))
       · rw [level_items h.2.2.2.1 d1]
         refine(List.Perm.append_left (itemsT l) ((d3.cons (itN a)).trans (List.Perm.swap _ _ _))).trans ?_
         exact List.perm_middle
def meetsT (f t:Int) (x:It):Bool:=decide (x.1<t) && decide (f<x.2.2)
def findT (f t:Int):BT Nd->List Int
 | .nil=> []
 | .node _ _ a l r=>if a.last<=f then [] else findT f t l++if a.f<t then (if f<a.t then [a.id] else [])++findT f t r else []
theorem la_ge (d:Int) (t:BT Nd):d<=laT d t:=by cases t<;>simp[laT];omega
theorem last_ge: ∀ {t:BT Nd},FitT t-> ∀x∈itemsT t,∀d,x.2.2<=laT d t
 | .nil,_,_,hx,_=>by cases hx
 | .node b o a l r,h,x,hx,d=>by
   have hl:=h.2.1
   have e:laT d (.node b o a l r)=max d a.last:=rfl
   rw[e]
   have h1:laT a.t l<=laT (laT a.t l) r:=la_ge _ _
   have h2:a.t<=laT a.t l:=la_ge _ _
   rcases List.mem_append.1 (show x∈itemsT l++itN a::itemsT r from hx) with hx|hx
   · have:=last_ge h.2.2.2.1 x hx a.t
     omega
   · rcases List.mem_cons.1 hx with hx|hx
     · rw[hx];show a.t<=_;omega
     · have:=last_ge h.2.2.2.2 x hx (laT a.t l)
       omega
theorem find_spec (f t:Int): ∀ {T:BT Nd},FitT T->SrtT (itemsT T)->findT f t T=((itemsT T).filter (meetsT f t)).map (·.2.1)
 | .nil,_,_=>rfl
 | .node b o a l r,h,hs=>by
   obtain⟨s1,s2,s3,s4⟩:=srt_parts hs
   have hall:=last_ge h
   unfold findT
   by_cases hlast:a.last<=f
   · rw [if_pos hlast]
     have :(itemsT (.node b o a l r)).filter (meetsT f t)= []:=by
      rw[List.filter_eq_nil_iff]
      intro x hx
      have:=hall x hx a.last
      have e:laT a.last (.node b o a l r)=max a.last a.last:=rfl
      rw[e] at this
      simp[meetsT];omega
     rw[this];rfl
   · rw [if_neg hlast,find_spec f t h.2.2.2.1 s1]
     show _=((itemsT l++itN a::itemsT r).filter (meetsT f t)).map (·.2.1)
     rw[List.filter_append,List.map_append]
     congr 1
     by_cases hf:a.f<t
     · rw [if_pos hf,find_spec f t h.2.2.2.2 s2]
       by_cases ht:f<a.t
       · rw[if_pos ht,List.filter_cons_of_pos (by simp[meetsT,itN,hf,ht])];rfl
       · rw[if_neg ht,List.filter_cons_of_neg (by unfold meetsT itN;simp[ht])];rfl
     · rw [if_neg hf]
       have :(itN a::itemsT r).filter (meetsT f t)= []:=by
        rw[List.filter_eq_nil_iff]
        intro x hx
        have :a.f<=x.1:=by
         rcases List.mem_cons.1 hx with rfl|hx
         · exact Int.le_refl _
         · have:=s4 x hx;unfold aheadP itN at this;simp only at this;omega
        simp[meetsT];omega
       rw[this];rfl
end Go.Proofs.YtpgkjnebklknjaaGreatDoor
