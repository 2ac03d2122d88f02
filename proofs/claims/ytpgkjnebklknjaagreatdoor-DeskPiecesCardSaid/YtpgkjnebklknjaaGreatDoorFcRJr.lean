/-The program's Read. The conditions:the library's tables and variables that it reads are as its own text lays them. -/
import Derived.Maps.AppendAt
import Derived.Test.YtpgkjnebklknjaaGreatDoorFcLJr
import Derived.Test.YtpgkjnebklknjaaGreatDoorFcKJr
namespace Go.Proofs.YtpgkjnebklknjaaGreatDoor
open Go.RowKit Go.Shelf
attribute [local go_sem] Oper.semAt_some
def flatO (l:List OpP):List Value:=l.flatMap opCells
theorem opCells_length (o:OpP):(opCells o).length=7:=rfl
theorem flatO_length (l:List OpP):(flatO l).length=l.length*7:=by
 induction l with
 | nil=>rfl
 | cons o l ih=>unfold flatO at*;rw[List.flatMap_cons,List.length_append,ih,opCells_length,List.length_cons];omega
theorem flatO_append (l m:List OpP):flatO (l++m)=flatO l++flatO m:=by simp[flatO]
theorem flatO_get: ∀(l:List OpP) (i j:Nat) (o:OpP) (u:Value),l[i]? =some o->(opCells o)[j]? =some u->(flatO l)[i*7+j]? =some u
 | [],i,j,o,u,h,_=>by simp at h
 | a ::l,0,j,o,u,h,hu=>by
   simp at h;subst h
   have hj:j<7:=(List.getElem?_eq_some_iff.1 hu).1
   unfold flatO;rw[List.flatMap_cons,Nat.zero_mul,Nat.zero_add,List.getElem?_append_left (by rw[opCells_length];exact hj)];exact hu
 | a ::l,i+1,j,o,u,h,hu=>by
   have ih:=flatO_get l i j o u (by simpa using h) hu
   unfold flatO at*;rw[List.flatMap_cons,List.getElem?_append_right (by rw[opCells_length];omega),opCells_length,show(i+1)*7+j-7=i*7+j by omega];exact ih
theorem ownsRow_ops {w:World} {base n:Nat} {v:Value} {l:List OpP} {e:TypeId} (h:w.ownsRow base e 7 v n (flatO l)): ∃ao cap,v= .slice ao l.length cap/\opsAt w ao l:=by
 have hn:n=l.length:=by have:=h.1;rw[flatO_length] at this;omega
 subst hn
 obtain⟨ao,cap,rfl,hn,hc⟩:=ownsRow_slice h
 refine⟨ao,cap,rfl,fun i o ho=> ?_⟩
 have h0:=flatO_get l i 0 o _ ho rfl
 obtain⟨b,h1,_⟩:=hc _ _ h0
 refine⟨b,0,h1,fun j u hu=> ?_⟩
 obtain⟨b',h1',h2'⟩:=hc _ _ (flatO_get l i j o u ho hu)
 rw[h1] at h1';cases h1'
 rw[Nat.zero_add];exact h2'
theorem infoOp:(Tryz.prog.info? 148).map (fun i=>(i.zero,i.size,i.bytes))=some (some (.agg #[.int .i64 0,.int .i64 0,.string ⟨#[]⟩,.int .i64 0,.int .i64 0,.int .i64 0,.string ⟨#[]⟩]),7,72):=by kernel_rfl
theorem piecesF_app: ∀(a b:List (List UInt8)) (l:List OpP),piecesF l (a++b)=match piecesF l a with|some m=>piecesF m b|none=>none
 | [],b,l=>by simp[piecesF]
 | x ::a,b,l=>by
   rw[List.cons_append,piecesF,piecesF]
   split
   · rfl
   · cases h:pieceF x with
     | none=>rfl
     | some o=>exact piecesF_app a b (l++ [o])
theorem piecesF_step {pre:List (List UInt8)} {L:List OpP} {x:List UInt8} {o:OpP} (h:piecesF [] pre=some L) (h8: ¬8<=L.length) (hx:pieceF x=some o):piecesF [] (pre++ [x])=some (L++ [o]):=by
 rw[piecesF_app,h];simp[piecesF,h8,hx]
theorem piecesF_stop {pre:List (List UInt8)} {L:List OpP} {x:List UInt8} {q:List (List UInt8)} (h:piecesF [] pre=some L) (hx:8<=L.length\/pieceF x=none):piecesF [] (pre++x::q)=none:=by
 rw[piecesF_app,h]
 rcases hx with hx|hx
 · simp[piecesF,hx]
 · simp[piecesF,hx]
theorem piecesF_le: ∀(l:List OpP) (a:List (List UInt8)) {m:List OpP},piecesF l a=some m->l.length<=8->m.length<=8
 | l,[],m,h,hl=>by simp[piecesF] at h;subst h;exact hl
 | l, x::a,m,h,hl=>by
   rw[piecesF] at h
   split at h
   · cases h
   · cases hx:pieceF x with
     | none=>rw[hx] at h;cases h
     | some o=>rw[hx] at h;exact piecesF_le (l++ [o]) a h (by simp;omega)
theorem readF_none {s:List UInt8} (h:piecesF [] (cutC 43 s)=none):readF s=none:=by unfold readF;rw[h]
theorem readF_some {s:List UInt8} {L:List OpP} (h:piecesF [] (cutC 43 s)=some L):readF s=if okT L s then some L else none:=by unfold readF;rw[h]
theorem cutC_len (c:UInt8): ∀(s:List UInt8),∀p∈cutC c s,p.length<=s.length
 | [],p,h=>by simp[cutC] at h;subst h;exact Nat.le_refl _
 | b ::s,p,h=>by
   unfold cutC at h
   have ih:=cutC_len c s
   split at h
   · rcases List.mem_cons.1 h with rfl|h
     · exact Nat.zero_le _
     · have:=ih p h;simp;omega
   · split at h
     · simp at h;subst h;simp
     · rename_i q r he
       rw[he] at ih
       rcases List.mem_cons.1 h with rfl|h
       · have:=ih q (by simp);simp;omega
       · have:=ih p (by simp[h]);simp;omega
def wordsLe (L:List OpP):Prop:= ∀o∈L,o.key.word.size<=100000/\o.value.size<=100000
structure RdI (w:World) (n₀:Nat) (pre:List (List UInt8)) (L:List OpP) (v:Value) (W:World):Prop where
 res:Boxed W n₀ 83 (.slice none 0 0)
 err:Boxed W (n₀+1) 41 .nilIface
 box:Boxed W (n₀+2) 83 v
 it0: ∃x,Boxed W (n₀+3) 9 x
 it1:Boxed W (n₀+4) 9 (.string ⟨#[43]⟩)
 it2:Boxed W (n₀+5) 3 (.int .i64 0)
 own:W.ownsRow n₀ 148 7 v L.length (flatO L)
 bel:Below n₀ w W
 some' :piecesF [] pre=some L
 les:wordsLe L
structure RdX (w:World) (n₀:Nat) (s:List UInt8) (W:World):Prop where
 res:Boxed W n₀ 83 (.slice none 0 0)
 err:Boxed W (n₀+1) 41 (.iface 56 (.int .i64 3))
 bel:Below n₀ w W
 none' :readF s=none
theorem boxed_below {W W' :World} {B:Nat} {t:TypeId} {v:Value} (h:Boxed W B t v) (hb:Below W.heap.size W W'):Boxed W' B t v:=(hb.block B h.lt).trans h
theorem boxed_other {W:World} {B B' k:Nat} {t:TypeId} {v:Value} (h:Boxed W B t v) (hne:B≠B') (u:Value):Boxed (W.setCell ⟨B',k,none⟩ u) B t v:=(Below.heap_setCell _ _ _ _ hne).trans h
theorem boxed_put {W:World} {B l:Nat} {t:TypeId} {v:Value} {o:Obj} (h:Boxed W B t v) (o' :Obj) (hl:W.heap[l]? =some o) (ho:o.isCells=false):Boxed (W.putObj l o') B t v:=
 h.kept (grownBy_putObj' W l o') (fun e=>by cases e;rw[show W.heap[B]? =_ from h] at hl;cases hl;cases ho)
theorem RdI.set {w:World} {n₀:Nat} {pre:List (List UInt8)} {L:List OpP} {v:Value} {W:World} (h:RdI w n₀ pre L v W) (u:Value):RdI w n₀ pre L v (W.setCell ⟨n₀+3,0,none⟩ u):=by
 obtain⟨h1,h2,h3,⟨x,h4⟩,h5,h6,h7,h8,h9,h10⟩:=h
 exact⟨boxed_other h1 (by omega) u,boxed_other h2 (by omega) u,boxed_other h3 (by omega) u,⟨u,h4.set u⟩,boxed_other h5 (by omega) u,boxed_other h6 (by omega) u,h7.kept (grownBy_setCell' W _ u) (.inr (h4.not_row (by decide) h7).symm),h8.setCell (p:=⟨n₀+3,0,none⟩) (by simp) u,h9,h10⟩
theorem RdI.below {w:World} {n₀:Nat} {pre:List (List UInt8)} {L:List OpP} {v:Value} {W W' :World} (h:RdI w n₀ pre L v W) (hb:Below W.heap.size W W'):RdI w n₀ pre L v W' :=by
 obtain⟨h1,h2,h3,⟨x,h4⟩,h5,h6,h7,h8,h9,h10⟩:=h
 exact⟨boxed_below h1 hb,boxed_below h2 hb,boxed_below h3 hb,⟨x,boxed_below h4 hb⟩,boxed_below h5 hb,boxed_below h6 hb,ownsRow_below h7 hb,h8.trans (hb.mono (by have:=h1.lt;omega)),h9,h10⟩
theorem RdI.put {w:World} {n₀:Nat} {pre:List (List UInt8)} {L:List OpP} {v:Value} {W:World} {l:Nat} {o:Obj} (h:RdI w n₀ pre L v W) (o' :Obj) (hn' :n₀<=l) (hl:W.heap[l]? =some o) (ho:o.isCells=false):RdI w n₀ pre L v (W.putObj l o'):=by
 obtain⟨h1,h2,h3,⟨x,h4⟩,h5,h6,h7,h8,h9,h10⟩:=h
 exact⟨boxed_put h1 o' hl ho,boxed_put h2 o' hl ho,boxed_put h3 o' hl ho,⟨x,boxed_put h4 o' hl ho⟩,boxed_put h5 o' hl ho,boxed_put h6 o' hl ho,ownsRow_putObj h7 o' hl ho,h8.trans ((Below.refl n₀ W).grown (grownBy_putObj' W l o') (by have:=h1.lt;omega) (fun k e=>by cases e;omega)),h9,h10⟩
theorem RdX.put {w:World} {n₀:Nat} {s:List UInt8} {W:World} {l:Nat} {o:Obj} (h:RdX w n₀ s W) (o' :Obj) (hn' :n₀<=l) (hl:W.heap[l]? =some o) (ho:o.isCells=false):RdX w n₀ s (W.putObj l o'):=by
 obtain⟨h1,h2,h8,h9⟩:=h
 exact⟨boxed_put h1 o' hl ho,boxed_put h2 o' hl ho,h8.trans ((Below.refl n₀ W).grown (grownBy_putObj' W l o') (by have:=h1.lt;omega) (fun k e=>by cases e;omega)),h9⟩
theorem below_keeps {W V:World} (h:Below W.heap.size W V):KeepsOthers W V:=⟨h.size,fun k _o hk _=>(h.block k (Array.getElem?_eq_some_iff.1 hk).1).trans hk⟩
theorem rd_fail {w:World} {n₀:Nat} {pre q:List (List UInt8)} {x s:List UInt8} {L:List OpP} {v:Value} {V:World} (h:RdI w n₀ pre L v V) (hq:pre++x::q=cutC 43 s) (hx:8<=L.length\/pieceF x=none):
  RdX w n₀ s ((V.setCell ⟨n₀,0,none⟩ (.slice none 0 0)).setCell ⟨n₀+1,0,none⟩ (.iface 56 (.int .i64 3))):=
 ⟨boxed_other (h.res.set _) (by omega) _,(boxed_other h.err (by omega) _).set _,(h.bel.setCell (p:=⟨n₀,0,none⟩) (Nat.le_refl _) _).setCell (p:=⟨n₀+1,0,none⟩) (by simp) _,readF_none (by rw[<-hq];exact piecesF_stop h.some' hx)⟩
theorem pieceF_none {x:List UInt8} (h:(cutC 32 x).length≠7):pieceF x=none:=by
 unfold pieceF
 split
 · rename_i e;rw[e] at h;exact absurd rfl h
 · rfl
theorem undash_yes {l:List UInt8} (h:l= [45]):undash l=⟨#[]⟩:=by unfold undash;rw[if_pos h];rfl
theorem undash_no {y:ByteArray} (h: ¬y.data.toList= [45]):undash y.data.toList=y:=by unfold undash;rw[if_neg h]
theorem row_newO (w:World) (cs:Array Value) (e:TypeId) (j:Nat) (u:Value) (h:cs.toList[j]? =some u):(w.alloc (.cells cs e)).cell? ((⟨w.heap.size,0,none⟩:Addr).add j)=some u:=by
 have h2:cs[j]? =some u:=by rw[<-Array.getElem?_toList];exact h
 rw[Addr.add_lit,Nat.zero_add];simp[h2]
theorem row_newP (w:World) (o:Obj) (cs:Array Value) (e:TypeId) (j:Nat) (u:Value) (h:cs.toList[j]? =some u):((w.alloc o).alloc (.cells cs e)).cell? ((⟨w.heap.size+1,0,none⟩:Addr).add j)=some u:=by
 have:=row_newO (w.alloc o) cs e j u h
 rwa [World.size_alloc] at this
theorem rd_append {w:World} {n₀:Nat} {pre:List (List UInt8)} {x:List UInt8} {L:List OpP} {v:Value} {O w6:World} {tmp:Obj} {o:OpP} {g cap:Nat} (h:RdI w n₀ pre L v O)
  (hown:w6.ownsRow n₀ 148 7 (.slice (some ⟨g,0,none⟩) (L.length+1) cap) (L.length+1) (flatO L++opCells o)) (hgrow:(O.alloc tmp).grownBy w6 v.ownBlock) (h8:L.length<8) (hx:pieceF x=some o) (ho:o.key.word.size<=100000/\o.value.size<=100000):
  (w6.cell? ⟨n₀+2,0,none⟩=some v/\w6.frozen? ⟨n₀+2,0,none⟩=false)/\KeepsOthers O (w6.setCell ⟨n₀+2,0,none⟩ (.slice (some ⟨g,0,none⟩) (L.length+1) cap))/\KeepB (n₀+3) O (w6.setCell ⟨n₀+2,0,none⟩ (.slice (some ⟨g,0,none⟩) (L.length+1) cap))∧
   RdI w n₀ (pre++ [x]) (L++ [o]) (.slice (some ⟨g,0,none⟩) (L.length+1) cap) (w6.setCell ⟨n₀+2,0,none⟩ (.slice (some ⟨g,0,none⟩) (L.length+1) cap)):=by
 have hs:n₀<=O.heap.size:=by have:=h.res.lt;omega
 obtain⟨hv1,hv2,hr2,hk2,hb2⟩:=h.box.appended (by decide) h.own hs (by omega) hown hgrow
 have keep: ∀ {B:Nat} {t:TypeId} {u:Value},Boxed O B t u->t≠148->B≠n₀+2->Boxed (w6.setCell ⟨n₀+2,0,none⟩ (.slice (some ⟨g,0,none⟩) (L.length+1) cap)) B t u:=fun hb ht hne=>
  boxed_other ((hb.alloc tmp).kept hgrow (hb.not_row ht h.own)) hne _
 obtain⟨xx,h4⟩:=h.it0
 refine⟨⟨hv1.cell,hv1.frozen⟩,hk2,fun k h1 h2=> ?_,keep h.res (by decide) (by omega),keep h.err (by decide) (by omega),hv2,⟨xx,keep h4 (by decide) (by omega)⟩,keep h.it1 (by decide) (by omega),keep h.it2 (by decide) (by omega),?_,h.bel.trans hb2,piecesF_step h.some' (by omega) hx,fun p hp=> ?_⟩
 · rcases(by omega:k=n₀+3\/k=n₀+4\/k=n₀+5) with rfl|rfl|rfl
   · exact(show _=_ from keep h4 (by decide) (by omega)).trans (show _=_ from h4).symm
   · exact(show _=_ from keep h.it1 (by decide) (by omega)).trans (show _=_ from h.it1).symm
   · exact(show _=_ from keep h.it2 (by decide) (by omega)).trans (show _=_ from h.it2).symm
 · rw[List.length_append,flatO_append];simpa [flatO] using hr2
 · rcases List.mem_append.1 hp with hp|hp
   · exact h.les p hp
   · simp at hp;subst hp;exact ho
theorem arr5: ∀w,(Instr.index 224 (.agg #[.int .i64 0,.int .i64 1,.int .i64 3,.int .i64 4,.int .i64 5]) (.int .i64 0)).run Tryz.prog w= .ok (.int .i64 0) w/\(Instr.index 224 (.agg #[.int .i64 0,.int .i64 1,.int .i64 3,.int .i64 4,.int .i64 5]) (.int .i64 1)).run Tryz.prog w= .ok (.int .i64 1) w/\(Instr.index 224 (.agg #[.int .i64 0,.int .i64 1,.int .i64 3,.int .i64 4,.int .i64 5]) (.int .i64 2)).run Tryz.prog w= .ok (.int .i64 3) w/\(Instr.index 224 (.agg #[.int .i64 0,.int .i64 1,.int .i64 3,.int .i64 4,.int .i64 5]) (.int .i64 3)).run Tryz.prog w= .ok (.int .i64 4) w/\(Instr.index 224 (.agg #[.int .i64 0,.int .i64 1,.int .i64 3,.int .i64 4,.int .i64 5]) (.int .i64 4)).run Tryz.prog w= .ok (.int .i64 5) w:=
 fun w=>⟨by kernel_rfl,by kernel_rfl,by kernel_rfl,by kernel_rfl,by kernel_rfl⟩
theorem list7 {l:List ByteArray} (h:l.length=7): ∃a b c d e f g,l= [a,b,c,d,e,f,g]:=
 match l,h with| [a,b,c,d,e,f,g],_=>⟨a,b,c,d,e,f,g,rfl⟩
theorem pieceF_words {x a b c d e f g:List UInt8} (h:cutC 32 x= [a,b,c,d,e,f,g]):pieceF x=match num? a,num? b,num? d,num? e,num? f with
  | some a,some b,some d,some e,some f=>some ⟨⟨a,b,undash c,d⟩,e,f,undash g⟩
  | _,_,_,_,_=>none:=by
 unfold pieceF
 rw[h]
 rfl
theorem own_base' {w:World} {base:Nat} {e:TypeId} {size b f m c:Nat} {n:Nat} {xs:List Value} (h:w.ownsRow base e size (.slice (some ⟨b,f,none⟩) m c) n xs):base<=b:=by
 rcases h.2 with ⟨h1,_⟩|⟨g',cap,cur,h1,h2,_⟩
 · cases h1
 · cases h1;exact h2
set_option maxRecDepth 100000 in
set_option maxHeartbeats 4000000 in
theorem fread_full (s:ByteArray) (w:World) (hs:s.size<=100000) (ht:PowTab w) (hv:NumVars w):
  Calls Tryz.prog 113 #[.string s] w fun e w' =>((∃L ao cap,e= .returned (.tuple #[.slice ao L.length cap,.nilIface])/\readF s.data.toList=some L/\opsAt w' ao L/\ ∀b f,ao=some ⟨b,f,none⟩->w.heap.size<=b)∨
   (e= .returned (.tuple #[.slice none 0 0,.iface 56 (.int .i64 3)])/\readF s.data.toList=none))/\Below w.heap.size w w' :=by
 obtain⟨i0,hi0,hz0,hz1,hz2⟩:=info_parts infoOp
 obtain⟨n₀,hn₀⟩: ∃n,n=w.heap.size:=⟨_,rfl⟩
 obtain⟨W0,hW0⟩: ∃W0,W0=((w.alloc (.cells #[.slice none 0 0] 83)).alloc (.cells #[.nilIface] 41)).alloc (.cells #[.slice none 0 0] 83):=⟨_,rfl⟩
 have sz0:W0.heap.size=n₀+3:=by rw[hW0,hn₀];simp
 obtain⟨W1,hW1⟩: ∃W1,W1=((W0.alloc (.cells #[.string s] 9)).alloc (.cells #[.string ⟨#[43]⟩] 9)).alloc (.cells #[.int .i64 0] 3):=⟨_,rfl⟩
 have sz1:W1.heap.size=n₀+6:=by rw[hW1];simp[sz0]
 have hSp:=splitSeq_any s 43 W0
 rw[sz0, <-hW1] at hSp
 have bx0:Boxed W1 n₀ 83 (.slice none 0 0):=by
  rw[hW1,hW0,hn₀];exact(((((Boxed.new w _ _).alloc _).alloc _).alloc _).alloc _).alloc _
 have bx1:Boxed W1 (n₀+1) 41 .nilIface:=by
  have h:=Boxed.new (w.alloc (.cells #[.slice none 0 0] 83)) 41 .nilIface
  rw[World.size_alloc, <-hn₀] at h
  rw[hW1,hW0];exact(((h.alloc _).alloc _).alloc _).alloc _
 have bx2:Boxed W1 (n₀+2) 83 (.slice none 0 0):=by
  have h:=Boxed.new ((w.alloc (.cells #[.slice none 0 0] 83)).alloc (.cells #[.nilIface] 41)) 83 (.slice none 0 0)
  rw[World.size_alloc,World.size_alloc, <-hn₀] at h
  rw[hW1,hW0];exact((h.alloc _).alloc _).alloc _
 have bx3:Boxed W1 (n₀+3) 9 (.string s):=by
  have h:=Boxed.new W0 9 (.string s)
  rw[sz0] at h
  rw[hW1];exact(h.alloc _).alloc _
 have bx4:Boxed W1 (n₀+4) 9 (.string ⟨#[43]⟩):=by
  have h:=Boxed.new (W0.alloc (.cells #[.string s] 9)) 9 (.string ⟨#[43]⟩)
  rw[World.size_alloc,sz0] at h
  rw[hW1];exact h.alloc _
 have bx5:Boxed W1 (n₀+5) 3 (.int .i64 0):=by
  have h:=Boxed.new ((W0.alloc (.cells #[.string s] 9)).alloc (.cells #[.string ⟨#[43]⟩] 9)) 3 (.int .i64 0)
  rw[World.size_alloc,World.size_alloc,sz0] at h
  rw[hW1];exact h
 have hB1:Below n₀ w W1:=by
  rw[hW1,hW0,hn₀]
  exact((((((Below.refl _ w).alloc (Nat.le_refl _) _).alloc (by simp) _).alloc (by simp;omega) _).alloc (by simp;omega) _).alloc (by simp;omega) _).alloc (by simp;omega) _
 have hI0:RdI w n₀ [] [] (.slice none 0 0) W1:=⟨bx0,bx1,bx2,⟨_,bx3⟩,bx4,bx5,World.ownsRow_nil _ _ _ _,hB1,rfl,fun o ho=>by cases ho⟩
 have hit:ItBox (n₀+3) 43 s.data.toList W1:=⟨bx3.cell,bx3.frozen,bx4.cell,bx5.cell⟩
 have HW0:=Lib.hid hW0
 have HSp:=Lib.hid hSp
 have HI0:=Lib.hid hI0
 have Hit:=Lib.hid hit
 have HT:=Lib.hid ht
 have HV:=Lib.hid hv
 have HN:=Lib.hid hn₀
 have hlc:=Lib.hid (cutC_len 43 s.data.toList)
 have hsl:s.data.toList.length<=100000:=by rw[size_toList];exact hs
 clear hW0 hW1 hSp bx0 bx1 bx2 bx3 bx4 bx5 hB1 hI0 hit ht hv hn₀
 refine(callsIn_wide (n:=6)).1 ?_
 refine callsIn_of_wp_marks Tryz.func113 rfl trivial ?_ rfl
 simp only[Tryz.ntmps113,List.size_toArray,List.length_cons,List.length_nil,Nat.reduceAdd,Nat.reduceSub,Array.replicate_succ,Array.replicate_zero,List.push_toArray,List.append_toArray,List.nil_append,List.cons_append]
 gi_wp2_with fail
 rw[<-HW0.out, <-HN.out]
 refine⟨trivial,?_⟩
 refine(callsIn_wide.2 HSp.out).mono ?_
 rintro e w' ⟨rfl,rfl⟩
 gi_wp2_with fail
 refine wp_splitRange rfl (by decide) (gf:=58) (b:=n₀+3) (c:=43) (s:=s.data.toList) rfl trivial (enters_of Tryz.func58 (by kernel_rfl) rfl) (splitIt_any _ (n₀+3) 43 s.data.toList (by unfold maxLen;omega)) (by omega) Hit.out
  (fun pre W=> ∃L v,RdI w n₀ pre L v W) (fun _ W=>RdX w n₀ s.data.toList W)
  (fun pre W u ⟨L,v,h⟩=>⟨L,v,h.set u⟩) (fun pre W W' ⟨L,v,h⟩ hb=>⟨L,v,h.below hb⟩) (fun pre W l o o' ⟨L,v,h⟩ hl h1 h2=>⟨L,v,h.put o' (by omega) h1 h2⟩) (fun pre W l o o' h hl h1 h2=>h.put o' (by omega) h1 h2)
  ⟨_,_,HI0.out⟩ (fun x=>{ tmps:= #[.string s,undef,.pointer (some ⟨n₀,0,none⟩),.pointer (some ⟨n₀+1,0,none⟩),.pointer (some ⟨n₀+2,0,none⟩),.string ⟨x.toArray⟩,undef,undef,undef,undef,undef,undef,undef,undef,undef,.string s,.func (.func 58) #[] #[.pointer (some ⟨n₀+3+1,0,none⟩),.pointer (some ⟨n₀+3,0,none⟩),.pointer (some ⟨n₀+3+2,0,none⟩)],.string ⟨x.toArray⟩,undef,undef,undef,undef,undef,undef,undef,undef,undef,undef,undef,undef,undef,undef,undef,undef,undef,undef,undef,undef,undef,undef,undef,undef,undef,undef,undef,undef,undef,undef,undef,undef,undef,undef,undef,undef,undef,undef,undef,undef,undef,undef,undef,undef,undef,undef,undef,undef,undef,undef,undef,undef,undef,undef,undef,undef,undef,undef,undef,undef,undef,undef,undef,undef,undef,undef,undef,undef,undef,undef,undef,undef,undef,undef,undef,undef,undef,undef],defers:= [] }) ?assign ?body ?done ?stop
 case assign=>
  intro l x W K hK
  gi_wp2
  exact hK
 case body=>
  rintro l pre x q W ⟨L,v,hI⟩ hq
  have hxl:x.length<=100000:=Nat.le_trans (hlc.out x (by rw[<-hq];simp)) hsl
  obtain⟨ao,cap,rfl,_⟩:=ownsRow_ops hI.own
  have hW:=hI.bel
  have hvW:=HV.out.below (by rw[<-HN.out];exact hW:Below w.heap.size w W)
  have HS:=Lib.hid (split_any 32 ⟨x.toArray⟩ W (by simpa [ByteArray.size] using hxl) hvW)
  have HI:=Lib.hid hI
  have HVW:=Lib.hid hvW
  clear hI hW hvW
  gi_wp2_with fail
  refine⟨trivial,?_⟩
  refine(CallsIn.inRound l (callsIn_wide.2 HS.out)).mono ?_
  rintro e W2 ⟨ws,hws,rfl,hW2⟩
  obtain⟨g,hg⟩: ∃g,g=W.heap.size:=⟨_,rfl⟩
  have hB2:Below W.heap.size W W2:=by rw[hW2];exact(Below.refl _ _).alloc (Nat.le_refl _) _
  have sz2:W2.heap.size=g+1:=by rw[hW2,hg];simp
  have hgW:n₀+2<g:=by rw[hg];exact HI.out.box.lt
  rw[<-hg]
  have HB2:=Lib.hid hB2
  have cl:=(HI.out.below hB2).box.cell
  have e0:=(HI.out.below hB2).res.cell
  have f0:=(HI.out.below hB2).res.frozen
  have e1:=(HI.out.below hB2).err.cell
  have f1:=(HI.out.below hB2).err.frozen
  by_cases h7:ws.length=7
  · by_cases h8:8<=L.length
    · have hc7:((ws.length:Int) !=7)=false:=by simp[h7]
      have HW2:=Lib.hid hW2
      have HQ:=Lib.hid hws
      have HG:=Lib.hid hg
      clear hW2 hws hB2 hg
      gi_wp2
      exact⟨((below_keeps HB2.out).trans (KeepsOthers.setCell _ _ _)).trans (KeepsOthers.setCell _ _ _),rd_fail (HI.out.below HB2.out) hq (.inl h8)⟩
    · obtain⟨y0,y1,y2,y3,y4,y5,y6,rfl⟩:=list7 h7
      clear h7
      simp only[List.map_cons,List.map_nil] at hws
      have hyl: ∀y∈([y0,y1,y2,y3,y4,y5,y6]:List ByteArray),y.size<=100000:=fun y hy=>by
       have:=cutC_len 32 x y.data.toList (by rw[<-hws];simp only[List.mem_cons,List.not_mem_nil,or_false] at hy ⊢;rcases hy with rfl|rfl|rfl|rfl|rfl|rfl|rfl<;>simp)
       rw[size_toList] at this;omega
      have l0:y0.size<=100000:=hyl _ (by simp)
      have l1:y1.size<=100000:=hyl _ (by simp)
      have l2:y2.size<=100000:=hyl _ (by simp)
      have l3:y3.size<=100000:=hyl _ (by simp)
      have l4:y4.size<=100000:=hyl _ (by simp)
      have l5:y5.size<=100000:=hyl _ (by simp)
      have l6:y6.size<=100000:=hyl _ (by simp)
      clear hyl
      have HQ:=Lib.hid hws.symm
      clear hws
      have q0:W2.cell? ⟨g,0,none⟩=some (.string y0):=by rw[hW2,hg];simp
      have q1:W2.cell? ⟨g,1,none⟩=some (.string y1):=by rw[hW2,hg];simp
      have q2:W2.cell? ⟨g,2,none⟩=some (.string y2):=by rw[hW2,hg];simp
      have q3:W2.cell? ⟨g,3,none⟩=some (.string y3):=by rw[hW2,hg];simp
      have q4:W2.cell? ⟨g,4,none⟩=some (.string y4):=by rw[hW2,hg];simp
      have q5:W2.cell? ⟨g,5,none⟩=some (.string y5):=by rw[hW2,hg];simp
      have q6:W2.cell? ⟨g,6,none⟩=some (.string y6):=by rw[hW2,hg];simp
      have h8' :L.length<8:=by omega
      obtain⟨nb,hnb⟩: ∃nb,nb=W2.heap.size:=⟨_,rfl⟩
      obtain⟨U0,hU0⟩: ∃U,U=W2.alloc (.cells #[.int .i64 0,.int .i64 0,.int .i64 0,.int .i64 0,.int .i64 0,.int .i64 0,.int .i64 0] 223):=⟨_,rfl⟩
      have B0:Below W.heap.size W U0:=by rw[hU0];exact hB2.alloc hB2.size _
      have s0:U0.heap.size=nb+1:=by rw[hU0,hnb];simp
      have hgl:g<W2.heap.size:=by omega
      have bU:Below W2.heap.size W2 U0:=by rw[hU0];exact(Below.refl _ _).alloc (Nat.le_refl _) _
      have q0:=below_cell bU hgl q0
      have q1:=below_cell bU hgl q1
      have q2:=below_cell bU hgl q2
      have q3:=below_cell bU hgl q3
      have q4:=below_cell bU hgl q4
      have q5:=below_cell bU hgl q5
      have q6:=below_cell bU hgl q6
      have m0:U0.cell? ⟨nb,0,none⟩=some (.int .i64 0):=by rw[hU0,hnb];simp
      have m1:U0.cell? ⟨nb,1,none⟩=some (.int .i64 0):=by rw[hU0,hnb];simp
      have m2:U0.cell? ⟨nb,2,none⟩=some (.int .i64 0):=by rw[hU0,hnb];simp
      have m3:U0.cell? ⟨nb,3,none⟩=some (.int .i64 0):=by rw[hU0,hnb];simp
      have m4:U0.cell? ⟨nb,4,none⟩=some (.int .i64 0):=by rw[hU0,hnb];simp
      have m5:U0.cell? ⟨nb,5,none⟩=some (.int .i64 0):=by rw[hU0,hnb];simp
      have m6:U0.cell? ⟨nb,6,none⟩=some (.int .i64 0):=by rw[hU0,hnb];simp
      have z0:U0.frozen? ⟨nb,0,none⟩=false:=by rw[hU0,hnb];simp
      have z1:U0.frozen? ⟨nb,1,none⟩=false:=by rw[hU0,hnb];simp
      have z2:U0.frozen? ⟨nb,2,none⟩=false:=by rw[hU0,hnb];simp
      have z3:U0.frozen? ⟨nb,3,none⟩=false:=by rw[hU0,hnb];simp
      have z4:U0.frozen? ⟨nb,4,none⟩=false:=by rw[hU0,hnb];simp
      have z5:U0.frozen? ⟨nb,5,none⟩=false:=by rw[hU0,hnb];simp
      have z6:U0.frozen? ⟨nb,6,none⟩=false:=by rw[hU0,hnb];simp
      have cl:=(HI.out.below B0).box.cell
      have e0:=(HI.out.below B0).res.cell
      have f0:=(HI.out.below B0).res.frozen
      have e1:=(HI.out.below B0).err.cell
      have f1:=(HI.out.below B0).err.frozen
      have HU0:=Lib.hid hU0
      have HB0:=Lib.hid B0
      have HG:=Lib.hid hg
      have HNB:=Lib.hid hnb
      have hgn:g<nb:=by omega
      have hnU:nb<U0.heap.size:=by omega
      clear hW2 hU0 B0 hB2 hg bU hgl sz2 s0 hnb
      gi_wp2_with fail
      rw[<-HU0.out, <-HNB.out]
      have ix0:=fun w=>(arr5 w).1
      have ix1:=fun w=>(arr5 w).2.1
      have ix2:=fun w=>(arr5 w).2.2.1
      have ix3:=fun w=>(arr5 w).2.2.2.1
      have ix4:=fun w=>(arr5 w).2.2.2.2
      refine wpIn_loop_rounds 6 ?_
      rw[roundsIn_succ]
      have hv0:=HVW.out.below HB0.out
      have HA0:=Lib.hid (atoi_any y0 U0 l0 hv0)
      clear hv0
      gi_wp2_with fail
      refine⟨trivial,?_⟩
      refine(CallsIn.inRound l (callsIn_wide.2 HA0.out)).mono ?_
      rintro e V0 ⟨⟨a0,err,rfl,(⟨hn0,rfl⟩|⟨hn0,tt,pp,rfl⟩)⟩,hb⟩
      rotate_left
      · have C0:=Lib.hid (below_trans HB0.out HB0.out.size hb)
        have hbad:pieceF x=none:=by rw[pieceF_words HQ.out];simp only[hn0]
        have e0:=(HI.out.below C0.out).res.cell
        have f0:=(HI.out.below C0.out).res.frozen
        have e1:=(HI.out.below C0.out).err.cell
        have f1:=(HI.out.below C0.out).err.frozen
        clear hb hn0
        gi_wp2
        exact⟨((below_keeps C0.out).trans (KeepsOthers.setCell _ _ _)).trans (KeepsOthers.setCell _ _ _),rd_fail (HI.out.below C0.out) hq (.inr hbad)⟩
      have HN0:=Lib.hid hn0
      clear hn0
      have hgU:g<U0.heap.size:=by omega
      have hnV:nb<V0.heap.size:=Nat.lt_of_lt_of_le hnU hb.size
      have q0:=below_cell hb hgU q0
      have q1:=below_cell hb hgU q1
      have q2:=below_cell hb hgU q2
      have q3:=below_cell hb hgU q3
      have q4:=below_cell hb hgU q4
      have q5:=below_cell hb hgU q5
      have q6:=below_cell hb hgU q6
      have m0:=below_cell hb hnU m0
      have m1:=below_cell hb hnU m1
      have m2:=below_cell hb hnU m2
      have m3:=below_cell hb hnU m3
      have m4:=below_cell hb hnU m4
      have m5:=below_cell hb hnU m5
      have m6:=below_cell hb hnU m6
      have z0:=below_frozen hb hnU z0
      have z1:=below_frozen hb hnU z1
      have z2:=below_frozen hb hnU z2
      have z3:=below_frozen hb hnU z3
      have z4:=below_frozen hb hnU z4
      have z5:=below_frozen hb hnU z5
      have z6:=below_frozen hb hnU z6
      obtain⟨U1,hU1⟩: ∃U,U=V0.setCell ⟨nb,0,none⟩ (.int .i64 a0):=⟨_,rfl⟩
      have B1:Below W.heap.size W U1:=by rw[hU1];exact(below_trans HB0.out HB0.out.size hb).setCell (p:=⟨nb,0,none⟩) (by simp only;rw[<-HG.out];omega) _
      have hnN:nb<U1.heap.size:=by rw[hU1];simpa using hnV
      clear hb hgU
      have Q0:U1.cell? ⟨g,0,none⟩=some (.string y0):=by rw[hU1];exact(World.cell?_setCell_other _ _ _ _ (by simp;try omega)).trans q0
      have Q1:U1.cell? ⟨g,1,none⟩=some (.string y1):=by rw[hU1];exact(World.cell?_setCell_other _ _ _ _ (by simp;try omega)).trans q1
      have Q2:U1.cell? ⟨g,2,none⟩=some (.string y2):=by rw[hU1];exact(World.cell?_setCell_other _ _ _ _ (by simp;try omega)).trans q2
      have Q3:U1.cell? ⟨g,3,none⟩=some (.string y3):=by rw[hU1];exact(World.cell?_setCell_other _ _ _ _ (by simp;try omega)).trans q3
      have Q4:U1.cell? ⟨g,4,none⟩=some (.string y4):=by rw[hU1];exact(World.cell?_setCell_other _ _ _ _ (by simp;try omega)).trans q4
      have Q5:U1.cell? ⟨g,5,none⟩=some (.string y5):=by rw[hU1];exact(World.cell?_setCell_other _ _ _ _ (by simp;try omega)).trans q5
      have Q6:U1.cell? ⟨g,6,none⟩=some (.string y6):=by rw[hU1];exact(World.cell?_setCell_other _ _ _ _ (by simp;try omega)).trans q6
      have M0:U1.cell? ⟨nb,0,none⟩=some (.int .i64 a0):=by rw[hU1];exact World.cell?_setCell_same _ _ _ m0
      have M1:U1.cell? ⟨nb,1,none⟩=some (.int .i64 0):=by rw[hU1];exact(World.cell?_setCell_other _ _ _ _ (by simp)).trans m1
      have M2:U1.cell? ⟨nb,2,none⟩=some (.int .i64 0):=by rw[hU1];exact(World.cell?_setCell_other _ _ _ _ (by simp)).trans m2
      have M3:U1.cell? ⟨nb,3,none⟩=some (.int .i64 0):=by rw[hU1];exact(World.cell?_setCell_other _ _ _ _ (by simp)).trans m3
      have M4:U1.cell? ⟨nb,4,none⟩=some (.int .i64 0):=by rw[hU1];exact(World.cell?_setCell_other _ _ _ _ (by simp)).trans m4
      have M5:U1.cell? ⟨nb,5,none⟩=some (.int .i64 0):=by rw[hU1];exact(World.cell?_setCell_other _ _ _ _ (by simp)).trans m5
      have M6:U1.cell? ⟨nb,6,none⟩=some (.int .i64 0):=by rw[hU1];exact(World.cell?_setCell_other _ _ _ _ (by simp)).trans m6
      have Z0:U1.frozen? ⟨nb,0,none⟩=false:=by rw[hU1,World.frozen?_setCell];exact z0
      have Z1:U1.frozen? ⟨nb,1,none⟩=false:=by rw[hU1,World.frozen?_setCell];exact z1
      have Z2:U1.frozen? ⟨nb,2,none⟩=false:=by rw[hU1,World.frozen?_setCell];exact z2
      have Z3:U1.frozen? ⟨nb,3,none⟩=false:=by rw[hU1,World.frozen?_setCell];exact z3
      have Z4:U1.frozen? ⟨nb,4,none⟩=false:=by rw[hU1,World.frozen?_setCell];exact z4
      have Z5:U1.frozen? ⟨nb,5,none⟩=false:=by rw[hU1,World.frozen?_setCell];exact z5
      have Z6:U1.frozen? ⟨nb,6,none⟩=false:=by rw[hU1,World.frozen?_setCell];exact z6
      have HU1:=Lib.hid hU1
      have HB1:=Lib.hid B1
      clear hU1 B1
      clear hnU
      have hnU:=hnN
      clear hnN
      gi_wp2_with fail
      rw[<-HU1.out]
      clear q0 m0 z0 q1 m1 z1 q2 m2 z2 q3 m3 z3 q4 m4 z4 q5 m5 z5 q6 m6 z6 hnV cl e0 f0 e1 f1
      have q0:=Q0
      have m0:=M0
      have z0:=Z0
      have q1:=Q1
      have m1:=M1
      have z1:=Z1
      have q2:=Q2
      have m2:=M2
      have z2:=Z2
      have q3:=Q3
      have m3:=M3
      have z3:=Z3
      have q4:=Q4
      have m4:=M4
      have z4:=Z4
      have q5:=Q5
      have m5:=M5
      have z5:=Z5
      have q6:=Q6
      have m6:=M6
      have z6:=Z6
      clear Q0 M0 Z0 Q1 M1 Z1 Q2 M2 Z2 Q3 M3 Z3 Q4 M4 Z4 Q5 M5 Z5 Q6 M6 Z6
      have cl:=(HI.out.below HB1.out).box.cell
      have e0:=(HI.out.below HB1.out).res.cell
      have f0:=(HI.out.below HB1.out).res.frozen
      have e1:=(HI.out.below HB1.out).err.cell
      have f1:=(HI.out.below HB1.out).err.frozen
      rw[roundsIn_succ]
      have hv1:=HVW.out.below HB1.out
      have HA1:=Lib.hid (atoi_any y1 U1 l1 hv1)
      clear hv1
      gi_wp2_with fail
      refine⟨trivial,?_⟩
      refine(CallsIn.inRound l (callsIn_wide.2 HA1.out)).mono ?_
      rintro e V1 ⟨⟨a1,err,rfl,(⟨hn1,rfl⟩|⟨hn1,tt,pp,rfl⟩)⟩,hb⟩
      rotate_left
      · have C1:=Lib.hid (below_trans HB1.out HB1.out.size hb)
        have hbad:pieceF x=none:=by rw[pieceF_words HQ.out];simp only[hn1,HN0.out]
        have e0:=(HI.out.below C1.out).res.cell
        have f0:=(HI.out.below C1.out).res.frozen
        have e1:=(HI.out.below C1.out).err.cell
        have f1:=(HI.out.below C1.out).err.frozen
        clear hb hn1
        gi_wp2
        exact⟨((below_keeps C1.out).trans (KeepsOthers.setCell _ _ _)).trans (KeepsOthers.setCell _ _ _),rd_fail (HI.out.below C1.out) hq (.inr hbad)⟩
      have HN1:=Lib.hid hn1
      clear hn1
      have hgU:g<U1.heap.size:=by omega
      have hnV:nb<V1.heap.size:=Nat.lt_of_lt_of_le hnU hb.size
      have q0:=below_cell hb hgU q0
      have q1:=below_cell hb hgU q1
      have q2:=below_cell hb hgU q2
      have q3:=below_cell hb hgU q3
      have q4:=below_cell hb hgU q4
      have q5:=below_cell hb hgU q5
      have q6:=below_cell hb hgU q6
      have m0:=below_cell hb hnU m0
      have m1:=below_cell hb hnU m1
      have m2:=below_cell hb hnU m2
      have m3:=below_cell hb hnU m3
      have m4:=below_cell hb hnU m4
      have m5:=below_cell hb hnU m5
      have m6:=below_cell hb hnU m6
      have z0:=below_frozen hb hnU z0
      have z1:=below_frozen hb hnU z1
      have z2:=below_frozen hb hnU z2
      have z3:=below_frozen hb hnU z3
      have z4:=below_frozen hb hnU z4
      have z5:=below_frozen hb hnU z5
      have z6:=below_frozen hb hnU z6
      obtain⟨U2,hU2⟩: ∃U,U=V1.setCell ⟨nb,1,none⟩ (.int .i64 a1):=⟨_,rfl⟩
      have B2:Below W.heap.size W U2:=by rw[hU2];exact(below_trans HB1.out HB1.out.size hb).setCell (p:=⟨nb,1,none⟩) (by simp only;rw[<-HG.out];omega) _
      have hnN:nb<U2.heap.size:=by rw[hU2];simpa using hnV
      clear hb hgU
      have Q0:U2.cell? ⟨g,0,none⟩=some (.string y0):=by rw[hU2];exact(World.cell?_setCell_other _ _ _ _ (by simp;try omega)).trans q0
      have Q1:U2.cell? ⟨g,1,none⟩=some (.string y1):=by rw[hU2];exact(World.cell?_setCell_other _ _ _ _ (by simp;try omega)).trans q1
      have Q2:U2.cell? ⟨g,2,none⟩=some (.string y2):=by rw[hU2];exact(World.cell?_setCell_other _ _ _ _ (by simp;try omega)).trans q2
      have Q3:U2.cell? ⟨g,3,none⟩=some (.string y3):=by rw[hU2];exact(World.cell?_setCell_other _ _ _ _ (by simp;try omega)).trans q3
      have Q4:U2.cell? ⟨g,4,none⟩=some (.string y4):=by rw[hU2];exact(World.cell?_setCell_other _ _ _ _ (by simp;try omega)).trans q4
      have Q5:U2.cell? ⟨g,5,none⟩=some (.string y5):=by rw[hU2];exact(World.cell?_setCell_other _ _ _ _ (by simp;try omega)).trans q5
      have Q6:U2.cell? ⟨g,6,none⟩=some (.string y6):=by rw[hU2];exact(World.cell?_setCell_other _ _ _ _ (by simp;try omega)).trans q6
      have M0:U2.cell? ⟨nb,0,none⟩=some (.int .i64 a0):=by rw[hU2];exact(World.cell?_setCell_other _ _ _ _ (by simp)).trans m0
      have M1:U2.cell? ⟨nb,1,none⟩=some (.int .i64 a1):=by rw[hU2];exact World.cell?_setCell_same _ _ _ m1
      have M2:U2.cell? ⟨nb,2,none⟩=some (.int .i64 0):=by rw[hU2];exact(World.cell?_setCell_other _ _ _ _ (by simp)).trans m2
      have M3:U2.cell? ⟨nb,3,none⟩=some (.int .i64 0):=by rw[hU2];exact(World.cell?_setCell_other _ _ _ _ (by simp)).trans m3
      have M4:U2.cell? ⟨nb,4,none⟩=some (.int .i64 0):=by rw[hU2];exact(World.cell?_setCell_other _ _ _ _ (by simp)).trans m4
      have M5:U2.cell? ⟨nb,5,none⟩=some (.int .i64 0):=by rw[hU2];exact(World.cell?_setCell_other _ _ _ _ (by simp)).trans m5
      have M6:U2.cell? ⟨nb,6,none⟩=some (.int .i64 0):=by rw[hU2];exact(World.cell?_setCell_other _ _ _ _ (by simp)).trans m6
      have Z0:U2.frozen? ⟨nb,0,none⟩=false:=by rw[hU2,World.frozen?_setCell];exact z0
      have Z1:U2.frozen? ⟨nb,1,none⟩=false:=by rw[hU2,World.frozen?_setCell];exact z1
      have Z2:U2.frozen? ⟨nb,2,none⟩=false:=by rw[hU2,World.frozen?_setCell];exact z2
      have Z3:U2.frozen? ⟨nb,3,none⟩=false:=by rw[hU2,World.frozen?_setCell];exact z3
      have Z4:U2.frozen? ⟨nb,4,none⟩=false:=by rw[hU2,World.frozen?_setCell];exact z4
      have Z5:U2.frozen? ⟨nb,5,none⟩=false:=by rw[hU2,World.frozen?_setCell];exact z5
      have Z6:U2.frozen? ⟨nb,6,none⟩=false:=by rw[hU2,World.frozen?_setCell];exact z6
      have HU2:=Lib.hid hU2
      have HB2:=Lib.hid B2
      clear hU2 B2
      clear hnU
      have hnU:=hnN
      clear hnN
      gi_wp2_with fail
      rw[<-HU2.out]
      clear q0 m0 z0 q1 m1 z1 q2 m2 z2 q3 m3 z3 q4 m4 z4 q5 m5 z5 q6 m6 z6 hnV cl e0 f0 e1 f1
      have q0:=Q0
      have m0:=M0
      have z0:=Z0
      have q1:=Q1
      have m1:=M1
      have z1:=Z1
      have q2:=Q2
      have m2:=M2
      have z2:=Z2
      have q3:=Q3
      have m3:=M3
      have z3:=Z3
      have q4:=Q4
      have m4:=M4
      have z4:=Z4
      have q5:=Q5
      have m5:=M5
      have z5:=Z5
      have q6:=Q6
      have m6:=M6
      have z6:=Z6
      clear Q0 M0 Z0 Q1 M1 Z1 Q2 M2 Z2 Q3 M3 Z3 Q4 M4 Z4 Q5 M5 Z5 Q6 M6 Z6
      have cl:=(HI.out.below HB2.out).box.cell
      have e0:=(HI.out.below HB2.out).res.cell
      have f0:=(HI.out.below HB2.out).res.frozen
      have e1:=(HI.out.below HB2.out).err.cell
      have f1:=(HI.out.below HB2.out).err.frozen
      rw[roundsIn_succ]
      have hv2:=HVW.out.below HB2.out
      have HA2:=Lib.hid (atoi_any y3 U2 l3 hv2)
      clear hv2
      gi_wp2_with fail
      refine⟨trivial,?_⟩
      refine(CallsIn.inRound l (callsIn_wide.2 HA2.out)).mono ?_
      rintro e V2 ⟨⟨a2,err,rfl,(⟨hn2,rfl⟩|⟨hn2,tt,pp,rfl⟩)⟩,hb⟩
      rotate_left
      · have C2:=Lib.hid (below_trans HB2.out HB2.out.size hb)
        have hbad:pieceF x=none:=by rw[pieceF_words HQ.out];simp only[hn2,HN0.out,HN1.out]
        have e0:=(HI.out.below C2.out).res.cell
        have f0:=(HI.out.below C2.out).res.frozen
        have e1:=(HI.out.below C2.out).err.cell
        have f1:=(HI.out.below C2.out).err.frozen
        clear hb hn2
        gi_wp2
        exact⟨((below_keeps C2.out).trans (KeepsOthers.setCell _ _ _)).trans (KeepsOthers.setCell _ _ _),rd_fail (HI.out.below C2.out) hq (.inr hbad)⟩
      have HN2:=Lib.hid hn2
      clear hn2
      have hgU:g<U2.heap.size:=by omega
      have hnV:nb<V2.heap.size:=Nat.lt_of_lt_of_le hnU hb.size
      have q0:=below_cell hb hgU q0
      have q1:=below_cell hb hgU q1
      have q2:=below_cell hb hgU q2
      have q3:=below_cell hb hgU q3
      have q4:=below_cell hb hgU q4
      have q5:=below_cell hb hgU q5
      have q6:=below_cell hb hgU q6
      have m0:=below_cell hb hnU m0
      have m1:=below_cell hb hnU m1
      have m2:=below_cell hb hnU m2
      have m3:=below_cell hb hnU m3
      have m4:=below_cell hb hnU m4
      have m5:=below_cell hb hnU m5
      have m6:=below_cell hb hnU m6
      have z0:=below_frozen hb hnU z0
      have z1:=below_frozen hb hnU z1
      have z2:=below_frozen hb hnU z2
      have z3:=below_frozen hb hnU z3
      have z4:=below_frozen hb hnU z4
      have z5:=below_frozen hb hnU z5
      have z6:=below_frozen hb hnU z6
      obtain⟨U3,hU3⟩: ∃U,U=V2.setCell ⟨nb,3,none⟩ (.int .i64 a2):=⟨_,rfl⟩
      have B3:Below W.heap.size W U3:=by rw[hU3];exact(below_trans HB2.out HB2.out.size hb).setCell (p:=⟨nb,3,none⟩) (by simp only;rw[<-HG.out];omega) _
      have hnN:nb<U3.heap.size:=by rw[hU3];simpa using hnV
      clear hb hgU
      have Q0:U3.cell? ⟨g,0,none⟩=some (.string y0):=by rw[hU3];exact(World.cell?_setCell_other _ _ _ _ (by simp;try omega)).trans q0
      have Q1:U3.cell? ⟨g,1,none⟩=some (.string y1):=by rw[hU3];exact(World.cell?_setCell_other _ _ _ _ (by simp;try omega)).trans q1
      have Q2:U3.cell? ⟨g,2,none⟩=some (.string y2):=by rw[hU3];exact(World.cell?_setCell_other _ _ _ _ (by simp;try omega)).trans q2
      have Q3:U3.cell? ⟨g,3,none⟩=some (.string y3):=by rw[hU3];exact(World.cell?_setCell_other _ _ _ _ (by simp;try omega)).trans q3
      have Q4:U3.cell? ⟨g,4,none⟩=some (.string y4):=by rw[hU3];exact(World.cell?_setCell_other _ _ _ _ (by simp;try omega)).trans q4
      have Q5:U3.cell? ⟨g,5,none⟩=some (.string y5):=by rw[hU3];exact(World.cell?_setCell_other _ _ _ _ (by simp;try omega)).trans q5
      have Q6:U3.cell? ⟨g,6,none⟩=some (.string y6):=by rw[hU3];exact(World.cell?_setCell_other _ _ _ _ (by simp;try omega)).trans q6
      have M0:U3.cell? ⟨nb,0,none⟩=some (.int .i64 a0):=by rw[hU3];exact(World.cell?_setCell_other _ _ _ _ (by simp)).trans m0
      have M1:U3.cell? ⟨nb,1,none⟩=some (.int .i64 a1):=by rw[hU3];exact(World.cell?_setCell_other _ _ _ _ (by simp)).trans m1
      have M2:U3.cell? ⟨nb,2,none⟩=some (.int .i64 0):=by rw[hU3];exact(World.cell?_setCell_other _ _ _ _ (by simp)).trans m2
      have M3:U3.cell? ⟨nb,3,none⟩=some (.int .i64 a2):=by rw[hU3];exact World.cell?_setCell_same _ _ _ m3
      have M4:U3.cell? ⟨nb,4,none⟩=some (.int .i64 0):=by rw[hU3];exact(World.cell?_setCell_other _ _ _ _ (by simp)).trans m4
      have M5:U3.cell? ⟨nb,5,none⟩=some (.int .i64 0):=by rw[hU3];exact(World.cell?_setCell_other _ _ _ _ (by simp)).trans m5
      have M6:U3.cell? ⟨nb,6,none⟩=some (.int .i64 0):=by rw[hU3];exact(World.cell?_setCell_other _ _ _ _ (by simp)).trans m6
      have Z0:U3.frozen? ⟨nb,0,none⟩=false:=by rw[hU3,World.frozen?_setCell];exact z0
      have Z1:U3.frozen? ⟨nb,1,none⟩=false:=by rw[hU3,World.frozen?_setCell];exact z1
      have Z2:U3.frozen? ⟨nb,2,none⟩=false:=by rw[hU3,World.frozen?_setCell];exact z2
      have Z3:U3.frozen? ⟨nb,3,none⟩=false:=by rw[hU3,World.frozen?_setCell];exact z3
      have Z4:U3.frozen? ⟨nb,4,none⟩=false:=by rw[hU3,World.frozen?_setCell];exact z4
      have Z5:U3.frozen? ⟨nb,5,none⟩=false:=by rw[hU3,World.frozen?_setCell];exact z5
      have Z6:U3.frozen? ⟨nb,6,none⟩=false:=by rw[hU3,World.frozen?_setCell];exact z6
      have HU3:=Lib.hid hU3
      have HB3:=Lib.hid B3
      clear hU3 B3
      clear hnU
      have hnU:=hnN
      clear hnN
      gi_wp2_with fail
      rw[<-HU3.out]
      clear q0 m0 z0 q1 m1 z1 q2 m2 z2 q3 m3 z3 q4 m4 z4 q5 m5 z5 q6 m6 z6 hnV cl e0 f0 e1 f1
      have q0:=Q0
      have m0:=M0
      have z0:=Z0
      have q1:=Q1
      have m1:=M1
      have z1:=Z1
      have q2:=Q2
      have m2:=M2
      have z2:=Z2
      have q3:=Q3
      have m3:=M3
      have z3:=Z3
      have q4:=Q4
      have m4:=M4
      have z4:=Z4
      have q5:=Q5
      have m5:=M5
      have z5:=Z5
      have q6:=Q6
      have m6:=M6
      have z6:=Z6
      clear Q0 M0 Z0 Q1 M1 Z1 Q2 M2 Z2 Q3 M3 Z3 Q4 M4 Z4 Q5 M5 Z5 Q6 M6 Z6
      have cl:=(HI.out.below HB3.out).box.cell
      have e0:=(HI.out.below HB3.out).res.cell
      have f0:=(HI.out.below HB3.out).res.frozen
      have e1:=(HI.out.below HB3.out).err.cell
      have f1:=(HI.out.below HB3.out).err.frozen
      rw[roundsIn_succ]
      have hv3:=HVW.out.below HB3.out
      have HA3:=Lib.hid (atoi_any y4 U3 l4 hv3)
      clear hv3
      gi_wp2_with fail
      refine⟨trivial,?_⟩
      refine(CallsIn.inRound l (callsIn_wide.2 HA3.out)).mono ?_
      rintro e V3 ⟨⟨a3,err,rfl,(⟨hn3,rfl⟩|⟨hn3,tt,pp,rfl⟩)⟩,hb⟩
      rotate_left
      · have C3:=Lib.hid (below_trans HB3.out HB3.out.size hb)
        have hbad:pieceF x=none:=by rw[pieceF_words HQ.out];simp only[hn3,HN0.out,HN1.out,HN2.out]
        have e0:=(HI.out.below C3.out).res.cell
        have f0:=(HI.out.below C3.out).res.frozen
        have e1:=(HI.out.below C3.out).err.cell
        have f1:=(HI.out.below C3.out).err.frozen
        clear hb hn3
        gi_wp2
        exact⟨((below_keeps C3.out).trans (KeepsOthers.setCell _ _ _)).trans (KeepsOthers.setCell _ _ _),rd_fail (HI.out.below C3.out) hq (.inr hbad)⟩
      have HN3:=Lib.hid hn3
      clear hn3
      have hgU:g<U3.heap.size:=by omega
      have hnV:nb<V3.heap.size:=Nat.lt_of_lt_of_le hnU hb.size
      have q0:=below_cell hb hgU q0
      have q1:=below_cell hb hgU q1
      have q2:=below_cell hb hgU q2
      have q3:=below_cell hb hgU q3
      have q4:=below_cell hb hgU q4
      have q5:=below_cell hb hgU q5
      have q6:=below_cell hb hgU q6
      have m0:=below_cell hb hnU m0
      have m1:=below_cell hb hnU m1
      have m2:=below_cell hb hnU m2
      have m3:=below_cell hb hnU m3
      have m4:=below_cell hb hnU m4
      have m5:=below_cell hb hnU m5
      have m6:=below_cell hb hnU m6
      have z0:=below_frozen hb hnU z0
      have z1:=below_frozen hb hnU z1
      have z2:=below_frozen hb hnU z2
      have z3:=below_frozen hb hnU z3
      have z4:=below_frozen hb hnU z4
      have z5:=below_frozen hb hnU z5
      have z6:=below_frozen hb hnU z6
      obtain⟨U4,hU4⟩: ∃U,U=V3.setCell ⟨nb,4,none⟩ (.int .i64 a3):=⟨_,rfl⟩
      have B4:Below W.heap.size W U4:=by rw[hU4];exact(below_trans HB3.out HB3.out.size hb).setCell (p:=⟨nb,4,none⟩) (by simp only;rw[<-HG.out];omega) _
      have hnN:nb<U4.heap.size:=by rw[hU4];simpa using hnV
      clear hb hgU
      have Q0:U4.cell? ⟨g,0,none⟩=some (.string y0):=by rw[hU4];exact(World.cell?_setCell_other _ _ _ _ (by simp;try omega)).trans q0
      have Q1:U4.cell? ⟨g,1,none⟩=some (.string y1):=by rw[hU4];exact(World.cell?_setCell_other _ _ _ _ (by simp;try omega)).trans q1
      have Q2:U4.cell? ⟨g,2,none⟩=some (.string y2):=by rw[hU4];exact(World.cell?_setCell_other _ _ _ _ (by simp;try omega)).trans q2
      have Q3:U4.cell? ⟨g,3,none⟩=some (.string y3):=by rw[hU4];exact(World.cell?_setCell_other _ _ _ _ (by simp;try omega)).trans q3
      have Q4:U4.cell? ⟨g,4,none⟩=some (.string y4):=by rw[hU4];exact(World.cell?_setCell_other _ _ _ _ (by simp;try omega)).trans q4
      have Q5:U4.cell? ⟨g,5,none⟩=some (.string y5):=by rw[hU4];exact(World.cell?_setCell_other _ _ _ _ (by simp;try omega)).trans q5
      have Q6:U4.cell? ⟨g,6,none⟩=some (.string y6):=by rw[hU4];exact(World.cell?_setCell_other _ _ _ _ (by simp;try omega)).trans q6
      have M0:U4.cell? ⟨nb,0,none⟩=some (.int .i64 a0):=by rw[hU4];exact(World.cell?_setCell_other _ _ _ _ (by simp)).trans m0
      have M1:U4.cell? ⟨nb,1,none⟩=some (.int .i64 a1):=by rw[hU4];exact(World.cell?_setCell_other _ _ _ _ (by simp)).trans m1
      have M2:U4.cell? ⟨nb,2,none⟩=some (.int .i64 0):=by rw[hU4];exact(World.cell?_setCell_other _ _ _ _ (by simp)).trans m2
      have M3:U4.cell? ⟨nb,3,none⟩=some (.int .i64 a2):=by rw[hU4];exact(World.cell?_setCell_other _ _ _ _ (by simp)).trans m3
      have M4:U4.cell? ⟨nb,4,none⟩=some (.int .i64 a3):=by rw[hU4];exact World.cell?_setCell_same _ _ _ m4
      have M5:U4.cell? ⟨nb,5,none⟩=some (.int .i64 0):=by rw[hU4];exact(World.cell?_setCell_other _ _ _ _ (by simp)).trans m5
      have M6:U4.cell? ⟨nb,6,none⟩=some (.int .i64 0):=by rw[hU4];exact(World.cell?_setCell_other _ _ _ _ (by simp)).trans m6
      have Z0:U4.frozen? ⟨nb,0,none⟩=false:=by rw[hU4,World.frozen?_setCell];exact z0
      have Z1:U4.frozen? ⟨nb,1,none⟩=false:=by rw[hU4,World.frozen?_setCell];exact z1
      have Z2:U4.frozen? ⟨nb,2,none⟩=false:=by rw[hU4,World.frozen?_setCell];exact z2
      have Z3:U4.frozen? ⟨nb,3,none⟩=false:=by rw[hU4,World.frozen?_setCell];exact z3
      have Z4:U4.frozen? ⟨nb,4,none⟩=false:=by rw[hU4,World.frozen?_setCell];exact z4
      have Z5:U4.frozen? ⟨nb,5,none⟩=false:=by rw[hU4,World.frozen?_setCell];exact z5
      have Z6:U4.frozen? ⟨nb,6,none⟩=false:=by rw[hU4,World.frozen?_setCell];exact z6
      have HU4:=Lib.hid hU4
      have HB4:=Lib.hid B4
      clear hU4 B4
      clear hnU
      have hnU:=hnN
      clear hnN
      gi_wp2_with fail
      rw[<-HU4.out]
      clear q0 m0 z0 q1 m1 z1 q2 m2 z2 q3 m3 z3 q4 m4 z4 q5 m5 z5 q6 m6 z6 hnV cl e0 f0 e1 f1
      have q0:=Q0
      have m0:=M0
      have z0:=Z0
      have q1:=Q1
      have m1:=M1
      have z1:=Z1
      have q2:=Q2
      have m2:=M2
      have z2:=Z2
      have q3:=Q3
      have m3:=M3
      have z3:=Z3
      have q4:=Q4
      have m4:=M4
      have z4:=Z4
      have q5:=Q5
      have m5:=M5
      have z5:=Z5
      have q6:=Q6
      have m6:=M6
      have z6:=Z6
      clear Q0 M0 Z0 Q1 M1 Z1 Q2 M2 Z2 Q3 M3 Z3 Q4 M4 Z4 Q5 M5 Z5 Q6 M6 Z6
      have cl:=(HI.out.below HB4.out).box.cell
      have e0:=(HI.out.below HB4.out).res.cell
      have f0:=(HI.out.below HB4.out).res.frozen
      have e1:=(HI.out.below HB4.out).err.cell
      have f1:=(HI.out.below HB4.out).err.frozen
      rw[roundsIn_succ]
      have hv4:=HVW.out.below HB4.out
      have HA4:=Lib.hid (atoi_any y5 U4 l5 hv4)
      clear hv4
      gi_wp2_with fail
      refine⟨trivial,?_⟩
      refine(CallsIn.inRound l (callsIn_wide.2 HA4.out)).mono ?_
      rintro e V4 ⟨⟨a4,err,rfl,(⟨hn4,rfl⟩|⟨hn4,tt,pp,rfl⟩)⟩,hb⟩
      rotate_left
      · have C4:=Lib.hid (below_trans HB4.out HB4.out.size hb)
        have hbad:pieceF x=none:=by rw[pieceF_words HQ.out];simp only[hn4,HN0.out,HN1.out,HN2.out,HN3.out]
        have e0:=(HI.out.below C4.out).res.cell
        have f0:=(HI.out.below C4.out).res.frozen
        have e1:=(HI.out.below C4.out).err.cell
        have f1:=(HI.out.below C4.out).err.frozen
        clear hb hn4
        gi_wp2
        exact⟨((below_keeps C4.out).trans (KeepsOthers.setCell _ _ _)).trans (KeepsOthers.setCell _ _ _),rd_fail (HI.out.below C4.out) hq (.inr hbad)⟩
      have HN4:=Lib.hid hn4
      clear hn4
      have hgU:g<U4.heap.size:=by omega
      have hnV:nb<V4.heap.size:=Nat.lt_of_lt_of_le hnU hb.size
      have q0:=below_cell hb hgU q0
      have q1:=below_cell hb hgU q1
      have q2:=below_cell hb hgU q2
      have q3:=below_cell hb hgU q3
      have q4:=below_cell hb hgU q4
      have q5:=below_cell hb hgU q5
      have q6:=below_cell hb hgU q6
      have m0:=below_cell hb hnU m0
      have m1:=below_cell hb hnU m1
      have m2:=below_cell hb hnU m2
      have m3:=below_cell hb hnU m3
      have m4:=below_cell hb hnU m4
      have m5:=below_cell hb hnU m5
      have m6:=below_cell hb hnU m6
      have z0:=below_frozen hb hnU z0
      have z1:=below_frozen hb hnU z1
      have z2:=below_frozen hb hnU z2
      have z3:=below_frozen hb hnU z3
      have z4:=below_frozen hb hnU z4
      have z5:=below_frozen hb hnU z5
      have z6:=below_frozen hb hnU z6
      obtain⟨U5,hU5⟩: ∃U,U=V4.setCell ⟨nb,5,none⟩ (.int .i64 a4):=⟨_,rfl⟩
      have B5:Below W.heap.size W U5:=by rw[hU5];exact(below_trans HB4.out HB4.out.size hb).setCell (p:=⟨nb,5,none⟩) (by simp only;rw[<-HG.out];omega) _
      have hnN:nb<U5.heap.size:=by rw[hU5];simpa using hnV
      clear hb hgU
      have Q0:U5.cell? ⟨g,0,none⟩=some (.string y0):=by rw[hU5];exact(World.cell?_setCell_other _ _ _ _ (by simp;try omega)).trans q0
      have Q1:U5.cell? ⟨g,1,none⟩=some (.string y1):=by rw[hU5];exact(World.cell?_setCell_other _ _ _ _ (by simp;try omega)).trans q1
      have Q2:U5.cell? ⟨g,2,none⟩=some (.string y2):=by rw[hU5];exact(World.cell?_setCell_other _ _ _ _ (by simp;try omega)).trans q2
      have Q3:U5.cell? ⟨g,3,none⟩=some (.string y3):=by rw[hU5];exact(World.cell?_setCell_other _ _ _ _ (by simp;try omega)).trans q3
      have Q4:U5.cell? ⟨g,4,none⟩=some (.string y4):=by rw[hU5];exact(World.cell?_setCell_other _ _ _ _ (by simp;try omega)).trans q4
      have Q5:U5.cell? ⟨g,5,none⟩=some (.string y5):=by rw[hU5];exact(World.cell?_setCell_other _ _ _ _ (by simp;try omega)).trans q5
      have Q6:U5.cell? ⟨g,6,none⟩=some (.string y6):=by rw[hU5];exact(World.cell?_setCell_other _ _ _ _ (by simp;try omega)).trans q6
      have M0:U5.cell? ⟨nb,0,none⟩=some (.int .i64 a0):=by rw[hU5];exact(World.cell?_setCell_other _ _ _ _ (by simp)).trans m0
      have M1:U5.cell? ⟨nb,1,none⟩=some (.int .i64 a1):=by rw[hU5];exact(World.cell?_setCell_other _ _ _ _ (by simp)).trans m1
      have M2:U5.cell? ⟨nb,2,none⟩=some (.int .i64 0):=by rw[hU5];exact(World.cell?_setCell_other _ _ _ _ (by simp)).trans m2
      have M3:U5.cell? ⟨nb,3,none⟩=some (.int .i64 a2):=by rw[hU5];exact(World.cell?_setCell_other _ _ _ _ (by simp)).trans m3
      have M4:U5.cell? ⟨nb,4,none⟩=some (.int .i64 a3):=by rw[hU5];exact(World.cell?_setCell_other _ _ _ _ (by simp)).trans m4
      have M5:U5.cell? ⟨nb,5,none⟩=some (.int .i64 a4):=by rw[hU5];exact World.cell?_setCell_same _ _ _ m5
      have M6:U5.cell? ⟨nb,6,none⟩=some (.int .i64 0):=by rw[hU5];exact(World.cell?_setCell_other _ _ _ _ (by simp)).trans m6
      have Z0:U5.frozen? ⟨nb,0,none⟩=false:=by rw[hU5,World.frozen?_setCell];exact z0
      have Z1:U5.frozen? ⟨nb,1,none⟩=false:=by rw[hU5,World.frozen?_setCell];exact z1
      have Z2:U5.frozen? ⟨nb,2,none⟩=false:=by rw[hU5,World.frozen?_setCell];exact z2
      have Z3:U5.frozen? ⟨nb,3,none⟩=false:=by rw[hU5,World.frozen?_setCell];exact z3
      have Z4:U5.frozen? ⟨nb,4,none⟩=false:=by rw[hU5,World.frozen?_setCell];exact z4
      have Z5:U5.frozen? ⟨nb,5,none⟩=false:=by rw[hU5,World.frozen?_setCell];exact z5
      have Z6:U5.frozen? ⟨nb,6,none⟩=false:=by rw[hU5,World.frozen?_setCell];exact z6
      have HU5:=Lib.hid hU5
      have HB5:=Lib.hid B5
      clear hU5 B5
      clear hnU
      have hnU:=hnN
      clear hnN
      gi_wp2_with fail
      rw[<-HU5.out]
      clear q0 m0 z0 q1 m1 z1 q2 m2 z2 q3 m3 z3 q4 m4 z4 q5 m5 z5 q6 m6 z6 hnV cl e0 f0 e1 f1
      have q0:=Q0
      have m0:=M0
      have z0:=Z0
      have q1:=Q1
      have m1:=M1
      have z1:=Z1
      have q2:=Q2
      have m2:=M2
      have z2:=Z2
      have q3:=Q3
      have m3:=M3
      have z3:=Z3
      have q4:=Q4
      have m4:=M4
      have z4:=Z4
      have q5:=Q5
      have m5:=M5
      have z5:=Z5
      have q6:=Q6
      have m6:=M6
      have z6:=Z6
      clear Q0 M0 Z0 Q1 M1 Z1 Q2 M2 Z2 Q3 M3 Z3 Q4 M4 Z4 Q5 M5 Z5 Q6 M6 Z6
      have cl:=(HI.out.below HB5.out).box.cell
      have e0:=(HI.out.below HB5.out).res.cell
      have f0:=(HI.out.below HB5.out).res.frozen
      have e1:=(HI.out.below HB5.out).err.cell
      have f1:=(HI.out.below HB5.out).err.frozen
      rw[roundsIn_succ]
      have hgU:g<U5.heap.size:=by omega
      have hlU:n₀+2<U5.heap.size:=by omega
      have h0U:n₀<=U5.heap.size:=by omega
      have hpc:pieceF x=some ⟨⟨a0,a1,undash y2.data.toList,a2⟩,a3,a4,undash y6.data.toList⟩:=by rw[pieceF_words HQ.out];simp only[HN0.out,HN1.out,HN2.out,HN3.out,HN4.out]
      have HP:=Lib.hid hpc
      clear hpc
      by_cases d2:y2.data.toList= [45]
      · by_cases d6:y6.data.toList= [45]
        · skip
          have hp2:pieceF x=some ⟨⟨a0,a1,⟨#[]⟩,a2⟩,a3,a4,⟨#[]⟩⟩:=by rw[HP.out,undash_yes d2,undash_yes d6]
          have HP2:=Lib.hid hp2
          have hIO:RdI w n₀ pre L (.slice ao L.length cap) (U5.alloc (.cells #[.int .i64 a0,.int .i64 a1,.string ⟨#[]⟩,.int .i64 a2,.int .i64 a3,.int .i64 a4,.string ⟨#[]⟩] 148)):=HI.out.below (HB5.out.alloc HB5.out.size _)
          have HIO:=Lib.hid hIO
          have t2:(!y2.toList== [45])=false:=by rw[ByteArray.toList_eq];simp[d2]
          have t6:(!y6.toList== [45])=false:=by rw[ByteArray.toList_eq];simp[d6]
          clear hp2 hIO d2 d6
          gi_wp2_with (gi_at_builtin;refine wpListIn_append_own _ rfl _ _ 83 rfl n₀ 148 i0 (.agg #[.int .i64 0,.int .i64 0,.string ⟨#[]⟩,.int .i64 0,.int .i64 0,.int .i64 0,.string ⟨#[]⟩]) 7 72 Tryz.underlying83 hi0 hz0 hz1 hz2 rfl (by decide) _ _ _ rfl (HIO.out.own.alloc _) ⟨U5.heap.size+1,0,none⟩ 1 1 [.int .i64 a0,.int .i64 a1,.string ⟨#[]⟩,.int .i64 a2,.int .i64 a3,.int .i64 a4,.string ⟨#[]⟩] rfl rfl (row_newP _ _ _ _) (by simp[Value.oneCell']) (by unfold maxLen;omega) (by omega) (by simp;omega) ?_;intro v' w6 hown' hgrow _;obtain⟨g',cap',rfl⟩:=ownsRow_succ hown';obtain⟨⟨hc1,hf1⟩,hk2,hkb,hI2⟩:=rd_append (o:=⟨⟨a0,a1,⟨#[]⟩,a2⟩,a3,a4,⟨#[]⟩⟩) HIO.out hown' hgrow h8' HP2.out ⟨Nat.zero_le _,Nat.zero_le _⟩;have HK2:=Lib.hid hk2;have HKB:=Lib.hid hkb;have HI2:=Lib.hid hI2;clear hown' hgrow hk2 hkb hI2)
          have BO:=HB5.out.alloc HB5.out.size (.cells #[.int .i64 a0,.int .i64 a1,.string ⟨#[]⟩,.int .i64 a2,.int .i64 a3,.int .i64 a4,.string ⟨#[]⟩] 148)
          exact⟨(below_keeps BO).trans HK2.out,KeepB.trans (fun k h1 h2=>BO.block k (by rw[<-HG.out];have:=HI.out.it2.lt;rw[<-HG.out] at this;omega)) HKB.out,_,_,HI2.out⟩
        · skip
          have hp2:pieceF x=some ⟨⟨a0,a1,⟨#[]⟩,a2⟩,a3,a4,y6⟩:=by rw[HP.out,undash_yes d2,undash_no d6]
          have HP2:=Lib.hid hp2
          have hIO:RdI w n₀ pre L (.slice ao L.length cap) (U5.alloc (.cells #[.int .i64 a0,.int .i64 a1,.string ⟨#[]⟩,.int .i64 a2,.int .i64 a3,.int .i64 a4,.string y6] 148)):=HI.out.below (HB5.out.alloc HB5.out.size _)
          have HIO:=Lib.hid hIO
          have t2:(!y2.toList== [45])=false:=by rw[ByteArray.toList_eq];simp[d2]
          have t6:(!y6.toList== [45])=true:=by rw[ByteArray.toList_eq];simp[d6]
          clear hp2 hIO d2 d6
          gi_wp2_with (gi_at_builtin;refine wpListIn_append_own _ rfl _ _ 83 rfl n₀ 148 i0 (.agg #[.int .i64 0,.int .i64 0,.string ⟨#[]⟩,.int .i64 0,.int .i64 0,.int .i64 0,.string ⟨#[]⟩]) 7 72 Tryz.underlying83 hi0 hz0 hz1 hz2 rfl (by decide) _ _ _ rfl (HIO.out.own.alloc _) ⟨U5.heap.size+1,0,none⟩ 1 1 [.int .i64 a0,.int .i64 a1,.string ⟨#[]⟩,.int .i64 a2,.int .i64 a3,.int .i64 a4,.string y6] rfl rfl (row_newP _ _ _ _) (by simp[Value.oneCell']) (by unfold maxLen;omega) (by omega) (by simp;omega) ?_;intro v' w6 hown' hgrow _;obtain⟨g',cap',rfl⟩:=ownsRow_succ hown';obtain⟨⟨hc1,hf1⟩,hk2,hkb,hI2⟩:=rd_append (o:=⟨⟨a0,a1,⟨#[]⟩,a2⟩,a3,a4,y6⟩) HIO.out hown' hgrow h8' HP2.out ⟨Nat.zero_le _,l6⟩;have HK2:=Lib.hid hk2;have HKB:=Lib.hid hkb;have HI2:=Lib.hid hI2;clear hown' hgrow hk2 hkb hI2)
          have BO:=HB5.out.alloc HB5.out.size (.cells #[.int .i64 a0,.int .i64 a1,.string ⟨#[]⟩,.int .i64 a2,.int .i64 a3,.int .i64 a4,.string y6] 148)
          exact⟨(below_keeps BO).trans HK2.out,KeepB.trans (fun k h1 h2=>BO.block k (by rw[<-HG.out];have:=HI.out.it2.lt;rw[<-HG.out] at this;omega)) HKB.out,_,_,HI2.out⟩
      · by_cases d6:y6.data.toList= [45]
        · skip
          have hp2:pieceF x=some ⟨⟨a0,a1,y2,a2⟩,a3,a4,⟨#[]⟩⟩:=by rw[HP.out,undash_no d2,undash_yes d6]
          have HP2:=Lib.hid hp2
          have hIO:RdI w n₀ pre L (.slice ao L.length cap) (U5.alloc (.cells #[.int .i64 a0,.int .i64 a1,.string y2,.int .i64 a2,.int .i64 a3,.int .i64 a4,.string ⟨#[]⟩] 148)):=HI.out.below (HB5.out.alloc HB5.out.size _)
          have HIO:=Lib.hid hIO
          have t2:(!y2.toList== [45])=true:=by rw[ByteArray.toList_eq];simp[d2]
          have t6:(!y6.toList== [45])=false:=by rw[ByteArray.toList_eq];simp[d6]
          clear hp2 hIO d2 d6
          gi_wp2_with (gi_at_builtin;refine wpListIn_append_own _ rfl _ _ 83 rfl n₀ 148 i0 (.agg #[.int .i64 0,.int .i64 0,.string ⟨#[]⟩,.int .i64 0,.int .i64 0,.int .i64 0,.string ⟨#[]⟩]) 7 72 Tryz.underlying83 hi0 hz0 hz1 hz2 rfl (by decide) _ _ _ rfl (HIO.out.own.alloc _) ⟨U5.heap.size+1,0,none⟩ 1 1 [.int .i64 a0,.int .i64 a1,.string y2,.int .i64 a2,.int .i64 a3,.int .i64 a4,.string ⟨#[]⟩] rfl rfl (row_newP _ _ _ _) (by simp[Value.oneCell']) (by unfold maxLen;omega) (by omega) (by simp;omega) ?_;intro v' w6 hown' hgrow _;obtain⟨g',cap',rfl⟩:=ownsRow_succ hown';obtain⟨⟨hc1,hf1⟩,hk2,hkb,hI2⟩:=rd_append (o:=⟨⟨a0,a1,y2,a2⟩,a3,a4,⟨#[]⟩⟩) HIO.out hown' hgrow h8' HP2.out ⟨l2,Nat.zero_le _⟩;have HK2:=Lib.hid hk2;have HKB:=Lib.hid hkb;have HI2:=Lib.hid hI2;clear hown' hgrow hk2 hkb hI2)
          have BO:=HB5.out.alloc HB5.out.size (.cells #[.int .i64 a0,.int .i64 a1,.string y2,.int .i64 a2,.int .i64 a3,.int .i64 a4,.string ⟨#[]⟩] 148)
          exact⟨(below_keeps BO).trans HK2.out,KeepB.trans (fun k h1 h2=>BO.block k (by rw[<-HG.out];have:=HI.out.it2.lt;rw[<-HG.out] at this;omega)) HKB.out,_,_,HI2.out⟩
        · skip
          have hp2:pieceF x=some ⟨⟨a0,a1,y2,a2⟩,a3,a4,y6⟩:=by rw[HP.out,undash_no d2,undash_no d6]
          have HP2:=Lib.hid hp2
          have hIO:RdI w n₀ pre L (.slice ao L.length cap) (U5.alloc (.cells #[.int .i64 a0,.int .i64 a1,.string y2,.int .i64 a2,.int .i64 a3,.int .i64 a4,.string y6] 148)):=HI.out.below (HB5.out.alloc HB5.out.size _)
          have HIO:=Lib.hid hIO
          have t2:(!y2.toList== [45])=true:=by rw[ByteArray.toList_eq];simp[d2]
          have t6:(!y6.toList== [45])=true:=by rw[ByteArray.toList_eq];simp[d6]
          clear hp2 hIO d2 d6
          gi_wp2_with (gi_at_builtin;refine wpListIn_append_own _ rfl _ _ 83 rfl n₀ 148 i0 (.agg #[.int .i64 0,.int .i64 0,.string ⟨#[]⟩,.int .i64 0,.int .i64 0,.int .i64 0,.string ⟨#[]⟩]) 7 72 Tryz.underlying83 hi0 hz0 hz1 hz2 rfl (by decide) _ _ _ rfl (HIO.out.own.alloc _) ⟨U5.heap.size+1,0,none⟩ 1 1 [.int .i64 a0,.int .i64 a1,.string y2,.int .i64 a2,.int .i64 a3,.int .i64 a4,.string y6] rfl rfl (row_newP _ _ _ _) (by simp[Value.oneCell']) (by unfold maxLen;omega) (by omega) (by simp;omega) ?_;intro v' w6 hown' hgrow _;obtain⟨g',cap',rfl⟩:=ownsRow_succ hown';obtain⟨⟨hc1,hf1⟩,hk2,hkb,hI2⟩:=rd_append (o:=⟨⟨a0,a1,y2,a2⟩,a3,a4,y6⟩) HIO.out hown' hgrow h8' HP2.out ⟨l2,l6⟩;have HK2:=Lib.hid hk2;have HKB:=Lib.hid hkb;have HI2:=Lib.hid hI2;clear hown' hgrow hk2 hkb hI2)
          have BO:=HB5.out.alloc HB5.out.size (.cells #[.int .i64 a0,.int .i64 a1,.string y2,.int .i64 a2,.int .i64 a3,.int .i64 a4,.string y6] 148)
          exact⟨(below_keeps BO).trans HK2.out,KeepB.trans (fun k h1 h2=>BO.block k (by rw[<-HG.out];have:=HI.out.it2.lt;rw[<-HG.out] at this;omega)) HKB.out,_,_,HI2.out⟩
  · have hc7:((ws.length:Int) !=7)=true:=by simp;omega
    have hbad:pieceF x=none:=pieceF_none (by rw[<-hws,List.length_map];exact h7)
    have HW2:=Lib.hid hW2
    have HQ:=Lib.hid hws
    have HG:=Lib.hid hg
    clear hW2 hws hB2 hg
    gi_wp2
    exact⟨((below_keeps HB2.out).trans (KeepsOthers.setCell _ _ _)).trans (KeepsOthers.setCell _ _ _),rd_fail (HI.out.below HB2.out) hq (.inr hbad)⟩
 case done=>
  rintro D W hD ⟨L,v,hI⟩ hK
  have hI' :=hI
  obtain⟨h1,h2,h3,⟨x4,h4⟩,h5,h6,h7,h8,h9,h10⟩:=hI
  have hrd:=Lib.hid (readF_some h9)
  obtain⟨ao,cap,rfl,hops⟩:=ownsRow_ops h7
  have hbW:Below w.heap.size w W:=by rw[<-HN.out];exact h8
  have hF:=fwrite_any ao cap L W hops (by
   have:=piecesF_le [] (cutC 43 s.data.toList) h9 (by simp)
   unfold maxLen;omega) h10 (HT.out.below hbW)
  have HF:=Lib.hid hF
  have c2:W.cell? ⟨n₀+1+1,0,none⟩=some (.slice ao L.length cap):=h3.cell
  have HI:=Lib.hid hI'
  have HK:=Lib.hid hK
  have HO:=Lib.hid hops
  clear hF hI' hK hops h1 h2 h4 h5 h6 h7 h8 h9 hbW
  gi_wp2_with fail
  refine⟨trivial,?_⟩
  refine(callsIn_wide.2 HF.out).mono ?_
  rintro e W2 ⟨⟨v,rfl,_,hn⟩,hb⟩
  have HI2:=Lib.hid (HI.out.below hb)
  have HK2:=Lib.hid ((hb.block D (Array.getElem?_eq_some_iff.1 HK.out).1).trans HK.out)
  have HO2:=Lib.hid (HO.out.below hb)
  have e2:W2.cell? ⟨n₀+1+1,0,none⟩=some (.slice ao L.length cap):=HI2.out.box.cell
  have e0:=HI2.out.res.cell
  have f0:=HI2.out.res.frozen
  have e1:=HI2.out.err.cell
  have f1:=HI2.out.err.frozen
  clear hb
  cases hok:lenB L && L.all opB
  · have HOK:Hid (okT L s.data.toList=false):=Lib.hid (by unfold okT;rw[<-Bool.and_assoc,hok];rfl)
    have hne:(writeR L).2.1≠0:=by
     unfold writeR
     cases h1:lenB L
     · show(4:Int)≠0;decide
     · rw[h1,Bool.true_and] at hok;rw[hok];show(1:Int)≠0;decide
    rcases hn with ⟨rfl,h0⟩|⟨⟨tt,pp,rfl⟩,_⟩
    · exact absurd h0 hne
    clear hne hok
    gi_wp2
    have hb3:Boxed ((W2.setCell ⟨n₀,0,none⟩ (.slice none 0 0)).setCell ⟨n₀+1,0,none⟩ (.iface 56 (.int .i64 3))) n₀ 83 (.slice none 0 0):=boxed_other (HI2.out.res.set _) (by omega) _
    have hb4:Boxed ((W2.setCell ⟨n₀,0,none⟩ (.slice none 0 0)).setCell ⟨n₀+1,0,none⟩ (.iface 56 (.int .i64 3))) (n₀+1) 41 (.iface 56 (.int .i64 3)):=(boxed_other HI2.out.err (by omega) _).set _
    have hk3:=((KeepsOthers.setCell W2 ⟨n₀,0,none⟩ (.slice none 0 0)).trans (KeepsOthers.setCell _ ⟨n₀+1,0,none⟩ (.iface 56 (.int .i64 3)))).same D _ HK2.out rfl
    have hX:RdX w n₀ s.data.toList _:=⟨hb3,hb4,(HI2.out.bel.setCell (p:=⟨n₀,0,none⟩) (Nat.le_refl _) _).setCell (p:=⟨n₀+1,0,none⟩) (by simp) _,by rw[hrd.out,HOK.out];rfl⟩
    have hX2:=hX.put (.deferred none) (by omega) hk3 rfl
    have k0:=hX2.res.cell
    have k1:=hX2.err.cell
    refine⟨by simp,.inl ⟨_,_,rfl,run_takeDeferred hk3,?_⟩⟩
    refine⟨.tuple #[.slice none 0 0,.iface 56 (.int .i64 3)],by simp[results,Tryz.results113,go_sem,k0,k1],?_⟩
    exact⟨.inr ⟨rfl,hX.none'⟩,by rw[<-HN.out];exact hX2.bel⟩
  · have hw:=writeR_good (Bool.and_eq_true_iff.1 hok).1 (Bool.and_eq_true_iff.1 hok).2
    rcases hn with ⟨rfl,_⟩|⟨_,h0⟩
    · rw [hw]
      by_cases hs2:writeT L=s.data.toList
      · have HOK:Hid (okT L s.data.toList=true):=Lib.hid (by unfold okT;rw[<-Bool.and_assoc,hok,hs2];simp)
        have hne:(!writeT L==s.toList)=false:=by rw[ByteArray.toList_eq,hs2];simp
        clear hs2 hw hok
        simp only
        gi_wp2
        have hb3:Boxed ((W2.setCell ⟨n₀,0,none⟩ (.slice ao L.length cap)).setCell ⟨n₀+1,0,none⟩ .nilIface) n₀ 83 (.slice ao L.length cap):=boxed_other (HI2.out.res.set _) (by omega) _
        have hb4:Boxed ((W2.setCell ⟨n₀,0,none⟩ (.slice ao L.length cap)).setCell ⟨n₀+1,0,none⟩ .nilIface) (n₀+1) 41 .nilIface:=(boxed_other HI2.out.err (by omega) _).set _
        have hk3:=((KeepsOthers.setCell W2 ⟨n₀,0,none⟩ (.slice ao L.length cap)).trans (KeepsOthers.setCell _ ⟨n₀+1,0,none⟩ .nilIface)).same D _ HK2.out rfl
        have hl3:Below n₀ w ((W2.setCell ⟨n₀,0,none⟩ (.slice ao L.length cap)).setCell ⟨n₀+1,0,none⟩ .nilIface):=(HI2.out.bel.setCell (p:=⟨n₀,0,none⟩) (Nat.le_refl _) _).setCell (p:=⟨n₀+1,0,none⟩) (by simp) _
        have ho2:(W2.setCell ⟨n₀,0,none⟩ (.slice ao L.length cap)).ownsRow n₀ 148 7 (.slice ao L.length cap) L.length (flatO L):=HI2.out.own.kept (grownBy_setCell' W2 n₀ _) (.inr (HI2.out.res.not_row (by decide) HI2.out.own).symm)
        have hb2:Boxed (W2.setCell ⟨n₀,0,none⟩ (.slice ao L.length cap)) (n₀+1) 41 .nilIface:=boxed_other HI2.out.err (by omega) _
        have ho3:((W2.setCell ⟨n₀,0,none⟩ (.slice ao L.length cap)).setCell ⟨n₀+1,0,none⟩ .nilIface).ownsRow n₀ 148 7 (.slice ao L.length cap) L.length (flatO L):=
         ho2.kept (grownBy_setCell' _ (n₀+1) _) (.inr (hb2.not_row (by decide) ho2).symm)
        have k0:=(boxed_put hb3 (.deferred none) hk3 rfl).cell
        have k1:=(boxed_put hb4 (.deferred none) hk3 rfl).cell
        obtain⟨ao',cap',he,hops'⟩:=ownsRow_ops (ownsRow_putObj ho3 (.deferred none) hk3 rfl)
        refine⟨by simp,.inl ⟨_,_,rfl,run_takeDeferred hk3,?_⟩⟩
        refine⟨.tuple #[.slice ao L.length cap,.nilIface],by simp[results,Tryz.results113,go_sem,k0,k1],?_⟩
        exact⟨.inl ⟨L,ao,cap,rfl,by rw[hrd.out,HOK.out];rfl,by cases he;exact hops',fun b f e=>by subst e;rw[<-HN.out];exact own_base' ho3⟩,by rw[<-HN.out];exact hl3.trans ((Below.refl n₀ _).grown (grownBy_putObj' _ D (.deferred none)) (by have:=hb3.lt;omega) (fun k e=>by cases e;omega))⟩
      · have HOK:Hid (okT L s.data.toList=false):=Lib.hid (by unfold okT;rw[<-Bool.and_assoc,hok];simp[hs2])
        have hne:(!writeT L==s.toList)=true:=by rw[ByteArray.toList_eq];simpa using hs2
        clear hs2 hw hok
        simp only
        gi_wp2
        have hb3:Boxed ((W2.setCell ⟨n₀,0,none⟩ (.slice none 0 0)).setCell ⟨n₀+1,0,none⟩ (.iface 56 (.int .i64 3))) n₀ 83 (.slice none 0 0):=boxed_other (HI2.out.res.set _) (by omega) _
        have hb4:Boxed ((W2.setCell ⟨n₀,0,none⟩ (.slice none 0 0)).setCell ⟨n₀+1,0,none⟩ (.iface 56 (.int .i64 3))) (n₀+1) 41 (.iface 56 (.int .i64 3)):=(boxed_other HI2.out.err (by omega) _).set _
        have hk3:=((KeepsOthers.setCell W2 ⟨n₀,0,none⟩ (.slice none 0 0)).trans (KeepsOthers.setCell _ ⟨n₀+1,0,none⟩ (.iface 56 (.int .i64 3)))).same D _ HK2.out rfl
        have hX:RdX w n₀ s.data.toList _:=⟨hb3,hb4,(HI2.out.bel.setCell (p:=⟨n₀,0,none⟩) (Nat.le_refl _) _).setCell (p:=⟨n₀+1,0,none⟩) (by simp) _,by rw[hrd.out,HOK.out];rfl⟩
        have hX2:=hX.put (.deferred none) (by omega) hk3 rfl
        have k0:=hX2.res.cell
        have k1:=hX2.err.cell
        refine⟨by simp,.inl ⟨_,_,rfl,run_takeDeferred hk3,?_⟩⟩
        refine⟨.tuple #[.slice none 0 0,.iface 56 (.int .i64 3)],by simp[results,Tryz.results113,go_sem,k0,k1],?_⟩
        exact⟨.inr ⟨rfl,hX.none'⟩,by rw[<-HN.out];exact hX2.bel⟩
    · exact absurd (by rw[hw]) h0
 case stop=>
  rintro D pre W hD hX hK
  gi_wp2
  have hX2:=hX.put (.deferred none) (by omega) hK rfl
  have c0:=hX2.res.cell
  have c1:=hX2.err.cell
  refine⟨by simp,.inl ⟨_,_,rfl,run_takeDeferred hK,?_⟩⟩
  refine⟨.tuple #[.slice none 0 0,.iface 56 (.int .i64 3)],by simp[results,Tryz.results113,go_sem,c0,c1],?_⟩
  exact⟨.inr ⟨rfl,hX.none'⟩,by rw[<-HN.out];exact hX2.bel⟩
end Go.Proofs.YtpgkjnebklknjaaGreatDoor
