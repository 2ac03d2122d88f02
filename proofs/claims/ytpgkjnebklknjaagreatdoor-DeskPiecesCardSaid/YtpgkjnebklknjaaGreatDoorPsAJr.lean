/-A past that knows a history:what each of its methods answers,in the history's words. -/
import Derived.Sort.KeysCollected
import Derived.Sort.Walk0
import Derived.Test.YtpgkjnebklknjaaGreatDoorPwMJr
namespace Go.Proofs.YtpgkjnebklknjaaGreatDoor
open Go.RowKit Go.Deep Go.Shelf Go.Sort Go.Maps
theorem mapsKeys_any (mb:Option Nat) (W:World):Calls Tryz.prog 190 #[.map mb] W fun e w' =>e= .returned (.func (.func 246) #[] #[.pointer (some ⟨W.heap.size,0,none⟩)])/\w' =W.alloc (.cells #[.map mb] 162):=
 callsIn_wide.1 (AnyZ.keys_in Tryz.keysT Fence.wide 5 trivial rfl mb W)
theorem sortsT (m:Nat):AnyZ.SortsIn Tryz.prog Tryz.sortedT_ren Fence.wide m:=
 ⟨fun blk off cap ss W hH hblk hsz=>callsIn_wide.2 (AnyM.slices_Sort_string Tryz.sortT blk off cap ss W hH hblk hsz),
  fun p cap W=>callsIn_wide.2 (AnyM.slices_Sort_string_none Tryz.sortT p cap W)⟩
set_option maxHeartbeats 1000000 in
theorem sortedKeys_any (b nn:Nat) (D0:DataW Unit) (R:Value->Option (DataW Unit×List MemPlace)) (w:World) (hown:w.ownsMap Tryz.prog 9 R b nn D0) (hmax:Maps.size D0<=maxLen) (hbytes:Maps.size D0*16<=140737488355328):
  Calls Tryz.prog 189 #[.func (.func 246) #[] #[.pointer (some ⟨w.heap.size,0,none⟩)]] (w.alloc (.cells #[.map (some b)] 162)) fun e w' => ∃(v:Value) (ss:List (List UInt8)),e= .returned v/\ss.Perm (strKeys D0)∧
   w'.ownsRow (w.alloc (.cells #[.map (some b)] 162)).heap.size 9 1 v ss.length ((ss.mergeSort (fun x y=>decide (x<=y))).map Go.Proofs.encStr)/\Below (w.alloc (.cells #[.map (some b)] 162)).heap.size (w.alloc (.cells #[.map (some b)] 162)) w' :=by
 have hbl:=hown.lt
 have hseq:SeqGives Fence.wide 2 Tryz.prog 246 #[.pointer (some ⟨w.heap.size,0,none⟩)] Go.Proofs.encStr (fun ss=>ss.Perm (strKeys D0)) (Maps.size D0) (w.alloc (.cells #[.map (some b)] 162)):=
  AnyZ.keys_gives (ρ:=Tryz.keysT_ren) { Tryz.keysT with } Fence.wide _ trivial rfl (by omega) w.heap.size b nn D0 _ (by simp) (by simp) (by
   obtain⟨es,clock,hb,Ft,hs,hD⟩:=hown
   exact⟨es,clock,(Below.heap_alloc _ _ b hbl).trans hb,Ft,hs,hD⟩)
 refine(callsIn_wide.1 (AnyZ.sorted_in Tryz.sortedT Fence.wide 5 trivial trivial trivial trivial rfl (by omega) (sortsT _) (enters_of Tryz.func151 (by kernel_rfl) rfl) 246 #[.pointer (some ⟨w.heap.size,0,none⟩)] trivial (enters_of Tryz.func246 (by kernel_rfl) rfl) _ _ hmax hbytes _ hseq)).mono ?_
 rintro e w' ⟨v,ss,h1,h2,h3,_,h4⟩
 exact⟨v,ss,h1,h2,h3,h4⟩
def sK (x:ByteArray):Lit:= .string x.data.toList
theorem sK_key (x:ByteArray):WideAt.IsKeyLit (sK x):=by trivial
theorem sK_inj {x y:ByteArray} (h:sK x=sK y):x=y:=bytes_ext (by simpa [sK] using h)
def boolD:DataW Unit:= .lit (.bool true)
def boolR:Value->Option (DataW Unit×List MemPlace)
 | .bool b=>some (.lit (.bool b),[])
 | _=>none
theorem strLaw:Keyed Tryz.prog 9:=string_keyed Tryz.underlying9
theorem keyOf_str {x:ByteArray} (h:x.size<=maxLen):keyOf Tryz.prog 9 (.string x)=some (sK x):=by
 simp[keyOf,Tryz.underlying9,mapKey,h,sK]
structure HadIs (w:World) (b n:Nat) (L:List ByteArray):Prop where
 nod:L.Nodup
 own: ∃D,w.ownsMap Tryz.prog 9 boolR b n D/\MapOf sK (fun _=>boolD) D L
theorem HadIs.frame {F:Nat->Prop} {w w' :World} {b n:Nat} {L:List ByteArray} (h:HadIs w b n L) (hf:Fr F w w') (hn: ¬F b):HadIs w' b n L:=by
 obtain⟨D,h1,h2⟩:=h.own
 exact⟨h.nod,D,owns_frame h1 hf hn,h2⟩
theorem had_put {D:DataW Unit} {L:List ByteArray} (hn:L.Nodup) (h:MapOf sK (fun _=>boolD) D L) (x:ByteArray): ∃L',L'.Nodup/\MapOf sK (fun _=>boolD) (D.put (sK x) boolD) L' /\ ∀y,y∈L' ↔y=x\/y∈L:=by
 by_cases hx:x∈L
 · obtain⟨l1,l2,rfl⟩:=List.append_of_mem hx
   have hp:(l1++x::l2).Perm (x::(l1++l2)):=List.perm_middle
   have hn' :=hp.nodup_iff.1 hn
   obtain⟨n1,_⟩:=List.nodup_cons.1 hn'
   have h' :=(h.perm hp).over x rfl (sK_key x) (fun y hy e=>n1 (by rw[<-sK_inj e];exact hy))
   refine⟨x::(l1++l2),hn',h',fun y=> ?_⟩
   simp only[List.mem_cons,List.mem_append]
   constructor
   · rintro(h|h|h)
     · exact .inl h
     · exact .inr (.inl h)
     · exact .inr (.inr (.inr h))
   · rintro(h|h|h|h)
     · exact .inl h
     · exact .inr (.inl h)
     · exact .inl h
     · exact .inr (.inr h)
 · exact⟨x::L,List.nodup_cons.2 ⟨hx,hn⟩,h.put x (sK_key x) (fun y hy e=>hx (by rw[<-sK_inj e];exact hy)),fun y=>by simp⟩
theorem had_sorted {w:World} {b n:Nat} {D:DataW Unit} {L:List ByteArray} (hn:L.Nodup) (hown:w.ownsMap Tryz.prog 9 boolR b n D) (h:MapOf sK (fun _=>boolD) D L) {ss:List (List UInt8)} (hs:ss.Perm (strKeys D)):
  ∃S:List ByteArray,(ss.mergeSort (fun x y=>decide (x<=y))).map Go.Proofs.encStr=S.map Value.string/\S.length=ss.length/\S.Pairwise bLess/\ ∀x,x∈S↔x∈L:=by
 have hp:(L.map (·.data.toList)).Perm (strKeys D):=by
  obtain⟨es,rfl,e1,_⟩:=hown.entries strLaw
  obtain⟨es',e2,e3⟩:=hown.keysOf
  cases e2
  refine perm_strKeys e1 (fun p hp=> ?_) ?_ (fun x=> ?_)
  · obtain⟨v,hv⟩:=e3 p hp
    obtain⟨y,_,hy,_⟩:=Maps.keyOf_str Tryz.underlying9 hv
    exact⟨y,hy⟩
  · exact List.pairwise_map.2 (hn.imp fun {a b} hab e=>hab (bytes_ext e))
  · rw [h.has _ (by trivial)]
    simp only[List.mem_map,sK,Lit.string.injEq]
 have hq:(ss.mergeSort (fun x y=>decide (x<=y))).Perm (L.map (·.data.toList)):=(List.mergeSort_perm _ _).trans (hs.trans hp.symm)
 have hso:(ss.mergeSort (fun x y=>decide (x<=y))).Pairwise fun a b=>decide (a<=b)=true:=
  List.pairwise_mergeSort (fun a b c h1 h2=>by simp only[decide_eq_true_eq] at*;exact List.le_trans h1 h2) (fun a b=>by simp only[Bool.or_eq_true,decide_eq_true_eq];exact List.le_total a b) ss
 have hnd:(ss.mergeSort (fun x y=>decide (x<=y))).Nodup:=hq.nodup_iff.2 (List.pairwise_map.2 (hn.imp fun {a b} hab e=>hab (bytes_ext e)))
 refine⟨(ss.mergeSort (fun x y=>decide (x<=y))).map fun l=>⟨l.toArray⟩,?_,by simp,?_,fun x=> ?_⟩
 · rw[List.map_map];rfl
 · rw [List.pairwise_map]
   refine(hso.and hnd).imp fun {a b} h=> ?_
   unfold bLess
   rw[bytesLess_eq]
   simp only[decide_eq_true_eq]
   obtain⟨h1,h2⟩:=h
   simp only[decide_eq_true_eq] at h1
   exact Std.lt_of_le_of_ne h1 h2
 · rw [List.mem_map]
   constructor
   · rintro⟨l,hl,rfl⟩
     obtain⟨y,hy,rfl⟩:=List.mem_map.1 (hq.mem_iff.1 hl)
     exact hy
   · intro hx
     exact⟨x.data.toList,hq.mem_iff.2 (List.mem_map.2 ⟨x,hx,rfl⟩),rfl⟩
def everT (vs:List Ver) (a b:Int) (ids:List Int):List ByteArray:=(ids.filter (everB vs a b)).map fun id=>(verAt vs id).val
theorem everT_all (vs:List Ver) (k:KeyP) (a b f t:Int):everT vs a b (meetsL (itemsK vs k) f t)=everU vs k a b f t:=rfl
theorem everT_yes {vs:List Ver} {a b:Int} {ids:List Int} {j:Nat} {id:Int} {v:Ver} (h:ids[j]? =some id) (hv:verAt vs id=v) (hs:everB vs a b id=true):everT vs a b (ids.take (j+1))=everT vs a b (ids.take j)++ [v.val]:=by
 unfold everT
 rw[List.take_succ_eq_append_getElem (List.getElem?_eq_some_iff.1 h).1,(List.getElem?_eq_some_iff.1 h).2,List.filter_append,List.map_append]
 congr 1
 rw[List.filter_cons_of_pos hs]
 simp[hv]
theorem everT_no {vs:List Ver} {a b:Int} {ids:List Int} {j:Nat} {id:Int} (h:ids[j]? =some id) (hs:everB vs a b id=false):everT vs a b (ids.take (j+1))=everT vs a b (ids.take j):=by
 unfold everT
 rw[List.take_succ_eq_append_getElem (List.getElem?_eq_some_iff.1 h).1,(List.getElem?_eq_some_iff.1 h).2,List.filter_append,List.map_append,List.filter_cons_of_neg (by rw[hs];decide)]
 simp
def everE (s:Pst) (k:KeyP) (a b f t:Int):Int:=if askE s a≠0 then askE s a else if askE s b≠0 then askE s b else if b<a then 10 else if keyB k && rightB f t then 0 else 1
theorem arrInt2 (x y:Int): ∀w,(Instr.index 251 (.agg #[.int .i64 x,.int .i64 y]) (.int .i64 0)).run Tryz.prog w= .ok (.int .i64 x) w/\(Instr.index 251 (.agg #[.int .i64 x,.int .i64 y]) (.int .i64 1)).run Tryz.prog w= .ok (.int .i64 y) w:=fun w=>⟨by kernel_rfl,by kernel_rfl⟩
set_option maxRecDepth 100000 in
set_option maxHeartbeats 4000000 in
theorem pever_bad (k:KeyP) (a b f t:Int) (pb po:Nat) (R:Rest) (s:Pst) (g:Gh) (w:World) (h:PastAt w pb po R s g) (hs:k.word.size<=maxLen) (hb:everE s k a b f t≠0):
  Calls Tryz.prog 130 #[.pointer (some ⟨pb,po,none⟩),.agg #[.int .i64 k.kind,.int .i64 k.a,.string k.word,.int .i64 k.b],.int .i64 a,.int .i64 b,.agg #[.int .i64 f,.int .i64 t]] w fun e w' =>e= .returned (.tuple #[.slice none 0 0,errV (everE s k a b f t)])/\Below w.heap.size w w' :=by
 have i0:=fun w=>(arrInt2 a b w).1
 have i1:=fun w=>(arrInt2 a b w).2
 have hR:=fun W (hB:Below w.heap.size w W)=>pright_any pb po R s g a W (h.below hB)
 have hR2:=fun W (hB:Below w.heap.size w W)=>pright_any pb po R s g b W (h.below hB)
 have hB0:Below w.heap.size w ((w.alloc (.cells #[.int .i64 k.kind,.int .i64 k.a,.string k.word,.int .i64 k.b] 97)).alloc (.cells #[.int .i64 f,.int .i64 t] 107)):=((Below.refl _ w).alloc (Nat.le_refl _) _).alloc (by simp) _
 have HB0:=Lib.hid hB0
 unfold errV
 clear hB0
 by_cases ha:askE s a=0
 · rw [ha,errN_0] at hR
   have HR:=Lib.hid hR
   clear hR
   by_cases hb2:askE s b=0
   · rw [hb2,errN_0] at hR2
     have HR2:=Lib.hid hR2
     clear hR2
     by_cases hlt:b<a
     · have e:everE s k a b f t=10:=by unfold everE;rw[if_neg (by simpa using ha),if_neg (by simpa using hb2),if_pos hlt]
       rw[e]
       clear e hb ha hb2 h hs
       go_enter Tryz.func130,Tryz.ntmps130
       go_wp2_with fail
       refine wp_loop_rounds 3 ?_
       rw[rounds_succ]
       go_wp2_with fail
       refine(HR.out _ HB0.out).mono ?_
       rintro e w1 ⟨rfl,rfl⟩
       go_wp2_with fail
       rw[rounds_succ]
       go_wp2_with fail
       refine(HR2.out _ HB0.out).mono ?_
       rintro e w1 ⟨rfl,rfl⟩
       go_wp2_with fail
       rw[rounds_succ]
       go_wp2_with fail
       go_ret2
       exact⟨rfl,HB0.out⟩
     · have hlt' :decide (b<a)=false:=by simpa using hlt
       have hbad:(keyB k && rightB f t)=false:=by
        cases hx:keyB k && rightB f t with
        | false=>rfl
        | true=>exact absurd (by unfold everE;rw[if_neg (by simpa using ha),if_neg (by simpa using hb2),if_neg hlt,if_pos hx]) hb
       have e:everE s k a b f t=1:=by unfold everE;rw[if_neg (by simpa using ha),if_neg (by simpa using hb2),if_neg hlt,if_neg (by rw[hbad];decide)]
       rw[e]
       have hK:=fun W=>fkey_any k.kind k.a k.b k.word W hs
       rw[show(⟨k.kind,k.a,k.word,k.b⟩:KeyP)=k from rfl] at hK
       have hRR:=fun W=>right_any f t W
       clear e hb ha hb2 h hs hlt
       cases hk:keyB k
       · rw [hk] at hK
         have HK:=Lib.hid hK
         clear hbad hk hK hRR
         go_enter Tryz.func130,Tryz.ntmps130
         go_wp2_with fail
         refine wp_loop_rounds 3 ?_
         rw[rounds_succ]
         go_wp2_with fail
         refine(HR.out _ HB0.out).mono ?_
         rintro e w1 ⟨rfl,rfl⟩
         go_wp2_with fail
         rw[rounds_succ]
         go_wp2_with fail
         refine(HR2.out _ HB0.out).mono ?_
         rintro e w1 ⟨rfl,rfl⟩
         go_wp2_with fail
         rw[rounds_succ]
         go_wp2_with fail
         refine(HK.out _).mono ?_
         rintro e w2 ⟨rfl,b2⟩
         have HB2:=Lib.hid (HB0.out.trans (b2.mono (by simp;omega)))
         clear b2
         go_wp2_with fail
         go_ret2
         exact⟨rfl,HB2.out⟩
       · rw [hk] at hK hbad
         have hr:rightB f t=false:=by simpa using hbad
         rw[hr] at hRR
         have HK:=Lib.hid hK
         have HRR:=Lib.hid hRR
         clear hbad hk hK hRR hr
         go_enter Tryz.func130,Tryz.ntmps130
         go_wp2_with fail
         refine wp_loop_rounds 3 ?_
         rw[rounds_succ]
         go_wp2_with fail
         refine(HR.out _ HB0.out).mono ?_
         rintro e w1 ⟨rfl,rfl⟩
         go_wp2_with fail
         rw[rounds_succ]
         go_wp2_with fail
         refine(HR2.out _ HB0.out).mono ?_
         rintro e w1 ⟨rfl,rfl⟩
         go_wp2_with fail
         rw[rounds_succ]
         go_wp2_with fail
         refine(HK.out _).mono ?_
         rintro e w2 ⟨rfl,b2⟩
         have s0:=(b2.cell (p:=⟨w.heap.size+1,0,none⟩) (by simp)).trans (show _=some (.int .i64 f) by simp)
         have s1:=(b2.cell (p:=⟨w.heap.size+1,1,none⟩) (by simp)).trans (show _=some (.int .i64 t) by simp)
         have HB2:=Lib.hid (HB0.out.trans (b2.mono (by simp;omega)))
         have hs2:=b2.size
         simp at hs2
         have hsl:w.heap.size+1<w2.heap.size:=by omega
         clear b2 hs2
         go_wp2_with fail
         refine(HRR.out _).mono ?_
         rintro e w3 ⟨rfl,b3⟩
         have HB3:=Lib.hid (HB2.out.trans (b3.mono HB2.out.size))
         clear b3 s0 s1
         go_wp2_with fail
         go_ret2
         exact⟨rfl,HB3.out⟩
   · have e:everE s k a b f t=askE s b:=by unfold everE;rw[if_neg (by simpa using ha),if_pos hb2]
     rw[e]
     rw[errN_ne hb2] at hR2
     obtain⟨n,hn⟩: ∃n,n=askE s b:=⟨_,rfl⟩
     rw[<-hn] at hR2 ⊢
     unfold errV at*
     have HR2:=Lib.hid hR2
     clear hR2 hn ha hb2 h e hb
     go_enter Tryz.func130,Tryz.ntmps130
     go_wp2_with fail
     refine wp_loop_rounds 3 ?_
     rw[rounds_succ]
     go_wp2_with fail
     refine(HR.out _ HB0.out).mono ?_
     rintro e w1 ⟨rfl,rfl⟩
     go_wp2_with fail
     rw[rounds_succ]
     go_wp2_with fail
     refine(HR2.out _ HB0.out).mono ?_
     rintro e w1 ⟨rfl,rfl⟩
     go_wp2_with fail
     go_ret2
     exact⟨rfl,HB0.out⟩
 · have e:everE s k a b f t=askE s a:=by unfold everE;rw[if_pos ha]
   rw[e]
   rw[errN_ne ha] at hR
   obtain⟨n,hn⟩: ∃n,n=askE s a:=⟨_,rfl⟩
   rw[<-hn] at hR ⊢
   unfold errV at*
   have HR:=Lib.hid hR
   clear hR hR2 hn ha h e hb
   go_enter Tryz.func130,Tryz.ntmps130
   go_wp2_with fail
   refine wp_loop_rounds 3 ?_
   rw[rounds_succ]
   go_wp2_with fail
   refine(HR.out _ HB0.out).mono ?_
   rintro e w1 ⟨rfl,rfl⟩
   go_wp2_with fail
   go_ret2
   exact⟨rfl,HB0.out⟩
def EverPost (vs:List Ver) (k:KeyP) (a b f t:Int) (w:World) (e:Ending) (w' :World):Prop:=
 ∃(v:Value) (S:List ByteArray),e= .returned (.tuple #[v,.nilIface])/\S.Pairwise bLess/\(∀x,x∈S↔x∈everU vs k a b f t)/\w'.ownsRow w.heap.size 9 1 v S.length (S.map Value.string)/\Below w.heap.size w w'
theorem rightB_bounds {f t:Int} (h:rightB f t=true): -1099511627776<=f/\f<t/\t<=1099511627776:=by unfold rightB at h;simp at h;omega
theorem everB_iff (vs:List Ver) (a b:Int) {id:Int} {v:Ver} (h:verAt vs id=v):everB vs a b id=(decide (v.bg<=b) && (decide (v.en=0)||decide (a<v.en))):=by unfold everB;rw[h]
set_option maxRecDepth 100000 in
set_option maxHeartbeats 4000000 in
theorem pever_none (k:KeyP) (a b f t:Int) (pb po:Nat) (R:Rest) (s:Pst) (g:Gh) (w:World) (h:PastAt w pb po R s g) (ha:askE s a=0) (hb:askE s b=0) (hab: ¬b<a) (hk:keyB k=true) (hr:rightB f t=true) (hy:treeFor g.ts k=none):
  Calls Tryz.prog 130 #[.pointer (some ⟨pb,po,none⟩),.agg #[.int .i64 k.kind,.int .i64 k.a,.string k.word,.int .i64 k.b],.int .i64 a,.int .i64 b,.agg #[.int .i64 f,.int .i64 t]] w (EverPost s.vs k a b f t w):=by
 have i0:=fun w=>(arrInt2 a b w).1
 have i1:=fun w=>(arrInt2 a b w).2
 have hmm:= @run_makeMap Tryz.prog
 have hR:=fun W (hB:Below w.heap.size w W)=>pright_any pb po R s g a W (h.below hB)
 have hR2:=fun W (hB:Below w.heap.size w W)=>pright_any pb po R s g b W (h.below hB)
 rw[ha,errN_0] at hR
 rw[hb,errN_0] at hR2
 have hlt' :decide (b<a)=false:=by simpa using hab
 have hs:k.word.size<=maxLen:=by have:=(wfkey hk).2;unfold maxLen;omega
 have hK:=fun W=>fkey_any k.kind k.a k.b k.word W hs
 rw[show(⟨k.kind,k.a,k.word,k.b⟩:KeyP)=k from rfl,hk] at hK
 have hRR:=fun W=>right_any f t W
 rw[hr] at hRR
 have hlk: ∀W,Below w.heap.size w W->(Instr.lookup 124 (.map g.tm) (.agg #[.int .i64 k.kind,.int .i64 k.a,.string k.word,.int .i64 k.b]) false).run Tryz.prog W= .ok (.pointer none) W:=fun W hB=>by
  have:=tree_look (h.below hB).trees h.keyOk hk
  rw[trPtr_none hy] at this
  exact this
 have hc: ∀W,Below w.heap.size w W->W.cell? ⟨pb,po+4,none⟩=some (.map g.tm):=fun W hB=>(past_cells (h.below hB).len (h.below hB).cells).2.2.2.2
 have hti:itemsK s.vs k= []:=by
  cases e:itemsK s.vs k with
  | nil=>rfl
  | cons z l=>
    obtain⟨v,hv,hvk,_⟩:=mem_itemsK.1 (show z∈itemsK s.vs k by rw[e];simp)
    obtain⟨z',hz',e'⟩:=h.all v hv
    exact absurd (e'.trans hvk) (treeFor_none hy z' hz')
 have hU:everU s.vs k a b f t= []:=by
  have h2:=meetsL_length (itemsK s.vs k) f t
  have h3:(itemsK s.vs k).length=0:=by rw[hti];rfl
  have h4:meetsL (itemsK s.vs k) f t= []:=List.eq_nil_of_length_eq_zero (by omega)
  unfold everU;rw[h4];rfl
 have hB0:Below w.heap.size w ((w.alloc (.cells #[.int .i64 k.kind,.int .i64 k.a,.string k.word,.int .i64 k.b] 97)).alloc (.cells #[.int .i64 f,.int .i64 t] 107)):=((Below.refl _ w).alloc (Nat.le_refl _) _).alloc (by simp) _
 have HB0:=Lib.hid hB0
 have HR:=Lib.hid hR
 have HR2:=Lib.hid hR2
 have HK:=Lib.hid hK
 have HRR:=Lib.hid hRR
 have HLK:=Lib.hid hlk
 have HC:=Lib.hid hc
 have HU:=Lib.hid hU
 clear hB0 hR hR2 hK hRR hlk hc hU hti h ha hb hab hk hr hy hs
 go_enter Tryz.func130,Tryz.ntmps130
 go_wp2_with fail
 refine wp_loop_rounds 3 ?_
 rw[rounds_succ]
 go_wp2_with fail
 refine(HR.out _ HB0.out).mono ?_
 rintro e w1 ⟨rfl,rfl⟩
 go_wp2_with fail
 rw[rounds_succ]
 go_wp2_with fail
 refine(HR2.out _ HB0.out).mono ?_
 rintro e w1 ⟨rfl,rfl⟩
 go_wp2_with fail
 rw[rounds_succ]
 go_wp2_with fail
 refine(HK.out _).mono ?_
 rintro e w2 ⟨rfl,b2⟩
 have k0:=(b2.cell (p:=⟨w.heap.size,0,none⟩) (by simp;omega)).trans (show _=some (.int .i64 k.kind) by simp)
 have k1:=(b2.cell (p:=⟨w.heap.size,1,none⟩) (by simp;omega)).trans (show _=some (.int .i64 k.a) by simp)
 have k2:=(b2.cell (p:=⟨w.heap.size,2,none⟩) (by simp;omega)).trans (show _=some (.string k.word) by simp)
 have k3:=(b2.cell (p:=⟨w.heap.size,3,none⟩) (by simp;omega)).trans (show _=some (.int .i64 k.b) by simp)
 have s0:=(b2.cell (p:=⟨w.heap.size+1,0,none⟩) (by simp)).trans (show _=some (.int .i64 f) by simp)
 have s1:=(b2.cell (p:=⟨w.heap.size+1,1,none⟩) (by simp)).trans (show _=some (.int .i64 t) by simp)
 have HB2:=Lib.hid (HB0.out.trans (b2.mono (by simp;omega)))
 have hs2:=b2.size
 simp at hs2
 have hsl:w.heap.size+1<w2.heap.size:=by omega
 clear b2 hs2
 go_wp2_with fail
 refine(HRR.out _).mono ?_
 rintro e w3 ⟨rfl,b3⟩
 have k0:=below_cell b3 (by omega) k0
 have k1:=below_cell b3 (by omega) k1
 have k2:=below_cell b3 (by omega) k2
 have k3:=below_cell b3 (by omega) k3
 have hsl3:w.heap.size<w3.heap.size:=by have:=b3.size;omega
 have HB3:=Lib.hid (HB2.out.trans (b3.mono HB2.out.size))
 clear b3 s0 s1 hsl
 obtain⟨W4,hW4⟩: ∃W4,W4=w3.alloc (.map #[] 0):=⟨_,rfl⟩
 have hB4:Below w3.heap.size w3 W4:=by rw[hW4];exact(Below.refl _ _).alloc (Nat.le_refl _) _
 have hBw4:Below w.heap.size w W4:=HB3.out.trans (hB4.mono (by omega))
 have k0:=below_cell hB4 hsl3 k0
 have k1:=below_cell hB4 hsl3 k1
 have k2:=below_cell hB4 hsl3 k2
 have k3:=below_cell hB4 hsl3 k3
 have c4:=HC.out W4 hBw4
 have hl:=fun n=>HLK.out (W4.drewN n) (below_drewN' hBw4 n)
 have ho4:W4.ownsMap Tryz.prog 9 boolR w3.heap.size 0 (.map []):=by rw[hW4];exact World.ownsMap_made _ _ _ _
 have HW4:=Lib.hid hW4
 have HB4:=Lib.hid hBw4
 have HO4:=Lib.hid ho4
 clear hW4 hB4 hBw4 ho4
 go_wp2_with fail
 rw[<-HW4.out]
 go_quiet (fail)
 revert nq;intro n1
 clear hl c4
 obtain⟨W5,hW5⟩: ∃W5,W5=W4.drewN n1:=⟨_,rfl⟩
 have ho5:W5.ownsMap Tryz.prog 9 boolR w3.heap.size 0 (.map []):=by rw[hW5];exact owns_frame HO4.out (Fr.drewN (Fr.refl (fun _=>False) W4) n1) (fun e=>e)
 have hB5:Below w.heap.size w W5:=by rw[hW5];exact below_drewN' HB4.out n1
 have HO5:=Lib.hid ho5
 have HB5:=Lib.hid hB5
 rw[<-hW5]
 clear hW5 ho5 hB5 k0 k1 k2 k3
 go_wp2_with fail
 refine(mapsKeys_any (some w3.heap.size) W5).mono ?_
 rintro e w6 ⟨rfl,rfl⟩
 go_wp2_with fail
 refine(sortedKeys_any w3.heap.size 0 (.map []) boolR W5 HO5.out (by decide) (by decide)).mono ?_
 rintro e w7 ⟨v,ss,rfl,hss,own7,b7⟩
 obtain⟨S,e1,e2,e3,e4⟩:=had_sorted (L:= []) List.nodup_nil HO5.out mapOf_nil hss
 rw[e1, <-e2] at own7
 have HO7:=Lib.hid own7
 have HB7:=Lib.hid (HB5.out.trans ((below_over b7).mono HB5.out.size))
 have HE:=Lib.hid (And.intro e3 e4)
 have hs5:=HB5.out.size
 clear hss own7 b7 e1 e2 e3 e4
 go_wp2_with fail
 go_ret2
 exact⟨_,S,rfl,HE.out.1,fun x=>by rw[HE.out.2 x,HU.out],ownsRow_base HO7.out (by simp;omega),HB7.out⟩
structure ELoop (vs:List Ver) (a b:Int) (ids:List Int) (hb:Nat) (w5:World) (j n:Nat) (L:List ByteArray) (wr:World):Prop where
 had:HadIs wr hb n L
 mem: ∀x,x∈L↔x∈everT vs a b (ids.take j)
 le:n<=j
 fr:Fr (· =hb) w5 wr
set_option maxRecDepth 100000 in
set_option maxHeartbeats 8000000 in
theorem pever_some (k:KeyP) (a b f t:Int) (pb po:Nat) (R:Rest) (s:Pst) (g:Gh) (y:Tr) (w:World) (h:PastAt w pb po R s g) (hW:Wf s) (ha:askE s a=0) (hb:askE s b=0) (hab: ¬b<a) (hk:keyB k=true) (hr:rightB f t=true) (hn:s.next<=4000) (hy:treeFor g.ts k=some y):
  Calls Tryz.prog 130 #[.pointer (some ⟨pb,po,none⟩),.agg #[.int .i64 k.kind,.int .i64 k.a,.string k.word,.int .i64 k.b],.int .i64 a,.int .i64 b,.agg #[.int .i64 f,.int .i64 t]] w (EverPost s.vs k a b f t w):=by
 have i0:=fun w=>(arrInt2 a b w).1
 have i1:=fun w=>(arrInt2 a b w).2
 have hmm:= @run_makeMap Tryz.prog
 have hR:=fun W (hB:Below w.heap.size w W)=>pright_any pb po R s g a W (h.below hB)
 have hR2:=fun W (hB:Below w.heap.size w W)=>pright_any pb po R s g b W (h.below hB)
 rw[ha,errN_0] at hR
 rw[hb,errN_0] at hR2
 have hlt' :decide (b<a)=false:=by simpa using hab
 have hs:k.word.size<=maxLen:=by have:=(wfkey hk).2;unfold maxLen;omega
 have hK:=fun W=>fkey_any k.kind k.a k.b k.word W hs
 rw[show(⟨k.kind,k.a,k.word,k.b⟩:KeyP)=k from rfl,hk] at hK
 have hRR:=fun W=>right_any f t W
 rw[hr] at hRR
 have hlk: ∀W,Below w.heap.size w W->(Instr.lookup 124 (.map g.tm) (.agg #[.int .i64 k.kind,.int .i64 k.a,.string k.word,.int .i64 k.b]) false).run Tryz.prog W= .ok (.pointer (some ⟨y.tb,0,none⟩)) W:=fun W hB=>by
  have:=tree_look (h.below hB).trees h.keyOk hk
  rw[trPtr_some hy] at this
  exact this
 obtain⟨hym,hyk⟩:=treeFor_some hy
 have hc: ∀W,Below w.heap.size w W->W.cell? ⟨pb,po+4,none⟩=some (.map g.tm):=fun W hB=>(past_cells (h.below hB).len (h.below hB).cells).2.2.2.2
 have hc3: ∀W,Below w.heap.size w W->W.cell? ⟨pb,po+3,none⟩=some (.map g.am):=fun W hB=>(past_cells (h.below hB).len (h.below hB).cells).2.2.2.1
 have hT: ∀W,Below w.heap.size w W->TreeAt W y.tb (itemsK s.vs k) y.t y.mb:=fun W hB=>by
  have:=(h.below hB).tree y hym
  rw[hyk] at this;exact this
 have hvl: ∀W,Below w.heap.size w W-> ∀v∈s.vs,(Instr.lookup 123 (.map g.am) (.int .i64 v.id) false).run Tryz.prog W= .ok (verV v) W:=fun W hB v hv=>by
  have hvs:=(h.below hB).vers
  have hr:=h.ids.rng v hv
  cases ham:g.am with
  | none=>rw[ham] at hvs;have e:s.vs= []:=hvs;rw[e] at hv;cases hv
  | some am=>rw[ham] at hvs;exact ver_look hvs hv ⟨by omega,by omega⟩
 have hil:=items_len h.ids k
 have hle:=meetsL_length (itemsK s.vs k) f t
 have hB0:Below w.heap.size w ((w.alloc (.cells #[.int .i64 k.kind,.int .i64 k.a,.string k.word,.int .i64 k.b] 97)).alloc (.cells #[.int .i64 f,.int .i64 t] 107)):=((Below.refl _ w).alloc (Nat.le_refl _) _).alloc (by simp) _
 have HB0:=Lib.hid hB0
 have HR:=Lib.hid hR
 have HR2:=Lib.hid hR2
 have HK:=Lib.hid hK
 have HRR:=Lib.hid hRR
 have HLK:=Lib.hid hlk
 have HC:=Lib.hid hc
 have HC3:=Lib.hid hc3
 have HT:=Lib.hid hT
 have HVL:=Lib.hid hvl
 have HP:=Lib.hid h
 have HWF:=Lib.hid hW
 have HRB:=Lib.hid hr
 clear hB0 hR hR2 hK hRR hlk hc hc3 hT hvl hW h ha hb hab hk hr hy hs hym hyk
 go_enter Tryz.func130,Tryz.ntmps130
 go_wp2_with fail
 refine wp_loop_rounds 3 ?_
 rw[rounds_succ]
 go_wp2_with fail
 refine(HR.out _ HB0.out).mono ?_
 rintro e w1 ⟨rfl,rfl⟩
 go_wp2_with fail
 rw[rounds_succ]
 go_wp2_with fail
 refine(HR2.out _ HB0.out).mono ?_
 rintro e w1 ⟨rfl,rfl⟩
 go_wp2_with fail
 rw[rounds_succ]
 go_wp2_with fail
 refine(HK.out _).mono ?_
 rintro e w2 ⟨rfl,b2⟩
 have k0:=(b2.cell (p:=⟨w.heap.size,0,none⟩) (by simp;omega)).trans (show _=some (.int .i64 k.kind) by simp)
 have k1:=(b2.cell (p:=⟨w.heap.size,1,none⟩) (by simp;omega)).trans (show _=some (.int .i64 k.a) by simp)
 have k2:=(b2.cell (p:=⟨w.heap.size,2,none⟩) (by simp;omega)).trans (show _=some (.string k.word) by simp)
 have k3:=(b2.cell (p:=⟨w.heap.size,3,none⟩) (by simp;omega)).trans (show _=some (.int .i64 k.b) by simp)
 have s0:=(b2.cell (p:=⟨w.heap.size+1,0,none⟩) (by simp)).trans (show _=some (.int .i64 f) by simp)
 have s1:=(b2.cell (p:=⟨w.heap.size+1,1,none⟩) (by simp)).trans (show _=some (.int .i64 t) by simp)
 have HB2:=Lib.hid (HB0.out.trans (b2.mono (by simp;omega)))
 have hs2:=b2.size
 simp at hs2
 have hsl:w.heap.size+1<w2.heap.size:=by omega
 clear b2 hs2
 go_wp2_with fail
 refine(HRR.out _).mono ?_
 rintro e w3 ⟨rfl,b3⟩
 have k0:=below_cell b3 (by omega) k0
 have k1:=below_cell b3 (by omega) k1
 have k2:=below_cell b3 (by omega) k2
 have k3:=below_cell b3 (by omega) k3
 have hsl3:w.heap.size<w3.heap.size:=by have:=b3.size;omega
 have HB3:=Lib.hid (HB2.out.trans (b3.mono HB2.out.size))
 have s0:=below_cell b3 (by omega) s0
 have s1:=below_cell b3 (by omega) s1
 have hsl3' :w.heap.size+1<w3.heap.size:=by have:=b3.size;omega
 clear b3 hsl
 obtain⟨W4,hW4⟩: ∃W4,W4=w3.alloc (.map #[] 0):=⟨_,rfl⟩
 have hB4:Below w3.heap.size w3 W4:=by rw[hW4];exact(Below.refl _ _).alloc (Nat.le_refl _) _
 have hBw4:Below w.heap.size w W4:=HB3.out.trans (hB4.mono (by omega))
 have k0:=below_cell hB4 hsl3 k0
 have k1:=below_cell hB4 hsl3 k1
 have k2:=below_cell hB4 hsl3 k2
 have k3:=below_cell hB4 hsl3 k3
 have s0:=below_cell hB4 hsl3' s0
 have s1:=below_cell hB4 hsl3' s1
 have hs4:W4.heap.size=w3.heap.size+1:=by rw[hW4];simp
 have HS4:=Lib.hid hs4
 have c4:=HC.out W4 hBw4
 have hl:=fun n=>HLK.out (W4.drewN n) (below_drewN' hBw4 n)
 have ho4:W4.ownsMap Tryz.prog 9 boolR w3.heap.size 0 (.map []):=by rw[hW4];exact World.ownsMap_made _ _ _ _
 have HW4:=Lib.hid hW4
 have HB4:=Lib.hid hBw4
 have HO4:=Lib.hid ho4
 clear hW4 hB4 hBw4 ho4 hs4
 go_wp2_with fail
 rw[<-HW4.out]
 go_quiet (fail)
 revert nq;intro n1
 clear hl c4
 obtain⟨W5,hW5⟩: ∃W5,W5=W4.drewN n1:=⟨_,rfl⟩
 have ho5:W5.ownsMap Tryz.prog 9 boolR w3.heap.size 0 (.map []):=by rw[hW5];exact owns_frame HO4.out (Fr.drewN (Fr.refl (fun _=>False) W4) n1) (fun e=>e)
 have hB5:Below w.heap.size w W5:=by rw[hW5];exact below_drewN' HB4.out n1
 have hB45:Below W4.heap.size W4 W5:=by rw[hW5];exact below_drewN' (Below.refl _ _) n1
 have hsl4:w.heap.size+1<W4.heap.size:=by have:=HS4.out;omega
 have s0:=below_cell hB45 hsl4 s0
 have s1:=below_cell hB45 hsl4 s1
 have hs5:W5.heap.size=w3.heap.size+1:=by rw[hW5];exact HS4.out
 have HO5:=Lib.hid ho5
 have HB5:=Lib.hid hB5
 have HS5:=Lib.hid hs5
 obtain⟨hb,hhb⟩: ∃hb,hb=w3.heap.size:=⟨_,rfl⟩
 have HHB:=Lib.hid hhb
 rw[<-hW5, <-hhb]
 clear hW5 ho5 hB5 hB45 hs5 hhb k0 k1 k2 k3
 go_wp2_with fail
 refine(tmeets_any f t W5 y.tb (itemsK s.vs k) y.t y.mb (HT.out _ HB5.out) (by omega)).mono ?_
 rintro e w6 ⟨v6,rfl,own6,b6⟩
 obtain⟨ids,hids⟩: ∃ids,ids=meetsL (itemsK s.vs k) f t:=⟨_,rfl⟩
 rw[<-hids] at own6
 obtain⟨ao,cap,rfl,hcs⟩:=ownsRow_intsB own6
 have hlen:ids.length<4001:=by rw[hids];omega
 have hst:ELoop s.vs a b ids hb w6 0 0 [] w6:=⟨⟨List.nodup_nil,.map [],owns_frame (F:=fun _=>False) (by rw[HHB.out];exact HO5.out) (Fr.new b6) (fun e=>e),mapOf_nil⟩,fun x=>⟨(fun h=>by cases h),(fun h=>by cases h)⟩,Nat.le_refl _,Fr.refl _ _⟩
 have hB6:Below w.heap.size w w6:=HB5.out.trans (b6.mono HB5.out.size)
 have hs6:hb<w6.heap.size:=by have:=b6.size;have:=HS5.out;have:=HHB.out;omega
 have hhw:w.heap.size<hb:=by have:=HHB.out;omega
 have HIDS:=Lib.hid hids
 have HCS:=Lib.hid hcs
 have HST:=Lib.hid hst
 have HB6:=Lib.hid hB6
 clear own6 b6 hids hcs hst hB6 s0 s1 hle
 go_wp2_with fail
 go_loopw [61] (fun i wr=> ∃(j n:Nat) (L:List ByteArray),j<=ids.length/\i= .int .i64 j/\ELoop s.vs a b ids hb w6 j n L wr) (fun i _=>ids.length-(intOf i).toNat)
 case atStart=>exact⟨0,0,[],by omega,rfl,HST.out⟩
 case round=>
  obtain⟨j,n,L,hj,rfl,hL⟩:=hrel
  have HL:=Lib.hid hL
  have hsr:=hL.fr.size
  have hBw:Below w.heap.size w wr:=HB6.out.trans (hL.fr.below (B:=w.heap.size) (fun i _ e=>by omega) (by omega))
  have HBW:=Lib.hid hBw
  clear hL
  by_cases hlt:j<ids.length
  · obtain⟨id,hid⟩: ∃id,ids[j]? =some id:=⟨_,List.getElem?_eq_getElem hlt⟩
    obtain⟨bi,rfl,hbi,hcell⟩:=HCS.out j id hid
    have hcw:=HL.out.fr.cell hcell (fun e=>by have:=HS5.out;have:=HHB.out;omega)
    have hbw:bi<wr.heap.size:=World.block_lt_of_cell? wr _ hcw
    obtain⟨x,hx,e,hx3,hx4⟩:=(mem_meetsL HRB.out).1 (show id∈meetsL (itemsK s.vs k) f t by rw[<-HIDS.out];exact List.mem_of_getElem? hid)
    obtain⟨v,hv,hvk,rfl⟩:=mem_itemsK.1 hx
    change v.id=id at e
    subst e
    have hva:=HP.out.ids.verAt hv
    have hl:=HVL.out wr hBw v hv
    unfold verV at hl
    have c3:=HC3.out wr hBw
    have heb:=everB_iff s.vs a b hva
    have hvv:=HWF.out.vals v hv
    have hsz:v.val.size<=maxLen:=by unfold wordB at hvv;simp at hvv;unfold maxLen;omega
    have HVA:=Lib.hid hva
    have HID:=Lib.hid hid
    have HSZ:=Lib.hid hsz
    clear hva hid hcell hBw hv hvk hx hx3 hx4 hvv hsz
    by_cases q1:v.bg<=b
    · by_cases q2:v.en=0
      · have q2' :(v.en==0)=true:=by simpa using q2
        rw[show(decide (v.bg<=b) && (decide (v.en=0)||decide (a<v.en)))=true by simp[q1,q2]] at heb
        clear q2
        have HEB:=Lib.hid heb
        have hnx:=everT_yes HID.out HVA.out HEB.out
        obtain⟨D,hown,hD⟩:=HL.out.had.own
        obtain⟨L',n',hD',hm'⟩:=had_put HL.out.had.nod hD v.val
        have hmem: ∀z,z∈L' ↔z∈everT s.vs a b (ids.take (j+1)):=fun z=>by rw[hnx,hm',List.mem_append,HL.out.mem];simp[or_comm]
        have HMEM:=Lib.hid hmem
        have HD' :=Lib.hid hD'
        have HN' :=Lib.hid n'
        have hnl:=HL.out.le
        clear heb hnx hmem hD hD' n' hm'
        go_wp2_with (at_mapUpdate;refine wpList_mapUpdate_own _ rfl _ _ _ 162 rfl 9 4 strLaw Tryz.underlying162 boolR hb n D rfl (hown.alloc _) (by unfold maxLen;omega) _ _ _ rfl rfl (keyOf_str HSZ.out) boolD [] rfl ?_;intro w7 hown7 hgrow7)
        have F7:Fr (· =hb) wr w7:=((Fr.refl _ _).alloc _).trans (Fr.ofGrown hgrow7)
        go_roundw
        case rel=>exact⟨j+1,n+1,L',by omega,by go_num,⟨HN'.out,_,hown7,HD'.out⟩,HMEM.out,by omega,HL.out.fr.trans F7⟩
        case measure=>simp[intOf];omega
      · have q2' :(v.en==0)=false:=by simpa using q2
        by_cases q3:a<v.en
        · rw [show(decide (v.bg<=b) && (decide (v.en=0)||decide (a<v.en)))=true by simp[q1,q3]] at heb
          clear q2
          have HEB:=Lib.hid heb
          have hnx:=everT_yes HID.out HVA.out HEB.out
          obtain⟨D,hown,hD⟩:=HL.out.had.own
          obtain⟨L',n',hD',hm'⟩:=had_put HL.out.had.nod hD v.val
          have hmem: ∀z,z∈L' ↔z∈everT s.vs a b (ids.take (j+1)):=fun z=>by rw[hnx,hm',List.mem_append,HL.out.mem];simp[or_comm]
          have HMEM:=Lib.hid hmem
          have HD' :=Lib.hid hD'
          have HN' :=Lib.hid n'
          have hnl:=HL.out.le
          clear heb hnx hmem hD hD' n' hm'
          go_wp2_with (at_mapUpdate;refine wpList_mapUpdate_own _ rfl _ _ _ 162 rfl 9 4 strLaw Tryz.underlying162 boolR hb n D rfl (hown.alloc _) (by unfold maxLen;omega) _ _ _ rfl rfl (keyOf_str HSZ.out) boolD [] rfl ?_;intro w7 hown7 hgrow7)
          have F7:Fr (· =hb) wr w7:=((Fr.refl _ _).alloc _).trans (Fr.ofGrown hgrow7)
          go_roundw
          case rel=>exact⟨j+1,n+1,L',by omega,by go_num,⟨HN'.out,_,hown7,HD'.out⟩,HMEM.out,by omega,HL.out.fr.trans F7⟩
          case measure=>simp[intOf];omega
        · have q3' :decide (a<v.en)=false:=by simpa using q3
          rw[show(decide (v.bg<=b) && (decide (v.en=0)||decide (a<v.en)))=false by simp[q2,q3]] at heb
          clear q2 q3
          have HEB:=Lib.hid heb
          have hnx:=everT_no HID.out HEB.out
          have hmem: ∀z,z∈L↔z∈everT s.vs a b (ids.take (j+1)):=by rw[hnx];exact HL.out.mem
          have HMEM:=Lib.hid hmem
          clear heb hnx hmem
          go_wp2_with fail
          have F7:Fr (· =hb) wr (wr.alloc (.cells #[.int .i64 v.key.kind,.int .i64 v.key.a,.string v.key.word,.int .i64 v.key.b,.string v.val,.int .i64 v.bg,.int .i64 v.en] 221)):=(Fr.refl _ _).alloc _
          have F8:Fr (fun _=>False) wr (wr.alloc (.cells #[.int .i64 v.key.kind,.int .i64 v.key.a,.string v.key.word,.int .i64 v.key.b,.string v.val,.int .i64 v.bg,.int .i64 v.en] 221)):=(Fr.refl _ _).alloc _
          go_roundw
          case rel=>exact⟨j+1,n,L,by omega,by go_num,HL.out.had.frame F8 (fun e=>e),HMEM.out,by have:=HL.out.le;omega,HL.out.fr.trans F7⟩
          case measure=>simp[intOf];omega
    · have q1' :decide (v.bg<=b)=false:=by simpa using q1
      rw[show(decide (v.bg<=b) && (decide (v.en=0)||decide (a<v.en)))=false by simp[q1]] at heb
      clear q1
      have HEB:=Lib.hid heb
      have hnx:=everT_no HID.out HEB.out
      have hmem: ∀z,z∈L↔z∈everT s.vs a b (ids.take (j+1)):=by rw[hnx];exact HL.out.mem
      have HMEM:=Lib.hid hmem
      clear heb hnx hmem
      go_wp2_with fail
      have F7:Fr (· =hb) wr (wr.alloc (.cells #[.int .i64 v.key.kind,.int .i64 v.key.a,.string v.key.word,.int .i64 v.key.b,.string v.val,.int .i64 v.bg,.int .i64 v.en] 221)):=(Fr.refl _ _).alloc _
      have F8:Fr (fun _=>False) wr (wr.alloc (.cells #[.int .i64 v.key.kind,.int .i64 v.key.a,.string v.key.word,.int .i64 v.key.b,.string v.val,.int .i64 v.bg,.int .i64 v.en] 221)):=(Fr.refl _ _).alloc _
      go_roundw
      case rel=>exact⟨j+1,n,L,by omega,by go_num,HL.out.had.frame F8 (fun e=>e),HMEM.out,by have:=HL.out.le;omega,HL.out.fr.trans F7⟩
      case measure=>simp[intOf];omega
  · obtain⟨D,hown,hD⟩:=HL.out.had.own
    have hsz:=hD.size
    have hUe: ∀z,z∈L↔z∈everU s.vs k a b f t:=fun z=>by
     have h1:=HL.out.mem z
     rw[List.take_of_length_le (by omega),HIDS.out,everT_all] at h1
     exact h1
    have hsd:Maps.size D<=4001:=by have:=hown.size_le;have:=HL.out.le;omega
    have HUE:=Lib.hid hUe
    have HDD:=Lib.hid hD
    have hw8:=hBw.size
    clear hUe hD hsz hBw
    go_wp2_with fail
    refine(mapsKeys_any (some hb) wr).mono ?_
    rintro e w8 ⟨rfl,rfl⟩
    go_wp2_with fail
    refine(sortedKeys_any hb n D boolR wr hown (by unfold maxLen;omega) (by omega)).mono ?_
    rintro e w9 ⟨v9,ss,rfl,hss,own9,b9⟩
    obtain⟨S,e1,e2,e3,e4⟩:=had_sorted HL.out.had.nod hown HDD.out hss
    rw[e1, <-e2] at own9
    have HO9:=Lib.hid own9
    have HB9:=Lib.hid (HBW.out.trans ((below_over b9).mono HBW.out.size))
    have HE:=Lib.hid (And.intro e3 e4)
    clear hss own9 b9 e1 e2 e3 e4 hown
    go_wp2_with fail
    go_ret2
    exact⟨_,S,rfl,HE.out.1,fun x=>by rw[HE.out.2 x,HUE.out],ownsRow_base HO9.out (by simp;omega),HB9.out⟩
theorem pever_ok (k:KeyP) (a b f t:Int) (pb po:Nat) (R:Rest) (s:Pst) (g:Gh) (w:World) (h:PastAt w pb po R s g) (hW:Wf s) (ha:askE s a=0) (hb:askE s b=0) (hab: ¬b<a) (hk:keyB k=true) (hr:rightB f t=true) (hn:s.next<=4000):
  Calls Tryz.prog 130 #[.pointer (some ⟨pb,po,none⟩),.agg #[.int .i64 k.kind,.int .i64 k.a,.string k.word,.int .i64 k.b],.int .i64 a,.int .i64 b,.agg #[.int .i64 f,.int .i64 t]] w (EverPost s.vs k a b f t w):=by
 cases hy:treeFor g.ts k with
 | none=>exact pever_none k a b f t pb po R s g w h ha hb hab hk hr hy
 | some y=>exact pever_some k a b f t pb po R s g y w h hW ha hb hab hk hr hn hy
def badB (a:Int) (v:Ver):Bool:=decide (0<v.en) && decide (v.en<=a)
def gonS (s:Pst) (a:Int) (left:Lit->Bool):Pst:={ s with gone:=a,vs:=s.vs.filter fun v=>left (vK v)|| !badB a v }
theorem gonS_all {s:Pst} {a:Int} {left:Lit->Bool} (h: ∀v∈s.vs,left (vK v)=true):gonS s a left={ s with gone:=a }:=by
 unfold gonS
 congr 1
 rw[List.filter_eq_self]
 intro v hv
 rw[h v hv];rfl
theorem gonS_end {s:Pst} {a:Int} {left:Lit->Bool} (h: ∀q,left q=false):gonS s a left=forgetP a s:=by
 unfold gonS forgetP
 congr 1
 refine List.filter_congr fun v _=> ?_
 rw[h]
 unfold badB
 simp
theorem kI_same {x y:Int}:(kI x).sameKey (kI y)=decide (x=y):=by
 rw[Bool.eq_iff_iff]
 simp only[decide_eq_true_eq]
 constructor
 · intro h
   have:=WideAt.sameKey_eq h
   simpa [kI] using this
 · intro h;subst h;exact WideAt.sameKey_self kI_key
theorem gonS_keep {s:Pst} {a:Int} {left:Lit->Bool} {v:Ver} (hd:(s.vs.map (·.id)).Nodup) (hv:v∈s.vs) (hl:left (vK v)=true) (hb:badB a v=false):gonS s a (fun z=>left z && !z.sameKey (kI v.id))=gonS s a left:=by
 unfold gonS
 congr 1
 refine List.filter_congr fun u hu=> ?_
 show((left (vK u) && !(vK u).sameKey (kI v.id))|| !badB a u)=(left (vK u)|| !badB a u)
 rw[show(vK u).sameKey (kI v.id)=decide (u.id=v.id) from kI_same]
 by_cases e:u.id=v.id
 · have:u=v:=nodup_inj (·.id) s.vs hd u hu v hv e
   subst this
   rw[hl,hb];simp
 · simp[e]
theorem gonS_drop {s:Pst} {a:Int} {left:Lit->Bool} {v:Ver} (hd:(s.vs.map (·.id)).Nodup) (hv:v∈s.vs) (hb:badB a v=true):gonS s a (fun z=>left z && !z.sameKey (kI v.id))=dropV (gonS s a left) v.id:=by
 unfold gonS dropV
 simp only
 congr 1
 rw[List.filter_filter]
 refine List.filter_congr fun u hu=> ?_
 show((left (vK u) && !(vK u).sameKey (kI v.id))|| !badB a u)=(decide (u.id≠v.id) && (left (vK u)|| !badB a u))
 rw[show(vK u).sameKey (kI v.id)=decide (u.id=v.id) from kI_same]
 by_cases e:u.id=v.id
 · have:u=v:=nodup_inj (·.id) s.vs hd u hu v hv e
   subst this
   simp[hb]
 · simp[e]
def forgE (s:Pst) (a:Int):Int:=if a<0\/s.now<a then 2 else if a<s.gone then 10 else 0
theorem forget_place {w:World} {pb po:Nat} {R:Rest} {s:Pst} {g:Gh} (h:PastAt w pb po R s g) (a:Int):PastAt (w.setCell ⟨pb,po+1,none⟩ (.int .i64 a)) pb po R { s with gone:=a } g/\Fr (g.foot pb) w (w.setCell ⟨pb,po+1,none⟩ (.int .i64 a)):=by
 obtain⟨h1,h2⟩:=PastI.place (s' :={ s with gone:=a }) (i:=po+1) (v:= .int .i64 a) h.toPastI (by rw[pcells_set1 h.len]) ⟨h.ids.nod,h.ids.rng,h.ids.key,h.ids.next0,h.ids.len⟩ rfl
 exact⟨⟨h1,h.tlen⟩,h2⟩
set_option maxRecDepth 100000 in
set_option maxHeartbeats 2000000 in
theorem pforget_none (a:Int) (pb po:Nat) (R:Rest) (s:Pst) (g:Gh) (w:World) (h:PastAt w pb po R s g) (ham:g.am=none) (h0:0<=a) (h1:a<=s.now) (h2:s.gone<=a):
  Calls Tryz.prog 112 #[.pointer (some ⟨pb,po,none⟩),.int .i64 a] w (PDone .nilIface pb po R (forgetP a s) g w):=by
 obtain⟨c0,c1,_,c3,_⟩:=past_cells h.len h.cells
 rw[ham] at c3
 have f1:=past_free h.cells (po+1)
 have hpl:=lt_of_block h.cells
 have h0' :decide (a<0)=false:=by simp;omega
 have h1' :decide (s.now<a)=false:=by simp;omega
 have h2' :decide (a<s.gone)=false:=by simp;omega
 obtain⟨P1,F1⟩:=forget_place h a
 obtain⟨W1,hW1⟩: ∃W1,W1=w.setCell ⟨pb,po+1,none⟩ (.int .i64 a):=⟨_,rfl⟩
 rw[<-hW1] at P1 F1
 have hvs:s.vs= []:=by have:=h.vers;rw[ham] at this;exact this
 have hf:forgetP a s={ s with gone:=a }:=by unfold forgetP;rw[hvs];rfl
 have r1:=run_range_nilMap (P:=Tryz.prog) w 123 3 221 Tryz.underlying123
 have r1' :=run_range_nilMap (P:=Tryz.prog) (w.setCell ⟨pb,po+1,none⟩ (.int .i64 a)) 123 3 221 Tryz.underlying123
 have r2: ∀ty,(Instr.next (.pointer (some ⟨w.heap.size,0,none⟩)) false ty).run Tryz.prog ((w.setCell ⟨pb,po+1,none⟩ (.int .i64 a)).alloc (.mapIter none 0 #[] 0))= .ok (.tuple #[.bool false]) ((w.setCell ⟨pb,po+1,none⟩ (.int .i64 a)).alloc (.mapIter none 0 #[] 0)):=fun ty=>by
  have:=run_next_nilMap (P:=Tryz.prog) (w.setCell ⟨pb,po+1,none⟩ (.int .i64 a)) ty 0 0 #[]
  simpa using this
 have HP1:=Lib.hid P1
 have HF1:=Lib.hid F1
 have HW1:=Lib.hid hW1
 have HF:=Lib.hid hf
 clear P1 F1 hW1 hvs hf h ham
 go_enter Tryz.func112,Tryz.ntmps112
 go_wp2_with fail
 refine wp_loop_rounds 1 ?_
 rw[rounds_succ]
 go_wp2_with fail
 rw[<-HW1.out]
 go_ret
 refine⟨g,rfl,?_,HF1.out.alloc _,Grows.refl _ _ _⟩
 rw[HF.out]
 exact HP1.out.below ((Below.refl _ _).alloc (Nat.le_refl _) _)
structure FLoop (pb po:Nat) (R:Rest) (s:Pst) (g:Gh) (a:Int) (am r n:Nat) (w:World) (left:Lit->Bool) (cnt:Nat) (D:DataW Unit) (g' :Gh) (wr:World):Prop where
 at' :PastAt wr pb po R (gonS s a left) g'
 rg:wr.ranges Tryz.prog 3 verR am r n D left cnt
 mp:MapOf vK verD D (gonS s a left).vs
 am:g'.am=some am
 sub: ∀q,left q=true->Maps.has D q=true
 fr:Fr (g.foot pb) w wr
 ft: ∀j,g'.foot pb j->g.foot pb j
theorem floop_drop {pb po:Nat} {R:Rest} {s:Pst} {g:Gh} {a:Int} {am r n:Nat} {w:World} {left:Lit->Bool} {cnt cnt' :Nat} {D:DataW Unit} {g' g'' :Gh} {wr w' :World} {v:Ver} (h:FLoop pb po R s g a am r n w left cnt D g' wr) (hd:(s.vs.map (·.id)).Nodup) (hv:v∈s.vs) (hb:badB a v=true) (hl:left (vK v)=true)
  (P:PastAt w' pb po R (dropV (gonS s a left) v.id) g'') (ea:g''.am=some am) (hf:Fr (g.foot pb) w w') (ft: ∀j,g''.foot pb j->g'.foot pb j) (rg:w'.ranges Tryz.prog 3 verR am r n (D.del (kI v.id)) (fun z=>left z && !z.sameKey (kI v.id)) cnt'):
  FLoop pb po R s g a am r n w (fun z=>left z && !z.sameKey (kI v.id)) cnt' (D.del (kI v.id)) g'' w' :=by
 have e:=gonS_drop (left:=left) hd hv hb
 have hvm:v∈(gonS s a left).vs:=List.mem_filter.2 ⟨hv,by rw[hl];rfl⟩
 refine⟨by rw[e];exact P,rg,?_,ea,fun q hq=> ?_,hf,fun j hj=>h.ft j (ft j hj)⟩
 · rw [e]
   exact(h.mp.perm (dropV_perm h.at'.ids.nod hvm)).del kI_key (fun u hu=>kI_ne (mem_drop.1 hu).2)
 · rw [Bool.and_eq_true,Bool.not_eq_true'] at hq
   have hne:q≠kI v.id:=fun e' =>by
    rw[e',WideAt.sameKey_self kI_key] at hq
    cases hq.2
   rw[has_del_other hne]
   exact h.sub q hq.1
set_option maxRecDepth 100000 in
set_option maxHeartbeats 8000000 in
theorem pforget_some (a:Int) (pb po:Nat) (R:Rest) (s:Pst) (g:Gh) (am:Nat) (w:World) (h:PastAt w pb po R s g) (ham:g.am=some am) (h0:0<=a) (h1:a<=s.now) (h2:s.gone<=a) (hn:s.next<=4000):
  Calls Tryz.prog 112 #[.pointer (some ⟨pb,po,none⟩),.int .i64 a] w (PDone .nilIface pb po R (forgetP a s) g w):=by
 obtain⟨c0,c1,_,c3,_⟩:=past_cells h.len h.cells
 rw[ham] at c3
 have f1:=past_free h.cells (po+1)
 have hpl:=lt_of_block h.cells
 have h0' :decide (a<0)=false:=by simp;omega
 have h1' :decide (s.now<a)=false:=by simp;omega
 have h2' :decide (a<s.gone)=false:=by simp;omega
 obtain⟨P1,F1⟩:=forget_place h a
 obtain⟨W1,hW1⟩: ∃W1,W1=w.setCell ⟨pb,po+1,none⟩ (.int .i64 a):=⟨_,rfl⟩
 rw[<-hW1] at P1 F1
 have hs1:W1.heap.size=w.heap.size:=by rw[hW1];simp
 have hvs:=P1.vers
 rw[ham] at hvs
 obtain⟨D,hown,hD⟩:=hvs
 have hown' :(w.setCell ⟨pb,po+1,none⟩ (.int .i64 a)).ownsMap Tryz.prog 3 verR am s.vs.length D:=by rw[<-hW1];exact hown
 have hhas: ∀v∈s.vs,Maps.has D (vK v)=true:=fun v hv=>(hD.has _ kI_key).2 ⟨v,hv,rfl⟩
 have hg0:=gonS_all (a:=a) hhas
 have hlt0:=h.lt
 have hamlt:=h.lt am (.inr (.inl ham))
 have HP:=Lib.hid h
 have HP1:=Lib.hid P1
 have HF1:=Lib.hid F1
 have HW1:=Lib.hid hW1
 have HS1:=Lib.hid hs1
 have HD:=Lib.hid hD
 have HG0:=Lib.hid hg0
 have HLT:=Lib.hid hlt0
 have HAM:=Lib.hid ham
 clear P1 F1 hW1 hown hD hhas hg0 hlt0 h ham hs1
 go_enter Tryz.func112,Tryz.ntmps112
 go_wp2_with (at_range;refine wpList_range_own _ rfl _ 123 rfl 3 221 intLaw Tryz.underlying123 verR am s.vs.length D rfl hown' ?_;intro w2 hrg hgr hs2)
 try go_frame
 obtain⟨r,hr⟩: ∃r,r=w.heap.size:=⟨_,rfl⟩
 have hsz1:(w.setCell ⟨pb,po+1,none⟩ (.int .i64 a)).heap.size=r:=by rw[hr];simp
 rw[hsz1] at hrg hs2
 have hgr1:W1.grownBy w2 none:=by rw[HW1.out];exact hgr
 have hB2:Below W1.heap.size W1 w2:=⟨hgr1.os,hgr1.tape,hgr1.output,hgr1.size,fun i hi' =>hgr1.block i hi' (by simp)⟩
 have P2:=HP1.out.below hB2
 have hst:FLoop pb po R s g a am r s.vs.length w (Maps.has D) (Maps.size D) D g w2:=⟨by rw[HG0.out];exact P2,hrg,by rw[HG0.out];exact HD.out,HAM.out,fun _ e=>e,HF1.out.trans (Fr.new hB2),fun _ e=>e⟩
 have HST:=Lib.hid hst
 have HRE:=Lib.hid hr
 have hrl:r<w2.heap.size:=by omega
 have hwr:r=w.heap.size:=hr
 have hwr1:w.heap.size<=r:=by omega
 have hwr2:r<=w.heap.size:=by omega
 first|rw[<-hr]|skip
 clear hgr hgr1 hB2 P2 hst hrg hs2 hown' c0 c1 c3 f1 hsz1 hr hwr
 go_loopw [5] (fun u wr=> ∃(left:Lit->Bool) (cnt:Nat) (D:DataW Unit) (g' :Gh),FLoop pb po R s g a am r s.vs.length w left cnt D g' wr/\r<wr.heap.size) (fun _ wr=>wr.rangeLeft am r)
 case atStart=>exact⟨_,_,_,g,HST.out,hrl⟩
 case round=>
  obtain⟨left,cnt,D',g',hL,hrw⟩:=hrel
  have HL:=Lib.hid hL
  have hrg:=hL.rg
  clear hL
  go_wp2_with (at_next;refine wpList_next_raw _ rfl _ rfl 3 intLaw verR am r s.vs.length D' left cnt rfl hrg ?_ ?_)
  · intro hc0 hl0
    have hend:PDone .nilIface pb po R (forgetP a s) g w (.returned .nilIface) wr:=⟨g',rfl,by rw[<-gonS_end hl0];exact HL.out.at',HL.out.fr,fun j hj=> .inl (HL.out.ft j hj)⟩
    have HE:=Lib.hid hend
    clear hl0 hc0 hrg hend
    go_wp2_with fail
    go_ret
    exact HE.out
  · intro key v kl y1 y2 w3 cnt3 hkey hlk hv hat hrg3 hlt3 hgr3 hs3 hen
    obtain⟨x,hx,e⟩:=HL.out.mp.got (intLaw.key hkey) (HL.out.sub _ hlk)
    have hxs:x∈s.vs:=(List.mem_filter.1 hx).1
    have hrng:=HP.out.ids.rng x hxs
    have hib:i64 x.id:=⟨by omega,by omega⟩
    have ek:key= .int .i64 x.id:=intLaw.inj hkey (by rw[<-e];exact keyOf_int_mk Tryz.underlying3 (wfI hib))
    subst ek
    have ekl:kl=kI x.id:=e.symm
    subst ekl
    have ev:v=verV x:=by
     have h5:=HL.out.mp.at' x hx (verD noVer)
     have h6:=hat (verD noVer)
     rw[show D'.atKey (kI x.id) (verD noVer)=verD x from h5] at h6
     rw[<-h6] at hv
     exact verR_inv hv
    subst ev
    have hF3:Fr (· =r) wr w3:=Fr.ofGrown hgr3
    have hrf: ∀j,g'.foot pb j->j<r:=fun j hj=>by have:=HLT.out j (HL.out.ft j hj);omega
    have P3:=HL.out.at'.frame hF3 (fun j hj e' =>by have:=hrf j hj;omega)
    have HKEY:=Lib.hid hkey
    have HLK:=Lib.hid hlk
    have HRG3:=Lib.hid hrg3
    have HF3:=Lib.hid hF3
    have HP3:=Lib.hid P3
    have HX:=Lib.hid hx
    have HXS:=Lib.hid hxs
    have HIB:=Lib.hid hib
    have HRF:=Lib.hid hrf
    have hrw3:r<w3.heap.size:=by omega
    have hmeas:=hrg.left_eq
    have HMS:=Lib.hid hmeas
    clear hkey hlk hv hat hgr3 hs3 e hx hxs hrng hib hF3 hrf P3 hrg3 hrg hmeas
    unfold verV at hen ⊢
    cases hbad:badB a x
    · have hkeep:FLoop pb po R s g a am r s.vs.length w (fun z=>left z && !z.sameKey (kI x.id)) cnt3 D' g' w3:=by
       have e1:=gonS_keep (left:=left) HP.out.ids.nod HXS.out HLK.out hbad
       refine⟨by rw[e1];exact HP3.out,HRG3.out,by rw[e1];exact HL.out.mp,HL.out.am,fun q hq=>HL.out.sub q (by rw[Bool.and_eq_true] at hq;exact hq.1),HL.out.fr.next HF3.out (fun j hj e=>by omega),HL.out.ft⟩
      have hkeep2: ∀W,Below w3.heap.size w3 W->FLoop pb po R s g a am r s.vs.length w (fun z=>left z && !z.sameKey (kI x.id)) cnt3 D' g' W:=fun W hB=>
       ⟨hkeep.at'.below hB,ranges_frame hkeep.rg (Fr.new (F:=fun _=>False) hB) (fun e=>e) (fun e=>e),hkeep.mp,hkeep.am,hkeep.sub,hkeep.fr.trans (Fr.new hB),hkeep.ft⟩
      have HKP:=Lib.hid hkeep2
      clear hkeep hkeep2
      by_cases q1:0<x.en
      · have q2:decide (x.en<=a)=false:=by
         unfold badB at hbad
         simpa [q1] using hbad
        clear hbad
        go_wp2_with fail
        go_roundw
        case rel=>exact⟨_,cnt3,D',g',HKP.out _ ((Below.refl _ _).alloc (Nat.le_refl _) _),by simp;omega⟩
        case measure=>
         have:=(HKP.out _ ((Below.refl _ w3).alloc (Nat.le_refl _) (.cells #[.int .i64 x.key.kind,.int .i64 x.key.a,.string x.key.word,.int .i64 x.key.b,.string x.val,.int .i64 x.bg,.int .i64 x.en] 221))).rg.left_eq
         rw[this,HMS.out];exact hlt3
      · have q2:decide (0<x.en)=false:=by simpa using q1
        clear hbad q1
        go_wp2_with fail
        go_roundw
        case rel=>exact⟨_,cnt3,D',g',HKP.out _ ((Below.refl _ _).alloc (Nat.le_refl _) _),by simp;omega⟩
        case measure=>
         have:=(HKP.out _ ((Below.refl _ w3).alloc (Nat.le_refl _) (.cells #[.int .i64 x.key.kind,.int .i64 x.key.a,.string x.key.word,.int .i64 x.key.b,.string x.val,.int .i64 x.bg,.int .i64 x.en] 221))).rg.left_eq
         rw[this,HMS.out];exact hlt3
    · have q1:0<x.en:=by unfold badB at hbad;simp at hbad;exact hbad.1
      have q2:x.en<=a:=by unfold badB at hbad;simp at hbad;exact hbad.2
      have HBAD:=Lib.hid hbad
      have hkb:=HP.out.ids.key x HXS.out
      obtain⟨y,hy⟩: ∃y,treeFor g'.ts x.key=some y:=by
       cases hy:treeFor g'.ts x.key with
       | some y=>exact⟨y,rfl⟩
       | none=>
         obtain⟨z,hz,e⟩:=HP3.out.all x HX.out
         exact absurd e (treeFor_none hy z hz)
      obtain⟨hym,hyk⟩:=treeFor_some hy
      obtain⟨W4,hW4⟩: ∃W4,W4=w3.alloc (.cells #[.int .i64 x.key.kind,.int .i64 x.key.a,.string x.key.word,.int .i64 x.key.b,.string x.val,.int .i64 x.bg,.int .i64 x.en] 221):=⟨_,rfl⟩
      have hB4:Below w3.heap.size w3 W4:=by rw[hW4];exact(Below.refl _ _).alloc (Nat.le_refl _) _
      have hs4:W4.heap.size=w3.heap.size+1:=by rw[hW4];simp
      have hvc:W4.heap[w3.heap.size]? =some (.cells #[.int .i64 x.key.kind,.int .i64 x.key.a,.string x.key.word,.int .i64 x.key.b,.string x.val,.int .i64 x.bg,.int .i64 x.en] 221 (0,0)):=by rw[hW4];exact block_alloc_new w3 _
      have P4:=HP3.out.below hB4
      have P4d:=P4.below (Below.refl _ W4).drew
      have hlk:(Instr.lookup 124 (.map g'.tm) (.agg #[.int .i64 x.key.kind,.int .i64 x.key.a,.string x.key.word,.int .i64 x.key.b]) false).run Tryz.prog W4.drew= .ok (.pointer (some ⟨y.tb,0,none⟩)) W4.drew:=by
       have:=tree_look P4d.trees P4d.keyOk hkb
       rw[trPtr_some hy] at this
       exact this
      have hT4:TreeAt W4.drew y.tb ((x.fr,x.id,x.to)::itemsK (dropV (gonS s a left) x.id).vs x.key) y.t y.mb:=by
       have:=P4d.tree y hym
       rw[hyk] at this
       exact this.perm' (items_drop HP3.out.ids.nod HX.out)
      have hilen:((itemsK (gonS s a left).vs x.key).length:Int)<=s.next:=items_len HP3.out.ids x.key
      have hil2:((itemsK (dropV (gonS s a left) x.id).vs x.key).length:Int)<s.next:=by
       have:=(items_drop HP3.out.ids.nod HX.out).length_eq
       rw[List.length_cons] at this
       omega
      obtain⟨_,_,_,_,c4⟩:=past_cells P4.len P4.cells
      have v0:=block_cell hvc 0
      have v1:=block_cell hvc 1
      have v2:=block_cell hvc 2
      have v3:=block_cell hvc 3
      have v6:=block_cell hvc 6
      simp only[List.getElem?_toArray,List.getElem?_cons_zero,List.getElem?_cons_succ] at v0 v1 v2 v3 v6
      have hsl:w3.heap.size<W4.heap.size:=by omega
      have hrg4:=ranges_frame HRG3.out (Fr.new (F:=fun _=>False) hB4) (fun e=>e) (fun e=>e)
      have hF4:Fr (g.foot pb) w W4.drew:=((HL.out.fr.next HF3.out (fun j hj e=>by omega)).trans (Fr.new hB4)).drew
      have HRG4:=Lib.hid hrg4
      have HF4:=Lib.hid hF4
      have HP4:=Lib.hid P4d
      have HT4:=Lib.hid hT4
      have HW4:=Lib.hid hW4
      have HYM:=Lib.hid hym
      have HYK:=Lib.hid hyk
      clear hbad hkb hy hym hyk hW4 hB4 hs4 hvc P4 P4d hT4 hilen hrg4 hF4
      go_wp2_with fail
      rw[<-HW4.out]
      refine wp_region_tail 8 (by kernel_rfl) (by kernel_rfl) ?_
      simp only[List.take_succ_cons,List.take_zero,List.drop_succ_cons,List.drop_zero]
      repeat still_step
      refine wpStill_nil ?_
      go_wp2_with fail
      refine(tdrop_ok x.id x.fr x.to HIB.out W4.drew y.tb (itemsK (dropV (gonS s a left) x.id).vs x.key) y.t y.mb HT4.out (by omega)).mono ?_
      rintro e w5 ⟨t5,m5,rfl,T5,F5,G5⟩
      have F5' :Fr y.foot W4.drew w5:=F5
      have hyf: ∀j,y.foot j->g'.foot pb j:=fun j hj=> .inr (.inr (.inr ⟨y,HYM.out,hj⟩))
      have hyr: ¬y.foot r:=fun e=>by have:=HRF.out r (hyf r e);omega
      have hya: ¬y.foot am:=fun e=>(HP4.out.ne y HYM.out am e).2.1 HL.out.am
      have hc5:=F5'.keeps HP4.out.cells (fun e=>(HP4.out.ne y HYM.out pb e).1 rfl)
      have hrg5:=ranges_frame HRG4.out ((Fr.drew (Fr.refl _ W4)).trans F5') hya hyr
      obtain⟨_,_,_,c3,_⟩:=past_cells HP4.out.len hc5
      rw[HL.out.am] at c3
      have HT5:=Lib.hid T5
      have HF5:=Lib.hid F5'
      have HG5:=Lib.hid G5
      clear T5 F5 F5' G5 hyf hyr hya hc5 c4 v0 v1 v2 v3 v6 hlk
      go_wp2_with (at_delete;refine wpList_delete_ranges _ rfl _ _ 123 3 rfl 221 intLaw Tryz.underlying123 verR am r s.vs.length D' (fun z=>left z && !z.sameKey (kI x.id)) cnt3 rfl hrg5 _ _ rfl (keyOf_int_mk Tryz.underlying3 (wfI HIB.out)) ?_;intro w6 cnt6 hrg6 hle6 hturn6)
      have hrg7:w6.ranges Tryz.prog 3 verR am r s.vs.length (D'.del (kI x.id)) (fun z=>left z && !z.sameKey (kI x.id)) cnt6:=by
       have:=hrg6
       rw[show(Lit.int IntKind.i64 x.id)=kI x.id from rfl,Maps.strike_twice left (kI x.id)] at this
       exact this
      have F6:Fr (· =am) w5 w6:=Fr.ofGrown hturn6.grown
      obtain⟨g6,P6,a6,t6,F6',ft6,K6⟩:=past_drop (n:=s.vs.length) HP4.out HL.out.am HYM.out HYK.out HX.out HT5.out HF5.out HG5.out HL.out.mp hrg7.owns F6
      have hnew:FLoop pb po R s g a am r s.vs.length w (fun z=>left z && !z.sameKey (kI x.id)) cnt6 (D'.del (kI x.id)) g6 w6:=
       floop_drop HL.out HP.out.ids.nod HXS.out HBAD.out HLK.out P6 (a6.trans HL.out.am) (HF4.out.trans (F6'.mono (fun j _ hj=>HL.out.ft j hj))) ft6 hrg7
      have hs6:=F6'.size
      have hsl6:r<w6.heap.size:=by have:W4.drew.heap.size=W4.heap.size:=rfl;omega
      refine⟨?_,by rw[hnew.rg.left_eq,HMS.out];omega⟩
      repeat apply Exists.intro
      exact⟨⟨_,cnt6,_,g6,hnew,hsl6⟩,rfl⟩
theorem pforget_ok (a:Int) (pb po:Nat) (R:Rest) (s:Pst) (g:Gh) (w:World) (h:PastAt w pb po R s g) (hn:s.next<=4000) (hb:forgE s a=0):
  Calls Tryz.prog 112 #[.pointer (some ⟨pb,po,none⟩),.int .i64 a] w (PDone .nilIface pb po R (forgetP a s) g w):=by
 have hx:0<=a/\a<=s.now/\s.gone<=a:=by
  unfold forgE at hb
  split at hb
  · cases hb
  · split at hb
    · cases hb
    · omega
 cases ham:g.am with
 | none=>exact pforget_none a pb po R s g w h ham hx.1 hx.2.1 hx.2.2
 | some am=>exact pforget_some a pb po R s g am w h ham hx.1 hx.2.1 hx.2.2 hn
structure PastIs (w:World) (pb po:Nat) (R:Rest) (hist:List (List OpP)) (s:Pst) (g:Gh):Prop where
 at' :PastAt w pb po R s g
 wf:Wf s
 told:Told hist s
 next:s.next<=24*s.now
 len:hist.length<=150
theorem PastIs.now {w:World} {pb po:Nat} {R:Rest} {hist:List (List OpP)} {s:Pst} {g:Gh} (h:PastIs w pb po R hist s g):s.now=hist.length:=h.told.now
theorem PastIs.nx {w:World} {pb po:Nat} {R:Rest} {hist:List (List OpP)} {s:Pst} {g:Gh} (h:PastIs w pb po R hist s g):s.next<=3600:=by
 have h1:=h.next;have h2:=h.now;have h3:=h.len;omega
theorem PastIs.below {w w' :World} {pb po:Nat} {R:Rest} {hist:List (List OpP)} {s:Pst} {g:Gh} (h:PastIs w pb po R hist s g) (hb:Below w.heap.size w w'):PastIs w' pb po R hist s g:=⟨h.at'.below hb,h.wf,h.told,h.next,h.len⟩
theorem PastIs.frame {F:Nat->Prop} {w w' :World} {pb po:Nat} {R:Rest} {hist:List (List OpP)} {s:Pst} {g:Gh} (h:PastIs w pb po R hist s g) (hf:Fr F w w') (hn: ∀k,g.foot pb k-> ¬F k):PastIs w' pb po R hist s g:=⟨h.at'.frame hf hn,h.wf,h.told,h.next,h.len⟩
theorem wf0:Wf ⟨0,0,0,[]⟩:=⟨List.nodup_nil,(fun _ h=>by cases h),(fun _ h=>by cases h),(fun _ h=>by cases h),(fun _ h=>by cases h),(fun _ h=>by cases h),(fun _ h=>by cases h),Int.le_refl _,Int.le_refl _,Int.le_refl _⟩
theorem told0:Told [] ⟨0,0,0,[]⟩:=⟨rfl,Int.le_refl _,Int.le_refl _,fun k n t x _ hn=>by
 constructor
 · rintro⟨v,hv,_⟩;cases hv
 · rintro⟨h1,h2⟩
   simp[saidH,saidL] at h2
   rw[<-h2] at h1
   exact absurd rfl h1⟩
theorem past_is_new {w:World} {pb po:Nat} {R:Rest} (hl:R.pre.length=po) (h:w.heap[pb]? =some (.cells (pcells R 0 0 0 none none) R.ty (0,0))):PastIs w pb po R [] ⟨0,0,0,[]⟩ noGh:=
 ⟨past_new hl h,wf0,told0,by decide,by decide⟩
theorem foot_new {pb k:Nat} (h:noGh.foot pb k):k=pb:=by
 rcases h with h|h|h|⟨x,hx,_⟩
 · exact h
 · cases h
 · cases h
 · cases hx
def CommitIs (pb po:Nat) (R:Rest) (hist:List (List OpP)) (s:Pst) (g:Gh) (l:List OpP) (w:World) (e:Ending) (w' :World):Prop:=
 ∃s' g',e= .returned .nilIface/\PastIs w' pb po R (hist++ [l]) s' g' /\s'.gone=s.gone/\Fr (g.foot pb) w w' /\Grows g g' pb w
theorem commit_is (ao:Option Addr) (c:Nat) (l:List OpP) (pb po:Nat) (R:Rest) (hist:List (List OpP)) (s:Pst) (g:Gh) (w:World) (h:PastIs w pb po R hist s g) (hl:opsAt w ao l) (hsep:SepOps ao g pb) (hg:PowTab w) (hok:okL l=true) (hn:hist.length<150):
  Calls Tryz.prog 114 #[.pointer (some ⟨pb,po,none⟩),.slice ao l.length c] w (CommitIs pb po R hist s g l w):=by
 have hnow:=h.now
 have h1:=h.next
 refine(pcommit_ok ao c l pb po R s g w h.at' h.wf hl hsep hg hok (by omega) (by omega)).mono ?_
 rintro e w' ⟨g',rfl,P,F,G⟩
 obtain⟨c1,c2,c3,c4,c5⟩:=commit_ok h.wf h.told (okL_iff.1 hok).2
 have hl8:=(okL_iff.1 hok).1.2
 exact⟨_,g',rfl,⟨P,c1,c2,by rw[c4];omega,by rw[List.length_append];simp;omega⟩,c5,F,G⟩
theorem value_is (k:KeyP) (n:Nat) (t:Int) (pb po:Nat) (R:Rest) (hist:List (List OpP)) (s:Pst) (g:Gh) (w:World) (h:PastIs w pb po R hist s g) (hk:keyB k=true) (ht:timeB t=true) (h1:s.gone<=n) (h2:n<=hist.length):
  Calls Tryz.prog 118 #[.pointer (some ⟨pb,po,none⟩),.agg #[.int .i64 k.kind,.int .i64 k.a,.string k.word,.int .i64 k.b],.int .i64 (n:Nat),.int .i64 t] w fun e w' =>e= .returned (.tuple #[.string (saidH hist k n t),.nilIface])/\Below w.heap.size w w' :=by
 have ha:askE s n=0:=by unfold askE;rw[if_neg (by have:=h.now;omega),if_neg (by omega)]
 have:=pvalue_any k n t pb po R s g w h.at' (by have:=(wfkey hk).2;unfold maxLen;omega) (by have:=h.nx;omega)
 rw[valV_ok ha hk ht,value_told h.wf h.told ht h1 h2] at this
 exact this
def pcB (p:Pc):Bool:=rightB p.fr p.to && wordB p.val
theorem pieces_pcB {s:Pst} (h:Wf s) {k:KeyP} {a:Int} {L:List Pc} (hp:L.Perm (piecesU s.vs k a)) (hs:L.Pairwise fun p q=>p.fr<=q.fr): ∀p∈joinP L,pcB p=true:=by
 have hr:Rows L:=rows_of (fun p hp=>(piecesU_good h hp).1) (piecesU_apart h k a) hp hs
 obtain⟨c1,c2⟩:=join_spec hr
 intro p hpm
 have hg:=(c1.good p hpm).1
 obtain⟨q,hq,q1,q2⟩:=(c2 p.fr p.val).1 ⟨p,hpm,⟨Int.le_refl _,hg⟩,rfl⟩
 obtain⟨q',hq',q1',q2'⟩:=(c2 (p.to-1) p.val).1 ⟨p,hpm,⟨by omega,by omega⟩,rfl⟩
 obtain⟨_,r1,r2⟩:=piecesU_good h (hp.mem_iff.1 hq)
 obtain⟨_,r1',_⟩:=piecesU_good h (hp.mem_iff.1 hq')
 have b1:=rightB_bounds r1
 have b2:=rightB_bounds r1'
 have b3:=q1.1
 have b4:=q1'.2
 unfold pcB rightB
 rw[<-q2,r2]
 simp;omega
def PiecesIs (hist:List (List OpP)) (k:KeyP) (n:Nat) (w:World) (e:Ending) (w' :World):Prop:=
 ∃(v:Value) (L:List Pc),e= .returned (.tuple #[v,.nilIface])/\PiecesOf hist k n L/\(∀p∈L,pcB p=true)/\L.length<=3600/\w'.ownsRow w.heap.size 109 3 v L.length (flatP L)/\Below w.heap.size w w'
theorem pieces_is (k:KeyP) (n:Nat) (pb po:Nat) (R:Rest) (hist:List (List OpP)) (s:Pst) (g:Gh) (w:World) (h:PastIs w pb po R hist s g) (hk:keyB k=true) (h1:s.gone<=n) (h2:n<=hist.length):
  Calls Tryz.prog 139 #[.pointer (some ⟨pb,po,none⟩),.agg #[.int .i64 k.kind,.int .i64 k.a,.string k.word,.int .i64 k.b],.int .i64 (n:Nat)] w (PiecesIs hist k n w):=by
 have ha:askE s n=0:=by unfold askE;rw[if_neg (by have:=h.now;omega),if_neg (by omega)]
 have hnx:=h.nx
 refine(pPieces_ok k n pb po R s g w h.at' h.wf ha hk (by omega)).mono ?_
 rintro e w' ⟨v,L,rfl,hp,hs,hown,hb⟩
 refine⟨v,joinP L,rfl,pieces_told h.wf h.told h1 h2 hp hs,pieces_pcB h.wf hp hs,?_,hown,hb⟩
 have e1:=joinP_length L
 have e2:=hp.length_eq
 have e3:=piecesU_length h.wf k n
 have e4:=h.at'.ids.len
 omega
def KeysOut (hist:List (List OpP)) (n:Nat) (t:Int) (w:World) (e:Ending) (w' :World):Prop:=
 ∃(v:Value) (L:List KeyP),e= .returned (.tuple #[v,.nilIface])/\KeysIs hist n t L/\(∀k∈L,keyB k=true)/\L.length<=3600/\w'.ownsRow w.heap.size 97 4 v L.length (flatKeys L)/\Below w.heap.size w w'
theorem said_key {hist:List (List OpP)} (hok: ∀l∈hist,l.all opB=true) {k:KeyP} {n:Nat} {t:Int} (h:(saidH hist k n t).size≠0):keyB k=true:=by
 have : ∀(l:List OpP) (x:ByteArray),l.all opB=true->(saidL l k t x).size≠0->keyB k=true\/x.size≠0:=fun l=>by
  induction l with
  | nil=>intro x _ h;exact .inr h
  | cons o l ih=>
    intro x ha h
    simp only[List.all_cons,Bool.and_eq_true] at ha
    unfold saidL at h
    rw[List.foldl_cons] at h
    rcases ih _ ha.2 h with h1|h1
    · exact .inl h1
    · split at h1
      · rename_i hk
        exact .inl (by rw[hk.1];exact op_key ha.1)
      · exact .inr h1
 unfold saidH at h
 rcases this _ _ (List.all_eq_true.2 fun o ho=>by
  obtain⟨l,hl,ho⟩:=List.mem_flatten.1 ho
  exact List.all_eq_true.1 (hok l (List.mem_of_mem_take hl)) o ho) h with h1|h1
 · exact h1
 · exact absurd rfl h1
theorem keys_is (n:Nat) (t:Int) (pb po:Nat) (R:Rest) (hist:List (List OpP)) (s:Pst) (g:Gh) (w:World) (h:PastIs w pb po R hist s g) (hok: ∀l∈hist,l.all opB=true) (ht:timeB t=true) (h1:s.gone<=n) (h2:n<=hist.length):
  Calls Tryz.prog 117 #[.pointer (some ⟨pb,po,none⟩),.int .i64 (n:Nat),.int .i64 t] w (KeysOut hist n t w):=by
 have ha:askE s n=0:=by unfold askE;rw[if_neg (by have:=h.now;omega),if_neg (by omega)]
 have hnx:=h.nx
 refine(pkeys_ok n t pb po R s g w h.at' ha ht (by omega)).mono ?_
 rintro e w' ⟨v,L,rfl,hp,hm,hown,hll,hb⟩
 refine⟨v,L,rfl,⟨hp,fun k=> ?_⟩,fun k hk=>((hm k).1 hk).1,by omega,hown,hb⟩
 rw[hm,value_told h.wf h.told ht h1 h2]
 exact⟨fun h=>h.2,fun h=>⟨said_key hok h,h⟩⟩
def ForgetIs (pb po:Nat) (R:Rest) (hist:List (List OpP)) (a:Int) (g:Gh) (w:World) (e:Ending) (w' :World):Prop:=
 ∃s' g',e= .returned .nilIface/\PastIs w' pb po R hist s' g' /\s'.gone=a/\Fr (g.foot pb) w w' /\Grows g g' pb w
theorem forget_is (a:Int) (pb po:Nat) (R:Rest) (hist:List (List OpP)) (s:Pst) (g:Gh) (w:World) (h:PastIs w pb po R hist s g) (h1:s.gone<=a) (h2:a<=s.now):
  Calls Tryz.prog 112 #[.pointer (some ⟨pb,po,none⟩),.int .i64 a] w (ForgetIs pb po R hist a g w):=by
 have hg:=h.told.gone0
 have hnx:=h.nx
 refine(pforget_ok a pb po R s g w h.at' (by omega) (by unfold forgE;rw[if_neg (by omega),if_neg (by omega)])).mono ?_
 rintro e w' ⟨g',rfl,P,F,G⟩
 obtain⟨f1,f2⟩:=forget_ok h.wf h.told h1 h2
 exact⟨_,g',rfl,⟨P,f1,f2,h.next,h.len⟩,rfl,F,G⟩
def EverOut (hist:List (List OpP)) (k:KeyP) (n m:Nat) (f t:Int) (w:World) (e:Ending) (w' :World):Prop:=
 ∃(v:Value) (S:List ByteArray),e= .returned (.tuple #[v,.nilIface])/\EversIs hist k n m f t S/\w'.ownsRow w.heap.size 9 1 v S.length (S.map Value.string)/\Below w.heap.size w w'
theorem ever_is (k:KeyP) (n m:Nat) (f t:Int) (pb po:Nat) (R:Rest) (hist:List (List OpP)) (s:Pst) (g:Gh) (w:World) (h:PastIs w pb po R hist s g) (hk:keyB k=true) (hr:rightB f t=true) (h1:s.gone<=n) (hnm:n<=m) (h2:m<=hist.length):
  Calls Tryz.prog 130 #[.pointer (some ⟨pb,po,none⟩),.agg #[.int .i64 k.kind,.int .i64 k.a,.string k.word,.int .i64 k.b],.int .i64 (n:Nat),.int .i64 (m:Nat),.agg #[.int .i64 f,.int .i64 t]] w (EverOut hist k n m f t w):=by
 have ha:askE s n=0:=by unfold askE;rw[if_neg (by have:=h.now;omega),if_neg (by omega)]
 have hb:askE s m=0:=by unfold askE;rw[if_neg (by have:=h.now;omega),if_neg (by omega)]
 have hnx:=h.nx
 refine(pever_ok k n m f t pb po R s g w h.at' h.wf ha hb (by omega) hk hr (by omega)).mono ?_
 rintro e w' ⟨v,S,rfl,hp,hm,hown,hbl⟩
 exact⟨v,S,rfl,⟨hp,fun x=>by rw[hm,ever_told h.wf h.told h1 hnm h2 hr]⟩,hown,hbl⟩
end Go.Proofs.YtpgkjnebklknjaaGreatDoor
