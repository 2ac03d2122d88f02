/-strings.Builder at this seat,with its footprint:what a write may turn;the text that it holds. -/
import Derived.Shelf.Strings.Builder1
import Derived.Lib.UnsafeStr
import Derived.Test.YtpgkjnebklknjaaGreatDoorKitJr
import Derived.Test.YtpgkjnebklknjaaGreatDoorShelfJr
import Derived.Test.YtpgkjnebklknjaaGreatDoorFrameJr
namespace Go.Proofs.YtpgkjnebklknjaaGreatDoor
open Go.RowKit Go.Shelf
theorem bd_size:(Tryz.prog.info? 35).map (·.size)=some 2:=by kernel_rfl
theorem bd_lies:liesAt Tryz.prog Tryz.prog.depth 35 (2 / Tryz.prog.cellsOf 35) 0 35 1=true:=by kernel_rfl
theorem bd_byte:(Tryz.prog.info? 5).map (fun i=>(i.zero,i.size,i.bytes))=some (some (.int .u8 0),1,1):=by kernel_rfl
set_option maxHeartbeats 1000000 in
set_option maxRecDepth 100000 in
theorem bcheck_used (b:Nat) (w:World) (h0:w.cell? ⟨b,0,none⟩=some (.pointer (some ⟨b,0,none⟩))):
  Calls Tryz.prog 23 #[.pointer (some ⟨b,0,none⟩)] w fun e w' =>e= .returned (.tuple #[])/\w' =w:=by
 obtain⟨j,hj,_⟩:=Option.map_eq_some_iff.1 bd_size
 go_enter Tryz.func23,Tryz.ntmps23
 go_wp2
 rw[Lib.run_neq_ptr_same w _ Tryz.underlying32 hj]
 go_wp2
 go_end0
 exact⟨rfl,rfl⟩
set_option maxHeartbeats 1000000 in
set_option maxRecDepth 100000 in
theorem bcheck_fresh (b:Nat) (w:World) (h0:w.cell? ⟨b,0,none⟩=some (.pointer none)) (hsh:w.shape? b=some (35,2)) (hfz:w.frozen? ⟨b,0,none⟩=false):
  Calls Tryz.prog 23 #[.pointer (some ⟨b,0,none⟩)] w fun e w' =>e= .returned (.tuple #[])/\w' =w.setCell ⟨b,0,none⟩ (.pointer (some ⟨b,0,none⟩)):=by
 obtain⟨j,hj,hjs⟩:=Option.map_eq_some_iff.1 bd_size
 go_enter Tryz.func23,Tryz.ntmps23
 go_wp2
 rw[Lib.run_to_unsafe w ⟨b,0,none⟩ Tryz.underlying32 Tryz.underlying139 hj (by rw[hjs];decide) hsh (Nat.zero_lt_succ 1)]
 simp only[Result.andThen]
 rw[Oper.upon_value]
 go_wp2
 rw[run_callFunc_extern Tryz.func62 (by kernel_rfl) (by kernel_rfl) (by kernel_rfl) (e:=Extern.AbiNoEscape.same) (by kernel_rfl)]
 rw[Lib.run_noEscape]
 simp only[Result.andThen]
 rw[Oper.upon_value]
 go_wp2
 rw[Lib.run_from_unsafe w ⟨b,0,none⟩ Tryz.underlying139 Tryz.underlying32 hj hsh bd_lies]
 simp only[Result.andThen]
 rw[Oper.upon_value]
 go_wp2
 go_end0
 exact⟨rfl,rfl⟩
open Go.RowKit Go.Shelf Go.Deep
section
variable {P:Program} (w:World)
theorem run_append_text (base:Nat) (t u ty e:TypeId) (i:TypeInfo) (ht:P.underlying t=some (.slice e)) (hu:P.underlying u=some .string) (hi:P.info? e=some i) (hz:i.zero=some (.int .u8 0))
  (hsize:i.size=1) (hby:i.bytes=1) (v:Value) (n:Nat) (xs:List Value) (hown:w.ownsRow base e 1 v n xs) (s:ByteArray) (h63:n+s.size<=maxLen) (hbytes:n+s.size<=140737488355328) (hbase:base<=w.heap.size):
  ∃v' w',(Builtin.append_ #[t,u] ty #[v,.string s]).run P w= .ok v' w' /\w'.ownsRow base e 1 v' (n+s.size) (xs++Lib.strCells s)/\w.grownBy w' v.ownBlock/\(∀k,v'.ownBlock=some k->v.ownBlock=some k\/w.heap.size<=k):=by
 obtain⟨v',w',hr,h2,h3,_⟩:=Lib.run_append_own_string (P:=P) w base t u ty e i ht hu hi hz hsize hby v n xs hown s h63 hbytes hbase
 refine⟨v',w',hr,h2,h3,fun k hk=> ?_⟩
 have hxl:xs.length=n:=by simpa using hown.1
 rcases hown.2 with ⟨rfl,rfl⟩|⟨g,cap,cur,rfl,hbg,hg,hnc,hcm,hcs,htake⟩
 · obtain rfl:xs= []:=List.eq_nil_of_length_eq_zero hxl
   obtain⟨v2,w2,hr2,h4,_⟩:=Lib.run_append_own_string (P:=P) w w.heap.size t u ty e i ht hu hi hz hsize hby _ 0 [] (World.ownsRow_nil w w.heap.size e 1) s h63 hbytes (Nat.le_refl _)
   rw[hr] at hr2
   injection hr2 with e1 e2
   subst e1;subst e2
   exact .inr (h4.lt k hk).1
 · have hcs' :cur.size=cap:=by simpa using hcs
   by_cases hroom:n+s.size<=cap
   · have hr2:=Lib.run_append_room_string (P:=P) w t u ty e i ht hu hi hsize g n cap cur hg s hroom (by omega)
     rw[hr] at hr2
     injection hr2 with e1 e2
     subst e1
     exact .inl hk
   · have holds: ∀j u,xs[j]? =some u->w.cell? ((⟨g,0,none⟩:Addr).add j)=some u:=hown.cells (g:=g) rfl
     have hr2:=Lib.run_append_grow_string (P:=P) w t u ty e i (.int .u8 0) ht hu hi hz ⟨g,0,none⟩ n cap xs (by rw[hsize];simpa using hxl) holds s (by omega) (by unfold maxLen at h63;omega) (by rw[hby];exact growslice_fits (by omega) (by omega))
     rw[hr] at hr2
     injection hr2 with e1 e2
     subst e1
     refine .inr ?_
     have:k=w.heap.size:=by simpa [Value.ownBlock] using hk.symm
     omega
theorem wpList_append_text {ops:Array Oper} {rest:List Oper} {o:Oper} {a:Act} {Q:Exit->Act->World->Prop} (hgd:o.guard=none) (sl x:Operand) (t u:TypeId)
  (ho:o.op= .call { callee:= .builtin .append,args:= #[sl,x],argTypes:= #[t,u] }) (base:Nat) (e:TypeId) (i:TypeInfo) (ht:P.underlying t=some (.slice e)) (hu:P.underlying u=some .string) (hi:P.info? e=some i) (hz:i.zero=some (.int .u8 0))
  (hsize:i.size=1) (hby:i.bytes=1) (v:Value) (n:Nat) (xs:List Value) (hs:a.eval sl=v) (hown:w.ownsRow base e 1 v n xs) (s:ByteArray) (hx:a.eval x= .string s)
  (h63:n+s.size<=maxLen) (hbytes:n+s.size<=140737488355328) (hbase:base<=w.heap.size)
  (h: ∀v' w',w'.ownsRow base e 1 v' (n+s.size) (xs++Lib.strCells s)->w.grownBy w' v.ownBlock->(∀k,v'.ownBlock=some k->v.ownBlock=some k\/w.heap.size<=k)->wpList P ops Q rest (a.put o.dst v') w'):wpList P ops Q (o::rest) a w:=by
 refine wpList_plain hgd fun K hK=> ?_
 obtain⟨v',w',hr,h2,h3,h4⟩:=run_append_text (P:=P) w base t u o.type e i ht hu hi hz hsize hby v n xs hown s h63 hbytes hbase
 unfold Oper.wp execOp
 simp only[ho,resolve,invoke,builtin,Sem.run_bind,Sem.run_pure,Result.andThen_ok,List.map_toArray,List.map_cons,List.map_nil,hs,hx,hr]
 exact hK _ _ (h v' w' h2 h3 h4)
end
theorem own_frame {F:Nat->Prop} {w w' :World} {base:Nat} {e:TypeId} {size:Nat} {v:Value} {n:Nat} {xs:List Value} (h:w.ownsRow base e size v n xs) (hf:Fr F w w') (hn: ∀k,v.ownBlock=some k-> ¬F k):w'.ownsRow base e size v n xs:=
 ⟨h.1,h.2.imp id fun⟨g,cap,cur,h1,h2,h3,h4⟩=>⟨g,cap,cur,h1,h2,hf.keeps h3 (hn g (by rw[h1];rfl)),h4⟩⟩
structure Bld (B:Nat) (w:World) (b:Nat) (v:Value) (bs:List Value):Prop where
 lo:B<=b
 blk: ∃p,(p= .pointer none\/p= .pointer (some ⟨b,0,none⟩))/\w.heap[b]? =some (.cells #[p,v] 35 (0,0))
 own:w.ownsRow B 5 1 v bs.length bs
 ne:v.ownBlock≠some b
section
variable {B:Nat} {w w' :World} {b:Nat} {v:Value} {bs:List Value}
theorem Bld.new (w:World):Bld w.heap.size (w.alloc (.cells #[.pointer none,.slice none 0 0] 35)) w.heap.size (.slice none 0 0) []:=
 ⟨Nat.le_refl _,⟨_,.inl rfl,block_alloc_new _ _⟩,World.ownsRow_nil _ _ _ _,by simp[Value.ownBlock]⟩
theorem Bld.lt (h:Bld B w b v bs):b<w.heap.size:=by obtain⟨p,_,e⟩:=h.blk;exact lt_of_block e
theorem Bld.rlt (h:Bld B w b v bs): ∀k,v.ownBlock=some k->B<=k/\k<w.heap.size:=fun k hk=>h.own.lt k hk
theorem Bld.frame (h:Bld B w b v bs) {F:Nat->Prop} (hf:Fr F w w') (h1: ¬F b) (h2: ∀k,v.ownBlock=some k-> ¬F k):Bld B w' b v bs:=by
 obtain⟨p,hp,e⟩:=h.blk
 exact⟨h.lo,⟨p,hp,hf.keeps e h1⟩,own_frame h.own hf h2,h.ne⟩
theorem Bld.below (h:Bld B w b v bs) (hb:Below w.heap.size w w'):Bld B w' b v bs:=h.frame (F:=fun _=>False) (Fr.new hb) (fun e=>e) (fun _ _ e=>e)
theorem Bld.isB (h:Bld B w b v bs):Lib.IsBuilder 35 5 B b bs w:=by
 obtain⟨p,hp,e⟩:=h.blk
 rcases hp with rfl|rfl
 · exact .inl ⟨h.lo,v,e,h.own,h.ne⟩
 · exact .inr ⟨h.lo,v,e,h.own,h.ne⟩
theorem bcheck_bld (h:Bld B w b v bs):Calls Tryz.prog 23 #[.pointer (some ⟨b,0,none⟩)] w fun e w' =>e= .returned (.tuple #[])/\w'.heap[b]? =some (.cells #[.pointer (some ⟨b,0,none⟩),v] 35 (0,0))/\Fr (· =b) w w' :=by
 obtain⟨p,hp,e⟩:=h.blk
 rcases hp with rfl|rfl
 · have hA:Lib.BuilderAt 35 5 B b (.pointer none) bs w:=⟨h.lo,v,e,h.own,h.ne⟩
   refine(bcheck_fresh b w hA.cell0 hA.shape hA.frozen0).mono ?_
   rintro x w' ⟨rfl,rfl⟩
   exact⟨rfl,by have:=block_set e 0 (.pointer (some ⟨b,0,none⟩));simpa using this,Fr.setCell (F:=(· =b)) (p:=⟨b,0,none⟩) (Fr.refl _ _) (fun _=>rfl) _⟩
 · refine(bcheck_used b w (block_cell e 0)).mono ?_
   rintro x w' ⟨rfl,rfl⟩
   exact⟨rfl,e,Fr.refl _ _⟩
structure BldPost (B:Nat) (w:World) (b:Nat) (v:Value) (bs:List Value) (w' :World):Prop where
 at' : ∃v',Bld B w' b v' bs/\ ∀k,v'.ownBlock=some k->v.ownBlock=some k\/w.heap.size<=k
 fr:Fr (fun k=>k=b\/v.ownBlock=some k) w w'
set_option maxHeartbeats 2000000 in
set_option maxRecDepth 100000 in
theorem bwrite_bld (h:Bld B w b v bs) (s:ByteArray) (hlen:bs.length+s.size<=140737488355328) (hBw:B<=w.heap.size):
  Calls Tryz.prog 10 #[.pointer (some ⟨b,0,none⟩),.string s] w fun e w' =>e= .returned (.tuple #[.int .i64 s.size,.nilIface])/\BldPost B w b v (bs++Lib.strCells s) w' :=by
 obtain⟨i0,hi,hz0,hz1,hz2⟩:=info_parts bd_byte
 have HC:=Lib.hid (bcheck_bld h)
 have HH:=Lib.hid h
 clear h
 go_enter Tryz.func10,Tryz.ntmps10
 go_wp2_with (go_at_call 23;refine HC.out.mono ?_)
 rintro e w1 ⟨rfl,hbk,hf1⟩
 have hown:w1.ownsRow B 5 1 v bs.length bs:=own_frame HH.out.own hf1 (fun k hk e=>HH.out.ne (e▸hk))
 have hB1:B<=w1.heap.size:=Nat.le_trans hBw hf1.size
 have c0:w1.cell? ⟨b,0,none⟩=some (.pointer (some ⟨b,0,none⟩)):=block_cell hbk 0
 have c1:w1.cell? ⟨b,1,none⟩=some v:=block_cell hbk 1
 go_wp2_with (at_builtin;refine wpList_append_text _ rfl _ _ 33 9 rfl B 5 i0 Tryz.underlying33 Tryz.underlying9 hi hz0 hz1 hz2 _ _ _ rfl hown s rfl ?c3 ?c4 ?c5 ?_)
 case c3=>unfold maxLen;omega
 case c4=>omega
 case c5=>exact hB1
 intro v' w2 hown' hgrow hnew
 have hlt:b<w1.heap.size:=lt_of_block hbk
 have hb2:w2.heap[b]? =some (.cells #[.pointer (some ⟨b,0,none⟩),v] 35 (0,0)):=(hgrow.block b hlt (fun e=>HH.out.ne e.symm)).trans hbk
 have d0:w2.cell? ⟨b,0,none⟩=some (.pointer (some ⟨b,0,none⟩)):=block_cell hb2 0
 have d1:w2.cell? ⟨b,1,none⟩=some v:=block_cell hb2 1
 have f1:w2.frozen? ⟨b,1,none⟩=false:=block_free hb2 1
 have hblt2:b<w2.heap.size:=lt_of_block hb2
 obtain⟨ao,n',cap,rfl⟩: ∃ao n' cap,v' = .slice ao n' cap:=by
  rcases hown'.2 with ⟨hv,_⟩|⟨g,cap,cur,hv,_⟩
  · exact⟨_,_,_,hv⟩
  · exact⟨_,_,_,hv⟩
 have hne2:(Value.slice ao n' cap).ownBlock≠some b:=fun e=>by
  rcases hnew b e with e|e
  · exact HH.out.ne e
  · omega
 have hfr2:Fr (fun k=>k=b\/v.ownBlock=some k) w1 w2:=⟨hgrow.os,hgrow.tape,hgrow.output,hgrow.size,fun k hk hn=>hgrow.block k hk (fun e=>hn (.inr e.symm))⟩
 have hfr3:Fr (· =b) w2 (w2.setCell ⟨b,1,none⟩ (.slice ao n' cap)):=Fr.setCell (F:=(· =b)) (p:=⟨b,1,none⟩) (Fr.refl _ _) (fun _=>rfl) _
 have HF:Hid (Fr (fun k=>k=b\/v.ownBlock=some k) w (w2.setCell ⟨b,1,none⟩ (.slice ao n' cap))):=Lib.hid (((hf1.mono (fun _ _ e=> .inl e)).next hfr2 (fun _ _ e=>e)).next hfr3 (fun _ _ e=> .inl e))
 have HB:Hid (Bld B (w2.setCell ⟨b,1,none⟩ (.slice ao n' cap)) b (.slice ao n' cap) (bs++Lib.strCells s)):=Lib.hid ⟨HH.out.lo,⟨_,.inr rfl,by have:=block_set hb2 1 (.slice ao n' cap);simpa using this⟩,own_frame (by simpa [Lib.strCells_length] using hown') hfr3 (fun k hk e=>hne2 (e▸hk)),hne2⟩
 have HN:Hid (∀k,(Value.slice ao n' cap).ownBlock=some k->v.ownBlock=some k\/w.heap.size<=k):=Lib.hid fun k hk=>(hnew k hk).imp id fun e=>Nat.le_trans hf1.size e
 clear hown' hgrow hnew hfr2 hfr3 hf1 hne2 hbk hb2 hown
 go_wp2
 go_ret2
 exact⟨rfl,⟨_,HB.out,HN.out⟩,HF.out⟩
theorem byteCells_app (l:List UInt8) (s:ByteArray):Lib.byteCells l++Lib.strCells s=Lib.byteCells (l++s.data.toList):=by
 unfold Lib.byteCells Lib.strCells
 rw[List.map_append]
end
end Go.Proofs.YtpgkjnebklknjaaGreatDoor
