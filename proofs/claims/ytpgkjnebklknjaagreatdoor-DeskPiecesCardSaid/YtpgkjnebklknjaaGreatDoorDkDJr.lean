/-The program's desk:what a line's first word does:a method of the desk,out of a map that the call makes. -/
import Derived.Test.YtpgkjnebklknjaaGreatDoorDkMJr
import Derived.Test.YtpgkjnebklknjaaGreatDoorPsAJr
namespace Go.Proofs.YtpgkjnebklknjaaGreatDoor
open Go.RowKit Go.Deep Go.Shelf Go.Sort Go.Maps
def fnV (dk:Nat):Option Nat->Value
 | some n=> .func (.func n) #[.pointer (some ⟨dk,0,none⟩)] #[]
 | none=> .nilFunc
def fnD:Option Nat->DataW Unit
 | some n=> .lit (.int .i64 n)
 | none=> .lit (.bool false)
def fnR (dk:Nat):Value->Option (DataW Unit×List MemPlace)
 | .nilFunc=>some (.lit (.bool false),[])
 | .func (.func n) ⟨[.pointer (some ⟨b,0,none⟩)]⟩ ⟨[]⟩=>if b=dk then some (.lit (.int .i64 n),[]) else none
 | _=>none
theorem fnVT (dk:Nat):VT (fnR dk) fnD (fnV dk):=by
 refine⟨fun b=> ?_,fun v z h=> ?_,fun a b h=> ?_⟩
 · cases b with
   | none=>rfl
   | some n=>show(if _ then _ else _)=_;rw[if_pos rfl];rfl
 · unfold fnR at h
   split at h
   · cases h;exact⟨none,rfl,rfl⟩
   · split at h
     · rename_i n b hc
       subst hc
       cases h
       exact⟨some n,rfl,rfl⟩
     · cases h
   · cases h
 · cases a with
   | none=>cases b with
     | none=>rfl
     | some m=>cases h
   | some n=>cases b with
     | none=>cases h
     | some m=>simp only[fnD,DataW.lit.injEq,Lit.int.injEq,Int.ofNat_inj,true_and] at h;rw[h]
def fnTab:List (ByteArray×Nat):= [(⟨#[97,116]⟩,20),(⟨#[99,111,109,109,105,116]⟩,64),(⟨#[99,117,116]⟩,65),(⟨#[101,100,103,101,115]⟩,66),(⟨#[101,118,101,114]⟩,67),(⟨#[102,111,114,103,101,116]⟩,68),(⟨#[104,101,108,112]⟩,69),(⟨#[104,111,112,115]⟩,70),(⟨#[107,101,121,115]⟩,71),(⟨#[110,101,119]⟩,7),(⟨#[110,111,100,101,115]⟩,72),(⟨#[110,111,119]⟩,73),(⟨#[111,112,101,110]⟩,74),(⟨#[112,105,101,99,101,115]⟩,75),(⟨#[112,114,111,112]⟩,76),(⟨#[118,97,108,117,101]⟩,77),(⟨#[119,97,121]⟩,78)]
def putD (D:DataW Unit) (p:ByteArray×Nat):DataW Unit:=D.put (sK p.1) (fnD (some p.2))
def kD (p:ByteArray×Nat):Lit:=sK p.1
def vD (p:ByteArray×Nat):DataW Unit:=fnD (some p.2)
theorem tab_map: ∀(T:List (ByteArray×Nat)) {D:DataW Unit} {L:List (ByteArray×Nat)},MapOf kD vD D L->((T.map (·.1)).Nodup)->(∀p∈T,∀q∈L,q.1≠p.1)->MapOf kD vD (T.foldl putD D) (T.reverse++L)
 | [],D,L,h,_,_=>h
 | p ::T,D,L,h,hn,hd=>by
   rw[List.map_cons,List.nodup_cons] at hn
   have h1:MapOf kD vD (putD D p) (p::L):=h.put p (sK_key _) fun q hq e=>hd p (by simp) q hq (sK_inj e)
   have :=tab_map T h1 hn.2 fun r hr q hq=>by
    rcases List.mem_cons.1 hq with rfl|hq
    · exact fun e=>hn.1 (by rw[e];exact List.mem_map.2 ⟨r,hr,rfl⟩)
    · exact hd r (List.mem_cons_of_mem _ hr) q hq
   rw[List.foldl_cons,List.reverse_cons,List.append_assoc]
   exact this
theorem fnTab_map:MapOf kD vD (fnTab.foldl putD (.map [])) fnTab.reverse:=by
 have:=tab_map fnTab (D:= .map []) (L:= []) mapOf_nil (by decide) (fun p _ q hq=>by cases hq)
 rwa [List.append_nil] at this
def fnOf (name:ByteArray):Option Nat:=(fnTab.find? fun p=>decide (p.1=name)).map (·.2)
theorem fnTab_at (name:ByteArray):(Maps.has (fnTab.foldl putD (.map [])) (sK name)=(fnOf name).isSome)/\(fnTab.foldl putD (.map [])).atKey (sK name) (fnD none)=fnD (fnOf name):=by
 have hM:=fnTab_map
 unfold fnOf
 cases hf:fnTab.find? fun p=>decide (p.1=name) with
 | none=>
   have hno:=List.find?_eq_none.1 hf
   have h1:Maps.has (fnTab.foldl putD (.map [])) (sK name)=false:=hM.none (sK_key _) fun p hp e=>by
    have:=hno p (List.mem_reverse.1 hp)
    exact this (by simpa using sK_inj e)
   exact⟨h1,Maps.atKey_of_not_has h1 _⟩
 | some p=>
   have hm:=List.mem_of_find?_eq_some hf
   have hp:p.1=name:=by simpa using List.find?_some hf
   have h2:Maps.has (fnTab.foldl putD (.map [])) (sK name)=true:=(hM.has _ (sK_key _)).2 ⟨p,List.mem_reverse.2 hm,by rw[<-hp];rfl⟩
   refine⟨h2,?_⟩
   rw[<-hp]
   exact hM.at' p (List.mem_reverse.2 hm) _
set_option maxRecDepth 100000 in
set_option maxHeartbeats 4000000 in
theorem ddoes_any (dk:Nat) (name:ByteArray) (w:World) (hs:name.size<=maxLen):
  Calls Tryz.prog 28 #[.pointer (some ⟨dk,0,none⟩),.string name] w fun e w' =>e= .returned (fnV dk (fnOf name))/\Below w.heap.size w w' :=by
 have hmm:= @run_makeMap Tryz.prog
 have hmf: ∀(fn:Fn) (first cap:Array Value) (w:World),(Instr.makeFunc fn first cap).run Tryz.prog w= .ok (.func fn first cap) w:=fun _ _ _ _=>rfl
 obtain⟨mb,hmb⟩: ∃mb,mb=w.heap.size:=⟨_,rfl⟩
 obtain⟨W0,hW0⟩: ∃W0,W0=w.alloc (.map #[] 0):=⟨_,rfl⟩
 have b0:Below w.heap.size w W0:=by rw[hW0];exact(Below.refl _ _).alloc (Nat.le_refl _) _
 have o0:W0.ownsMap Tryz.prog 9 (fnR dk) mb 0 (.map []):=by rw[hW0,hmb];exact World.ownsMap_made _ _ _ _
 obtain⟨W1,r1,o1,g1⟩:=o0.update strLaw Tryz.underlying144 (by unfold maxLen;omega) (key:= .string ⟨#[97,116]⟩) (val:=fnV dk (some 20)) (keyOf_str (by unfold maxLen;decide)) ((fnVT dk).put (some 20))
 have b1:Below w.heap.size w W1:=b0.grown g1 b0.size (fun k hk=>by cases hk;omega)
 have R1:(Instr.mapUpdate 144 (.map (some mb)) (.string ⟨#[97,116]⟩) (.func (.func 20) #[.pointer (some ⟨dk,0,none⟩)] #[])).run Tryz.prog W0= .ok () W1:=r1
 obtain⟨W2,r2,o2,g2⟩:=o1.update strLaw Tryz.underlying144 (by unfold maxLen;omega) (key:= .string ⟨#[99,111,109,109,105,116]⟩) (val:=fnV dk (some 64)) (keyOf_str (by unfold maxLen;decide)) ((fnVT dk).put (some 64))
 have b2:Below w.heap.size w W2:=b1.grown g2 b1.size (fun k hk=>by cases hk;omega)
 have R2:(Instr.mapUpdate 144 (.map (some mb)) (.string ⟨#[99,111,109,109,105,116]⟩) (.func (.func 64) #[.pointer (some ⟨dk,0,none⟩)] #[])).run Tryz.prog W1= .ok () W2:=r2
 obtain⟨W3,r3,o3,g3⟩:=o2.update strLaw Tryz.underlying144 (by unfold maxLen;omega) (key:= .string ⟨#[99,117,116]⟩) (val:=fnV dk (some 65)) (keyOf_str (by unfold maxLen;decide)) ((fnVT dk).put (some 65))
 have b3:Below w.heap.size w W3:=b2.grown g3 b2.size (fun k hk=>by cases hk;omega)
 have R3:(Instr.mapUpdate 144 (.map (some mb)) (.string ⟨#[99,117,116]⟩) (.func (.func 65) #[.pointer (some ⟨dk,0,none⟩)] #[])).run Tryz.prog W2= .ok () W3:=r3
 obtain⟨W4,r4,o4,g4⟩:=o3.update strLaw Tryz.underlying144 (by unfold maxLen;omega) (key:= .string ⟨#[101,100,103,101,115]⟩) (val:=fnV dk (some 66)) (keyOf_str (by unfold maxLen;decide)) ((fnVT dk).put (some 66))
 have b4:Below w.heap.size w W4:=b3.grown g4 b3.size (fun k hk=>by cases hk;omega)
 have R4:(Instr.mapUpdate 144 (.map (some mb)) (.string ⟨#[101,100,103,101,115]⟩) (.func (.func 66) #[.pointer (some ⟨dk,0,none⟩)] #[])).run Tryz.prog W3= .ok () W4:=r4
 obtain⟨W5,r5,o5,g5⟩:=o4.update strLaw Tryz.underlying144 (by unfold maxLen;omega) (key:= .string ⟨#[101,118,101,114]⟩) (val:=fnV dk (some 67)) (keyOf_str (by unfold maxLen;decide)) ((fnVT dk).put (some 67))
 have b5:Below w.heap.size w W5:=b4.grown g5 b4.size (fun k hk=>by cases hk;omega)
 have R5:(Instr.mapUpdate 144 (.map (some mb)) (.string ⟨#[101,118,101,114]⟩) (.func (.func 67) #[.pointer (some ⟨dk,0,none⟩)] #[])).run Tryz.prog W4= .ok () W5:=r5
 obtain⟨W6,r6,o6,g6⟩:=o5.update strLaw Tryz.underlying144 (by unfold maxLen;omega) (key:= .string ⟨#[102,111,114,103,101,116]⟩) (val:=fnV dk (some 68)) (keyOf_str (by unfold maxLen;decide)) ((fnVT dk).put (some 68))
 have b6:Below w.heap.size w W6:=b5.grown g6 b5.size (fun k hk=>by cases hk;omega)
 have R6:(Instr.mapUpdate 144 (.map (some mb)) (.string ⟨#[102,111,114,103,101,116]⟩) (.func (.func 68) #[.pointer (some ⟨dk,0,none⟩)] #[])).run Tryz.prog W5= .ok () W6:=r6
 obtain⟨W7,r7,o7,g7⟩:=o6.update strLaw Tryz.underlying144 (by unfold maxLen;omega) (key:= .string ⟨#[104,101,108,112]⟩) (val:=fnV dk (some 69)) (keyOf_str (by unfold maxLen;decide)) ((fnVT dk).put (some 69))
 have b7:Below w.heap.size w W7:=b6.grown g7 b6.size (fun k hk=>by cases hk;omega)
 have R7:(Instr.mapUpdate 144 (.map (some mb)) (.string ⟨#[104,101,108,112]⟩) (.func (.func 69) #[.pointer (some ⟨dk,0,none⟩)] #[])).run Tryz.prog W6= .ok () W7:=r7
 obtain⟨W8,r8,o8,g8⟩:=o7.update strLaw Tryz.underlying144 (by unfold maxLen;omega) (key:= .string ⟨#[104,111,112,115]⟩) (val:=fnV dk (some 70)) (keyOf_str (by unfold maxLen;decide)) ((fnVT dk).put (some 70))
 have b8:Below w.heap.size w W8:=b7.grown g8 b7.size (fun k hk=>by cases hk;omega)
 have R8:(Instr.mapUpdate 144 (.map (some mb)) (.string ⟨#[104,111,112,115]⟩) (.func (.func 70) #[.pointer (some ⟨dk,0,none⟩)] #[])).run Tryz.prog W7= .ok () W8:=r8
 obtain⟨W9,r9,o9,g9⟩:=o8.update strLaw Tryz.underlying144 (by unfold maxLen;omega) (key:= .string ⟨#[107,101,121,115]⟩) (val:=fnV dk (some 71)) (keyOf_str (by unfold maxLen;decide)) ((fnVT dk).put (some 71))
 have b9:Below w.heap.size w W9:=b8.grown g9 b8.size (fun k hk=>by cases hk;omega)
 have R9:(Instr.mapUpdate 144 (.map (some mb)) (.string ⟨#[107,101,121,115]⟩) (.func (.func 71) #[.pointer (some ⟨dk,0,none⟩)] #[])).run Tryz.prog W8= .ok () W9:=r9
 obtain⟨W10,r10,o10,g10⟩:=o9.update strLaw Tryz.underlying144 (by unfold maxLen;omega) (key:= .string ⟨#[110,101,119]⟩) (val:=fnV dk (some 7)) (keyOf_str (by unfold maxLen;decide)) ((fnVT dk).put (some 7))
 have b10:Below w.heap.size w W10:=b9.grown g10 b9.size (fun k hk=>by cases hk;omega)
 have R10:(Instr.mapUpdate 144 (.map (some mb)) (.string ⟨#[110,101,119]⟩) (.func (.func 7) #[.pointer (some ⟨dk,0,none⟩)] #[])).run Tryz.prog W9= .ok () W10:=r10
 obtain⟨W11,r11,o11,g11⟩:=o10.update strLaw Tryz.underlying144 (by unfold maxLen;omega) (key:= .string ⟨#[110,111,100,101,115]⟩) (val:=fnV dk (some 72)) (keyOf_str (by unfold maxLen;decide)) ((fnVT dk).put (some 72))
 have b11:Below w.heap.size w W11:=b10.grown g11 b10.size (fun k hk=>by cases hk;omega)
 have R11:(Instr.mapUpdate 144 (.map (some mb)) (.string ⟨#[110,111,100,101,115]⟩) (.func (.func 72) #[.pointer (some ⟨dk,0,none⟩)] #[])).run Tryz.prog W10= .ok () W11:=r11
 obtain⟨W12,r12,o12,g12⟩:=o11.update strLaw Tryz.underlying144 (by unfold maxLen;omega) (key:= .string ⟨#[110,111,119]⟩) (val:=fnV dk (some 73)) (keyOf_str (by unfold maxLen;decide)) ((fnVT dk).put (some 73))
 have b12:Below w.heap.size w W12:=b11.grown g12 b11.size (fun k hk=>by cases hk;omega)
 have R12:(Instr.mapUpdate 144 (.map (some mb)) (.string ⟨#[110,111,119]⟩) (.func (.func 73) #[.pointer (some ⟨dk,0,none⟩)] #[])).run Tryz.prog W11= .ok () W12:=r12
 obtain⟨W13,r13,o13,g13⟩:=o12.update strLaw Tryz.underlying144 (by unfold maxLen;omega) (key:= .string ⟨#[111,112,101,110]⟩) (val:=fnV dk (some 74)) (keyOf_str (by unfold maxLen;decide)) ((fnVT dk).put (some 74))
 have b13:Below w.heap.size w W13:=b12.grown g13 b12.size (fun k hk=>by cases hk;omega)
 have R13:(Instr.mapUpdate 144 (.map (some mb)) (.string ⟨#[111,112,101,110]⟩) (.func (.func 74) #[.pointer (some ⟨dk,0,none⟩)] #[])).run Tryz.prog W12= .ok () W13:=r13
 obtain⟨W14,r14,o14,g14⟩:=o13.update strLaw Tryz.underlying144 (by unfold maxLen;omega) (key:= .string ⟨#[112,105,101,99,101,115]⟩) (val:=fnV dk (some 75)) (keyOf_str (by unfold maxLen;decide)) ((fnVT dk).put (some 75))
 have b14:Below w.heap.size w W14:=b13.grown g14 b13.size (fun k hk=>by cases hk;omega)
 have R14:(Instr.mapUpdate 144 (.map (some mb)) (.string ⟨#[112,105,101,99,101,115]⟩) (.func (.func 75) #[.pointer (some ⟨dk,0,none⟩)] #[])).run Tryz.prog W13= .ok () W14:=r14
 obtain⟨W15,r15,o15,g15⟩:=o14.update strLaw Tryz.underlying144 (by unfold maxLen;omega) (key:= .string ⟨#[112,114,111,112]⟩) (val:=fnV dk (some 76)) (keyOf_str (by unfold maxLen;decide)) ((fnVT dk).put (some 76))
 have b15:Below w.heap.size w W15:=b14.grown g15 b14.size (fun k hk=>by cases hk;omega)
 have R15:(Instr.mapUpdate 144 (.map (some mb)) (.string ⟨#[112,114,111,112]⟩) (.func (.func 76) #[.pointer (some ⟨dk,0,none⟩)] #[])).run Tryz.prog W14= .ok () W15:=r15
 obtain⟨W16,r16,o16,g16⟩:=o15.update strLaw Tryz.underlying144 (by unfold maxLen;omega) (key:= .string ⟨#[118,97,108,117,101]⟩) (val:=fnV dk (some 77)) (keyOf_str (by unfold maxLen;decide)) ((fnVT dk).put (some 77))
 have b16:Below w.heap.size w W16:=b15.grown g16 b15.size (fun k hk=>by cases hk;omega)
 have R16:(Instr.mapUpdate 144 (.map (some mb)) (.string ⟨#[118,97,108,117,101]⟩) (.func (.func 77) #[.pointer (some ⟨dk,0,none⟩)] #[])).run Tryz.prog W15= .ok () W16:=r16
 obtain⟨W17,r17,o17,g17⟩:=o16.update strLaw Tryz.underlying144 (by unfold maxLen;omega) (key:= .string ⟨#[119,97,121]⟩) (val:=fnV dk (some 78)) (keyOf_str (by unfold maxLen;decide)) ((fnVT dk).put (some 78))
 have b17:Below w.heap.size w W17:=b16.grown g17 b16.size (fun k hk=>by cases hk;omega)
 have R17:(Instr.mapUpdate 144 (.map (some mb)) (.string ⟨#[119,97,121]⟩) (.func (.func 78) #[.pointer (some ⟨dk,0,none⟩)] #[])).run Tryz.prog W16= .ok () W17:=r17
 have hD:W17.ownsMap Tryz.prog 9 (fnR dk) mb 17 (fnTab.foldl putD (.map [])):=o17
 obtain⟨v,ps,hlk,hv⟩: ∃v ps,(Instr.lookup 144 (.map (some mb)) (.string name) false).run Tryz.prog W17= .ok v W17/\fnR dk v=some ((fnTab.foldl putD (.map [])).atKey (sK name) (fnD none),ps):=by
  obtain⟨es,clock,hb,F,_,e⟩:=hD
  have hz:(zeroValue 31).run Tryz.prog W17= .ok .nilFunc W17:=by kernel_rfl
  rcases Maps.fit_look false strLaw Tryz.underlying144 hz hb F (keyOf_str hs) with ⟨hrun,_,hat⟩|⟨e0,y,_,_,hrun,hRv,hat,_⟩
  · exact⟨.nilFunc,[],hrun,by rw[e,hat];rfl⟩
  · exact⟨e0.val,y.2,hrun,by rw[e,hat];exact hRv⟩
 obtain⟨u,rfl,hu⟩:=(fnVT dk).inv _ _ hv
 simp only[Prod.mk.injEq] at hu
 have hu2:u=fnOf name:=(fnVT dk).inj _ _ (by rw[<-hu.1,(fnTab_at name).2])
 subst hu2
 obtain⟨fv,hfv⟩: ∃fv,fv=fnV dk (fnOf name):=⟨_,rfl⟩
 rw[<-hfv] at hlk
 have HW:=Lib.hid hW0
 have HM:=Lib.hid hmb
 have HB:=Lib.hid b17
 have HF:=Lib.hid hfv
 clear hW0 hmb hv hu hfv hD o0 o1 g1 r1 b1 o2 g2 r2 b2 o3 g3 r3 b3 o4 g4 r4 b4 o5 g5 r5 b5 o6 g6 r6 b6 o7 g7 r7 b7 o8 g8 r8 b8 o9 g9 r9 b9 o10 g10 r10 b10 o11 g11 r11 b11 o12 g12 r12 b12 o13 g13 r13 b13 o14 g14 r14 b14 o15 g15 r15 b15 o16 g16 r16 b16 o17 g17 r17 b17 b0
 go_enter Tryz.func28,Tryz.ntmps28
 go_wp2_with (rw[<-HW.out, <-HM.out])
 go_ret
 exact⟨by rw[HF.out];rfl,HB.out⟩
end Go.Proofs.YtpgkjnebklknjaaGreatDoor
