/-
  RunNew of the reference.  VictimsOf of the program. RunLeft of the program. Submit of the reference. Written by program (kx.py). RunNew of the program. Written 
-/
import Derived.Test.YtonlnjdempbfoaaGreatZSl3
import Derived.Test.YtonlnjdempbfoaaGreatZSl6
import Derived.Test.YtonlnjdempbfoaaGreatZSl8
import Derived.Test.YtonlnjdempbfoaaGreatZSl10
import Derived.Test.YtonlnjdempbfoaaGreatZSl11
namespace Go.Proofs.YtonlnjdempbfoaaGreat
open Go.RowKit
set_option maxRecDepth 100000
set_option maxHeartbeats 4000000
set_option linter.unusedVariables false
set_option linter.unusedSimpArgs false
open Value renaming int->J,slice->Aa
open IntKind renaming i64->U
open Option renaming none->Ab,some->Ac
open Below renaming setCell->Ad
open Nat renaming zero_le->Ag,le_trans->Ah
open Go renaming bodyPost_ret->Aj
open Go.Proofs.Tryz renaming prog->Am
open IntWalk renaming i64_in->Aq
open List renaming nodup_append->Ax,length_take->Az,mem_append_right->Be,mem_append_left->Bf,take_of_length_le->Bg,mem_append->Bi
open World renaming size_alloc->Bj
theorem Abd {b:Nat} {w:World} {u0 u1 u2 u3 u4 u5 u6 u7 v5:Value} (X:DBox b [u0,u1,u2,u3,u4,u5,u6,u7] w) {v0 v1 v2 v3:Value} {rest:List Value} :
  (results Tryz.f201 (v0 :: v1 :: v2 :: v3 :: .pointer (Ac ⟨b,0,Ab⟩) :: v5 :: rest).toArray).run Am w = .ok (.tuple #[.agg #[u0,u1,u2,u3,u4,u5,u6,u7],v5]) w:=by
 have c0:=X.cell 0 _ rfl;have c1:=X.cell 1 _ rfl;have c2:=X.cell 2 _ rfl;have c3:=X.cell 3 _ rfl;have c4:=X.cell 4 _ rfl;have c5:=X.cell 5 _ rfl;have c6:=X.cell 6 _ rfl;have c7:=X.cell 7 _ rfl;simp [results,Tryz.results201,go_sem,c0,c1,c2,c3,c4,c5,c6,c7]
theorem Nn {α:Type} (f:Nat->α) (k:Nat):(List.range (k+1)).map f=(List.range k).map f ++ [f k]:=by rw [List.range_succ,List.map_append];rfl
def Ab2 (r:Run) (w:World) (e:Ending) (w':World):Prop :=
 ∃ s F,e = .returned (.tuple #[Gw r s,.bool true])/\Ch.ow w' F r s/\(∀ b∈F,w<=b)/\Below w w w'
theorem Uo (id:Int) (p:Plan) (s:Sl) (w:World) (hid:inB id 1 9999=true) (hf:Co p=0) (h:Ca.rd w w p s) :
  Calls Am 201 #[.int .i64 id,Ja p s] w (Ab2 (Ci id p) w):=by
 have fM:=C9.1 hf;have hT:=Dw fM.1;have hE:=Ez fM.1;obtain ⟨A,n,c⟩:=s;obtain rfl:n=p.edges.length:=RdL.at1 (s:=⟨A,n,c⟩) h;have rE:=Bq (fun W (hW:Below w w W)=>((H8 h).below hW).more hW.size);have CP:=Bq (fun W (hW:Below w w W)=>Jv p ⟨A,p.edges.length,c⟩ W (by unfold Eb;rw [Fn (cnt:=D4) (fun _=>rfl)];omega) (Ca.rd_more (Ca.rd_below h hW) hW.size));have CF:=Bq (fun W (hW:Below w w W)=>Jg p (.slice A p.edges.length c) W Bl (rE.out W hW));have CB:=Bq (fun W (hW:Below w w W) t=>Nc p (.slice A p.edges.length c) t W fM.1 fM.2.1 fM.2.2.1 (rE.out W hW));rw [hf] at CF;obtain ⟨i0,aL,aS,aP,aQ⟩:=info_parts Ny;clear h fM hE hf;have X:=(DBox.new 43 [.int .i64 p.prio,.int .i64 p.most,.int .i64 p.wait,.int .i64 p.tasks,.slice A p.edges.length c] w (b:=w.heap.size) rfl).below ((Br _ _).alloc (Bs _) (.cells #[.int .i64 0,.int .i64 0,.int .i64 0,.int .i64 0,.int .i64 0,.slice Ab 0 0,.int .i64 0,.slice Ab 0 0] 89));have RES:=DBox.new 89 [.int .i64 0,.int .i64 0,.int .i64 0,.int .i64 0,.int .i64 0,.slice Ab 0 0,.int .i64 0,.slice Ab 0 0] (w.alloc (.cells #[.int .i64 p.prio,.int .i64 p.most,.int .i64 p.wait,.int .i64 p.tasks,.slice A p.edges.length c] 43)) (b:=w.heap.size+1) Bn;have B0:Below w w ((w.alloc (.cells #[.int .i64 p.prio,.int .i64 p.most,.int .i64 p.wait,.int .i64 p.tasks,.slice A p.edges.length c] 43)).alloc (.cells #[.int .i64 0,.int .i64 0,.int .i64 0,.int .i64 0,.int .i64 0,.slice Ab 0 0,.int .i64 0,.slice Ab 0 0] 89)):=by repeat (first | exact Br _ _ | refine Below.alloc ?_ Bo _)
 go_enter Tryz.func201,Tryz.ntmps201;go_wp2_with (go_at_call 155;refine (Ce _ _ _ _).mono ?_;rintro e w9 ⟨rfl,rfl⟩;rw [hid])
 generalize ((w.alloc (.cells #[.int .i64 p.prio,.int .i64 p.most,.int .i64 p.wait,.int .i64 p.tasks,.slice A p.edges.length c] 43)).alloc (.cells #[.int .i64 0,.int .i64 0,.int .i64 0,.int .i64 0,.int .i64 0,.slice Ab 0 0,.int .i64 0,.slice Ab 0 0] 89))=W at *
 refine (CF.out _ B0).mono ?_;rintro e1 w1 ⟨rfl,b1⟩;have dK:=RES.lt;replace X:=X.below b1;replace RES:=RES.below b1;obtain ⟨X_0,X_1,X_2,X_3,X_4,X_l⟩:=X.g5;have B1:=Bt B0 b1;have bL:=b1.size;clear B0 b1;go_wp2_with fail
 refine (CP.out _ B1).mono ?_;rintro e1 w2 ⟨⟨A3,n3,c3⟩,F,rfl,op,nF,b2⟩;clear X_0 X_1 X_2 X_3 X_4 X_l;replace X:=X.below b2;replace RES:=RES.below b2;have B2:=Bt B1 b2;have eL:=b2.size;have cH:=Ca.ow_lt op;clear B1 b2 CP CF;obtain ⟨X_0,X_1,X_2,X_3,X_4,X_l⟩:=X.g5;go_upto_region 4 with fail
 have RB:=DBox.new 89 [.int .i64 id,.int .i64 p.prio,.int .i64 p.most,.int .i64 p.wait,.int .i64 p.tasks,.slice A3 n3 c3,.int .i64 1,.slice Ab 0 0] w2 (b:=w2.heap.size) rfl;have b3:Below w2 w2 (w2.alloc (.cells #[.int .i64 id,.int .i64 p.prio,.int .i64 p.most,.int .i64 p.wait,.int .i64 p.tasks,.slice A3 n3 c3,.int .i64 1,.slice Ab 0 0] 89)):=(Br _ _).alloc (Bs _) _;clear X_0 X_1 X_2 X_3 X_4 X_l;replace X:=X.below b3;replace RES:=RES.below b3;replace op:=Ca.ow_below op b3;have B3:=Bt B2 b3;have jP:=b3.size;have hRB:=RB.lt;generalize w2.alloc (.cells #[.int .i64 id,.int .i64 p.prio,.int .i64 p.most,.int .i64 p.wait,.int .i64 p.tasks,.slice A3 n3 c3,.int .i64 1,.slice Ab 0 0] 89)=w3 at *
 generalize uN:w2.heap.size=rb at *
 have bV:∀ x∈F,w.heap.size+1<x/\x<rb:=fun x hx=>⟨by have:=nF x hx;omega,cH x hx⟩
 clear cH nF B2 b3;obtain ⟨T,tJ⟩:∃ T:Nat,p.tasks=T:=⟨p.tasks.toNat,Bl⟩
 have mR:=Bq tJ;have qQ:=Bq (show p.tasks.toNat=T by omega);have fH:T<=12:=Bl;clear tJ;have hH:Hid (Ci id p=⟨id,p,1,(List.range T).map (Dy p)⟩):=by
  show Ci id p=_;unfold Ci;rw [qQ.out]
 go_wp2;go_loopw [7] (fun i wr=>∃ (k:Nat) (vt:Value),k<=T/\i = .int .i64 k/\Hid (Ow E7 138 wr (rb+1) vt ((List.range k).map (Dy p)))/\DBox w [.int .i64 p.prio,.int .i64 p.most,.int .i64 p.wait,.int .i64 p.tasks,.slice A p.edges.length c] wr/\DBox (w.heap.size+1) [.int .i64 0,.int .i64 0,.int .i64 0,.int .i64 0,.int .i64 0,.slice Ab 0 0,.int .i64 0,.slice Ab 0 0] wr/\DBox rb [.int .i64 id,.int .i64 p.prio,.int .i64 p.most,.int .i64 p.wait,.int .i64 p.tasks,.slice A3 n3 c3,.int .i64 1,vt] wr/\Hid (Ca.ow wr F p ⟨A3,n3,c3⟩)/\Below w w wr/\rb<wr) (fun i _=>T - (intOf i).toNat);case atStart=>exact ⟨0,_,Ag _,rfl,Ow.nil E7 138 w3 (rb+1),X,RES,RB,op,B3,hRB⟩
 case round =>
  clear X RES RB op B3;obtain ⟨k,vt,hk,rfl,ho,X,RES,RB,op,hb,bK⟩:=hrel;obtain ⟨X_0,X_1,X_2,X_3,X_4,X_l⟩:=X.g5;obtain ⟨RB_0,RB_1,RB_2,RB_3,RB_4,RB_5,RB_6,RB_7,RB_l⟩:=RB.g8;by_cases aA:k<T
  ·have aB:(k:Int)<p.tasks:=by have:=mR.out;omega
   have hS:=Bq (Nn (Dy p) k);go_wp2_with fail
   refine (CB.out _ hb k).mono ?_;rintro e1 w4 ⟨vb,rfl,ob,b4⟩;obtain ⟨A9,c9,rfl,-⟩:=_root_.id (Rd.of_own ob);have eM:(Dq (Dn p) p.tasks.toNat k).length<=12:=by have h1:=Ij (Dn p) p.tasks.toNat k;have h2:=qQ.out;omega
   have hN:Hid (Dy p k=⟨if (Dq (Dn p) p.tasks.toNat k).length=0 then 2 else 1,(Dq (Dn p) p.tasks.toNat k).length,0,0⟩):=rfl;have uL:=Bq (show ((List.range k).map (Dy p)).length<=3000000 by simp;omega);generalize (Dq (Dn p) p.tasks.toNat k).length=N at *
   clear X_0 X_1 X_2 X_3 X_4 X_l;clear RB_0 RB_1 RB_2 RB_3 RB_4 RB_5 RB_6 RB_7 RB_l;have hb4s:=b4.size;have bQ:=hb.size;replace X:=X.below b4;replace RES:=RES.below b4;replace RB:=RB.below b4;replace op:=Ca.ow_below op.out b4;have dC:=ho.out.below b4;have bR:=Bt hb b4;clear ho b4 ob hb;obtain ⟨RB_0,RB_1,RB_2,RB_3,RB_4,RB_5,RB_6,RB_7,RB_l⟩:=RB.g8;have rbf:=RB.free;by_cases hz:N=0
   ·subst hz;have sJ:Hid (Dy p k=⟨2,0,0,0⟩):=by rw [if_pos rfl] at hN;exact hN
    clear hN;have b5:Below w4 w4 (w4.alloc (.cells #[.int .i64 2,.int .i64 0,.int .i64 0,.int .i64 0] 138)):=(Br _ _).alloc (Bs _) _;have XB:=DBox.new 138 [.int .i64 2,.int .i64 0,.int .i64 0,.int .i64 0] w4 (b:=w4.heap.size) rfl;go_upto_region 10 with fail
    clear RB_0 RB_1 RB_2 RB_3 RB_4 RB_5 RB_6 RB_7 RB_l;clear rbf;replace X:=X.below b5;replace RES:=RES.below b5;replace RB:=RB.below b5;replace op:=Ca.ow_below op b5;replace dC:=dC.below b5;replace bR:=Bt bR b5;have hb5s:=b5.size;clear b5;generalize w4.alloc (.cells #[.int .i64 2,.int .i64 0,.int .i64 0,.int .i64 0] 138)=w5 at *
    obtain ⟨RB_0,RB_1,RB_2,RB_3,RB_4,RB_5,RB_6,RB_7,RB_l⟩:=RB.g8;obtain ⟨XB_0,XB_1,XB_2,XB_3,XB_l⟩:=XB.g4;have rbf:=RB.free;have ha:Hid (∀ w:World,Below w w (w.alloc (.cells #[.int .i64 2,.int .i64 0,.int .i64 0,.int .i64 0] 138))):=fun w=>(Br _ _).alloc (Bs _) _;have HL:Hid (((List.range k).map (Dy p)).length=k):=by
     show ((List.range k).map (Dy p)).length=k;simp
    go_wp2_with (at_builtin;refine By _ E7 Bp rfl (.tmp 38) (.tmp 40) rfl Tryz.underlying87 aL aS aP aQ rfl (base:=rb+1) (l:=(List.range k).map (Dy p)) rfl (dC.below (ha.out w5)) rfl (Rd.one E7 _ _ ⟨2,0,0,0⟩ rfl rfl 1 (Bs _) (Nat.lt_succ_self _)) uL.out Bn Bp (by simp;omega) ?_;intro v5 w6 o6 g6 _;obtain ⟨⟨va,vn,vc⟩,rfl⟩:∃ s:Sl,v5 = .slice s.a s.n s.c:=(by obtain ⟨A7,c7,rfl,_⟩:=Rd.of_own o6;exact ⟨⟨A7,_,c7⟩,rfl⟩);have RB6:=(RB.below (ha.out w5)).off g6 (fun e=>by have:=dC.within _ e.symm;omega);have q7:=RB6.cell 7 _ rfl;have qf:=RB6.free;have ql:=RB6.lt)
    have aH:Below w w w6:=(Bt bR (ha.out w5)).grown g6 (Bt bR (ha.out w5)).size (fun g hg=>by have:=dC.within _ hg;omega);have X6:=(X.below (ha.out w5)).off g6 (fun e=>by have:=dC.within _ e.symm;omega);have RES6:=(RES.below (ha.out w5)).off g6 (fun e=>by have:=dC.within _ e.symm;omega);have op6:=(Ca.ow_keep (Ca.ow_below op (ha.out w5)) g6.size (fun b cK=>g6.block b (Ca.ow_lt (Ca.ow_below op (ha.out w5)) b cK) (fun e=>by have h1:=dC.within _ e.symm;have h2:=bV b cK;omega)))
    have eA:Ow E7 138 (w6.setCell ⟨rb,7,Ab⟩ (.slice va vn vc)) (rb+1) (.slice va vn vc) ((List.range (k+1)).map (Dy p)):=by
     rw [hS.out,sJ.out];exact o6.setOther (fun e=>by have h1:rb+1<=rb:=(o6.within _ e).1;omega) _
    exact ⟨⟨k+1,_,Bl,by go_num,eA,X6.setOther (by show w.heap.size≠rb;omega) _,RES6.setOther (by show w.heap.size+1≠rb;omega) _,RB6.set 7 Bn _,Ca.ow_set op6 (a:=⟨rb,7,Ab⟩) (fun hx=>by have h1:w.heap.size+1<rb/\rb<rb:=bV _ hx;omega) _,aH.setCell (by show w.heap.size<=rb;omega) _,by simp [World.setCell];omega⟩,by simp [intOf];omega⟩
   ·have sJ:Hid (Dy p k=⟨1,N,0,0⟩):=by rw [if_neg hz] at hN;exact hN
    have hNI:(0:Int)<(N:Int):=Bl;clear hN hz;have b5:Below w4 w4 (w4.alloc (.cells #[.int .i64 1,.int .i64 (N:Int),.int .i64 0,.int .i64 0] 138)):=(Br _ _).alloc (Bs _) _;have XB:=DBox.new 138 [.int .i64 1,.int .i64 (N:Int),.int .i64 0,.int .i64 0] w4 (b:=w4.heap.size) rfl;go_upto_region 10 with fail
    clear RB_0 RB_1 RB_2 RB_3 RB_4 RB_5 RB_6 RB_7 RB_l;clear rbf;replace X:=X.below b5;replace RES:=RES.below b5;replace RB:=RB.below b5;replace op:=Ca.ow_below op b5;replace dC:=dC.below b5;replace bR:=Bt bR b5;have hb5s:=b5.size;clear b5;generalize w4.alloc (.cells #[.int .i64 1,.int .i64 (N:Int),.int .i64 0,.int .i64 0] 138)=w5 at *
    obtain ⟨RB_0,RB_1,RB_2,RB_3,RB_4,RB_5,RB_6,RB_7,RB_l⟩:=RB.g8;obtain ⟨XB_0,XB_1,XB_2,XB_3,XB_l⟩:=XB.g4;have rbf:=RB.free;have ha:Hid (∀ w:World,Below w w (w.alloc (.cells #[.int .i64 1,.int .i64 (N:Int),.int .i64 0,.int .i64 0] 138))):=fun w=>(Br _ _).alloc (Bs _) _;have HL:Hid (((List.range k).map (Dy p)).length=k):=by
     show ((List.range k).map (Dy p)).length=k;simp
    go_wp2_with (at_builtin;refine By _ E7 Bp rfl (.tmp 38) (.tmp 40) rfl Tryz.underlying87 aL aS aP aQ rfl (base:=rb+1) (l:=(List.range k).map (Dy p)) rfl (dC.below (ha.out w5)) rfl (Rd.one E7 _ _ ⟨1,(N:Int),0,0⟩ rfl rfl 1 (Bs _) (Nat.lt_succ_self _)) uL.out Bn Bp (by simp;omega) ?_;intro v5 w6 o6 g6 _;obtain ⟨⟨va,vn,vc⟩,rfl⟩:∃ s:Sl,v5 = .slice s.a s.n s.c:=(by obtain ⟨A7,c7,rfl,_⟩:=Rd.of_own o6;exact ⟨⟨A7,_,c7⟩,rfl⟩);have RB6:=(RB.below (ha.out w5)).off g6 (fun e=>by have:=dC.within _ e.symm;omega);have q7:=RB6.cell 7 _ rfl;have qf:=RB6.free;have ql:=RB6.lt)
    have aH:Below w w w6:=(Bt bR (ha.out w5)).grown g6 (Bt bR (ha.out w5)).size (fun g hg=>by have:=dC.within _ hg;omega);have X6:=(X.below (ha.out w5)).off g6 (fun e=>by have:=dC.within _ e.symm;omega);have RES6:=(RES.below (ha.out w5)).off g6 (fun e=>by have:=dC.within _ e.symm;omega);have op6:=(Ca.ow_keep (Ca.ow_below op (ha.out w5)) g6.size (fun b cK=>g6.block b (Ca.ow_lt (Ca.ow_below op (ha.out w5)) b cK) (fun e=>by have h1:=dC.within _ e.symm;have h2:=bV b cK;omega)))
    have eA:Ow E7 138 (w6.setCell ⟨rb,7,Ab⟩ (.slice va vn vc)) (rb+1) (.slice va vn vc) ((List.range (k+1)).map (Dy p)):=by
     rw [hS.out,sJ.out];exact o6.setOther (fun e=>by have h1:rb+1<=rb:=(o6.within _ e).1;omega) _
    exact ⟨⟨k+1,_,Bl,by go_num,eA,X6.setOther (by show w.heap.size≠rb;omega) _,RES6.setOther (by show w.heap.size+1≠rb;omega) _,RB6.set 7 Bn _,Ca.ow_set op6 (a:=⟨rb,7,Ab⟩) (fun hx=>by have h1:w.heap.size+1<rb/\rb<rb:=bV _ hx;omega) _,aH.setCell (by show w.heap.size<=rb;omega) _,by simp [World.setCell];omega⟩,by simp [intOf];omega⟩
  ·have aB:¬ (k:Int)<p.tasks:=by have:=mR.out;omega
   have hkT:k=T:=Bl;subst hkT;have rf:=RES.free;have RES_0:=RES.cell 0 _ rfl;have RES_1:=RES.cell 1 _ rfl;have RES_2:=RES.cell 2 _ rfl;have RES_3:=RES.cell 3 _ rfl;have RES_4:=RES.cell 4 _ rfl;have RES_5:=RES.cell 5 _ rfl;have RES_6:=RES.cell 6 _ rfl;have RES_7:=RES.cell 7 _ rfl;have ho1:=ho.out;obtain ⟨⟨ta,tn,tc⟩,Ft,rfl,ot,nt⟩:=So ho1;go_wp2;have e1:w.heap.size+1∉F:=fun hx=>by have:=bV _ hx;omega
   have e2:w.heap.size+1∉Ft:=fun hx=>by have:=nt _ hx;omega
   refine Aj (Abd (DBox.row8 RES rfl _ _ _ _ _ _ _ _)) rfl ⟨(⟨A3,n3,c3⟩,⟨ta,tn,tc⟩),F ++ Ft,by rw [hH.out],⟨F,Ft,rfl,?_,?_,?_⟩,?_,?_⟩
   ·rw [Ax];refine ⟨Ca.ow_nodup op.out,ot.nodup,fun u hu u' hu' e=>?_⟩
    have:=bV u hu
    have:=nt u' hu'
    omega
   ·rw [hH.out];show Ca.ow _ F p _;exact (by (repeat (refine Dt.ow_set Ca ?_ e1 _));exact op.out)
   ·rw [hH.out];show OwL Ee _ Ft _ ((List.range k).map (Dy p));exact ((((((((ot.set (a:=⟨w.heap.size+1,_,Ab⟩) e2 _).set (a:=⟨w.heap.size+1,_,Ab⟩) e2 _).set (a:=⟨w.heap.size+1,_,Ab⟩) e2 _).set (a:=⟨w.heap.size+1,_,Ab⟩) e2 _).set (a:=⟨w.heap.size+1,_,Ab⟩) e2 _).set (a:=⟨w.heap.size+1,_,Ab⟩) e2 _).set (a:=⟨w.heap.size+1,_,Ab⟩) e2 _).set (a:=⟨w.heap.size+1,_,Ab⟩) e2 _)
   ·intro x hx;rcases Bi.1 hx with hx | hx
    ·have:=bV x hx;omega
    ·have:=nt x hx;have:=bL;omega
   ·repeat (first | (with_reducible exact hb) | refine Ad ?_ Bo _)
theorem Xn {home d k:Nat} (h:k<3):(D9 home d).take (k+1)=(D9 home d).take k ++ [(home+1+(d % 3+k) % 3) % 4]:=by
 have h1:(max (d:Int) 0 % 3).toNat=d % 3:=Bl;unfold D9;rw [h1,Int.toNat_natCast];rcases (show k=0\/k=1\/k=2 by omega) with rfl | rfl | rfl<;>rfl
theorem Sg (n lo hi:Int) (w:World) (h:lo<=n/\n<=hi):Calls Am 136 #[J U n,J U lo,J U hi] w fun e w'=>e = .returned (J U n)/\w=w':=by
 have h1:max lo (min n hi)=n:=Bl;have h2:min (max n lo) hi=n:=Bl;have h3:min hi (max n lo)=n:=Bl;have h4:max (min n hi) lo=n:=Bl;go_enter Tryz.func136,Tryz.ntmps136;go_wp2;go_ret;exact ⟨Dc (show min n hi=n by omega),rfl⟩
theorem Sh (home d:Nat) (w:World) (hh:home<4) (hd:d<=1000000000) :
  Calls Am 71 #[.int .i64 (home:Int),.int .i64 (d:Int)] w fun e w'=>∃ v,e = .returned v/\Ow Ec 3 w' w v (D9 home d)/\Below w w w':=by
 obtain ⟨j0,cB,jz0,jz1,jz2⟩:=info_parts Qv;have CB:=Bq (fun W=>Sg (home:Int) 0 3 W Bl);have hmx:max (d:Int) 0=d:=Bl;have rD:(d:Int).tmod 3=((d % 3:Nat):Int):=by
  rw [Int.tmod_eq_emod_of_nonneg Bl];omega
 have hm3:=Nat.mod_lt d (show 0<3 by decide);have hT:=Bq (fun k h=>Xn (home:=home) (d:=d) (k:=k) h);have wD:U.wrap ((d % 3:Nat):Int)=((d % 3:Nat):Int):=Aq _ Bl;have wH:U.wrap ((home:Int)+1)=(home:Int)+1:=Aq _ Bl;have hV:=Bq (show (D9 home d).length=3 by unfold D9;simp);generalize D9 home d=V at *
 generalize d % 3=m at *
 go_enter Tryz.func71,Tryz.ntmps71;go_wp2_with (go_at_call 136;refine (CB.out _).mono ?_;rintro e w1 ⟨rfl,rfl⟩)
 go_loopw [5,6] (fun v j wr=>∃ k:Nat,k<=3/\j = .int .i64 (k:Int)/\Hid (Ow Ec 3 wr w v (V.take k))/\Below w w wr) (fun _ j _=>3 - (intOf j).toNat);case atStart=>exact ⟨0,Ag _,rfl,Ow.nil _ _ _ _,Br _ _⟩
 case round =>
  obtain ⟨k,hk,rfl,hO,hb⟩:=hrel;by_cases aA:k<3
  ·have aB:(k:Int)<3:=Bl;have S:=Bq (hT.out k aA);have wA:U.wrap ((m:Int)+(k:Int))=(m:Int)+(k:Int):=Aq _ Bl;have rA:((m:Int)+(k:Int)).tmod 3=(((m+k) % 3:Nat):Int):=by
    rw [Int.tmod_eq_emod_of_nonneg Bl];omega
   have hq3:=Nat.mod_lt (m+k) (show 0<3 by decide);have wB:U.wrap (((m+k) % 3:Nat):Int)=(((m+k) % 3:Nat):Int):=Aq _ Bl;generalize (m+k) % 3=q at *
   have wC:U.wrap ((home:Int)+1+(q:Int))=(home:Int)+1+(q:Int):=Aq _ Bl;have rC:((home:Int)+1+(q:Int)).tmod 4=(((home+1+q) % 4:Nat):Int):=by
    rw [Int.tmod_eq_emod_of_nonneg Bl];omega
   have wE:U.wrap (((home+1+q) % 4:Nat):Int)=(((home+1+q) % 4:Nat):Int):=Aq _ Bl;have Hl:=Bq (show (V.take k).length<=3000000 by rw [Az];omega);generalize (home+1+q) % 4=x at *
   have ha:Hid (∀ w:World,Below w w (w.alloc (.cells #[.int .i64 (x:Int)] 3))):=fun w=>(Br _ _).alloc (Bs _) _;have cN:=hO.out;have cC:=hb.size;go_wp2_with (at_builtin;refine By _ Ec Bp rfl (.tmp 13) (.tmp 24) rfl Tryz.underlying26 cB jz0 jz1 jz2 rfl (base:=w.heap.size) (l:=V.take k) rfl (cN.below (ha.out wr)) rfl (Rd.one Ec _ _ x rfl rfl 1 (Bs _) (Nat.lt_succ_self _)) Hl.out Bn Bp (by simp;omega) ?_;intro v5 w5 o5 g5 _)
   have eK:Below w w w5:=(Bt hb (ha.out wr)).grown g5 (Bt hb (ha.out wr)).size (fun g hg=>by have:=cN.within _ hg;omega);exact ⟨⟨k+1,Bl,by go_num,by rw [S.out];exact o5,eK⟩,by simp [intOf];omega⟩
  ·have aB:¬ (k:Int)<3:=Bl;have cN:=hO.out;rw [Bg (by have:=hV.out;omega)] at cN;clear hO;go_wp2;go_ret;exact ⟨_,rfl,cN,hb⟩
theorem Ad2 {r:Run} (h:Gn r) (hS:r.state=1):∀ k (hk:k<r.tasks.length),r.tasks[k].state≠5:=by
 have h1:=h.2.2.2.2.1;rw [hS] at h1;unfold stL at h1;have h0:Dl r.tasks 5=0:=by
  split at h1
  ·omega
  split at h1
  ·omega
  split at h1
  ·omega
  split at h1
  ·next h=>exact h.1
  ·omega
 exact fun k hk=>Wd.1 h0 _ (List.getElem_mem hk)
theorem Ac5 {b:Nat} {w:World} {u0 u1 u2 u3 u4 u5 u6 u7:Value} (X:DBox b [u0,u1,u2,u3,u4,u5,u6,u7] w) {v0 v1:Value} {rest:List Value} :
  (results Tryz.f177 (v0 :: v1 :: .pointer (Ac ⟨b,0,Ab⟩) :: rest).toArray).run Am w = .ok (.agg #[u0,u1,u2,u3,u4,u5,u6,u7]) w:=by
 obtain ⟨c0,c1,c2,c3,c4,c5,c6,c7,-⟩:=X.g8;simp [results,Tryz.results177,go_sem,c0,c1,c2,c3,c4,c5,c6,c7]
theorem Xo (r:Run) (s:Sl×Sl) (w:World) (hl:Cw r<=2000000) (hR:Gn r) (hS:r.state=1) (h:Ch.rd w w r s) :
  Calls Am 177 #[Gw r s] w (Di Ch Gw (Dm r 4) w):=by
 have CP:=Bq (fun W (hW:Below w w W)=>M0 r s W hl (Ch.rd_more (Ch.rd_below h hW) hW.size));have CR:=Bq (fun W (hW:Below w w W)=>Og r s W hl (Ch.rd_more (Ch.rd_below h hW) hW.size));rw [Dj hR] at CR;have aJ:=Dp hR;have hp:0<r.tasks.length:=Bl;have h5:=Bq (Ad2 hR hS);obtain ⟨⟨A1,n1,c1⟩,⟨A2,n2,c2⟩⟩:=s;obtain rfl:n2=r.tasks.length:=RdL.at1 (s:=⟨A2,n2,c2⟩) h.2;clear h hl hR;have bL:(r.state == 1)=true:=by simp [hS]
 clear hS;obtain ⟨W,aG,X,RES,B0⟩:=bx2 w 89 [J U r.id,J U r.plan.prio,J U r.plan.most,J U r.plan.wait,J U r.plan.tasks,Aa A1 n1 c1,J U r.state,Aa A2 r.tasks.length c2] 89 [J U 0,J U 0,J U 0,J U 0,J U 0,Aa Ab 0 0,J U 0,Aa Ab 0 0];go_enter Tryz.func177,Tryz.ntmps177;go_wp2_with fail
 rw [<-aG.out];clear aG;refine (CP.out _ B0).mono ?_;rintro e w1 ⟨⟨⟨A3,n3,c3⟩,⟨A4,n4,c4⟩⟩,F,rfl,o1,nF,b1⟩;obtain ⟨F1,F2,rfl,bN,op,ot⟩:=o1;replace ot:OwL Ee w1 F2 (Aa A4 n4 c4) r.tasks:=ot;obtain rfl:n4=r.tasks.length:=RdL.at1 (s:=⟨A4,n4,c4⟩) ot.rd;have oh:=Mp ot;clear ot CP;obtain ⟨b,o,rfl,aH,d0,d1,d2,d3⟩:=oh.rd.tsk hp;clear d0 d1 d2 d3;obtain ⟨rfl,bQ,pV⟩:=oh.block hp;have dK:=RES.lt;have b2:Below w1 w1 (w1.alloc (.cells #[J U r.id,J U r.plan.prio,J U r.plan.most,J U r.plan.wait,J U r.plan.tasks,Aa A3 n3 c3,J U r.state,Aa (Ac ⟨b,o,Ab⟩) r.tasks.length c4] 89)):=(Br _ _).alloc (Bs _) _;have OB:=DBox.new 89 [J U r.id,J U r.plan.prio,J U r.plan.most,J U r.plan.wait,J U r.plan.tasks,Aa A3 n3 c3,J U r.state,Aa (Ac ⟨b,o,Ab⟩) r.tasks.length c4] w1 (b:=w1.heap.size) rfl;have cL:=Bq (show ∀ x∈F1 ++ [b],w.heap.size+1<x from fun x hx=>by have:=nF x hx;omega);have eD:=Bq (show ∀ x∈F1,x<w1 from fun x hx=>(Ca.ow_lt op) x hx);have eS:b∉F1:=fun hx=>(Ax.1 bN).2.2 b hx b Bn rfl;have b12:=Bt b1 b2;replace X:=X.below b12;replace RES:=RES.below b12;replace B0:=Bt B0 b12;replace oh:=oh.below b2;replace op:=Ca.ow_below op b2;have hs1w:=b1.size;clear b1 b2 b12 nF aH pV;go_upto_region 2 with fail
 have cJ:w.heap.size+1<w1.heap.size:=Bl;have hoF:w1.heap.size∉F1:=fun hx=>by have:=eD.out _ hx;omega
 have hob2:w1≠b:=Bl;clear eD bQ hs1w;generalize w1.heap.size=ob at *
 generalize w1.alloc (.cells #[J U r.id,J U r.plan.prio,J U r.plan.most,J U r.plan.wait,J U r.plan.tasks,Aa A3 n3 c3,J U r.state,Aa (Ac ⟨b,o,Ab⟩) r.tasks.length c4] 89)=w2 at *
 have X_:=X.g8;go_wp2_with fail
 refine (CR.out _ B0).mono ?_;rintro e w3 ⟨rfl,b3⟩;clear X_;replace X:=X.below b3;replace RES:=RES.below b3;replace OB:=OB.below b3;replace B0:=Bt B0 b3;replace oh:=oh.below b3;replace op:=Ca.ow_below op b3;clear b3 CR;have CL:=Bq (Om ob 0 b o c4 r.tasks (-1) w3 (OB.cell 7 _ rfl) OB.lt hob2 Bl hp oh (fun k hk=>⟨fun h=>absurd h (h5.out k hk),fun h=>Bl⟩));have X_:=X.g8;go_wp2_with fail
 refine CL.out.mono ?_;rintro e w4 ⟨rfl,oh4,hc⟩;clear X_;clear X CL oh h5;have aV:=B0.size;have hbA:=cL.out b Bn;have kF:=Bq (show ∀ x,x∈[b]->x=b from fun x hx=>by simpa using hx);have op4:=Ca.ow_chg op hc (fun x hx h=>by have:=kF.out x h;subst this;exact eS hx);replace B0:=B0.trans (hc.below (base:=w.heap.size) aV (fun x hx=>by have:=kF.out x hx;omega));replace RES:=RES.chg hc (fun hx=>by have:=kF.out _ hx;omega);replace OB:=OB.chg hc (fun hx=>hob2 (kF.out _ hx));clear hc op;have OB_:=OB.g8;have obf:=OB.free;go_upto_region 5 with fail
 clear OB_;clear obf;replace OB:DBox ob [J U r.id,J U r.plan.prio,J U r.plan.most,J U r.plan.wait,J U r.plan.tasks,Aa A3 n3 c3,J U r.state,Aa (Ac ⟨b,o,Ab⟩) r.tasks.length c4] w4:=OB;have qD:ob∉[b]:=fun hx=>hob2 (kF.out _ hx);replace OB:=OB.set 6 Bn (J U 4);replace RES:=RES.setOther (a:=⟨ob,6,Ab⟩) (by show w.heap.size+1≠ob;omega) (J U 4);have oh5:=oh4.set (a:=⟨ob,6,Ab⟩) qD (J U 4);have op5:=Ca.ow_set op4 (a:=⟨ob,6,Ab⟩) hoF (J U 4);replace B0:Below w w (w4.setCell ⟨ob,6,Ab⟩ (J U 4)):=Ad B0 (by show w.heap.size<=ob;omega) _;clear oh4 op4;generalize w4.setCell ⟨ob,6,Ab⟩ (J U 4)=w5 at *
 replace OB:DBox ob [J U r.id,J U r.plan.prio,J U r.plan.most,J U r.plan.wait,J U r.plan.tasks,Aa A3 n3 c3,J U 4,Aa (Ac ⟨b,o,Ab⟩) r.tasks.length c4] w5:=OB;have OB_:=OB.g8;have RES_:=RES.g8;have rf:=RES.free;go_wp2;refine Aj (Ac5 (DBox.row8 RES rfl _ _ _ _ _ _ _ _)) rfl ⟨(⟨A3,n3,c3⟩,⟨Ac ⟨b,o,Ab⟩,r.tasks.length,c4⟩),F1 ++ [b],rfl,⟨F1,[b],rfl,bN,?_,?_⟩,?_,?_⟩
 ·have e2:w.heap.size+1∉F1:=fun hx=>by have:=cL.out _ (Bf _ hx);omega
  show Ca.ow _ F1 r.plan _;exact (by (repeat (refine Dt.ow_set Ca ?_ e2 _));exact op5)
 ·have e1:w.heap.size+1∉[b]:=fun hx=>by have:=kF.out _ hx;omega
  show OwL Ee _ [b] _ (r.tasks.map Df);have hL:r.tasks.length=(r.tasks.map Df).length:=by rw [List.length_map]
  show OwL Ee _ [b] (Aa (Ac ⟨b,o,Ab⟩) r.tasks.length c4) (r.tasks.map Df);exact Gg (by (repeat (refine Hw.set ?_ e1 _));exact oh5)
 ·intro x hx
  have:=cL.out x hx
  omega
 ·repeat (first | (with_reducible exact B0) | refine Ad ?_ Bo _)
section
open Classical in
noncomputable def Ix (y:Yard) (id:Int) (p:Plan):Int :=
 if ¬ Dd y then 8 else if inB id 1 9999=false then 5 else if 0<=Da y id then 6 else if ¬ Co p=0 then Co p else if Ln y p=false then 7 else 0
noncomputable def Iy (y:Yard) (id:Int) (p:Plan):Yard:=if Ix y id p=0 then Mm ⟨y.now,y.seq,y.shelf,y.runs ++ [Ci id p]⟩ Gh (Ci id p) else y
theorem J5 {b:Nat} {w:World} {u0 u1 u2 u3:Value} (X:DBox b [u0,u1,u2,u3] w) {v0 v1 v2 v3 v4 v5 v7:Value} {rest:List Value} :
  (results Tryz.f143 (v0 :: v1 :: v2 :: v3 :: v4 :: v5 :: .pointer (Ac ⟨b,0,Ab⟩) :: v7 :: rest).toArray).run Am w = .ok (.tuple #[.agg #[u0,u1,u2,u3],v7]) w:=by
 have c0:=X.cell 0 _ rfl;have c1:=X.cell 1 _ rfl;have c2:=X.cell 2 _ rfl;have c3:=X.cell 3 _ rfl;simp [results,Tryz.results143,go_sem,c0,c1,c2,c3]
theorem Aek {α:Type} (d:Dt α) (w:World) (B c:Nat):RdL d w B (Aa Ab 0 c) []:=⟨[],rfl,Rd.nil _ _ _ _,fun _ h=>by cases h⟩
def BldG {α:Type} (d:Dt α) (E:TypeId) (w:World) (base:Nat) (v:Value) (rs:List (α×d.S)) (G:List Nat):Prop :=
 Ow d.enc E w base v rs/\Ows d w G rs/\G.Nodup /\ ∀ b∈G,base<=b/\v.ownBlock≠Ac b
theorem BldG.below {α:Type} {d:Dt α} {E:TypeId} {w w':World} {base:Nat} {v:Value} {rs:List (α×d.S)} {G:List Nat} (h:BldG d E w base v rs G) (hb:Below w w w'):BldG d E w' base v rs G :=
 ⟨h.1.below hb,h.2.1.bel hb,h.2.2.1,h.2.2.2⟩
theorem BldG.push1 {α:Type} {d:Dt α} {E:TypeId} {w w1 w2 w5:World} {base:Nat} {v v5:Value} {rs:List (α×d.S)} {G:List Nat} {x:α} {s:d.S} {F:List Nat} (h:BldG d E w base v rs G) (hb:Below w w w1) (o1:d.ow w1 F x s) (n1:∀ b∈F,w<=b)
  (aY:base<=w.heap.size) (aF:Below w1 w1 w2) (o5:Ow d.enc E w5 base v5 (rs ++ [(x,s)])) (g5:w2.grownBy w5 v.ownBlock) (f5:v5.ownBlock=v.ownBlock\/v5.ownBlock=Ac w2.heap.size):BldG d E w5 base v5 (rs ++ [(x,s)]) (G ++ F):=by
 obtain ⟨h1,h2,h3,h4⟩:=h;have hG:∀ b∈G,b<w:=h2.lt;have cH:∀ b∈F,b<w1:=d.ow_lt o1;have vD:∀ b∈F,v.ownBlock≠Ac b:=fun b hb he=>by
  have h5:=(h1.within b he).2;have h6:=n1 b hb;omega
 have hs:=hb.size;have eL:=aF.size;have ht:Ows d w2 F [(x,s)]:=Ows.one (r:=(x,s)) (d.ow_below o1 aF);refine ⟨o5,?_,?_,?_⟩
 ·refine Ows.append ((h2.bel (Bt hb aF)).keep g5.size fun b hbG=>g5.block b (by have:=hG b hbG;omega) ?_) (ht.keep g5.size fun b cK=>g5.block b (by have:=cH b cK;omega) ?_)
  ·exact fun e=>(h4 b hbG).2 e.symm
  ·exact fun e=>vD b cK e.symm
 ·rw [Ax];refine ⟨h3,d.ow_nodup o1,fun a ha b aU e=>?_⟩
  have:=hG a ha
  have:=n1 b aU
  omega
 ·intro b hbm;rcases Bi.1 hbm with hbm | hbm
  ·refine ⟨(h4 b hbm).1,?_⟩;rcases f5 with hv | hv
   ·rw [hv];exact (h4 b hbm).2
   ·rw [hv];intro e
    have:=hG b hbm
    injection e with e
    omega
  ·refine ⟨by have:=n1 b hbm;omega,?_⟩;rcases f5 with hv | hv
   ·rw [hv];exact vD b hbm
   ·rw [hv];intro e
    have:=cH b hbm
    injection e with e
    omega
theorem BldG.owl {α:Type} {d:Dt α} {E:TypeId} {w:World} {base:Nat} {v:Value} {rs:List (α×d.S)} {G:List Nat} (h:BldG d E w base v rs G) {l:List α} (hl:rs.map (·.1)=l):OwL d w (Dz v rs.length ++ G) v l:=by
 obtain ⟨h1,h2,h3,h4⟩:=h;obtain ⟨h5,h6⟩:=Hw.of_ow h1;refine ⟨rs,_,G,hl,h5,h2,rfl,?_⟩;rw [Ax];refine ⟨Jf _ _,h3,fun a ha b hb e=>?_⟩;subst e;exact (h4 a hb).2 (G4 _ _ _ ha)
theorem Up (y:Yard) (s:Sl×Sl) (id:Int) (p:Plan) (sp:Sl) (w:World) (hl:Cb y<=2000000) (hp:p.edges.length<=2000000) (h:Bu.rd w w y s) (hpr:Ca.rd w w p sp) :
  Calls Am 143 #[Dg y s,.int .i64 id,Ja p sp] w (Ht (Iy y id p) (Ix y id p) w):=by
 have HR:=Bq (show ∀ W,Below w w W->Bu.rd W W y s from fun W hW=>Bu.rd_more (Bu.rd_below h hW) hW.size);obtain ⟨⟨A1,n1,c1⟩,⟨A2,n2,c2⟩⟩:=s;obtain ⟨A3,n3,c3⟩:=sp;obtain rfl:n3=p.edges.length:=RdL.at1 (s:=⟨A3,n3,c3⟩) hpr;have CC:=Bq (fun W hW=>Mc y (⟨A1,n1,c1⟩,⟨A2,n2,c2⟩) W hl (HR.out W hW));have CY:=Bq (fun W hW=>Fj y (⟨A1,n1,c1⟩,⟨A2,n2,c2⟩) W hl (HR.out W hW));have CA:=Bq (fun W hW=>Es y (⟨A1,n1,c1⟩,⟨A2,n2,c2⟩) id W hl (HR.out W hW));have CF:=Bq (fun W (hW:Below w w W)=>Jg p (.slice A3 p.edges.length c3) W hp (((H8 hpr).below hW).more hW.size));have CR:=Bq (fun W hW hS hq=>Xg y (⟨A1,n1,c1⟩,⟨A2,n2,c2⟩) p (.slice A3 p.edges.length c3) W hl hS hq (HR.out W hW));have CN:=Bq (fun W (hW:Below w w W) hid hf=>Uo id p ⟨A3,p.edges.length,c3⟩ W hid hf (Ca.rd_more (Ca.rd_below hpr hW) hW.size));obtain ⟨j0,cB,jz0,jz1,jz2⟩:=info_parts Kv;clear h hpr HR;obtain ⟨W,aG,X,P,RES,B0⟩:=bx3 w 31 [.int .i64 y.now,.int .i64 y.seq,.slice A1 n1 c1,.slice A2 n2 c2] 43 [.int .i64 p.prio,.int .i64 p.most,.int .i64 p.wait,.int .i64 p.tasks,.slice A3 p.edges.length c3] 31 [.int .i64 0,.int .i64 0,.slice Ab 0 0,.slice Ab 0 0];go_enter Tryz.func143,Tryz.ntmps143;go_wp2_with fail
 rw [<-aG.out];clear aG;have dK:w.heap.size+1+1<W.heap.size:=RES.lt;refine (CC.out _ B0).mono ?_;rintro e1 w1 ⟨⟨B1,m1,e1⟩,⟨B2,m2,e2⟩,F1,base,rfl,oS,eD,aY,cC,oR,b1⟩;have bL:=b1.size;replace X:=X.below b1;replace P:=P.below b1;replace RES:=RES.below b1;replace B0:=Bt B0 b1;clear b1;obtain ⟨rs,cG,G0,oR⟩:=oR;have hm:=Bq cG;clear cG;replace oR:BldG Ch 89 w1 base (.slice B2 m2 e2) rs G0:=oR;have tR:=oR.2.1.lt;have qD:∀ g,(Value.slice B2 m2 e2).ownBlock=Ac g->g≠w1.heap.size:=fun g hg h=>by
  have:=(oR.1.within g hg).2
  omega
 obtain ⟨F,oy,nF⟩:∃ F,Bu.ow w1 F y (⟨B1,m1,e1⟩,⟨B2,m2,e2⟩) /\ ∀ x∈F,W<=x:=by
  have hB:Bld Ch 89 w1 base (.slice B2 m2 e2) rs:=⟨G0,oR⟩
  replace hm:=hm.out;obtain ⟨F2,h5,h6⟩:=hB.owl hm;refine ⟨F1 ++ F2,⟨F1,F2,rfl,?_,oS,h5⟩,fun b hb=>?_⟩
  ·rw [Ax];refine ⟨oS.nodup,h5.nodup,fun u hu u' hu' e=>?_⟩
   have:=eD u hu
   have:=h6 u' hu'
   omega
  ·rcases Bi.1 hb with hb | hb
   ·exact (eD b hb).1
   ·have:=h6 b hb;omega
 go_upto_region 2 with fail
 have OB:=DBox.new 31 [.int .i64 y.now,.int .i64 y.seq,.slice B1 m1 e1,.slice B2 m2 e2] w1 (b:=w1.heap.size) rfl;have b2:Below w1 w1 (w1.alloc (.cells #[.int .i64 y.now,.int .i64 y.seq,.slice B1 m1 e1,.slice B2 m2 e2] 31)):=(Br _ _).alloc (Bs _) _;replace X:=X.below b2;replace P:=P.below b2;replace RES:=RES.below b2;replace oy:=Bu.ow_below (F:=F) (x:=y) (s:=(⟨B1,m1,e1⟩,⟨B2,m2,e2⟩)) oy b2;replace oS:=oS.below b2;replace oR:=oR.below b2;replace B0:=Bt B0 b2;have ow1:=OB.lt;have hbob:base<=w1.heap.size:=cC;replace cC:=Ah cC b2.size;clear b2;generalize w1.alloc (.cells #[.int .i64 y.now,.int .i64 y.seq,.slice B1 m1 e1,.slice B2 m2 e2] 31)=w2 at *
 generalize cJ:w1.heap.size=ob at *
 have X_:=X.g4;have P_:=P.g5;have OB_:=OB.g4;go_wp2_with fail
 refine (CY.out _ B0).mono ?_;rintro e1 w3 ⟨rfl,b3⟩;clear X_;clear P_;clear OB_;replace X:=X.below b3;replace P:=P.below b3;replace OB:=OB.below b3;replace RES:=RES.below b3;replace oy:Bu.ow w3 F y (⟨B1,m1,e1⟩,⟨B2,m2,e2⟩):=owB oy b3;replace oS:=oS.below b3;replace oR:=oR.below b3;replace B0:=Bt B0 b3;replace cC:=Ah cC b3.size;clear b3;have X_:=X.g4;have P_:=P.g5;have OB_:=OB.g4;by_cases p0:Dd y;case neg =>
  rw [Cf p0];have H:=Bq (show Ix y id p=8 by unfold Ix;rw [if_pos p0]);have H2:=Bq (show Iy y id p=y by unfold Iy;rw [H.out,if_neg Bp]);have RES_:=RES.g4;have rf:=RES.free;go_wp2;have en1:w.heap.size+1+1∉F:=fun hx=>by have:=nF _ hx;omega
  refine Aj (J5 (DBox.row4 RES rfl _ _ _ _)) rfl ⟨(⟨B1,m1,e1⟩,⟨B2,m2,e2⟩),F,by rw [H.out,H2.out],by rw [H2.out];exact (by (repeat (refine Dt.ow_set Bu ?_ en1 _));exact (show Bu.ow _ F y (⟨B1,m1,e1⟩,⟨B2,m2,e2⟩) from oy)),fun x hx=>by have:=nF x hx;omega,?_⟩;repeat (first | (with_reducible exact B0) | refine Ad ?_ Bo _)
 rw [Dj p0];have rF:=p0.2.2.2.2.2.2.2.2.2;have hsq:=p0.2.1;have h4:=Bq p0.2.2.1;have cV:=Bq p0.2.2.2.1;have P0:=Bq p0;clear p0;cases p1:inB id 1 9999;case false =>
  have H:=Bq (show Ix y id p=5 by unfold Ix;rw [if_neg (fun h=>h P0.out),if_pos p1]);have H2:=Bq (show Iy y id p=y by unfold Iy;rw [H.out,if_neg Bp]);have RES_:=RES.g4;have rf:=RES.free;go_wp2_with (go_at_call 155;refine (Ce _ _ _ _).mono ?_;rintro e w9 ⟨rfl,rfl⟩;rw [p1])
  have en1:w.heap.size+1+1∉F:=fun hx=>by have:=nF _ hx;omega
  refine Aj (J5 (DBox.row4 RES rfl _ _ _ _)) rfl ⟨(⟨B1,m1,e1⟩,⟨B2,m2,e2⟩),F,by rw [H.out,H2.out],by rw [H2.out];exact (by (repeat (refine Dt.ow_set Bu ?_ en1 _));exact (show Bu.ow _ F y (⟨B1,m1,e1⟩,⟨B2,m2,e2⟩) from oy)),fun x hx=>by have:=nF x hx;omega,?_⟩;repeat (first | (with_reducible exact B0) | refine Ad ?_ Bo _)
 have P1:=Bq p1;go_wp2_with (go_at_call 155;refine (Ce _ _ _ _).mono ?_;rintro e w9 ⟨rfl,rfl⟩;rw [p1])
 refine (CA.out _ B0).mono ?_;rintro e1 w4 ⟨rfl,b4⟩;clear X_;clear P_;clear OB_;replace X:=X.below b4;replace P:=P.below b4;replace OB:=OB.below b4;replace RES:=RES.below b4;replace oy:Bu.ow w4 F y (⟨B1,m1,e1⟩,⟨B2,m2,e2⟩):=owB oy b4;replace oS:=oS.below b4;replace oR:=oR.below b4;replace B0:=Bt B0 b4;replace cC:=Ah cC b4.size;clear b4;have X_:=X.g4;have P_:=P.g5;have OB_:=OB.g4;by_cases p2:0<=Da y id;case pos =>
  have H:=Bq (show Ix y id p=6 by unfold Ix;rw [if_neg (fun h=>h P0.out),if_neg (by rw [P1.out];simp),if_pos p2]);have H2:=Bq (show Iy y id p=y by unfold Iy;rw [H.out,if_neg Bp]);have RES_:=RES.g4;have rf:=RES.free;go_wp2;have en1:w.heap.size+1+1∉F:=fun hx=>by have:=nF _ hx;omega
  refine Aj (J5 (DBox.row4 RES rfl _ _ _ _)) rfl ⟨(⟨B1,m1,e1⟩,⟨B2,m2,e2⟩),F,by rw [H.out,H2.out],by rw [H2.out];exact (by (repeat (refine Dt.ow_set Bu ?_ en1 _));exact (show Bu.ow _ F y (⟨B1,m1,e1⟩,⟨B2,m2,e2⟩) from oy)),fun x hx=>by have:=nF x hx;omega,?_⟩;repeat (first | (with_reducible exact B0) | refine Ad ?_ Bo _)
 have P2:=Bq p2;go_wp2_with fail
 refine (CF.out _ B0).mono ?_;rintro e1 w5 ⟨rfl,b5⟩;clear p1 p2;clear X_;clear P_;clear OB_;replace X:=X.below b5;replace P:=P.below b5;replace OB:=OB.below b5;replace RES:=RES.below b5;replace oy:Bu.ow w5 F y (⟨B1,m1,e1⟩,⟨B2,m2,e2⟩):=owB oy b5;replace oS:=oS.below b5;replace oR:=oR.below b5;replace B0:=Bt B0 b5;replace cC:=Ah cC b5.size;clear b5;have X_:=X.g4;have P_:=P.g5;have OB_:=OB.g4;by_cases p3:Co p=0;case neg =>
  have q3:(Co p != 0)=true:=by simp [p3]
  have H:=Bq (show Ix y id p=Co p by unfold Ix;rw [if_neg (fun h=>h P0.out),if_neg (by rw [P1.out];simp),if_neg (by have:=P2.out;omega),if_pos p3]);have H2:=Bq (show Iy y id p=y by unfold Iy;rw [H.out,if_neg p3]);clear p3;have en1:w.heap.size+1+1∉F:=fun hx=>by have:=nF _ hx;omega
  have RES_:=RES.g4;have rf:=RES.free;have hpb:w.heap.size+1<w5.heap.size:=P.lt;have hobl:ob<w5:=OB.lt;have CF5:=Bq (CF.out _ B0.drew);go_wp2;refine Go.wp_region_noPanic ?_;refine wp_region_held_drew (S:=(fun w'=>DBox ob [.int .i64 y.now,.int .i64 y.seq,.slice B1 m1 e1,.slice B2 m2 e2] w'/\DBox (w.heap.size+1) [.int .i64 p.prio,.int .i64 p.most,.int .i64 p.wait,.int .i64 p.tasks,.slice A3 p.edges.length c3] w')) Bm ⟨DBox.drew4 OB,DBox.drew4 P⟩ (fun hHeld=>?_);replace oy:Bu.ow w5.drew F y (⟨B1,m1,e1⟩,⟨B2,m2,e2⟩):=owB oy (Br _ _).drew;clear RES_;clear rf;replace RES:DBox _ _ w5.drew:=DBox.drew4 RES;replace B0:=B0.drew;clear X_;clear P_;clear OB_;clear OB X P;generalize w5.drew=w5d at *
  refine tV 0 ?_
  (try simp only [pS])
  refine tV 1 ?_
  (try simp only [pS])
  refine rC 2 (fun K_ hK=>?_);go_simp;refine CF5.out.mono ?_;rintro e1 w6 ⟨rfl,b6⟩;replace oy:Bu.ow w6 F y (⟨B1,m1,e1⟩,⟨B2,m2,e2⟩):=owB oy b6;replace RES:=RES.below b6;replace B0:=Bt B0 b6;refine hK.out _ _ ⟨hHeld.1.below b6,hHeld.2.below b6⟩ (fun hHeld=>?_);clear hK K_
  (try simp only [pS])
  have RES_:=RES.g4;have rf:=RES.free;refine rC 3 (fun K_ hK=>?_);go_simp;refine hK.out _ _ ⟨(((hHeld.1.setOther (a:=⟨w.heap.size+1+1,0,Ab⟩) (by show ob≠w.heap.size+1+1;omega) _).setOther (a:=⟨w.heap.size+1+1,1,Ab⟩) (by show ob≠w.heap.size+1+1;omega) _).setOther (a:=⟨w.heap.size+1+1,2,Ab⟩) (by show ob≠w.heap.size+1+1;omega) _).setOther (a:=⟨w.heap.size+1+1,3,Ab⟩) (by show ob≠w.heap.size+1+1;omega) _,(((hHeld.2.setOther (a:=⟨w.heap.size+1+1,0,Ab⟩) (by show w.heap.size+1≠w.heap.size+1+1;omega) _).setOther (a:=⟨w.heap.size+1+1,1,Ab⟩) (by show w.heap.size+1≠w.heap.size+1+1;omega) _).setOther (a:=⟨w.heap.size+1+1,2,Ab⟩) (by show w.heap.size+1≠w.heap.size+1+1;omega) _).setOther (a:=⟨w.heap.size+1+1,3,Ab⟩) (by show w.heap.size+1≠w.heap.size+1+1;omega) _⟩ (fun hHeld=>?_);clear hK K_
  (try simp only [pS])
  refine tV 4 ?_
  (try simp only [pS])
  refine wpAnyH_done Bm ?_ _;refine NoPanic.normal ?_;clear hHeld;clear RES_;clear rf;go_wp2;refine Aj (J5 (DBox.row4 RES rfl _ _ _ _)) rfl ⟨(⟨B1,m1,e1⟩,⟨B2,m2,e2⟩),F,by rw [H.out,H2.out],by rw [H2.out];exact (by (repeat (refine Dt.ow_set Bu ?_ en1 _));exact (show Bu.ow _ F y (⟨B1,m1,e1⟩,⟨B2,m2,e2⟩) from oy)),fun x hx=>by have:=nF x hx;omega,?_⟩;repeat (first | (with_reducible exact B0) | refine Ad ?_ Bo _)
 have q3:(Co p != 0)=false:=by simp [p3]
 have P3:=Bq p3;clear p3;go_wp2_with fail
 refine (CR.out _ B0 rF Bl).mono ?_;rintro e1 w6 ⟨rfl,b6⟩;clear X_;clear P_;clear OB_;replace X:=X.below b6;replace P:=P.below b6;replace OB:=OB.below b6;replace RES:=RES.below b6;replace oy:Bu.ow w6 F y (⟨B1,m1,e1⟩,⟨B2,m2,e2⟩):=owB oy b6;replace oS:=oS.below b6;replace oR:=oR.below b6;replace B0:=Bt B0 b6;replace cC:=Ah cC b6.size;clear b6;have X_:=X.g4;have P_:=P.g5;have OB_:=OB.g4;cases p4:Ln y p;case false =>
  have H:=Bq (show Ix y id p=7 by unfold Ix;rw [if_neg (fun h=>h P0.out),if_neg (by rw [P1.out];simp),if_neg (by have:=P2.out;omega),if_neg (fun h=>h P3.out),if_pos p4]);have H2:=Bq (show Iy y id p=y by unfold Iy;rw [H.out,if_neg Bp]);have RES_:=RES.g4;have rf:=RES.free;go_wp2;have en1:w.heap.size+1+1∉F:=fun hx=>by have:=nF _ hx;omega
  refine Aj (J5 (DBox.row4 RES rfl _ _ _ _)) rfl ⟨(⟨B1,m1,e1⟩,⟨B2,m2,e2⟩),F,by rw [H.out,H2.out],by rw [H2.out];exact (by (repeat (refine Dt.ow_set Bu ?_ en1 _));exact (show Bu.ow _ F y (⟨B1,m1,e1⟩,⟨B2,m2,e2⟩) from oy)),fun x hx=>by have:=nF x hx;omega,?_⟩;repeat (first | (with_reducible exact B0) | refine Ad ?_ Bo _)
 have H:=Bq (show Ix y id p=0 by unfold Ix;rw [if_neg (fun h=>h P0.out),if_neg (by rw [P1.out];simp),if_neg (by have:=P2.out;omega),if_neg (fun h=>h P3.out),if_neg (by rw [p4];simp)]);have H2:=Bq (show Iy y id p=Mm ⟨y.now,y.seq,y.shelf,y.runs ++ [Ci id p]⟩ Gh (Ci id p) by unfold Iy;rw [if_pos H.out]);have qZ:=Bq (show y.runs.length<8 by
  unfold Ln at p4;simp only [Bool.and_eq_true,decide_eq_true_eq] at p4;exact p4.1)
 clear rF;go_wp2_with fail
 refine (CN.out _ B0 P1.out P3.out).mono ?_;rintro e1 w7 ⟨sr,Fr,rfl,orn,nr,b7⟩;have eM:=Bq (show (Ci id p).tasks.length<=12 by have h1:=Oy id p;have h2:=Dw (C9.1 P3.out).1;omega);have nP:=B0.size;have hobw6:=OB.lt;have eQ:∀ x∈Fr,w6<=x:=nr;clear nr;clear X_;clear P_;clear OB_;clear X P;replace OB:=OB.below b7;replace RES:=RES.below b7;replace oS:=oS.below b7;have B7:=Bt B0 b7;have b7s:=b7.size;have XB:=DBox.new 89 [.int .i64 (Ci id p).id,.int .i64 (Ci id p).plan.prio,.int .i64 (Ci id p).plan.most,.int .i64 (Ci id p).plan.wait,.int .i64 (Ci id p).plan.tasks,.slice sr.1.a sr.1.n sr.1.c,.int .i64 (Ci id p).state,.slice sr.2.a sr.2.n sr.2.c] w7 (b:=w7.heap.size) rfl;have b8:Below w7 w7 (w7.alloc (.cells #[.int .i64 (Ci id p).id,.int .i64 (Ci id p).plan.prio,.int .i64 (Ci id p).plan.most,.int .i64 (Ci id p).plan.wait,.int .i64 (Ci id p).plan.tasks,.slice sr.1.a sr.1.n sr.1.c,.int .i64 (Ci id p).state,.slice sr.2.a sr.2.n sr.2.c] 89)):=(Br _ _).alloc (Bs _) _;go_upto_region 13 with fail
 replace OB:=OB.below b8;replace RES:=RES.below b8;replace oS:=oS.below b8;replace B7:=Bt B7 b8;have b78:=Bt b7 b8;have orn8:=Ch.ow_below (F:=Fr) (x:=Ci id p) (s:=sr) orn b8;have fJ:=XB.lt;generalize w7.alloc (.cells #[.int .i64 (Ci id p).id,.int .i64 (Ci id p).plan.prio,.int .i64 (Ci id p).plan.most,.int .i64 (Ci id p).plan.wait,.int .i64 (Ci id p).plan.tasks,.slice sr.1.a sr.1.n sr.1.c,.int .i64 (Ci id p).state,.slice sr.2.a sr.2.n sr.2.c] 89)=w8 at *
 generalize eW:w7.heap.size=xb at *
 have bK:=Bq (show rs.length=y.runs.length by have:=congrArg List.length hm.out;simpa using this);have mU:=Bq (show rs.length<=3000000 by have:=qZ.out;have:=bK.out;omega);have hO:=oR.1;have uJ:=hO.below b78;obtain ⟨A5_,c5_,qU,-⟩:=_root_.id (Rd.of_own hO);have tX:=qU;simp only [Sl.v,Value.slice.injEq] at tX;obtain ⟨rfl,rfl,rfl⟩:=tX;clear qU;have OB_:=OB.g4;have XB_:=XB.g8;have obf:=OB.free;have tK:∀ g,(Value.slice B2 rs.length e2).ownBlock=Ac g->base<=g/\g<w6.heap.size:=fun g hg=>hO.within _ hg;have nR:∀ g,(Value.slice B2 rs.length e2).ownBlock=Ac g->g≠ob:=fun g hg=>qD g hg;have ha:=Bq (show ∀ w:World,Below w w (w.alloc (.cells #[.int .i64 (Ci id p).id,.int .i64 (Ci id p).plan.prio,.int .i64 (Ci id p).plan.most,.int .i64 (Ci id p).plan.wait,.int .i64 (Ci id p).plan.tasks,.slice sr.1.a sr.1.n sr.1.c,.int .i64 (Ci id p).state,.slice sr.2.a sr.2.n sr.2.c] 89)) from fun w=>(Br _ _).alloc (Bs _) _);have qJ:=Bq nR;have fC:=Bq tK;clear nR tK qD;have cW:base<=w8.heap.size:=Bl;go_upto_region 14 with (at_builtin;go_loud (refine By _ Ch.enc Bp rfl (.tmp 49) (.tmp 51) rfl Tryz.underlying29 cB jz0 jz1 jz2 rfl (base:=base) (v:=.slice B2 rs.length e2) (l:=rs) rfl (uJ.below (ha.out w8)) rfl (Rd.one Ch.enc _ _ (Ci id p,sr) rfl rfl 1 (Bs _) (Nat.lt_succ_self _)) mU.out Bn Bp (by simp;omega) ?_);intro v9 w9 o9 g9 f9;obtain ⟨A9,c9,rfl,-⟩:=_root_.id (Rd.of_own o9);simp only [List.length_append,List.length_singleton] at o9 f9;have OB9:=(OB.below (ha.out w8)).off g9 (fun e=>(qJ.out _ e.symm) rfl);have q3:=OB9.cell 3 _ rfl;have qf:=OB9.free;have ql:=OB9.lt)
 have hP:=oR.push1 b78 orn8 eQ cC (ha.out w8) o9 g9 f9;have uT:=hP.owl (l:=y.runs ++ [Ci id p]) (by rw [List.map_append,hm.out];rfl);have g9s:=g9.size;simp only [Bj] at g9s;have fZ:∀ x∈Dz (.slice A9 (rs.length+1) c9) (rs ++ [(Ci id p,sr)]).length ++ (G0 ++ Fr),x≠ob/\base<=x:=fun x hx=>by
  rcases Bi.1 hx with hx | hx
  ·have h1:=G4 _ _ _ hx;refine ⟨?_,(o9.within x h1).1⟩;rcases f9 with h2 | h2
   ·rw [h2] at h1;exact qJ.out _ h1
   ·rw [h2] at h1
    have:=Option.some.inj h1
    simp only [Bj] at this;omega
  ·rcases Bi.1 hx with hx | hx
   ·exact ⟨by have:=tR x hx;omega,(oR.2.2.2 x hx).1⟩
   ·exact ⟨by have:=eQ x hx;omega,by have:=eQ x hx;omega⟩
 generalize Dz (.slice A9 (rs.length+1) c9) (rs ++ [(Ci id p,sr)]).length ++ (G0 ++ Fr)=F2 at *
 have XB9:=(XB.below (ha.out w8)).off g9 (fun e=>by have h1:=(fC.out _ e.symm).2;omega);have RES9:=(RES.below (ha.out w8)).off g9 (fun e=>by have h1:base<=w.heap.size+1+1:=(fC.out _ e.symm).1;omega);have oS9:=(oS.below (ha.out w8)).grown g9 (fun b hb e=>by have h1:=(fC.out b e).1;have h2:=(eD b hb).2;omega);have orn9:=Ch.ow_keep (Ch.ow_below (F:=Fr) (x:=Ci id p) (s:=sr) orn8 (ha.out w8)) g9.size (fun b cK=>g9.block b (Ch.ow_lt (F:=Fr) (x:=Ci id p) (s:=sr) (Ch.ow_below (F:=Fr) (x:=Ci id p) (s:=sr) orn8 (ha.out w8)) b cK) (fun e=>by have h1:=(fC.out _ e.symm).2;have h2:=eQ b cK;omega));have B9:Below w w w9:=(Bt B7 (ha.out w8)).grown g9 (Bt B7 (ha.out w8)).size (fun g hg=>by have h1:=(fC.out g hg).1;omega);have nJ:w<=ob:=Bl;have OB10:DBox ob [.int .i64 y.now,.int .i64 y.seq,.slice B1 m1 e1,.slice A9 (rs.length+1) c9] (w9.setCell ⟨ob,3,Ab⟩ (.slice A9 (rs.length+1) c9)):=OB9.set 3 Bn _;have XB10:=XB9.setOther (a:=⟨ob,3,Ab⟩) (by show xb≠ob;omega) (.slice A9 (rs.length+1) c9);have RES10:=RES9.setOther (a:=⟨ob,3,Ab⟩) (by show w.heap.size+1+1≠ob;omega) (.slice A9 (rs.length+1) c9);have oS10:=oS9.set (a:=⟨ob,3,Ab⟩) (fun hx=>by have h1:_/\ob<base:=eD _ hx;omega) (.slice A9 (rs.length+1) c9);have oR10:=uT.set (a:=⟨ob,3,Ab⟩) (fun hx=>(fZ _ hx).1 rfl) (.slice A9 (rs.length+1) c9);have orn10:=Ch.ow_set (F:=Fr) (x:=Ci id p) (s:=sr) orn9 (a:=⟨ob,3,Ab⟩) (fun hx=>by have h1:w6<=ob:=eQ _ hx;omega) (.slice A9 (rs.length+1) c9);have B10:Below w w (w9.setCell ⟨ob,3,Ab⟩ (.slice A9 (rs.length+1) c9)):=Ad B9 (by show w.heap.size<=ob;omega) _;clear OB9 XB9 RES9 oS9 orn9 B9 uT hP XB RES oS B7 OB o9 g9 f9 q3 qf ql orn8 hO uJ oR obf qJ;clear OB_;clear XB_;generalize w9.setCell ⟨ob,3,Ab⟩ (.slice A9 (rs.length+1) c9)=w10 at *
 have OB10_:=OB10.g4;have XB10_:=XB10.g8;obtain rfl:m1=y.shelf.length:=RdL.at1 (s:=⟨B1,m1,e1⟩) oS10.rd;obtain ⟨g,o,_,rfl,fS,_,_⟩:=RdL.entryS (show RdL (Dt.list Bx) w10 w10.heap.size (.slice B1 y.shelf.length e1) y.shelf from oS10.rd) (k:=0) (by have:=h4.out;omega);have eI:g∈F1:=OwL.block_mem (show OwL (Dt.list Bx) w10 F1 (.slice (Ac ⟨g,o,Ab⟩) y.shelf.length e1) y.shelf from oS10) (by have:=h4.out;omega);have rH:=eD g eI;have hRlt:=oR10.lt;have bM:=Bq (show ∀ x,x∈[g]->x=g from fun x hx=>by simpa using hx);have CL:=Bq (Rh ⟨y.now,y.seq,y.shelf,y.runs ++ [Ci id p]⟩ g o e1 ⟨A9,rs.length+1,c9⟩ Gh (⟨Ab,0,0⟩,⟨Ab,0,0⟩) (Ci id p) sr w10 F1 h4.out (fun s hs=>by have:=(cV.out s hs).1;omega) (by dsimp only;omega) (by have:=eM.out;omega) (by show ([]:List Task).length<=1000;simp) oS10 (Bq fun W hW=>(Ch.ow_rd (Ch.ow_chg (F:=Fr) (x:=Ci id p) (s:=sr) orn10 hW (fun x hx h=>by have h1:=bM.out x h;have h2:=eQ x hx;omega))).2) (Bq fun W hW=>Aek _ _ _ _));have fU:=Bq (show (Mm ⟨y.now,y.seq,y.shelf,y.runs ++ [Ci id p]⟩ Gh (Ci id p)).runs=y.runs ++ [Ci id p] from (O4 (y:=⟨y.now,y.seq,y.shelf,y.runs ++ [Ci id p]⟩) (was:=Gh) (r:=Ci id p) (M:=80) (fun s hs=>(cV.out s hs).1) (Ci id p).tasks.length).runs);generalize Mm ⟨y.now,y.seq,y.shelf,y.runs ++ [Ci id p]⟩ Gh (Ci id p)=Z at *
 go_wp2_with fail
 refine CL.out.mono ?_;rintro e w11 ⟨F1',rfl,q1,q2,q3⟩;have hs11:=q3.size;have RES11:=RES10.chg q3 (fun hx=>by have:=bM.out _ hx;omega);have oR11:=oR10.chg q3 (fun x hx h=>by have h1:=bM.out x h;have h2:=(fZ x hx).2;omega);have B11:=B10.trans (q3.below (by have:=B10.size;omega) (fun x hx=>by have:=bM.out _ hx;omega));clear OB10_;clear XB10_;clear OB10 XB10 RES10;obtain ⟨RES11_0,RES11_1,RES11_2,RES11_3,RES11_l⟩:=RES11.g4;have rf:=RES11.free;go_wp2;have en1:w.heap.size+1+1∉F1':=fun hx=>by
  rcases q2 _ hx with h | h
  ·have:=(eD _ h).1;omega
  ·have:=RES11_l;have:=B10.size;omega
 have en2:w.heap.size+1+1∉F2:=fun hx=>by have:=(fZ _ hx).2;omega
 refine Aj (J5 (DBox.row4 RES11 rfl _ _ _ _)) rfl ⟨(⟨Ac ⟨g,o,Ab⟩,y.shelf.length,e1⟩,⟨A9,rs.length+1,c9⟩),F1' ++ F2,by rw [H.out,H2.out],⟨F1',F2,rfl,?_,?_,?_⟩,fun x hx=>?_,?_⟩
 ·rw [Ax];refine ⟨q1.nodup,oR11.nodup,fun a ha b hb e=>?_⟩;subst e;have h3:=fZ a hb;have h4:=hRlt a hb;rcases q2 a ha with h | h
  ·have:=(eD a h).2;omega
  ·omega
 ·rw [H2.out];show OwL (Dt.list Bx) _ F1' (.slice (Ac ⟨g,o,Ab⟩) y.shelf.length e1) Z.shelf;exact ((((q1.set (a:=⟨_,_,Ab⟩) en1 _).set (a:=⟨_,_,Ab⟩) en1 _).set (a:=⟨_,_,Ab⟩) en1 _).set (a:=⟨_,_,Ab⟩) en1 _)
 ·rw [H2.out];show OwL Ch _ F2 (.slice A9 (rs.length+1) c9) Z.runs;rw [fU.out];exact ((((oR11.set (a:=⟨_,_,Ab⟩) en2 _).set (a:=⟨_,_,Ab⟩) en2 _).set (a:=⟨_,_,Ab⟩) en2 _).set (a:=⟨_,_,Ab⟩) en2 _)
 ·rcases Bi.1 hx with hx | hx
  ·rcases q2 x hx with h | h
   ·have:=(eD x h).1;omega
   ·have:=B10.size;omega
  ·have:=(fZ x hx).2;omega
 ·repeat (first | (with_reducible exact B11) | refine Ad ?_ Bo _)
end
theorem Z7 {b:Nat} {w:World} {u0 u1 u2 u3 u4 u5 u6 u7 v5:Value} (X:DBox b [u0,u1,u2,u3,u4,u5,u6,u7] w) {v0 v1 v2 v3:Value} {rest:List Value} :
  (results Tryz.f166 (v0 :: v1 :: v2 :: v3 :: .pointer (Ac ⟨b,0,Ab⟩) :: v5 :: rest).toArray).run Am w = .ok (.tuple #[.agg #[u0,u1,u2,u3,u4,u5,u6,u7],v5]) w:=by
 have c0:=X.cell 0 _ rfl;have c1:=X.cell 1 _ rfl;have c2:=X.cell 2 _ rfl;have c3:=X.cell 3 _ rfl;have c4:=X.cell 4 _ rfl;have c5:=X.cell 5 _ rfl;have c6:=X.cell 6 _ rfl;have c7:=X.cell 7 _ rfl;simp [results,Tryz.results166,go_sem,c0,c1,c2,c3,c4,c5,c6,c7]
theorem Uq (id:Int) (p:Plan) (s:Sl) (w:World) (hid:inB id 1 9999=true) (hf:Co p=0) (h:Ca.rd w w p s) :
  Calls Am 166 #[.int .i64 id,Ja p s] w (Ab2 (Ci id p) w):=by
 have fM:=C9.1 hf;have hT:=Dw fM.1;have hE:=Ez fM.1;obtain ⟨A,n,c⟩:=s;obtain rfl:n=p.edges.length:=RdL.at1 (s:=⟨A,n,c⟩) h;have rE:=Bq (fun W (hW:Below w w W)=>((H8 h).below hW).more hW.size);have CP:=Bq (fun W (hW:Below w w W)=>Ju p ⟨A,p.edges.length,c⟩ W (by unfold Eb;rw [Fn (cnt:=D4) (fun _=>rfl)];omega) (Ca.rd_more (Ca.rd_below h hW) hW.size));have CF:=Bq (fun W (hW:Below w w W)=>Gv p (.slice A p.edges.length c) W Bl (rE.out W hW));have CB:=Bq (fun W (hW:Below w w W) t=>Nh p (.slice A p.edges.length c) t W hf (rE.out W hW));rw [hf] at CF;obtain ⟨i0,aL,aS,aP,aQ⟩:=info_parts Ny;clear h fM hE hf;have X:=(DBox.new 43 [.int .i64 p.prio,.int .i64 p.most,.int .i64 p.wait,.int .i64 p.tasks,.slice A p.edges.length c] w (b:=w.heap.size) rfl).below ((Br _ _).alloc (Bs _) (.cells #[.int .i64 0,.int .i64 0,.int .i64 0,.int .i64 0,.int .i64 0,.slice Ab 0 0,.int .i64 0,.slice Ab 0 0] 89));have RES:=DBox.new 89 [.int .i64 0,.int .i64 0,.int .i64 0,.int .i64 0,.int .i64 0,.slice Ab 0 0,.int .i64 0,.slice Ab 0 0] (w.alloc (.cells #[.int .i64 p.prio,.int .i64 p.most,.int .i64 p.wait,.int .i64 p.tasks,.slice A p.edges.length c] 43)) (b:=w.heap.size+1) Bn;have B0:Below w w ((w.alloc (.cells #[.int .i64 p.prio,.int .i64 p.most,.int .i64 p.wait,.int .i64 p.tasks,.slice A p.edges.length c] 43)).alloc (.cells #[.int .i64 0,.int .i64 0,.int .i64 0,.int .i64 0,.int .i64 0,.slice Ab 0 0,.int .i64 0,.slice Ab 0 0] 89)):=by repeat (first | exact Br _ _ | refine Below.alloc ?_ Bo _)
 go_enter Tryz.func166,Tryz.ntmps166;go_wp2_with (go_at_call 58;refine (Cl _ _ _ _).mono ?_;rintro e w9 ⟨rfl,rfl⟩;rw [hid])
 generalize ((w.alloc (.cells #[.int .i64 p.prio,.int .i64 p.most,.int .i64 p.wait,.int .i64 p.tasks,.slice A p.edges.length c] 43)).alloc (.cells #[.int .i64 0,.int .i64 0,.int .i64 0,.int .i64 0,.int .i64 0,.slice Ab 0 0,.int .i64 0,.slice Ab 0 0] 89))=W at *
 refine (CF.out _ B0).mono ?_;rintro e1 w1 ⟨rfl,b1⟩;have dK:=RES.lt;replace X:=X.below b1;replace RES:=RES.below b1;obtain ⟨X_0,X_1,X_2,X_3,X_4,X_l⟩:=X.g5;have B1:=Bt B0 b1;have bL:=b1.size;clear B0 b1;go_wp2_with fail
 refine (CP.out _ B1).mono ?_;rintro e1 w2 ⟨⟨A3,n3,c3⟩,F,rfl,op,nF,b2⟩;clear X_0 X_1 X_2 X_3 X_4 X_l;replace X:=X.below b2;replace RES:=RES.below b2;have B2:=Bt B1 b2;have eL:=b2.size;have cH:=Ca.ow_lt op;clear B1 b2 CP CF;obtain ⟨X_0,X_1,X_2,X_3,X_4,X_l⟩:=X.g5;go_upto_region 4 with fail
 have RB:=DBox.new 89 [.int .i64 id,.int .i64 p.prio,.int .i64 p.most,.int .i64 p.wait,.int .i64 p.tasks,.slice A3 n3 c3,.int .i64 1,.slice Ab 0 0] w2 (b:=w2.heap.size) rfl;have b3:Below w2 w2 (w2.alloc (.cells #[.int .i64 id,.int .i64 p.prio,.int .i64 p.most,.int .i64 p.wait,.int .i64 p.tasks,.slice A3 n3 c3,.int .i64 1,.slice Ab 0 0] 89)):=(Br _ _).alloc (Bs _) _;clear X_0 X_1 X_2 X_3 X_4 X_l;replace X:=X.below b3;replace RES:=RES.below b3;replace op:=Ca.ow_below op b3;have B3:=Bt B2 b3;have jP:=b3.size;have hRB:=RB.lt;generalize w2.alloc (.cells #[.int .i64 id,.int .i64 p.prio,.int .i64 p.most,.int .i64 p.wait,.int .i64 p.tasks,.slice A3 n3 c3,.int .i64 1,.slice Ab 0 0] 89)=w3 at *
 generalize uN:w2.heap.size=rb at *
 have bV:∀ x∈F,w.heap.size+1<x/\x<rb:=fun x hx=>⟨by have:=nF x hx;omega,cH x hx⟩
 clear cH nF B2 b3;obtain ⟨T,tJ⟩:∃ T:Nat,p.tasks=T:=⟨p.tasks.toNat,Bl⟩
 have mR:=Bq tJ;have qQ:=Bq (show p.tasks.toNat=T by omega);have fH:T<=12:=Bl;clear tJ;have hH:Hid (Ci id p=⟨id,p,1,(List.range T).map (Dy p)⟩):=by
  show Ci id p=_;unfold Ci;rw [qQ.out]
 go_wp2;go_loopw [7] (fun i wr=>∃ (k:Nat) (vt:Value),k<=T/\i = .int .i64 k/\Hid (Ow E7 138 wr (rb+1) vt ((List.range k).map (Dy p)))/\DBox w [.int .i64 p.prio,.int .i64 p.most,.int .i64 p.wait,.int .i64 p.tasks,.slice A p.edges.length c] wr/\DBox (w.heap.size+1) [.int .i64 0,.int .i64 0,.int .i64 0,.int .i64 0,.int .i64 0,.slice Ab 0 0,.int .i64 0,.slice Ab 0 0] wr/\DBox rb [.int .i64 id,.int .i64 p.prio,.int .i64 p.most,.int .i64 p.wait,.int .i64 p.tasks,.slice A3 n3 c3,.int .i64 1,vt] wr/\Hid (Ca.ow wr F p ⟨A3,n3,c3⟩)/\Below w w wr/\rb<wr) (fun i _=>T - (intOf i).toNat);case atStart=>exact ⟨0,_,Ag _,rfl,Ow.nil E7 138 w3 (rb+1),X,RES,RB,op,B3,hRB⟩
 case round =>
  clear X RES RB op B3;obtain ⟨k,vt,hk,rfl,ho,X,RES,RB,op,hb,bK⟩:=hrel;obtain ⟨X_0,X_1,X_2,X_3,X_4,X_l⟩:=X.g5;obtain ⟨RB_0,RB_1,RB_2,RB_3,RB_4,RB_5,RB_6,RB_7,RB_l⟩:=RB.g8;by_cases aA:k<T
  ·have aB:(k:Int)<p.tasks:=by have:=mR.out;omega
   have hS:=Bq (Nn (Dy p) k);go_wp2_with fail
   refine (CB.out _ hb k).mono ?_;rintro e1 w4 ⟨vb,rfl,ob,b4⟩;obtain ⟨A9,c9,rfl,-⟩:=_root_.id (Rd.of_own ob);have eM:(Dq (Dn p) p.tasks.toNat k).length<=12:=by have h1:=Ij (Dn p) p.tasks.toNat k;have h2:=qQ.out;omega
   have hN:Hid (Dy p k=⟨if (Dq (Dn p) p.tasks.toNat k).length=0 then 2 else 1,(Dq (Dn p) p.tasks.toNat k).length,0,0⟩):=rfl;have uL:=Bq (show ((List.range k).map (Dy p)).length<=3000000 by simp;omega);generalize (Dq (Dn p) p.tasks.toNat k).length=N at *
   clear X_0 X_1 X_2 X_3 X_4 X_l;clear RB_0 RB_1 RB_2 RB_3 RB_4 RB_5 RB_6 RB_7 RB_l;have hb4s:=b4.size;have bQ:=hb.size;replace X:=X.below b4;replace RES:=RES.below b4;replace RB:=RB.below b4;replace op:=Ca.ow_below op.out b4;have dC:=ho.out.below b4;have bR:=Bt hb b4;clear ho b4 ob hb;obtain ⟨RB_0,RB_1,RB_2,RB_3,RB_4,RB_5,RB_6,RB_7,RB_l⟩:=RB.g8;have rbf:=RB.free;by_cases hz:N=0
   ·subst hz;have sJ:Hid (Dy p k=⟨2,0,0,0⟩):=by rw [if_pos rfl] at hN;exact hN
    clear hN;have b5:Below w4 w4 (w4.alloc (.cells #[.int .i64 2,.int .i64 0,.int .i64 0,.int .i64 0] 138)):=(Br _ _).alloc (Bs _) _;have XB:=DBox.new 138 [.int .i64 2,.int .i64 0,.int .i64 0,.int .i64 0] w4 (b:=w4.heap.size) rfl;go_upto_region 10 with fail
    clear RB_0 RB_1 RB_2 RB_3 RB_4 RB_5 RB_6 RB_7 RB_l;clear rbf;replace X:=X.below b5;replace RES:=RES.below b5;replace RB:=RB.below b5;replace op:=Ca.ow_below op b5;replace dC:=dC.below b5;replace bR:=Bt bR b5;have hb5s:=b5.size;clear b5;generalize w4.alloc (.cells #[.int .i64 2,.int .i64 0,.int .i64 0,.int .i64 0] 138)=w5 at *
    obtain ⟨RB_0,RB_1,RB_2,RB_3,RB_4,RB_5,RB_6,RB_7,RB_l⟩:=RB.g8;obtain ⟨XB_0,XB_1,XB_2,XB_3,XB_l⟩:=XB.g4;have rbf:=RB.free;have ha:Hid (∀ w:World,Below w w (w.alloc (.cells #[.int .i64 2,.int .i64 0,.int .i64 0,.int .i64 0] 138))):=fun w=>(Br _ _).alloc (Bs _) _;have HL:Hid (((List.range k).map (Dy p)).length=k):=by
     show ((List.range k).map (Dy p)).length=k;simp
    go_wp2_with (at_builtin;refine By _ E7 Bp rfl (.tmp 38) (.tmp 40) rfl Tryz.underlying87 aL aS aP aQ rfl (base:=rb+1) (l:=(List.range k).map (Dy p)) rfl (dC.below (ha.out w5)) rfl (Rd.one E7 _ _ ⟨2,0,0,0⟩ rfl rfl 1 (Bs _) (Nat.lt_succ_self _)) uL.out Bn Bp (by simp;omega) ?_;intro v5 w6 o6 g6 _;obtain ⟨⟨va,vn,vc⟩,rfl⟩:∃ s:Sl,v5 = .slice s.a s.n s.c:=(by obtain ⟨A7,c7,rfl,_⟩:=Rd.of_own o6;exact ⟨⟨A7,_,c7⟩,rfl⟩);have RB6:=(RB.below (ha.out w5)).off g6 (fun e=>by have:=dC.within _ e.symm;omega);have q7:=RB6.cell 7 _ rfl;have qf:=RB6.free;have ql:=RB6.lt)
    have aH:Below w w w6:=(Bt bR (ha.out w5)).grown g6 (Bt bR (ha.out w5)).size (fun g hg=>by have:=dC.within _ hg;omega);have X6:=(X.below (ha.out w5)).off g6 (fun e=>by have:=dC.within _ e.symm;omega);have RES6:=(RES.below (ha.out w5)).off g6 (fun e=>by have:=dC.within _ e.symm;omega);have op6:=(Ca.ow_keep (Ca.ow_below op (ha.out w5)) g6.size (fun b cK=>g6.block b (Ca.ow_lt (Ca.ow_below op (ha.out w5)) b cK) (fun e=>by have h1:=dC.within _ e.symm;have h2:=bV b cK;omega)))
    have eA:Ow E7 138 (w6.setCell ⟨rb,7,Ab⟩ (.slice va vn vc)) (rb+1) (.slice va vn vc) ((List.range (k+1)).map (Dy p)):=by
     rw [hS.out,sJ.out];exact o6.setOther (fun e=>by have h1:rb+1<=rb:=(o6.within _ e).1;omega) _
    exact ⟨⟨k+1,_,Bl,by go_num,eA,X6.setOther (by show w.heap.size≠rb;omega) _,RES6.setOther (by show w.heap.size+1≠rb;omega) _,RB6.set 7 Bn _,Ca.ow_set op6 (a:=⟨rb,7,Ab⟩) (fun hx=>by have h1:w.heap.size+1<rb/\rb<rb:=bV _ hx;omega) _,aH.setCell (by show w.heap.size<=rb;omega) _,by simp [World.setCell];omega⟩,by simp [intOf];omega⟩
   ·have sJ:Hid (Dy p k=⟨1,N,0,0⟩):=by rw [if_neg hz] at hN;exact hN
    have hNI:(0:Int)<(N:Int):=Bl;clear hN hz;have b5:Below w4 w4 (w4.alloc (.cells #[.int .i64 1,.int .i64 (N:Int),.int .i64 0,.int .i64 0] 138)):=(Br _ _).alloc (Bs _) _;have XB:=DBox.new 138 [.int .i64 1,.int .i64 (N:Int),.int .i64 0,.int .i64 0] w4 (b:=w4.heap.size) rfl;go_upto_region 10 with fail
    clear RB_0 RB_1 RB_2 RB_3 RB_4 RB_5 RB_6 RB_7 RB_l;clear rbf;replace X:=X.below b5;replace RES:=RES.below b5;replace RB:=RB.below b5;replace op:=Ca.ow_below op b5;replace dC:=dC.below b5;replace bR:=Bt bR b5;have hb5s:=b5.size;clear b5;generalize w4.alloc (.cells #[.int .i64 1,.int .i64 (N:Int),.int .i64 0,.int .i64 0] 138)=w5 at *
    obtain ⟨RB_0,RB_1,RB_2,RB_3,RB_4,RB_5,RB_6,RB_7,RB_l⟩:=RB.g8;obtain ⟨XB_0,XB_1,XB_2,XB_3,XB_l⟩:=XB.g4;have rbf:=RB.free;have ha:Hid (∀ w:World,Below w w (w.alloc (.cells #[.int .i64 1,.int .i64 (N:Int),.int .i64 0,.int .i64 0] 138))):=fun w=>(Br _ _).alloc (Bs _) _;have HL:Hid (((List.range k).map (Dy p)).length=k):=by
     show ((List.range k).map (Dy p)).length=k;simp
    go_wp2_with (at_builtin;refine By _ E7 Bp rfl (.tmp 38) (.tmp 40) rfl Tryz.underlying87 aL aS aP aQ rfl (base:=rb+1) (l:=(List.range k).map (Dy p)) rfl (dC.below (ha.out w5)) rfl (Rd.one E7 _ _ ⟨1,(N:Int),0,0⟩ rfl rfl 1 (Bs _) (Nat.lt_succ_self _)) uL.out Bn Bp (by simp;omega) ?_;intro v5 w6 o6 g6 _;obtain ⟨⟨va,vn,vc⟩,rfl⟩:∃ s:Sl,v5 = .slice s.a s.n s.c:=(by obtain ⟨A7,c7,rfl,_⟩:=Rd.of_own o6;exact ⟨⟨A7,_,c7⟩,rfl⟩);have RB6:=(RB.below (ha.out w5)).off g6 (fun e=>by have:=dC.within _ e.symm;omega);have q7:=RB6.cell 7 _ rfl;have qf:=RB6.free;have ql:=RB6.lt)
    have aH:Below w w w6:=(Bt bR (ha.out w5)).grown g6 (Bt bR (ha.out w5)).size (fun g hg=>by have:=dC.within _ hg;omega);have X6:=(X.below (ha.out w5)).off g6 (fun e=>by have:=dC.within _ e.symm;omega);have RES6:=(RES.below (ha.out w5)).off g6 (fun e=>by have:=dC.within _ e.symm;omega);have op6:=(Ca.ow_keep (Ca.ow_below op (ha.out w5)) g6.size (fun b cK=>g6.block b (Ca.ow_lt (Ca.ow_below op (ha.out w5)) b cK) (fun e=>by have h1:=dC.within _ e.symm;have h2:=bV b cK;omega)))
    have eA:Ow E7 138 (w6.setCell ⟨rb,7,Ab⟩ (.slice va vn vc)) (rb+1) (.slice va vn vc) ((List.range (k+1)).map (Dy p)):=by
     rw [hS.out,sJ.out];exact o6.setOther (fun e=>by have h1:rb+1<=rb:=(o6.within _ e).1;omega) _
    exact ⟨⟨k+1,_,Bl,by go_num,eA,X6.setOther (by show w.heap.size≠rb;omega) _,RES6.setOther (by show w.heap.size+1≠rb;omega) _,RB6.set 7 Bn _,Ca.ow_set op6 (a:=⟨rb,7,Ab⟩) (fun hx=>by have h1:w.heap.size+1<rb/\rb<rb:=bV _ hx;omega) _,aH.setCell (by show w.heap.size<=rb;omega) _,by simp [World.setCell];omega⟩,by simp [intOf];omega⟩
  ·have aB:¬ (k:Int)<p.tasks:=by have:=mR.out;omega
   have hkT:k=T:=Bl;subst hkT;have rf:=RES.free;have RES_0:=RES.cell 0 _ rfl;have RES_1:=RES.cell 1 _ rfl;have RES_2:=RES.cell 2 _ rfl;have RES_3:=RES.cell 3 _ rfl;have RES_4:=RES.cell 4 _ rfl;have RES_5:=RES.cell 5 _ rfl;have RES_6:=RES.cell 6 _ rfl;have RES_7:=RES.cell 7 _ rfl;have ho1:=ho.out;obtain ⟨⟨ta,tn,tc⟩,Ft,rfl,ot,nt⟩:=So ho1;go_wp2;have e1:w.heap.size+1∉F:=fun hx=>by have:=bV _ hx;omega
   have e2:w.heap.size+1∉Ft:=fun hx=>by have:=nt _ hx;omega
   refine Aj (Z7 (DBox.row8 RES rfl _ _ _ _ _ _ _ _)) rfl ⟨(⟨A3,n3,c3⟩,⟨ta,tn,tc⟩),F ++ Ft,by rw [hH.out],⟨F,Ft,rfl,?_,?_,?_⟩,?_,?_⟩
   ·rw [Ax];refine ⟨Ca.ow_nodup op.out,ot.nodup,fun u hu u' hu' e=>?_⟩
    have:=bV u hu
    have:=nt u' hu'
    omega
   ·rw [hH.out];show Ca.ow _ F p _;exact (by (repeat (refine Dt.ow_set Ca ?_ e1 _));exact op.out)
   ·rw [hH.out];show OwL Ee _ Ft _ ((List.range k).map (Dy p));exact ((((((((ot.set (a:=⟨w.heap.size+1,_,Ab⟩) e2 _).set (a:=⟨w.heap.size+1,_,Ab⟩) e2 _).set (a:=⟨w.heap.size+1,_,Ab⟩) e2 _).set (a:=⟨w.heap.size+1,_,Ab⟩) e2 _).set (a:=⟨w.heap.size+1,_,Ab⟩) e2 _).set (a:=⟨w.heap.size+1,_,Ab⟩) e2 _).set (a:=⟨w.heap.size+1,_,Ab⟩) e2 _).set (a:=⟨w.heap.size+1,_,Ab⟩) e2 _)
   ·intro x hx;rcases Bi.1 hx with hx | hx
    ·have:=bV x hx;omega
    ·have:=nt x hx;have:=bL;omega
   ·repeat (first | (with_reducible exact hb) | refine Ad ?_ Bo _)
theorem Ow.rdHi {α:Type} {e:Enc α} {E:TypeId} {w w':World} {base:Nat} {v:Value} {l:List α} {F:List Nat} (o:Ow e E w base v l) (hC:Chg F w w') (hF:∀ x∈F,x<base\/w<=x):Rd e w' w' v l :=
 (Rd.of_own o).keepF hC.size (fun b hb ob=>by
  have h1:=o.within b (G4 _ _ _ hb);exact hC.cell (p:=⟨b,ob,Ab⟩) h1.2 (fun hx=>by have:=hF b hx;omega))
theorem P5 (was r:Run):M5 was r r.tasks.length=(G7 r.tasks 2).filter (fun t=>!decide (t∈G7 was.tasks 2)):=by
 unfold M5 G7 Gk;rw [List.filter_filter];apply List.filter_congr;intro t ht;have hm:t∈(List.range was.tasks.length).filter (fun t=>(was.tasks.getD t ⟨0,0,0,0⟩).state == 2) ↔ (Cs was t).state=2:=by
  rw [List.mem_filter,List.mem_range];show (t<was.tasks.length/\((Cs was t).state == 2)=true) ↔ _;constructor
  ·intro h;simpa using h.2
  ·intro h;refine ⟨?_,by simpa using h⟩;apply Decidable.byContradiction;intro hn;unfold Cs at h;rw [List.getD_eq_getElem?_getD,List.getElem?_eq_none Bl] at h;cases h
 show ((Cs r t).state == 2 && !((Cs was t).state == 2))=(!decide _ && ((Cs r t).state == 2))
 rw [decide_eq_decide.2 hm,Bool.and_comm];rfl
theorem Z8 (y:Yard) (k:Nat) (r:Run) (hk:k<y.runs.length):Fb y k r=Jk ⟨y.now,y.seq,y.shelf,y.runs.set k r⟩ r ((G7 r.tasks 2).filter (fun t=>!decide (t∈G7 y.runs[k].tasks 2))):=by
 rw [<-P5];unfold Fb Mm Jk;rw [List.getD_eq_getElem?_getD,List.getElem?_eq_getElem hk];rfl
def Ur (z:Yard) (s:Sl×Sl) (b:Nat) (F:List Nat) (w:World) (e:Ending) (w':World):Prop :=
 e = .returned (.tuple #[]) /\ ∃ F',DBox b (Eh z s) w'/\Bu.ow w' F' z s/\(∀ x∈F',x∈F\/w<=x)/\Chg (b :: F) w w'
theorem Jm (FN p:Nat) (hF:∀ (args:Array Value) (w:World),(callFunc FN args).run Am w = .ok (.enter FN args) w) (y:Yard) (b:Nat) (s:Sl×Sl) (F:List Nat) (k:Nat) (r:Run) (w:World) (h4:y.shelf.length=4) (hM:∀ s∈y.shelf,s.length<=90000) (hq:0<=y.seq/\y.seq<=1900000000)
  (hk:k<y.runs.length) (hT:r.tasks.length<=1000) (qX:y.runs[k].tasks.length<=1000) (hY:DBox b (Eh y s) w) (hy:Bu.ow w F y s) (cK:b∉F)
  (HOW:Hid (∀ (W:World) gr o n c rs G1 Fx G2 sr,Below w w W->Foc Ch W gr o n c rs k G1 Fx G2 y.runs[k] sr->Calls Am FN #[.pointer (Ac ⟨gr,o+k * 8,Ab⟩),.pointer (Ac ⟨p,0,Ab⟩)] W (Hk gr o n c rs k G1 Fx G2 r sr W))) :
  Calls Am 169 #[.pointer (Ac ⟨b,0,Ab⟩),.int .i64 k,.func (.func FN) #[] #[.pointer (Ac ⟨p,0,Ab⟩)]] w (Ur (Fb y k r) s b F w):=by
 have hTS:=Bq (Z8 y k r hk);obtain ⟨F1,F2,rfl,bN,os,orr⟩:=hy;obtain ⟨⟨sa,sn,sc⟩,⟨ra,rn,rc⟩⟩:=s;replace os:OwL (Dt.list Bx) w F1 (.slice sa sn sc) y.shelf:=os;replace orr:OwL Ch w F2 (.slice ra rn rc) y.runs:=orr;obtain rfl:sn=y.shelf.length:=RdL.at1 (s:=⟨sa,sn,sc⟩) os.rd;obtain rfl:rn=y.runs.length:=RdL.at1 (s:=⟨ra,rn,rc⟩) orr.rd;obtain ⟨g,o',_,rfl,fS,_,_⟩:=os.rd.entryS (k:=0) Bl;have eI:=os.block_mem Bl;obtain ⟨gr,o,rs,sr,G1,Fx,G2,hAe,qY,hm,F0_⟩:=orr.foc hk;obtain rfl:ra=_:=hAe;have hF2m:=Bq (show ∀ x∈gr :: Fx,x∈F2 from fun x hx=>by rw [qY];rcases List.mem_cons.1 hx with h | h<;>simp [h]);have dW:=Bq (show ∀ x∈F1,x∉F2 from fun x h1 h2=>(Ax.1 bN).2.2 x h1 x h2 rfl);have aA:=Bq (show ∀ x∈F1 ++ F2,x<w from fun x hx=>by rcases Bi.1 hx with h | h;exact os.lt x h;exact orr.lt x h);have gG:(k:Int)<(y.runs.length:Int):=Bl;have dB:(0:Int)<=(k:Int):=Bl;have mI:=hY.lt;have CT:=Bq (Ho y.runs[k] sr 2 w Bl (Ch.ow_rd F0_.here));obtain ⟨y0,y1,y2,y3,-⟩:=hY.g4;obtain ⟨c0,c1,c2,c3,c4,c5,c6,c7⟩:=F0_.run;have pL:=F0_.blk;generalize cX:y.runs[k]=rk at *
 go_enter Tryz.func169,Tryz.ntmps169;go_wp2_with fail
 refine CT.out.mono ?_;rintro e w1 ⟨v1,rfl,ov1,b1⟩;obtain ⟨A1,cv1,rfl,-⟩:=_root_.id (Rd.of_own ov1);clear y0 y1 y2 y3 c0 c1 c2 c3 c4 c5 c6 c7 CT;have F1_:Foc Ch w1 gr o y.runs.length rc rs k G1 Fx G2 rk sr:=F0_.sub (Chg.of_below _ b1) (Ch.ow_below F0_.here b1) rfl;replace os:=os.below b1;replace hY:=hY.below b1;obtain ⟨y0,y1,y2,y3,-⟩:=hY.g4;have pH:=F1_.blk;have aP:=b1.size;go_wp2_with fail
 refine (HOW.out w1 gr o y.runs.length rc rs G1 Fx G2 sr b1 F1_).mono ?_;rintro e w2 ⟨rfl,F2_,hC⟩;have rv1:=ov1.rdHi hC (fun x hx=>.inl (aA.out x (Be _ (hF2m.out x hx))));replace os:=os.chg hC (fun x hx hx2=>dW.out x hx (hF2m.out x hx2));replace hY:=hY.chg hC (fun hx=>cK (Be _ (hF2m.out _ hx)));have jB:Chg (b :: (F1 ++ F2)) w w2:=(Chg.of_below _ b1).trans (hC.mono (fun x hx=>List.mem_cons_of_mem _ (Be _ (hF2m.out x hx))));have aQ:=hC.size;clear y0 y1 y2 y3 F1_ hC ov1 F0_ orr;obtain ⟨y0,y1,y2,y3,-⟩:=hY.g4;obtain ⟨c0,c1,c2,c3,c4,c5,c6,c7⟩:=F2_.run;have gM:=F2_.blk;have CT2:=Bq (Ho r sr 2 w2 Bl (Ch.ow_rd F2_.here));go_wp2_with fail
 refine CT2.out.mono ?_;rintro e w3 ⟨v3,rfl,ov3,b3⟩;obtain ⟨A3,cv3,rfl,-⟩:=_root_.id (Rd.of_own ov3);clear y0 y1 y2 y3 c0 c1 c2 c3 c4 c5 c6 c7 CT2;have F3_:Foc Ch w3 gr o y.runs.length rc rs k G1 Fx G2 r sr:=F2_.sub (Chg.of_below _ b3) (Ch.ow_below F2_.here b3) rfl;replace os:=os.below b3;replace hY:=hY.below b3;have rv3:=Rd.of_own ov3;replace rv1:=(rv1.below b3).more b3.size;have dP:=jB.trans (Chg.of_below (b :: (F1 ++ F2)) b3);have vB:=b3.size;clear F2_ jB ov3 b3;have hL2:(G7 r.tasks 2).length<=1000:=Ah (Kp _ _ _) hT;have tF:(G7 rk.tasks 2).length<=1000:=Ah (Kp _ _ _) qX;obtain ⟨j0,cB,jz0,jz1,jz2⟩:=info_parts Qv;generalize G7 rk.tasks 2=L0 at *
 generalize G7 r.tasks 2=L2 at *
 go_wp2;go_loopw [7,9,35] (fun x u i wr=>∃ (j:Nat) (v:Value),j<=L2.length/\v=x/\i = .int .i64 j/\Hid (Ow Ec 3 wr w3 v ((L2.take j).filter fun t=>!decide (t∈L0)))/\Below w3 w3 wr) (fun _ _ i _=>L2.length - (intOf i).toNat);case atStart=>exact ⟨0,_,Ag _,rfl,rfl,Ow.nil _ _ _ _,Br _ _⟩
 case round =>
  obtain ⟨j,v,hj,rfl,rfl,hO,hb⟩:=hrel;by_cases mB:j<L2.length
  ·have gU:(j:Int)<(L2.length:Int):=Bl;obtain ⟨b9,o9,rfl,tI,e0⟩:=(rv3.below hb).nat mB;have cC:=hb.size;have hb9w:b9<wr:=Bl;have hS:=Bq (show (L2.take (j+1)).filter (fun t=>!decide (t∈L0))=(L2.take j).filter (fun t=>!decide (t∈L0)) ++ (if L2[j]∈L0 then [] else [L2[j]]) by
    rw [Cn L2 j mB,List.filter_append];congr 1;by_cases hx:L2[j]∈L0<;>simp [hx])
   have aJ:((L2.take j).filter fun t=>!decide (t∈L0)).length<=3000000:=Ah (List.length_filter_le _ _) (by rw [Az];omega);have CC:=Bq (Kg (.slice A1 L0.length cv1) L0 L2[j] wr wr Bl ((rv1.below hb).more hb.size));generalize L2[j]=t at *
   generalize (L2.take j).filter (fun t=>!decide (t∈L0))=ML at *
   by_cases hx:t∈L0
   ·rw [decide_eq_true hx] at CC;rw [if_pos hx,List.append_nil] at hS;go_wp2_with fail
    refine CC.out.mono ?_;rintro e w5 ⟨rfl,rfl⟩;go_wp2;exact ⟨⟨j+1,v,Bl,rfl,by go_num,by rw [hS.out];exact hO,hb⟩,by simp [intOf];omega⟩
   ·rw [decide_eq_false hx] at CC;rw [if_neg hx] at hS;obtain ⟨A7,c7,kQ,-⟩:=_root_.id (Rd.of_own hO.out);generalize kM:ML.length=n7 at kQ;subst kQ;replace kM:=Bq kM;have ha:Below wr wr (wr.alloc (.cells #[.int .i64 (t:Int)] 3)):=(Br _ _).alloc (Bs _) _;have cS:=Bq (show ∀ x,(Value.slice A7 n7 c7).ownBlock=Ac x->w3.heap.size<=x from fun x hx=>(hO.out.within x hx).1);go_wp2_with fail
    refine CC.out.mono ?_;rintro e w5 ⟨rfl,rfl⟩;go_wp2_with (at_builtin;refine By _ Ec Bp rfl (.tmp 43) (.tmp 45) rfl Tryz.underlying26 cB jz0 jz1 jz2 rfl (base:=w3.heap.size) (v:=.slice A7 n7 c7) (l:=ML) rfl (hO.out.below ha) rfl (Rd.one Ec _ _ t rfl rfl 1 (Bs _) (Nat.lt_succ_self _)) aJ Bn Bp (by simp;omega) ?_;intro v6 w6 o6 g6 _)
    have tC:Below w3 w3 w6:=(Bt hb ha).grown g6 (Bt hb ha).size (fun g hg=>by have:=cS.out g hg;omega);exact ⟨⟨j+1,v6,Bl,rfl,by go_num,by rw [hS.out];exact o6,tC⟩,by simp [intOf];omega⟩
  ·have gU:¬ (j:Int)<(L2.length:Int):=Bl;have cN:=hO.out;rw [Bg Bl] at cN;have cH:(L2.filter fun t=>!decide (t∈L0)).length<=1000:=Ah (List.length_filter_le _ _) hL2;generalize L2.filter (fun t=>!decide (t∈L0))=FL at *
   obtain ⟨A7,c7,rfl,-⟩:=_root_.id (Rd.of_own cN);have F4_:Foc Ch wr gr o y.runs.length rc rs k G1 Fx G2 r sr:=F3_.sub (Chg.of_below _ hb) (Ch.ow_below F3_.here hb) rfl;replace os:=os.below hb;replace hY:=hY.below hb;obtain ⟨y0,y1,y2,y3,-⟩:=hY.g4;obtain ⟨c0,c1,c2,c3,c4,c5,c6,c7_⟩:=F4_.run;have hgr4:=F4_.blk;have eE:=dP.trans (Chg.of_below (b :: (F1 ++ F2)) hb);have cC:=hb.size;have hb1F:b∉F1:=fun h=>cK (Bf _ h);have CS:=Bq (Ol ⟨y.now,y.seq,y.shelf,y.runs.set k r⟩ b g o' sc ⟨Ac ⟨gr,o,Ab⟩,y.runs.length,rc⟩ r sr FL A7 FL.length c7 wr F1 h4 (fun s hs=>by have:=hM s hs;omega) (by dsimp only;omega) cH hY os hb1F (Bq fun W hW=>cN.rdHi hW (fun x hx=>by
    have hgw':g<w:=fS;have:x=b\/x=g:=by simpa using hx
    left;rcases this with rfl | rfl<;>omega)))
   rw [<-hTS.out] at CS;unfold Nz at CS;dsimp only at CS;clear hO cN F3_ dP;have aK:=Bq (show (Fb y k r).runs=y.runs.set k r by rw [hTS.out];exact (Ui (y:=⟨y.now,y.seq,y.shelf,y.runs.set k r⟩) hM r FL).runs);generalize Fb y k r=Z at *
   go_wp2_with fail
   refine CS.out.mono ?_;rintro e w6 ⟨rfl,F1',os6,Y6,cE,sP⟩;have bR:b∉([gr] ++ (G1 ++ (Fx ++ G2))):=fun h=>cK (Be _ (by rw [qY];exact h));have orr6:=(F4_.owl hm).chg sP (fun x hx h=>by
    have:x=b\/x=g:=by simpa using h
    rcases this with rfl | rfl
    ·exact bR hx
    ·exact dW.out _ eI (by rw [qY];exact hx))
   rw [<-qY] at orr6;have gA:=eE.trans (sP.mono (fun x hx=>by
    have:x=b\/x=g:=by simpa using hx
    rcases this with rfl | rfl
    ·exact List.mem_cons_self ..
    ·exact List.mem_cons_of_mem _ (Bf _ eI)))
   have HF:=Bq (show Ur Z (⟨Ac ⟨g,o',Ab⟩,y.shelf.length,sc⟩,⟨Ac ⟨gr,o,Ab⟩,y.runs.length,rc⟩) b (F1 ++ F2) w (.returned (.tuple #[])) w6 from
    ⟨rfl,F1' ++ F2,Y6,⟨F1',F2,rfl,by
     rw [Ax];refine ⟨os6.nodup,(Ax.1 bN).2.1,fun a ha c hc e=>?_⟩;subst e;rcases cE _ ha with h | h
     ·exact dW.out _ h hc
     ·have:=aA.out _ (Be _ hc);omega,os6,by show OwL Ch _ F2 _ Z.runs;rw [aK.out];exact orr6⟩,fun x hx=>by
     rcases Bi.1 hx with h | h
     ·rcases cE _ h with h | h
      ·exact .inl (Bf _ h)
      ·right;omega
     ·exact .inl (Be _ h),gA⟩)
   clear orr6 os6 Y6 cE sP gA F4_;go_wp2;exact Aj (v:=.tuple #[]) (by simp [results,Tryz.results169,go_sem]) rfl HF.out
end Go.Proofs.YtonlnjdempbfoaaGreat
