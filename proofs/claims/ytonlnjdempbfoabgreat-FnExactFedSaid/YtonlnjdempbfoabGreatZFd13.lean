/-
  RunNew of the reference.  VictimsOf of the program. RunLeft of the program. Submit of the reference. Written by program (kx.py). RunNew of the program. Written 
-/
import Derived.Test.YtonlnjdempbfoabGreatZFd3
import Derived.Test.YtonlnjdempbfoabGreatZFd7
import Derived.Test.YtonlnjdempbfoabGreatZFd9
import Derived.Test.YtonlnjdempbfoabGreatZFd11
import Derived.Test.YtonlnjdempbfoabGreatZFd12
namespace Go.Proofs.YtonlnjdempbfoabGreat
open Go.RowKit
set_option maxRecDepth 100000
set_option maxHeartbeats 4000000
set_option linter.unusedVariables false
set_option linter.unusedSimpArgs false
open Value renaming int->J,slice->Aa
open IntKind renaming i64->U
open Option renaming none->Ab,some->Ac
open Below renaming setCell->Ad
open Nat renaming zero_le->Ag,le_trans->Ah
open Go renaming bodyPost_ret->Aj
open Go.Proofs.Tryz renaming prog->Am
open IntWalk renaming i64_in->Aq
open List renaming nodup_append->Ax,length_take->Az,mem_append_right->Be,mem_append_left->Bf,take_of_length_le->Bg,mem_append->Bi
open World renaming size_alloc->Bj
open Go.Proofs.Tryz
theorem Adr {b:Nat} {w:World} {u0 u1 u2 u3 u4 u5 u6 u7 v5:Value} (X:DBox b [u0,u1,u2,u3,u4,u5,u6,u7] w) {v0 v1 v2 v3:Value} {rest:List Value} :
  (results Tryz.f203 (v0 :: v1 :: v2 :: v3 :: .pointer (Ac ⟨b,0,Ab⟩) :: v5 :: rest).toArray).run Am w = .ok (.tuple #[.agg #[u0,u1,u2,u3,u4,u5,u6,u7],v5]) w:=by
 have c0:=X.cell 0 _ rfl;have c1:=X.cell 1 _ rfl;have c2:=X.cell 2 _ rfl;have c3:=X.cell 3 _ rfl;have c4:=X.cell 4 _ rfl;have c5:=X.cell 5 _ rfl;have c6:=X.cell 6 _ rfl;have c7:=X.cell 7 _ rfl;simp [results,results203,go_sem,c0,c1,c2,c3,c4,c5,c6,c7]
theorem Oi {α:Type} (f:Nat->α) (k:Nat):(List.range (k+1)).map f=(List.range k).map f ++ [f k]:=by rw [List.range_succ,List.map_append];rfl
def Aed (r:Run) (w:World) (e:Ending) (w':World):Prop :=
 ∃ s F,e = .returned (.tuple #[Gt r s,.bool true])/\Ce.ow w' F r s/\(∀ b∈F,w<=b)/\Below w w w'
theorem Vr (id:Int) (p:Plan) (s:Sl) (w:World) (hid:inB id 1 9999=true) (hf:Cs p=0) (h:Cd.rd w w p s) :
  Calls Am 203 #[J U id,Jr p s] w (Aed (Ck id p) w):=by
 have dG:=Dj.1 hf;have hT:=Eh dG.1;have hE:=Fh dG.1;obtain ⟨A,n,c⟩:=s;obtain rfl:n=p.edges.length:=RdL.at1 (s:=⟨A,n,c⟩) h;have qX:=Bq (fun W (hW:Below w w W)=>((Ir h).below hW).more hW.size);have CP:=Bq (fun W (hW:Below w w W)=>Kk p ⟨A,p.edges.length,c⟩ W (by unfold Ed;rw [Ge (cnt:=Eb) (fun _=>rfl)];omega) (Cd.rd_more (Cd.rd_below h hW) hW.size));have CF:=Bq (fun W (hW:Below w w W)=>Jz p (Aa A p.edges.length c) W Bl (qX.out W hW));have CB:=Bq (fun W (hW:Below w w W) t=>Oa p (Aa A p.edges.length c) t W dG.1 dG.2.1 dG.2.2.1 (qX.out W hW));rw [hf] at CF;obtain ⟨i0,aR,aX,aW,aU⟩:=info_parts Ov;clear h dG hE hf;have X:=(DBox.new 36 [J U p.prio,J U p.most,J U p.wait,J U p.tasks,Aa A p.edges.length c] w (b:=w) rfl).below ((Br _ _).alloc (Bs _) (.cells #[J U 0,J U 0,J U 0,J U 0,J U 0,Aa Ab 0 0,J U 0,Aa Ab 0 0] 167));have RES:=DBox.new 167 [J U 0,J U 0,J U 0,J U 0,J U 0,Aa Ab 0 0,J U 0,Aa Ab 0 0] (w.alloc (.cells #[J U p.prio,J U p.most,J U p.wait,J U p.tasks,Aa A p.edges.length c] 36)) (b:=w+1) Bn;have B0:Below w w ((w.alloc (.cells #[J U p.prio,J U p.most,J U p.wait,J U p.tasks,Aa A p.edges.length c] 36)).alloc (.cells #[J U 0,J U 0,J U 0,J U 0,J U 0,Aa Ab 0 0,J U 0,Aa Ab 0 0] 167)):=by repeat (first | exact Br _ _ | refine Below.alloc ?_ Bo _)
 go_enter func203,ntmps203;go_wp2_with (go_at_call 63;refine (Cg _ _ _ _).mono ?_;rintro e w9 ⟨rfl,rfl⟩;rw [hid])
 generalize ((w.alloc (.cells #[J U p.prio,J U p.most,J U p.wait,J U p.tasks,Aa A p.edges.length c] 36)).alloc (.cells #[J U 0,J U 0,J U 0,J U 0,J U 0,Aa Ab 0 0,J U 0,Aa Ab 0 0] 167))=W at *
 refine (CF.out _ B0).mono ?_;rintro e1 w1 ⟨rfl,b1⟩;have dP:=RES.lt;replace X:=X.below b1;replace RES:=RES.below b1;obtain ⟨X_0,X_1,X_2,X_3,X_4,X_l⟩:=X.g5;have B1:=Bu B0 b1;have bS:=b1.size;clear B0 b1;go_wp2_with fail
 refine (CP.out _ B1).mono ?_;rintro e1 w2 ⟨⟨A3,n3,c3⟩,F,rfl,op,nF,b2⟩;clear X_0 X_1 X_2 X_3 X_4 X_l;replace X:=X.below b2;replace RES:=RES.below b2;have B2:=Bu B1 b2;have eV:=b2.size;have cE:=Cd.ow_lt op;clear B1 b2 CP CF;obtain ⟨X_0,X_1,X_2,X_3,X_4,X_l⟩:=X.g5;go_upto_region 4 with fail
 have RB:=DBox.new 167 [J U id,J U p.prio,J U p.most,J U p.wait,J U p.tasks,Aa A3 n3 c3,J U 1,Aa Ab 0 0] w2 (b:=w2) rfl;have b3:Below w2 w2 (w2.alloc (.cells #[J U id,J U p.prio,J U p.most,J U p.wait,J U p.tasks,Aa A3 n3 c3,J U 1,Aa Ab 0 0] 167)):=Bt;clear X_0 X_1 X_2 X_3 X_4 X_l;replace X:=X.below b3;replace RES:=RES.below b3;replace op:=Cd.ow_below op b3;have B3:=Bu B2 b3;have kI:=b3.size;have hRB:=RB.lt;generalize w2.alloc (.cells #[J U id,J U p.prio,J U p.most,J U p.wait,J U p.tasks,Aa A3 n3 c3,J U 1,Aa Ab 0 0] 167)=w3 at *
 generalize uT:w2.heap.size=rb at *
 have cB:∀ x∈F,w+1<x/\x<rb:=fun x hx=>⟨by have:=nF x hx;omega,cE x hx⟩
 clear cE nF B2 b3;obtain ⟨T,tI⟩:∃ T:Nat,p.tasks=T:=⟨p.tasks.toNat,Bl⟩
 have mN:=Bq tI;have qG:=Bq (show p.tasks.toNat=T by omega);have fI:T<=12:=Bl;clear tI;have hH:Hid (Ck id p=⟨id,p,1,(List.range T).map (Ej p)⟩):=by
  show Ck id p=_;unfold Ck;rw [qG.out]
 go_wp2;go_loopw [7] (fun i wr=>∃ (k:Nat) (vt:Value),k<=T/\i = J U k/\Hid (Ow Fj 217 wr (rb+1) vt ((List.range k).map (Ej p)))/\DBox w [J U p.prio,J U p.most,J U p.wait,J U p.tasks,Aa A p.edges.length c] wr/\DBox (w+1) [J U 0,J U 0,J U 0,J U 0,J U 0,Aa Ab 0 0,J U 0,Aa Ab 0 0] wr/\DBox rb [J U id,J U p.prio,J U p.most,J U p.wait,J U p.tasks,Aa A3 n3 c3,J U 1,vt] wr/\Hid (Cd.ow wr F p ⟨A3,n3,c3⟩)/\Below w w wr/\rb<wr) (fun i _=>T - (intOf i).toNat);case atStart=>exact ⟨0,_,Ag _,rfl,Ow.nil Fj 217 w3 (rb+1),X,RES,RB,op,B3,hRB⟩
 case round =>
  clear X RES RB op B3;obtain ⟨k,vt,hk,rfl,ho,X,RES,RB,op,hb,bG⟩:=hrel;obtain ⟨X_0,X_1,X_2,X_3,X_4,X_l⟩:=X.g5;obtain ⟨RB_0,RB_1,RB_2,RB_3,RB_4,RB_5,RB_6,RB_7,RB_l⟩:=RB.g8;by_cases aA:k<T
  ·have aB:(k:Int)<p.tasks:=by have:=mN.out;omega
   have hS:=Bq (Oi (Ej p) k);go_wp2_with fail
   refine (CB.out _ hb k).mono ?_;rintro e1 w4 ⟨vb,rfl,ob,b4⟩;obtain ⟨A9,c9,rfl,-⟩:=_root_.id (Rd.of_own ob);have cS:(D9 (D4 p) p.tasks.toNat k).length<=12:=by have h1:=Iz (D4 p) p.tasks.toNat k;have h2:=qG.out;omega
   have hN:Hid (Ej p k=⟨if (D9 (D4 p) p.tasks.toNat k).length=0 then 2 else 1,(D9 (D4 p) p.tasks.toNat k).length,0,0⟩):=rfl;have tQ:=Bq (show ((List.range k).map (Ej p)).length<=3000000 by simp;omega);generalize (D9 (D4 p) p.tasks.toNat k).length=N at *
   clear X_0 X_1 X_2 X_3 X_4 X_l;clear RB_0 RB_1 RB_2 RB_3 RB_4 RB_5 RB_6 RB_7 RB_l;have hb4s:=b4.size;have bW:=hb.size;replace X:=X.below b4;replace RES:=RES.below b4;replace RB:=RB.below b4;replace op:=Cd.ow_below op.out b4;have dN:=ho.out.below b4;have bY:=Bu hb b4;clear ho b4 ob hb;obtain ⟨RB_0,RB_1,RB_2,RB_3,RB_4,RB_5,RB_6,RB_7,RB_l⟩:=RB.g8;have rbf:=RB.free;by_cases hz:N=0
   ·subst hz;have sG:Hid (Ej p k=⟨2,0,0,0⟩):=by rw [if_pos rfl] at hN;exact hN
    clear hN;have b5:Below w4 w4 (w4.alloc (.cells #[J U 2,J U 0,J U 0,J U 0] 217)):=Bt;have XB:=DBox.new 217 [J U 2,J U 0,J U 0,J U 0] w4 (b:=w4) rfl;go_upto_region 10 with fail
    clear RB_0 RB_1 RB_2 RB_3 RB_4 RB_5 RB_6 RB_7 RB_l;clear rbf;replace X:=X.below b5;replace RES:=RES.below b5;replace RB:=RB.below b5;replace op:=Cd.ow_below op b5;replace dN:=dN.below b5;replace bY:=Bu bY b5;have hb5s:=b5.size;clear b5;generalize w4.alloc (.cells #[J U 2,J U 0,J U 0,J U 0] 217)=w5 at *
    obtain ⟨RB_0,RB_1,RB_2,RB_3,RB_4,RB_5,RB_6,RB_7,RB_l⟩:=RB.g8;obtain ⟨XB_0,XB_1,XB_2,XB_3,XB_l⟩:=XB.g4;have rbf:=RB.free;have ha:Hid (∀ w:World,Below w w (w.alloc (.cells #[J U 2,J U 0,J U 0,J U 0] 217))):=fun w=>Bt;have HL:Hid (((List.range k).map (Ej p)).length=k):=by
     show ((List.range k).map (Ej p)).length=k;simp
    go_wp2_with (at_builtin;refine Ch _ Fj Bp rfl (.tmp 38) (.tmp 40) rfl underlying165 aR aX aW aU rfl (base:=rb+1) (l:=(List.range k).map (Ej p)) rfl (dN.below (ha.out w5)) rfl (Rd.one Fj _ _ ⟨2,0,0,0⟩ rfl rfl 1 (Bs _) (Nat.lt_succ_self _)) tQ.out Bn Bp (by simp;omega) ?_;intro v5 w6 o6 g6 _;obtain ⟨⟨va,vn,vc⟩,rfl⟩:∃ s:Sl,v5 = Aa s.a s.n s.c:=(by obtain ⟨A7,c7,rfl,_⟩:=Rd.of_own o6;exact ⟨⟨A7,_,c7⟩,rfl⟩);have RB6:=(RB.below (ha.out w5)).off g6 (fun e=>by have:=dN.within _ e.symm;omega);have q7:=RB6.cell 7 _ rfl;have qf:=RB6.free;have ql:=RB6.lt)
    have aK:Below w w w6:=(Bu bY (ha.out w5)).grown g6 (Bu bY (ha.out w5)).size (fun g hg=>by have:=dN.within _ hg;omega);have X6:=(X.below (ha.out w5)).off g6 (fun e=>by have:=dN.within _ e.symm;omega);have RES6:=(RES.below (ha.out w5)).off g6 (fun e=>by have:=dN.within _ e.symm;omega);have op6:=(Cd.ow_keep (Cd.ow_below op (ha.out w5)) g6.size (fun b dA=>g6.block b (Cd.ow_lt (Cd.ow_below op (ha.out w5)) b dA) (fun e=>by have h1:=dN.within _ e.symm;have h2:=cB b dA;omega)))
    have eJ:Ow Fj 217 (w6.setCell ⟨rb,7,Ab⟩ (Aa va vn vc)) (rb+1) (Aa va vn vc) ((List.range (k+1)).map (Ej p)):=by
     rw [hS.out,sG.out];exact o6.setOther (fun e=>by have h1:rb+1<=rb:=(o6.within _ e).1;omega) _
    exact ⟨⟨k+1,_,Bl,by go_num,eJ,X6.setOther (by show w.heap.size≠rb;omega) _,RES6.setOther (by show w.heap.size+1≠rb;omega) _,RB6.set 7 Bn _,Cd.ow_set op6 (a:=⟨rb,7,Ab⟩) (fun hx=>by have h1:w+1<rb/\rb<rb:=cB _ hx;omega) _,aK.setCell (by show w.heap.size<=rb;omega) _,by simp [World.setCell];omega⟩,by simp [intOf];omega⟩
   ·have sG:Hid (Ej p k=⟨1,N,0,0⟩):=by rw [if_neg hz] at hN;exact hN
    have hNI:(0:Int)<(N:Int):=Bl;clear hN hz;have b5:Below w4 w4 (w4.alloc (.cells #[J U 1,J U (N:Int),J U 0,J U 0] 217)):=Bt;have XB:=DBox.new 217 [J U 1,J U (N:Int),J U 0,J U 0] w4 (b:=w4) rfl;go_upto_region 10 with fail
    clear RB_0 RB_1 RB_2 RB_3 RB_4 RB_5 RB_6 RB_7 RB_l;clear rbf;replace X:=X.below b5;replace RES:=RES.below b5;replace RB:=RB.below b5;replace op:=Cd.ow_below op b5;replace dN:=dN.below b5;replace bY:=Bu bY b5;have hb5s:=b5.size;clear b5;generalize w4.alloc (.cells #[J U 1,J U (N:Int),J U 0,J U 0] 217)=w5 at *
    obtain ⟨RB_0,RB_1,RB_2,RB_3,RB_4,RB_5,RB_6,RB_7,RB_l⟩:=RB.g8;obtain ⟨XB_0,XB_1,XB_2,XB_3,XB_l⟩:=XB.g4;have rbf:=RB.free;have ha:Hid (∀ w:World,Below w w (w.alloc (.cells #[J U 1,J U (N:Int),J U 0,J U 0] 217))):=fun w=>Bt;have HL:Hid (((List.range k).map (Ej p)).length=k):=by
     show ((List.range k).map (Ej p)).length=k;simp
    go_wp2_with (at_builtin;refine Ch _ Fj Bp rfl (.tmp 38) (.tmp 40) rfl underlying165 aR aX aW aU rfl (base:=rb+1) (l:=(List.range k).map (Ej p)) rfl (dN.below (ha.out w5)) rfl (Rd.one Fj _ _ ⟨1,(N:Int),0,0⟩ rfl rfl 1 (Bs _) (Nat.lt_succ_self _)) tQ.out Bn Bp (by simp;omega) ?_;intro v5 w6 o6 g6 _;obtain ⟨⟨va,vn,vc⟩,rfl⟩:∃ s:Sl,v5 = Aa s.a s.n s.c:=(by obtain ⟨A7,c7,rfl,_⟩:=Rd.of_own o6;exact ⟨⟨A7,_,c7⟩,rfl⟩);have RB6:=(RB.below (ha.out w5)).off g6 (fun e=>by have:=dN.within _ e.symm;omega);have q7:=RB6.cell 7 _ rfl;have qf:=RB6.free;have ql:=RB6.lt)
    have aK:Below w w w6:=(Bu bY (ha.out w5)).grown g6 (Bu bY (ha.out w5)).size (fun g hg=>by have:=dN.within _ hg;omega);have X6:=(X.below (ha.out w5)).off g6 (fun e=>by have:=dN.within _ e.symm;omega);have RES6:=(RES.below (ha.out w5)).off g6 (fun e=>by have:=dN.within _ e.symm;omega);have op6:=(Cd.ow_keep (Cd.ow_below op (ha.out w5)) g6.size (fun b dA=>g6.block b (Cd.ow_lt (Cd.ow_below op (ha.out w5)) b dA) (fun e=>by have h1:=dN.within _ e.symm;have h2:=cB b dA;omega)))
    have eJ:Ow Fj 217 (w6.setCell ⟨rb,7,Ab⟩ (Aa va vn vc)) (rb+1) (Aa va vn vc) ((List.range (k+1)).map (Ej p)):=by
     rw [hS.out,sG.out];exact o6.setOther (fun e=>by have h1:rb+1<=rb:=(o6.within _ e).1;omega) _
    exact ⟨⟨k+1,_,Bl,by go_num,eJ,X6.setOther (by show w.heap.size≠rb;omega) _,RES6.setOther (by show w.heap.size+1≠rb;omega) _,RB6.set 7 Bn _,Cd.ow_set op6 (a:=⟨rb,7,Ab⟩) (fun hx=>by have h1:w+1<rb/\rb<rb:=cB _ hx;omega) _,aK.setCell (by show w.heap.size<=rb;omega) _,by simp [World.setCell];omega⟩,by simp [intOf];omega⟩
  ·have aB:¬ (k:Int)<p.tasks:=by have:=mN.out;omega
   have hkT:k=T:=Bl;subst hkT;have rf:=RES.free;have RES_0:=RES.cell 0 _ rfl;have RES_1:=RES.cell 1 _ rfl;have RES_2:=RES.cell 2 _ rfl;have RES_3:=RES.cell 3 _ rfl;have RES_4:=RES.cell 4 _ rfl;have RES_5:=RES.cell 5 _ rfl;have RES_6:=RES.cell 6 _ rfl;have RES_7:=RES.cell 7 _ rfl;have ho1:=ho.out;obtain ⟨⟨ta,tn,tc⟩,Ft,rfl,ot,nt⟩:=To ho1;go_wp2;have e1:w.heap.size+1∉F:=fun hx=>by have:=cB _ hx;omega
   have e2:w.heap.size+1∉Ft:=fun hx=>by have:=nt _ hx;omega
   refine Aj (Adr (DBox.row8 RES rfl _ _ _ _ _ _ _ _)) rfl ⟨(⟨A3,n3,c3⟩,⟨ta,tn,tc⟩),F ++ Ft,by rw [hH.out],⟨F,Ft,rfl,?_,?_,?_⟩,?_,?_⟩
   ·rw [Ax];refine ⟨Cd.ow_nodup op.out,ot.nodup,fun u hu u' hu' e=>?_⟩
    have:=cB u hu
    have:=nt u' hu'
    omega
   ·rw [hH.out];show Cd.ow _ F p _;exact (by (repeat (refine Dt.ow_set Cd ?_ e1 _));exact op.out)
   ·rw [hH.out];show OwL C7 _ Ft _ ((List.range k).map (Ej p));exact ((((((((ot.set (a:=⟨w+1,_,Ab⟩) e2 _).set (a:=⟨w+1,_,Ab⟩) e2 _).set (a:=⟨w+1,_,Ab⟩) e2 _).set (a:=⟨w+1,_,Ab⟩) e2 _).set (a:=⟨w+1,_,Ab⟩) e2 _).set (a:=⟨w+1,_,Ab⟩) e2 _).set (a:=⟨w+1,_,Ab⟩) e2 _).set (a:=⟨w+1,_,Ab⟩) e2 _)
   ·intro x hx;rcases Bi.1 hx with hx | hx
    ·have:=cB x hx;omega
    ·have:=nt x hx;have:=bS;omega
   ·repeat (first | (with_reducible exact hb) | refine Ad ?_ Bo _)
theorem Zl {home d k:Nat} (h:k<3):(Er home d).take (k+1)=(Er home d).take k ++ [(home+1+(d % 3+k) % 3) % 4]:=by
 have h1:(max (d:Int) 0 % 3).toNat=d % 3:=Bl;unfold Er;rw [h1,Int.toNat_natCast];rcases (show k=0\/k=1\/k=2 by omega) with rfl | rfl | rfl<;>rfl
theorem Th (n lo hi:Int) (w:World) (h:lo<=n/\n<=hi):Calls Am 253 #[J U n,J U lo,J U hi] w fun e w'=>e = .returned (J U n)/\w=w':=by
 have h1:max lo (min n hi)=n:=Bl;have h2:min (max n lo) hi=n:=Bl;have h3:min hi (max n lo)=n:=Bl;have h4:max (min n hi) lo=n:=Bl;go_enter func253,ntmps253;go_wp2;go_ret;exact ⟨C8 (show min n hi=n by omega),rfl⟩
theorem Ti (home d:Nat) (w:World) (hh:home<4) (hd:d<=1000000000) :
  Calls Am 182 #[J U (home:Int),J U (d:Int)] w fun e w'=>∃ v,e = .returned v/\Ow Eu 3 w' w v (Er home d)/\Below w w w':=by
 obtain ⟨j0,cJ,jz0,jz1,jz2⟩:=info_parts Rt;have CB:=Bq (fun W=>Th (home:Int) 0 3 W Bl);have hmx:max (d:Int) 0=d:=Bl;have rD:(d:Int).tmod 3=((d % 3:Nat):Int):=by
  rw [Int.tmod_eq_emod_of_nonneg Bl];omega
 have hm3:=Nat.mod_lt d (show 0<3 by decide);have hT:=Bq (fun k h=>Zl (home:=home) (d:=d) (k:=k) h);have wD:U.wrap ((d % 3:Nat):Int)=((d % 3:Nat):Int):=Aq _ Bl;have wH:U.wrap ((home:Int)+1)=(home:Int)+1:=Aq _ Bl;have hV:=Bq (show (Er home d).length=3 by unfold Er;simp);generalize Er home d=V at *
 generalize d % 3=m at *
 go_enter func182,ntmps182;go_wp2_with (go_at_call 253;refine (CB.out _).mono ?_;rintro e w1 ⟨rfl,rfl⟩)
 go_loopw [5,6] (fun v j wr=>∃ k:Nat,k<=3/\j = J U (k:Int)/\Hid (Ow Eu 3 wr w v (V.take k))/\Below w w wr) (fun _ j _=>3 - (intOf j).toNat);case atStart=>exact ⟨0,Ag _,rfl,Ow.nil _ _ _ _,Br _ _⟩
 case round =>
  obtain ⟨k,hk,rfl,hO,hb⟩:=hrel;by_cases aA:k<3
  ·have aB:(k:Int)<3:=Bl;have S:=Bq (hT.out k aA);have wA:U.wrap ((m:Int)+(k:Int))=(m:Int)+(k:Int):=Aq _ Bl;have rA:((m:Int)+(k:Int)).tmod 3=(((m+k) % 3:Nat):Int):=by
    rw [Int.tmod_eq_emod_of_nonneg Bl];omega
   have hq3:=Nat.mod_lt (m+k) (show 0<3 by decide);have wB:U.wrap (((m+k) % 3:Nat):Int)=(((m+k) % 3:Nat):Int):=Aq _ Bl;generalize (m+k) % 3=q at *
   have wC:U.wrap ((home:Int)+1+(q:Int))=(home:Int)+1+(q:Int):=Aq _ Bl;have rC:((home:Int)+1+(q:Int)).tmod 4=(((home+1+q) % 4:Nat):Int):=by
    rw [Int.tmod_eq_emod_of_nonneg Bl];omega
   have wE:U.wrap (((home+1+q) % 4:Nat):Int)=(((home+1+q) % 4:Nat):Int):=Aq _ Bl;have Hl:=Bq (show (V.take k).length<=3000000 by rw [Az];omega);generalize (home+1+q) % 4=x at *
   have ha:Hid (∀ w:World,Below w w (w.alloc (.cells #[J U (x:Int)] 3))):=fun w=>Bt;have cX:=hO.out;have cQ:=hb.size;go_wp2_with (at_builtin;refine Ch _ Eu Bp rfl (.tmp 13) (.tmp 24) rfl underlying32 cJ jz0 jz1 jz2 rfl (base:=w) (l:=V.take k) rfl (cX.below (ha.out wr)) rfl (Rd.one Eu _ _ x rfl rfl 1 (Bs _) (Nat.lt_succ_self _)) Hl.out Bn Bp (by simp;omega) ?_;intro v5 w5 o5 g5 _)
   have eX:Below w w w5:=(Bu hb (ha.out wr)).grown g5 (Bu hb (ha.out wr)).size (fun g hg=>by have:=cX.within _ hg;omega);exact ⟨⟨k+1,Bl,by go_num,by rw [S.out];exact o5,eX⟩,by simp [intOf];omega⟩
  ·have aB:¬ (k:Int)<3:=Bl;have cX:=hO.out;rw [Bg (by have:=hV.out;omega)] at cX;clear hO;go_wp2;go_ret;exact ⟨_,rfl,cX,hb⟩
theorem Age {r:Run} (h:Hd r) (hS:r.state=1):∀ k (hk:k<r.tasks.length),r.tasks[k].state≠5:=by
 have h1:=h.2.2.2.2.1;rw [hS] at h1;unfold stL at h1;have h0:Dv r.tasks 5=0:=by
  split at h1
  ·omega
  split at h1
  ·omega
  split at h1
  ·omega
  split at h1
  ·next h=>exact h.1
  ·omega
 exact fun k hk=>Xy.1 h0 _ (List.getElem_mem hk)
theorem Afm {b:Nat} {w:World} {u0 u1 u2 u3 u4 u5 u6 u7:Value} (X:DBox b [u0,u1,u2,u3,u4,u5,u6,u7] w) {v0 v1:Value} {rest:List Value} :
  (results Tryz.f195 (v0 :: v1 :: .pointer (Ac ⟨b,0,Ab⟩) :: rest).toArray).run Am w = .ok (.agg #[u0,u1,u2,u3,u4,u5,u6,u7]) w:=by
 obtain ⟨c0,c1,c2,c3,c4,c5,c6,c7,-⟩:=X.g8;simp [results,results195,go_sem,c0,c1,c2,c3,c4,c5,c6,c7]
theorem Zm (r:Run) (s:Sl×Sl) (w:World) (hl:Cn r<=2000000) (hR:Hd r) (hS:r.state=1) (h:Ce.rd w w r s) :
  Calls Am 195 #[Gt r s] w (Df Ce Gt (Dx r 4) w):=by
 have CP:=Bq (fun W (hW:Below w w W)=>Nx r s W hl (Ce.rd_more (Ce.rd_below h hW) hW.size));have CR:=Bq (fun W (hW:Below w w W)=>Pn r s W hl (Ce.rd_more (Ce.rd_below h hW) hW.size));rw [Dp hR] at CR;have aF:=D7 hR;have hp:0<r.tasks.length:=Bl;have h5:=Bq (Age hR hS);obtain ⟨⟨A1,n1,c1⟩,⟨A2,n2,c2⟩⟩:=s;obtain rfl:n2=r.tasks.length:=RdL.at1 (s:=⟨A2,n2,c2⟩) h.2;clear h hl hR;have bS:(r.state == 1)=true:=by simp [hS]
 clear hS;obtain ⟨W,aH,X,RES,B0⟩:=bx2 w 167 [J U r.id,J U r.plan.prio,J U r.plan.most,J U r.plan.wait,J U r.plan.tasks,Aa A1 n1 c1,J U r.state,Aa A2 r.tasks.length c2] 167 [J U 0,J U 0,J U 0,J U 0,J U 0,Aa Ab 0 0,J U 0,Aa Ab 0 0];go_enter func195,ntmps195;go_wp2_with fail
 rw [<-aH.out];clear aH;refine (CP.out _ B0).mono ?_;rintro e w1 ⟨⟨⟨A3,n3,c3⟩,⟨A4,n4,c4⟩⟩,F,rfl,o1,nF,b1⟩;obtain ⟨F1,F2,rfl,bT,op,ot⟩:=o1;replace ot:OwL C7 w1 F2 (Aa A4 n4 c4) r.tasks:=ot;obtain rfl:n4=r.tasks.length:=RdL.at1 (s:=⟨A4,n4,c4⟩) ot.rd;have oh:=Nm ot;clear ot CP;obtain ⟨b,o,rfl,aK,d0,d1,d2,d3⟩:=oh.rd.tsk hp;clear d0 d1 d2 d3;obtain ⟨rfl,bW,pV⟩:=oh.block hp;have dP:=RES.lt;have b2:Below w1 w1 (w1.alloc (.cells #[J U r.id,J U r.plan.prio,J U r.plan.most,J U r.plan.wait,J U r.plan.tasks,Aa A3 n3 c3,J U r.state,Aa (Ac ⟨b,o,Ab⟩) r.tasks.length c4] 167)):=Bt;have OB:=DBox.new 167 [J U r.id,J U r.plan.prio,J U r.plan.most,J U r.plan.wait,J U r.plan.tasks,Aa A3 n3 c3,J U r.state,Aa (Ac ⟨b,o,Ab⟩) r.tasks.length c4] w1 (b:=w1) rfl;have cZ:=Bq (show ∀ x∈F1 ++ [b],w.heap.size+1<x from fun x hx=>by have:=nF x hx;omega);have eR:=Bq (show ∀ x∈F1,x<w1 from fun x hx=>(Cd.ow_lt op) x hx);have fA:b∉F1:=fun hx=>(Ax.1 bT).2.2 b hx b Bn rfl;have b12:=Bu b1 b2;replace X:=X.below b12;replace RES:=RES.below b12;replace B0:=Bu B0 b12;replace oh:=oh.below b2;replace op:=Cd.ow_below op b2;have hs1w:=b1.size;clear b1 b2 b12 nF aK pV;go_upto_region 2 with fail
 have cW:w.heap.size+1<w1.heap.size:=Bl;have hoF:w1.heap.size∉F1:=fun hx=>by have:=eR.out _ hx;omega
 have hob2:w1≠b:=Bl;clear eR bW hs1w;generalize w1.heap.size=ob at *
 generalize w1.alloc (.cells #[J U r.id,J U r.plan.prio,J U r.plan.most,J U r.plan.wait,J U r.plan.tasks,Aa A3 n3 c3,J U r.state,Aa (Ac ⟨b,o,Ab⟩) r.tasks.length c4] 167)=w2 at *
 have X_:=X.g8;go_wp2_with fail
 refine (CR.out _ B0).mono ?_;rintro e w3 ⟨rfl,b3⟩;clear X_;replace X:=X.below b3;replace RES:=RES.below b3;replace OB:=OB.below b3;replace B0:=Bu B0 b3;replace oh:=oh.below b3;replace op:=Cd.ow_below op b3;clear b3 CR;have CL:=Bq (Pt ob 0 b o c4 r.tasks (-1) w3 (OB.cell 7 _ rfl) OB.lt hob2 Bl hp oh (fun k hk=>⟨fun h=>absurd h (h5.out k hk),fun h=>Bl⟩));have X_:=X.g8;go_wp2_with fail
 refine CL.out.mono ?_;rintro e w4 ⟨rfl,oh4,hc⟩;clear X_;clear X CL oh h5;have bM:=B0.size;have hbA:=cZ.out b Bn;have kQ:=Bq (show ∀ x,x∈[b]->x=b from fun x hx=>by simpa using hx);have op4:=Cd.ow_chg op hc (fun x hx h=>by have:=kQ.out x h;subst this;exact fA hx);replace B0:=B0.trans (hc.below (base:=w) bM (fun x hx=>by have:=kQ.out x hx;omega));replace RES:=RES.chg hc (fun hx=>by have:=kQ.out _ hx;omega);replace OB:=OB.chg hc (fun hx=>hob2 (kQ.out _ hx));clear hc op;have OB_:=OB.g8;have obf:=OB.free;go_upto_region 5 with fail
 clear OB_;clear obf;replace OB:DBox ob [J U r.id,J U r.plan.prio,J U r.plan.most,J U r.plan.wait,J U r.plan.tasks,Aa A3 n3 c3,J U r.state,Aa (Ac ⟨b,o,Ab⟩) r.tasks.length c4] w4:=OB;have qL:ob∉[b]:=fun hx=>hob2 (kQ.out _ hx);replace OB:=OB.set 6 Bn (J U 4);replace RES:=RES.setOther (a:=⟨ob,6,Ab⟩) (by show w.heap.size+1≠ob;omega) (J U 4);have oh5:=oh4.set (a:=⟨ob,6,Ab⟩) qL (J U 4);have op5:=Cd.ow_set op4 (a:=⟨ob,6,Ab⟩) hoF (J U 4);replace B0:Below w w (w4.setCell ⟨ob,6,Ab⟩ (J U 4)):=Ad B0 (by show w.heap.size<=ob;omega) _;clear oh4 op4;generalize w4.setCell ⟨ob,6,Ab⟩ (J U 4)=w5 at *
 replace OB:DBox ob [J U r.id,J U r.plan.prio,J U r.plan.most,J U r.plan.wait,J U r.plan.tasks,Aa A3 n3 c3,J U 4,Aa (Ac ⟨b,o,Ab⟩) r.tasks.length c4] w5:=OB;have OB_:=OB.g8;have RES_:=RES.g8;have rf:=RES.free;go_wp2;refine Aj (Afm (DBox.row8 RES rfl _ _ _ _ _ _ _ _)) rfl ⟨(⟨A3,n3,c3⟩,⟨Ac ⟨b,o,Ab⟩,r.tasks.length,c4⟩),F1 ++ [b],rfl,⟨F1,[b],rfl,bT,?_,?_⟩,?_,?_⟩
 ·have e2:w.heap.size+1∉F1:=fun hx=>by have:=cZ.out _ (Bf _ hx);omega
  show Cd.ow _ F1 r.plan _;exact (by (repeat (refine Dt.ow_set Cd ?_ e2 _));exact op5)
 ·have e1:w.heap.size+1∉[b]:=fun hx=>by have:=kQ.out _ hx;omega
  show OwL C7 _ [b] _ (r.tasks.map Dq);have hL:r.tasks.length=(r.tasks.map Dq).length:=by rw [List.length_map]
  show OwL C7 _ [b] (Aa (Ac ⟨b,o,Ab⟩) r.tasks.length c4) (r.tasks.map Dq);exact Gz (by (repeat (refine Hw.set ?_ e1 _));exact oh5)
 ·intro x hx
  have:=cZ.out x hx
  omega
 ·repeat (first | (with_reducible exact B0) | refine Ad ?_ Bo _)
section
open Classical in
noncomputable def Je (y:Yard) (id:Int) (p:Plan):Int :=
 if ¬ Dh y then 8 else if inB id 1 9999=false then 5 else if 0<=Dk y id then 6 else if ¬ Cs p=0 then Cs p else if Mf y p=false then 7 else 0
noncomputable def Jf (y:Yard) (id:Int) (p:Plan):Yard:=if Je y id p=0 then Nj ⟨y.now,y.seq,y.shelf,y.runs ++ [Ck id p]⟩ G4 (Ck id p) else y
theorem Kt {b:Nat} {w:World} {u0 u1 u2 u3:Value} (X:DBox b [u0,u1,u2,u3] w) {v0 v1 v2 v3 v4 v5 v7:Value} {rest:List Value} :
  (results Tryz.f123 (v0 :: v1 :: v2 :: v3 :: v4 :: v5 :: .pointer (Ac ⟨b,0,Ab⟩) :: v7 :: rest).toArray).run Am w = .ok (.tuple #[.agg #[u0,u1,u2,u3],v7]) w:=by
 have c0:=X.cell 0 _ rfl;have c1:=X.cell 1 _ rfl;have c2:=X.cell 2 _ rfl;have c3:=X.cell 3 _ rfl;simp [results,results123,go_sem,c0,c1,c2,c3]
theorem Agx {α:Type} (d:Dt α) (w:World) (B c:Nat):RdL d w B (Aa Ab 0 c) []:=⟨[],rfl,Rd.nil _ _ _ _,fun _ h=>by cases h⟩
def BldG {α:Type} (d:Dt α) (E:TypeId) (w:World) (base:Nat) (v:Value) (rs:List (α×d.S)) (G:List Nat):Prop :=
 Ow d.enc E w base v rs/\Ows d w G rs/\G.Nodup /\ ∀ b∈G,base<=b/\v.ownBlock≠Ac b
theorem BldG.below {α:Type} {d:Dt α} {E:TypeId} {w w':World} {base:Nat} {v:Value} {rs:List (α×d.S)} {G:List Nat} (h:BldG d E w base v rs G) (hb:Below w w w'):BldG d E w' base v rs G :=
 ⟨h.1.below hb,h.2.1.bel hb,h.2.2.1,h.2.2.2⟩
theorem BldG.push1 {α:Type} {d:Dt α} {E:TypeId} {w w1 w2 w5:World} {base:Nat} {v v5:Value} {rs:List (α×d.S)} {G:List Nat} {x:α} {s:d.S} {F:List Nat} (h:BldG d E w base v rs G) (hb:Below w w w1) (o1:d.ow w1 F x s) (n1:∀ b∈F,w<=b)
  (bE:base<=w.heap.size) (aG:Below w1 w1 w2) (o5:Ow d.enc E w5 base v5 (rs ++ [(x,s)])) (g5:w2.grownBy w5 v.ownBlock) (f5:v5.ownBlock=v.ownBlock\/v5.ownBlock=Ac w2.heap.size):BldG d E w5 base v5 (rs ++ [(x,s)]) (G ++ F):=by
 obtain ⟨h1,h2,h3,h4⟩:=h;have hG:∀ b∈G,b<w:=h2.lt;have cE:∀ b∈F,b<w1:=d.ow_lt o1;have uB:∀ b∈F,v.ownBlock≠Ac b:=fun b hb he=>by
  have h5:=(h1.within b he).2;have h6:=n1 b hb;omega
 have hs:=hb.size;have eV:=aG.size;have ht:Ows d w2 F [(x,s)]:=Ows.one (r:=(x,s)) (d.ow_below o1 aG);refine ⟨o5,?_,?_,?_⟩
 ·refine Ows.append ((h2.bel (Bu hb aG)).keep g5.size fun b hbG=>g5.block b (by have:=hG b hbG;omega) ?_) (ht.keep g5.size fun b dA=>g5.block b (by have:=cE b dA;omega) ?_)
  ·exact fun e=>(h4 b hbG).2 e.symm
  ·exact fun e=>uB b dA e.symm
 ·rw [Ax];refine ⟨h3,d.ow_nodup o1,fun a ha b aV e=>?_⟩
  have:=hG a ha
  have:=n1 b aV
  omega
 ·intro b hbm;rcases Bi.1 hbm with hbm | hbm
  ·refine ⟨(h4 b hbm).1,?_⟩;rcases f5 with hv | hv
   ·rw [hv];exact (h4 b hbm).2
   ·rw [hv];intro e
    have:=hG b hbm
    injection e with e
    omega
  ·refine ⟨by have:=n1 b hbm;omega,?_⟩;rcases f5 with hv | hv
   ·rw [hv];exact uB b hbm
   ·rw [hv];intro e
    have:=cE b hbm
    injection e with e
    omega
theorem BldG.owl {α:Type} {d:Dt α} {E:TypeId} {w:World} {base:Nat} {v:Value} {rs:List (α×d.S)} {G:List Nat} (h:BldG d E w base v rs G) {l:List α} (hl:rs.map (·.1)=l):OwL d w (Ek v rs.length ++ G) v l:=by
 obtain ⟨h1,h2,h3,h4⟩:=h;obtain ⟨h5,h6⟩:=Hw.of_ow h1;refine ⟨rs,_,G,hl,h5,h2,rfl,?_⟩;rw [Ax];refine ⟨Jw _ _,h3,fun a ha b hb e=>?_⟩;subst e;exact (h4 a hb).2 (Ht _ _ _ ha)
theorem Vs (y:Yard) (s:Sl×Sl) (id:Int) (p:Plan) (sp:Sl) (w:World) (hl:Ca y<=2000000) (hp:p.edges.length<=2000000) (h:Bv.rd w w y s) (hpr:Cd.rd w w p sp) :
  Calls Am 123 #[Dm y s,J U id,Jr p sp] w (Ij (Jf y id p) (Je y id p) w):=by
 have HR:=Bq (show ∀ W,Below w w W->Bv.rd W W y s from fun W hW=>Bv.rd_more (Bv.rd_below h hW) hW.size);obtain ⟨⟨A1,n1,c1⟩,⟨A2,n2,c2⟩⟩:=s;obtain ⟨A3,n3,c3⟩:=sp;obtain rfl:n3=p.edges.length:=RdL.at1 (s:=⟨A3,n3,c3⟩) hpr;have CC:=Bq (fun W hW=>M4 y (⟨A1,n1,c1⟩,⟨A2,n2,c2⟩) W hl (HR.out W hW));have CY:=Bq (fun W hW=>Fz y (⟨A1,n1,c1⟩,⟨A2,n2,c2⟩) W hl (HR.out W hW));have CA:=Bq (fun W hW=>E8 y (⟨A1,n1,c1⟩,⟨A2,n2,c2⟩) id W hl (HR.out W hW));have CF:=Bq (fun W (hW:Below w w W)=>Jz p (Aa A3 p.edges.length c3) W hp (((Ir hpr).below hW).more hW.size));have CR:=Bq (fun W hW hS hq=>Zd y (⟨A1,n1,c1⟩,⟨A2,n2,c2⟩) p (Aa A3 p.edges.length c3) W hl hS hq (HR.out W hW));have CN:=Bq (fun W (hW:Below w w W) hid hf=>Vr id p ⟨A3,p.edges.length,c3⟩ W hid hf (Cd.rd_more (Cd.rd_below hpr hW) hW.size));obtain ⟨j0,cJ,jz0,jz1,jz2⟩:=info_parts Kf;clear h hpr HR;obtain ⟨W,aH,X,P,RES,B0⟩:=bx3 w 27 [J U y.now,J U y.seq,Aa A1 n1 c1,Aa A2 n2 c2] 36 [J U p.prio,J U p.most,J U p.wait,J U p.tasks,Aa A3 p.edges.length c3] 27 [J U 0,J U 0,Aa Ab 0 0,Aa Ab 0 0];go_enter func123,ntmps123;go_wp2_with fail
 rw [<-aH.out];clear aH;have dP:w.heap.size+1+1<W.heap.size:=RES.lt;refine (CC.out _ B0).mono ?_;rintro e1 w1 ⟨⟨B1,m1,e1⟩,⟨B2,m2,e2⟩,F1,base,rfl,oS,eR,bE,cQ,oR,b1⟩;have bS:=b1.size;replace X:=X.below b1;replace P:=P.below b1;replace RES:=RES.below b1;replace B0:=Bu B0 b1;clear b1;obtain ⟨rs,bU,G0,oR⟩:=oR;have hm:=Bq bU;clear bU;replace oR:BldG Ce 167 w1 base (Aa B2 m2 e2) rs G0:=oR;have uS:=oR.2.1.lt;have qL:∀ g,(Value.slice B2 m2 e2).ownBlock=Ac g->g≠w1.heap.size:=fun g hg h=>by
  have:=(oR.1.within g hg).2
  omega
 obtain ⟨F,oy,nF⟩:∃ F,Bv.ow w1 F y (⟨B1,m1,e1⟩,⟨B2,m2,e2⟩) /\ ∀ x∈F,W<=x:=by
  have hB:Bld Ce 167 w1 base (Aa B2 m2 e2) rs:=⟨G0,oR⟩
  replace hm:=hm.out;obtain ⟨F2,h5,h6⟩:=hB.owl hm;refine ⟨F1 ++ F2,⟨F1,F2,rfl,?_,oS,h5⟩,fun b hb=>?_⟩
  ·rw [Ax];refine ⟨oS.nodup,h5.nodup,fun u hu u' hu' e=>?_⟩
   have:=eR u hu
   have:=h6 u' hu'
   omega
  ·rcases Bi.1 hb with hb | hb
   ·exact (eR b hb).1
   ·have:=h6 b hb;omega
 go_upto_region 2 with fail
 have OB:=DBox.new 27 [J U y.now,J U y.seq,Aa B1 m1 e1,Aa B2 m2 e2] w1 (b:=w1) rfl;have b2:Below w1 w1 (w1.alloc (.cells #[J U y.now,J U y.seq,Aa B1 m1 e1,Aa B2 m2 e2] 27)):=Bt;replace X:=X.below b2;replace P:=P.below b2;replace RES:=RES.below b2;replace oy:=Bv.ow_below (F:=F) (x:=y) (s:=(⟨B1,m1,e1⟩,⟨B2,m2,e2⟩)) oy b2;replace oS:=oS.below b2;replace oR:=oR.below b2;replace B0:=Bu B0 b2;have ow1:=OB.lt;have hbob:base<=w1.heap.size:=cQ;replace cQ:=Ah cQ b2.size;clear b2;generalize w1.alloc (.cells #[J U y.now,J U y.seq,Aa B1 m1 e1,Aa B2 m2 e2] 27)=w2 at *
 generalize cW:w1.heap.size=ob at *
 have X_:=X.g4;have P_:=P.g5;have OB_:=OB.g4;go_wp2_with fail
 refine (CY.out _ B0).mono ?_;rintro e1 w3 ⟨rfl,b3⟩;clear X_;clear P_;clear OB_;replace X:=X.below b3;replace P:=P.below b3;replace OB:=OB.below b3;replace RES:=RES.below b3;replace oy:Bv.ow w3 F y (⟨B1,m1,e1⟩,⟨B2,m2,e2⟩):=owB oy b3;replace oS:=oS.below b3;replace oR:=oR.below b3;replace B0:=Bu B0 b3;replace cQ:=Ah cQ b3.size;clear b3;have X_:=X.g4;have P_:=P.g5;have OB_:=OB.g4;by_cases p0:Dh y;case neg =>
  rw [Ci p0];have H:=Bq (show Je y id p=8 by unfold Je;rw [if_pos p0]);have H2:=Bq (show Jf y id p=y by unfold Jf;rw [H.out,if_neg Bp]);have RES_:=RES.g4;have rf:=RES.free;go_wp2;have en1:w.heap.size+1+1∉F:=fun hx=>by have:=nF _ hx;omega
  refine Aj (Kt (DBox.row4 RES rfl _ _ _ _)) rfl ⟨(⟨B1,m1,e1⟩,⟨B2,m2,e2⟩),F,by rw [H.out,H2.out],by rw [H2.out];exact (by (repeat (refine Dt.ow_set Bv ?_ en1 _));exact (show Bv.ow _ F y (⟨B1,m1,e1⟩,⟨B2,m2,e2⟩) from oy)),fun x hx=>by have:=nF x hx;omega,?_⟩;repeat (first | (with_reducible exact B0) | refine Ad ?_ Bo _)
 rw [Dp p0];have rL:=p0.2.2.2.2.2.2.2.2.2;have hsq:=p0.2.1;have h4:=Bq p0.2.2.1;have dK:=Bq p0.2.2.2.1;have P0:=Bq p0;clear p0;cases p1:inB id 1 9999;case false =>
  have H:=Bq (show Je y id p=5 by unfold Je;rw [if_neg (fun h=>h P0.out),if_pos p1]);have H2:=Bq (show Jf y id p=y by unfold Jf;rw [H.out,if_neg Bp]);have RES_:=RES.g4;have rf:=RES.free;go_wp2_with (go_at_call 63;refine (Cg _ _ _ _).mono ?_;rintro e w9 ⟨rfl,rfl⟩;rw [p1])
  have en1:w.heap.size+1+1∉F:=fun hx=>by have:=nF _ hx;omega
  refine Aj (Kt (DBox.row4 RES rfl _ _ _ _)) rfl ⟨(⟨B1,m1,e1⟩,⟨B2,m2,e2⟩),F,by rw [H.out,H2.out],by rw [H2.out];exact (by (repeat (refine Dt.ow_set Bv ?_ en1 _));exact (show Bv.ow _ F y (⟨B1,m1,e1⟩,⟨B2,m2,e2⟩) from oy)),fun x hx=>by have:=nF x hx;omega,?_⟩;repeat (first | (with_reducible exact B0) | refine Ad ?_ Bo _)
 have P1:=Bq p1;go_wp2_with (go_at_call 63;refine (Cg _ _ _ _).mono ?_;rintro e w9 ⟨rfl,rfl⟩;rw [p1])
 refine (CA.out _ B0).mono ?_;rintro e1 w4 ⟨rfl,b4⟩;clear X_;clear P_;clear OB_;replace X:=X.below b4;replace P:=P.below b4;replace OB:=OB.below b4;replace RES:=RES.below b4;replace oy:Bv.ow w4 F y (⟨B1,m1,e1⟩,⟨B2,m2,e2⟩):=owB oy b4;replace oS:=oS.below b4;replace oR:=oR.below b4;replace B0:=Bu B0 b4;replace cQ:=Ah cQ b4.size;clear b4;have X_:=X.g4;have P_:=P.g5;have OB_:=OB.g4;by_cases p2:0<=Dk y id;case pos =>
  have H:=Bq (show Je y id p=6 by unfold Je;rw [if_neg (fun h=>h P0.out),if_neg (by rw [P1.out];simp),if_pos p2]);have H2:=Bq (show Jf y id p=y by unfold Jf;rw [H.out,if_neg Bp]);have RES_:=RES.g4;have rf:=RES.free;go_wp2;have en1:w.heap.size+1+1∉F:=fun hx=>by have:=nF _ hx;omega
  refine Aj (Kt (DBox.row4 RES rfl _ _ _ _)) rfl ⟨(⟨B1,m1,e1⟩,⟨B2,m2,e2⟩),F,by rw [H.out,H2.out],by rw [H2.out];exact (by (repeat (refine Dt.ow_set Bv ?_ en1 _));exact (show Bv.ow _ F y (⟨B1,m1,e1⟩,⟨B2,m2,e2⟩) from oy)),fun x hx=>by have:=nF x hx;omega,?_⟩;repeat (first | (with_reducible exact B0) | refine Ad ?_ Bo _)
 have P2:=Bq p2;go_wp2_with fail
 refine (CF.out _ B0).mono ?_;rintro e1 w5 ⟨rfl,b5⟩;clear p1 p2;clear X_;clear P_;clear OB_;replace X:=X.below b5;replace P:=P.below b5;replace OB:=OB.below b5;replace RES:=RES.below b5;replace oy:Bv.ow w5 F y (⟨B1,m1,e1⟩,⟨B2,m2,e2⟩):=owB oy b5;replace oS:=oS.below b5;replace oR:=oR.below b5;replace B0:=Bu B0 b5;replace cQ:=Ah cQ b5.size;clear b5;have X_:=X.g4;have P_:=P.g5;have OB_:=OB.g4;by_cases p3:Cs p=0;case neg =>
  have q3:(Cs p != 0)=true:=by simp [p3]
  have H:=Bq (show Je y id p=Cs p by unfold Je;rw [if_neg (fun h=>h P0.out),if_neg (by rw [P1.out];simp),if_neg (by have:=P2.out;omega),if_pos p3]);have H2:=Bq (show Jf y id p=y by unfold Jf;rw [H.out,if_neg p3]);clear p3;have en1:w.heap.size+1+1∉F:=fun hx=>by have:=nF _ hx;omega
  have RES_:=RES.g4;have rf:=RES.free;have hpb:w.heap.size+1<w5.heap.size:=P.lt;have hobl:ob<w5:=OB.lt;have CF5:=Bq (CF.out _ B0.drew);go_wp2;refine Go.wp_region_noPanic ?_;refine wp_region_held_drew (S:=(fun w'=>DBox ob [J U y.now,J U y.seq,Aa B1 m1 e1,Aa B2 m2 e2] w'/\DBox (w+1) [J U p.prio,J U p.most,J U p.wait,J U p.tasks,Aa A3 p.edges.length c3] w')) Bm ⟨DBox.drew4 OB,DBox.drew4 P⟩ (fun hHeld=>?_);replace oy:Bv.ow w5.drew F y (⟨B1,m1,e1⟩,⟨B2,m2,e2⟩):=owB oy (Br _ _).drew;clear RES_;clear rf;replace RES:DBox _ _ w5.drew:=DBox.drew4 RES;replace B0:=B0.drew;clear X_;clear P_;clear OB_;clear OB X P;generalize w5.drew=w5d at *
  refine tV 0 ?_
  (try simp only [pS])
  refine tV 1 ?_
  (try simp only [pS])
  refine rC 2 (fun K_ hK=>?_);go_simp;refine CF5.out.mono ?_;rintro e1 w6 ⟨rfl,b6⟩;replace oy:Bv.ow w6 F y (⟨B1,m1,e1⟩,⟨B2,m2,e2⟩):=owB oy b6;replace RES:=RES.below b6;replace B0:=Bu B0 b6;refine hK.out _ _ ⟨hHeld.1.below b6,hHeld.2.below b6⟩ (fun hHeld=>?_);clear hK K_
  (try simp only [pS])
  have RES_:=RES.g4;have rf:=RES.free;refine rC 3 (fun K_ hK=>?_);go_simp;refine hK.out _ _ ⟨(((hHeld.1.setOther (a:=⟨w+1+1,0,Ab⟩) (by show ob≠w.heap.size+1+1;omega) _).setOther (a:=⟨w+1+1,1,Ab⟩) (by show ob≠w.heap.size+1+1;omega) _).setOther (a:=⟨w+1+1,2,Ab⟩) (by show ob≠w.heap.size+1+1;omega) _).setOther (a:=⟨w+1+1,3,Ab⟩) (by show ob≠w.heap.size+1+1;omega) _,(((hHeld.2.setOther (a:=⟨w+1+1,0,Ab⟩) (by show w.heap.size+1≠w.heap.size+1+1;omega) _).setOther (a:=⟨w+1+1,1,Ab⟩) (by show w.heap.size+1≠w.heap.size+1+1;omega) _).setOther (a:=⟨w+1+1,2,Ab⟩) (by show w.heap.size+1≠w.heap.size+1+1;omega) _).setOther (a:=⟨w+1+1,3,Ab⟩) (by show w.heap.size+1≠w.heap.size+1+1;omega) _⟩ (fun hHeld=>?_);clear hK K_
  (try simp only [pS])
  refine tV 4 ?_
  (try simp only [pS])
  refine wpAnyH_done Bm ?_ _;refine NoPanic.normal ?_;clear hHeld;clear RES_;clear rf;go_wp2;refine Aj (Kt (DBox.row4 RES rfl _ _ _ _)) rfl ⟨(⟨B1,m1,e1⟩,⟨B2,m2,e2⟩),F,by rw [H.out,H2.out],by rw [H2.out];exact (by (repeat (refine Dt.ow_set Bv ?_ en1 _));exact (show Bv.ow _ F y (⟨B1,m1,e1⟩,⟨B2,m2,e2⟩) from oy)),fun x hx=>by have:=nF x hx;omega,?_⟩;repeat (first | (with_reducible exact B0) | refine Ad ?_ Bo _)
 have q3:(Cs p != 0)=false:=by simp [p3]
 have P3:=Bq p3;clear p3;go_wp2_with fail
 refine (CR.out _ B0 rL Bl).mono ?_;rintro e1 w6 ⟨rfl,b6⟩;clear X_;clear P_;clear OB_;replace X:=X.below b6;replace P:=P.below b6;replace OB:=OB.below b6;replace RES:=RES.below b6;replace oy:Bv.ow w6 F y (⟨B1,m1,e1⟩,⟨B2,m2,e2⟩):=owB oy b6;replace oS:=oS.below b6;replace oR:=oR.below b6;replace B0:=Bu B0 b6;replace cQ:=Ah cQ b6.size;clear b6;have X_:=X.g4;have P_:=P.g5;have OB_:=OB.g4;cases p4:Mf y p;case false =>
  have H:=Bq (show Je y id p=7 by unfold Je;rw [if_neg (fun h=>h P0.out),if_neg (by rw [P1.out];simp),if_neg (by have:=P2.out;omega),if_neg (fun h=>h P3.out),if_pos p4]);have H2:=Bq (show Jf y id p=y by unfold Jf;rw [H.out,if_neg Bp]);have RES_:=RES.g4;have rf:=RES.free;go_wp2;have en1:w.heap.size+1+1∉F:=fun hx=>by have:=nF _ hx;omega
  refine Aj (Kt (DBox.row4 RES rfl _ _ _ _)) rfl ⟨(⟨B1,m1,e1⟩,⟨B2,m2,e2⟩),F,by rw [H.out,H2.out],by rw [H2.out];exact (by (repeat (refine Dt.ow_set Bv ?_ en1 _));exact (show Bv.ow _ F y (⟨B1,m1,e1⟩,⟨B2,m2,e2⟩) from oy)),fun x hx=>by have:=nF x hx;omega,?_⟩;repeat (first | (with_reducible exact B0) | refine Ad ?_ Bo _)
 have H:=Bq (show Je y id p=0 by unfold Je;rw [if_neg (fun h=>h P0.out),if_neg (by rw [P1.out];simp),if_neg (by have:=P2.out;omega),if_neg (fun h=>h P3.out),if_neg (by rw [p4];simp)]);have H2:=Bq (show Jf y id p=Nj ⟨y.now,y.seq,y.shelf,y.runs ++ [Ck id p]⟩ G4 (Ck id p) by unfold Jf;rw [if_pos H.out]);have rE:=Bq (show y.runs.length<8 by
  unfold Mf at p4;simp only [Bool.and_eq_true,decide_eq_true_eq] at p4;exact p4.1)
 clear rL;go_wp2_with fail
 refine (CN.out _ B0 P1.out P3.out).mono ?_;rintro e1 w7 ⟨sr,Fr,rfl,orn,nr,b7⟩;have cS:=Bq (show (Ck id p).tasks.length<=12 by have h1:=P8 id p;have h2:=Eh (Dj.1 P3.out).1;omega);have pP:=B0.size;have hobw6:=OB.lt;have fC:∀ x∈Fr,w6<=x:=nr;clear nr;clear X_;clear P_;clear OB_;clear X P;replace OB:=OB.below b7;replace RES:=RES.below b7;replace oS:=oS.below b7;have B7:=Bu B0 b7;have b7s:=b7.size;have XB:=DBox.new 167 [J U (Ck id p).id,J U (Ck id p).plan.prio,J U (Ck id p).plan.most,J U (Ck id p).plan.wait,J U (Ck id p).plan.tasks,Aa sr.1.a sr.1.n sr.1.c,J U (Ck id p).state,Aa sr.2.a sr.2.n sr.2.c] w7 (b:=w7) rfl;have b8:Below w7 w7 (w7.alloc (.cells #[J U (Ck id p).id,J U (Ck id p).plan.prio,J U (Ck id p).plan.most,J U (Ck id p).plan.wait,J U (Ck id p).plan.tasks,Aa sr.1.a sr.1.n sr.1.c,J U (Ck id p).state,Aa sr.2.a sr.2.n sr.2.c] 167)):=Bt;go_upto_region 13 with fail
 replace OB:=OB.below b8;replace RES:=RES.below b8;replace oS:=oS.below b8;replace B7:=Bu B7 b8;have b78:=Bu b7 b8;have orn8:=Ce.ow_below (F:=Fr) (x:=Ck id p) (s:=sr) orn b8;have dW:=XB.lt;generalize w7.alloc (.cells #[J U (Ck id p).id,J U (Ck id p).plan.prio,J U (Ck id p).plan.most,J U (Ck id p).plan.wait,J U (Ck id p).plan.tasks,Aa sr.1.a sr.1.n sr.1.c,J U (Ck id p).state,Aa sr.2.a sr.2.n sr.2.c] 167)=w8 at *
 generalize fG:w7.heap.size=xb at *
 have bG:=Bq (show rs.length=y.runs.length by have:=congrArg List.length hm.out;simpa using this);have nD:=Bq (show rs.length<=3000000 by have:=rE.out;have:=bG.out;omega);have hO:=oR.1;have uK:=hO.below b78;obtain ⟨A5_,c5_,rQ,-⟩:=_root_.id (Rd.of_own hO);have tN:=rQ;simp only [Sl.v,Value.slice.injEq] at tN;obtain ⟨rfl,rfl,rfl⟩:=tN;clear rQ;have OB_:=OB.g4;have XB_:=XB.g8;have obf:=OB.free;have tR:∀ g,(Value.slice B2 rs.length e2).ownBlock=Ac g->base<=g/\g<w6.heap.size:=fun g hg=>hO.within _ hg;have pK:∀ g,(Value.slice B2 rs.length e2).ownBlock=Ac g->g≠ob:=fun g hg=>qL g hg;have ha:=Bq (show ∀ w:World,Below w w (w.alloc (.cells #[J U (Ck id p).id,J U (Ck id p).plan.prio,J U (Ck id p).plan.most,J U (Ck id p).plan.wait,J U (Ck id p).plan.tasks,Aa sr.1.a sr.1.n sr.1.c,J U (Ck id p).state,Aa sr.2.a sr.2.n sr.2.c] 167)) from fun w=>Bt);have qC:=Bq pK;have fQ:=Bq tR;clear pK tR qL;have aY:base<=w8.heap.size:=Bl;go_upto_region 14 with (at_builtin;go_loud (refine Ch _ Ce.enc Bp rfl (.tmp 49) (.tmp 51) rfl underlying25 cJ jz0 jz1 jz2 rfl (base:=base) (v:=Aa B2 rs.length e2) (l:=rs) rfl (uK.below (ha.out w8)) rfl (Rd.one Ce.enc _ _ (Ck id p,sr) rfl rfl 1 (Bs _) (Nat.lt_succ_self _)) nD.out Bn Bp (by simp;omega) ?_);intro v9 w9 o9 g9 f9;obtain ⟨A9,c9,rfl,-⟩:=_root_.id (Rd.of_own o9);simp only [List.length_append,List.length_singleton] at o9 f9;have OB9:=(OB.below (ha.out w8)).off g9 (fun e=>(qC.out _ e.symm) rfl);have q3:=OB9.cell 3 _ rfl;have qf:=OB9.free;have ql:=OB9.lt)
 have hP:=oR.push1 b78 orn8 fC cQ (ha.out w8) o9 g9 f9;have tP:=hP.owl (l:=y.runs ++ [Ck id p]) (by rw [List.map_append,hm.out];rfl);have g9s:=g9.size;simp only [Bj] at g9s;have gI:∀ x∈Ek (Aa A9 (rs.length+1) c9) (rs ++ [(Ck id p,sr)]).length ++ (G0 ++ Fr),x≠ob/\base<=x:=fun x hx=>by
  rcases Bi.1 hx with hx | hx
  ·have h1:=Ht _ _ _ hx;refine ⟨?_,(o9.within x h1).1⟩;rcases f9 with h2 | h2
   ·rw [h2] at h1;exact qC.out _ h1
   ·rw [h2] at h1
    have:=Option.some.inj h1
    simp only [Bj] at this;omega
  ·rcases Bi.1 hx with hx | hx
   ·exact ⟨by have:=uS x hx;omega,(oR.2.2.2 x hx).1⟩
   ·exact ⟨by have:=fC x hx;omega,by have:=fC x hx;omega⟩
 generalize Ek (Aa A9 (rs.length+1) c9) (rs ++ [(Ck id p,sr)]).length ++ (G0 ++ Fr)=F2 at *
 have XB9:=(XB.below (ha.out w8)).off g9 (fun e=>by have h1:=(fQ.out _ e.symm).2;omega);have RES9:=(RES.below (ha.out w8)).off g9 (fun e=>by have h1:base<=w.heap.size+1+1:=(fQ.out _ e.symm).1;omega);have oS9:=(oS.below (ha.out w8)).grown g9 (fun b hb e=>by have h1:=(fQ.out b e).1;have h2:=(eR b hb).2;omega);have orn9:=Ce.ow_keep (Ce.ow_below (F:=Fr) (x:=Ck id p) (s:=sr) orn8 (ha.out w8)) g9.size (fun b dA=>g9.block b (Ce.ow_lt (F:=Fr) (x:=Ck id p) (s:=sr) (Ce.ow_below (F:=Fr) (x:=Ck id p) (s:=sr) orn8 (ha.out w8)) b dA) (fun e=>by have h1:=(fQ.out _ e.symm).2;have h2:=fC b dA;omega));have B9:Below w w w9:=(Bu B7 (ha.out w8)).grown g9 (Bu B7 (ha.out w8)).size (fun g hg=>by have h1:=(fQ.out g hg).1;omega);have nY:w<=ob:=Bl;have OB10:DBox ob [J U y.now,J U y.seq,Aa B1 m1 e1,Aa A9 (rs.length+1) c9] (w9.setCell ⟨ob,3,Ab⟩ (Aa A9 (rs.length+1) c9)):=OB9.set 3 Bn _;have XB10:=XB9.setOther (a:=⟨ob,3,Ab⟩) (by show xb≠ob;omega) (Aa A9 (rs.length+1) c9);have RES10:=RES9.setOther (a:=⟨ob,3,Ab⟩) (by show w.heap.size+1+1≠ob;omega) (Aa A9 (rs.length+1) c9);have oS10:=oS9.set (a:=⟨ob,3,Ab⟩) (fun hx=>by have h1:_/\ob<base:=eR _ hx;omega) (Aa A9 (rs.length+1) c9);have oR10:=tP.set (a:=⟨ob,3,Ab⟩) (fun hx=>(gI _ hx).1 rfl) (Aa A9 (rs.length+1) c9);have orn10:=Ce.ow_set (F:=Fr) (x:=Ck id p) (s:=sr) orn9 (a:=⟨ob,3,Ab⟩) (fun hx=>by have h1:w6<=ob:=fC _ hx;omega) (Aa A9 (rs.length+1) c9);have B10:Below w w (w9.setCell ⟨ob,3,Ab⟩ (Aa A9 (rs.length+1) c9)):=Ad B9 (by show w.heap.size<=ob;omega) _;clear OB9 XB9 RES9 oS9 orn9 B9 tP hP XB RES oS B7 OB o9 g9 f9 q3 qf ql orn8 hO uK oR obf qC;clear OB_;clear XB_;generalize w9.setCell ⟨ob,3,Ab⟩ (Aa A9 (rs.length+1) c9)=w10 at *
 have OB10_:=OB10.g4;have XB10_:=XB10.g8;obtain rfl:m1=y.shelf.length:=RdL.at1 (s:=⟨B1,m1,e1⟩) oS10.rd;obtain ⟨g,o,_,rfl,fX,_,_⟩:=RdL.entryS (show RdL (Dt.list Bx) w10 w10.heap.size (Aa B1 y.shelf.length e1) y.shelf from oS10.rd) (k:=0) (by have:=h4.out;omega);have eY:g∈F1:=OwL.block_mem (show OwL (Dt.list Bx) w10 F1 (Aa (Ac ⟨g,o,Ab⟩) y.shelf.length e1) y.shelf from oS10) (by have:=h4.out;omega);have rM:=eR g eY;have hRlt:=oR10.lt;have aS:=Bq (show ∀ x,x∈[g]->x=g from fun x hx=>by simpa using hx);have CL:=Bq (Sh ⟨y.now,y.seq,y.shelf,y.runs ++ [Ck id p]⟩ g o e1 ⟨A9,rs.length+1,c9⟩ G4 (⟨Ab,0,0⟩,⟨Ab,0,0⟩) (Ck id p) sr w10 F1 h4.out (fun s hs=>by have:=(dK.out s hs).1;omega) (by dsimp only;omega) (by have:=cS.out;omega) (by show ([]:List Task).length<=1000;simp) oS10 (Bq fun W hW=>(Ce.ow_rd (Ce.ow_chg (F:=Fr) (x:=Ck id p) (s:=sr) orn10 hW (fun x hx h=>by have h1:=aS.out x h;have h2:=fC x hx;omega))).2) (Bq fun W hW=>Agx _ _ _ _));have fZ:=Bq (show (Nj ⟨y.now,y.seq,y.shelf,y.runs ++ [Ck id p]⟩ G4 (Ck id p)).runs=y.runs ++ [Ck id p] from (Qb (y:=⟨y.now,y.seq,y.shelf,y.runs ++ [Ck id p]⟩) (was:=G4) (r:=Ck id p) (M:=80) (fun s hs=>(dK.out s hs).1) (Ck id p).tasks.length).runs);generalize Nj ⟨y.now,y.seq,y.shelf,y.runs ++ [Ck id p]⟩ G4 (Ck id p)=Z at *
 go_wp2_with fail
 refine CL.out.mono ?_;rintro e w11 ⟨F1',rfl,q1,q2,q3⟩;have hs11:=q3.size;have RES11:=RES10.chg q3 (fun hx=>by have:=aS.out _ hx;omega);have oR11:=oR10.chg q3 (fun x hx h=>by have h1:=aS.out x h;have h2:=(gI x hx).2;omega);have B11:=B10.trans (q3.below (by have:=B10.size;omega) (fun x hx=>by have:=aS.out _ hx;omega));clear OB10_;clear XB10_;clear OB10 XB10 RES10;obtain ⟨RES11_0,RES11_1,RES11_2,RES11_3,RES11_l⟩:=RES11.g4;have rf:=RES11.free;go_wp2;have en1:w.heap.size+1+1∉F1':=fun hx=>by
  rcases q2 _ hx with h | h
  ·have:=(eR _ h).1;omega
  ·have:=RES11_l;have:=B10.size;omega
 have en2:w.heap.size+1+1∉F2:=fun hx=>by have:=(gI _ hx).2;omega
 refine Aj (Kt (DBox.row4 RES11 rfl _ _ _ _)) rfl ⟨(⟨Ac ⟨g,o,Ab⟩,y.shelf.length,e1⟩,⟨A9,rs.length+1,c9⟩),F1' ++ F2,by rw [H.out,H2.out],⟨F1',F2,rfl,?_,?_,?_⟩,fun x hx=>?_,?_⟩
 ·rw [Ax];refine ⟨q1.nodup,oR11.nodup,fun a ha b hb e=>?_⟩;subst e;have h3:=gI a hb;have h4:=hRlt a hb;rcases q2 a ha with h | h
  ·have:=(eR a h).2;omega
  ·omega
 ·rw [H2.out];show OwL (Dt.list Bx) _ F1' (Aa (Ac ⟨g,o,Ab⟩) y.shelf.length e1) Z.shelf;exact ((((q1.set (a:=⟨_,_,Ab⟩) en1 _).set (a:=⟨_,_,Ab⟩) en1 _).set (a:=⟨_,_,Ab⟩) en1 _).set (a:=⟨_,_,Ab⟩) en1 _)
 ·rw [H2.out];show OwL Ce _ F2 (Aa A9 (rs.length+1) c9) Z.runs;rw [fZ.out];exact ((((oR11.set (a:=⟨_,_,Ab⟩) en2 _).set (a:=⟨_,_,Ab⟩) en2 _).set (a:=⟨_,_,Ab⟩) en2 _).set (a:=⟨_,_,Ab⟩) en2 _)
 ·rcases Bi.1 hx with hx | hx
  ·rcases q2 x hx with h | h
   ·have:=(eR x h).1;omega
   ·have:=B10.size;omega
  ·have:=(gI x hx).2;omega
 ·repeat (first | (with_reducible exact B11) | refine Ad ?_ Bo _)
end
theorem Aby {b:Nat} {w:World} {u0 u1 u2 u3 u4 u5 u6 u7 v5:Value} (X:DBox b [u0,u1,u2,u3,u4,u5,u6,u7] w) {v0 v1 v2 v3:Value} {rest:List Value} :
  (results Tryz.f178 (v0 :: v1 :: v2 :: v3 :: .pointer (Ac ⟨b,0,Ab⟩) :: v5 :: rest).toArray).run Am w = .ok (.tuple #[.agg #[u0,u1,u2,u3,u4,u5,u6,u7],v5]) w:=by
 have c0:=X.cell 0 _ rfl;have c1:=X.cell 1 _ rfl;have c2:=X.cell 2 _ rfl;have c3:=X.cell 3 _ rfl;have c4:=X.cell 4 _ rfl;have c5:=X.cell 5 _ rfl;have c6:=X.cell 6 _ rfl;have c7:=X.cell 7 _ rfl;simp [results,results178,go_sem,c0,c1,c2,c3,c4,c5,c6,c7]
theorem Vt (id:Int) (p:Plan) (s:Sl) (w:World) (hid:inB id 1 9999=true) (hf:Cs p=0) (h:Cd.rd w w p s) :
  Calls Am 178 #[J U id,Jr p s] w (Aed (Ck id p) w):=by
 have dG:=Dj.1 hf;have hT:=Eh dG.1;have hE:=Fh dG.1;obtain ⟨A,n,c⟩:=s;obtain rfl:n=p.edges.length:=RdL.at1 (s:=⟨A,n,c⟩) h;have qX:=Bq (fun W (hW:Below w w W)=>((Ir h).below hW).more hW.size);have CP:=Bq (fun W (hW:Below w w W)=>Kj p ⟨A,p.edges.length,c⟩ W (by unfold Ed;rw [Ge (cnt:=Eb) (fun _=>rfl)];omega) (Cd.rd_more (Cd.rd_below h hW) hW.size));have CF:=Bq (fun W (hW:Below w w W)=>Ho p (Aa A p.edges.length c) W Bl (qX.out W hW));have CB:=Bq (fun W (hW:Below w w W) t=>Oc p (Aa A p.edges.length c) t W hf (qX.out W hW));rw [hf] at CF;obtain ⟨i0,aR,aX,aW,aU⟩:=info_parts Ov;clear h dG hE hf;have X:=(DBox.new 36 [J U p.prio,J U p.most,J U p.wait,J U p.tasks,Aa A p.edges.length c] w (b:=w) rfl).below ((Br _ _).alloc (Bs _) (.cells #[J U 0,J U 0,J U 0,J U 0,J U 0,Aa Ab 0 0,J U 0,Aa Ab 0 0] 167));have RES:=DBox.new 167 [J U 0,J U 0,J U 0,J U 0,J U 0,Aa Ab 0 0,J U 0,Aa Ab 0 0] (w.alloc (.cells #[J U p.prio,J U p.most,J U p.wait,J U p.tasks,Aa A p.edges.length c] 36)) (b:=w+1) Bn;have B0:Below w w ((w.alloc (.cells #[J U p.prio,J U p.most,J U p.wait,J U p.tasks,Aa A p.edges.length c] 36)).alloc (.cells #[J U 0,J U 0,J U 0,J U 0,J U 0,Aa Ab 0 0,J U 0,Aa Ab 0 0] 167)):=by repeat (first | exact Br _ _ | refine Below.alloc ?_ Bo _)
 go_enter func178,ntmps178;go_wp2_with (go_at_call 56;refine (Co _ _ _ _).mono ?_;rintro e w9 ⟨rfl,rfl⟩;rw [hid])
 generalize ((w.alloc (.cells #[J U p.prio,J U p.most,J U p.wait,J U p.tasks,Aa A p.edges.length c] 36)).alloc (.cells #[J U 0,J U 0,J U 0,J U 0,J U 0,Aa Ab 0 0,J U 0,Aa Ab 0 0] 167))=W at *
 refine (CF.out _ B0).mono ?_;rintro e1 w1 ⟨rfl,b1⟩;have dP:=RES.lt;replace X:=X.below b1;replace RES:=RES.below b1;obtain ⟨X_0,X_1,X_2,X_3,X_4,X_l⟩:=X.g5;have B1:=Bu B0 b1;have bS:=b1.size;clear B0 b1;go_wp2_with fail
 refine (CP.out _ B1).mono ?_;rintro e1 w2 ⟨⟨A3,n3,c3⟩,F,rfl,op,nF,b2⟩;clear X_0 X_1 X_2 X_3 X_4 X_l;replace X:=X.below b2;replace RES:=RES.below b2;have B2:=Bu B1 b2;have eV:=b2.size;have cE:=Cd.ow_lt op;clear B1 b2 CP CF;obtain ⟨X_0,X_1,X_2,X_3,X_4,X_l⟩:=X.g5;go_upto_region 4 with fail
 have RB:=DBox.new 167 [J U id,J U p.prio,J U p.most,J U p.wait,J U p.tasks,Aa A3 n3 c3,J U 1,Aa Ab 0 0] w2 (b:=w2) rfl;have b3:Below w2 w2 (w2.alloc (.cells #[J U id,J U p.prio,J U p.most,J U p.wait,J U p.tasks,Aa A3 n3 c3,J U 1,Aa Ab 0 0] 167)):=Bt;clear X_0 X_1 X_2 X_3 X_4 X_l;replace X:=X.below b3;replace RES:=RES.below b3;replace op:=Cd.ow_below op b3;have B3:=Bu B2 b3;have kI:=b3.size;have hRB:=RB.lt;generalize w2.alloc (.cells #[J U id,J U p.prio,J U p.most,J U p.wait,J U p.tasks,Aa A3 n3 c3,J U 1,Aa Ab 0 0] 167)=w3 at *
 generalize uT:w2.heap.size=rb at *
 have cB:∀ x∈F,w+1<x/\x<rb:=fun x hx=>⟨by have:=nF x hx;omega,cE x hx⟩
 clear cE nF B2 b3;obtain ⟨T,tI⟩:∃ T:Nat,p.tasks=T:=⟨p.tasks.toNat,Bl⟩
 have mN:=Bq tI;have qG:=Bq (show p.tasks.toNat=T by omega);have fI:T<=12:=Bl;clear tI;have hH:Hid (Ck id p=⟨id,p,1,(List.range T).map (Ej p)⟩):=by
  show Ck id p=_;unfold Ck;rw [qG.out]
 go_wp2;go_loopw [7] (fun i wr=>∃ (k:Nat) (vt:Value),k<=T/\i = J U k/\Hid (Ow Fj 217 wr (rb+1) vt ((List.range k).map (Ej p)))/\DBox w [J U p.prio,J U p.most,J U p.wait,J U p.tasks,Aa A p.edges.length c] wr/\DBox (w+1) [J U 0,J U 0,J U 0,J U 0,J U 0,Aa Ab 0 0,J U 0,Aa Ab 0 0] wr/\DBox rb [J U id,J U p.prio,J U p.most,J U p.wait,J U p.tasks,Aa A3 n3 c3,J U 1,vt] wr/\Hid (Cd.ow wr F p ⟨A3,n3,c3⟩)/\Below w w wr/\rb<wr) (fun i _=>T - (intOf i).toNat);case atStart=>exact ⟨0,_,Ag _,rfl,Ow.nil Fj 217 w3 (rb+1),X,RES,RB,op,B3,hRB⟩
 case round =>
  clear X RES RB op B3;obtain ⟨k,vt,hk,rfl,ho,X,RES,RB,op,hb,bG⟩:=hrel;obtain ⟨X_0,X_1,X_2,X_3,X_4,X_l⟩:=X.g5;obtain ⟨RB_0,RB_1,RB_2,RB_3,RB_4,RB_5,RB_6,RB_7,RB_l⟩:=RB.g8;by_cases aA:k<T
  ·have aB:(k:Int)<p.tasks:=by have:=mN.out;omega
   have hS:=Bq (Oi (Ej p) k);go_wp2_with fail
   refine (CB.out _ hb k).mono ?_;rintro e1 w4 ⟨vb,rfl,ob,b4⟩;obtain ⟨A9,c9,rfl,-⟩:=_root_.id (Rd.of_own ob);have cS:(D9 (D4 p) p.tasks.toNat k).length<=12:=by have h1:=Iz (D4 p) p.tasks.toNat k;have h2:=qG.out;omega
   have hN:Hid (Ej p k=⟨if (D9 (D4 p) p.tasks.toNat k).length=0 then 2 else 1,(D9 (D4 p) p.tasks.toNat k).length,0,0⟩):=rfl;have tQ:=Bq (show ((List.range k).map (Ej p)).length<=3000000 by simp;omega);generalize (D9 (D4 p) p.tasks.toNat k).length=N at *
   clear X_0 X_1 X_2 X_3 X_4 X_l;clear RB_0 RB_1 RB_2 RB_3 RB_4 RB_5 RB_6 RB_7 RB_l;have hb4s:=b4.size;have bW:=hb.size;replace X:=X.below b4;replace RES:=RES.below b4;replace RB:=RB.below b4;replace op:=Cd.ow_below op.out b4;have dN:=ho.out.below b4;have bY:=Bu hb b4;clear ho b4 ob hb;obtain ⟨RB_0,RB_1,RB_2,RB_3,RB_4,RB_5,RB_6,RB_7,RB_l⟩:=RB.g8;have rbf:=RB.free;by_cases hz:N=0
   ·subst hz;have sG:Hid (Ej p k=⟨2,0,0,0⟩):=by rw [if_pos rfl] at hN;exact hN
    clear hN;have b5:Below w4 w4 (w4.alloc (.cells #[J U 2,J U 0,J U 0,J U 0] 217)):=Bt;have XB:=DBox.new 217 [J U 2,J U 0,J U 0,J U 0] w4 (b:=w4) rfl;go_upto_region 10 with fail
    clear RB_0 RB_1 RB_2 RB_3 RB_4 RB_5 RB_6 RB_7 RB_l;clear rbf;replace X:=X.below b5;replace RES:=RES.below b5;replace RB:=RB.below b5;replace op:=Cd.ow_below op b5;replace dN:=dN.below b5;replace bY:=Bu bY b5;have hb5s:=b5.size;clear b5;generalize w4.alloc (.cells #[J U 2,J U 0,J U 0,J U 0] 217)=w5 at *
    obtain ⟨RB_0,RB_1,RB_2,RB_3,RB_4,RB_5,RB_6,RB_7,RB_l⟩:=RB.g8;obtain ⟨XB_0,XB_1,XB_2,XB_3,XB_l⟩:=XB.g4;have rbf:=RB.free;have ha:Hid (∀ w:World,Below w w (w.alloc (.cells #[J U 2,J U 0,J U 0,J U 0] 217))):=fun w=>Bt;have HL:Hid (((List.range k).map (Ej p)).length=k):=by
     show ((List.range k).map (Ej p)).length=k;simp
    go_wp2_with (at_builtin;refine Ch _ Fj Bp rfl (.tmp 38) (.tmp 40) rfl underlying165 aR aX aW aU rfl (base:=rb+1) (l:=(List.range k).map (Ej p)) rfl (dN.below (ha.out w5)) rfl (Rd.one Fj _ _ ⟨2,0,0,0⟩ rfl rfl 1 (Bs _) (Nat.lt_succ_self _)) tQ.out Bn Bp (by simp;omega) ?_;intro v5 w6 o6 g6 _;obtain ⟨⟨va,vn,vc⟩,rfl⟩:∃ s:Sl,v5 = Aa s.a s.n s.c:=(by obtain ⟨A7,c7,rfl,_⟩:=Rd.of_own o6;exact ⟨⟨A7,_,c7⟩,rfl⟩);have RB6:=(RB.below (ha.out w5)).off g6 (fun e=>by have:=dN.within _ e.symm;omega);have q7:=RB6.cell 7 _ rfl;have qf:=RB6.free;have ql:=RB6.lt)
    have aK:Below w w w6:=(Bu bY (ha.out w5)).grown g6 (Bu bY (ha.out w5)).size (fun g hg=>by have:=dN.within _ hg;omega);have X6:=(X.below (ha.out w5)).off g6 (fun e=>by have:=dN.within _ e.symm;omega);have RES6:=(RES.below (ha.out w5)).off g6 (fun e=>by have:=dN.within _ e.symm;omega);have op6:=(Cd.ow_keep (Cd.ow_below op (ha.out w5)) g6.size (fun b dA=>g6.block b (Cd.ow_lt (Cd.ow_below op (ha.out w5)) b dA) (fun e=>by have h1:=dN.within _ e.symm;have h2:=cB b dA;omega)))
    have eJ:Ow Fj 217 (w6.setCell ⟨rb,7,Ab⟩ (Aa va vn vc)) (rb+1) (Aa va vn vc) ((List.range (k+1)).map (Ej p)):=by
     rw [hS.out,sG.out];exact o6.setOther (fun e=>by have h1:rb+1<=rb:=(o6.within _ e).1;omega) _
    exact ⟨⟨k+1,_,Bl,by go_num,eJ,X6.setOther (by show w.heap.size≠rb;omega) _,RES6.setOther (by show w.heap.size+1≠rb;omega) _,RB6.set 7 Bn _,Cd.ow_set op6 (a:=⟨rb,7,Ab⟩) (fun hx=>by have h1:w+1<rb/\rb<rb:=cB _ hx;omega) _,aK.setCell (by show w.heap.size<=rb;omega) _,by simp [World.setCell];omega⟩,by simp [intOf];omega⟩
   ·have sG:Hid (Ej p k=⟨1,N,0,0⟩):=by rw [if_neg hz] at hN;exact hN
    have hNI:(0:Int)<(N:Int):=Bl;clear hN hz;have b5:Below w4 w4 (w4.alloc (.cells #[J U 1,J U (N:Int),J U 0,J U 0] 217)):=Bt;have XB:=DBox.new 217 [J U 1,J U (N:Int),J U 0,J U 0] w4 (b:=w4) rfl;go_upto_region 10 with fail
    clear RB_0 RB_1 RB_2 RB_3 RB_4 RB_5 RB_6 RB_7 RB_l;clear rbf;replace X:=X.below b5;replace RES:=RES.below b5;replace RB:=RB.below b5;replace op:=Cd.ow_below op b5;replace dN:=dN.below b5;replace bY:=Bu bY b5;have hb5s:=b5.size;clear b5;generalize w4.alloc (.cells #[J U 1,J U (N:Int),J U 0,J U 0] 217)=w5 at *
    obtain ⟨RB_0,RB_1,RB_2,RB_3,RB_4,RB_5,RB_6,RB_7,RB_l⟩:=RB.g8;obtain ⟨XB_0,XB_1,XB_2,XB_3,XB_l⟩:=XB.g4;have rbf:=RB.free;have ha:Hid (∀ w:World,Below w w (w.alloc (.cells #[J U 1,J U (N:Int),J U 0,J U 0] 217))):=fun w=>Bt;have HL:Hid (((List.range k).map (Ej p)).length=k):=by
     show ((List.range k).map (Ej p)).length=k;simp
    go_wp2_with (at_builtin;refine Ch _ Fj Bp rfl (.tmp 38) (.tmp 40) rfl underlying165 aR aX aW aU rfl (base:=rb+1) (l:=(List.range k).map (Ej p)) rfl (dN.below (ha.out w5)) rfl (Rd.one Fj _ _ ⟨1,(N:Int),0,0⟩ rfl rfl 1 (Bs _) (Nat.lt_succ_self _)) tQ.out Bn Bp (by simp;omega) ?_;intro v5 w6 o6 g6 _;obtain ⟨⟨va,vn,vc⟩,rfl⟩:∃ s:Sl,v5 = Aa s.a s.n s.c:=(by obtain ⟨A7,c7,rfl,_⟩:=Rd.of_own o6;exact ⟨⟨A7,_,c7⟩,rfl⟩);have RB6:=(RB.below (ha.out w5)).off g6 (fun e=>by have:=dN.within _ e.symm;omega);have q7:=RB6.cell 7 _ rfl;have qf:=RB6.free;have ql:=RB6.lt)
    have aK:Below w w w6:=(Bu bY (ha.out w5)).grown g6 (Bu bY (ha.out w5)).size (fun g hg=>by have:=dN.within _ hg;omega);have X6:=(X.below (ha.out w5)).off g6 (fun e=>by have:=dN.within _ e.symm;omega);have RES6:=(RES.below (ha.out w5)).off g6 (fun e=>by have:=dN.within _ e.symm;omega);have op6:=(Cd.ow_keep (Cd.ow_below op (ha.out w5)) g6.size (fun b dA=>g6.block b (Cd.ow_lt (Cd.ow_below op (ha.out w5)) b dA) (fun e=>by have h1:=dN.within _ e.symm;have h2:=cB b dA;omega)))
    have eJ:Ow Fj 217 (w6.setCell ⟨rb,7,Ab⟩ (Aa va vn vc)) (rb+1) (Aa va vn vc) ((List.range (k+1)).map (Ej p)):=by
     rw [hS.out,sG.out];exact o6.setOther (fun e=>by have h1:rb+1<=rb:=(o6.within _ e).1;omega) _
    exact ⟨⟨k+1,_,Bl,by go_num,eJ,X6.setOther (by show w.heap.size≠rb;omega) _,RES6.setOther (by show w.heap.size+1≠rb;omega) _,RB6.set 7 Bn _,Cd.ow_set op6 (a:=⟨rb,7,Ab⟩) (fun hx=>by have h1:w+1<rb/\rb<rb:=cB _ hx;omega) _,aK.setCell (by show w.heap.size<=rb;omega) _,by simp [World.setCell];omega⟩,by simp [intOf];omega⟩
  ·have aB:¬ (k:Int)<p.tasks:=by have:=mN.out;omega
   have hkT:k=T:=Bl;subst hkT;have rf:=RES.free;have RES_0:=RES.cell 0 _ rfl;have RES_1:=RES.cell 1 _ rfl;have RES_2:=RES.cell 2 _ rfl;have RES_3:=RES.cell 3 _ rfl;have RES_4:=RES.cell 4 _ rfl;have RES_5:=RES.cell 5 _ rfl;have RES_6:=RES.cell 6 _ rfl;have RES_7:=RES.cell 7 _ rfl;have ho1:=ho.out;obtain ⟨⟨ta,tn,tc⟩,Ft,rfl,ot,nt⟩:=To ho1;go_wp2;have e1:w.heap.size+1∉F:=fun hx=>by have:=cB _ hx;omega
   have e2:w.heap.size+1∉Ft:=fun hx=>by have:=nt _ hx;omega
   refine Aj (Aby (DBox.row8 RES rfl _ _ _ _ _ _ _ _)) rfl ⟨(⟨A3,n3,c3⟩,⟨ta,tn,tc⟩),F ++ Ft,by rw [hH.out],⟨F,Ft,rfl,?_,?_,?_⟩,?_,?_⟩
   ·rw [Ax];refine ⟨Cd.ow_nodup op.out,ot.nodup,fun u hu u' hu' e=>?_⟩
    have:=cB u hu
    have:=nt u' hu'
    omega
   ·rw [hH.out];show Cd.ow _ F p _;exact (by (repeat (refine Dt.ow_set Cd ?_ e1 _));exact op.out)
   ·rw [hH.out];show OwL C7 _ Ft _ ((List.range k).map (Ej p));exact ((((((((ot.set (a:=⟨w+1,_,Ab⟩) e2 _).set (a:=⟨w+1,_,Ab⟩) e2 _).set (a:=⟨w+1,_,Ab⟩) e2 _).set (a:=⟨w+1,_,Ab⟩) e2 _).set (a:=⟨w+1,_,Ab⟩) e2 _).set (a:=⟨w+1,_,Ab⟩) e2 _).set (a:=⟨w+1,_,Ab⟩) e2 _).set (a:=⟨w+1,_,Ab⟩) e2 _)
   ·intro x hx;rcases Bi.1 hx with hx | hx
    ·have:=cB x hx;omega
    ·have:=nt x hx;have:=bS;omega
   ·repeat (first | (with_reducible exact hb) | refine Ad ?_ Bo _)
theorem Ow.rdHi {α:Type} {e:Enc α} {E:TypeId} {w w':World} {base:Nat} {v:Value} {l:List α} {F:List Nat} (o:Ow e E w base v l) (hC:Chg F w w') (hF:∀ x∈F,x<base\/w<=x):Rd e w' w' v l :=
 (Rd.of_own o).keepF hC.size (fun b hb ob=>by
  have h1:=o.within b (Ht _ _ _ hb);exact hC.cell (p:=⟨b,ob,Ab⟩) h1.2 (fun hx=>by have:=hF b hx;omega))
theorem Q4 (was r:Run):N0 was r r.tasks.length=(Hv r.tasks 2).filter (fun t=>!decide (t∈Hv was.tasks 2)):=by
 unfold N0 Hv G9;rw [List.filter_filter];apply List.filter_congr;intro t ht;have hm:t∈(List.range was.tasks.length).filter (fun t=>(was.tasks.getD t ⟨0,0,0,0⟩).state == 2) ↔ (Cv was t).state=2:=by
  rw [List.mem_filter,List.mem_range];show (t<was.tasks.length/\((Cv was t).state == 2)=true) ↔ _;constructor
  ·intro h;simpa using h.2
  ·intro h;refine ⟨?_,by simpa using h⟩;apply Decidable.byContradiction;intro hn;unfold Cv at h;rw [List.getD_eq_getElem?_getD,List.getElem?_eq_none Bl] at h;cases h
 show ((Cv r t).state == 2 && !((Cv was t).state == 2))=(!decide _ && ((Cv r t).state == 2))
 rw [decide_eq_decide.2 hm,Bool.and_comm];rfl
theorem Abz (y:Yard) (k:Nat) (r:Run) (hk:k<y.runs.length):Gd y k r=J6 ⟨y.now,y.seq,y.shelf,y.runs.set k r⟩ r ((Hv r.tasks 2).filter (fun t=>!decide (t∈Hv y.runs[k].tasks 2))):=by
 rw [<-Q4];unfold Gd Nj J6;rw [List.getD_eq_getElem?_getD,List.getElem?_eq_getElem hk];rfl
def Vu (z:Yard) (s:Sl×Sl) (b:Nat) (F:List Nat) (w:World) (e:Ending) (w':World):Prop :=
 e = .returned (.tuple #[]) /\ ∃ F',DBox b (Gv z s) w'/\Bv.ow w' F' z s/\(∀ x∈F',x∈F\/w<=x)/\Chg (b :: F) w w'
theorem J8 (FN p:Nat) (hF:∀ (args:Array Value) (w:World),(callFunc FN args).run Am w = .ok (.enter FN args) w) (y:Yard) (b:Nat) (s:Sl×Sl) (F:List Nat) (k:Nat) (r:Run) (w:World) (h4:y.shelf.length=4) (hM:∀ s∈y.shelf,s.length<=90000) (hq:0<=y.seq/\y.seq<=1900000000)
  (hk:k<y.runs.length) (hT:r.tasks.length<=1000) (rI:y.runs[k].tasks.length<=1000) (hY:DBox b (Gv y s) w) (hy:Bv.ow w F y s) (dA:b∉F)
  (HOW:Hid (∀ (W:World) gr o n c rs G1 Fx G2 sr,Below w w W->Foc Ce W gr o n c rs k G1 Fx G2 y.runs[k] sr->Calls Am FN #[.pointer (Ac ⟨gr,o+k * 8,Ab⟩),.pointer (Ac ⟨p,0,Ab⟩)] W (Ie gr o n c rs k G1 Fx G2 r sr W))) :
  Calls Am 187 #[.pointer (Ac ⟨b,0,Ab⟩),J U k,.func (.func FN) #[] #[.pointer (Ac ⟨p,0,Ab⟩)]] w (Vu (Gd y k r) s b F w):=by
 have hTS:=Bq (Abz y k r hk);obtain ⟨F1,F2,rfl,bT,os,orr⟩:=hy;obtain ⟨⟨sa,sn,sc⟩,⟨ra,rn,rc⟩⟩:=s;replace os:OwL (Dt.list Bx) w F1 (Aa sa sn sc) y.shelf:=os;replace orr:OwL Ce w F2 (Aa ra rn rc) y.runs:=orr;obtain rfl:sn=y.shelf.length:=RdL.at1 (s:=⟨sa,sn,sc⟩) os.rd;obtain rfl:rn=y.runs.length:=RdL.at1 (s:=⟨ra,rn,rc⟩) orr.rd;obtain ⟨g,o',_,rfl,fX,_,_⟩:=os.rd.entryS (k:=0) (by omega);have eY:=os.block_mem Bl;obtain ⟨gr,o,rs,sr,G1,Fx,G2,hAe,rG,hm,F0_⟩:=orr.foc hk;obtain rfl:ra=_:=hAe;have hF2m:=Bq (show ∀ x∈gr :: Fx,x∈F2 from fun x hx=>by rw [rG];rcases List.mem_cons.1 hx with h | h<;>simp [h]);have eI:=Bq (show ∀ x∈F1,x∉F2 from fun x h1 h2=>(Ax.1 bT).2.2 x h1 x h2 rfl);have aA:=Bq (show ∀ x∈F1 ++ F2,x<w from fun x hx=>by rcases Bi.1 hx with h | h;exact os.lt x h;exact orr.lt x h);have gL:(k:Int)<(y.runs.length:Int):=Bl;have cL:(0:Int)<=(k:Int):=Bl;have mP:=hY.lt;have CT:=Bq (Ig y.runs[k] sr 2 w Bl (Ce.ow_rd F0_.here));obtain ⟨y0,y1,y2,y3,-⟩:=hY.g4;obtain ⟨c0,c1,c2,c3,c4,c5,c6,c7⟩:=F0_.run;have qB:=F0_.blk;generalize dF:y.runs[k]=rk at *
 go_enter func187,ntmps187;go_wp2_with fail
 refine CT.out.mono ?_;rintro e w1 ⟨v1,rfl,ov1,b1⟩;obtain ⟨A1,cv1,rfl,-⟩:=_root_.id (Rd.of_own ov1);clear y0 y1 y2 y3 c0 c1 c2 c3 c4 c5 c6 c7 CT;have F1_:Foc Ce w1 gr o y.runs.length rc rs k G1 Fx G2 rk sr:=F0_.sub (Chg.of_below _ b1) (Ce.ow_below F0_.here b1) rfl;replace os:=os.below b1;replace hY:=hY.below b1;obtain ⟨y0,y1,y2,y3,-⟩:=hY.g4;have nR:=F1_.blk;have aW:=b1.size;go_wp2_with fail
 refine (HOW.out w1 gr o y.runs.length rc rs G1 Fx G2 sr b1 F1_).mono ?_;rintro e w2 ⟨rfl,F2_,hC⟩;have rv1:=ov1.rdHi hC (fun x hx=>.inl (aA.out x (Be _ (hF2m.out x hx))));replace os:=os.chg hC (fun x hx hx2=>eI.out x hx (hF2m.out x hx2));replace hY:=hY.chg hC (fun hx=>dA (Be _ (hF2m.out _ hx)));have jI:Chg (b :: (F1 ++ F2)) w w2:=(Chg.of_below _ b1).trans (hC.mono (fun x hx=>List.mem_cons_of_mem _ (Be _ (hF2m.out x hx))));have aU:=hC.size;clear y0 y1 y2 y3 F1_ hC ov1 F0_ orr;obtain ⟨y0,y1,y2,y3,-⟩:=hY.g4;obtain ⟨c0,c1,c2,c3,c4,c5,c6,c7⟩:=F2_.run;have gX:=F2_.blk;have CT2:=Bq (Ig r sr 2 w2 Bl (Ce.ow_rd F2_.here));go_wp2_with fail
 refine CT2.out.mono ?_;rintro e w3 ⟨v3,rfl,ov3,b3⟩;obtain ⟨A3,cv3,rfl,-⟩:=_root_.id (Rd.of_own ov3);clear y0 y1 y2 y3 c0 c1 c2 c3 c4 c5 c6 c7 CT2;have F3_:Foc Ce w3 gr o y.runs.length rc rs k G1 Fx G2 r sr:=F2_.sub (Chg.of_below _ b3) (Ce.ow_below F2_.here b3) rfl;replace os:=os.below b3;replace hY:=hY.below b3;have rv3:=Rd.of_own ov3;replace rv1:=(rv1.below b3).more b3.size;have eA:=jI.trans (Chg.of_below (b :: (F1 ++ F2)) b3);have uH:=b3.size;clear F2_ jI ov3 b3;have hL2:(Hv r.tasks 2).length<=1000:=Ah (Lb _ _ _) hT;have tA:(Hv rk.tasks 2).length<=1000:=Ah (Lb _ _ _) rI;obtain ⟨j0,cJ,jz0,jz1,jz2⟩:=info_parts Rt;generalize Hv rk.tasks 2=L0 at *
 generalize Hv r.tasks 2=L2 at *
 go_wp2;go_loopw [7,9,35] (fun x u i wr=>∃ (j:Nat) (v:Value),j<=L2.length/\v=x/\i = J U j/\Hid (Ow Eu 3 wr w3 v ((L2.take j).filter fun t=>!decide (t∈L0)))/\Below w3 w3 wr) (fun _ _ i _=>L2.length - (intOf i).toNat);case atStart=>exact ⟨0,_,Ag _,rfl,rfl,Ow.nil _ _ _ _,Br _ _⟩
 case round =>
  obtain ⟨j,v,hj,rfl,rfl,hO,hb⟩:=hrel;by_cases mB:j<L2.length
  ·have gS:(j:Int)<(L2.length:Int):=Bl;obtain ⟨b9,o9,rfl,hb9,e0⟩:=(rv3.below hb).nat mB;have cQ:=hb.size;have hb9w:b9<wr:=Bl;have hS:=Bq (show (L2.take (j+1)).filter (fun t=>!decide (t∈L0))=(L2.take j).filter (fun t=>!decide (t∈L0)) ++ (if L2[j]∈L0 then [] else [L2[j]]) by
    rw [Cp L2 j mB,List.filter_append];congr 1;by_cases hx:L2[j]∈L0<;>simp [hx])
   have aF:((L2.take j).filter fun t=>!decide (t∈L0)).length<=3000000:=Ah (List.length_filter_le _ _) (by rw [Az];omega);have CC:=Bq (K5 (Aa A1 L0.length cv1) L0 L2[j] wr wr Bl ((rv1.below hb).more hb.size));generalize L2[j]=t at *
   generalize (L2.take j).filter (fun t=>!decide (t∈L0))=ML at *
   by_cases hx:t∈L0
   ·rw [decide_eq_true hx] at CC;rw [if_pos hx,List.append_nil] at hS;go_wp2_with fail
    refine CC.out.mono ?_;rintro e w5 ⟨rfl,rfl⟩;go_wp2;exact ⟨⟨j+1,v,Bl,rfl,by go_num,by rw [hS.out];exact hO,hb⟩,by simp [intOf];omega⟩
   ·rw [decide_eq_false hx] at CC;rw [if_neg hx] at hS;obtain ⟨A7,c7,hv7,-⟩:=_root_.id (Rd.of_own hO.out);generalize hn7:ML.length=n7 at hv7;subst hv7;replace hn7:=Bq hn7;have ha:Below wr wr (wr.alloc (.cells #[J U (t:Int)] 3)):=Bt;have dE:=Bq (show ∀ x,(Value.slice A7 n7 c7).ownBlock=Ac x->w3.heap.size<=x from fun x hx=>(hO.out.within x hx).1);go_wp2_with fail
    refine CC.out.mono ?_;rintro e w5 ⟨rfl,rfl⟩;go_wp2_with (at_builtin;refine Ch _ Eu Bp rfl (.tmp 43) (.tmp 45) rfl underlying32 cJ jz0 jz1 jz2 rfl (base:=w3) (v:=Aa A7 n7 c7) (l:=ML) rfl (hO.out.below ha) rfl (Rd.one Eu _ _ t rfl rfl 1 (Bs _) (Nat.lt_succ_self _)) aF Bn Bp (by simp;omega) ?_;intro v6 w6 o6 g6 _)
    have mW:Below w3 w3 w6:=(Bu hb ha).grown g6 (Bu hb ha).size (fun g hg=>by have:=dE.out g hg;omega);exact ⟨⟨j+1,v6,Bl,rfl,by go_num,by rw [hS.out];exact o6,mW⟩,by simp [intOf];omega⟩
  ·have gS:¬ (j:Int)<(L2.length:Int):=Bl;have cX:=hO.out;rw [Bg Bl] at cX;have cE:(L2.filter fun t=>!decide (t∈L0)).length<=1000:=Ah (List.length_filter_le _ _) hL2;generalize L2.filter (fun t=>!decide (t∈L0))=FL at *
   obtain ⟨A7,c7,rfl,-⟩:=_root_.id (Rd.of_own cX);have F4_:Foc Ce wr gr o y.runs.length rc rs k G1 Fx G2 r sr:=F3_.sub (Chg.of_below _ hb) (Ce.ow_below F3_.here hb) rfl;replace os:=os.below hb;replace hY:=hY.below hb;obtain ⟨y0,y1,y2,y3,-⟩:=hY.g4;obtain ⟨c0,c1,c2,c3,c4,c5,c6,c7_⟩:=F4_.run;have hgr4:=F4_.blk;have dD:=eA.trans (Chg.of_below (b :: (F1 ++ F2)) hb);have cQ:=hb.size;have hb1F:b∉F1:=fun h=>dA (Bf _ h);have CS:=Bq (Ps ⟨y.now,y.seq,y.shelf,y.runs.set k r⟩ b g o' sc ⟨Ac ⟨gr,o,Ab⟩,y.runs.length,rc⟩ r sr FL A7 FL.length c7 wr F1 h4 (fun s hs=>by have:=hM s hs;omega) (by dsimp only;omega) cE hY os hb1F (Bq fun W hW=>cX.rdHi hW (fun x hx=>by
    have hgw':g<w:=fX;have:x=b\/x=g:=by simpa using hx
    left;rcases this with rfl | rfl<;>omega)))
   rw [<-hTS.out] at CS;unfold Ox at CS;dsimp only at CS;clear hO cX F3_ eA;have aP:=Bq (show (Gd y k r).runs=y.runs.set k r by rw [hTS.out];exact (Vl (y:=⟨y.now,y.seq,y.shelf,y.runs.set k r⟩) hM r FL).runs);generalize Gd y k r=Z at *
   go_wp2_with fail
   refine CS.out.mono ?_;rintro e w6 ⟨rfl,F1',os6,Y6,cP,sV⟩;have bY:b∉([gr] ++ (G1 ++ (Fx ++ G2))):=fun h=>dA (Be _ (by rw [rG];exact h));have orr6:=(F4_.owl hm).chg sV (fun x hx h=>by
    have:x=b\/x=g:=by simpa using h
    rcases this with rfl | rfl
    ·exact bY hx
    ·exact eI.out _ eY (by rw [rG];exact hx))
   rw [<-rG] at orr6;have gC:=dD.trans (sV.mono (fun x hx=>by
    have:x=b\/x=g:=by simpa using hx
    rcases this with rfl | rfl
    ·exact List.mem_cons_self ..
    ·exact List.mem_cons_of_mem _ (Bf _ eY)))
   have HF:=Bq (show Vu Z (⟨Ac ⟨g,o',Ab⟩,y.shelf.length,sc⟩,⟨Ac ⟨gr,o,Ab⟩,y.runs.length,rc⟩) b (F1 ++ F2) w (.returned (.tuple #[])) w6 from
    ⟨rfl,F1' ++ F2,Y6,⟨F1',F2,rfl,by
     rw [Ax];refine ⟨os6.nodup,(Ax.1 bT).2.1,fun a ha c hc e=>?_⟩;subst e;rcases cP _ ha with h | h
     ·exact eI.out _ h hc
     ·have:=aA.out _ (Be _ hc);omega,os6,by show OwL Ce _ F2 _ Z.runs;rw [aP.out];exact orr6⟩,fun x hx=>by
     rcases Bi.1 hx with h | h
     ·rcases cP _ h with h | h
      ·exact .inl (Bf _ h)
      ·right;omega
     ·exact .inl (Be _ h),gC⟩)
   clear orr6 os6 Y6 cP sV gC F4_;go_wp2;exact Aj (v:=.tuple #[]) (by simp [results,results187,go_sem]) rfl HF.out
end Go.Proofs.YtonlnjdempbfoabGreat
