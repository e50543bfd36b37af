/-
  Poll of the reference. Written by program (kv.py). RunNew of the reference.  TasksIn of the reference. VictimsOf of the program.
-/
import Derived.Test.YtonlnjdempbfoaaGreatZFe0
import Derived.Test.YtonlnjdempbfoaaGreatZFe4
import Derived.Test.YtonlnjdempbfoaaGreatZFe8
import Derived.Test.YtonlnjdempbfoaaGreatZFe9
import Derived.Test.YtonlnjdempbfoaaGreatZFe10
namespace Go.Proofs.YtonlnjdempbfoaaGreat
open Go.RowKit
set_option maxRecDepth 100000
set_option maxHeartbeats 4000000
set_option linter.unusedVariables false
set_option linter.unusedSimpArgs false
open Value renaming int->J,slice->Aa
open IntKind renaming i64->U
open Option renaming none->Ab,some->Ac
open Below renaming setCell->Ad
open Nat renaming zero_le->Ag
open Go renaming bodyPost_ret->Aj
open Go.Proofs.Tryz renaming prog->An
open Int renaming toNat_natCast->Ap,eq_ofNat_of_zero_le->Aq
open IntWalk renaming i64_in->Ar
open List renaming getElem_mem->Aw,mem_append_right->Bd,take_of_length_le->Bf,length_set->Bg
theorem K5 (r:Run) (t:Nat) (now:Int):(Cv r t now).tasks.length=r.tasks.length:=by
 simp [Cv,Hd]
theorem Vq (r:Run) (t:Nat) (now:Int) (h:t<r.tasks.length):((Cv r t now).tasks[t]'(by rw [K5];exact h)).try_=r.tasks[t].try_+1:=by
 unfold Cv;simp only [Ie h,List.getElem_set_self]
def T0 (o:Yard×Reply) (w:World) (e:Ending) (w':World):Prop :=
 ∃ (s:Sl×Sl) (F:List Nat),e = .returned (.tuple #[Du o.1 s,Afy o.2 ()])/\Bu.ow w' F o.1 s/\(∀ b∈F,w<=b)/\Below w w w'
theorem Qu {b c:Nat} {w:World} {u0 u1 u2 u3 v0 v1 v2 v3:Value} (X:DBox b [u0,u1,u2,u3] w) (Y:DBox c [v0,v1,v2,v3] w) {x0 x1 x2 x3 x4 x5:Value} {rest:List Value} :
  (results Tryz.f144 (x0 :: x1 :: x2 :: x3 :: x4 :: x5 :: .pointer (Ac ⟨b,0,Ab⟩) :: .pointer (Ac ⟨c,0,Ab⟩) :: rest).toArray).run An w = .ok (.tuple #[.agg #[u0,u1,u2,u3],.agg #[v0,v1,v2,v3]]) w:=by
 have c0:=X.cell 0 _ rfl;have c1:=X.cell 1 _ rfl;have c2:=X.cell 2 _ rfl;have c3:=X.cell 3 _ rfl;have d0:=Y.cell 0 _ rfl;have d1:=Y.cell 1 _ rfl;have d2:=Y.cell 2 _ rfl;have d3:=Y.cell 3 _ rfl;simp [results,Tryz.results144,go_sem,c0,c1,c2,c3,d0,d1,d2,d3]
theorem Chg.cells4 (w:World) (b i j k l:Nat) (u0 u1 u2 u3:Value):Chg [b] w ((((w.setCell ⟨b,i,Ab⟩ u0).setCell ⟨b,j,Ab⟩ u1).setCell ⟨b,k,Ab⟩ u2).setCell ⟨b,l,Ab⟩ u3) :=
 (((Chg.setCell w b i u0).trans (Chg.setCell _ b j u1)).trans (Chg.setCell _ b k u2)).trans (Chg.setCell _ b l u3)
theorem OwL.block_mem {α:Type} {d:Dt α} {w:World} {F:List Nat} {b o n c:Nat} {l:List α} (h:OwL d w F (Aa (Ac ⟨b,o,Ab⟩) n c) l) (hp:0<l.length):b∈F:=by
 obtain ⟨_,_,_,_,_,hb,_⟩:=h.elem hp;exact hb
abbrev Gz (y:Yard) (s:Sl×Sl):List Value:=[.int .i64 y.now,.int .i64 y.seq,.slice s.1.a s.1.n s.1.c,.slice s.2.a s.2.n s.2.c]
theorem Yq (y:Yard) (s:Sl×Sl) (worker:Int) (d:Nat) (w:World) (hl:Ci y<=2000000) (hd:d<=1000000000) (h:Bu.rd w w y s) :
  Calls An 144 #[Du y s,J U worker,J U (d:Int)] w (T0 (Gv y worker d) w):=by
 have HR:=Bp (show ∀ W,Below w w W->Bu.rd W W y s from fun W hW=>Bu.rd_more (Bu.rd_below h hW) hW.size);obtain ⟨⟨A1,n1,c1⟩,⟨A2,n2,c2⟩⟩:=s;have CC:=Bp (fun W hW=>Er y (⟨A1,n1,c1⟩,⟨A2,n2,c2⟩) W hl (HR.out W hW));have CY:=Bp (fun W hW=>Gj y (⟨A1,n1,c1⟩,⟨A2,n2,c2⟩) W hl (HR.out W hW));clear h;obtain ⟨W,aH,X,RES,RP,B0⟩:=bx3 w 31 [J U y.now,J U y.seq,Aa A1 n1 c1,Aa A2 n2 c2] 31 [J U 0,J U 0,Aa Ab 0 0,Aa Ab 0 0] 69 [J U 0,J U 0,J U 0,J U 0];go_enter Tryz.func144,Tryz.ntmps144;go_wp2_with fail
 rw [<-aH.out];clear aH;have hPl:w.heap.size+1+1<W.heap.size:=RP.lt;refine (CY.out _ B0).mono ?_;rintro e1 w1 ⟨rfl,b1⟩;replace X:=X.below b1;replace RES:=RES.below b1;replace RP:=RP.below b1;have X_:=X.g4;obtain ⟨RES_0,RES_1,RES_2,RES_3,RES_l⟩:=RES.g4;obtain ⟨RP_0,RP_1,RP_2,RP_3,RP_l⟩:=RP.g4;have aQ:=Bs B0 b1;have hBs:=B0.size;have kL:=b1.size;clear B0 b1 CY;by_cases p0:Dn y;case neg =>
  have H:=Bp (show Gv y worker d=(y,⟨8,0,0,0⟩) from if_pos p0);rw [Ck p0];clear p0;clear RES_0 RES_1 RES_2 RES_3 RES_l;clear RP_0 RP_1 RP_2 RP_3 RP_l;go_wp2_with fail
  refine (CC.out _ aQ).mono ?_;rintro e1 w2 ⟨⟨⟨B1,m1,e1⟩,⟨B2,m2,e2⟩⟩,F,rfl,oy,nF,b2⟩;replace RES:=RES.below b2;replace RP:=RP.below b2;obtain ⟨RES_0,RES_1,RES_2,RES_3,RES_l⟩:=RES.g4;obtain ⟨RP_0,RP_1,RP_2,RP_3,RP_l⟩:=RP.g4;have rf:=RES.free;have pf:=RP.free;have aF:=Bs aQ b2;go_wp2;have en1:w.heap.size+1∉F:=fun hx=>by have:=nF _ hx;omega
  have en2:w.heap.size+1+1∉F:=fun hx=>by have:=nF _ hx;omega
  have aC:w.heap.size+1+1≠w.heap.size+1:=Bk;have RES2:=DBox.row4 RES rfl (J U y.now) (J U y.seq) (Aa B1 m1 e1) (Aa B2 m2 e2);have RP2:=DBox.row4 ((((RP.setOther (a:=⟨w.heap.size+1,0,Ab⟩) aC (J U y.now)).setOther (a:=⟨w.heap.size+1,1,Ab⟩) aC (J U y.seq)).setOther (a:=⟨w.heap.size+1,2,Ab⟩) aC (Aa B1 m1 e1)).setOther (a:=⟨w.heap.size+1,3,Ab⟩) aC (Aa B2 m2 e2)) rfl (J U 8) (J U 0) (J U 0) (J U 0);have RES3:=(((RES2.setOther (a:=⟨w.heap.size+1+1,0,Ab⟩) aC.symm (J U 8)).setOther (a:=⟨w.heap.size+1+1,1,Ab⟩) aC.symm (J U 0)).setOther (a:=⟨w.heap.size+1+1,2,Ab⟩) aC.symm (J U 0)).setOther (a:=⟨w.heap.size+1+1,3,Ab⟩) aC.symm (J U 0);refine Aj (Qu RES3 RP2) rfl ⟨(⟨B1,m1,e1⟩,⟨B2,m2,e2⟩),F,by rw [H.out],by rw [H.out];exact (by (repeat (refine Dt.ow_set Bu ?_ (by first | exact en1 | exact en2) _));exact (show Bu.ow _ F y (⟨B1,m1,e1⟩,⟨B2,m2,e2⟩) from oy)),fun x hx=>by have:=nF x hx;omega,?_⟩;repeat (first | (with_reducible exact aF) | refine Ad ?_ Bn _)
 rw [D6 p0];cases p1:inB worker 0 99;case false =>
  have H:=Bp (show Gv y worker d=(y,⟨5,0,0,0⟩) by unfold Gv;rw [if_neg (fun h=>h p0),if_pos p1]);clear p0;clear RES_0 RES_1 RES_2 RES_3 RES_l;clear RP_0 RP_1 RP_2 RP_3 RP_l;go_wp2_with (go_at_call 155;refine (Cf _ _ _ _).mono ?_;rintro e w9 ⟨rfl,rfl⟩;rw [p1])
  refine (CC.out _ aQ).mono ?_;rintro e1 w2 ⟨⟨⟨B1,m1,e1⟩,⟨B2,m2,e2⟩⟩,F,rfl,oy,nF,b2⟩;replace RES:=RES.below b2;replace RP:=RP.below b2;obtain ⟨RES_0,RES_1,RES_2,RES_3,RES_l⟩:=RES.g4;obtain ⟨RP_0,RP_1,RP_2,RP_3,RP_l⟩:=RP.g4;have rf:=RES.free;have pf:=RP.free;have aF:=Bs aQ b2;go_wp2;have en1:w.heap.size+1∉F:=fun hx=>by have:=nF _ hx;omega
  have en2:w.heap.size+1+1∉F:=fun hx=>by have:=nF _ hx;omega
  have aC:w.heap.size+1+1≠w.heap.size+1:=Bk;have RES2:=DBox.row4 RES rfl (J U y.now) (J U y.seq) (Aa B1 m1 e1) (Aa B2 m2 e2);have RP2:=DBox.row4 ((((RP.setOther (a:=⟨w.heap.size+1,0,Ab⟩) aC (J U y.now)).setOther (a:=⟨w.heap.size+1,1,Ab⟩) aC (J U y.seq)).setOther (a:=⟨w.heap.size+1,2,Ab⟩) aC (Aa B1 m1 e1)).setOther (a:=⟨w.heap.size+1,3,Ab⟩) aC (Aa B2 m2 e2)) rfl (J U 5) (J U 0) (J U 0) (J U 0);have RES3:=(((RES2.setOther (a:=⟨w.heap.size+1+1,0,Ab⟩) aC.symm (J U 5)).setOther (a:=⟨w.heap.size+1+1,1,Ab⟩) aC.symm (J U 0)).setOther (a:=⟨w.heap.size+1+1,2,Ab⟩) aC.symm (J U 0)).setOther (a:=⟨w.heap.size+1+1,3,Ab⟩) aC.symm (J U 0);refine Aj (Qu RES3 RP2) rfl ⟨(⟨B1,m1,e1⟩,⟨B2,m2,e2⟩),F,by rw [H.out],by rw [H.out];exact (by (repeat (refine Dt.ow_set Bu ?_ (by first | exact en1 | exact en2) _));exact (show Bu.ow _ F y (⟨B1,m1,e1⟩,⟨B2,m2,e2⟩) from oy)),fun x hx=>by have:=nF x hx;omega,?_⟩;repeat (first | (with_reducible exact aF) | refine Ad ?_ Bn _)
 have pp:=Cp.1 p1;have HP:=Bp p0;obtain ⟨wk,rfl⟩:=Aq pp.1;have hm:((wk:Int).tmod 4)=((wk % 4:Nat):Int):=by rw [Int.tmod_eq_emod_of_nonneg Bk];omega
 have hmw:U.wrap ((wk % 4:Nat):Int)=((wk % 4:Nat):Int):=Ar _ Bk;have jD:(wk:Int) % 4=((wk % 4:Nat):Int):=Bk;have hh:=Nat.mod_lt wk (show 0<4 by decide);have H:=Bp (show Gv y wk d=Lj (Ir y ((wk % 4:Nat):Int) d) (wk % 4) by unfold Gv;rw [if_neg (fun h=>h p0),if_neg (by rw [p1];simp),jD,Ap]);have aM:=Pol.start p0 hh;have h4:=p0.2.2.1;clear p0 pp jD;generalize wk % 4=home at *
 have CS:=Bp (fun W hW=>O3 y (⟨A1,n1,c1⟩,⟨A2,n2,c2⟩) home W Bk hl (HR.out W hW));have CV:=Bp (fun W=>To home d W hh hd);have HG:Hid (Ir y (home:Int) d=(Dz home d).foldl (D4 home) (By y home)):=by
  show Ir y (home:Int) d=_;unfold Ir;rw [Ap]
 clear RES_0 RES_1 RES_2 RES_3 RES_l;clear RP_0 RP_1 RP_2 RP_3 RP_l;go_wp2_with (go_at_call 155;refine (Cf _ _ _ _).mono ?_;rintro e w9 ⟨rfl,rfl⟩;rw [p1])
 refine (CS.out _ aQ).mono ?_;rintro e1 w2 ⟨s2,F,rfl,oy,nF,b2⟩;clear X_;clear X CC HR CS;replace RES:=RES.below b2;replace RP:=RP.below b2;have aF:=Bs aQ b2;have hb2s:=b2.size;clear aQ b2 hm hmw;have cL:=Bu.ow_lt oy;have hseq:Hid (By y home=By y home):=rfl;go_upto_region 7 with fail
 have OB:=DBox.new 31 (Gz (By y home) s2) w2 (b:=w2.heap.size) rfl;have b3:Below w2 w2 (w2.alloc (.cells (Gz (By y home) s2).toArray 31)):=(Bq _ _).alloc (Br _) _;replace RES:=RES.below b3;replace RP:=RP.below b3;replace oy:=Bu.ow_below oy b3;have bY:=Bs aF b3;have hb3s:=b3.size;have gP:=OB.lt;have hPl2:w.heap.size+1+1<w2.heap.size:=Bk;generalize w2.alloc (.cells (Gz (By y home) s2).toArray 31)=w3 at *
 go_wp2_with fail
 refine (CV.out _).mono ?_;rintro e1 w4 ⟨v,rfl,ov,b4⟩;replace RES:=RES.below b4;replace RP:=RP.below b4;replace OB:=OB.below b4;replace oy:=Bu.ow_below oy b4;have cB:=Bs bY b4;obtain ⟨eP,qK⟩:=Hw.of_ow ov;obtain ⟨A9,c9,rfl,-⟩:=id (Rd.of_own ov);have rM:=Sm home d;have eH:=Bp (K2 (home:=(home:Int)) (draw:=d));have eU:=Bp (show ∀ v∈Dz home d,v≠home from fun v hv=>by have:=K3 (home:=(home:Int)) (draw:=d) Bk Bk v hv;omega);have dQ:w2.heap.size<w3.heap.size:=gP;have aC:∀ x∈Eh (Aa A9 (Dz home d).length c9) (Dz home d).length,x∉F/\w2<x:=fun x hx=>⟨fun hF=>by have h1:=qK x hx;have h2:=cL x hF;omega,by have:=qK x hx;omega⟩
 have jE:(∀ x∈F,w.heap.size+1+1<x)/\w2.heap.size∉F:=⟨fun x hx=>by have:=nF x hx;omega,fun hx=>by have:=cL _ hx;omega⟩
 generalize Eh (Aa A9 (Dz home d).length c9) (Dz home d).length=Fv at *
 generalize Dz home d=L at *
 rw [rM] at eP;rw [rM];generalize By y home=Z0 at *
 have qT:w.heap.size+1+1<w2.heap.size:=hPl2;generalize w2.heap.size=ob at *
 clear cL nF qK;go_wp2;go_loopw [11,12,13] (fun i u1 u2 wr=>∃ (k:Nat) (s:Sl×Sl) (F:List Nat),k<=3/\i = J U k/\Hid (Pol y home ((L.take k).foldl (D4 home) Z0))/\Hid (Bu.ow wr F ((L.take k).foldl (D4 home) Z0) s)/\Hid ((∀ x∈F,w.heap.size+1+1<x)/\ob∉F /\ ∀ x∈Fv,x∉F)/\Hid (Hw Em wr Fv (Aa A9 3 c9) L)/\DBox ob (Gz ((L.take k).foldl (D4 home) Z0) s) wr/\DBox (w.heap.size+1) [J U 0,J U 0,Aa Ab 0 0,Aa Ab 0 0] wr/\DBox (w.heap.size+1+1) [J U 0,J U 0,J U 0,J U 0] wr/\Below w w wr) (fun i _ _ _=>3 - (intOf i).toNat);case atStart=>exact ⟨0,s2,F,Ag _,rfl,aM,oy,⟨jE.1,jE.2,fun x hx=>(aC x hx).1⟩,eP,OB,RES,RP,cB⟩
 case round =>
  have qX:∀ x∈Fv,ob<x:=fun x hx=>(aC x hx).2;clear aM oy jE eP OB RES RP cB aC ov b4;obtain ⟨k,s,F,hk,rfl,aM,oy,hF,eP,OB,RES,RP,hb⟩:=hrel;have aE:Hid (∀ h:k<L.length,(L.take (k+1)).foldl (D4 home) Z0=D4 home ((L.take k).foldl (D4 home) Z0) L[k]):=fun h=>Ko (D4 home) Z0 L k h;have bU:Hid ((k=3 \/ ¬ (((L.take k).foldl (D4 home) Z0).shelf.getD home []).length=0)->L.foldl (D4 home) Z0=(L.take k).foldl (D4 home) Z0):=by
   intro h;rcases h with h | h
   ·rw [Bf Bk]
   ·have e:L.foldl (D4 home) Z0=(L.drop k).foldl (D4 home) ((L.take k).foldl (D4 home) Z0):=by
     rw [<-List.foldl_append,List.take_append_drop]
    rw [e];exact Lr _ _ h
  generalize (L.take k).foldl (D4 home) Z0=Zk at *
  obtain ⟨⟨B1,m1,e1⟩,⟨B2,m2,e2⟩⟩:=s;have qZ:=aM.out.four;have oyr:=Bu.ow_rd oy.out;have eY:home<Zk.shelf.length:=Bk;obtain rfl:m1=4:=(RdL.at1 (s:=⟨B1,m1,e1⟩) oyr.1).trans qZ;obtain ⟨g,o,⟨xa,xn,xc⟩,rfl,gV,dU,ch⟩:=RdL.entryS (show RdL (Dt.list Cg) wr wr.heap.size (Aa B1 4 e1) Zk.shelf from oyr.1) eY;obtain rfl:xn=Zk.shelf[home].length:=RdL.at1 (s:=⟨xa,xn,xc⟩) dU;have hhI:(home:Int)<4:=Bk;have hh0:(0:Int)<=(home:Int):=Bk;have qP:=aM.out.all _ (Aw eY);obtain ⟨OB_0,OB_1,OB_2,OB_3,OB_l⟩:=OB.g4;have bW:=Bp (Es eY);have hwrs:=hb.size;have hRPl:=RP.lt;have hobl:=OB.lt;rcases (show (k<3/\Zk.shelf[home].length=0)\/(k<3 /\ ¬ Zk.shelf[home].length=0) \/ ¬ k<3 by by_cases k<3<;>by_cases Zk.shelf[home].length=0<;>simp [*]) with ⟨aA,hq⟩ | ⟨aA,hq⟩ | aA
  ·have aB:(k:Int)<3:=Bk
   ·have nT:((Zk.shelf[home].length:Int) == 0)=true:=by simp [hq]
    have kI:k<L.length:=Bk;have kB:L[k]<4:=eH.out _ (Aw kI);have kP:L[k]≠home:=eU.out _ (Aw kI);obtain ⟨gv,ov,rfl,hgv,cv⟩:=eP.out.rd.nat kI;replace aE:=Bp (aE.out kI);have bF:=eP.out.block Bk;generalize L[k]=v at *
    have hP1:Hid (Pol y home (Jp home Zk v)):=by
     have h1:=aM.out.step hh kB kP;rw [Mf (by rw [bW.out];exact hq) kP] at h1;exact h1
    replace aE:=Bp (aE.out.trans (Mf (by rw [bW.out];exact hq) kP));have hE0:=Bp (show (By Zk v).shelf.getD home []=[] by rw [Ro kP,bW.out];exact List.eq_nil_of_length_eq_zero hq);have qS:=eP.out.lt;have hvI:(v:Int)<4:=Bk;have hv0:(0:Int)<=(v:Int):=Bk;have cS:(0:Int)<=(k:Int):=Bk;have hzc:=aM.out.cnt HP.out;have CS:=Bp (O3 Zk (⟨Ac ⟨g,o,Ab⟩,4,e1⟩,⟨B2,m2,e2⟩) v wr.drew Bk hzc (Bu.rd_below oyr (Bq _ _).drew));clear hq;go_wp2;refine Dj (fun w'=>w'.cell? ⟨ob,0,Ab⟩=Ac (J U Zk.now)/\w'.cell? ⟨ob,1,Ab⟩=Ac (J U Zk.seq)/\w'.cell? ⟨ob,2,Ab⟩=Ac (Aa (Ac ⟨g,o,Ab⟩) 4 e1)/\w'.cell? ⟨ob,3,Ab⟩=Ac (Aa B2 m2 e2)/\w'.cell? ⟨gv,ov+k,Ab⟩=Ac (J U (v:Int))) 6 Bl ?_ (fun hHeld=>?_)
    ·exact ⟨OB_0,OB_1,OB_2,OB_3,cv⟩
    refine aT 0 hHeld ?_;try simp only [pS]
    refine aT 1 hHeld ?_;try simp only [pS]
    refine aT 2 hHeld ?_;try simp only [pS]
    refine aT 3 hHeld ?_;try simp only [pS]
    refine aT 4 hHeld ?_;try simp only [pS]
    refine oT 5 (fun K hK=>?_)
    (go_simp;refine CS.out.mono ?_;rintro e w2 ⟨⟨⟨C1,p1,f1⟩,⟨C2,p2,f2⟩⟩,F2,rfl,oy2,n2,b2⟩;have OB2:=OB.below (Bs (Bq _ _).drew b2);have k0:=OB2.cell 0 _ rfl;have k1:=OB2.cell 1 _ rfl;have k2:=OB2.cell 2 _ rfl;have k3:=OB2.cell 3 _ rfl;have kf:=OB2.free;have kl:=OB2.lt)
    refine hK.out _ _ (fun _=>?_) ?_
    ·exact ⟨(b2.cell (p:=⟨_,_,Ab⟩) (by show ob<wr;omega)).trans OB_0,(b2.cell (p:=⟨_,_,Ab⟩) (by show ob<wr;omega)).trans OB_1,(b2.cell (p:=⟨_,_,Ab⟩) (by show ob<wr;omega)).trans OB_2,(b2.cell (p:=⟨_,_,Ab⟩) (by show ob<wr;omega)).trans OB_3,(b2.cell (p:=⟨_,_,Ab⟩) (by show gv<wr;omega)).trans cv⟩
    clear hK K;try simp only [pS]
    refine oT 6 (fun K hK=>?_);go_simp;refine hK.out _ _ (fun aC=>absurd rfl aC) ?_;clear hK K;try simp only [pS]
    refine Ec Bl ?_ _;have b2':Below wr wr w2:=Bs (Bq _ _).drew b2;clear k0 k1 k2 k3 kf kl hHeld;have OB3:=DBox.row4 OB2 rfl (J U (By Zk v).now) (J U (By Zk v).seq) (Aa C1 p1 f1) (Aa C2 p2 f2);have gD:=Chg.cells4 w2 ob 0 1 2 3 (J U (By Zk v).now) (J U (By Zk v).seq) (Aa C1 p1 f1) (Aa C2 p2 f2);have dM:=Bp (show ∀ x,x∈[ob]->x=ob from fun x hx=>by simpa using hx);have RES3:=(RES.below b2').chg gD (fun hx=>by have:=dM.out _ hx;omega);have RP3:=(RP.below b2').chg gD (fun hx=>by have:=dM.out _ hx;omega);have dB:=(eP.out.below b2').chg gD (fun x hx aN=>by have h1:=dM.out _ aN;have h2:=qX x hx;omega);have dP:ob∉F2:=fun hx=>by have h1:=n2 _ hx;have h2:wr.drew.heap.size=wr.heap.size:=rfl;have h3:=OB_l;omega
    have oy3:=Bu.ow_chg oy2 gD (fun x hx aN=>by have:=dM.out _ aN;subst this;exact dP hx);have bY:Below w w _:=(Bs hb b2').trans (gD.below (by have:=b2'.size;omega) (fun x hx=>by have:=dM.out _ hx;omega));have eX:∀ x∈F2,wr<=x:=n2;have cI:=b2'.size;have fV:=gD.size;replace cv:=(gD.cell (p:=⟨gv,_,Ab⟩) (by show gv<w2;omega) (fun hx=>by have h1:gv=ob:=dM.out _ hx;have h2:=qX gv (by rw [bF.1];simp);omega)).trans ((b2'.cell (p:=⟨gv,_,Ab⟩) (by show gv<wr;omega)).trans cv);have mL:∀ x∈F2,w.heap.size+1+1<x:=fun x hx=>by have h1:=eX x hx;have h2:=RP.lt;omega
    clear OB_0 OB_1 OB_2 OB_3 OB_l;clear OB RES RP eP oy oy2 n2 b2 b2' hb OB2 oyr dU ch hF CS;generalize (((w2.setCell ⟨ob,0,Ab⟩ (J U (By Zk v).now)).setCell ⟨ob,1,Ab⟩ (J U (By Zk v).seq)).setCell ⟨ob,2,Ab⟩ (Aa C1 p1 f1)).setCell ⟨ob,3,Ab⟩ (Aa C2 p2 f2)=w3 at *
    have OB:=OB3;clear OB3;obtain ⟨OB_0,OB_1,OB_2,OB_3,OB_l⟩:=OB.g4;have h41:(By Zk v).shelf.length=4:=by rw [Me];exact qZ
    have oyr3:=Bu.ow_rd (F:=F2) (x:=By Zk v) oy3;obtain rfl:p1=4:=(RdL.at1 (s:=⟨C1,p1,f1⟩) oyr3.1).trans h41;have fT:v<(By Zk v).shelf.length:=Bk;obtain ⟨g2,o2,⟨va,vn,vc⟩,rfl,gS,sG,cv2⟩:=RdL.entryS (show RdL (Dt.list Cg) w3 w3.heap.size (Aa C1 4 f1) (By Zk v).shelf from oyr3.1) fT;have fD:=Oe (i:=v) aM.out.all;have fW:=fD _ (Aw fT);have CH:=Bp (Yi (By Zk v).shelf[v] ⟨va,vn,vc⟩ w3.drew Bk (RdL.below sG (Bq _ _).drew));have hgvw:gv<w3:=Bk;go_wp2;refine Go.wp_region_noPanic ?_;refine wp_region_held_drew (S:=(fun w'=>w'.cell? ⟨ob,2,Ab⟩=Ac (Aa (Ac ⟨g2,o2,Ab⟩) 4 f1)/\w'.cell? ⟨gv,ov+k,Ab⟩=Ac (J U (v:Int))/\w'.cell? ⟨g2,o2+v,Ab⟩=Ac (Aa va vn vc))) Bl ⟨OB_2,cv,cv2⟩ (fun hHeld=>?_);refine tY 0 ?_
    (try simp only [pS])
    refine tY 1 ?_
    (try simp only [pS])
    refine tY 2 ?_
    (try simp only [pS])
    refine tY 3 ?_
    (try simp only [pS])
    refine tY 4 ?_
    (try simp only [pS])
    refine tY 5 ?_
    (try simp only [pS])
    refine tY 6 ?_
    (try simp only [pS])
    refine tY 7 ?_
    (try simp only [pS])
    refine rC 8 (fun K_ hK=>?_);go_simp;refine CH.out.mono ?_;rintro e w4 ⟨⟨qa1,qn1,qc1⟩,Fh1,⟨qa2,qn2,qc2⟩,Fh2,rfl,oh1,oh2,nh1,nh2,dh,b4⟩;refine hK.out _ _ ⟨(b4.cell (p:=⟨_,_,Ab⟩) (by show ob<w3;omega)).trans OB_2,(b4.cell (p:=⟨_,_,Ab⟩) (by show gv<w3;omega)).trans cv,(b4.cell (p:=⟨_,_,Ab⟩) (by show g2<w3;omega)).trans cv2⟩ (fun hHeld=>?_);clear hK K_
    (try simp only [pS])
    refine tY 9 ?_
    (try simp only [pS])
    refine tY 10 ?_
    (try simp only [pS])
    refine tY 11 ?_
    (try simp only [pS])
    refine tY 12 ?_
    (try simp only [pS])
    refine tY 13 ?_
    (try simp only [pS])
    refine wpAnyH_done Bl ?_ _;refine NoPanic.normal ?_;have b4':Below w3 w3 w4:=Bs (Bq _ _).drew b4;have jY:=b4'.size;have hnh1:∀ x∈Fh1,w3<=x:=nh1;have jJ:∀ x∈Fh2,w3<=x:=nh2;replace oy3:Bu.ow w3 F2 (By Zk v) (⟨Ac ⟨g2,o2,Ab⟩,4,f1⟩,⟨C2,p2,f2⟩):=oy3;have hfl2:=Bu.ow_lt (F:=F2) (x:=By Zk v) (s:=(⟨Ac ⟨g2,o2,Ab⟩,4,f1⟩,⟨C2,p2,f2⟩)) oy3;clear OB_0 OB_1 OB_2 OB_3 OB_l;replace OB:=OB.below b4';replace RES3:=RES3.below b4';replace RP3:=RP3.below b4';replace dB:=dB.below b4';replace oy3:Bu.ow w4 F2 (By Zk v) (⟨Ac ⟨g2,o2,Ab⟩,4,f1⟩,⟨C2,p2,f2⟩):=owB oy3 b4';replace bY:=Bs bY b4';replace cv:=(b4'.cell (p:=⟨gv,_,Ab⟩) (by show gv<w3;omega)).trans cv;replace cv2:=(b4'.cell (p:=⟨g2,_,Ab⟩) (by show g2<w3;omega)).trans cv2;clear nh1 nh2 b4 b4' hHeld CH oyr3 sG;obtain ⟨OB_0,OB_1,OB_2,OB_3,OB_l⟩:=OB.g4;have gL:∀ j,w4.frozen? ⟨g2,j,Ab⟩=false:=by
     obtain ⟨G1,G2,_,_,os,_⟩:=oy3;exact OwL.free0 (show OwL (Dt.list Cg) w4 G1 (Aa (Ac ⟨g2,o2,Ab⟩) 4 f1) (By Zk v).shelf from os) Bk
    have jI:g2<w4:=Bk;have hgvw4:gv<w4:=Bk;go_wp2;refine Dj (fun w'=>w'.cell? ⟨ob,2,Ab⟩=Ac (Aa (Ac ⟨g2,o2,Ab⟩) 4 f1)/\w'.cell? ⟨gv,ov+k,Ab⟩=Ac (J U (v:Int))) 8 Bl ?_ (fun hHeld=>?_)
    ·exact ⟨OB_2,cv⟩
    refine aT 0 hHeld ?_;try simp only [pS]
    refine aT 1 hHeld ?_;try simp only [pS]
    refine aT 2 hHeld ?_;try simp only [pS]
    refine aT 3 hHeld ?_;try simp only [pS]
    refine aT 4 hHeld ?_;try simp only [pS]
    refine aT 5 hHeld ?_;try simp only [pS]
    refine aT 6 hHeld ?_;try simp only [pS]
    refine aT 7 hHeld ?_;try simp only [pS]
    refine oT 8 (fun K hK=>?_);go_simp;refine hK.out _ _ (fun aC=>absurd rfl aC) ?_;clear hK K;try simp only [pS]
    refine Ec Bl ?_ _;obtain ⟨F5,oy5,hF5,gT⟩:=Gf oy3 fT (l:=(By Zk v).shelf[v].drop (Cw (By Zk v).shelf[v])) (t:=⟨qa2,qn2,qc2⟩) oh2 (fun x hx bF=>by have h1:=jJ x hx;have h2:=hfl2 x bF;omega);replace oy5:Bu.ow (w4.setCell ⟨g2,o2+v,Ab⟩ (Aa qa2 qn2 qc2)).drew F5 ⟨(By Zk v).now,(By Zk v).seq,(By Zk v).shelf.set v ((By Zk v).shelf[v].drop (Cw (By Zk v).shelf[v])),(By Zk v).runs⟩ (⟨Ac ⟨g2,o2,Ab⟩,4,f1⟩,⟨C2,p2,f2⟩):=owB oy5 (Bq _ _).drew;have cX:Chg [g2] w4 (w4.setCell ⟨g2,o2+v,Ab⟩ (Aa qa2 qn2 qc2)).drew:=(Chg.setCell w4 g2 _ _).drew;have bK:=Bp (show ∀ x,x∈[g2]->x=g2 from fun x hx=>by simpa using hx);have hg2gt:=mL _ gT;have hg2n:=eX _ gT;have eF:ob≠g2:=fun h=>dP (by rw [h];exact gT);clear OB_0 OB_1 OB_2 OB_3 OB_l;replace OB:=OB.chg cX (fun hx=>eF (bK.out _ hx));replace RES3:=RES3.chg cX (fun hx=>by have:=bK.out _ hx;omega);replace RP3:=RP3.chg cX (fun hx=>by have:=bK.out _ hx;omega);replace dB:=dB.chg cX (fun x hx aN=>by have h1:=bK.out _ aN;have h2:=qS x hx;omega);have oh1':=oh1.chg cX (fun x hx aN=>by have h1:=bK.out _ aN;have h2:=hnh1 x hx;omega);replace bY:=bY.trans (cX.below (by have:=bY.size;omega) (fun x hx=>by have:=bK.out _ hx;omega));have hfg5:∀ j,(w4.setCell ⟨g2,o2+v,Ab⟩ (Aa qa2 qn2 qc2)).drew.frozen? ⟨g2,j,Ab⟩=false:=fun j=>(Hz w4 _ _ _).trans (gL j);have nJ:=cX.size;clear cX hHeld oy3 oh1 oh2 gL cv cv2;generalize (w4.setCell ⟨g2,o2+v,Ab⟩ (Aa qa2 qn2 qc2)).drew=w5 at *
    obtain ⟨OB_0,OB_1,OB_2,OB_3,OB_l⟩:=OB.g4;have h42:((By Zk v).shelf.set v ((By Zk v).shelf[v].drop (Cw (By Zk v).shelf[v]))).length=4:=by rw [Bg];exact h41
    have sI:((By Zk v).shelf.set v ((By Zk v).shelf[v].drop (Cw (By Zk v).shelf[v])))[home]' Bk=[]:=by
     have h1:=hE0.out;rw [Es Bk] at h1;rw [List.getElem_set_ne kP];exact h1
    have sQ:=Bp (show Jp home Zk v=⟨(By Zk v).now,(By Zk v).seq,((By Zk v).shelf.set v ((By Zk v).shelf[v].drop (Cw (By Zk v).shelf[v]))).set home (Fg [] ((By Zk v).shelf[v].take (Cw (By Zk v).shelf[v]))),(By Zk v).runs⟩ by
     unfold Jp;rw [Es fT];rfl)
    obtain ⟨_,_,⟨xa2,xn2,xc2⟩,bX,_,fE,cx⟩:=RdL.entryS (show RdL (Dt.list Cg) w5 w5.heap.size (Aa (Ac ⟨g2,o2,Ab⟩) 4 f1) _ from (Bu.ow_rd oy5).1) (k:=home) (by show home<(List.set _ _ _).length;omega);simp only [Option.some.injEq,Addr.mk.injEq,and_true] at bX;obtain ⟨rfl,rfl⟩:=bX;replace fE:RdL Cg w5 w5 (Aa xa2 xn2 xc2) (((By Zk v).shelf.set v ((By Zk v).shelf[v].drop (Cw (By Zk v).shelf[v])))[home]' Bk):=fE;rw [sI] at fE;obtain rfl:xn2=0:=RdL.at1 (s:=⟨xa2,xn2,xc2⟩) fE;have cU:((By Zk v).shelf[v].take (Cw (By Zk v).shelf[v])).length<=80:=Lq _ fW;have CM:=Bp (Vl [] ((By Zk v).shelf[v].take (Cw (By Zk v).shelf[v])) ⟨xa2,0,xc2⟩ ⟨qa1,qn1,qc1⟩ w5.drew Bm Bk (RdL.below fE (Bq _ _).drew) (RdL.below oh1'.rd (Bq _ _).drew));have hobw5:ob<w5:=OB_l;have hg2w5:g2<w5:=Bk;clear sI fE fW;generalize (By Zk v).shelf[v].take (Cw (By Zk v).shelf[v])=lt_ at *
    go_wp2;refine Dj (fun w'=>w'.cell? ⟨ob,2,Ab⟩=Ac (Aa (Ac ⟨g2,o2,Ab⟩) 4 f1)/\w'.cell? ⟨g2,o2+home,Ab⟩=Ac (Aa xa2 0 xc2)) 11 Bl ?_ (fun hHeld=>?_)
    ·exact ⟨OB_2,cx⟩
    refine aT 0 hHeld ?_;try simp only [pS]
    refine aT 1 hHeld ?_;try simp only [pS]
    refine aT 2 hHeld ?_;try simp only [pS]
    refine aT 3 hHeld ?_;try simp only [pS]
    refine aT 4 hHeld ?_;try simp only [pS]
    refine aT 5 hHeld ?_;try simp only [pS]
    refine aT 6 hHeld ?_;try simp only [pS]
    refine aT 7 hHeld ?_;try simp only [pS]
    refine aT 8 hHeld ?_;try simp only [pS]
    refine oT 9 (fun K hK=>?_)
    (go_simp;refine CM.out.mono ?_;rintro e w6 ⟨⟨ma,mn,mc⟩,Fm,rfl,om,nm,b6⟩;have hgc:w6.cell? ⟨g2,o2+home,Ab⟩=Ac (Aa xa2 0 xc2):=(b6.cell (p:=⟨_,_,Ab⟩) (by show g2<w5;omega)).trans cx;have pV:∀ j,w6.frozen? ⟨g2,j,Ab⟩=false:=fun j=>(b6.frozen (p:=⟨_,_,Ab⟩) (by show g2<w5;omega)).trans (hfg5 j))
    refine hK.out _ _ (fun _=>?_) ?_
    ·exact ⟨(b6.cell (p:=⟨_,_,Ab⟩) (by show ob<w5;omega)).trans OB_2,(b6.cell (p:=⟨_,_,Ab⟩) (by show g2<w5;omega)).trans cx⟩
    clear hK K;try simp only [pS]
    refine oT 10 (fun K hK=>?_);go_simp;refine hK.out _ _ (fun _=>?_) ?_
    ·exact ⟨(b6.cell (p:=⟨_,_,Ab⟩) (by show ob<w5;omega)).trans OB_2,(b6.cell (p:=⟨_,_,Ab⟩) (by show g2<w5;omega)).trans cx⟩
    clear hK K;try simp only [pS]
    refine oT 11 (fun K hK=>?_);go_simp;refine hK.out _ _ (fun aC=>absurd rfl aC) ?_;clear hK K;try simp only [pS]
    refine Ec Bl ?_ _;have b6':Below w5 w5 w6:=Bs (Bq _ _).drew b6;have nD:=b6'.size;have rK:∀ x∈Fm,w5<=x:=nm;replace oy5:Bu.ow w5 F5 ⟨(By Zk v).now,(By Zk v).seq,(By Zk v).shelf.set v ((By Zk v).shelf[v].drop (Cw (By Zk v).shelf[v])),(By Zk v).runs⟩ (⟨Ac ⟨g2,o2,Ab⟩,4,f1⟩,⟨C2,p2,f2⟩):=oy5;have hfl5:=Bu.ow_lt (F:=F5) (x:=⟨(By Zk v).now,(By Zk v).seq,(By Zk v).shelf.set v ((By Zk v).shelf[v].drop (Cw (By Zk v).shelf[v])),(By Zk v).runs⟩) (s:=(⟨Ac ⟨g2,o2,Ab⟩,4,f1⟩,⟨C2,p2,f2⟩)) oy5;have oy6:=Bu.ow_below (F:=F5) (x:=⟨(By Zk v).now,(By Zk v).seq,(By Zk v).shelf.set v ((By Zk v).shelf[v].drop (Cw (By Zk v).shelf[v])),(By Zk v).runs⟩) (s:=(⟨Ac ⟨g2,o2,Ab⟩,4,f1⟩,⟨C2,p2,f2⟩)) oy5 b6';obtain ⟨F7,oy7,pE,hg2F5⟩:=Gf oy6 (i:=home) (by show home<(List.set _ _ _).length;omega) (l:=Fg [] lt_) (t:=⟨ma,mn,mc⟩) om (fun x hx bF=>by have h1:=rK x hx;have h2:=hfl5 x bF;omega);have fX:Chg [g2] w6 (w6.setCell ⟨g2,o2+home,Ab⟩ (Aa ma mn mc)):=Chg.setCell w6 g2 _ _;clear OB_0 OB_1 OB_2 OB_3 OB_l;replace OB:=(OB.below b6').chg fX (fun hx=>eF (bK.out _ hx));replace RES3:=(RES3.below b6').chg fX (fun hx=>by have:=bK.out _ hx;omega);replace RP3:=(RP3.below b6').chg fX (fun hx=>by have:=bK.out _ hx;omega);replace dB:=(dB.below b6').chg fX (fun x hx aN=>by have h1:=bK.out _ aN;have h2:=qS x hx;omega);replace bY:=(Bs bY b6').trans (fX.below (by have:=(Bs bY b6').size;omega) (fun x hx=>by have:=bK.out _ hx;omega));have gG:∀ x∈F7,x∈F2\/w3<=x:=fun x hx=>by
     rcases pE x hx with h | h
     ·rcases hF5 x h with h' | h'
      ·exact .inl h'
      ·exact .inr (jJ x h')
     ·right;have:=rK x h;omega
    clear hHeld oy5 oy6 b6 b6' nm om fX CM cx;generalize w6.setCell ⟨g2,o2+home,Ab⟩ (Aa ma mn mc)=w7 at *
    go_wp2;exact ⟨⟨k+1,(⟨Ac ⟨g2,o2,Ab⟩,4,f1⟩,⟨C2,p2,f2⟩),F7,Bk,by go_num,by rw [aE.out];exact hP1,by rw [aE.out,sQ.out];exact oy7,⟨fun x hx=>by (rcases gG x hx with h | h);exact mL x h;omega,fun hx=>by (rcases gG _ hx with h | h);exact dP h;omega,fun x hx bF=>by have h1:=qS x hx;(rcases gG x bF with h | h);have:=eX x h;omega;omega⟩,dB,by rw [aE.out,sQ.out];exact OB,RES3,RP3,bY⟩,by simp [intOf];omega⟩
  have aB:(k:Int)<3:=Bk;have nT:((Zk.shelf[home].length:Int) == 0)=false:=by simp [hq]
  replace bU:=Bp (bU.out (.inr (by rw [bW.out];exact hq)));clear hq;rotate_left;have aB:¬ (k:Int)<3:=Bk;have nT:True:=trivial;replace bU:=Bp (bU.out (.inl Bk));all_goals
   have HZ:=Bp (show Gv y (wk:Int) d=Lj Zk home by rw [H.out,HG.out,bU.out]);have gI:∀ e∈Zk.shelf[home],Pi Zk e:=fun e he=>by
    have h1:=aM.out.fresh e (by rw [bW.out];exact he);rw [<-Li aM.out.runs] at h1;exact Kw.1 h1
   replace dU:RdL Cg wr wr (Aa xa Zk.shelf[home].length xc) Zk.shelf[home]:=dU;have mZ:=aM.out.all _ (Aw eY);have nI:Hid (Lj Zk home=Sn Zk home Zk.shelf[home]):=by
    show Lj Zk home=_;unfold Lj;rw [bW.out]
   have CT:=Bp (Ql Zk.shelf[home] ⟨xa,Zk.shelf[home].length,xc⟩ wr Bk dU);clear aE bW eP eH eU hseq qX H HG bU;generalize Zk.shelf[home]=SH at *
   go_wp2_with fail
   refine CT.out.mono ?_;rintro e9 w2 ⟨⟨ta,tn,tc⟩,Ft,rfl,ot,nt,b2⟩;replace oy:Bu.ow wr F Zk (⟨Ac ⟨g,o,Ab⟩,4,e1⟩,⟨B2,m2,e2⟩):=oy.out;have kC:=Bu.ow_lt (F:=F) (x:=Zk) (s:=(⟨Ac ⟨g,o,Ab⟩,4,e1⟩,⟨B2,m2,e2⟩)) oy;replace oy:Bu.ow w2 F Zk (⟨Ac ⟨g,o,Ab⟩,4,e1⟩,⟨B2,m2,e2⟩):=owB oy b2;clear OB_0 OB_1 OB_2 OB_3 OB_l;replace OB:=OB.below b2;replace RES:=RES.below b2;replace RP:=RP.below b2;have aF:=Bs hb b2;have cI:=b2.size;clear b2 CT ch dU hb oyr;have aC:w.heap.size+1+1≠w.heap.size+1:=Bk;cases SH with
   | nil =>
    have HF:=Bp (HZ.out.trans nI.out);clear HZ nI gI ot;have EB0:Below w2 w2 (w2.alloc (.cells #[J U 0,J U 0,J U 0,J U 0] 93)):=(Bq _ _).alloc (Br _) _;go_upto_region 16 with fail
    replace oy:Bu.ow _ F Zk (⟨Ac ⟨g,o,Ab⟩,4,e1⟩,⟨B2,m2,e2⟩):=owB oy EB0;replace OB:=OB.below EB0;replace RES:=RES.below EB0;replace RP:=RP.below EB0;replace aF:=Bs aF EB0;clear EB0;generalize w2.alloc (.cells #[J U 0,J U 0,J U 0,J U 0] 93)=w3 at *
    obtain ⟨OB_0,OB_1,OB_2,OB_3,OB_l⟩:=OB.g4;obtain ⟨RES_0,RES_1,RES_2,RES_3,RES_l⟩:=RES.g4;obtain ⟨RP_0,RP_1,RP_2,RP_3,RP_l⟩:=RP.g4;have rf:=RES.free;have pf:=RP.free;go_wp2;have en1:w.heap.size+1∉F:=fun hx=>by have:=hF.out.1 _ hx;omega
    have en2:w.heap.size+1+1∉F:=fun hx=>by have:=hF.out.1 _ hx;omega
    have RES2:=DBox.row4 RES rfl (J U Zk.now) (J U Zk.seq) (Aa (Ac ⟨g,o,Ab⟩) 4 e1) (Aa B2 m2 e2);have RP2:=DBox.row4 ((((RP.setOther (a:=⟨w.heap.size+1,0,Ab⟩) aC (J U Zk.now)).setOther (a:=⟨w.heap.size+1,1,Ab⟩) aC (J U Zk.seq)).setOther (a:=⟨w.heap.size+1,2,Ab⟩) aC (Aa (Ac ⟨g,o,Ab⟩) 4 e1)).setOther (a:=⟨w.heap.size+1,3,Ab⟩) aC (Aa B2 m2 e2)) rfl (J U 9) (J U 0) (J U 0) (J U 0);have RES3:=(((RES2.setOther (a:=⟨w.heap.size+1+1,0,Ab⟩) aC.symm (J U 9)).setOther (a:=⟨w.heap.size+1+1,1,Ab⟩) aC.symm (J U 0)).setOther (a:=⟨w.heap.size+1+1,2,Ab⟩) aC.symm (J U 0)).setOther (a:=⟨w.heap.size+1+1,3,Ab⟩) aC.symm (J U 0);refine Aj (Qu RES3 RP2) rfl ⟨(⟨Ac ⟨g,o,Ab⟩,4,e1⟩,⟨B2,m2,e2⟩),F,by rw [HF.out];rfl,by rw [HF.out];exact (by (repeat (refine Dt.ow_set Bu ?_ (by first | exact en1 | exact en2) _));exact (show Bu.ow _ F Zk (⟨Ac ⟨g,o,Ab⟩,4,e1⟩,⟨B2,m2,e2⟩) from oy)),fun x hx=>by have:=hF.out.1 x hx;omega,?_⟩;repeat (first | (with_reducible exact aF) | refine Ad ?_ Bn _)
   | cons e rest =>
    obtain ⟨qV,⟨gQ,qH⟩,bV⟩:=gI e (List.mem_cons_self ..);obtain ⟨pr,sq,rn,tk⟩:=e;dsimp only at qV gQ qH bV;obtain ⟨t,rfl⟩:=Aq gQ;rcases Eu Zk rn with eB | ⟨j,hj,eB⟩
    ·exact absurd qV Bk
    have bP:=Gq hj eB;rw [bP] at qH bV;have sC:j<y.runs.length:=by rw [<-aM.out.runs];exact hj
    have qB:Hid (Gg Zk.runs[j]):=by
     have e:Zk.runs[j]=y.runs[j]:=by simp only [aM.out.runs]
     show Gg Zk.runs[j];rw [e];exact E0 HP.out sC
    have HF:=Bp (HZ.out.trans (nI.out.trans (show _=((⟨Zk.now,Zk.seq,Zk.shelf.set home rest,Zk.runs.set j (Cv Zk.runs[j] t Zk.now)⟩:Yard),(⟨0,rn,t,(Bx Zk.runs[j] t).try_+1⟩:Reply)) by show Sn _ _ (_ :: _)=_;unfold Sn;dsimp only;rw [eB,bP,Ap,Ap])));have kR:=Bp (show 0<=Zk.now/\Zk.now<=999999980 by rw [aM.out.now];exact HP.out.1);have hrun8:Zk.runs.length<=8:=by rw [aM.out.runs];exact HP.out.2.2.2.2.2.2.1
    have cU:t<Zk.runs[j].tasks.length:=Bk;have qG:=Cn cU;have kW:=Bp (show Dh ⟨Zk.now,Zk.seq,Zk.shelf.set home rest,Zk.runs⟩ rn=j from (Mt (y:=Zk) rfl rn).trans eB);have nM:=Bp (show Ci ⟨Zk.now,Zk.seq,Zk.shelf.set home rest,Zk.runs⟩<=2000000 by
     have:=N9 (y:=⟨Zk.now,Zk.seq,Zk.shelf.set home rest,Zk.runs⟩) (M:=80) (by simpa using qZ) (fun s hs=>by
      rcases List.mem_or_eq_of_mem_set hs with h | h
      ·exact aM.out.all s h
      ·subst h;simp at mZ;omega) hrun8 (fun k hk=>by
       have aZ:k<y.runs.length:=by rw [<-aM.out.runs];exact hk
       have e:Zk.runs[k]=y.runs[k]:=by simp only [aM.out.runs]
       show Gg Zk.runs[k];rw [e];exact E0 HP.out aZ)
     omega)
    clear HZ nI gI eB bP qV gQ qH bV sC qP nT;replace ot:OwL Cg w2 Ft (Aa ta tn tc) rest:=ot;have gW:∀ x∈Ft,wr<=x/\x<w2:=fun x hx=>⟨nt x hx,ot.lt x hx⟩
    have EB:=DBox.new 93 [J U pr,J U sq,J U rn,J U (t:Int)] w2 (b:=w2.heap.size) rfl;have EB0:Below w2 w2 (w2.alloc (.cells #[J U pr,J U sq,J U rn,J U (t:Int)] 93)):=(Bq _ _).alloc (Br _) _;go_upto_region 16 with fail
    replace oy:Bu.ow _ F Zk (⟨Ac ⟨g,o,Ab⟩,4,e1⟩,⟨B2,m2,e2⟩):=owB oy EB0;replace ot:=ot.below EB0;replace OB:=OB.below EB0;replace RES:=RES.below EB0;replace RP:=RP.below EB0;replace aF:=Bs aF EB0;clear nt EB0;generalize w2.alloc (.cells #[J U pr,J U sq,J U rn,J U (t:Int)] 93)=w3 at *
    have hebl:=EB.lt;generalize w2.heap.size=eb at *
    obtain ⟨OB_0,OB_1,OB_2,OB_3,OB_l⟩:=OB.g4;obtain ⟨EB_0,EB_1,EB_2,EB_3,EB_l⟩:=EB.g4;replace oy:Bu.ow w3 F Zk (⟨Ac ⟨g,o,Ab⟩,4,e1⟩,⟨B2,m2,e2⟩):=oy;have gL:∀ j,w3.frozen? ⟨g,j,Ab⟩=false:=by
     obtain ⟨G1,G2,_,_,os,_⟩:=oy;exact OwL.free0 (show OwL (Dt.list Cg) w3 G1 (Aa (Ac ⟨g,o,Ab⟩) 4 e1) Zk.shelf from os) Bk
    obtain ⟨_,_,⟨xa3,xn3,xc3⟩,bX,jX,_,ch⟩:=RdL.entryS (show RdL (Dt.list Cg) w3 w3.heap.size (Aa (Ac ⟨g,o,Ab⟩) 4 e1) Zk.shelf from (Bu.ow_rd (F:=F) (x:=Zk) oy).1) eY;simp only [Option.some.injEq,Addr.mk.injEq,and_true] at bX;obtain ⟨rfl,rfl⟩:=bX;obtain ⟨F4,oy4,rV,fJ⟩:=Gf oy eY (l:=rest) (t:=⟨ta,tn,tc⟩) ot (fun x hx bF=>by have h1:=(gW x hx).1;have h2:=kC x bF;omega);go_upto_region 19 with fail
    have gN:Chg [g] w3 (w3.setCell ⟨g,o+home,Ab⟩ (Aa ta tn tc)):=Chg.setCell w3 g _ _;have bK:=Bp (show ∀ x,x∈[g]->x=g from fun x hx=>by simpa using hx);have hgF2:=hF.out.1 g fJ;have eF:ob≠g:=fun h=>hF.out.2.1 (by rw [h];exact fJ);clear OB_0 OB_1 OB_2 OB_3 OB_l;clear EB_0 EB_1 EB_2 EB_3 EB_l;replace OB:=OB.chg gN (fun hx=>eF (bK.out _ hx));replace EB:=EB.chg gN (fun hx=>by have:=bK.out _ hx;omega);replace RES:=RES.chg gN (fun hx=>by have:=bK.out _ hx;omega);replace RP:=RP.chg gN (fun hx=>by have:=bK.out _ hx;omega);have jY:=gN.size;replace aF:=aF.trans (gN.below (by have:=aF.size;omega) (fun x hx=>by have:=bK.out _ hx;omega));clear gN oy gL ch ot;generalize w3.setCell ⟨g,o+home,Ab⟩ (Aa ta tn tc)=w4 at *
    replace oy4:Bu.ow w4 F4 ⟨Zk.now,Zk.seq,Zk.shelf.set home rest,Zk.runs⟩ (⟨Ac ⟨g,o,Ab⟩,4,e1⟩,⟨B2,m2,e2⟩):=oy4;have fP:∀ x∈F4,(x∈F\/(wr<=x/\x<eb)):=fun x hx=>(rV x hx).imp id (fun h=>gW x h);have CA:=Bp (Ew ⟨Zk.now,Zk.seq,Zk.shelf.set home rest,Zk.runs⟩ (⟨Ac ⟨g,o,Ab⟩,4,e1⟩,⟨B2,m2,e2⟩) rn w4 nM.out (Bu.ow_rd (F:=F4) (x:=⟨Zk.now,Zk.seq,Zk.shelf.set home rest,Zk.runs⟩) oy4));obtain ⟨OB_0,OB_1,OB_2,OB_3,OB_l⟩:=OB.g4;obtain ⟨EB_0,EB_1,EB_2,EB_3,EB_l⟩:=EB.g4;go_wp2_with fail
    refine CA.out.mono ?_;rintro e9 w5 ⟨rfl,b5⟩;rw [kW.out];clear OB_0 OB_1 OB_2 OB_3 OB_l;clear EB_0 EB_1 EB_2 EB_3 EB_l;replace OB:=OB.below b5;replace EB:=EB.below b5;replace RES:=RES.below b5;replace RP:=RP.below b5;replace aF:=Bs aF b5;replace oy4:Bu.ow w5 F4 ⟨Zk.now,Zk.seq,Zk.shelf.set home rest,Zk.runs⟩ (⟨Ac ⟨g,o,Ab⟩,4,e1⟩,⟨B2,m2,e2⟩):=owB oy4 b5;have nJ:=b5.size;clear b5 CA kW nM;have oyr:=(Bu.ow_rd (F:=F4) (x:=⟨Zk.now,Zk.seq,Zk.shelf.set home rest,Zk.runs⟩) oy4).2;have eN:=Bp (show m2=Zk.runs.length from RdL.at1 (s:=⟨B2,m2,e2⟩) oyr);have gF:(j:Int)<(m2:Int):=by have:=eN.out;omega
    have bS:(0:Int)<=(j:Int):=Bk;obtain ⟨gr,orr,sk,rfl,cC,bP,c0,c1,c2,c3,c4,c5,c6,c7⟩:=RdL.run (show RdL Co w5 w5.heap.size (Aa B2 m2 e2) Zk.runs from oyr) hj;have kQ:∀ i,w5.frozen? ⟨gr,i,Ab⟩=false:=by
     obtain ⟨G1,G2,_,_,_,os⟩:=oy4;exact OwL.free0 (show OwL Co w5 G2 (Aa (Ac ⟨gr,orr,Ab⟩) m2 e2) Zk.runs from os) Bk
    generalize mV:Zk.runs[j]=r at *
    have nK:-1000000<=r.tasks[t].try_/\r.tasks[t].try_<=2000000000/\0<=r.plan.wait/\r.plan.wait<=2000000000:=by
     have h1:=qB.out.2.2.2.1 t cU;have h2:=(C8.1 qB.out.2.1).1;simp only [D7,Bool.and_eq_true] at h2;have h3:=Cp.1 h2.1.2;have h4:=Cp.1 h2.2;unfold Gl Lh at h1;rw [qG] at h1;omega
    have CSt:=Bp (Tn r sk t Zk.now w5.drew (by have:=Kp qB.out;omega) cU ⟨nK.1,nK.2.1⟩ (by have:=kR.out;omega) nK.2.2 (Co.rd_below bP (Bq _ _).drew));have hobw5:ob<w5:=Bk;have hebw5:eb<w5:=Bk;clear bP oyr nK qB hrun8;obtain ⟨OB_0,OB_1,OB_2,OB_3,OB_l⟩:=OB.g4;obtain ⟨EB_0,EB_1,EB_2,EB_3,EB_l⟩:=EB.g4;go_wp2;refine Dj (fun w'=>w'.cell? ⟨ob,3,Ab⟩=Ac (Aa (Ac ⟨gr,orr,Ab⟩) m2 e2)/\w'.cell? ⟨ob,0,Ab⟩=Ac (J U Zk.now)/\w'.cell? ⟨eb,3,Ab⟩=Ac (J U (t:Int))/\w'.cell? ⟨gr,orr+j * 8,Ab⟩=Ac (J U r.id)/\w'.cell? ⟨gr,orr+j * 8+1,Ab⟩=Ac (J U r.plan.prio)/\w'.cell? ⟨gr,orr+j * 8+2,Ab⟩=Ac (J U r.plan.most)/\w'.cell? ⟨gr,orr+j * 8+3,Ab⟩=Ac (J U r.plan.wait)/\w'.cell? ⟨gr,orr+j * 8+4,Ab⟩=Ac (J U r.plan.tasks)/\w'.cell? ⟨gr,orr+j * 8+5,Ab⟩=Ac (Aa sk.1.a sk.1.n sk.1.c)/\w'.cell? ⟨gr,orr+j * 8+6,Ab⟩=Ac (J U r.state)/\w'.cell? ⟨gr,orr+j * 8+7,Ab⟩=Ac (Aa sk.2.a sk.2.n sk.2.c)) 14 Bl ?_ (fun hHeld=>?_)
    ·exact ⟨OB_3,OB_0,EB_3,c0,c1,c2,c3,c4,c5,c6,c7⟩
    refine aT 0 hHeld ?_;try simp only [pS]
    refine aT 1 hHeld ?_;try simp only [pS]
    refine aT 2 hHeld ?_;try simp only [pS]
    refine aT 3 hHeld ?_;try simp only [pS]
    refine aT 4 hHeld ?_;try simp only [pS]
    refine aT 5 hHeld ?_;try simp only [pS]
    refine aT 6 hHeld ?_;try simp only [pS]
    refine aT 7 hHeld ?_;try simp only [pS]
    refine aT 8 hHeld ?_;try simp only [pS]
    refine aT 9 hHeld ?_;try simp only [pS]
    refine aT 10 hHeld ?_;try simp only [pS]
    refine aT 11 hHeld ?_;try simp only [pS]
    refine oT 12 (fun K hK=>?_)
    (go_simp;refine CSt.out.mono ?_;rintro e9 w6 ⟨sr,Fr,rfl,orn,nr,b6⟩;have q0:w6.cell? ⟨gr,orr+j * 8,Ab⟩=Ac (J U r.id):=(b6.cell (p:=⟨_,_,Ab⟩) (by show gr<w5;omega)).trans c0;have q1:w6.cell? ⟨gr,orr+j * 8+1,Ab⟩=Ac (J U r.plan.prio):=(b6.cell (p:=⟨_,_,Ab⟩) (by show gr<w5;omega)).trans c1;have q2:w6.cell? ⟨gr,orr+j * 8+2,Ab⟩=Ac (J U r.plan.most):=(b6.cell (p:=⟨_,_,Ab⟩) (by show gr<w5;omega)).trans c2;have q3:w6.cell? ⟨gr,orr+j * 8+3,Ab⟩=Ac (J U r.plan.wait):=(b6.cell (p:=⟨_,_,Ab⟩) (by show gr<w5;omega)).trans c3;have q4:w6.cell? ⟨gr,orr+j * 8+4,Ab⟩=Ac (J U r.plan.tasks):=(b6.cell (p:=⟨_,_,Ab⟩) (by show gr<w5;omega)).trans c4;have q5:w6.cell? ⟨gr,orr+j * 8+5,Ab⟩=Ac (Aa sk.1.a sk.1.n sk.1.c):=(b6.cell (p:=⟨_,_,Ab⟩) (by show gr<w5;omega)).trans c5;have q6:w6.cell? ⟨gr,orr+j * 8+6,Ab⟩=Ac (J U r.state):=(b6.cell (p:=⟨_,_,Ab⟩) (by show gr<w5;omega)).trans c6;have q7:w6.cell? ⟨gr,orr+j * 8+7,Ab⟩=Ac (Aa sk.2.a sk.2.n sk.2.c):=(b6.cell (p:=⟨_,_,Ab⟩) (by show gr<w5;omega)).trans c7;have qf:∀ j,w6.frozen? ⟨gr,j,Ab⟩=false:=fun j=>(b6.frozen (p:=⟨_,_,Ab⟩) (by show gr<w5;omega)).trans (kQ j))
    refine hK.out _ _ (fun _=>?_) ?_
    ·exact ⟨(b6.cell (p:=⟨_,_,Ab⟩) (by show ob<w5;omega)).trans OB_3,(b6.cell (p:=⟨_,_,Ab⟩) (by show ob<w5;omega)).trans OB_0,(b6.cell (p:=⟨_,_,Ab⟩) (by show eb<w5;omega)).trans EB_3,(b6.cell (p:=⟨_,_,Ab⟩) (by show gr<w5;omega)).trans c0,(b6.cell (p:=⟨_,_,Ab⟩) (by show gr<w5;omega)).trans c1,(b6.cell (p:=⟨_,_,Ab⟩) (by show gr<w5;omega)).trans c2,(b6.cell (p:=⟨_,_,Ab⟩) (by show gr<w5;omega)).trans c3,(b6.cell (p:=⟨_,_,Ab⟩) (by show gr<w5;omega)).trans c4,(b6.cell (p:=⟨_,_,Ab⟩) (by show gr<w5;omega)).trans c5,(b6.cell (p:=⟨_,_,Ab⟩) (by show gr<w5;omega)).trans c6,(b6.cell (p:=⟨_,_,Ab⟩) (by show gr<w5;omega)).trans c7⟩
    clear hK K;try simp only [pS]
    refine oT 13 (fun K hK=>?_);go_simp;refine hK.out _ _ (fun _=>?_) ?_
    ·exact ⟨(b6.cell (p:=⟨_,_,Ab⟩) (by show ob<w5;omega)).trans OB_3,(b6.cell (p:=⟨_,_,Ab⟩) (by show ob<w5;omega)).trans OB_0,(b6.cell (p:=⟨_,_,Ab⟩) (by show eb<w5;omega)).trans EB_3,(b6.cell (p:=⟨_,_,Ab⟩) (by show gr<w5;omega)).trans c0,(b6.cell (p:=⟨_,_,Ab⟩) (by show gr<w5;omega)).trans c1,(b6.cell (p:=⟨_,_,Ab⟩) (by show gr<w5;omega)).trans c2,(b6.cell (p:=⟨_,_,Ab⟩) (by show gr<w5;omega)).trans c3,(b6.cell (p:=⟨_,_,Ab⟩) (by show gr<w5;omega)).trans c4,(b6.cell (p:=⟨_,_,Ab⟩) (by show gr<w5;omega)).trans c5,(b6.cell (p:=⟨_,_,Ab⟩) (by show gr<w5;omega)).trans c6,(b6.cell (p:=⟨_,_,Ab⟩) (by show gr<w5;omega)).trans c7⟩
    clear hK K;try simp only [pS]
    refine oT 14 (fun K hK=>?_);go_simp;refine hK.out _ _ (fun aC=>absurd rfl aC) ?_;clear hK K;try simp only [pS]
    refine Ec Bl ?_ _;have b6':Below w5 w5 w6:=Bs (Bq _ _).drew b6;have nD:=b6'.size;have qN:∀ x∈Fr,w5<=x:=nr;have jN:∀ x∈F4,x<w5:=Bu.ow_lt (F:=F4) (x:=⟨Zk.now,Zk.seq,Zk.shelf.set home rest,Zk.runs⟩) (s:=(⟨Ac ⟨g,o,Ab⟩,4,e1⟩,⟨Ac ⟨gr,orr,Ab⟩,m2,e2⟩)) oy4;have oy6:Bu.ow w6 F4 ⟨Zk.now,Zk.seq,Zk.shelf.set home rest,Zk.runs⟩ (⟨Ac ⟨g,o,Ab⟩,4,e1⟩,⟨Ac ⟨gr,orr,Ab⟩,m2,e2⟩):=owB oy4 b6';obtain ⟨F8,oy8,kF,fS⟩:=So oy6 (k:=j) hj (r:=Cv r t Zk.now) (sr:=sr) orn (fun x hx bF=>by have h1:=qN x hx;have h2:=jN x bF;omega);have mB:Chg [gr] w6 ((((((((w6.setCell ⟨gr,orr+j * 8,Ab⟩ (J U (Cv r t Zk.now).id)).setCell ⟨gr,orr+j * 8+1,Ab⟩ (J U (Cv r t Zk.now).plan.prio)).setCell ⟨gr,orr+j * 8+2,Ab⟩ (J U (Cv r t Zk.now).plan.most)).setCell ⟨gr,orr+j * 8+3,Ab⟩ (J U (Cv r t Zk.now).plan.wait)).setCell ⟨gr,orr+j * 8+4,Ab⟩ (J U (Cv r t Zk.now).plan.tasks)).setCell ⟨gr,orr+j * 8+5,Ab⟩ (Aa sr.1.a sr.1.n sr.1.c)).setCell ⟨gr,orr+j * 8+6,Ab⟩ (J U (Cv r t Zk.now).state)).setCell ⟨gr,orr+j * 8+7,Ab⟩ (Aa sr.2.a sr.2.n sr.2.c)):=Fb (Co.enc.cells ((Cv r t Zk.now),sr)) w6 gr (orr+j * 8);have nL:=Bp (show ∀ x,x∈[gr]->x=gr from fun x hx=>by simpa using hx);have hgrn:=fP gr fS;have hobgr:ob≠gr:=fun h=>by
     rcases hgrn with h1 | h1
     ·exact hF.out.2.1 (by rw [h];exact h1)
     ·omega
    have hebgr:eb≠gr:=fun h=>by
     rcases hgrn with h1 | h1
     ·have:=kC _ h1;omega
     ·omega
    have hgr2:w.heap.size+1+1<gr:=by
     rcases hgrn with h1 | h1
     ·exact hF.out.1 _ h1
     ·omega
    clear OB_0 OB_1 OB_2 OB_3 OB_l;clear EB_0 EB_1 EB_2 EB_3 EB_l;replace OB:=(OB.below b6').chg mB (fun hx=>hobgr (nL.out _ hx));replace EB:=(EB.below b6').chg mB (fun hx=>hebgr (nL.out _ hx));replace RES:=(RES.below b6').chg mB (fun hx=>by have:=nL.out _ hx;omega);replace RP:=(RP.below b6').chg mB (fun hx=>by have:=nL.out _ hx;omega);replace aF:=(Bs aF b6').trans (mB.below (by have:=(Bs aF b6').size;omega) (fun x hx=>by have:=nL.out _ hx;omega));have dY:∀ x∈F8,x∈F4\/w5<=x:=fun x hx=>(kF x hx).imp id (fun h=>qN x h);clear hHeld oy4 oy6 b6 b6' nr orn mB CSt c0 c1 c2 c3 c4 c5 c6 c7 kQ q0 q1 q2 q3 q4 q5 q6 q7 qf;generalize ((((((((w6.setCell ⟨gr,orr+j * 8,Ab⟩ (J U (Cv r t Zk.now).id)).setCell ⟨gr,orr+j * 8+1,Ab⟩ (J U (Cv r t Zk.now).plan.prio)).setCell ⟨gr,orr+j * 8+2,Ab⟩ (J U (Cv r t Zk.now).plan.most)).setCell ⟨gr,orr+j * 8+3,Ab⟩ (J U (Cv r t Zk.now).plan.wait)).setCell ⟨gr,orr+j * 8+4,Ab⟩ (J U (Cv r t Zk.now).plan.tasks)).setCell ⟨gr,orr+j * 8+5,Ab⟩ (Aa sr.1.a sr.1.n sr.1.c)).setCell ⟨gr,orr+j * 8+6,Ab⟩ (J U (Cv r t Zk.now).state)).setCell ⟨gr,orr+j * 8+7,Ab⟩ (Aa sr.2.a sr.2.n sr.2.c))=w8 at *
    replace oy8:Bu.ow w8 F8 ⟨Zk.now,Zk.seq,Zk.shelf.set home rest,Zk.runs.set j (Cv r t Zk.now)⟩ (⟨Ac ⟨g,o,Ab⟩,4,e1⟩,⟨Ac ⟨gr,orr,Ab⟩,m2,e2⟩):=oy8;have hjs:j<(Zk.runs.set j (Cv r t Zk.now)).length:=by rw [Bg];exact hj
    have oyk:=oy8;obtain ⟨G1,G2,qQ,_,_,os8⟩:=oyk;obtain ⟨⟨sx1,⟨tva,tn2,tc2⟩⟩,Fx,hxo,bF,_,_,_,kN⟩:=OwL.elem (show OwL Co w8 G2 (Aa (Ac ⟨gr,orr,Ab⟩) m2 e2) (Zk.runs.set j (Cv r t Zk.now)) from os8) hjs;have cT:w8.cell? ⟨gr,orr+j * 8+7,Ab⟩=Ac (Aa tva tn2 tc2):=kN 7 _ rfl;rw [List.getElem_set_self] at hxo;obtain ⟨H1,H2,hHH,_,_,ot8⟩:=hxo;have oh8:=N7 (show OwL Eo w8 H2 (Aa tva tn2 tc2) (Cv r t Zk.now).tasks from ot8);have hgr8:gr<w8:=by have:=Bu.ow_lt (F:=F8) (x:=⟨Zk.now,Zk.seq,Zk.shelf.set home rest,Zk.runs.set j (Cv r t Zk.now)⟩) (s:=(⟨Ac ⟨g,o,Ab⟩,4,e1⟩,⟨Ac ⟨gr,orr,Ab⟩,m2,e2⟩)) oy8 gr (by rw [qQ];exact Bd _ (OwL.block_mem (show OwL Co w8 G2 (Aa (Ac ⟨gr,orr,Ab⟩) m2 e2) _ from os8) (Nat.lt_of_le_of_lt (Ag _) hjs)));exact this
    have htn2:tn2=r.tasks.length:=(RdL.at1 (s:=⟨tva,tn2,tc2⟩) (show OwL Eo w8 H2 (Aa tva tn2 tc2) (Cv r t Zk.now).tasks from ot8).rd).trans (K5 _ _ _);have jU:(t:Int)<(tn2:Int):=Bk;have gQ:(0:Int)<=(t:Int):=Bk;have hts:t<(Cv r t Zk.now).tasks.length:=by rw [K5];exact cU
    obtain ⟨gt,ot2,rfl,sP,-,-,cY,-⟩:=oh8.rd.tsk hts;have hgtF:gt∈F8:=by
     have h1:=(oh8.block Bk).1;rw [qQ];refine Bd _ (bF _ ?_);rw [hHH,h1];exact Bd _ (List.mem_singleton.2 rfl)
    have hty:=Vq r t Zk.now cU;rw [hty] at cY;have hobw8:ob<w8:=OB.lt;have hebw8:eb<w8:=EB.lt;have en1:w.heap.size+1∉F8:=fun hx=>by
     rcases dY _ hx with h | h
     ·rcases fP _ h with h1 | h1
      ·have:=hF.out.1 _ h1;omega
      ·omega
     ·omega
    have en2:w.heap.size+1+1∉F8:=fun hx=>by
     rcases dY _ hx with h | h
     ·rcases fP _ h with h1 | h1
      ·have:=hF.out.1 _ h1;omega
      ·omega
     ·omega
    have mT:∀ x∈F8,w<=x:=fun x hx=>by
     rcases dY _ hx with h | h
     ·rcases fP _ h with h1 | h1
      ·have:=hF.out.1 _ h1;omega
      ·omega
     ·omega
    have HFF:=Bp (show Gv y (wk:Int) d=((⟨Zk.now,Zk.seq,Zk.shelf.set home rest,Zk.runs.set j (Cv r t Zk.now)⟩:Yard),(⟨0,rn,t,r.tasks[t].try_+1⟩:Reply)) by rw [HF.out,qG]);have gn1:gt≠w.heap.size+1:=fun h=>en1 (by rw [<-h];exact hgtF);have gn2:gt≠w.heap.size+1+1:=fun h=>en2 (by rw [<-h];exact hgtF);clear HF hty fP dY kF qN jN gW rV kC qG;go_wp2;refine Go.wp_region_noPanic ?_;refine wp_region_held_drew (S:=(fun w'=>DBox ob [J U Zk.now,J U Zk.seq,Aa (Ac ⟨g,o,Ab⟩) 4 e1,Aa (Ac ⟨gr,orr,Ab⟩) m2 e2] w'/\DBox eb [J U pr,J U sq,J U rn,J U (t:Int)] w'/\w'.cell? ⟨gr,orr+j * 8+7,Ab⟩=Ac (Aa (Ac ⟨gt,ot2,Ab⟩) tn2 tc2)/\w'.cell? ⟨gt,ot2+t * 4+2,Ab⟩=Ac (J U (r.tasks[t].try_+1)))) Bl ⟨DBox.drew4 OB,DBox.drew4 EB,cT,cY⟩ (fun hHeld=>?_);replace oy8:Bu.ow w8.drew F8 ⟨Zk.now,Zk.seq,Zk.shelf.set home rest,Zk.runs.set j (Cv r t Zk.now)⟩ (⟨Ac ⟨g,o,Ab⟩,4,e1⟩,⟨Ac ⟨gr,orr,Ab⟩,m2,e2⟩):=owB oy8 (Bq _ _).drew;replace RES:DBox _ _ w8.drew:=DBox.drew4 RES;replace RP:DBox _ _ w8.drew:=DBox.drew4 RP;replace aF:=aF.drew;have mH:w8.drew.heap.size=w8.heap.size:=rfl;rw [<-mH] at hgr8 sP;clear OB EB cT cY mH oh8 ot8 kN bF os8 hobw8 hebw8 hgtF;generalize w8.drew=w8d at *
    refine tV 0 ?_
    (try simp only [pS])
    refine tV 1 ?_
    (try simp only [pS])
    refine tV 2 ?_
    (try simp only [pS])
    refine tV 3 ?_
    (try simp only [pS])
    refine tV 4 ?_
    (try simp only [pS])
    refine tV 5 ?_
    (try simp only [pS])
    refine tV 6 ?_
    (try simp only [pS])
    refine tV 7 ?_
    (try simp only [pS])
    refine tV 8 ?_
    (try simp only [pS])
    refine tV 9 ?_
    (try simp only [pS])
    refine tV 10 ?_
    (try simp only [pS])
    refine tV 11 ?_
    (try simp only [pS])
    refine tV 12 ?_
    (try simp only [pS])
    refine tV 13 ?_
    (try simp only [pS])
    refine tV 14 ?_
    (try simp only [pS])
    refine tV 15 ?_
    (try simp only [pS])
    refine tV 16 ?_
    (try simp only [pS])
    have RES_0:=RES.cell 0 _ rfl;have RES_1:=RES.cell 1 _ rfl;have RES_2:=RES.cell 2 _ rfl;have RES_3:=RES.cell 3 _ rfl;have RP_0:=RP.cell 0 _ rfl;have RP_1:=RP.cell 1 _ rfl;have RP_2:=RP.cell 2 _ rfl;have RP_3:=RP.cell 3 _ rfl;have rf:=RES.free;have pf:=RP.free;have dA:=Bp (show ∀ x,x∈[w.heap.size+1]->x=w.heap.size+1 from fun x hx=>by simpa using hx);have hm2':=Bp (show ∀ x,x∈[w.heap.size+1+1]->x=w.heap.size+1+1 from fun x hx=>by simpa using hx);have fH:=Chg.cells4 w8d (w.heap.size+1) 0 1 2 3 (J U Zk.now) (J U Zk.seq) (Aa (Ac ⟨g,o,Ab⟩) 4 e1) (Aa (Ac ⟨gr,orr,Ab⟩) m2 e2);refine rC 17 (fun K_ hK=>?_);go_simp;have pZ:=fH.size;have RES2:=DBox.row4 RES rfl (J U Zk.now) (J U Zk.seq) (Aa (Ac ⟨g,o,Ab⟩) 4 e1) (Aa (Ac ⟨gr,orr,Ab⟩) m2 e2);have RP2:=RP.chg fH (fun hx=>by have:=dA.out _ hx;omega);replace oy8:Bu.ow _ F8 ⟨Zk.now,Zk.seq,Zk.shelf.set home rest,Zk.runs.set j (Cv r t Zk.now)⟩ (⟨Ac ⟨g,o,Ab⟩,4,e1⟩,⟨Ac ⟨gr,orr,Ab⟩,m2,e2⟩):=owC oy8 fH (fun x hx aN=>by have h1:=dA.out _ aN;subst h1;exact en1 hx);replace aF:=aF.trans (fH.below (by have:=aF.size;omega) (fun x hx=>by have:=dA.out _ hx;omega));refine hK.out _ _ ⟨hHeld.1.chg fH (fun hx=>by have:=dA.out _ hx;omega),hHeld.2.1.chg fH (fun hx=>by have:=dA.out _ hx;omega),(fH.cell (p:=⟨gr,_,Ab⟩) (by show gr<w8d;omega) (fun hx=>by have:gr=w.heap.size+1:=dA.out _ hx;omega)).trans hHeld.2.2.1,(fH.cell (p:=⟨gt,_,Ab⟩) (by show gt<w8d;omega) (fun hx=>by have:gt=w.heap.size+1:=dA.out _ hx;omega)).trans hHeld.2.2.2⟩ (fun hHeld=>?_);clear hK K_ rf pf RES_0 RES_1 RES_2 RES_3 RP_0 RP_1 RP_2 RP_3 fH
    (try simp only [pS])
    generalize (((w8d.setCell ⟨w.heap.size+1,0,Ab⟩ (J U Zk.now)).setCell ⟨w.heap.size+1,1,Ab⟩ (J U Zk.seq)).setCell ⟨w.heap.size+1,2,Ab⟩ (Aa (Ac ⟨g,o,Ab⟩) 4 e1)).setCell ⟨w.heap.size+1,3,Ab⟩ (Aa (Ac ⟨gr,orr,Ab⟩) m2 e2)=w9 at *
    have RP_0:=RP2.cell 0 _ rfl;have RP_1:=RP2.cell 1 _ rfl;have RP_2:=RP2.cell 2 _ rfl;have RP_3:=RP2.cell 3 _ rfl;have pf:=RP2.free;have jB:=Chg.cells4 w9 (w.heap.size+1+1) 0 1 2 3 (J U 0) (J U rn) (J U (t:Int)) (J U (r.tasks[t].try_+1));refine rC 18 (fun K_ hK=>?_);go_simp;refine hK.out _ _ ⟨hHeld.1.chg jB (fun hx=>by have:=hm2'.out _ hx;omega),hHeld.2.1.chg jB (fun hx=>by have:=hm2'.out _ hx;omega),(jB.cell (p:=⟨gr,_,Ab⟩) (by show gr<w9;have:=pZ;omega) (fun hx=>by have:gr=w.heap.size+1+1:=hm2'.out _ hx;omega)).trans hHeld.2.2.1,(jB.cell (p:=⟨gt,_,Ab⟩) (by show gt<w9;have:=pZ;omega) (fun hx=>by have:gt=w.heap.size+1+1:=hm2'.out _ hx;omega)).trans hHeld.2.2.2⟩ (fun hHeld=>?_);clear hK K_ hHeld
    (try simp only [pS])
    refine wpAnyH_done Bl ?_ _;refine NoPanic.normal ?_;have RES3:=RES2.chg jB (fun hx=>by have:=hm2'.out _ hx;omega);have RP3:=DBox.row4 RP2 rfl (J U 0) (J U rn) (J U (t:Int)) (J U (r.tasks[t].try_+1));replace oy8:Bu.ow _ F8 ⟨Zk.now,Zk.seq,Zk.shelf.set home rest,Zk.runs.set j (Cv r t Zk.now)⟩ (⟨Ac ⟨g,o,Ab⟩,4,e1⟩,⟨Ac ⟨gr,orr,Ab⟩,m2,e2⟩):=owC oy8 jB (fun x hx aN=>by have h1:=hm2'.out _ aN;subst h1;exact en2 hx);replace aF:=aF.trans (jB.below (by have:=aF.size;omega) (fun x hx=>by have:=hm2'.out _ hx;omega));clear RP_0 RP_1 RP_2 RP_3 pf;go_wp2;exact Aj (Qu RES3 RP3) rfl ⟨(⟨Ac ⟨g,o,Ab⟩,4,e1⟩,⟨Ac ⟨gr,orr,Ab⟩,m2,e2⟩),F8,by rw [HFF.out],by rw [HFF.out];exact oy8,mT,aF⟩
theorem Abt {b:Nat} {w:World} {u0 u1 u2 u3 u4 u5 u6 u7 v5:Value} (X:DBox b [u0,u1,u2,u3,u4,u5,u6,u7] w) {v0 v1 v2 v3:Value} {rest:List Value} :
  (results Tryz.f201 (v0 :: v1 :: v2 :: v3 :: .pointer (Ac ⟨b,0,Ab⟩) :: v5 :: rest).toArray).run An w = .ok (.tuple #[.agg #[u0,u1,u2,u3,u4,u5,u6,u7],v5]) w:=by
 have c0:=X.cell 0 _ rfl;have c1:=X.cell 1 _ rfl;have c2:=X.cell 2 _ rfl;have c3:=X.cell 3 _ rfl;have c4:=X.cell 4 _ rfl;have c5:=X.cell 5 _ rfl;have c6:=X.cell 6 _ rfl;have c7:=X.cell 7 _ rfl;simp [results,Tryz.results201,go_sem,c0,c1,c2,c3,c4,c5,c6,c7]
theorem Vr {α:Type} (f:Nat->α) (k:Nat):(List.range (k+1)).map f=(List.range k).map f ++ [f k]:=by rw [List.range_succ,List.map_append];rfl
def Afj (r:Run) (w:World) (e:Ending) (w':World):Prop :=
 ∃ s F,e = .returned (.tuple #[Hc r s,.bool true])/\Co.ow w' F r s/\(∀ b∈F,w<=b)/\Below w w w'
theorem Vs (id:Int) (p:Plan) (s:Sl) (w:World) (hid:inB id 1 9999=true) (hf:Cr p=0) (h:Cm.rd w w p s) :
  Calls An 201 #[.int .i64 id,Qc p s] w (Afj (Cl id p) w):=by
 have jF:=C8.1 hf;have hT:=Ee jF.1;have hE:=E9 jF.1;obtain ⟨A,n,c⟩:=s;obtain rfl:n=p.edges.length:=RdL.at1 (s:=⟨A,n,c⟩) h;have sE:=Bp (fun W (hW:Below w w W)=>((Ju h).below hW).more hW.size);have CP:=Bp (fun W (hW:Below w w W)=>L7 p ⟨A,p.edges.length,c⟩ W (by unfold Js;rw [Iz (cnt:=Tu) (fun _=>rfl)];omega) (Cm.rd_more (Cm.rd_below h hW) hW.size));have CF:=Bp (fun W (hW:Below w w W)=>I4 p (.slice A p.edges.length c) W Bk (sE.out W hW));have CB:=Bp (fun W (hW:Below w w W) t=>Ni p (.slice A p.edges.length c) t W jF.1 jF.2.1 jF.2.2.1 (sE.out W hW));rw [hf] at CF;obtain ⟨i0,aL,aR,aS,aP⟩:=info_parts Ri;clear h jF hE hf;have X:=(DBox.new 43 [.int .i64 p.prio,.int .i64 p.most,.int .i64 p.wait,.int .i64 p.tasks,.slice A p.edges.length c] w (b:=w.heap.size) rfl).below ((Bq _ _).alloc (Br _) (.cells #[.int .i64 0,.int .i64 0,.int .i64 0,.int .i64 0,.int .i64 0,.slice Ab 0 0,.int .i64 0,.slice Ab 0 0] 89));have RES:=DBox.new 89 [.int .i64 0,.int .i64 0,.int .i64 0,.int .i64 0,.int .i64 0,.slice Ab 0 0,.int .i64 0,.slice Ab 0 0] (w.alloc (.cells #[.int .i64 p.prio,.int .i64 p.most,.int .i64 p.wait,.int .i64 p.tasks,.slice A p.edges.length c] 43)) (b:=w.heap.size+1) Bm;have B0:Below w w ((w.alloc (.cells #[.int .i64 p.prio,.int .i64 p.most,.int .i64 p.wait,.int .i64 p.tasks,.slice A p.edges.length c] 43)).alloc (.cells #[.int .i64 0,.int .i64 0,.int .i64 0,.int .i64 0,.int .i64 0,.slice Ab 0 0,.int .i64 0,.slice Ab 0 0] 89)):=by repeat (first | exact Bq _ _ | refine Below.alloc ?_ Bn _)
 go_enter Tryz.func201,Tryz.ntmps201;go_wp2_with (go_at_call 155;refine (Cf _ _ _ _).mono ?_;rintro e w9 ⟨rfl,rfl⟩;rw [hid])
 generalize ((w.alloc (.cells #[.int .i64 p.prio,.int .i64 p.most,.int .i64 p.wait,.int .i64 p.tasks,.slice A p.edges.length c] 43)).alloc (.cells #[.int .i64 0,.int .i64 0,.int .i64 0,.int .i64 0,.int .i64 0,.slice Ab 0 0,.int .i64 0,.slice Ab 0 0] 89))=W at *
 refine (CF.out _ B0).mono ?_;rintro e1 w1 ⟨rfl,b1⟩;have jQ:=RES.lt;replace X:=X.below b1;replace RES:=RES.below b1;obtain ⟨X_0,X_1,X_2,X_3,X_4,X_l⟩:=X.g5;have B1:=Bs B0 b1;have bL:=b1.size;clear B0 b1;go_wp2_with fail
 refine (CP.out _ B1).mono ?_;rintro e1 w2 ⟨⟨A3,n3,c3⟩,F,rfl,op,nF,b2⟩;clear X_0 X_1 X_2 X_3 X_4 X_l;replace X:=X.below b2;replace RES:=RES.below b2;have B2:=Bs B1 b2;have cI:=b2.size;have cL:=Cm.ow_lt op;clear B1 b2 CP CF;obtain ⟨X_0,X_1,X_2,X_3,X_4,X_l⟩:=X.g5;go_upto_region 4 with fail
 have RB:=DBox.new 89 [.int .i64 id,.int .i64 p.prio,.int .i64 p.most,.int .i64 p.wait,.int .i64 p.tasks,.slice A3 n3 c3,.int .i64 1,.slice Ab 0 0] w2 (b:=w2.heap.size) rfl;have b3:Below w2 w2 (w2.alloc (.cells #[.int .i64 id,.int .i64 p.prio,.int .i64 p.most,.int .i64 p.wait,.int .i64 p.tasks,.slice A3 n3 c3,.int .i64 1,.slice Ab 0 0] 89)):=(Bq _ _).alloc (Br _) _;clear X_0 X_1 X_2 X_3 X_4 X_l;replace X:=X.below b3;replace RES:=RES.below b3;replace op:=Cm.ow_below op b3;have B3:=Bs B2 b3;have fV:=b3.size;have hRB:=RB.lt;generalize w2.alloc (.cells #[.int .i64 id,.int .i64 p.prio,.int .i64 p.most,.int .i64 p.wait,.int .i64 p.tasks,.slice A3 n3 c3,.int .i64 1,.slice Ab 0 0] 89)=w3 at *
 generalize hrb:w2.heap.size=rb at *
 have dH:∀ x∈F,w.heap.size+1<x/\x<rb:=fun x hx=>⟨by have:=nF x hx;omega,cL x hx⟩
 clear cL nF B2 b3;obtain ⟨T,hT1⟩:∃ T:Nat,p.tasks=T:=⟨p.tasks.toNat,Bk⟩
 have nX:=Bp hT1;have hTn:=Bp (show p.tasks.toNat=T by omega);have gR:T<=12:=Bk;clear hT1;have hH:Hid (Cl id p=⟨id,p,1,(List.range T).map (Fh p)⟩):=by
  show Cl id p=_;unfold Cl;rw [hTn.out]
 go_wp2;go_loopw [7] (fun i wr=>∃ (k:Nat) (vt:Value),k<=T/\i = .int .i64 k/\Hid (Ow G4 138 wr (rb+1) vt ((List.range k).map (Fh p)))/\DBox w [.int .i64 p.prio,.int .i64 p.most,.int .i64 p.wait,.int .i64 p.tasks,.slice A p.edges.length c] wr/\DBox (w.heap.size+1) [.int .i64 0,.int .i64 0,.int .i64 0,.int .i64 0,.int .i64 0,.slice Ab 0 0,.int .i64 0,.slice Ab 0 0] wr/\DBox rb [.int .i64 id,.int .i64 p.prio,.int .i64 p.most,.int .i64 p.wait,.int .i64 p.tasks,.slice A3 n3 c3,.int .i64 1,vt] wr/\Hid (Cm.ow wr F p ⟨A3,n3,c3⟩)/\Below w w wr/\rb<wr) (fun i _=>T - (intOf i).toNat);case atStart=>exact ⟨0,_,Ag _,rfl,Ow.nil G4 138 w3 (rb+1),X,RES,RB,op,B3,hRB⟩
 case round =>
  clear X RES RB op B3;obtain ⟨k,vt,hk,rfl,ho,X,RES,RB,op,hb,cA⟩:=hrel;obtain ⟨X_0,X_1,X_2,X_3,X_4,X_l⟩:=X.g5;obtain ⟨RB_0,RB_1,RB_2,RB_3,RB_4,RB_5,RB_6,RB_7,RB_l⟩:=RB.g8;by_cases aA:k<T
  ·have aB:(k:Int)<p.tasks:=by have:=nX.out;omega
   have hS:=Bp (Vr (Fh p) k);go_wp2_with fail
   refine (CB.out _ hb k).mono ?_;rintro e1 w4 ⟨vb,rfl,ob,b4⟩;obtain ⟨A9,c9,rfl,-⟩:=_root_.id (Rd.of_own ob);have qU:(Dl (Dq p) p.tasks.toNat k).length<=12:=by have h1:=Jz (Dq p) p.tasks.toNat k;have h2:=hTn.out;omega
   have hN:Hid (Fh p k=⟨if (Dl (Dq p) p.tasks.toNat k).length=0 then 2 else 1,(Dl (Dq p) p.tasks.toNat k).length,0,0⟩):=rfl;have hnk:=Bp (show ((List.range k).map (Fh p)).length<=3000000 by simp;omega);generalize (Dl (Dq p) p.tasks.toNat k).length=N at *
   clear X_0 X_1 X_2 X_3 X_4 X_l;clear RB_0 RB_1 RB_2 RB_3 RB_4 RB_5 RB_6 RB_7 RB_l;have hb4s:=b4.size;have bI:=hb.size;replace X:=X.below b4;replace RES:=RES.below b4;replace RB:=RB.below b4;replace op:=Cm.ow_below op.out b4;have fF:=ho.out.below b4;have cB:=Bs hb b4;clear ho b4 ob hb;obtain ⟨RB_0,RB_1,RB_2,RB_3,RB_4,RB_5,RB_6,RB_7,RB_l⟩:=RB.g8;have rbf:=RB.free;by_cases hz:N=0
   ·subst hz;have hN2:Hid (Fh p k=⟨2,0,0,0⟩):=by rw [if_pos rfl] at hN;exact hN
    clear hN;have b5:Below w4 w4 (w4.alloc (.cells #[.int .i64 2,.int .i64 0,.int .i64 0,.int .i64 0] 138)):=(Bq _ _).alloc (Br _) _;have XB:=DBox.new 138 [.int .i64 2,.int .i64 0,.int .i64 0,.int .i64 0] w4 (b:=w4.heap.size) rfl;go_upto_region 10 with fail
    clear RB_0 RB_1 RB_2 RB_3 RB_4 RB_5 RB_6 RB_7 RB_l;clear rbf;replace X:=X.below b5;replace RES:=RES.below b5;replace RB:=RB.below b5;replace op:=Cm.ow_below op b5;replace fF:=fF.below b5;replace cB:=Bs cB b5;have hb5s:=b5.size;clear b5;generalize w4.alloc (.cells #[.int .i64 2,.int .i64 0,.int .i64 0,.int .i64 0] 138)=w5 at *
    obtain ⟨RB_0,RB_1,RB_2,RB_3,RB_4,RB_5,RB_6,RB_7,RB_l⟩:=RB.g8;obtain ⟨XB_0,XB_1,XB_2,XB_3,XB_l⟩:=XB.g4;have rbf:=RB.free;have ha:Hid (∀ w:World,Below w w (w.alloc (.cells #[.int .i64 2,.int .i64 0,.int .i64 0,.int .i64 0] 138))):=fun w=>(Bq _ _).alloc (Br _) _;have HL:Hid (((List.range k).map (Fh p)).length=k):=by
     show ((List.range k).map (Fh p)).length=k;simp
    go_wp2_with (at_builtin;refine Bz _ G4 Bo rfl (.tmp 38) (.tmp 40) rfl Tryz.underlying87 aL aR aS aP rfl (base:=rb+1) (l:=(List.range k).map (Fh p)) rfl (fF.below (ha.out w5)) rfl (Rd.one G4 _ _ ⟨2,0,0,0⟩ rfl rfl 1 (Br _) (Nat.lt_succ_self _)) hnk.out Bm Bo (by simp;omega) ?_;intro v5 w6 o6 g6 _;obtain ⟨⟨va,vn,vc⟩,rfl⟩:∃ s:Sl,v5 = .slice s.a s.n s.c:=(by obtain ⟨A7,c7,rfl,_⟩:=Rd.of_own o6;exact ⟨⟨A7,_,c7⟩,rfl⟩);have RB6:=(RB.below (ha.out w5)).off g6 (fun e=>by have:=fF.within _ e.symm;omega);have q7:=RB6.cell 7 _ rfl;have qf:=RB6.free;have ql:=RB6.lt)
    have aG:Below w w w6:=(Bs cB (ha.out w5)).grown g6 (Bs cB (ha.out w5)).size (fun g hg=>by have:=fF.within _ hg;omega);have X6:=(X.below (ha.out w5)).off g6 (fun e=>by have:=fF.within _ e.symm;omega);have RES6:=(RES.below (ha.out w5)).off g6 (fun e=>by have:=fF.within _ e.symm;omega);have op6:=(Cm.ow_keep (Cm.ow_below op (ha.out w5)) g6.size (fun b cN=>g6.block b (Cm.ow_lt (Cm.ow_below op (ha.out w5)) b cN) (fun e=>by have h1:=fF.within _ e.symm;have h2:=dH b cN;omega)))
    have eL:Ow G4 138 (w6.setCell ⟨rb,7,Ab⟩ (.slice va vn vc)) (rb+1) (.slice va vn vc) ((List.range (k+1)).map (Fh p)):=by
     rw [hS.out,hN2.out];exact o6.setOther (fun e=>by have h1:rb+1<=rb:=(o6.within _ e).1;omega) _
    exact ⟨⟨k+1,_,Bk,by go_num,eL,X6.setOther (by show w.heap.size≠rb;omega) _,RES6.setOther (by show w.heap.size+1≠rb;omega) _,RB6.set 7 Bm _,Cm.ow_set op6 (a:=⟨rb,7,Ab⟩) (fun hx=>by have h1:w.heap.size+1<rb/\rb<rb:=dH _ hx;omega) _,aG.setCell (by show w.heap.size<=rb;omega) _,by simp [World.setCell];omega⟩,by simp [intOf];omega⟩
   ·have hN2:Hid (Fh p k=⟨1,N,0,0⟩):=by rw [if_neg hz] at hN;exact hN
    have hNI:(0:Int)<(N:Int):=Bk;clear hN hz;have b5:Below w4 w4 (w4.alloc (.cells #[.int .i64 1,.int .i64 (N:Int),.int .i64 0,.int .i64 0] 138)):=(Bq _ _).alloc (Br _) _;have XB:=DBox.new 138 [.int .i64 1,.int .i64 (N:Int),.int .i64 0,.int .i64 0] w4 (b:=w4.heap.size) rfl;go_upto_region 10 with fail
    clear RB_0 RB_1 RB_2 RB_3 RB_4 RB_5 RB_6 RB_7 RB_l;clear rbf;replace X:=X.below b5;replace RES:=RES.below b5;replace RB:=RB.below b5;replace op:=Cm.ow_below op b5;replace fF:=fF.below b5;replace cB:=Bs cB b5;have hb5s:=b5.size;clear b5;generalize w4.alloc (.cells #[.int .i64 1,.int .i64 (N:Int),.int .i64 0,.int .i64 0] 138)=w5 at *
    obtain ⟨RB_0,RB_1,RB_2,RB_3,RB_4,RB_5,RB_6,RB_7,RB_l⟩:=RB.g8;obtain ⟨XB_0,XB_1,XB_2,XB_3,XB_l⟩:=XB.g4;have rbf:=RB.free;have ha:Hid (∀ w:World,Below w w (w.alloc (.cells #[.int .i64 1,.int .i64 (N:Int),.int .i64 0,.int .i64 0] 138))):=fun w=>(Bq _ _).alloc (Br _) _;have HL:Hid (((List.range k).map (Fh p)).length=k):=by
     show ((List.range k).map (Fh p)).length=k;simp
    go_wp2_with (at_builtin;refine Bz _ G4 Bo rfl (.tmp 38) (.tmp 40) rfl Tryz.underlying87 aL aR aS aP rfl (base:=rb+1) (l:=(List.range k).map (Fh p)) rfl (fF.below (ha.out w5)) rfl (Rd.one G4 _ _ ⟨1,(N:Int),0,0⟩ rfl rfl 1 (Br _) (Nat.lt_succ_self _)) hnk.out Bm Bo (by simp;omega) ?_;intro v5 w6 o6 g6 _;obtain ⟨⟨va,vn,vc⟩,rfl⟩:∃ s:Sl,v5 = .slice s.a s.n s.c:=(by obtain ⟨A7,c7,rfl,_⟩:=Rd.of_own o6;exact ⟨⟨A7,_,c7⟩,rfl⟩);have RB6:=(RB.below (ha.out w5)).off g6 (fun e=>by have:=fF.within _ e.symm;omega);have q7:=RB6.cell 7 _ rfl;have qf:=RB6.free;have ql:=RB6.lt)
    have aG:Below w w w6:=(Bs cB (ha.out w5)).grown g6 (Bs cB (ha.out w5)).size (fun g hg=>by have:=fF.within _ hg;omega);have X6:=(X.below (ha.out w5)).off g6 (fun e=>by have:=fF.within _ e.symm;omega);have RES6:=(RES.below (ha.out w5)).off g6 (fun e=>by have:=fF.within _ e.symm;omega);have op6:=(Cm.ow_keep (Cm.ow_below op (ha.out w5)) g6.size (fun b cN=>g6.block b (Cm.ow_lt (Cm.ow_below op (ha.out w5)) b cN) (fun e=>by have h1:=fF.within _ e.symm;have h2:=dH b cN;omega)))
    have eL:Ow G4 138 (w6.setCell ⟨rb,7,Ab⟩ (.slice va vn vc)) (rb+1) (.slice va vn vc) ((List.range (k+1)).map (Fh p)):=by
     rw [hS.out,hN2.out];exact o6.setOther (fun e=>by have h1:rb+1<=rb:=(o6.within _ e).1;omega) _
    exact ⟨⟨k+1,_,Bk,by go_num,eL,X6.setOther (by show w.heap.size≠rb;omega) _,RES6.setOther (by show w.heap.size+1≠rb;omega) _,RB6.set 7 Bm _,Cm.ow_set op6 (a:=⟨rb,7,Ab⟩) (fun hx=>by have h1:w.heap.size+1<rb/\rb<rb:=dH _ hx;omega) _,aG.setCell (by show w.heap.size<=rb;omega) _,by simp [World.setCell];omega⟩,by simp [intOf];omega⟩
  ·have aB:¬ (k:Int)<p.tasks:=by have:=nX.out;omega
   have hkT:k=T:=Bk;subst hkT;have rf:=RES.free;have RES_0:=RES.cell 0 _ rfl;have RES_1:=RES.cell 1 _ rfl;have RES_2:=RES.cell 2 _ rfl;have RES_3:=RES.cell 3 _ rfl;have RES_4:=RES.cell 4 _ rfl;have RES_5:=RES.cell 5 _ rfl;have RES_6:=RES.cell 6 _ rfl;have RES_7:=RES.cell 7 _ rfl;have sV:=ho.out;obtain ⟨⟨ta,tn,tc⟩,Ft,rfl,ot,nt⟩:=Yd sV;go_wp2;have e1:w.heap.size+1∉F:=fun hx=>by have:=dH _ hx;omega
   have e2:w.heap.size+1∉Ft:=fun hx=>by have:=nt _ hx;omega
   refine Aj (Abt (DBox.row8 RES rfl _ _ _ _ _ _ _ _)) rfl ⟨(⟨A3,n3,c3⟩,⟨ta,tn,tc⟩),F ++ Ft,by rw [hH.out],⟨F,Ft,rfl,?_,?_,?_⟩,?_,?_⟩
   ·rw [List.nodup_append];refine ⟨Cm.ow_nodup op.out,ot.nodup,fun u hu u' hu' e=>?_⟩
    have:=dH u hu
    have:=nt u' hu'
    omega
   ·rw [hH.out];show Cm.ow _ F p _;exact (by (repeat (refine Dt.ow_set Cm ?_ e1 _));exact op.out)
   ·rw [hH.out];show OwL Eo _ Ft _ ((List.range k).map (Fh p));exact ((((((((ot.set (a:=⟨w.heap.size+1,_,Ab⟩) e2 _).set (a:=⟨w.heap.size+1,_,Ab⟩) e2 _).set (a:=⟨w.heap.size+1,_,Ab⟩) e2 _).set (a:=⟨w.heap.size+1,_,Ab⟩) e2 _).set (a:=⟨w.heap.size+1,_,Ab⟩) e2 _).set (a:=⟨w.heap.size+1,_,Ab⟩) e2 _).set (a:=⟨w.heap.size+1,_,Ab⟩) e2 _).set (a:=⟨w.heap.size+1,_,Ab⟩) e2 _)
   ·intro x hx;rcases List.mem_append.1 hx with hx | hx
    ·have:=dH x hx;omega
    ·have:=nt x hx;have:=bL;omega
   ·repeat (first | (with_reducible exact hb) | refine Ad ?_ Bn _)
theorem Tp (r:Run) (s:Sl×Sl) (st:Int) (w:World) (hl:r.tasks.length<=2000000) (h:Co.rd w w r s) :
  Calls An 249 #[Hc r s,.int .i64 st] w fun e w'=>∃ v,e = .returned v/\Ow Em 3 w' w v (Dk r.tasks st)/\Below w w w':=by
 obtain ⟨⟨A1,n1,c1⟩,⟨A2,n2,c2⟩⟩:=s;obtain rfl:n2=r.tasks.length:=RdL.at1 (s:=⟨A2,n2,c2⟩) h.2;have h2:RdL Eo w w (.slice A2 r.tasks.length c2) r.tasks:=h.2;obtain ⟨W,aH,X,B0⟩:=bx1 w 89 [.int .i64 r.id,.int .i64 r.plan.prio,.int .i64 r.plan.most,.int .i64 r.plan.wait,.int .i64 r.plan.tasks,.slice A1 n1 c1,.int .i64 r.state,.slice A2 r.tasks.length c2];obtain ⟨j0,bS,jz0,jz1,jz2⟩:=info_parts Rq;go_enter Tryz.func249,Tryz.ntmps249;go_upto_region 1 with fail
 rw [<-aH.out];clear aH;have hWs:w.heap.size+1=W.heap.size\/w.heap.size+1<=W.heap.size:=.inr X.lt;have o0:=Ow.empty Em 3 W rfl;have b0:Below W W (W.alloc (.cells #[] 3)):=(Bq _ _).alloc (Br _) _;have kL:=X.lt;replace X:=X.below b0;replace B0:=Bs B0 b0;go_wp2;go_loopw [5,6] (fun vl i wr=>∃ k:Nat,k<=r.tasks.length/\i = .int .i64 k/\Hid (Ow Em 3 wr W vl (Ev r.tasks st k))/\DBox w [.int .i64 r.id,.int .i64 r.plan.prio,.int .i64 r.plan.most,.int .i64 r.plan.wait,.int .i64 r.plan.tasks,.slice A1 n1 c1,.int .i64 r.state,.slice A2 r.tasks.length c2] wr/\Below w w wr/\W.heap.size<=wr.heap.size) (fun _ i _=>r.tasks.length - (intOf i).toNat);case atStart=>exact ⟨0,Ag _,rfl,(by show Ow Em 3 _ _ _ (Ev r.tasks st 0);simpa [Ev] using o0),X,B0,b0.size⟩
 case round =>
  clear X B0 o0 b0;obtain ⟨k,hk,rfl,ho,X,hb,bG⟩:=hrel;have X_:=X.g8;by_cases aA:k<r.tasks.length
  ·have aB:(k:Int)<(r.tasks.length:Int):=Bk;have cS:(0:Int)<=(k:Int):=Bk;obtain ⟨b,o,_,rfl,aG,_,d0,d1,d2,d3⟩:=(h2.below hb).task aA;have hS:=Kx r.tasks st k aA;have Hl:=Bp (show (Ev r.tasks st k).length<=3000000 by have:=Mr r.tasks st k;omega);by_cases hx:r.tasks[k].state=st
   ·rw [if_pos hx] at hS;have S:=Bp hS;have t1:(r.tasks[k].state == st)=true:=beq_iff_eq.2 hx;have sV:=ho.out;clear hS hx;have ha:Hid (∀ w:World,Below w w (w.alloc (.cells #[.int .i64 (k:Int)] 3))):=fun w=>(Bq _ _).alloc (Br _) _;go_wp2_with (at_builtin;refine Bz _ Em Bo rfl (.tmp 23) (.tmp 25) rfl Tryz.underlying26 bS jz0 jz1 jz2 rfl (base:=W.heap.size) (l:=Ev r.tasks st k) rfl (sV.below (ha.out wr)) rfl (Rd.one Em _ _ k rfl rfl 1 (Br _) (Nat.lt_succ_self _)) Hl.out Bm Bo (by simp;omega) ?_;intro v5 w5 o5 g5 _)
    have bE:=Bs hb (ha.out wr);have W5:=bE.grown g5 bE.size (fun g hg=>by have:=sV.within _ hg;omega);have X5:=(X.below (ha.out wr)).off g5 (fun e=>by have:=(sV.within _ e.symm).1;omega);have rS:=g5.size;simp only [World.size_alloc] at rS;refine ⟨⟨k+1,Bk,by go_num,?_,X5,W5,Bk⟩,by simp [intOf];omega⟩;rw [S.out];exact o5
   ·rw [if_neg hx,List.append_nil] at hS;have S:=Bp hS;have t1:(r.tasks[k].state == st)=false:=beq_eq_false_iff_ne.2 hx;clear hS hx;go_wp2;refine ⟨⟨k+1,Bk,by go_num,?_,X,hb,bG⟩,by simp [intOf];omega⟩;rw [S.out];exact ho
  ·have aB:¬ (k:Int)<(r.tasks.length:Int):=Bk;have aZ:k=r.tasks.length:=Bk;subst aZ;go_wp2;go_ret;exact ⟨_,rfl,ho.out.more Bk,hb⟩
theorem Yr {home d k:Nat} (h:k<3):(Dz home d).take (k+1)=(Dz home d).take k ++ [(home+1+(d % 3+k) % 3) % 4]:=by
 have h1:(max (d:Int) 0 % 3).toNat=d % 3:=Bk;unfold Dz;rw [h1,Ap];rcases (show k=0\/k=1\/k=2 by omega) with rfl | rfl | rfl<;>rfl
theorem Tq (n lo hi:Int) (w:World) (h:lo<=n/\n<=hi):Calls An 136 #[J U n,J U lo,J U hi] w fun e w'=>e = .returned (J U n)/\w=w':=by
 have h1:max lo (min n hi)=n:=Bk;have h2:min (max n lo) hi=n:=Bk;have h3:min hi (max n lo)=n:=Bk;have h4:max (min n hi) lo=n:=Bk;go_enter Tryz.func136,Tryz.ntmps136;go_wp2;go_ret;exact ⟨Dg (show min n hi=n by omega),rfl⟩
theorem Tr (home d:Nat) (w:World) (hh:home<4) (hd:d<=1000000000) :
  Calls An 71 #[.int .i64 (home:Int),.int .i64 (d:Int)] w fun e w'=>∃ v,e = .returned v/\Ow Em 3 w' w v (Dz home d)/\Below w w w':=by
 obtain ⟨j0,bS,jz0,jz1,jz2⟩:=info_parts Rq;have CB:=Bp (fun W=>Tq (home:Int) 0 3 W Bk);have hmx:max (d:Int) 0=d:=Bk;have rD:(d:Int).tmod 3=((d % 3:Nat):Int):=by
  rw [Int.tmod_eq_emod_of_nonneg Bk];omega
 have hm3:=Nat.mod_lt d (show 0<3 by decide);have hT:=Bp (fun k h=>Yr (home:=home) (d:=d) (k:=k) h);have wD:U.wrap ((d % 3:Nat):Int)=((d % 3:Nat):Int):=Ar _ Bk;have wH:U.wrap ((home:Int)+1)=(home:Int)+1:=Ar _ Bk;have hV:=Bp (show (Dz home d).length=3 by unfold Dz;simp);generalize Dz home d=V at *
 generalize d % 3=m at *
 go_enter Tryz.func71,Tryz.ntmps71;go_wp2_with (go_at_call 136;refine (CB.out _).mono ?_;rintro e w1 ⟨rfl,rfl⟩)
 go_loopw [5,6] (fun v j wr=>∃ k:Nat,k<=3/\j = .int .i64 (k:Int)/\Hid (Ow Em 3 wr w v (V.take k))/\Below w w wr) (fun _ j _=>3 - (intOf j).toNat);case atStart=>exact ⟨0,Ag _,rfl,Ow.nil _ _ _ _,Bq _ _⟩
 case round =>
  obtain ⟨k,hk,rfl,hO,hb⟩:=hrel;by_cases aA:k<3
  ·have aB:(k:Int)<3:=Bk;have S:=Bp (hT.out k aA);have wA:U.wrap ((m:Int)+(k:Int))=(m:Int)+(k:Int):=Ar _ Bk;have rA:((m:Int)+(k:Int)).tmod 3=(((m+k) % 3:Nat):Int):=by
    rw [Int.tmod_eq_emod_of_nonneg Bk];omega
   have hq3:=Nat.mod_lt (m+k) (show 0<3 by decide);have wB:U.wrap (((m+k) % 3:Nat):Int)=(((m+k) % 3:Nat):Int):=Ar _ Bk;generalize (m+k) % 3=q at *
   have wC:U.wrap ((home:Int)+1+(q:Int))=(home:Int)+1+(q:Int):=Ar _ Bk;have rC:((home:Int)+1+(q:Int)).tmod 4=(((home+1+q) % 4:Nat):Int):=by
    rw [Int.tmod_eq_emod_of_nonneg Bk];omega
   have wE:U.wrap (((home+1+q) % 4:Nat):Int)=(((home+1+q) % 4:Nat):Int):=Ar _ Bk;have Hl:=Bp (show (V.take k).length<=3000000 by rw [List.length_take];omega);generalize (home+1+q) % 4=x at *
   have ha:Hid (∀ w:World,Below w w (w.alloc (.cells #[.int .i64 (x:Int)] 3))):=fun w=>(Bq _ _).alloc (Br _) _;have dJ:=hO.out;have eM:=hb.size;go_wp2_with (at_builtin;refine Bz _ Em Bo rfl (.tmp 13) (.tmp 24) rfl Tryz.underlying26 bS jz0 jz1 jz2 rfl (base:=w.heap.size) (l:=V.take k) rfl (dJ.below (ha.out wr)) rfl (Rd.one Em _ _ x rfl rfl 1 (Br _) (Nat.lt_succ_self _)) Hl.out Bm Bo (by simp;omega) ?_;intro v5 w5 o5 g5 _)
   have eE:Below w w w5:=(Bs hb (ha.out wr)).grown g5 (Bs hb (ha.out wr)).size (fun g hg=>by have:=dJ.within _ hg;omega);exact ⟨⟨k+1,Bk,by go_num,by rw [S.out];exact o5,eE⟩,by simp [intOf];omega⟩
  ·have aB:¬ (k:Int)<3:=Bk;have dJ:=hO.out;rw [Bf (by have:=hV.out;omega)] at dJ;clear hO;go_wp2;go_ret;exact ⟨_,rfl,dJ,hb⟩
end Go.Proofs.YtonlnjdempbfoaaGreat
