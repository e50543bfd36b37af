/-
  Poll of the program. Written by program (ipo.py). Forget of the program: its closure, and what it leaves of a shelf. What Tick and Restart of the program ask of
-/
import Derived.Test.YtonlnjdempbfoaaGreatZSl7
import Derived.Test.YtonlnjdempbfoaaGreatZSl10
import Derived.Test.YtonlnjdempbfoaaGreatZSl11
import Derived.Test.YtonlnjdempbfoaaGreatZSl12
import Derived.Test.YtonlnjdempbfoaaGreatZSl13
import Derived.Test.YtonlnjdempbfoaaGreatZSl14
namespace Go.Proofs.YtonlnjdempbfoaaGreat
open Go.RowKit
set_option maxRecDepth 100000
set_option maxHeartbeats 4000000
set_option linter.unusedVariables false
set_option linter.unusedSimpArgs false
open Value renaming int->J,slice->Aa
open IntKind renaming i64->U
open Option renaming none->Ab,some->Ac
open Below renaming setCell->Ad
open Nat renaming le_trans->Ah
open Go renaming bodyPost_ret->Aj
open Go.Proofs.Tryz renaming prog->Am
open Int renaming toNat_natCast->Ao,eq_ofNat_of_zero_le->Ap
open IntWalk renaming i64_in->Aq
open List renaming getElem_mem->Aw,nodup_append->Ax,mem_append_right->Be,take_of_length_le->Bg,length_set->Bh,mem_append->Bi
theorem N3 {b c:Nat} {w:World} {u0 u1 u2 u3 v0 v1 v2 v3:Value} (X:DBox b [u0,u1,u2,u3] w) (Y:DBox c [v0,v1,v2,v3] w) {x0 x1 x2 x3 x4 x5:Value} {rest:List Value} :
  (results Tryz.f25 (x0 :: x1 :: x2 :: x3 :: x4 :: x5 :: .pointer (Ac ⟨b,0,Ab⟩) :: .pointer (Ac ⟨c,0,Ab⟩) :: rest).toArray).run Am w = .ok (.tuple #[.agg #[u0,u1,u2,u3],.agg #[v0,v1,v2,v3]]) w:=by
 have c0:=X.cell 0 _ rfl;have c1:=X.cell 1 _ rfl;have c2:=X.cell 2 _ rfl;have c3:=X.cell 3 _ rfl;have d0:=Y.cell 0 _ rfl;have d1:=Y.cell 1 _ rfl;have d2:=Y.cell 2 _ rfl;have d3:=Y.cell 3 _ rfl;simp [results,Tryz.results25,go_sem,c0,c1,c2,c3,d0,d1,d2,d3]
theorem Xt (y:Yard) (s:Sl×Sl) (worker:Int) (d:Nat) (w:World) (hl:Cb y<=2000000) (hd:d<=1000000000) (h:Bu.rd w w y s) :
  Calls Am 25 #[Dg y s,J U worker,J U (d:Int)] w (Sq (Io y worker d) w):=by
 have HR:=Bq (show ∀ W,Below w w W->Bu.rd W W y s from fun W hW=>Bu.rd_more (Bu.rd_below h hW) hW.size);obtain ⟨⟨A1,n1,c1⟩,⟨A2,n2,c2⟩⟩:=s;have CC:=Bq (fun W hW=>Eo y (⟨A1,n1,c1⟩,⟨A2,n2,c2⟩) W hl (HR.out W hW));have CY:=Bq (fun W hW=>Fi y (⟨A1,n1,c1⟩,⟨A2,n2,c2⟩) W hl (HR.out W hW));clear h;obtain ⟨W,aG,X,RES,RP,B0⟩:=bx3 w 31 [J U y.now,J U y.seq,Aa A1 n1 c1,Aa A2 n2 c2] 31 [J U 0,J U 0,Aa Ab 0 0,Aa Ab 0 0] 69 [J U 0,J U 0,J U 0,J U 0];go_enter Tryz.func25,Tryz.ntmps25;go_wp2_with fail
 rw [<-aG.out];clear aG;have hPl:w.heap.size+1+1<W.heap.size:=RP.lt;refine (CY.out _ B0).mono ?_;rintro e1 w1 ⟨rfl,b1⟩;replace X:=X.below b1;replace RES:=RES.below b1;replace RP:=RP.below b1;have X_:=X.g4;obtain ⟨RES_0,RES_1,RES_2,RES_3,RES_l⟩:=RES.g4;obtain ⟨RP_0,RP_1,RP_2,RP_3,RP_l⟩:=RP.g4;have aN:=Bt B0 b1;have hBs:=B0.size;have mQ:=b1.size;clear B0 b1 CY;by_cases p0:Dd y;case neg =>
  have H:=Bq (show Io y worker d=(y,⟨8,0,0,0⟩) from if_pos p0);rw [Cf p0];clear p0;clear RES_0 RES_1 RES_2 RES_3 RES_l;clear RP_0 RP_1 RP_2 RP_3 RP_l;go_wp2_with fail
  refine (CC.out _ aN).mono ?_;rintro e1 w2 ⟨⟨⟨B1,m1,e1⟩,⟨B2,m2,e2⟩⟩,F,rfl,oy,nF,b2⟩;replace RES:=RES.below b2;replace RP:=RP.below b2;obtain ⟨RES_0,RES_1,RES_2,RES_3,RES_l⟩:=RES.g4;obtain ⟨RP_0,RP_1,RP_2,RP_3,RP_l⟩:=RP.g4;have rf:=RES.free;have pf:=RP.free;have aF:=Bt aN b2;go_wp2;have en1:w.heap.size+1∉F:=fun hx=>by have:=nF _ hx;omega
  have en2:w.heap.size+1+1∉F:=fun hx=>by have:=nF _ hx;omega
  have aC:w.heap.size+1+1≠w.heap.size+1:=Bl;have RES2:=DBox.row4 RES rfl (J U y.now) (J U y.seq) (Aa B1 m1 e1) (Aa B2 m2 e2);have RP2:=DBox.row4 ((((RP.setOther (a:=⟨w.heap.size+1,0,Ab⟩) aC (J U y.now)).setOther (a:=⟨w.heap.size+1,1,Ab⟩) aC (J U y.seq)).setOther (a:=⟨w.heap.size+1,2,Ab⟩) aC (Aa B1 m1 e1)).setOther (a:=⟨w.heap.size+1,3,Ab⟩) aC (Aa B2 m2 e2)) rfl (J U 8) (J U 0) (J U 0) (J U 0);have RES3:=(((RES2.setOther (a:=⟨w.heap.size+1+1,0,Ab⟩) aC.symm (J U 8)).setOther (a:=⟨w.heap.size+1+1,1,Ab⟩) aC.symm (J U 0)).setOther (a:=⟨w.heap.size+1+1,2,Ab⟩) aC.symm (J U 0)).setOther (a:=⟨w.heap.size+1+1,3,Ab⟩) aC.symm (J U 0);refine Aj (N3 RES3 RP2) rfl ⟨(⟨B1,m1,e1⟩,⟨B2,m2,e2⟩),F,by rw [H.out],by rw [H.out];exact (by (repeat (refine Dt.ow_set Bu ?_ (by first | exact en1 | exact en2) _));exact (show Bu.ow _ F y (⟨B1,m1,e1⟩,⟨B2,m2,e2⟩) from oy)),fun x hx=>by have:=nF x hx;omega,?_⟩;repeat (first | (with_reducible exact aF) | refine Ad ?_ Bo _)
 rw [Dj p0];cases p1:inB worker 0 99;case false =>
  have H:=Bq (show Io y worker d=(y,⟨5,0,0,0⟩) by unfold Io;rw [if_neg (fun h=>h p0),if_pos p1]);clear p0;clear RES_0 RES_1 RES_2 RES_3 RES_l;clear RP_0 RP_1 RP_2 RP_3 RP_l;go_wp2_with (go_at_call 58;refine (Cl _ _ _ _).mono ?_;rintro e w9 ⟨rfl,rfl⟩;rw [p1])
  refine (CC.out _ aN).mono ?_;rintro e1 w2 ⟨⟨⟨B1,m1,e1⟩,⟨B2,m2,e2⟩⟩,F,rfl,oy,nF,b2⟩;replace RES:=RES.below b2;replace RP:=RP.below b2;obtain ⟨RES_0,RES_1,RES_2,RES_3,RES_l⟩:=RES.g4;obtain ⟨RP_0,RP_1,RP_2,RP_3,RP_l⟩:=RP.g4;have rf:=RES.free;have pf:=RP.free;have aF:=Bt aN b2;go_wp2;have en1:w.heap.size+1∉F:=fun hx=>by have:=nF _ hx;omega
  have en2:w.heap.size+1+1∉F:=fun hx=>by have:=nF _ hx;omega
  have aC:w.heap.size+1+1≠w.heap.size+1:=Bl;have RES2:=DBox.row4 RES rfl (J U y.now) (J U y.seq) (Aa B1 m1 e1) (Aa B2 m2 e2);have RP2:=DBox.row4 ((((RP.setOther (a:=⟨w.heap.size+1,0,Ab⟩) aC (J U y.now)).setOther (a:=⟨w.heap.size+1,1,Ab⟩) aC (J U y.seq)).setOther (a:=⟨w.heap.size+1,2,Ab⟩) aC (Aa B1 m1 e1)).setOther (a:=⟨w.heap.size+1,3,Ab⟩) aC (Aa B2 m2 e2)) rfl (J U 5) (J U 0) (J U 0) (J U 0);have RES3:=(((RES2.setOther (a:=⟨w.heap.size+1+1,0,Ab⟩) aC.symm (J U 5)).setOther (a:=⟨w.heap.size+1+1,1,Ab⟩) aC.symm (J U 0)).setOther (a:=⟨w.heap.size+1+1,2,Ab⟩) aC.symm (J U 0)).setOther (a:=⟨w.heap.size+1+1,3,Ab⟩) aC.symm (J U 0);refine Aj (N3 RES3 RP2) rfl ⟨(⟨B1,m1,e1⟩,⟨B2,m2,e2⟩),F,by rw [H.out],by rw [H.out];exact (by (repeat (refine Dt.ow_set Bu ?_ (by first | exact en1 | exact en2) _));exact (show Bu.ow _ F y (⟨B1,m1,e1⟩,⟨B2,m2,e2⟩) from oy)),fun x hx=>by have:=nF x hx;omega,?_⟩;repeat (first | (with_reducible exact aF) | refine Ad ?_ Bo _)
 have pp:=Cv.1 p1;have HP:=Bq p0;obtain ⟨wk,rfl⟩:=Ap pp.1;have hm:((wk:Int).tmod 4)=((wk % 4:Nat):Int):=by rw [Int.tmod_eq_emod_of_nonneg Bl];omega
 have hmw:U.wrap ((wk % 4:Nat):Int)=((wk % 4:Nat):Int):=Aq _ Bl;have pM:(wk:Int) % 4=((wk % 4:Nat):Int):=Bl;have hh:=Nat.mod_lt wk (show 0<4 by decide);have H:=Bq (show Io y wk d=M6 (Lb y ((wk % 4:Nat):Int) d) (wk % 4) by unfold Io;rw [if_neg (fun h=>h p0),if_neg (by rw [p1];simp),pM,Ao]);have aZ:=Pol.start p0 hh;have h4:=p0.2.2.1;clear p0 pp pM;generalize wk % 4=home at *
 have CS:=Bq (fun W hW=>Op y (⟨A1,n1,c1⟩,⟨A2,n2,c2⟩) home W Bl hl (HR.out W hW));have CV:=Bq (fun W=>Sh home d W hh hd);have HG:Hid (Lb y (home:Int) d=(D9 home d).foldl (Ea home) (Bz y home)):=by
  show Lb y (home:Int) d=_;unfold Lb;rw [Ao]
 clear RES_0 RES_1 RES_2 RES_3 RES_l;clear RP_0 RP_1 RP_2 RP_3 RP_l;go_wp2_with (go_at_call 58;refine (Cl _ _ _ _).mono ?_;rintro e w9 ⟨rfl,rfl⟩;rw [p1])
 refine (CS.out _ aN).mono ?_;rintro e1 w2 ⟨s2,F,rfl,oy,nF,b2⟩;clear X_;clear X CC HR CS;replace RES:=RES.below b2;replace RP:=RP.below b2;have aF:=Bt aN b2;have hb2s:=b2.size;clear aN b2 hm hmw;have cH:=Bu.ow_lt oy;have kU:Hid (Bz y home=Bz y home):=rfl;go_upto_region 7 with fail
 have OB:=DBox.new 31 (Eh (Bz y home) s2) w2 (b:=w2.heap.size) rfl;have b3:Below w2 w2 (w2.alloc (.cells (Eh (Bz y home) s2).toArray 31)):=(Br _ _).alloc (Bs _) _;replace RES:=RES.below b3;replace RP:=RP.below b3;replace oy:=Bu.ow_below oy b3;have cA:=Bt aF b3;have hb3s:=b3.size;have jU:=OB.lt;have hPl2:w.heap.size+1+1<w2.heap.size:=Bl;generalize w2.alloc (.cells (Eh (Bz y home) s2).toArray 31)=w3 at *
 go_wp2_with fail
 refine (CV.out _).mono ?_;rintro e1 w4 ⟨v,rfl,ov,b4⟩;replace RES:=RES.below b4;replace RP:=RP.below b4;replace OB:=OB.below b4;replace oy:=Bu.ow_below oy b4;have bR:=Bt cA b4;obtain ⟨fI,rZ⟩:=Hw.of_ow ov;obtain ⟨A9,c9,rfl,-⟩:=id (Rd.of_own ov);have rI:=Rj home d;have nZ:=Bq (O7 (home:=(home:Int)) (draw:=d));have nB:=Bq (show ∀ v∈D9 home d,v≠home from fun v hv=>by have:=O8 (home:=(home:Int)) (draw:=d) Bl Bl v hv;omega);have cJ:w2.heap.size<w3.heap.size:=jU;have aC:∀ x∈Dz (Aa A9 (D9 home d).length c9) (D9 home d).length,x∉F/\w2<x:=fun x hx=>⟨fun hF=>by have h1:=rZ x hx;have h2:=cH x hF;omega,by have:=rZ x hx;omega⟩
 have fV:(∀ x∈F,w.heap.size+1+1<x)/\w2.heap.size∉F:=⟨fun x hx=>by have:=nF x hx;omega,fun hx=>by have:=cH _ hx;omega⟩
 generalize Dz (Aa A9 (D9 home d).length c9) (D9 home d).length=Fv at *
 generalize D9 home d=L at *
 rw [rI] at fI;rw [rI];generalize Bz y home=Z0 at *
 have sS:w.heap.size+1+1<w2.heap.size:=hPl2;generalize w2.heap.size=ob at *
 clear cH nF rZ;go_wp2;go_loopw [11,12,13,42] (fun u0 u1 u2 i wr=>∃ (k:Nat) (s:Sl×Sl) (F:List Nat),k<=3/\i = J U k/\Hid (Pol y home ((L.take k).foldl (Ea home) Z0))/\Hid (Bu.ow wr F ((L.take k).foldl (Ea home) Z0) s)/\Hid ((∀ x∈F,w.heap.size+1+1<x)/\ob∉F /\ ∀ x∈Fv,x∉F)/\Hid (Hw Ec wr Fv (Aa A9 3 c9) L)/\DBox ob (Eh ((L.take k).foldl (Ea home) Z0) s) wr/\DBox (w.heap.size+1) [J U 0,J U 0,Aa Ab 0 0,Aa Ab 0 0] wr/\DBox (w.heap.size+1+1) [J U 0,J U 0,J U 0,J U 0] wr/\Below w w wr) (fun _ _ _ i _=>3 - (intOf i).toNat);case atStart=>exact ⟨0,s2,F,Nat.zero_le _,rfl,aZ,oy,⟨fV.1,fV.2,fun x hx=>(aC x hx).1⟩,fI,OB,RES,RP,bR⟩
 case round =>
  have rN:∀ x∈Fv,ob<x:=fun x hx=>(aC x hx).2;clear aZ oy fV fI OB RES RP bR aC ov b4;obtain ⟨k,s,F,hk,rfl,aZ,oy,hF,fI,OB,RES,RP,hb⟩:=hrel;have aE:Hid (∀ h:k<L.length,(L.take (k+1)).foldl (Ea home) Z0=Ea home ((L.take k).foldl (Ea home) Z0) L[k]):=fun h=>J2 (Ea home) Z0 L k h;have dE:Hid ((k=3 \/ ¬ (((L.take k).foldl (Ea home) Z0).shelf.getD home []).length=0)->L.foldl (Ea home) Z0=(L.take k).foldl (Ea home) Z0):=by
   intro h;rcases h with h | h
   ·rw [Bg Bl]
   ·have e:L.foldl (Ea home) Z0=(L.drop k).foldl (Ea home) ((L.take k).foldl (Ea home) Z0):=by
     rw [<-List.foldl_append,List.take_append_drop]
    rw [e];exact Lx _ _ h
  generalize (L.take k).foldl (Ea home) Z0=Zk at *
  obtain ⟨⟨B1,m1,e1⟩,⟨B2,m2,e2⟩⟩:=s;have sC:=aZ.out.four;have oyr:=Bu.ow_rd oy.out;have mE:home<Zk.shelf.length:=Bl;obtain rfl:m1=4:=(RdL.at1 (s:=⟨B1,m1,e1⟩) oyr.1).trans sC;obtain ⟨g,o,⟨xa,xn,xc⟩,rfl,fS,eV,ch⟩:=RdL.entryS (show RdL (Dt.list Bx) wr wr.heap.size (Aa B1 4 e1) Zk.shelf from oyr.1) mE;obtain rfl:xn=Zk.shelf[home].length:=RdL.at1 (s:=⟨xa,xn,xc⟩) eV;have hhI:(home:Int)<4:=Bl;have hh0:(0:Int)<=(home:Int):=Bl;have pZ:=aZ.out.all _ (Aw mE);obtain ⟨OB_0,OB_1,OB_2,OB_3,OB_l⟩:=OB.g4;have cU:=Bq (Fz mE);have hwrs:=hb.size;have hRPl:=RP.lt;have hobl:=OB.lt;rcases (show (k<3/\Zk.shelf[home].length=0)\/(k<3 /\ ¬ Zk.shelf[home].length=0) \/ ¬ k<3 by by_cases k<3<;>by_cases Zk.shelf[home].length=0<;>simp [*]) with ⟨aA,hq⟩ | ⟨aA,hq⟩ | aA
  ·have aB:(k:Int)<3:=Bl
   ·have qT:((Zk.shelf[home].length:Int) == 0)=true:=by simp [hq]
    have mX:k<L.length:=Bl;have hv4:L[k]<4:=nZ.out _ (Aw mX);have jF:L[k]≠home:=nB.out _ (Aw mX);obtain ⟨gv,ov,rfl,hgv,cv⟩:=fI.out.rd.nat mX;replace aE:=Bq (aE.out mX);have bF:=fI.out.block Bl;generalize L[k]=v at *
    have hP1:Hid (Pol y home (J4 home Zk v)):=by
     have h1:=aZ.out.step hh hv4 jF;rw [Mf (by rw [cU.out];exact hq) jF] at h1;exact h1
    replace aE:=Bq (aE.out.trans (Mf (by rw [cU.out];exact hq) jF));have hE0:=Bq (show (Bz Zk v).shelf.getD home []=[] by rw [Qt jF,cU.out];exact List.eq_nil_of_length_eq_zero hq);have gE:=fI.out.lt;have hvI:(v:Int)<4:=Bl;have hv0:(0:Int)<=(v:Int):=Bl;have dB:(0:Int)<=(k:Int):=Bl;have hzc:=aZ.out.cnt HP.out;have CS:=Bq (Op Zk (⟨Ac ⟨g,o,Ab⟩,4,e1⟩,⟨B2,m2,e2⟩) v wr Bl hzc oyr);go_wp2_with fail
    clear hq;refine CS.out.mono ?_;rintro e w2 ⟨⟨⟨C1,p1,f1⟩,⟨C2,p2,f2⟩⟩,F2,rfl,oy2,n2,b2⟩;have OB2:=OB.below b2;have k0:=OB2.cell 0 _ rfl;have k1:=OB2.cell 1 _ rfl;have k2:=OB2.cell 2 _ rfl;have k3:=OB2.cell 3 _ rfl;have kf:=OB2.free;have kl:=OB2.lt;go_upto_region 12 with fail
    have b2':Below wr wr w2:=b2;clear k0 k1 k2 k3 kf kl;have OB3:=DBox.row4 OB2 rfl (J U (Bz Zk v).now) (J U (Bz Zk v).seq) (Aa C1 p1 f1) (Aa C2 p2 f2);have dP:=Chg.cells4 w2 ob 0 1 2 3 (J U (Bz Zk v).now) (J U (Bz Zk v).seq) (Aa C1 p1 f1) (Aa C2 p2 f2);have eG:=Bq (show ∀ x,x∈[ob]->x=ob from fun x hx=>by simpa using hx);have RES3:=(RES.below b2').chg dP (fun hx=>by have:=eG.out _ hx;omega);have RP3:=(RP.below b2').chg dP (fun hx=>by have:=eG.out _ hx;omega);have dN:=(fI.out.below b2').chg dP (fun x hx hx2=>by have h1:=eG.out _ hx2;have h2:=rN x hx;omega);have eJ:ob∉F2:=fun hx=>by have h1:=n2 _ hx;have h3:=OB_l;omega
    have oy3:=Bu.ow_chg (F:=F2) (x:=Bz Zk v) (s:=(⟨C1,p1,f1⟩,⟨C2,p2,f2⟩)) oy2 dP (fun x hx hx2=>by have:=eG.out _ hx2;subst this;exact eJ hx);have cA:Below w w _:=(Bt hb b2').trans (dP.below (by have:=b2'.size;omega) (fun x hx=>by have:=eG.out _ hx;omega));have fW:∀ x∈F2,wr<=x:=n2;have eL:=b2'.size;have jP:=dP.size;replace cv:=(dP.cell (p:=⟨gv,_,Ab⟩) (by show gv<w2;omega) (fun hx=>by have h1:gv=ob:=eG.out _ hx;have h2:=rN gv (by rw [bF.1];simp);omega)).trans ((b2'.cell (p:=⟨gv,_,Ab⟩) (by show gv<wr;omega)).trans cv);have pG:∀ x∈F2,w.heap.size+1+1<x:=fun x hx=>by have h1:=fW x hx;have h2:=RP.lt;omega
    clear OB_0 OB_1 OB_2 OB_3 OB_l;clear OB RES RP fI oy oy2 n2 b2 b2' hb OB2 oyr eV ch hF CS;generalize (((w2.setCell ⟨ob,0,Ab⟩ (J U (Bz Zk v).now)).setCell ⟨ob,1,Ab⟩ (J U (Bz Zk v).seq)).setCell ⟨ob,2,Ab⟩ (Aa C1 p1 f1)).setCell ⟨ob,3,Ab⟩ (Aa C2 p2 f2)=w3 at *
    have OB:=OB3;clear OB3;obtain ⟨OB_0,OB_1,OB_2,OB_3,OB_l⟩:=OB.g4;have h41:(Bz Zk v).shelf.length=4:=by rw [Me];exact sC
    have oyr3:=Bu.ow_rd (F:=F2) (x:=Bz Zk v) oy3;obtain rfl:p1=4:=(RdL.at1 (s:=⟨C1,p1,f1⟩) oyr3.1).trans h41;have jA:v<(Bz Zk v).shelf.length:=Bl;obtain ⟨g2,o2,⟨va,vn,vc⟩,rfl,kN,vA,cv2⟩:=RdL.entryS (show RdL (Dt.list Bx) w3 w3.heap.size (Aa C1 4 f1) (Bz Zk v).shelf from oyr3.1) jA;have jZ:=N1 (i:=v) aZ.out.all;have gQ:=jZ _ (Aw jA);have CH:=Bq (W9 (Bz Zk v).shelf[v] ⟨va,vn,vc⟩ w3 Bl vA);have hgvw:gv<w3:=Bl;go_wp2_with fail
    refine CH.out.mono ?_;rintro e w4 ⟨⟨qa1,qn1,qc1⟩,Fh1,⟨qa2,qn2,qc2⟩,Fh2,rfl,oh1,oh2,nh1,nh2,dh,b4⟩;go_upto_region 13 with fail
    have b4':Below w3 w3 w4:=b4;have kY:=b4'.size;have hnh1:∀ x∈Fh1,w3<=x:=nh1;have kT:∀ x∈Fh2,w3<=x:=nh2;replace oy3:Bu.ow w3 F2 (Bz Zk v) (⟨Ac ⟨g2,o2,Ab⟩,4,f1⟩,⟨C2,p2,f2⟩):=oy3;have hfl2:=Bu.ow_lt (F:=F2) (x:=Bz Zk v) (s:=(⟨Ac ⟨g2,o2,Ab⟩,4,f1⟩,⟨C2,p2,f2⟩)) oy3;clear OB_0 OB_1 OB_2 OB_3 OB_l;replace OB:=OB.below b4';replace RES3:=RES3.below b4';replace RP3:=RP3.below b4';replace dN:=dN.below b4';replace oy3:Bu.ow w4 F2 (Bz Zk v) (⟨Ac ⟨g2,o2,Ab⟩,4,f1⟩,⟨C2,p2,f2⟩):=owB oy3 b4';replace cA:=Bt cA b4';replace cv:=(b4'.cell (p:=⟨gv,_,Ab⟩) (by show gv<w3;omega)).trans cv;replace cv2:=(b4'.cell (p:=⟨g2,_,Ab⟩) (by show g2<w3;omega)).trans cv2;clear nh1 nh2 b4 b4' CH oyr3 vA;obtain ⟨OB_0,OB_1,OB_2,OB_3,OB_l⟩:=OB.g4;have jY:∀ j,w4.frozen? ⟨g2,j,Ab⟩=false:=by
     obtain ⟨G1,G2,_,_,os,_⟩:=oy3;exact OwL.free0 (show OwL (Dt.list Bx) w4 G1 (Aa (Ac ⟨g2,o2,Ab⟩) 4 f1) (Bz Zk v).shelf from os) Bl
    have mD:g2<w4:=Bl;have uM:(Bz Zk v).shelf[home]' Bl=[]:=by
     have h1:=hE0.out;rw [Fz Bl] at h1;exact h1
    have uE:=Bq (show J4 home Zk v=⟨(Bz Zk v).now,(Bz Zk v).seq,((Bz Zk v).shelf.set home (Fu [] ((Bz Zk v).shelf[v].take (Cx (Bz Zk v).shelf[v])))).set v ((Bz Zk v).shelf[v].drop (Cx (Bz Zk v).shelf[v])),(Bz Zk v).runs⟩ by
     unfold J4;rw [Fz jA,List.set_comm _ _ jF];rfl)
    obtain ⟨_,_,⟨xa2,xn2,xc2⟩,cP,_,jJ,cx⟩:=RdL.entryS (show RdL (Dt.list Bx) w4 w4.heap.size (Aa (Ac ⟨g2,o2,Ab⟩) 4 f1) (Bz Zk v).shelf from (Bu.ow_rd (F:=F2) (x:=Bz Zk v) oy3).1) (k:=home) Bl;simp only [Option.some.injEq,Addr.mk.injEq,and_true] at cP;obtain ⟨rfl,rfl⟩:=cP;replace jJ:RdL Bx w4 w4 (Aa xa2 xn2 xc2) ((Bz Zk v).shelf[home]' Bl):=jJ;rw [uM] at jJ;obtain rfl:xn2=0:=RdL.at1 (s:=⟨xa2,xn2,xc2⟩) jJ;have eN:((Bz Zk v).shelf[v].take (Cx (Bz Zk v).shelf[v])).length<=80:=Lw _ gQ;have CM:=Bq (Uh [] ((Bz Zk v).shelf[v].take (Cx (Bz Zk v).shelf[v])) ⟨xa2,0,xc2⟩ ⟨qa1,qn1,qc1⟩ w4.drew Bn Bl (RdL.below jJ (Br _ _).drew) (RdL.below oh1.rd (Br _ _).drew));have hobw4:ob<w4:=OB_l;have hobF2':=eJ;clear uM jJ gQ;generalize (Bz Zk v).shelf[v].take (Cx (Bz Zk v).shelf[v])=lt_ at *
    generalize hlr:(Bz Zk v).shelf[v].drop (Cx (Bz Zk v).shelf[v])=lr_ at *
    replace hlr:=Bq hlr;refine Cz (fun w'=>w'.cell? ⟨ob,2,Ab⟩=Ac (Aa (Ac ⟨g2,o2,Ab⟩) 4 f1)/\w'.cell? ⟨g2,o2+home,Ab⟩=Ac (Aa xa2 0 xc2)) 11 Bm ?_ (fun hHeld=>?_)
    ·exact ⟨OB_2,cx⟩
    refine aT 0 hHeld ?_;try simp only [pS]
    refine aT 1 hHeld ?_;try simp only [pS]
    refine aT 2 hHeld ?_;try simp only [pS]
    refine aT 3 hHeld ?_;try simp only [pS]
    refine aT 4 hHeld ?_;try simp only [pS]
    refine aT 5 hHeld ?_;try simp only [pS]
    refine aT 6 hHeld ?_;try simp only [pS]
    refine aT 7 hHeld ?_;try simp only [pS]
    refine aT 8 hHeld ?_;try simp only [pS]
    refine oT 9 (fun K hK=>?_)
    (go_simp;refine CM.out.mono ?_;rintro e w6 ⟨⟨ma,mn,mc⟩,Fm,rfl,om,nm,b6⟩;have hgc:w6.cell? ⟨g2,o2+home,Ab⟩=Ac (Aa xa2 0 xc2):=(b6.cell (p:=⟨_,_,Ab⟩) (by show g2<w4;omega)).trans cx;have pR:∀ j,w6.frozen? ⟨g2,j,Ab⟩=false:=fun j=>(b6.frozen (p:=⟨_,_,Ab⟩) (by show g2<w4;omega)).trans (jY j))
    have HSx:w6.cell? ⟨ob,2,Ab⟩=Ac (Aa (Ac ⟨g2,o2,Ab⟩) 4 f1)/\w6.cell? ⟨g2,o2+home,Ab⟩=Ac (Aa xa2 0 xc2):=⟨(b6.cell (p:=⟨_,_,Ab⟩) (by show ob<w4;omega)).trans OB_2,hgc⟩
    refine hK.out _ _ (fun _=>HSx) ?_;clear hK K;try simp only [pS]
    refine oT 10 (fun K hK=>?_);go_simp;refine hK.out _ _ (fun _=>HSx) ?_;clear hK K;try simp only [pS]
    refine oT 11 (fun K hK=>?_);go_simp;refine hK.out _ _ (fun aC=>absurd rfl aC) ?_;clear hK K HSx;try simp only [pS]
    refine Dr Bm ?_ _;have b6':Below w4 w4 w6:=Bt (Br _ _).drew b6;have nP:=b6'.size;have sN:∀ x∈Fm,w4<=x:=nm;have gR:=Bu.ow_lt (F:=F2) (x:=Bz Zk v) (s:=(⟨Ac ⟨g2,o2,Ab⟩,4,f1⟩,⟨C2,p2,f2⟩)) oy3;have oy6:=Bu.ow_below (F:=F2) (x:=Bz Zk v) (s:=(⟨Ac ⟨g2,o2,Ab⟩,4,f1⟩,⟨C2,p2,f2⟩)) oy3 b6';have oh2':=oh2.below b6';obtain ⟨F5,oy5,hF5,jL⟩:=Fg oy6 (i:=home) Bl (l:=Fu [] lt_) (t:=⟨ma,mn,mc⟩) om (fun x hx bF=>by have h1:=sN x hx;have h2:=gR x bF;omega);have dG:Chg [g2] w6 (w6.setCell ⟨g2,o2+home,Ab⟩ (Aa ma mn mc)):=Chg.setCell w6 g2 _ _;have bM:=Bq (show ∀ x,x∈[g2]->x=g2 from fun x hx=>by simpa using hx);have hg2gt:=pG _ jL;have hg2n:=fW _ jL;have eB:ob≠g2:=fun h=>eJ (by rw [h];exact jL);clear OB_0 OB_1 OB_2 OB_3 OB_l;replace OB:=(OB.below b6').chg dG (fun hx=>eB (bM.out _ hx));replace RES3:=(RES3.below b6').chg dG (fun hx=>by have:=bM.out _ hx;omega);replace RP3:=(RP3.below b6').chg dG (fun hx=>by have:=bM.out _ hx;omega);replace dN:=(dN.below b6').chg dG (fun x hx hx2=>by have h1:=bM.out _ hx2;have h2:=gE x hx;omega);have oh3:=oh2'.chg dG (fun x hx hx2=>by have h1:=bM.out _ hx2;have h2:=kT x hx;omega);replace cA:=(Bt cA b6').trans (dG.below (by have:=(Bt cA b6').size;omega) (fun x hx=>by have:=bM.out _ hx;omega));have hfg5:∀ j,(w6.setCell ⟨g2,o2+home,Ab⟩ (Aa ma mn mc)).frozen? ⟨g2,j,Ab⟩=false:=fun j=>(Ig w6 _ _ _).trans (pR j);have pP:=dG.size;have hFm5:∀ x∈Fh2,x<w4:=fun x hx=>oh2.lt x hx;clear dG hHeld oy3 oy6 oh1 oh2 oh2' jY cv cv2 b6 b6' nm om CM cx hgc pR;generalize w6.setCell ⟨g2,o2+home,Ab⟩ (Aa ma mn mc)=w5 at *
    replace oy5:Bu.ow w5 F5 ⟨(Bz Zk v).now,(Bz Zk v).seq,(Bz Zk v).shelf.set home (Fu [] lt_),(Bz Zk v).runs⟩ (⟨Ac ⟨g2,o2,Ab⟩,4,f1⟩,⟨C2,p2,f2⟩):=oy5;obtain ⟨_,_,⟨xa3,xn3,xc3⟩,cP,_,_,cx3⟩:=RdL.entryS (show RdL (Dt.list Bx) w5 w5.heap.size (Aa (Ac ⟨g2,o2,Ab⟩) 4 f1) ((Bz Zk v).shelf.set home (Fu [] lt_)) from (Bu.ow_rd (F:=F5) (x:=⟨(Bz Zk v).now,(Bz Zk v).seq,(Bz Zk v).shelf.set home (Fu [] lt_),(Bz Zk v).runs⟩) oy5).1) (k:=v) (by rw [Bh];omega);simp only [Option.some.injEq,Addr.mk.injEq,and_true] at cP;obtain ⟨rfl,rfl⟩:=cP;obtain ⟨F7,oy7,rR,-⟩:=Fg oy5 (i:=v) (by show v<(List.set _ _ _).length;rw [Bh];omega) (l:=lr_) (t:=⟨qa2,qn2,qc2⟩) oh3 (fun x hx bF=>by
     rcases hF5 x bF with h | h
     ·have h1:=kT x hx;have h2:=hfl2 x h;omega
     ·have h1:=hFm5 x hx;have h2:=sN x h;omega)
    have gA:Chg [g2] w5 (w5.setCell ⟨g2,o2+v,Ab⟩ (Aa qa2 qn2 qc2)):=Chg.setCell w5 g2 _ _;have hg2w5:g2<w5:=Bl;obtain ⟨OB_0,OB_1,OB_2,OB_3,OB_l⟩:=OB.g4;go_upto_region 15 with fail
    clear OB_0 OB_1 OB_2 OB_3 OB_l;replace OB:=OB.chg gA (fun hx=>eB (bM.out _ hx));replace RES3:=RES3.chg gA (fun hx=>by have:=bM.out _ hx;omega);replace RP3:=RP3.chg gA (fun hx=>by have:=bM.out _ hx;omega);replace dN:=dN.chg gA (fun x hx hx2=>by have h1:=bM.out _ hx2;have h2:=gE x hx;omega);replace cA:=cA.trans (gA.below (by have:=cA.size;omega) (fun x hx=>by have:=bM.out _ hx;omega));have kA:∀ x∈F7,x∈F2\/w3<=x:=fun x hx=>by
     rcases rR x hx with h | h
     ·rcases hF5 x h with h' | h'
      ·exact .inl h'
      ·right;have:=sN x h';omega
     ·exact .inr (kT x h)
    clear oy5 gA cx3 hfg5;generalize w5.setCell ⟨g2,o2+v,Ab⟩ (Aa qa2 qn2 qc2)=w7 at *
    go_wp2;exact ⟨⟨k+1,(⟨Ac ⟨g2,o2,Ab⟩,4,f1⟩,⟨C2,p2,f2⟩),F7,Bl,by go_num,by rw [aE.out];exact hP1,by rw [aE.out,uE.out];exact oy7,⟨fun x hx=>by (rcases kA x hx with h | h);exact pG x h;omega,fun hx=>by (rcases kA _ hx with h | h);exact eJ h;omega,fun x hx bF=>by have h1:=gE x hx;(rcases kA x bF with h | h);have:=fW x h;omega;omega⟩,dN,by rw [aE.out,uE.out];exact OB,RES3,RP3,cA⟩,by simp [intOf];omega⟩
  have aB:(k:Int)<3:=Bl;have qT:(0:Int)<(Zk.shelf[home].length:Int):=Bl;have hqn:0<Zk.shelf[home].length:=Bl;have hqe:¬ Zk.shelf[home]=[]:=fun h=>hq (by rw [h];rfl);have mX:k<L.length:=Bl;obtain ⟨gv,ov,rfl,hgv,cv⟩:=fI.out.rd.nat mX;have dB:(0:Int)<=(k:Int):=Bl;generalize L[k]=v at *
  replace dE:=Bq (dE.out (.inr (by rw [cU.out];exact hq)));clear hq;rotate_left;have aB:¬ (k:Int)<3:=Bl;have qT:True:=trivial;replace dE:=Bq (dE.out (.inl Bl));all_goals
   have HZ:=Bq (show Io y (wk:Int) d=M6 Zk home by rw [H.out,HG.out,dE.out]);have kC:∀ e∈Zk.shelf[home],Tn Zk e:=fun e he=>by
    have h1:=aZ.out.fresh e (by rw [cU.out];exact he);rw [<-Nl aZ.out.runs] at h1;exact Lq.1 h1
   replace eV:RdL Bx wr wr (Aa xa Zk.shelf[home].length xc) Zk.shelf[home]:=eV;have pW:=aZ.out.all _ (Aw mE);have qA:Hid (M6 Zk home=Rk Zk home Zk.shelf[home]):=by
    show M6 Zk home=_;unfold M6;rw [cU.out]
   have CT:=Bq (Pr Zk.shelf[home] ⟨xa,Zk.shelf[home].length,xc⟩ wr Bl eV);clear aE cU fI nZ nB kU rN H HG dE;generalize Zk.shelf[home]=SH at *
   go_wp2_with fail
   refine CT.out.mono ?_
   (try clear hqe)
   (try clear hqn)
   (try clear qT)
   have qT:True:=trivial;rintro e9 w2 ⟨⟨ta,tn,tc⟩,Ft,rfl,ot,nt,b2⟩;replace oy:Bu.ow wr F Zk (⟨Ac ⟨g,o,Ab⟩,4,e1⟩,⟨B2,m2,e2⟩):=oy.out;have pQ:=Bu.ow_lt (F:=F) (x:=Zk) (s:=(⟨Ac ⟨g,o,Ab⟩,4,e1⟩,⟨B2,m2,e2⟩)) oy;replace oy:Bu.ow w2 F Zk (⟨Ac ⟨g,o,Ab⟩,4,e1⟩,⟨B2,m2,e2⟩):=owB oy b2;clear OB_0 OB_1 OB_2 OB_3 OB_l;replace OB:=OB.below b2;replace RES:=RES.below b2;replace RP:=RP.below b2;have aF:=Bt hb b2;have eL:=b2.size;clear b2 CT ch eV hb oyr;have aC:w.heap.size+1+1≠w.heap.size+1:=Bl;cases SH with
   | nil =>
    have HF:=Bq (HZ.out.trans qA.out);clear HZ qA kC ot;have EB0:Below w2 w2 (w2.alloc (.cells #[J U 0,J U 0,J U 0,J U 0] 93)):=(Br _ _).alloc (Bs _) _;go_upto_region 17 with fail
    replace oy:Bu.ow _ F Zk (⟨Ac ⟨g,o,Ab⟩,4,e1⟩,⟨B2,m2,e2⟩):=owB oy EB0;replace OB:=OB.below EB0;replace RES:=RES.below EB0;replace RP:=RP.below EB0;replace aF:=Bt aF EB0;clear EB0;generalize w2.alloc (.cells #[J U 0,J U 0,J U 0,J U 0] 93)=w3 at *
    obtain ⟨OB_0,OB_1,OB_2,OB_3,OB_l⟩:=OB.g4;obtain ⟨RES_0,RES_1,RES_2,RES_3,RES_l⟩:=RES.g4;obtain ⟨RP_0,RP_1,RP_2,RP_3,RP_l⟩:=RP.g4;have rf:=RES.free;have pf:=RP.free;go_wp2;have en1:w.heap.size+1∉F:=fun hx=>by have:=hF.out.1 _ hx;omega
    have en2:w.heap.size+1+1∉F:=fun hx=>by have:=hF.out.1 _ hx;omega
    have RES2:=DBox.row4 RES rfl (J U Zk.now) (J U Zk.seq) (Aa (Ac ⟨g,o,Ab⟩) 4 e1) (Aa B2 m2 e2);have RP2:=DBox.row4 ((((RP.setOther (a:=⟨w.heap.size+1,0,Ab⟩) aC (J U Zk.now)).setOther (a:=⟨w.heap.size+1,1,Ab⟩) aC (J U Zk.seq)).setOther (a:=⟨w.heap.size+1,2,Ab⟩) aC (Aa (Ac ⟨g,o,Ab⟩) 4 e1)).setOther (a:=⟨w.heap.size+1,3,Ab⟩) aC (Aa B2 m2 e2)) rfl (J U 9) (J U 0) (J U 0) (J U 0);have RES3:=(((RES2.setOther (a:=⟨w.heap.size+1+1,0,Ab⟩) aC.symm (J U 9)).setOther (a:=⟨w.heap.size+1+1,1,Ab⟩) aC.symm (J U 0)).setOther (a:=⟨w.heap.size+1+1,2,Ab⟩) aC.symm (J U 0)).setOther (a:=⟨w.heap.size+1+1,3,Ab⟩) aC.symm (J U 0);refine Aj (N3 RES3 RP2) rfl ⟨(⟨Ac ⟨g,o,Ab⟩,4,e1⟩,⟨B2,m2,e2⟩),F,by rw [HF.out];rfl,by rw [HF.out];exact (by (repeat (refine Dt.ow_set Bu ?_ (by first | exact en1 | exact en2) _));exact (show Bu.ow _ F Zk (⟨Ac ⟨g,o,Ab⟩,4,e1⟩,⟨B2,m2,e2⟩) from oy)),fun x hx=>by have:=hF.out.1 x hx;omega,?_⟩;repeat (first | (with_reducible exact aF) | refine Ad ?_ Bo _)
   | cons e rest =>
    obtain ⟨pB,⟨gD,qS⟩,dM⟩:=kC e (List.mem_cons_self ..);obtain ⟨pr,sq,rn,tk⟩:=e;dsimp only at pB gD qS dM;obtain ⟨t,rfl⟩:=Ap gD;rcases Ek Zk rn with gH | ⟨j,hj,gH⟩
    ·exact absurd pB Bl
    have cX:=Gf hj gH;rw [cX] at qS dM;have uZ:j<y.runs.length:=by rw [<-aZ.out.runs];exact hj
    have rM:Hid (Gn Zk.runs[j]):=by
     have e:Zk.runs[j]=y.runs[j]:=by simp only [aZ.out.runs]
     show Gn Zk.runs[j];rw [e];exact D7 HP.out uZ
    have HF:=Bq (HZ.out.trans (qA.out.trans (show _=((⟨Zk.now,Zk.seq,Zk.shelf.set home rest,Zk.runs.set j (Du Zk.runs[j] t Zk.now)⟩:Yard),(⟨0,rn,t,(Cs Zk.runs[j] t).try_+1⟩:Reply)) by show Rk _ _ (_ :: _)=_;unfold Rk;dsimp only;rw [gH,cX,Ao,Ao])));have fY:=Bq (show 0<=Zk.now/\Zk.now<=999999980 by rw [aZ.out.now];exact HP.out.1);have hrun8:Zk.runs.length<=8:=by rw [aZ.out.runs];exact HP.out.2.2.2.2.2.2.1
    have eN:t<Zk.runs[j].tasks.length:=Bl;have sL:=Cr eN;have pA:=Bq (show Da ⟨Zk.now,Zk.seq,Zk.shelf.set home rest,Zk.runs⟩ rn=j from (Mr (y:=Zk) rfl rn).trans gH);have uX:=Bq (show Cb ⟨Zk.now,Zk.seq,Zk.shelf.set home rest,Zk.runs⟩<=2000000 by
     have:=N0 (y:=⟨Zk.now,Zk.seq,Zk.shelf.set home rest,Zk.runs⟩) (M:=80) (by simpa using sC) (fun s hs=>by
      rcases List.mem_or_eq_of_mem_set hs with h | h
      ·exact aZ.out.all s h
      ·subst h;simp at pW;omega) hrun8 (fun k hk=>by
       have bJ:k<y.runs.length:=by rw [<-aZ.out.runs];exact hk
       have e:Zk.runs[k]=y.runs[k]:=by simp only [aZ.out.runs]
       show Gn Zk.runs[k];rw [e];exact D7 HP.out bJ)
     omega)
    clear HZ qA kC gH cX pB gD qS dM uZ pZ qT;replace ot:OwL Bx w2 Ft (Aa ta tn tc) rest:=ot;have eT:∀ x∈Ft,wr<=x/\x<w2:=fun x hx=>⟨nt x hx,ot.lt x hx⟩
    have EB:=DBox.new 93 [J U pr,J U sq,J U rn,J U (t:Int)] w2 (b:=w2.heap.size) rfl;have EB0:Below w2 w2 (w2.alloc (.cells #[J U pr,J U sq,J U rn,J U (t:Int)] 93)):=(Br _ _).alloc (Bs _) _;go_upto_region 17 with fail
    replace oy:Bu.ow _ F Zk (⟨Ac ⟨g,o,Ab⟩,4,e1⟩,⟨B2,m2,e2⟩):=owB oy EB0;replace ot:=ot.below EB0;replace OB:=OB.below EB0;replace RES:=RES.below EB0;replace RP:=RP.below EB0;replace aF:=Bt aF EB0;clear nt EB0;generalize w2.alloc (.cells #[J U pr,J U sq,J U rn,J U (t:Int)] 93)=w3 at *
    have hebl:=EB.lt;generalize w2.heap.size=eb at *
    obtain ⟨OB_0,OB_1,OB_2,OB_3,OB_l⟩:=OB.g4;have EB_:=EB.g4;replace oy:Bu.ow w3 F Zk (⟨Ac ⟨g,o,Ab⟩,4,e1⟩,⟨B2,m2,e2⟩):=oy;have jY:∀ j,w3.frozen? ⟨g,j,Ab⟩=false:=by
     obtain ⟨G1,G2,_,_,os,_⟩:=oy;exact OwL.free0 (show OwL (Dt.list Bx) w3 G1 (Aa (Ac ⟨g,o,Ab⟩) 4 e1) Zk.shelf from os) Bl
    obtain ⟨_,_,⟨xa3,xn3,xc3⟩,cP,rS,_,ch⟩:=RdL.entryS (show RdL (Dt.list Bx) w3 w3.heap.size (Aa (Ac ⟨g,o,Ab⟩) 4 e1) Zk.shelf from (Bu.ow_rd (F:=F) (x:=Zk) oy).1) mE;simp only [Option.some.injEq,Addr.mk.injEq,and_true] at cP;obtain ⟨rfl,rfl⟩:=cP;obtain ⟨F4,oy4,tT,eI⟩:=Fg oy mE (l:=rest) (t:=⟨ta,tn,tc⟩) ot (fun x hx bF=>by have h1:=(eT x hx).1;have h2:=pQ x bF;omega);go_upto_region 20 with fail
    have eE:Chg [g] w3 (w3.setCell ⟨g,o+home,Ab⟩ (Aa ta tn tc)):=Chg.setCell w3 g _ _;have bM:=Bq (show ∀ x,x∈[g]->x=g from fun x hx=>by simpa using hx);have hgF2:=hF.out.1 g eI;have eB:ob≠g:=fun h=>hF.out.2.1 (by rw [h];exact eI);clear OB_0 OB_1 OB_2 OB_3 OB_l;clear EB_;replace OB:=OB.chg eE (fun hx=>eB (bM.out _ hx));replace EB:=EB.chg eE (fun hx=>by have:=bM.out _ hx;omega);replace RES:=RES.chg eE (fun hx=>by have:=bM.out _ hx;omega);replace RP:=RP.chg eE (fun hx=>by have:=bM.out _ hx;omega);have kY:=eE.size;replace aF:=aF.trans (eE.below (by have:=aF.size;omega) (fun x hx=>by have:=bM.out _ hx;omega));clear eE oy jY ch ot;generalize w3.setCell ⟨g,o+home,Ab⟩ (Aa ta tn tc)=w4 at *
    replace oy4:Bu.ow w4 F4 ⟨Zk.now,Zk.seq,Zk.shelf.set home rest,Zk.runs⟩ (⟨Ac ⟨g,o,Ab⟩,4,e1⟩,⟨B2,m2,e2⟩):=oy4;have gY:∀ x∈F4,(x∈F\/(wr<=x/\x<eb)):=fun x hx=>(tT x hx).imp id (fun h=>eT x h);have CA:=Bq (fun W (hW:Below w4 w4 W)=>Et ⟨Zk.now,Zk.seq,Zk.shelf.set home rest,Zk.runs⟩ (⟨Ac ⟨g,o,Ab⟩,4,e1⟩,⟨B2,m2,e2⟩) rn W uX.out (Bu.rd_more (Bu.rd_below (Bu.ow_rd (F:=F4) (x:=⟨Zk.now,Zk.seq,Zk.shelf.set home rest,Zk.runs⟩) oy4) hW) hW.size));rw [pA.out] at CA;have oyr:=(Bu.ow_rd (F:=F4) (x:=⟨Zk.now,Zk.seq,Zk.shelf.set home rest,Zk.runs⟩) oy4).2;have dJ:m2=Zk.runs.length:=RdL.at1 (s:=⟨B2,m2,e2⟩) oyr;subst dJ;have gU:(j:Int)<(Zk.runs.length:Int):=Bl;have cB:(0:Int)<=(j:Int):=Bl;have hobw4:ob<w4:=OB.lt;have hebw4:eb<w4:=EB.lt;obtain ⟨gr0,orr0,-,rfl,hgrw0,-⟩:=RdL.run (show RdL Ch w4 w4.heap.size (Aa B2 Zk.runs.length e2) Zk.runs from oyr) hj;obtain ⟨OB_0,OB_1,OB_2,OB_3,OB_l⟩:=OB.g4;have EB_:=EB.g4;have aR:=C7 w4;refine Bw Bm Bm ?_;repeat (go_big_quiet_step ((go_at_call 75;rename_i x;exact Ey (CA.out x.1 x.2))))
    refine wpQuiet_nil ?_;rintro w5 ⟨⟨_,b5⟩,rfl⟩;clear OB_0 OB_1 OB_2 OB_3 OB_l;clear EB_;replace OB:=OB.below b5;replace EB:=EB.below b5;replace RES:=RES.below b5;replace RP:=RP.below b5;replace aF:=Bt aF b5;replace oy4:Bu.ow w5 F4 ⟨Zk.now,Zk.seq,Zk.shelf.set home rest,Zk.runs⟩ (⟨Ac ⟨g,o,Ab⟩,4,e1⟩,⟨Ac ⟨gr0,orr0,Ab⟩,Zk.runs.length,e2⟩):=owB oy4 b5;have pP:=b5.size;clear b5 CA pA uX aR oyr;obtain ⟨G1,G2,sA,bN,osS,osR⟩:=oy4;replace osS:OwL (Dt.list Bx) w5 G1 (Aa (Ac ⟨g,o,Ab⟩) 4 e1) (Zk.shelf.set home rest):=osS;replace osR:OwL Ch w5 G2 (Aa (Ac ⟨gr0,orr0,Ab⟩) Zk.runs.length e2) Zk.runs:=osR;obtain ⟨gr,orr,rs,sr,Ga,Fx,Gb,hAe,hG2,mS,F5_⟩:=osR.foc hj;simp only [Option.some.injEq,Addr.mk.injEq,and_true] at hAe;obtain ⟨rfl,rfl⟩:=hAe;generalize mM:Zk.runs[j]=r at *
    obtain ⟨Fp,gt,ot2,tc2,pN,hnx,eL,op,oh,hgg,hgp⟩:=F5_.atRun Bl;obtain ⟨sr1,sr2⟩:=sr;obtain rfl:sr2=_:=eL;have mN:-1000000<=r.tasks[t].try_/\r.tasks[t].try_<=2000000000/\0<=r.plan.wait/\r.plan.wait<=2000000000:=by
     have h1:=rM.out.2.2.2.1 t eN;have h2:=(C9.1 rM.out.2.1).1;simp only [Eg,Bool.and_eq_true] at h2;have h3:=Cv.1 h2.1.2;have h4:=Cv.1 h2.2;unfold Gt Ni at h1;rw [sL] at h1;omega
    have hmemF:gt∈F4/\gr0∈F4:=by
     rw [sA,hG2,pN];exact ⟨Bn,Bn⟩
    have hdF:∀ x∈G1,x≠gt:=fun x hx e=>by
     rw [sA,Ax] at bN;exact bN.2.2 x hx gt (by rw [hG2,pN];simp) e
    have gS:∀ x∈F4,w.heap.size+1+1<x/\x≠ob/\x≠eb:=fun x hx=>by
     rcases gY x hx with h1 | h1
     ·refine ⟨hF.out.1 x h1,fun e=>hF.out.2.1 (by rw [<-e];exact h1),fun e=>?_⟩
      have:=pQ x h1
      omega
     ·omega
    have hgt4:=gS gt hmemF.1;have hgr5:=F5_.blk;have jS:(t:Int)<(r.tasks.length:Int):=Bl;have gD:(0:Int)<=(t:Int):=Bl;have hgtw:gt<w5:=(oh.block Bl).2.1;have pF:=(oh.block Bl).2.2;obtain ⟨c0,c1,c2,c3,c4,c5,c6,c7⟩:=F5_.run;have hobw5:ob<w5:=Bl;have hebw5:eb<w5:=Bl;obtain ⟨OB_0,OB_1,OB_2,OB_3,OB_l⟩:=OB.g4;have EB_:=EB.g4;have aR:=C7 w5;go_upto_region 21 with fail
    refine Bw Bm Bm ?_;repeat (go_big_quiet_step (fail))
    refine wpQuiet_nil ?_;rintro w6 ⟨⟨_,b6⟩,rfl⟩;have hB6:Below w4 w4 w4:=Br _ _;replace F5_:=F5_.sub (w':=w6) (y:=r) (Chg.of_below _ b6) (Ch.ow_below (F:=Fx) (x:=r) (s:=(sr1,⟨Ac ⟨gt,ot2,Ab⟩,r.tasks.length,tc2⟩)) F5_.here b6) rfl;replace oh:=oh.below b6;replace op:=Ca.ow_below (F:=Fp) (x:=r.plan) (s:=sr1) op b6;replace osS:=osS.below b6;clear OB_0 OB_1 OB_2 OB_3 OB_l;clear EB_;replace OB:=OB.below b6;replace EB:=EB.below b6;replace RES:=RES.below b6;replace RP:=RP.below b6;replace aF:=Bt aF b6;have nP:=b6.size;clear c0 c1 c2 c3 c4 c5 c6 c7 aR b6 hB6 pF;have pF:=(oh.block Bl).2.2;have hgtw6:gt<w6:=Bl;have hgrw6:gr0<w6:=Bl;obtain ⟨_,_,cP,_,d0,d1,d2,d3⟩:=oh.rd.tsk eN;simp only [Option.some.injEq,Addr.mk.injEq,and_true] at cP;obtain ⟨rfl,rfl⟩:=cP;have hw24:U.wrap (r.tasks[t].try_+1)=r.tasks[t].try_+1:=Aq _ Bl;have hww:U.wrap (Zk.now+r.plan.wait)=Zk.now+r.plan.wait:=Aq _ (by have:=fY.out;omega);have eC:=(Chg.setCell w6 gt (ot2+t * 4) (J U 3)).trans (Chg.setCell _ gt (ot2+t * 4+2) (J U (r.tasks[t].try_+1)));have c3:w6.cell? ⟨gr0,orr0+j * 8+3,Ab⟩=Ac (J U r.plan.wait):=F5_.cells 3 _ rfl;have bM:=Bq (show ∀ x,x∈[gt]->x=gt from fun x hx=>by simpa using hx);have e3:∀ W:World,Chg [gt] w6 W->W.cell? ⟨gr0,orr0+j * 8+3,Ab⟩=Ac (J U r.plan.wait):=fun W hW=>(hW.cell (p:=⟨gr0,_,Ab⟩) hgrw6 (fun hx=>hgg (bM.out _ hx))).trans c3;have oh2:Hw E7 ((w6.setCell ⟨gt,ot2+t * 4,Ab⟩ (J U 3)).setCell ⟨gt,ot2+t * 4+2,Ab⟩ (J U (r.tasks[t].try_+1))) [gt] (Aa (Ac ⟨gt,ot2,Ab⟩) r.tasks.length tc2) (r.tasks.set t ⟨3,r.tasks[t].need,r.tasks[t].try_+1,r.tasks[t].until_⟩):=by
     have h1:=oh.part eN ⟨3,r.tasks[t].need,r.tasks[t].try_,r.tasks[t].until_⟩ 0 [J U 3] (show 0+1<=4 by omega) (fun i hi=>by simp at hi;subst hi;rfl) (fun i hi ho=>by
      have:i<4:=hi;rcases (show i=1\/i=2\/i=3 by simp at ho;omega) with rfl | rfl | rfl<;>rfl)
     have h2:=h1.part (j:=t) (by rw [Bh];exact eN) ⟨3,r.tasks[t].need,r.tasks[t].try_+1,r.tasks[t].until_⟩ 2 [J U (r.tasks[t].try_+1)] (show 2+1<=4 by omega) (fun i hi=>by simp at hi;subst hi;rfl) (fun i hi ho=>by
      have:i<4:=hi;rw [List.getElem_set_self];rcases (show i=0\/i=1\/i=3 by simp at ho;omega) with rfl | rfl | rfl<;>rfl)
     rw [List.set_set] at h2;exact h2
    go_upto_region 24 with fail
    generalize (w6.setCell ⟨gt,ot2+t * 4,Ab⟩ (J U 3)).setCell ⟨gt,ot2+t * 4+2,Ab⟩ (J U (r.tasks[t].try_+1))=w7 at *
    have OB7:=OB.chg eC (fun hx=>hgt4.2.1 (bM.out _ hx).symm);have c37:=e3 w7 eC;have hs7:=eC.size;clear d0 d1 d2 d3 pF oh;refine Go.wp_region_noPanic ?_;refine wp_region_held_drew (S:=(fun w'=>DBox ob [J U Zk.now,J U Zk.seq,Aa (Ac ⟨g,o,Ab⟩) 4 e1,Aa (Ac ⟨gr0,orr0,Ab⟩) Zk.runs.length e2] w'/\w'.cell? ⟨gr0,orr0+j * 8+3,Ab⟩=Ac (J U r.plan.wait))) Bm ⟨DBox.drew4 OB7,c37⟩ (fun hHeld=>?_);replace oh2:=oh2.below (Br w7 w7).drew;replace eC:=eC.drew;have hs8:w7.drew.heap.size=w7.heap.size:=rfl;clear OB7 c37;generalize w7.drew=w8 at *
    refine tV 0 ?_
    (try simp only [pS])
    refine tV 1 ?_
    (try simp only [pS])
    refine tV 2 ?_
    (try simp only [pS])
    refine tV 3 ?_
    (try simp only [pS])
    refine tV 4 ?_
    (try simp only [pS])
    refine tV 5 ?_
    (try simp only [pS])
    refine tV 6 ?_
    (try simp only [pS])
    refine tV 7 ?_
    (try simp only [pS])
    refine tV 8 ?_
    (try simp only [pS])
    refine tV 9 ?_
    (try simp only [pS])
    refine tV 10 ?_
    (try simp only [pS])
    have eZ:t<(r.tasks.set t ⟨3,r.tasks[t].need,r.tasks[t].try_+1,r.tasks[t].until_⟩).length:=by rw [Bh];exact eN
    obtain ⟨_,_,cP,_,d0,d1,d2,d3⟩:=oh2.rd.tsk eZ;simp only [Option.some.injEq,Addr.mk.injEq,and_true] at cP;obtain ⟨rfl,rfl⟩:=cP;have pF:=(oh2.block (by rw [Bh];omega)).2.2;have jB:=Chg.setCell w8 gt (ot2+t * 4+3) (J U (Zk.now+r.plan.wait));refine rC 11 (fun K_ hK=>?_);go_simp;refine hK.out _ _ ⟨hHeld.1.chg jB (fun hx=>hgt4.2.1 (bM.out _ hx).symm),e3 _ (eC.trans jB)⟩ (fun hHeld=>?_);clear hK K_ hHeld
    (try simp only [pS])
    refine wpAnyH_done Bm ?_ _;refine NoPanic.normal ?_;have oh3:=oh2.part (j:=t) eZ ⟨3,r.tasks[t].need,r.tasks[t].try_+1,Zk.now+r.plan.wait⟩ 3 [J U (Zk.now+r.plan.wait)] (show 3+1<=4 by omega) (fun i hi=>by simp at hi;subst hi;rfl) (fun i hi ho=>by
     have:i<4:=hi;rw [List.getElem_set_self];rcases (show i=0\/i=1\/i=2 by simp at ho;omega) with rfl | rfl | rfl<;>rfl)
    rw [List.set_set] at oh3;replace oh3:Hw E7 (w8.setCell ⟨gt,ot2+t * 4+3,Ab⟩ (J U (Zk.now+r.plan.wait))) [gt] (Aa (Ac ⟨gt,ot2,Ab⟩) r.tasks.length tc2) (r.tasks.set t ⟨3,r.tasks[t].need,r.tasks[t].try_+1,Zk.now+r.plan.wait⟩):=oh3;replace eC:=eC.trans jB;have hE:=Bq (show Du r t Zk.now=⟨r.id,r.plan,r.state,r.tasks.set t ⟨3,r.tasks[t].need,r.tasks[t].try_+1,Zk.now+r.plan.wait⟩⟩ by unfold Du;rw [Kt eN]);clear d0 d1 d2 d3 pF oh2 jB;generalize w8.setCell ⟨gt,ot2+t * 4+3,Ab⟩ (J U (Zk.now+r.plan.wait))=w9 at *
    have hxm:∀ x∈[gt],x∈Fx:=fun x hx=>by rw [bM.out x hx,pN];simp
    replace op:=Ca.ow_chg (F:=Fp) (x:=r.plan) (s:=sr1) op eC (fun x hx h=>hgp (by rw [<-bM.out x h];exact hx));have F9_:=F5_.sub (w':=w9) (y:=Du r t Zk.now) (eC.mono hxm) (by
     rw [hE.out];exact ⟨Fp,[gt],pN,hnx,op,Gg oh3⟩) (by rw [hE.out])
    have osR9:=F9_.owl mS;rw [<-hG2] at osR9;have osS9:=osS.chg eC (fun x hx h=>hdF x hx (bM.out x h));have oy8:Bu.ow w9 F4 ⟨Zk.now,Zk.seq,Zk.shelf.set home rest,Zk.runs.set j (Du r t Zk.now)⟩ (⟨Ac ⟨g,o,Ab⟩,4,e1⟩,⟨Ac ⟨gr0,orr0,Ab⟩,Zk.runs.length,e2⟩):=⟨G1,G2,sA,bN,osS9,osR9⟩
    replace OB:=OB.chg eC (fun hx=>hgt4.2.1 (bM.out _ hx).symm);replace EB:=EB.chg eC (fun hx=>hgt4.2.2 (bM.out _ hx).symm);replace RES:=RES.chg eC (fun hx=>by have:=bM.out _ hx;omega);replace RP:=RP.chg eC (fun hx=>by have:=bM.out _ hx;omega);replace aF:=aF.trans (eC.below (by have:=aF.size;omega) (fun x hx=>by have:=bM.out _ hx;omega));have qP:t<(r.tasks.set t ⟨3,r.tasks[t].need,r.tasks[t].try_+1,Zk.now+r.plan.wait⟩).length:=by rw [Bh];exact eN
    obtain ⟨_,_,cP,_,-,-,cY,-⟩:=oh3.rd.tsk qP;simp only [Option.some.injEq,Addr.mk.injEq,and_true] at cP;obtain ⟨rfl,rfl⟩:=cP;rw [List.getElem_set_self] at cY;have tH:=eC.size;have hgt9:gt<w9:=Bl;have HFF:=Bq (show Io y (wk:Int) d=((⟨Zk.now,Zk.seq,Zk.shelf.set home rest,Zk.runs.set j (Du r t Zk.now)⟩:Yard),(⟨0,rn,t,r.tasks[t].try_+1⟩:Reply)) by rw [HF.out,sL]);have en1:w.heap.size+1∉F4:=fun hx=>by have:=(gS _ hx).1;omega
    have en2:w.heap.size+1+1∉F4:=fun hx=>by have:=(gS _ hx).1;omega
    have jD:∀ x∈F4,w<=x:=fun x hx=>by have:=(gS x hx).1;omega
    have gn1:gt≠w.heap.size+1:=Bl;have gn2:gt≠w.heap.size+1+1:=Bl;clear HF gY eT tT pQ sL hE oh3 op F9_ F5_ osR9 osS9 osS osR eC e3 c3 bN sA hG2 mS hdF gS hmemF;go_upto_region 25 with fail
    refine Go.wp_region_noPanic ?_;refine wp_region_held_drew (S:=(fun w'=>DBox ob [J U Zk.now,J U Zk.seq,Aa (Ac ⟨g,o,Ab⟩) 4 e1,Aa (Ac ⟨gr0,orr0,Ab⟩) Zk.runs.length e2] w'/\DBox eb [J U pr,J U sq,J U rn,J U (t:Int)] w'/\w'.cell? ⟨gt,ot2+t * 4+2,Ab⟩=Ac (J U (r.tasks[t].try_+1)))) Bm ⟨DBox.drew4 OB,DBox.drew4 EB,cY⟩ (fun hHeld=>?_);replace oy8:Bu.ow w9.drew F4 ⟨Zk.now,Zk.seq,Zk.shelf.set home rest,Zk.runs.set j (Du r t Zk.now)⟩ (⟨Ac ⟨g,o,Ab⟩,4,e1⟩,⟨Ac ⟨gr0,orr0,Ab⟩,Zk.runs.length,e2⟩):=owB oy8 (Br _ _).drew;replace RES:DBox _ _ w9.drew:=DBox.drew4 RES;replace RP:DBox _ _ w9.drew:=DBox.drew4 RP;replace aF:=aF.drew;have nM:w9.drew.heap.size=w9.heap.size:=rfl;rw [<-nM] at hgt9;clear OB EB cY nM;generalize w9.drew=w8d at *
    refine tV 0 ?_
    (try simp only [pS])
    refine tV 1 ?_
    (try simp only [pS])
    refine tV 2 ?_
    (try simp only [pS])
    refine tV 3 ?_
    (try simp only [pS])
    refine tV 4 ?_
    (try simp only [pS])
    refine tV 5 ?_
    (try simp only [pS])
    refine tV 6 ?_
    (try simp only [pS])
    refine tV 7 ?_
    (try simp only [pS])
    refine tV 8 ?_
    (try simp only [pS])
    refine tV 9 ?_
    (try simp only [pS])
    have RES_0:=RES.cell 0 _ rfl;have RES_1:=RES.cell 1 _ rfl;have RES_2:=RES.cell 2 _ rfl;have RES_3:=RES.cell 3 _ rfl;have rf:=RES.free;have cG:=Bq (show ∀ x,x∈[w.heap.size+1]->x=w.heap.size+1 from fun x hx=>by simpa using hx);have hm2':=Bq (show ∀ x,x∈[w.heap.size+1+1]->x=w.heap.size+1+1 from fun x hx=>by simpa using hx);have eR:=Chg.cells4 w8d (w.heap.size+1) 0 1 2 3 (J U Zk.now) (J U Zk.seq) (Aa (Ac ⟨g,o,Ab⟩) 4 e1) (Aa (Ac ⟨gr0,orr0,Ab⟩) Zk.runs.length e2);refine rC 10 (fun K_ hK=>?_);go_simp;have hS1:=eR.size;have RES2:=DBox.row4 RES rfl (J U Zk.now) (J U Zk.seq) (Aa (Ac ⟨g,o,Ab⟩) 4 e1) (Aa (Ac ⟨gr0,orr0,Ab⟩) Zk.runs.length e2);have RP2:=RP.chg eR (fun hx=>by have:=cG.out _ hx;omega);replace oy8:Bu.ow _ F4 ⟨Zk.now,Zk.seq,Zk.shelf.set home rest,Zk.runs.set j (Du r t Zk.now)⟩ (⟨Ac ⟨g,o,Ab⟩,4,e1⟩,⟨Ac ⟨gr0,orr0,Ab⟩,Zk.runs.length,e2⟩):=owC oy8 eR (fun x hx hx2=>by have h1:=cG.out _ hx2;subst h1;exact en1 hx);replace aF:=aF.trans (eR.below (by have:=aF.size;omega) (fun x hx=>by have:=cG.out _ hx;omega));refine hK.out _ _ ⟨hHeld.1.chg eR (fun hx=>by have:=cG.out _ hx;omega),hHeld.2.1.chg eR (fun hx=>by have:=cG.out _ hx;omega),(eR.cell (p:=⟨gt,_,Ab⟩) hgt9 (fun hx=>gn1 (cG.out _ hx))).trans hHeld.2.2⟩ (fun hHeld=>?_);clear hK K_ rf RES_0 RES_1 RES_2 RES_3 eR
    (try simp only [pS])
    generalize (((w8d.setCell ⟨w.heap.size+1,0,Ab⟩ (J U Zk.now)).setCell ⟨w.heap.size+1,1,Ab⟩ (J U Zk.seq)).setCell ⟨w.heap.size+1,2,Ab⟩ (Aa (Ac ⟨g,o,Ab⟩) 4 e1)).setCell ⟨w.heap.size+1,3,Ab⟩ (Aa (Ac ⟨gr0,orr0,Ab⟩) Zk.runs.length e2)=wA at *
    have RP_0:=RP2.cell 0 _ rfl;have RP_1:=RP2.cell 1 _ rfl;have RP_2:=RP2.cell 2 _ rfl;have RP_3:=RP2.cell 3 _ rfl;have pf:=RP2.free;have fT:=Chg.cells4 wA (w.heap.size+1+1) 0 1 2 3 (J U 0) (J U rn) (J U (t:Int)) (J U (r.tasks[t].try_+1));refine rC 11 (fun K_ hK=>?_);go_simp;refine hK.out _ _ ⟨hHeld.1.chg fT (fun hx=>by have:=hm2'.out _ hx;omega),hHeld.2.1.chg fT (fun hx=>by have:=hm2'.out _ hx;omega),(fT.cell (p:=⟨gt,_,Ab⟩) (by show gt<wA;omega) (fun hx=>gn2 (hm2'.out _ hx))).trans hHeld.2.2⟩ (fun hHeld=>?_);clear hK K_ hHeld
    (try simp only [pS])
    refine wpAnyH_done Bm ?_ _;refine NoPanic.normal ?_;have RES3:=RES2.chg fT (fun hx=>by have:=hm2'.out _ hx;omega);have RP3:=DBox.row4 RP2 rfl (J U 0) (J U rn) (J U (t:Int)) (J U (r.tasks[t].try_+1));replace oy8:Bu.ow _ F4 ⟨Zk.now,Zk.seq,Zk.shelf.set home rest,Zk.runs.set j (Du r t Zk.now)⟩ (⟨Ac ⟨g,o,Ab⟩,4,e1⟩,⟨Ac ⟨gr0,orr0,Ab⟩,Zk.runs.length,e2⟩):=owC oy8 fT (fun x hx hx2=>by have h1:=hm2'.out _ hx2;subst h1;exact en2 hx);replace aF:=aF.trans (fT.below (by have:=aF.size;omega) (fun x hx=>by have:=hm2'.out _ hx;omega));clear RP_0 RP_1 RP_2 RP_3 pf;go_wp2;exact Aj (N3 RES3 RP3) rfl ⟨(⟨Ac ⟨g,o,Ab⟩,4,e1⟩,⟨Ac ⟨gr0,orr0,Ab⟩,Zk.runs.length,e2⟩),F4,by rw [HFF.out],by rw [HFF.out];exact oy8,jD,aF⟩
theorem Aaa (id:Int) (p:Nat) (e:Entry) (w:World) (X:DBox p [J U id] w) :
  Calls Am 179 #[Hd e (),.pointer (Ac ⟨p,0,Ab⟩)] w fun e' w'=>e' = .returned (.bool (e.run == id))/\Below w w w':=by
 have B0:Below w w (w.alloc (.cells #[J U e.prio,J U e.seq,J U e.run,J U e.task] 93)):=(Br _ _).alloc (Bs _) _;have E:=DBox.new 93 [J U e.prio,J U e.seq,J U e.run,J U e.task] w (b:=w.heap.size) rfl;replace X:=X.below B0;obtain ⟨X_0,X_l⟩:=X.g1;have E_:=E.g4;go_enter Tryz.func179,Tryz.ntmps179;go_wp2;go_ret;exact ⟨rfl,B0⟩
theorem Xu (l:List Task) (t u:Nat) (x:Task) (hx:t<l.length->x.try_=(l.getD t ⟨0,0,0,0⟩).try_):((l.set t x).getD u ⟨0,0,0,0⟩).try_=(l.getD u ⟨0,0,0,0⟩).try_:=by
 simp only [List.getD_eq_getElem?_getD,List.getElem?_set] at hx ⊢;by_cases h:t=u
 ·subst h;by_cases ht:t<l.length
  ·simp only [if_pos ht,↓reduceIte,Option.getD_some];exact hx ht
  ·simp [ht]
 ·simp [h]
theorem Aab (l:List Task) (t u:Nat) (f:Task->Task) (hf:∀ x,(f x).try_=x.try_):((Gu l t f).getD u ⟨0,0,0,0⟩).try_=(l.getD u ⟨0,0,0,0⟩).try_:=by
 unfold Gu;exact Xu l t u _ (fun _=>hf _)
theorem Ac8 (l:List Task) (u:Nat):((l.map Df).getD u ⟨0,0,0,0⟩).try_=(l.getD u ⟨0,0,0,0⟩).try_:=by
 simp only [List.getD_eq_getElem?_getD,List.getElem?_map];cases l[u]? with
 | none=>rfl
 | some x =>
  simp only [Option.map_some,Option.getD_some];unfold Df;split<;>rfl
theorem Abh (r:Run) (t u:Nat):(Cs (De r t) u).try_=(Cs r u).try_:=by
 unfold De;split
 ·exact Aab r.tasks t u (fun x=>⟨2,x.need,x.try_,0⟩) (fun _=>rfl)
 ·show (((Gu r.tasks t fun x=>⟨5,x.need,x.try_,0⟩).map Df).getD u ⟨0,0,0,0⟩).try_=_;rw [Ac8];exact Aab r.tasks t u (fun x=>⟨5,x.need,x.try_,0⟩) (fun _=>rfl)
theorem Abi (z:Yard) (k:Nat) (r:Run):(Fb z k r).runs=z.runs.set k r:=by
 unfold Fb Mm;rw [(Po _ _ _).2.1]
theorem Ac9 (z:Yard) (k j:Nat) (r:Run) (hk:k<z.runs.length):Gl (Fb z k r) j=if k=j then r else Gl z j:=by
 unfold Gl;rw [Abi];simp only [List.getD_eq_getElem?_getD,List.getElem?_set];by_cases h:k=j
 ·subst h;simp [hk]
 ·simp [h]
def SameTry (y z:Yard):Prop:=∀ k t,(Cs (Gl z k) t).try_=(Cs (Gl y k) t).try_
theorem SameTry.fail {y z:Yard} (h:SameTry y z) {k:Nat} (hk:k<z.runs.length) (t:Nat):SameTry y (Fe z k t):=fun j u=>by
 by_cases q:(Cs (Gl z k) t).state=3
 ·rw [J6 q,Ac9 z k j _ hk]
  split
  ·next e =>
   subst e
   rw [Abh]
   exact h k u
  ·exact h j u
 ·rw [K0 q]
  exact h j u
theorem U0 {y z:Yard} {m:Nat} (hT:Trn y m z) (hS:SameTry y z) {k t:Nat} {id:Int} (hk:k<z.runs.length) (ht:t<z.runs[k].tasks.length) (hid:Da z id=k) :
  Fd z id t (Cs (Gl y k) t).try_ ↔ (Cs (Gl z k) t).state=3:=by
 unfold Fd;rw [Gf hk hid,hid,<-hS k t,Ei hk];simp only [Ao];exact ⟨fun h=>h.2.2.1,fun h=>⟨Bl,⟨Bl,Bl⟩,h,trivial⟩⟩
def upY (z:Yard):Yard:=⟨z.now+1,z.seq,z.shelf,z.runs⟩
theorem Aac (r:Run):∀ (l:List Nat) (z:Yard),l.foldl (fun y t=>K8 y r t) (upY z)=upY (l.foldl (fun y t=>K8 y r t) z)
 | [],z=>rfl
 | t :: l,z=>by
  rw [List.foldl_cons,List.foldl_cons,<-Aac r l (K8 z r t)];rfl
theorem Ad4 (z:Yard) (k:Nat) (r:Run):Fb (upY z) k r=upY (Fb z k r):=by
 unfold Fb Mm;exact Aac r _ ⟨z.now,z.seq,z.shelf,z.runs.set k r⟩
section
open Classical in
noncomputable def Rn (y:Yard):Int:=if Dd y then 0 else 8
noncomputable def doO (y:Yard) (d:Deed):Yard×Reply :=
 if Db d=false then (y,⟨5,0,0,0⟩) else
 match d.kind with
 | 1=>(Iy y d.run d.plan,⟨Ix y d.run d.plan,0,0,0⟩)
 | 2=>Io y d.worker d.draw
 | 3=>(Ke y d.run d.task d.try_,⟨Fk y d.run d.task d.try_,0,0,0⟩)
 | 4=>(Kd y d.run d.task d.try_,⟨Fk y d.run d.task d.try_,0,0,0⟩)
 | 5=>(Ip y,⟨I2 y,0,0,0⟩)
 | 6=>(Hy y d.run,⟨Hx y d.run,0,0,0⟩)
 | 7=>(Hv y d.run,⟨Hu y d.run,0,0,0⟩)
 | _=>(Le y,⟨Rn y,0,0,0⟩)
theorem U1 {b c:Nat} {w:World} {u0 u1 u2 u3 v0 v1 v2 v3:Value} (X:DBox b [u0,u1,u2,u3] w) (Y:DBox c [v0,v1,v2,v3] w) {x0 x1 x2 x3:Value} {rest:List Value} :
  (results Tryz.f79 (x0 :: x1 :: x2 :: x3 :: .pointer (Ac ⟨b,0,Ab⟩) :: .pointer (Ac ⟨c,0,Ab⟩) :: rest).toArray).run Am w = .ok (.tuple #[.agg #[u0,u1,u2,u3],.agg #[v0,v1,v2,v3]]) w:=by
 have c0:=X.cell 0 _ rfl;have c1:=X.cell 1 _ rfl;have c2:=X.cell 2 _ rfl;have c3:=X.cell 3 _ rfl;have d0:=Y.cell 0 _ rfl;have d1:=Y.cell 1 _ rfl;have d2:=Y.cell 2 _ rfl;have d3:=Y.cell 3 _ rfl;simp [results,Tryz.results79,go_sem,c0,c1,c2,c3,d0,d1,d2,d3]
theorem Ro {d:Deed} (h:Db d=true):inB d.kind 1 8=true:=by
 unfold Db at h;simp only [Bool.and_eq_true] at h;exact h.1.1.1.1
theorem Rp {rn tk ty wk dr:Int} {p:Plan} (h:Db ⟨2,rn,p,tk,ty,wk,dr⟩=true):0<=dr/\dr<=1000000000:=by
 unfold Db at h;simp only [Bool.and_eq_true] at h;have h2:=h.1.2;simp at h2;exact Cv.1 (show inB dr 0 1000000000=true from h2.2)
theorem Abj (y:Yard) (s:Sl×Sl) (d:Deed) (sd:Sl) (w:World) (hl:Cb y<=2000000) (hp:d.plan.edges.length<=2000000) (h:Bu.rd w w y s) (pX:Cg.rd w w d sd) :
  Calls Am 79 #[Dg y s,Cy d sd] w (Sq (doO y d) w):=by
 obtain ⟨⟨A1,n1,c1⟩,⟨A2,n2,c2⟩⟩:=s;obtain ⟨A3,n3,c3⟩:=sd;have sE:Ca.rd w w d.plan ⟨A3,n3,c3⟩:=pX;obtain rfl:n3=d.plan.edges.length:=RdL.at1 (s:=⟨A3,n3,c3⟩) sE;have HR:=Bq (show ∀ W,Below w w W->Bu.rd W W y (⟨A1,n1,c1⟩,⟨A2,n2,c2⟩) from fun W hW=>Bu.rd_more (Bu.rd_below h hW) hW.size);have HP:=Bq (show ∀ W,Below w w W->Ca.rd W W d.plan ⟨A3,d.plan.edges.length,c3⟩ from fun W hW=>Ca.rd_more (Ca.rd_below sE hW) hW.size);have CD:=Bq (fun W (hW:Below w w W)=>Ud d ⟨A3,d.plan.edges.length,c3⟩ W (Cg.rd_more (Cg.rd_below pX hW) hW.size));have CC:=Bq (fun W hW=>Ed y (⟨A1,n1,c1⟩,⟨A2,n2,c2⟩) W hl (HR.out W hW));clear h pX sE;obtain ⟨kd,rn,p,tk,ty,wk,dr⟩:=d;replace hp:p.edges.length<=2000000:=hp;replace HP:Hid (∀ W,Below w w W->Ca.rd W W p ⟨A3,p.edges.length,c3⟩):=HP;obtain ⟨W,aG,X,D,RES,RP,OB,B0⟩:=bx5 w 31 [J U y.now,J U y.seq,Aa A1 n1 c1,Aa A2 n2 c2] 45 [J U kd,J U rn,J U p.prio,J U p.most,J U p.wait,J U p.tasks,Aa A3 p.edges.length c3,J U tk,J U ty,J U wk,J U dr] 31 [J U 0,J U 0,Aa Ab 0 0,Aa Ab 0 0] 69 [J U 0,J U 0,J U 0,J U 0] 31 [J U 0,J U 0,Aa Ab 0 0,Aa Ab 0 0];go_enter Tryz.func79,Tryz.ntmps79;go_wp2_with fail
 rw [<-aG.out];clear aG;have hWs:w.heap.size+1+1+1+1<W.heap.size:=OB.lt;refine (CD.out _ B0).mono ?_;rintro e1 w1 ⟨rfl,b1⟩;replace X:=X.below b1;replace D:=D.below b1;replace OB:=OB.below b1;replace RES:=RES.below b1;replace RP:=RP.below b1;have bL:=b1.size;replace B0:=Bt B0 b1;clear b1 CD;have X_:=X.g4;have D_:=D.g11;have OB_:=OB.g4;cases hd:Db ⟨kd,rn,p,tk,ty,wk,dr⟩;case false =>
  have H:=Bq (show doO y ⟨kd,rn,p,tk,ty,wk,dr⟩=(y,⟨5,0,0,0⟩) from if_pos hd);clear hd;go_wp2_with fail
  refine (CC.out _ B0).mono ?_;rintro e2 w2 ⟨s2,F,rfl,oy,nF,b2⟩;have bV:∀ x∈F,w.heap.size+1+1+1+1<x:=fun x hx=>by have h1:=nF x hx;omega
  clear X_;clear D_;clear OB_;clear X D OB;replace RES:=RES.below b2;replace RP:=RP.below b2;replace B0:=Bt B0 b2;clear nF b2;have RES_:=RES.g4;have RP_:=RP.g4;have rf:=RES.free;have pf:=RP.free;have aC:w.heap.size+1+1+1≠w.heap.size+1+1:=Bl;go_wp2;have RES2:=DBox.row4 RES rfl (J U y.now) (J U y.seq) (Aa s2.1.a s2.1.n s2.1.c) (Aa s2.2.a s2.2.n s2.2.c);have RP2:=DBox.row4 ((((RP.setOther (a:=⟨w.heap.size+1+1,0,Ab⟩) aC (J U y.now)).setOther (a:=⟨w.heap.size+1+1,1,Ab⟩) aC (J U y.seq)).setOther (a:=⟨w.heap.size+1+1,2,Ab⟩) aC (Aa s2.1.a s2.1.n s2.1.c)).setOther (a:=⟨w.heap.size+1+1,3,Ab⟩) aC (Aa s2.2.a s2.2.n s2.2.c)) rfl (J U 5) (J U 0) (J U 0) (J U 0);have RES3:=((((RES2.setOther (a:=⟨w.heap.size+1+1+1,0,Ab⟩) aC.symm (J U 5)).setOther (a:=⟨w.heap.size+1+1+1,1,Ab⟩) aC.symm (J U 0)).setOther (a:=⟨w.heap.size+1+1+1,2,Ab⟩) aC.symm (J U 0)).setOther (a:=⟨w.heap.size+1+1+1,3,Ab⟩) aC.symm (J U 0))
  have en1:w.heap.size+1+1∉F:=fun hx=>by have:=bV _ hx;omega
  have en2:w.heap.size+1+1+1∉F:=fun hx=>by have:=bV _ hx;omega
  refine Aj (U1 RES3 RP2) rfl ⟨s2,F,by rw [H.out],by rw [H.out];exact (by (repeat (refine Dt.ow_set Bu ?_ (by first | exact en1 | exact en2) _));exact (show Bu.ow _ F y s2 from oy)),fun x hx=>by have:=bV x hx;omega,?_⟩;repeat (first | (with_reducible exact B0) | refine Ad ?_ Bo _)
 replace hd:=Bq hd;have hkd:=Cv.1 (Ro hd.out);dsimp only at hkd;clear CC;rcases (show kd=1\/kd=2\/kd=3\/kd=4\/kd=5\/kd=6\/kd=7\/kd=8 by omega) with rfl | rfl | rfl | rfl | rfl | rfl | rfl | rfl
 have H:=Bq (show doO y ⟨1,rn,p,tk,ty,wk,dr⟩=(Iy y rn p,⟨Ix y rn p,0,0,0⟩) by unfold doO;rw [if_neg (by rw [hd.out];simp)];rfl);have CS:=Bq (Up y (⟨A1,n1,c1⟩,⟨A2,n2,c2⟩) rn p ⟨A3,p.edges.length,c3⟩ w1 hl hp (HR.out _ B0) (HP.out _ B0));generalize Iy y rn p=z at *
 generalize Ix y rn p=c at *
 rotate_left
 ·have H:Hid (doO y ⟨2,rn,p,tk,ty,wk,dr⟩=Io y wk dr):=by
   show doO y ⟨2,rn,p,tk,ty,wk,dr⟩=_;unfold doO;rw [if_neg (by rw [hd.out];simp)];rfl
  have tL:=Bq (Rp hd.out);obtain ⟨dn,rfl⟩:=Ap tL.out.1;have CS:=Bq (Xm y (⟨A1,n1,c1⟩,⟨A2,n2,c2⟩) wk dn w1 hl (by have:=tL.out;omega) (HR.out _ B0));generalize Io y wk (dn:Int)=o at *
  obtain ⟨z,⟨o0,o1,o2,o3⟩⟩:=o;go_wp2_with fail
  refine CS.out.mono ?_;rintro e2 w2 ⟨s2,F,rfl,oy,nF,b2⟩;replace oy:Bu.ow w2 F z s2:=oy;have bV:∀ x∈F,w.heap.size+1+1+1+1<x:=fun x hx=>by have h1:=nF x hx;omega
  clear X_;clear D_;clear OB_;clear X D OB;replace RES:=RES.below b2;replace RP:=RP.below b2;replace B0:=Bt B0 b2;clear nF b2;have RES_:=RES.g4;have RP_:=RP.g4;have rf:=RES.free;have pf:=RP.free;have aC:w.heap.size+1+1+1≠w.heap.size+1+1:=Bl;go_wp2;have RES2:=DBox.row4 RES rfl (J U z.now) (J U z.seq) (Aa s2.1.a s2.1.n s2.1.c) (Aa s2.2.a s2.2.n s2.2.c);have RP2:=DBox.row4 ((((RP.setOther (a:=⟨w.heap.size+1+1,0,Ab⟩) aC (J U z.now)).setOther (a:=⟨w.heap.size+1+1,1,Ab⟩) aC (J U z.seq)).setOther (a:=⟨w.heap.size+1+1,2,Ab⟩) aC (Aa s2.1.a s2.1.n s2.1.c)).setOther (a:=⟨w.heap.size+1+1,3,Ab⟩) aC (Aa s2.2.a s2.2.n s2.2.c)) rfl (J U o0) (J U o1) (J U o2) (J U o3);have RES3:=((((RES2.setOther (a:=⟨w.heap.size+1+1+1,0,Ab⟩) aC.symm (J U o0)).setOther (a:=⟨w.heap.size+1+1+1,1,Ab⟩) aC.symm (J U o1)).setOther (a:=⟨w.heap.size+1+1+1,2,Ab⟩) aC.symm (J U o2)).setOther (a:=⟨w.heap.size+1+1+1,3,Ab⟩) aC.symm (J U o3))
  have en1:w.heap.size+1+1∉F:=fun hx=>by have:=bV _ hx;omega
  have en2:w.heap.size+1+1+1∉F:=fun hx=>by have:=bV _ hx;omega
  refine Aj (U1 RES3 RP2) rfl ⟨s2,F,by rw [H.out],by rw [H.out];exact (by (repeat (refine Dt.ow_set Bu ?_ (by first | exact en1 | exact en2) _));exact (show Bu.ow _ F z s2 from oy)),fun x hx=>by have:=bV x hx;omega,?_⟩;repeat (first | (with_reducible exact B0) | refine Ad ?_ Bo _)
 have H:=Bq (show doO y ⟨3,rn,p,tk,ty,wk,dr⟩=(Ke y rn tk ty,⟨Fk y rn tk ty,0,0,0⟩) by unfold doO;rw [if_neg (by rw [hd.out];simp)];rfl);have CS:=Bq (Qu y (⟨A1,n1,c1⟩,⟨A2,n2,c2⟩) rn tk ty w1 hl (HR.out _ B0));generalize Ke y rn tk ty=z at *
 generalize Fk y rn tk ty=c at *
 rotate_left;have H:=Bq (show doO y ⟨4,rn,p,tk,ty,wk,dr⟩=(Kd y rn tk ty,⟨Fk y rn tk ty,0,0,0⟩) by unfold doO;rw [if_neg (by rw [hd.out];simp)];rfl);have CS:=Bq (Xf y (⟨A1,n1,c1⟩,⟨A2,n2,c2⟩) rn tk ty w1 hl (HR.out _ B0));generalize Kd y rn tk ty=z at *
 generalize Fk y rn tk ty=c at *
 rotate_left;have H:=Bq (show doO y ⟨5,rn,p,tk,ty,wk,dr⟩=(Ip y,⟨I2 y,0,0,0⟩) by unfold doO;rw [if_neg (by rw [hd.out];simp)];rfl);have CS:=Bq (Xs y (⟨A1,n1,c1⟩,⟨A2,n2,c2⟩) w1 hl (HR.out _ B0));generalize Ip y=z at *
 generalize I2 y=c at *
 rotate_left;have H:=Bq (show doO y ⟨6,rn,p,tk,ty,wk,dr⟩=(Hy y rn,⟨Hx y rn,0,0,0⟩) by unfold doO;rw [if_neg (by rw [hd.out];simp)];rfl);have CS:=Bq (Uw y (⟨A1,n1,c1⟩,⟨A2,n2,c2⟩) rn w1 hl (HR.out _ B0));generalize Hy y rn=z at *
 generalize Hx y rn=c at *
 rotate_left;have H:=Bq (show doO y ⟨7,rn,p,tk,ty,wk,dr⟩=(Hv y rn,⟨Hu y rn,0,0,0⟩) by unfold doO;rw [if_neg (by rw [hd.out];simp)];rfl);have CS:=Bq (Ut y (⟨A1,n1,c1⟩,⟨A2,n2,c2⟩) rn w1 hl (HR.out _ B0));generalize Hv y rn=z at *
 generalize Hu y rn=c at *
 rotate_left
 ·have H:Hid (doO y ⟨8,rn,p,tk,ty,wk,dr⟩=(Le y,⟨Rn y,0,0,0⟩)):=by
   show doO y ⟨8,rn,p,tk,ty,wk,dr⟩=_;unfold doO;rw [if_neg (by rw [hd.out];simp)];rfl
  have CS:=Bq (Sj y (⟨A1,n1,c1⟩,⟨A2,n2,c2⟩) w1 hl (HR.out _ B0));have CY:=Bq (fun W hW=>Fj y (⟨A1,n1,c1⟩,⟨A2,n2,c2⟩) W hl (HR.out W hW));generalize Le y=z at *
  go_wp2_with fail
  refine CS.out.mono ?_;rintro e2 w2 ⟨s2,F,rfl,oy,nF,b2⟩;replace oy:Bu.ow w2 F z s2:=oy;have bV:∀ x∈F,w.heap.size+1+1+1+1<x:=fun x hx=>by have h1:=nF x hx;omega
  clear X_;clear D_;clear OB_;replace X:=X.below b2;replace D:=D.below b2;replace OB:=OB.below b2;replace RES:=RES.below b2;replace RP:=RP.below b2;have X_:=X.g4;have D_:=D.g11;have OB_:=OB.g4;have OBf:=OB.free;replace B0:=Bt B0 b2;clear nF b2;go_upto_region 7 with fail
  clear X_;clear D_;have X9:=X;clear D OBf;have bU:=Chg.cells4 w2 (w.heap.size+1+1+1+1) 0 1 2 3 (J U z.now) (J U z.seq) (Aa s2.1.a s2.1.n s2.1.c) (Aa s2.2.a s2.2.n s2.2.c);have dL:=Bq (show ∀ x,x∈[w.heap.size+1+1+1+1]->x=w.heap.size+1+1+1+1 from fun x hx=>by simpa using hx);clear OB_;replace OB:=DBox.row4 OB rfl (J U z.now) (J U z.seq) (Aa s2.1.a s2.1.n s2.1.c) (Aa s2.2.a s2.2.n s2.2.c);replace RES:=RES.chg bU (fun hx=>by have:=dL.out _ hx;omega);replace RP:=RP.chg bU (fun hx=>by have:=dL.out _ hx;omega);replace oy:Bu.ow _ F z s2:=owC oy bU (fun x hx h=>by have h1:=dL.out x h;have h2:=bV x hx;omega);replace B0:=B0.trans (bU.below (by have:=B0.size;omega) (fun x hx=>by have:=dL.out x hx;omega));have hCo9:=bU;clear bU;replace X:=X9.chg hCo9 (fun hx=>by have:=dL.out _ hx;omega);clear X9;generalize (((w2.setCell ⟨w.heap.size+1+1+1+1,0,Ab⟩ (J U z.now)).setCell ⟨w.heap.size+1+1+1+1,1,Ab⟩ (J U z.seq)).setCell ⟨w.heap.size+1+1+1+1,2,Ab⟩ (Aa s2.1.a s2.1.n s2.1.c)).setCell ⟨w.heap.size+1+1+1+1,3,Ab⟩ (Aa s2.2.a s2.2.n s2.2.c)=w3 at *
  have OB_:=OB.g4;have X_:=X.g4;go_wp2_with fail
  refine (CY.out _ B0).mono ?_;rintro e3 w4 ⟨rfl,b4⟩;clear X_;clear OB_;clear X;replace OB:=OB.below b4;replace RES:=RES.below b4;replace RP:=RP.below b4;replace oy:Bu.ow w4 F z s2:=owB oy b4;replace B0:=Bt B0 b4;clear b4;have OB_:=OB.g4;by_cases q:Dd y
  ·rw [Dj q];replace H:=Bq (H.out.trans (by rw [show Rn y=0 from if_pos q]));clear q;have RES_:=RES.g4;have RP_:=RP.g4;have rf:=RES.free;have pf:=RP.free;have aC:w.heap.size+1+1+1≠w.heap.size+1+1:=Bl;go_wp2;have RES2:=DBox.row4 RES rfl (J U z.now) (J U z.seq) (Aa s2.1.a s2.1.n s2.1.c) (Aa s2.2.a s2.2.n s2.2.c);have RP2:=DBox.row4 ((((RP.setOther (a:=⟨w.heap.size+1+1,0,Ab⟩) aC (J U z.now)).setOther (a:=⟨w.heap.size+1+1,1,Ab⟩) aC (J U z.seq)).setOther (a:=⟨w.heap.size+1+1,2,Ab⟩) aC (Aa s2.1.a s2.1.n s2.1.c)).setOther (a:=⟨w.heap.size+1+1,3,Ab⟩) aC (Aa s2.2.a s2.2.n s2.2.c)) rfl (J U 0) (J U 0) (J U 0) (J U 0);have RES3:=((((RES2.setOther (a:=⟨w.heap.size+1+1+1,0,Ab⟩) aC.symm (J U 0)).setOther (a:=⟨w.heap.size+1+1+1,1,Ab⟩) aC.symm (J U 0)).setOther (a:=⟨w.heap.size+1+1+1,2,Ab⟩) aC.symm (J U 0)).setOther (a:=⟨w.heap.size+1+1+1,3,Ab⟩) aC.symm (J U 0))
   have en1:w.heap.size+1+1∉F:=fun hx=>by have:=bV _ hx;omega
   have en2:w.heap.size+1+1+1∉F:=fun hx=>by have:=bV _ hx;omega
   refine Aj (U1 RES3 RP2) rfl ⟨s2,F,by rw [H.out],by rw [H.out];exact (by (repeat (refine Dt.ow_set Bu ?_ (by first | exact en1 | exact en2) _));exact (show Bu.ow _ F z s2 from oy)),fun x hx=>by have:=bV x hx;omega,?_⟩;repeat (first | (with_reducible exact B0) | refine Ad ?_ Bo _)
  ·rw [Cf q];replace H:=Bq (H.out.trans (by rw [show Rn y=8 from if_neg q]));clear q;have RES_:=RES.g4;have RP_:=RP.g4;have rf:=RES.free;have pf:=RP.free;have aC:w.heap.size+1+1+1≠w.heap.size+1+1:=Bl;go_wp2;have RES2:=DBox.row4 RES rfl (J U z.now) (J U z.seq) (Aa s2.1.a s2.1.n s2.1.c) (Aa s2.2.a s2.2.n s2.2.c);have RP2:=DBox.row4 ((((RP.setOther (a:=⟨w.heap.size+1+1,0,Ab⟩) aC (J U z.now)).setOther (a:=⟨w.heap.size+1+1,1,Ab⟩) aC (J U z.seq)).setOther (a:=⟨w.heap.size+1+1,2,Ab⟩) aC (Aa s2.1.a s2.1.n s2.1.c)).setOther (a:=⟨w.heap.size+1+1,3,Ab⟩) aC (Aa s2.2.a s2.2.n s2.2.c)) rfl (J U 8) (J U 0) (J U 0) (J U 0);have RES3:=((((RES2.setOther (a:=⟨w.heap.size+1+1+1,0,Ab⟩) aC.symm (J U 8)).setOther (a:=⟨w.heap.size+1+1+1,1,Ab⟩) aC.symm (J U 0)).setOther (a:=⟨w.heap.size+1+1+1,2,Ab⟩) aC.symm (J U 0)).setOther (a:=⟨w.heap.size+1+1+1,3,Ab⟩) aC.symm (J U 0))
   have en1:w.heap.size+1+1∉F:=fun hx=>by have:=bV _ hx;omega
   have en2:w.heap.size+1+1+1∉F:=fun hx=>by have:=bV _ hx;omega
   refine Aj (U1 RES3 RP2) rfl ⟨s2,F,by rw [H.out],by rw [H.out];exact (by (repeat (refine Dt.ow_set Bu ?_ (by first | exact en1 | exact en2) _));exact (show Bu.ow _ F z s2 from oy)),fun x hx=>by have:=bV x hx;omega,?_⟩;repeat (first | (with_reducible exact B0) | refine Ad ?_ Bo _)
 all_goals
  go_wp2_with fail
  refine CS.out.mono ?_;rintro e2 w2 ⟨s2,F,rfl,oy,nF,b2⟩;replace oy:Bu.ow w2 F z s2:=oy;have bV:∀ x∈F,w.heap.size+1+1+1+1<x:=fun x hx=>by have h1:=nF x hx;omega
  clear X_;clear D_;clear OB_;replace X:=X.below b2;replace D:=D.below b2;replace OB:=OB.below b2;replace RES:=RES.below b2;replace RP:=RP.below b2;have X_:=X.g4;have D_:=D.g11;have OB_:=OB.g4;have OBf:=OB.free;replace B0:=Bt B0 b2;clear nF b2;go_upto_region 23 with fail
  clear X_;clear D_;clear X D OBf;have bU:=Chg.cells4 w2 (w.heap.size+1+1+1+1) 0 1 2 3 (J U z.now) (J U z.seq) (Aa s2.1.a s2.1.n s2.1.c) (Aa s2.2.a s2.2.n s2.2.c);have dL:=Bq (show ∀ x,x∈[w.heap.size+1+1+1+1]->x=w.heap.size+1+1+1+1 from fun x hx=>by simpa using hx);clear OB_;replace OB:=DBox.row4 OB rfl (J U z.now) (J U z.seq) (Aa s2.1.a s2.1.n s2.1.c) (Aa s2.2.a s2.2.n s2.2.c);replace RES:=RES.chg bU (fun hx=>by have:=dL.out _ hx;omega);replace RP:=RP.chg bU (fun hx=>by have:=dL.out _ hx;omega);replace oy:Bu.ow _ F z s2:=owC oy bU (fun x hx h=>by have h1:=dL.out x h;have h2:=bV x hx;omega);replace B0:=B0.trans (bU.below (by have:=B0.size;omega) (fun x hx=>by have:=dL.out x hx;omega));clear bU;generalize (((w2.setCell ⟨w.heap.size+1+1+1+1,0,Ab⟩ (J U z.now)).setCell ⟨w.heap.size+1+1+1+1,1,Ab⟩ (J U z.seq)).setCell ⟨w.heap.size+1+1+1+1,2,Ab⟩ (Aa s2.1.a s2.1.n s2.1.c)).setCell ⟨w.heap.size+1+1+1+1,3,Ab⟩ (Aa s2.2.a s2.2.n s2.2.c)=w3 at *
  have OB_:=OB.g4;have RES_:=RES.g4;have RP_:=RP.g4;have rf:=RES.free;have pf:=RP.free;have aC:w.heap.size+1+1+1≠w.heap.size+1+1:=Bl;go_wp2;have RES2:=DBox.row4 RES rfl (J U z.now) (J U z.seq) (Aa s2.1.a s2.1.n s2.1.c) (Aa s2.2.a s2.2.n s2.2.c);have RP2:=DBox.row4 ((((RP.setOther (a:=⟨w.heap.size+1+1,0,Ab⟩) aC (J U z.now)).setOther (a:=⟨w.heap.size+1+1,1,Ab⟩) aC (J U z.seq)).setOther (a:=⟨w.heap.size+1+1,2,Ab⟩) aC (Aa s2.1.a s2.1.n s2.1.c)).setOther (a:=⟨w.heap.size+1+1,3,Ab⟩) aC (Aa s2.2.a s2.2.n s2.2.c)) rfl (J U c) (J U 0) (J U 0) (J U 0);have RES3:=((((RES2.setOther (a:=⟨w.heap.size+1+1+1,0,Ab⟩) aC.symm (J U c)).setOther (a:=⟨w.heap.size+1+1+1,1,Ab⟩) aC.symm (J U 0)).setOther (a:=⟨w.heap.size+1+1+1,2,Ab⟩) aC.symm (J U 0)).setOther (a:=⟨w.heap.size+1+1+1,3,Ab⟩) aC.symm (J U 0))
  have en1:w.heap.size+1+1∉F:=fun hx=>by have:=bV _ hx;omega
  have en2:w.heap.size+1+1+1∉F:=fun hx=>by have:=bV _ hx;omega
  refine Aj (U1 RES3 RP2) rfl ⟨s2,F,by rw [H.out],by rw [H.out];exact (by (repeat (refine Dt.ow_set Bu ?_ (by first | exact en1 | exact en2) _));exact (show Bu.ow _ F z s2 from oy)),fun x hx=>by have:=bV x hx;omega,?_⟩;repeat (first | (with_reducible exact B0) | refine Ad ?_ Bo _)
end
theorem BldG.cut {α:Type} {d:Dt α} {E:TypeId} {w w':World} {base g:Nat} {v v':Value} {rs:List (α×d.S)} {G:List Nat} (h:BldG d E w base v rs G) {k:Nat} (hk:k<rs.length) (ho:Ow d.enc E w' base v' (rs.take k ++ rs.drop (k+1))) (hC:Chg [g] w w') (hv:v.ownBlock=Ac g) (rW:v'.ownBlock=Ac g) :
  ∃ G',BldG d E w' base v' (rs.take k ++ rs.drop (k+1)) G' /\ ∀ x∈G',x∈G:=by
 obtain ⟨h1,h2,h3,h4⟩:=h;obtain ⟨Ga,G2,rfl,hGa,kW⟩:=h2.split k (Nat.le_of_lt hk);rw [List.drop_eq_getElem_cons hk] at kW;obtain ⟨Gx,Gc,rfl,_,hGc⟩:=kW.head;have dV:∀ x∈Ga ++ Gc,x∈Ga ++ (Gx ++ Gc):=fun x hx=>by
  rcases Bi.1 hx with h | h
  ·exact List.mem_append_left _ h
  ·exact Be _ (Be _ h)
 refine ⟨Ga ++ Gc,⟨ho,(hGa.append hGc).chg hC (fun b hb hx=>(h4 b (dV b hb)).2 (by rw [List.mem_singleton.1 hx];exact hv)),?_,fun b hb=>⟨(h4 b (dV b hb)).1,fun e=>(h4 b (dV b hb)).2 (by rw [hv,<-e,rW])⟩⟩,dV⟩;rw [Ax] at h3 ⊢;exact ⟨h3.1,(Ax.1 h3.2.1).2.1,fun a ha b hb=>h3.2.2 a ha b (Be _ hb)⟩
theorem Lp {b:Nat} {w:World} {u0 u1 u2 u3:Value} (X:DBox b [u0,u1,u2,u3] w) {v0 v1 v2 v3 v5:Value} {rest:List Value} :
  (results Tryz.f114 (v0 :: v1 :: v2 :: v3 :: .pointer (Ac ⟨b,0,Ab⟩) :: v5 :: rest).toArray).run Am w = .ok (.tuple #[.agg #[u0,u1,u2,u3],v5]) w:=by
 have c0:=X.cell 0 _ rfl;have c1:=X.cell 1 _ rfl;have c2:=X.cell 2 _ rfl;have c3:=X.cell 3 _ rfl;simp [results,Tryz.results114,go_sem,c0,c1,c2,c3]
theorem U2 (y:Yard) (s:Sl×Sl) (id:Int) (w:World) (hl:Cb y<=2000000) (h:Bu.rd w w y s) :
  Calls Am 114 #[Dg y s,.int .i64 id] w (Ht (Hv y id) (Hu y id) w):=by
 have HR:=Bq (show ∀ W,Below w w W->Bu.rd W W y s from fun W hW=>Bu.rd_more (Bu.rd_below h hW) hW.size);obtain ⟨⟨A1,n1,c1⟩,⟨A2,n2,c2⟩⟩:=s;have CC:=Bq (fun W hW=>Jz y (⟨A1,n1,c1⟩,⟨A2,n2,c2⟩) W hl (HR.out W hW));have CY:=Bq (fun W hW=>Fi y (⟨A1,n1,c1⟩,⟨A2,n2,c2⟩) W hl (HR.out W hW));have CA:=Bq (fun W hW=>Et y (⟨A1,n1,c1⟩,⟨A2,n2,c2⟩) id W hl (HR.out W hW));have CX:=Bq (fun W hW=>show RdL Ch W W.heap.size (.slice A2 n2 c2) y.runs from (HR.out W hW).2);clear h HR;obtain ⟨W,aG,X,I,RES,B0⟩:=bx3 w 31 [.int .i64 y.now,.int .i64 y.seq,.slice A1 n1 c1,.slice A2 n2 c2] 3 [.int .i64 id] 31 [.int .i64 0,.int .i64 0,.slice Ab 0 0,.slice Ab 0 0];go_enter Tryz.func114,Tryz.ntmps114;go_wp2_with fail
 rw [<-aG.out];clear aG;have dK:w.heap.size+1+1<W.heap.size:=RES.lt;refine (CC.out _ B0).mono ?_;rintro e1 w1 ⟨⟨B1,m1,e1⟩,⟨B2,m2,e2⟩,F1,base,rfl,oS,eD,aY,cC,oR,b1⟩;have bL:=b1.size;replace X:=X.below b1;replace I:=I.below b1;replace RES:=RES.below b1;replace B0:=Bt B0 b1;clear b1;obtain ⟨rs,cG,G0,oR⟩:=oR;have hm:=Bq cG;clear cG;replace oR:BldG Ch 89 w1 base (.slice B2 m2 e2) rs G0:=oR;have tR:=oR.2.1.lt;have qD:∀ g,(Value.slice B2 m2 e2).ownBlock=Ac g->g≠w1.heap.size:=fun g hg h=>by
  have:=(oR.1.within g hg).2
  omega
 obtain ⟨F,oy,nF⟩:∃ F,Bu.ow w1 F y (⟨B1,m1,e1⟩,⟨B2,m2,e2⟩) /\ ∀ x∈F,W<=x:=by
  have hB:Bld Ch 89 w1 base (.slice B2 m2 e2) rs:=⟨G0,oR⟩
  replace hm:=hm.out;obtain ⟨F2,h5,h6⟩:=hB.owl hm;refine ⟨F1 ++ F2,⟨F1,F2,rfl,?_,oS,h5⟩,fun b hb=>?_⟩
  ·rw [Ax];refine ⟨oS.nodup,h5.nodup,fun u hu u' hu' e=>?_⟩
   have:=eD u hu
   have:=h6 u' hu'
   omega
  ·rcases Bi.1 hb with hb | hb
   ·exact (eD b hb).1
   ·have:=h6 b hb;omega
 go_upto_region 2 with fail
 have OB:=DBox.new 31 [.int .i64 y.now,.int .i64 y.seq,.slice B1 m1 e1,.slice B2 m2 e2] w1 (b:=w1.heap.size) rfl;have b2:Below w1 w1 (w1.alloc (.cells #[.int .i64 y.now,.int .i64 y.seq,.slice B1 m1 e1,.slice B2 m2 e2] 31)):=(Br _ _).alloc (Bs _) _;replace X:=X.below b2;replace I:=I.below b2;replace RES:=RES.below b2;replace oy:=Bu.ow_below (F:=F) (x:=y) (s:=(⟨B1,m1,e1⟩,⟨B2,m2,e2⟩)) oy b2;replace oS:=oS.below b2;replace oR:=oR.below b2;replace B0:=Bt B0 b2;have ow1:=OB.lt;have hbob:base<=w1.heap.size:=cC;replace cC:=Ah cC b2.size;clear b2;generalize w1.alloc (.cells #[.int .i64 y.now,.int .i64 y.seq,.slice B1 m1 e1,.slice B2 m2 e2] 31)=w2 at *
 generalize cJ:w1.heap.size=ob at *
 have X_:=X.g4;obtain ⟨I_0,I_l⟩:=I.g1;obtain ⟨OB_0,OB_1,OB_2,OB_3,OB_l⟩:=OB.g4;go_wp2_with fail
 refine (CA.out _ B0).mono ?_;rintro e1 w3 ⟨rfl,b3⟩;clear X_;clear I_0 I_l;clear OB_0 OB_1 OB_2 OB_3 OB_l;replace X:=X.below b3;replace I:=I.below b3;replace OB:=OB.below b3;replace RES:=RES.below b3;replace oy:Bu.ow w3 F y (⟨B1,m1,e1⟩,⟨B2,m2,e2⟩):=owB oy b3;replace oS:=oS.below b3;replace oR:=oR.below b3;replace B0:=Bt B0 b3;replace cC:=Ah cC b3.size;clear b3;have X_:=X.g4;obtain ⟨I_0,I_l⟩:=I.g1;obtain ⟨OB_0,OB_1,OB_2,OB_3,OB_l⟩:=OB.g4;go_wp2_with fail
 refine (CY.out _ B0).mono ?_;rintro e1 w4 ⟨rfl,b4⟩;clear X_;clear I_0 I_l;clear OB_0 OB_1 OB_2 OB_3 OB_l;replace X:=X.below b4;replace I:=I.below b4;replace OB:=OB.below b4;replace RES:=RES.below b4;replace oy:Bu.ow w4 F y (⟨B1,m1,e1⟩,⟨B2,m2,e2⟩):=owB oy b4;replace oS:=oS.below b4;replace oR:=oR.below b4;replace B0:=Bt B0 b4;replace cC:=Ah cC b4.size;clear b4;have X_:=X.g4;obtain ⟨I_0,I_l⟩:=I.g1;obtain ⟨OB_0,OB_1,OB_2,OB_3,OB_l⟩:=OB.g4;by_cases p0:Dd y;case neg =>
  rw [Cf p0];have H:=Bq (show Hu y id=8 by unfold Hu;rw [if_pos p0]);have H2:=Bq (show Hv y id=y by unfold Hv;rw [H.out,if_neg Bp]);have RES_:=RES.g4;have rf:=RES.free;go_wp2;have en1:w.heap.size+1+1∉F:=fun hx=>by have:=nF _ hx;omega
  refine Aj (Lp (DBox.row4 RES rfl _ _ _ _)) rfl ⟨(⟨B1,m1,e1⟩,⟨B2,m2,e2⟩),F,by rw [H.out,H2.out],by rw [H2.out];exact (by (repeat (refine Dt.ow_set Bu ?_ en1 _));exact (show Bu.ow _ F y (⟨B1,m1,e1⟩,⟨B2,m2,e2⟩) from oy)),fun x hx=>by have:=nF x hx;omega,?_⟩;repeat (first | (with_reducible exact B0) | refine Ad ?_ Bo _)
 rw [Dj p0];have P0:=Bq p0;clear p0;by_cases p1:Da y id<0;case pos =>
  have H:=Bq (show Hu y id=10 by unfold Hu;rw [if_neg (fun h=>h P0.out),if_pos p1]);have H2:=Bq (show Hv y id=y by unfold Hv;rw [H.out,if_neg Bp]);have RES_:=RES.g4;have rf:=RES.free;go_wp2;have en1:w.heap.size+1+1∉F:=fun hx=>by have:=nF _ hx;omega
  refine Aj (Lp (DBox.row4 RES rfl _ _ _ _)) rfl ⟨(⟨B1,m1,e1⟩,⟨B2,m2,e2⟩),F,by rw [H.out,H2.out],by rw [H2.out];exact (by (repeat (refine Dt.ow_set Bu ?_ en1 _));exact (show Bu.ow _ F y (⟨B1,m1,e1⟩,⟨B2,m2,e2⟩) from oy)),fun x hx=>by have:=nF x hx;omega,?_⟩;repeat (first | (with_reducible exact B0) | refine Ad ?_ Bo _)
 rcases Ek y id with hr | ⟨k,hk,hr⟩
 ·exact absurd hr Bl
 have HK:=Bq (Gf hk hr);have HR2:=Bq hr;rw [hr];clear hr p1;have P1:=Bq (show ¬ Da y id<0 by have:=HR2.out;omega);have gG:(k:Int)<(n2:Int):=by have:=RdL.at1 (s:=⟨A2,n2,c2⟩) (CX.out _ B0);dsimp only at this;omega
 have dB:(0:Int)<=(k:Int):=Bl;have hkn:¬ (k:Int)<0:=Bl;obtain ⟨gx,ox,_,rfl,kK,_,c0,c1_,c2_,c3_,c4_,c5_,c6,c7_⟩:=(CX.out _ B0).run hk;clear c0 c1_ c2_ c3_ c4_ c5_ c7_;by_cases p2:y.runs[k].state=1;case pos =>
  have q2:(y.runs[k].state == 1)=true:=by simp [p2]
  have H:=Bq (show Hu y id=13 by unfold Hu;rw [if_neg (fun h=>h P0.out),if_neg P1.out,if_pos (by rw [HK.out];exact p2)]);clear p2;have H2:=Bq (show Hv y id=y by unfold Hv;rw [H.out,if_neg Bp]);have RES_:=RES.g4;have rf:=RES.free;go_wp2;have en1:w.heap.size+1+1∉F:=fun hx=>by have:=nF _ hx;omega
  refine Aj (Lp (DBox.row4 RES rfl _ _ _ _)) rfl ⟨(⟨B1,m1,e1⟩,⟨B2,m2,e2⟩),F,by rw [H.out,H2.out],by rw [H2.out];exact (by (repeat (refine Dt.ow_set Bu ?_ en1 _));exact (show Bu.ow _ F y (⟨B1,m1,e1⟩,⟨B2,m2,e2⟩) from oy)),fun x hx=>by have:=nF x hx;omega,?_⟩;repeat (first | (with_reducible exact B0) | refine Ad ?_ Bo _)
 have q2:(y.runs[k].state == 1)=false:=by simp [p2]
 have H:=Bq (show Hu y id=0 by unfold Hu;rw [if_neg (fun h=>h P0.out),if_neg P1.out,if_neg (by rw [HK.out];exact p2)]);have H2:=Bq (show Hv y id=⟨y.now,y.seq,y.shelf.map (C6 id),y.runs.take k ++ y.runs.drop (k+1)⟩ by unfold Hv;rw [if_pos H.out,HR2.out,Ao]);clear p2;go_upto_region 9 with fail
 clear X_;clear X c6 q2 CC CY CA CX;have bK:rs.length=y.runs.length:=by have:=congrArg List.length hm.out;simpa using this
 have hkr:k<rs.length:=Bl;have qZ:y.runs.length<=8:=P0.out.2.2.2.2.2.2.1;obtain ⟨gr,cap,hv,rH,fS⟩:∃ gr cap,Value.slice B2 m2 e2 = .slice (Ac ⟨gr,0,Ab⟩) rs.length cap/\base<=gr/\gr<w4.heap.size:=by
  rcases oR.1.form with ⟨_,h⟩ | ⟨gr,cap,h,hb,hl,_⟩
  ·rw [h] at hkr;simp at hkr
  ·exact ⟨gr,cap,h,hb,hl⟩
 simp only [Value.slice.injEq] at hv;obtain ⟨rfl,rfl,rfl⟩:=hv;have CD:=Bq (Z9 rs gr e2 base k w4 hkr Bl oR.1);have wr1:U.wrap ((k:Int)+1)=(k:Int)+1:=Aq _ Bl;have eB:ob≠gr:=fun e=>qD gr rfl e.symm;replace bK:=Bq bK;have hob4:ob<w4:=OB.lt;go_wp2_with fail
 refine CD.out.mono ?_;rintro e5 w5 ⟨rfl,o5,gg⟩;have hC:=Chg.of_grown gg;have bM:=Bq (show ∀ x,x∈[gr]->x=gr from fun x hx=>by simpa using hx);obtain ⟨G5,oR5,hG5⟩:=oR.cut hkr o5 hC rfl rfl;have orr:=oR5.owl (l:=y.runs.take k ++ y.runs.drop (k+1)) (by rw [List.map_append,List.map_take,List.map_drop,hm.out]);have hB5:∀ x∈Dz (.slice (Ac ⟨gr,0,Ab⟩) (rs.length - 1) e2) (rs.take k ++ rs.drop (k+1)).length ++ G5,x≠ob/\base<=x:=fun x hx=>by
  rcases Bi.1 hx with hx | hx
  ·have h1:=G4 _ _ _ hx;have:gr=x:=by simpa [Value.ownBlock] using h1
   subst this;exact ⟨fun e=>eB e.symm,rH⟩
  ·have h1:=tR x (hG5 x hx);exact ⟨Bl,(oR.2.2.2 x (hG5 x hx)).1⟩
 generalize Dz (.slice (Ac ⟨gr,0,Ab⟩) (rs.length - 1) e2) (rs.take k ++ rs.drop (k+1)).length ++ G5=F2 at *
 clear OB_0 OB_1 OB_2 OB_3 OB_l;replace OB:=OB.chg hC (fun hx=>eB (bM.out _ hx));replace RES:=RES.chg hC (fun hx=>by have:=bM.out _ hx;omega);clear I_0 I_l;replace I:=I.chg hC (fun hx=>by have:=bM.out _ hx;omega);replace oS:=oS.chg hC (fun x hx h=>by have h1:=bM.out x h;have h2:=(eD x hx).2;omega);replace B0:=B0.trans (hC.below (by have:=B0.size;omega) (fun x hx=>by have:=bM.out _ hx;omega));have pP:=hC.size;clear oR oy o5 gg hC oR5 hG5 CD;obtain ⟨OB_0,OB_1,OB_2,OB_3,OB_l⟩:=OB.g4;obtain ⟨I_0,I_l⟩:=I.g1;have obf:=OB.free;go_upto_region 10 with fail
 clear OB_0 OB_1 OB_2 OB_3 OB_l;clear I_0 I_l;have OB6:DBox ob [.int .i64 y.now,.int .i64 y.seq,.slice B1 m1 e1,.slice (Ac ⟨gr,0,Ab⟩) (rs.length - 1) e2] (w5.setCell ⟨ob,3,Ab⟩ (.slice (Ac ⟨gr,0,Ab⟩) (rs.length - 1) e2)):=OB.set 3 Bn _;replace RES:=RES.setOther (a:=⟨ob,3,Ab⟩) (by show w.heap.size+1+1≠ob;omega) (.slice (Ac ⟨gr,0,Ab⟩) (rs.length - 1) e2);replace I:=I.setOther (a:=⟨ob,3,Ab⟩) (by show w.heap.size+1≠ob;omega) (.slice (Ac ⟨gr,0,Ab⟩) (rs.length - 1) e2);replace oS:=oS.set (a:=⟨ob,3,Ab⟩) (fun hx=>by have h1:_/\ob<base:=eD _ hx;omega) (.slice (Ac ⟨gr,0,Ab⟩) (rs.length - 1) e2);replace orr:=orr.set (a:=⟨ob,3,Ab⟩) (fun hx=>(hB5 _ hx).1 rfl) (.slice (Ac ⟨gr,0,Ab⟩) (rs.length - 1) e2);replace B0:Below w w (w5.setCell ⟨ob,3,Ab⟩ (.slice (Ac ⟨gr,0,Ab⟩) (rs.length - 1) e2)):=Ad B0 (by show w.heap.size<=ob;omega) _;clear obf OB;generalize w5.setCell ⟨ob,3,Ab⟩ (.slice (Ac ⟨gr,0,Ab⟩) (rs.length - 1) e2)=w6 at *
 generalize y.runs.take k ++ y.runs.drop (k+1)=RR at *
 generalize rs.length - 1=rn at *
 have OB:=OB6;clear OB6;obtain rfl:m1=y.shelf.length:=RdL.at1 (s:=⟨B1,m1,e1⟩) oS.rd;have pC:=Bq (show y.shelf.length=4 from P0.out.2.2.1);have gX:=Bq (fun (i:Nat) (hi:i<y.shelf.length)=>(P0.out.2.2.2.1 _ (Aw hi)).1);have nJ:w.heap.size+1+1<ob:=Bl;have hF1':=Bq (show ∀ x∈F1,w.heap.size+1+1<x/\x<base/\x≠ob from fun x hx=>by have h1:=eD x hx;omega);have hB5':=Bq (show ∀ x∈F2,x≠ob/\base<=x from hB5);obtain ⟨OB_0,OB_1,OB_2,OB_3,OB_l⟩:=OB.g4;obtain ⟨I_0,I_l⟩:=I.g1;go_wp2;clear OB_0 OB_1 OB_2 OB_3 OB_l;clear I_0 I_l;go_loopw [8,42] (fun u i wr=>∃ (j:Nat) (F:List Nat),j<=y.shelf.length/\i = .int .i64 j/\Hid (OwL (Dt.list Bx) wr F (.slice B1 y.shelf.length e1) ((y.shelf.take j).map (C6 id) ++ y.shelf.drop j)/\(∀ x∈F,x∈F1)/\OwL Ch wr F2 (.slice (Ac ⟨gr,0,Ab⟩) rn e2) RR)/\DBox ob [.int .i64 y.now,.int .i64 y.seq,.slice B1 y.shelf.length e1,.slice (Ac ⟨gr,0,Ab⟩) rn e2] wr/\DBox (w.heap.size+1) [.int .i64 id] wr/\DBox (w.heap.size+1+1) [.int .i64 0,.int .i64 0,.slice Ab 0 0,.slice Ab 0 0] wr/\Below w w wr) (fun _ i _=>y.shelf.length - (intOf i).toNat);case atStart=>exact ⟨0,F1,Nat.zero_le _,rfl,⟨by simpa using oS,fun x hx=>hx,orr⟩,OB,I,RES,B0⟩
 case round =>
  clear oS orr OB I RES B0 eD hB5 hm pP;obtain ⟨j,F,hj,rfl,hO,OB,I,RES,dF⟩:=hrel;have hRl2:=RES.lt;have hobl:=OB.lt;obtain ⟨OB_0,OB_1,OB_2,OB_3,OB_l⟩:=OB.g4;obtain ⟨I_0,I_l⟩:=I.g1;by_cases aA:j<y.shelf.length
  ·have aB:(j:Int)<(y.shelf.length:Int):=Bl;have hi00:(0:Int)<=(j:Int):=Bl;have mB:j<((y.shelf.take j).map (C6 id) ++ y.shelf.drop j).length:=by simp;omega
   have hltH:=Bq (show j<y.shelf.length/\y.shelf.length=4 from ⟨aA,pC.out⟩);obtain ⟨os,jI,orr⟩:=hO.out;have pW:=gX.out j aA;have dA:=Bq (Np (C6 id) aA);have hat:=Us (C6 id) aA mB;obtain ⟨g,o,_,rfl,hg,_,_⟩:=os.rd.entryS mB;have bd:Below wr wr wr.drew:=(Br _ _).drew;obtain ⟨⟨A9,n9,c9⟩,Fx,kS,bF,kK,eI,fU,aX,cF⟩:=OwL.trade (os.below bd) mB;rw [hat] at kS aX;clear hat;replace kS:OwL Bx wr.drew Fx (.slice A9 n9 c9) y.shelf[j]:=kS;have sG:n9=y.shelf[j].length:=RdL.at1 (s:=⟨A9,n9,c9⟩) kS.rd;subst sG;have ck:wr.drew.cell? ⟨g,o+j,Ab⟩=Ac (.slice A9 y.shelf[j].length c9):=by
    have:=aX 0 _ rfl
    rw [show o+j * (Dt.list Bx).enc.sz+0=o+j from by show o+j * 1+0=o+j;omega] at this;exact this
   have hIn:w.heap.size+1∉Fx:=fun hx=>by have:=hF1'.out _ (jI _ (bF _ hx));omega
   have jX:=Bt dF bd;have Id:=I.below bd;have jR:∀ (W:World) (x:Entry),DBox (w.heap.size+1) [.int .i64 id] W->Calls Am 179 #[Hd x (),.pointer (Ac ⟨w.heap.size+1,0,Ab⟩)] W fun e w'=>e = .returned (.bool (x.run == id))/\Below W W w' :=
    fun W x hX=>Aaa id (w.heap.size+1) x W hX
   have CD:=Bq (Rg y.shelf[j] A9 y.shelf[j].length c9 Fx 179 (w.heap.size+1) (fun e=>e.run == id) (Mn Tryz.func179 Bm Bm) wr.drew Bl
    (fun W x hW=>jR W x (Id.chg hW hIn))
    (Oz 179 (w.heap.size+1) (fun e=>e.run == id) (Mn Tryz.func179 Bm Bm) y.shelf[j] A9 y.shelf[j].length c9 wr.drew Bl (Ps kS).rd (fun W x hW=>jR W x (Id.below hW)))
    (Ps kS))
   clear jR;go_upto_region 13 with fail
   refine Cz (fun w'=>w'.cell? ⟨ob,2,Ab⟩=Ac (.slice (Ac ⟨g,o,Ab⟩) y.shelf.length e1)/\w'.cell? ⟨g,o+j,Ab⟩=Ac (.slice A9 y.shelf[j].length c9)) 11 Bm ?_ (fun hHeld=>?_)
   ·exact ⟨OB_2,ck⟩
   refine aT 0 hHeld ?_;try simp only [pS]
   refine aT 1 hHeld ?_;try simp only [pS]
   refine aT 2 hHeld ?_;try simp only [pS]
   refine aT 3 hHeld ?_;try simp only [pS]
   refine aT 4 hHeld ?_;try simp only [pS]
   refine aT 5 hHeld ?_;try simp only [pS]
   refine aT 6 hHeld ?_;try simp only [pS]
   refine aT 7 hHeld ?_;try simp only [pS]
   refine aT 8 hHeld ?_;try simp only [pS]
   refine oT 9 (fun K hK=>?_)
   (go_simp;refine CD.out.mono ?_;rintro e7 wa ⟨k9,F',rfl,hH,dV,hC⟩)
   have hgw2:g<wr.drew:=os.lt g eI;have gC:ob<wr.drew:=OB.lt;have nG:ob∉Fx:=fun hx=>(hF1'.out _ (jI _ (bF _ hx))).2.2 rfl;have hgn:=hF1'.out g (jI _ eI);have hobg2:ob≠g:=fun e=>hgn.2.2 e.symm;have sK:=(hC.cell (p:=⟨ob,2,Ab⟩) gC nG).trans hHeld.1;have ck2:=(hC.cell (p:=⟨g,_,Ab⟩) hgw2 kK).trans ck;have hgf2:∀ j,wa.frozen? ⟨g,j,Ab⟩=false:=fun j=>(hC.frozen (p:=⟨g,_,Ab⟩) hgw2 kK).trans (fU j);refine hK.out _ _ (fun _=>⟨sK,ck2⟩) ?_;clear hK K;try simp only [pS]
   refine oT 10 (fun K hK=>?_);go_simp;refine hK.out _ _ (fun _=>⟨sK,ck2⟩) ?_;clear hK K;try simp only [pS]
   have hga:=hC.size;refine oT 11 (fun K hK=>?_);go_simp;refine hK.out _ _ (fun aC=>absurd rfl aC) ?_;clear hK K hHeld;try simp only [pS]
   refine Dr Bm ?_ _;obtain ⟨F3,o3,tD,rS⟩:=cF wa (C6 id y.shelf[j]) ⟨A9,k9,c9⟩ F' hC (V8 hH) dV;have fB:G9 wa g (o+j * (Dt.list Bx).enc.sz) ((Dt.list Bx).enc.cells (C6 id y.shelf[j],(⟨A9,k9,c9⟩:Sl)))=wa.setCell ⟨g,o+j,Ab⟩ (.slice A9 k9 c9):=by
    show G9 wa g (o+j * 1) [.slice A9 k9 c9]=_;rw [Nat.mul_one];rfl
   rw [fB,dA.out] at o3;have hS:=Chg.setCell wa g (o+j) (.slice A9 k9 c9);have eY:=Bq (show ∀ x,x∈[g]->x=g from fun x hx=>by simpa using hx);have orr3:=((orr.below bd).chg hC (fun x hx hx2=>by have h1:=hF1'.out _ (jI _ (bF _ hx2));have h2:=hB5'.out x hx;omega)).chg hS (fun x hx hx2=>by have h1:=eY.out x hx2;have h2:=hB5'.out x hx;omega);have hX3:w.heap.size+1+1∉Fx:=fun hx=>by have:=hF1'.out _ (jI _ (bF _ hx));omega
   have RES3:=((RES.below bd).chg hC hX3).chg hS (fun hx=>by have:=eY.out _ hx;omega);have I3:=(Id.chg hC hIn).chg hS (fun hx=>by have:=eY.out _ hx;omega);have OB3:=((OB.below bd).chg hC nG).chg hS (fun hx=>hobg2 (eY.out _ hx));have B3:=(jX.trans (hC.below jX.size (fun z hz=>by have:=hF1'.out _ (jI _ (bF _ hz));omega))).trans (hS.below (base:=w.heap.size) (by have:=jX.size;omega) (fun x hx=>by have:=eY.out x hx;omega));have qV:∀ x∈F3,x∈F1:=fun x hx=>jI x (tD x hx);clear cF hC hH dV CD os orr kS aX ck ck2 sK hgf2 fU hS RES I Id jX bd dA tD;clear OB_0 OB_1 OB_2 OB_3 OB_l;clear I_0 I_l;clear OB;generalize wa.setCell ⟨g,o+j,Ab⟩ (.slice A9 k9 c9)=w7 at *
   have uS:=hltH.out.1;have fQ:=hltH.out.2;have hj3:j<=3:=Bl;replace fQ:=Bq fQ;go_wp2;have hl4:=fQ.out;exact ⟨⟨j+1,F3,Bl,by go_num,⟨o3,qV,orr3⟩,OB3,I3,RES3,B3⟩,by simp [intOf];omega⟩
  ·have aB:¬ (j:Int)<(y.shelf.length:Int):=Bl;obtain ⟨os,jI,orr⟩:=hO.out;rw [Bg Bl,List.drop_eq_nil_of_le Bl,List.append_nil] at os;have RES_:=RES.g4;have rf:=RES.free;have hRb:=Bq (show w.heap.size+1+1<base from Bl);clear hO;go_wp2;have en1:w.heap.size+1+1∉F:=fun hx=>by have:=hF1'.out _ (jI _ hx);omega
   have en2:w.heap.size+1+1∉F2:=fun hx=>by have h1:=(hB5'.out _ hx).2;have:=hRb.out;omega
   refine Aj (Lp (DBox.row4 RES rfl _ _ _ _)) rfl ⟨(⟨B1,y.shelf.length,e1⟩,⟨Ac ⟨gr,0,Ab⟩,rn,e2⟩),F ++ F2,by rw [H.out,H2.out],⟨F,F2,rfl,?_,?_,?_⟩,fun x hx=>?_,?_⟩
   ·rw [Ax];refine ⟨os.nodup,orr.nodup,fun a ha b hb e=>?_⟩;subst e;have h1:=hF1'.out a (jI a ha);have h2:=hB5'.out a hb;omega
   ·rw [H2.out];show OwL (Dt.list Bx) _ F (.slice B1 y.shelf.length e1) (y.shelf.map (C6 id));exact ((((os.set (a:=⟨_,_,Ab⟩) en1 _).set (a:=⟨_,_,Ab⟩) en1 _).set (a:=⟨_,_,Ab⟩) en1 _).set (a:=⟨_,_,Ab⟩) en1 _)
   ·rw [H2.out];show OwL Ch _ F2 (.slice (Ac ⟨gr,0,Ab⟩) rn e2) RR;exact ((((orr.set (a:=⟨_,_,Ab⟩) en2 _).set (a:=⟨_,_,Ab⟩) en2 _).set (a:=⟨_,_,Ab⟩) en2 _).set (a:=⟨_,_,Ab⟩) en2 _)
   ·rcases Bi.1 hx with hx | hx
    ·have:=hF1'.out _ (jI _ hx);omega
    ·have h1:=(hB5'.out _ hx).2;have:=hRb.out;omega
   ·repeat (first | (with_reducible exact dF) | refine Ad ?_ Bo _)
end Go.Proofs.YtonlnjdempbfoaaGreat
