/-
  Poll of the program. Written by program (ipo.py). Forget of the program: its closure, and what it leaves of a shelf. What Tick and Restart of the program ask of
-/
import Derived.Test.YtecnbnbopcblgaaGreatZAk11
import Derived.Test.YtecnbnbopcblgaaGreatZAk12
import Derived.Test.YtecnbnbopcblgaaGreatZAk13
import Derived.Test.YtecnbnbopcblgaaGreatZAk14
import Derived.Test.YtecnbnbopcblgaaGreatZAk15
namespace Go.Proofs.YtecnbnbopcblgaaGreat
open Go.RowKit
set_option maxRecDepth 100000
set_option maxHeartbeats 4000000
set_option linter.unusedVariables false
set_option linter.unusedSimpArgs false
open Value renaming int->J,slice->Aa
open IntKind renaming i64->U
open Option renaming none->Ab,some->Ac
open Below renaming setCell->Ad
open Nat renaming zero_le->Ag,le_trans->Ah,lt_of_lt_of_le->Ai
open Go renaming bodyPost_ret->Aj,wpQuiet_nil->Ak,wpAnyH_done->Al
open Go.Proofs.Tryz renaming prog->Am
open Int renaming toNat_natCast->Ao,eq_ofNat_of_zero_le->Ap
open IntWalk renaming i64_in->Aq
open List renaming length_map->Ar,getElem_mem->Aw,nodup_append->Ax,mem_append_right->Be,take_of_length_le->Bg,length_set->Bh,mem_append->Bi
open Go.Proofs.Tryz
theorem Aig {p:Prop} (h:p:=by
 have H2:=Br (show Iw y id=y by unfold Iw;rw [H.out,if_neg Bq]);have RES_:=RES.g4;have rf:=RES.free;go_wp2;have en1:w.heap.size+1+1∉F:=fun hx=>by have:=nF _ hx;omega
 refine Aj (Mt (DBox.row4 RES rfl _ _ _ _)) rfl ⟨(⟨B1,m1,e1⟩,⟨B2,m2,e2⟩),F,by rw [H.out,H2.out],by rw [H2.out];exact (by (repeat (refine Dt.ow_set Bw ?_ en1 _));exact (show Bw.ow _ F y (⟨B1,m1,e1⟩,⟨B2,m2,e2⟩) from oy)),fun x hx=>by have:=nF x hx;omega,?_⟩;repeat (first | (with_reducible exact B0) | refine Ad ?_ Bp _)):p:=h
theorem Ai6 {p:Prop} (h:p:=by
 have H2:=Br (show Je y=y by unfold Je;rw [H.out,if_neg Bq]);have RES_:=RES.g4;have OB_:=OB.g4;have rf:=RES.free;go_wp2;have en1:w.heap.size+1∉F:=fun hx=>by have:=dB.out _ hx;omega
 refine Aj (Sk (DBox.row4 RES rfl _ _ _ _)) rfl ⟨(⟨B1,m1,e1⟩,⟨B2,m2,e2⟩),F,by rw [H.out,H2.out],by rw [H2.out];exact Bw.set4 (F:=F) (x:=y) (s:=(⟨B1,m1,e1⟩,⟨B2,m2,e2⟩)) oy en1,fun x hx=>by have:=dB.out x hx;omega,?_⟩;repeat (first | (with_reducible exact B0) | refine Ad ?_ Bp _)):p:=h
theorem Am0 {p:Prop} (h:p:=by
 rcases List.mem_cons.1 hx with rfl | hx
 ·exact hobR
 ·exact hF.out.1 x hx):p:=h
theorem Po {b c:Nat} {w:World} {u0 u1 u2 u3 v0 v1 v2 v3:Value} (X:DBox b [u0,u1,u2,u3] w) (Y:DBox c [v0,v1,v2,v3] w) {x0 x1 x2 x3 x4 x5:Value} {rest:List Value} :
  (results Tryz.f132 (x0 :: x1 :: x2 :: x3 :: x4 :: x5 :: .pointer (Ac ⟨b,0,Ab⟩) :: .pointer (Ac ⟨c,0,Ab⟩) :: rest).toArray).run Am w = .ok (.tuple #[.agg #[u0,u1,u2,u3],.agg #[v0,v1,v2,v3]]) w:=by
 have c0:=X.cell 0 _ rfl;have c1:=X.cell 1 _ rfl;have c2:=X.cell 2 _ rfl;have c3:=X.cell 3 _ rfl;have d0:=Y.cell 0 _ rfl;have d1:=Y.cell 1 _ rfl;have d2:=Y.cell 2 _ rfl;have d3:=Y.cell 3 _ rfl;simp [results,results132,go_sem,c0,c1,c2,c3,d0,d1,d2,d3]
theorem Aai (y:Yard) (s:Sl×Sl) (worker:Int) (d:Nat) (w:World) (hl:Ca y<=2000000) (hd:d<=1000000000) (h:Bw.rd w w y s) :
  Calls Am 132 #[Ds y s,J U worker,J U (d:Int)] w (Rk (Jd y worker d) w):=by
 have HR:=Br (show ∀ W,Below w w W->Bw.rd W W y s from fun W hW=>Bw.rd_more (Bw.rd_below h hW) hW.size);obtain ⟨⟨A1,n1,c1⟩,⟨A2,n2,c2⟩⟩:=s;have CC:=Br (fun W hW=>Fe y (⟨A1,n1,c1⟩,⟨A2,n2,c2⟩) W hl (HR.out W hW));have CY:=Br (fun W hW=>Gk y (⟨A1,n1,c1⟩,⟨A2,n2,c2⟩) W hl (HR.out W hW));clear h;obtain ⟨W,aH,X,RES,RP,B0⟩:=bx3 w 31 [J U y.now,J U y.seq,Aa A1 n1 c1,Aa A2 n2 c2] 31 [J U 0,J U 0,Aa Ab 0 0,Aa Ab 0 0] 84 [J U 0,J U 0,J U 0,J U 0];go_enter func132,ntmps132;go_wp2_with fail
 rw [<-aH.out];clear aH;have hPl:w.heap.size+1+1<W.heap.size:=RP.lt;refine (CY.out _ B0).mono ?_;rintro e1 w1 ⟨rfl,b1⟩;replace X:=X.below b1;replace RES:=RES.below b1;replace RP:=RP.below b1;have X_:=X.g4;obtain ⟨RES_0,RES_1,RES_2,RES_3,RES_l⟩:=RES.g4;obtain ⟨RP_0,RP_1,RP_2,RP_3,RP_l⟩:=RP.g4;have aG:=Bv B0 b1;have hBs:=B0.size;have mU:=b1.size;clear B0 b1 CY;by_cases p0:Dk y;case neg =>
  have H:=Br (show Jd y worker d=(y,⟨8,0,0,0⟩) from if_pos p0);rw [Cg p0];clear p0;clear RES_0 RES_1 RES_2 RES_3 RES_l;clear RP_0 RP_1 RP_2 RP_3 RP_l;go_wp2_with fail
  refine (CC.out _ aG).mono ?_;rintro e1 w2 ⟨⟨⟨B1,m1,e1⟩,⟨B2,m2,e2⟩⟩,F,rfl,oy,nF,b2⟩;replace RES:=RES.below b2;replace RP:=RP.below b2;obtain ⟨RES_0,RES_1,RES_2,RES_3,RES_l⟩:=RES.g4;obtain ⟨RP_0,RP_1,RP_2,RP_3,RP_l⟩:=RP.g4;have rf:=RES.free;have pf:=RP.free;have aK:=Bv aG b2;go_wp2;have en1:w.heap.size+1∉F:=fun hx=>by have:=nF _ hx;omega
  have en2:w.heap.size+1+1∉F:=fun hx=>by have:=nF _ hx;omega
  have aC:w.heap.size+1+1≠w.heap.size+1:=Bl;have RES2:=DBox.row4 RES rfl (J U y.now) (J U y.seq) (Aa B1 m1 e1) (Aa B2 m2 e2);have RP2:=DBox.row4 ((((RP.setOther (a:=⟨w+1,0,Ab⟩) aC (J U y.now)).setOther (a:=⟨w+1,1,Ab⟩) aC (J U y.seq)).setOther (a:=⟨w+1,2,Ab⟩) aC (Aa B1 m1 e1)).setOther (a:=⟨w+1,3,Ab⟩) aC (Aa B2 m2 e2)) rfl (J U 8) (J U 0) (J U 0) (J U 0);have RES3:=(((RES2.setOther (a:=⟨w+1+1,0,Ab⟩) aC.symm (J U 8)).setOther (a:=⟨w+1+1,1,Ab⟩) aC.symm (J U 0)).setOther (a:=⟨w+1+1,2,Ab⟩) aC.symm (J U 0)).setOther (a:=⟨w+1+1,3,Ab⟩) aC.symm (J U 0);refine Aj (Po RES3 RP2) rfl ⟨(⟨B1,m1,e1⟩,⟨B2,m2,e2⟩),F,by rw [H.out],by rw [H.out];exact (by (repeat (refine Dt.ow_set Bw ?_ (by first | exact en1 | exact en2) _));exact (show Bw.ow _ F y (⟨B1,m1,e1⟩,⟨B2,m2,e2⟩) from oy)),fun x hx=>by have:=nF x hx;omega,?_⟩;repeat (first | (with_reducible exact aK) | refine Ad ?_ Bp _)
 rw [Di p0];cases p1:inB worker 0 99;case false =>
  have H:=Br (show Jd y worker d=(y,⟨5,0,0,0⟩) by unfold Jd;rw [if_neg (fun h=>h p0),if_pos p1]);clear p0;clear RES_0 RES_1 RES_2 RES_3 RES_l;clear RP_0 RP_1 RP_2 RP_3 RP_l;go_wp2_with (go_at_call 72;refine (Cm _ _ _ _).mono ?_;rintro e w9 ⟨rfl,rfl⟩;rw [p1])
  refine (CC.out _ aG).mono ?_;rintro e1 w2 ⟨⟨⟨B1,m1,e1⟩,⟨B2,m2,e2⟩⟩,F,rfl,oy,nF,b2⟩;replace RES:=RES.below b2;replace RP:=RP.below b2;obtain ⟨RES_0,RES_1,RES_2,RES_3,RES_l⟩:=RES.g4;obtain ⟨RP_0,RP_1,RP_2,RP_3,RP_l⟩:=RP.g4;have rf:=RES.free;have pf:=RP.free;have aK:=Bv aG b2;go_wp2;have en1:w.heap.size+1∉F:=fun hx=>by have:=nF _ hx;omega
  have en2:w.heap.size+1+1∉F:=fun hx=>by have:=nF _ hx;omega
  have aC:w.heap.size+1+1≠w.heap.size+1:=Bl;have RES2:=DBox.row4 RES rfl (J U y.now) (J U y.seq) (Aa B1 m1 e1) (Aa B2 m2 e2);have RP2:=DBox.row4 ((((RP.setOther (a:=⟨w+1,0,Ab⟩) aC (J U y.now)).setOther (a:=⟨w+1,1,Ab⟩) aC (J U y.seq)).setOther (a:=⟨w+1,2,Ab⟩) aC (Aa B1 m1 e1)).setOther (a:=⟨w+1,3,Ab⟩) aC (Aa B2 m2 e2)) rfl (J U 5) (J U 0) (J U 0) (J U 0);have RES3:=(((RES2.setOther (a:=⟨w+1+1,0,Ab⟩) aC.symm (J U 5)).setOther (a:=⟨w+1+1,1,Ab⟩) aC.symm (J U 0)).setOther (a:=⟨w+1+1,2,Ab⟩) aC.symm (J U 0)).setOther (a:=⟨w+1+1,3,Ab⟩) aC.symm (J U 0);refine Aj (Po RES3 RP2) rfl ⟨(⟨B1,m1,e1⟩,⟨B2,m2,e2⟩),F,by rw [H.out],by rw [H.out];exact (by (repeat (refine Dt.ow_set Bw ?_ (by first | exact en1 | exact en2) _));exact (show Bw.ow _ F y (⟨B1,m1,e1⟩,⟨B2,m2,e2⟩) from oy)),fun x hx=>by have:=nF x hx;omega,?_⟩;repeat (first | (with_reducible exact aK) | refine Ad ?_ Bp _)
 have pp:=Ct.1 p1;have HP:=Br p0;obtain ⟨wk,rfl⟩:=Ap pp.1;have hm:((wk:Int).tmod 4)=((wk % 4:Nat):Int):=by rw [Int.tmod_eq_emod_of_nonneg Bl];omega
 have hmw:U.wrap ((wk % 4:Nat):Int)=((wk % 4:Nat):Int):=Aq _ Bl;have qP:(wk:Int) % 4=((wk % 4:Nat):Int):=Bl;have hh:=Nat.mod_lt wk (show 0<4 by decide);have H:=Br (show Jd y wk d=Of (Me y ((wk % 4:Nat):Int) d) (wk % 4) by unfold Jd;rw [if_neg (fun h=>h p0),if_neg (by rw [p1];simp),qP,Ao]);have bH:=Pol.start p0 hh;have h4:=p0.2.2.1;clear p0 pp qP;generalize wk % 4=home at *
 have CS:=Br (fun W hW=>Qf y (⟨A1,n1,c1⟩,⟨A2,n2,c2⟩) home W Bl hl (HR.out W hW));have CV:=Br (fun W=>T0 home d W hh hd);have HG:Hid (Me y (home:Int) d=(Ey home d).foldl (Ez home) (Cb y home)):=by
  show Me y (home:Int) d=_;unfold Me;rw [Ao]
 clear RES_0 RES_1 RES_2 RES_3 RES_l;clear RP_0 RP_1 RP_2 RP_3 RP_l;go_wp2_with (go_at_call 72;refine (Cm _ _ _ _).mono ?_;rintro e w9 ⟨rfl,rfl⟩;rw [p1])
 refine (CS.out _ aG).mono ?_;rintro e1 w2 ⟨s2,F,rfl,oy,nF,b2⟩;clear X_;clear X CC HR CS;replace RES:=RES.below b2;replace RP:=RP.below b2;have aK:=Bv aG b2;have hb2s:=b2.size;clear aG b2 hm hmw;have cS:=Bw.ow_lt oy;have mC:Hid (Cb y home=Cb y home):=rfl;go_upto_region 7 with fail
 have OB:=DBox.new 31 (Ht (Cb y home) s2) w2 (b:=w2) rfl;have b3:Below w2 w2 (w2.alloc (.cells (Ht (Cb y home) s2).toArray 31)):=Bu;replace RES:=RES.below b3;replace RP:=RP.below b3;replace oy:=Bw.ow_below oy b3;have cB:=Bv aK b3;have hb3s:=b3.size;have kL:=OB.lt;have hPl2:w.heap.size+1+1<w2.heap.size:=Bl;generalize w2.alloc (.cells (Ht (Cb y home) s2).toArray 31)=w3 at *
 go_wp2_with fail
 refine (CV.out _).mono ?_;rintro e1 w4 ⟨v,rfl,ov,b4⟩;replace RES:=RES.below b4;replace RP:=RP.below b4;replace OB:=OB.below b4;replace oy:=Bw.ow_below oy b4;have cX:=Bv cB b4;obtain ⟨fW,sH⟩:=Hw.of_ow ov;obtain ⟨A9,c9,rfl,-⟩:=id (Rd.of_own ov);have sN:=S8 home d;have nG:=Br (Qq (home:=(home:Int)) (draw:=d));have pE:=Br (show ∀ v∈Ey home d,v≠home from fun v hv=>by have:=Qr (home:=(home:Int)) (draw:=d) Bl Bl v hv;omega);have cR:w2.heap.size<w3.heap.size:=kL;have aC:∀ x∈El (Aa A9 (Ey home d).length c9) (Ey home d).length,x∉F/\w2<x:=fun x hx=>⟨fun hF=>by have h1:=sH x hx;have h2:=cS x hF;omega,by have:=sH x hx;omega⟩
 have gF:(∀ x∈F,w+1+1<x)/\w2.heap.size∉F:=⟨fun x hx=>by have:=nF x hx;omega,fun hx=>by have:=cS _ hx;omega⟩
 generalize El (Aa A9 (Ey home d).length c9) (Ey home d).length=Fv at *
 generalize Ey home d=L at *
 rw [sN] at fW;rw [sN];generalize Cb y home=Z0 at *
 have sJ:w.heap.size+1+1<w2.heap.size:=hPl2;generalize w2.heap.size=ob at *
 clear cS nF sH;go_wp2;go_loopw [11,12,13,42] (fun u0 u1 u2 i wr=>∃ (k:Nat) (s:Sl×Sl) (F:List Nat),k<=3/\i = J U k/\Hid (Pol y home ((L.take k).foldl (Ez home) Z0))/\Hid (Bw.ow wr F ((L.take k).foldl (Ez home) Z0) s)/\Hid ((∀ x∈F,w+1+1<x)/\ob∉F /\ ∀ x∈Fv,x∉F)/\Hid (Hw E0 wr Fv (Aa A9 3 c9) L)/\DBox ob (Ht ((L.take k).foldl (Ez home) Z0) s) wr/\DBox (w+1) [J U 0,J U 0,Aa Ab 0 0,Aa Ab 0 0] wr/\DBox (w+1+1) [J U 0,J U 0,J U 0,J U 0] wr/\Below w w wr) (fun _ _ _ i _=>3 - (intOf i).toNat);case atStart=>exact ⟨0,s2,F,Ag _,rfl,bH,oy,⟨gF.1,gF.2,fun x hx=>(aC x hx).1⟩,fW,OB,RES,RP,cX⟩
 case round =>
  have sK:∀ x∈Fv,ob<x:=fun x hx=>(aC x hx).2;clear bH oy gF fW OB RES RP cX aC ov b4;obtain ⟨k,s,F,hk,rfl,bH,oy,hF,fW,OB,RES,RP,hb⟩:=hrel;have aF:Hid (∀ h:k<L.length,(L.take (k+1)).foldl (Ez home) Z0=Ez home ((L.take k).foldl (Ez home) Z0) L[k]):=fun h=>Kv (Ez home) Z0 L k h;have cW:Hid ((k=3 \/ ¬ (((L.take k).foldl (Ez home) Z0).shelf.getD home []).length=0)->L.foldl (Ez home) Z0=(L.take k).foldl (Ez home) Z0):=Akf
  generalize (L.take k).foldl (Ez home) Z0=Zk at *
  obtain ⟨⟨B1,m1,e1⟩,⟨B2,m2,e2⟩⟩:=s;have jY:=bH.out.four;have oyr:=Bw.ow_rd oy.out;have mF:home<Zk.shelf.length:=Bl;obtain rfl:m1=4:=(RdL.at1 (s:=⟨B1,m1,e1⟩) oyr.1).trans jY;obtain ⟨g,o,⟨xa,xn,xc⟩,rfl,gD,fE,ch⟩:=RdL.entryS (show RdL (Dt.list By) wr wr.heap.size (Aa B1 4 e1) Zk.shelf from oyr.1) mF;obtain rfl:xn=Zk.shelf[home].length:=RdL.at1 (s:=⟨xa,xn,xc⟩) fE;have hhI:(home:Int)<4:=Bl;have hh0:(0:Int)<=(home:Int):=Bl;have rK:=bH.out.all _ (Aw mF);obtain ⟨OB_0,OB_1,OB_2,OB_3,OB_l⟩:=OB.g4;have dF:=Br (G8 mF);have hwrs:=hb.size;have hRPl:=RP.lt;have hobl:=OB.lt;rcases (show (k<3/\Zk.shelf[home].length=0)\/(k<3 /\ ¬ Zk.shelf[home].length=0) \/ ¬ k<3 by by_cases k<3<;>by_cases Zk.shelf[home].length=0<;>simp [*]) with ⟨aA,hq⟩ | ⟨aA,hq⟩ | aA
  ·have aB:(k:Int)<3:=Bl
   ·have qV:((Zk.shelf[home].length:Int) == 0)=true:=by simp [hq]
    have pQ:k<L.length:=Bl;have hv4:L[k]<4:=nG.out _ (Aw pQ);have jR:L[k]≠home:=pE.out _ (Aw pQ);obtain ⟨gv,ov,rfl,hgv,cv⟩:=fW.out.rd.nat pQ;replace aF:=Br (aF.out pQ);have bI:=fW.out.block Bl;generalize L[k]=v at *
    have hP1:Hid (Pol y home (Kx home Zk v)):=Aml
    replace aF:=Br (aF.out.trans (Nj (by rw [dF.out];exact hq) jR));have hE0:=Br (show (Cb Zk v).shelf.getD home []=[] by rw [Se jR,dF.out];exact List.eq_nil_of_length_eq_zero hq);have sU:=fW.out.lt;have hvI:(v:Int)<4:=Bl;have hv0:(0:Int)<=(v:Int):=Bl;have cE:(0:Int)<=(k:Int):=Bl;have hzc:=bH.out.cnt HP.out;have CS:=Br (Qf Zk (⟨Ac ⟨g,o,Ab⟩,4,e1⟩,⟨B2,m2,e2⟩) v wr Bl hzc oyr);go_wp2_with fail
    clear hq;refine CS.out.mono ?_;rintro e w2 ⟨⟨⟨C1,p1,f1⟩,⟨C2,p2,f2⟩⟩,F2,rfl,oy2,n2,b2⟩;have OB2:=OB.below b2;have k0:=OB2.cell 0 _ rfl;have k1:=OB2.cell 1 _ rfl;have k2:=OB2.cell 2 _ rfl;have k3:=OB2.cell 3 _ rfl;have kf:=OB2.free;have kl:=OB2.lt;go_upto_region 12 with fail
    have b2':Below wr wr w2:=b2;clear k0 k1 k2 k3 kf kl;have OB3:=DBox.row4 OB2 rfl (J U (Cb Zk v).now) (J U (Cb Zk v).seq) (Aa C1 p1 f1) (Aa C2 p2 f2);have eA:=Chg.cells4 w2 ob 0 1 2 3 (J U (Cb Zk v).now) (J U (Cb Zk v).seq) (Aa C1 p1 f1) (Aa C2 p2 f2);have eT:=Br (show ∀ x,x∈[ob]->x=ob from fun x hx=>by simpa using hx);have RES3:=(RES.below b2').chg eA (fun hx=>by have:=eT.out _ hx;omega);have RP3:=(RP.below b2').chg eA (fun hx=>by have:=eT.out _ hx;omega);have dY:=(fW.out.below b2').chg eA (fun x hx hx2=>by have h1:=eT.out _ hx2;have h2:=sK x hx;omega);have eV:ob∉F2:=fun hx=>by have h1:=n2 _ hx;have h3:=OB_l;omega
    have oy3:=Bw.ow_chg (F:=F2) (x:=Cb Zk v) (s:=(⟨C1,p1,f1⟩,⟨C2,p2,f2⟩)) oy2 eA (fun x hx hx2=>by have:=eT.out _ hx2;subst this;exact eV hx);have cB:Below w w _:=(Bv hb b2').trans (eA.below (by have:=b2'.size;omega) (fun x hx=>by have:=eT.out _ hx;omega));have dS:∀ x∈F2,wr<=x:=n2;have eB:=b2'.size;have kT:=eA.size;replace cv:=(eA.cell (p:=⟨gv,_,Ab⟩) (by show gv<w2;omega) (fun hx=>by have h1:gv=ob:=eT.out _ hx;have h2:=sK gv (by rw [bI.1];simp);omega)).trans ((b2'.cell (p:=⟨gv,_,Ab⟩) (by show gv<wr;omega)).trans cv);have pU:∀ x∈F2,w+1+1<x:=fun x hx=>by have h1:=dS x hx;have h2:=RP.lt;omega
    clear OB_0 OB_1 OB_2 OB_3 OB_l;clear OB RES RP fW oy oy2 n2 b2 b2' hb OB2 oyr fE ch hF CS;generalize (((w2.setCell ⟨ob,0,Ab⟩ (J U (Cb Zk v).now)).setCell ⟨ob,1,Ab⟩ (J U (Cb Zk v).seq)).setCell ⟨ob,2,Ab⟩ (Aa C1 p1 f1)).setCell ⟨ob,3,Ab⟩ (Aa C2 p2 f2)=w3 at *
    have OB:=OB3;clear OB3;obtain ⟨OB_0,OB_1,OB_2,OB_3,OB_l⟩:=OB.g4;have h41:(Cb Zk v).shelf.length=4:=by rw [Ni];exact jY
    have oyr3:=Bw.ow_rd (F:=F2) (x:=Cb Zk v) oy3;obtain rfl:p1=4:=(RdL.at1 (s:=⟨C1,p1,f1⟩) oyr3.1).trans h41;have jA:v<(Cb Zk v).shelf.length:=Bl;obtain ⟨g2,o2,⟨va,vn,vc⟩,rfl,dW,uM,cv2⟩:=RdL.entryS (show RdL (Dt.list By) w3 w3.heap.size (Aa C1 4 f1) (Cb Zk v).shelf from oyr3.1) jA;have eS:=Pm (i:=v) bH.out.all;have jI:=eS _ (Aw jA);have CH:=Br (Zw (Cb Zk v).shelf[v] ⟨va,vn,vc⟩ w3 Bl uM);have hgvw:gv<w3:=Bl;go_wp2_with fail
    refine CH.out.mono ?_;rintro e w4 ⟨⟨qa1,qn1,qc1⟩,Fh1,⟨qa2,qn2,qc2⟩,Fh2,rfl,oh1,oh2,nh1,nh2,dh,b4⟩;go_upto_region 13 with fail
    have b4':Below w3 w3 w4:=b4;have pV:=b4'.size;have hnh1:∀ x∈Fh1,w3<=x:=nh1;have mI:∀ x∈Fh2,w3<=x:=nh2;replace oy3:Bw.ow w3 F2 (Cb Zk v) (⟨Ac ⟨g2,o2,Ab⟩,4,f1⟩,⟨C2,p2,f2⟩):=oy3;have hfl2:=Bw.ow_lt (F:=F2) (x:=Cb Zk v) (s:=(⟨Ac ⟨g2,o2,Ab⟩,4,f1⟩,⟨C2,p2,f2⟩)) oy3;clear OB_0 OB_1 OB_2 OB_3 OB_l;replace OB:=OB.below b4';replace RES3:=RES3.below b4';replace RP3:=RP3.below b4';replace dY:=dY.below b4';replace oy3:Bw.ow w4 F2 (Cb Zk v) (⟨Ac ⟨g2,o2,Ab⟩,4,f1⟩,⟨C2,p2,f2⟩):=owB oy3 b4';replace cB:=Bv cB b4';replace cv:=(b4'.cell (p:=⟨gv,_,Ab⟩) (by show gv<w3;omega)).trans cv;replace cv2:=(b4'.cell (p:=⟨g2,_,Ab⟩) (by show g2<w3;omega)).trans cv2;clear nh1 nh2 b4 b4' CH oyr3 uM;obtain ⟨OB_0,OB_1,OB_2,OB_3,OB_l⟩:=OB.g4;have kH:∀ j,w4.frozen? ⟨g2,j,Ab⟩=false:=Ak9
    have mJ:g2<w4:=Bl;have vK:(Cb Zk v).shelf[home]' Bl=[]:=by
     have h1:=hE0.out;rw [G8 Bl] at h1;exact h1
    have vN:=Br (show Kx home Zk v=⟨(Cb Zk v).now,(Cb Zk v).seq,((Cb Zk v).shelf.set home (Gy [] ((Cb Zk v).shelf[v].take (Df (Cb Zk v).shelf[v])))).set v ((Cb Zk v).shelf[v].drop (Df (Cb Zk v).shelf[v])),(Cb Zk v).runs⟩ by
     unfold Kx;rw [G8 jA,List.set_comm _ _ jR];rfl)
    obtain ⟨_,_,⟨xa2,xn2,xc2⟩,dD,_,gM,cx⟩:=RdL.entryS (show RdL (Dt.list By) w4 w4.heap.size (Aa (Ac ⟨g2,o2,Ab⟩) 4 f1) (Cb Zk v).shelf from (Bw.ow_rd (F:=F2) (x:=Cb Zk v) oy3).1) (k:=home) Bl;simp only [Option.some.injEq,Addr.mk.injEq,and_true] at dD;obtain ⟨rfl,rfl⟩:=dD;replace gM:RdL By w4 w4 (Aa xa2 xn2 xc2) ((Cb Zk v).shelf[home]' Bl):=gM;rw [vK] at gM;obtain rfl:xn2=0:=RdL.at1 (s:=⟨xa2,xn2,xc2⟩) gM;have fA:((Cb Zk v).shelf[v].take (Df (Cb Zk v).shelf[v])).length<=80:=M0 _ jI;have CM:=Br (V2 [] ((Cb Zk v).shelf[v].take (Df (Cb Zk v).shelf[v])) ⟨xa2,0,xc2⟩ ⟨qa1,qn1,qc1⟩ w4.drew Bo Bl (RdL.below gM (Bs _ _).drew) (RdL.below oh1.rd (Bs _ _).drew));have hobw4:ob<w4:=OB_l;have hobF2':=eV;clear vK gM jI;generalize (Cb Zk v).shelf[v].take (Df (Cb Zk v).shelf[v])=lt_ at *
    generalize hlr:(Cb Zk v).shelf[v].drop (Df (Cb Zk v).shelf[v])=lr_ at *
    replace hlr:=Br hlr;refine Dh (fun w'=>w'.cell? ⟨ob,2,Ab⟩=Ac (Aa (Ac ⟨g2,o2,Ab⟩) 4 f1)/\w'.cell? ⟨g2,o2+home,Ab⟩=Ac (Aa xa2 0 xc2)) 11 Bm ?_ (fun hHeld=>?_)
    ·exact ⟨OB_2,cx⟩
    refine aT 0 hHeld ?_;try simp only [pS]
    refine aT 1 hHeld ?_;try simp only [pS]
    refine aT 2 hHeld ?_;try simp only [pS]
    refine aT 3 hHeld ?_;try simp only [pS]
    refine aT 4 hHeld ?_;try simp only [pS]
    refine aT 5 hHeld ?_;try simp only [pS]
    refine aT 6 hHeld ?_;try simp only [pS]
    refine aT 7 hHeld ?_;try simp only [pS]
    refine aT 8 hHeld ?_;try simp only [pS]
    refine oT 9 (fun K hK=>?_)
    (go_simp;refine CM.out.mono ?_;rintro e w6 ⟨⟨ma,mn,mc⟩,Fm,rfl,om,nm,b6⟩;have hgc:w6.cell? ⟨g2,o2+home,Ab⟩=Ac (Aa xa2 0 xc2):=(b6.cell (p:=⟨_,_,Ab⟩) (by show g2<w4;omega)).trans cx;have qJ:∀ j,w6.frozen? ⟨g2,j,Ab⟩=false:=fun j=>(b6.frozen (p:=⟨_,_,Ab⟩) (by show g2<w4;omega)).trans (kH j))
    have HSx:w6.cell? ⟨ob,2,Ab⟩=Ac (Aa (Ac ⟨g2,o2,Ab⟩) 4 f1)/\w6.cell? ⟨g2,o2+home,Ab⟩=Ac (Aa xa2 0 xc2):=⟨(b6.cell (p:=⟨_,_,Ab⟩) (by show ob<w4;omega)).trans OB_2,hgc⟩
    refine hK.out _ _ (fun _=>HSx) ?_;clear hK K;try simp only [pS]
    refine oT 10 (fun K hK=>?_);go_simp;refine hK.out _ _ (fun _=>HSx) ?_;clear hK K;try simp only [pS]
    refine oT 11 (fun K hK=>?_);go_simp;refine hK.out _ _ (fun aC=>absurd rfl aC) ?_;clear hK K HSx;try simp only [pS]
    refine Eh Bm ?_ _;have b6':Below w4 w4 w6:=Bv (Bs _ _).drew b6;have qL:=b6'.size;have tM:∀ x∈Fm,w4<=x:=nm;have jN:=Bw.ow_lt (F:=F2) (x:=Cb Zk v) (s:=(⟨Ac ⟨g2,o2,Ab⟩,4,f1⟩,⟨C2,p2,f2⟩)) oy3;have oy6:=Bw.ow_below (F:=F2) (x:=Cb Zk v) (s:=(⟨Ac ⟨g2,o2,Ab⟩,4,f1⟩,⟨C2,p2,f2⟩)) oy3 b6';have oh2':=oh2.below b6';obtain ⟨F5,oy5,hF5,kP⟩:=Gt oy6 (i:=home) Bl (l:=Gy [] lt_) (t:=⟨ma,mn,mc⟩) om (fun x hx bI=>by have h1:=tM x hx;have h2:=jN x bI;omega);have dP:Chg [g2] w6 (w6.setCell ⟨g2,o2+home,Ab⟩ (Aa ma mn mc)):=Chg.setCell w6 g2 _ _;have bQ:=Br (show ∀ x,x∈[g2]->x=g2 from fun x hx=>by simpa using hx);have hg2gt:=pU _ kP;have hg2n:=dS _ kP;have eL:ob≠g2:=fun h=>eV (by rw [h];exact kP);clear OB_0 OB_1 OB_2 OB_3 OB_l;replace OB:=(OB.below b6').chg dP (fun hx=>eL (bQ.out _ hx));replace RES3:=(RES3.below b6').chg dP (fun hx=>by have:=bQ.out _ hx;omega);replace RP3:=(RP3.below b6').chg dP (fun hx=>by have:=bQ.out _ hx;omega);replace dY:=(dY.below b6').chg dP (fun x hx hx2=>by have h1:=bQ.out _ hx2;have h2:=sU x hx;omega);have oh3:=oh2'.chg dP (fun x hx hx2=>by have h1:=bQ.out _ hx2;have h2:=mI x hx;omega);replace cB:=(Bv cB b6').trans (dP.below (by have:=(Bv cB b6').size;omega) (fun x hx=>by have:=bQ.out _ hx;omega));have hfg5:∀ j,(w6.setCell ⟨g2,o2+home,Ab⟩ (Aa ma mn mc)).frozen? ⟨g2,j,Ab⟩=false:=fun j=>(J5 w6 _ _ _).trans (qJ j);have qD:=dP.size;have hFm5:∀ x∈Fh2,x<w4:=fun x hx=>oh2.lt x hx;clear dP hHeld oy3 oy6 oh1 oh2 oh2' kH cv cv2 b6 b6' nm om CM cx hgc qJ;generalize w6.setCell ⟨g2,o2+home,Ab⟩ (Aa ma mn mc)=w5 at *
    replace oy5:Bw.ow w5 F5 ⟨(Cb Zk v).now,(Cb Zk v).seq,(Cb Zk v).shelf.set home (Gy [] lt_),(Cb Zk v).runs⟩ (⟨Ac ⟨g2,o2,Ab⟩,4,f1⟩,⟨C2,p2,f2⟩):=oy5;obtain ⟨_,_,⟨xa3,xn3,xc3⟩,dD,_,_,cx3⟩:=RdL.entryS (show RdL (Dt.list By) w5 w5.heap.size (Aa (Ac ⟨g2,o2,Ab⟩) 4 f1) ((Cb Zk v).shelf.set home (Gy [] lt_)) from (Bw.ow_rd (F:=F5) (x:=⟨(Cb Zk v).now,(Cb Zk v).seq,(Cb Zk v).shelf.set home (Gy [] lt_),(Cb Zk v).runs⟩) oy5).1) (k:=v) (by rw [Bh];omega);simp only [Option.some.injEq,Addr.mk.injEq,and_true] at dD;obtain ⟨rfl,rfl⟩:=dD;obtain ⟨F7,oy7,gE,-⟩:=Gt oy5 (i:=v) (by show v<(List.set _ _ _).length;rw [Bh];omega) (l:=lr_) (t:=⟨qa2,qn2,qc2⟩) oh3 (fun x hx bI=>by
     rcases hF5 x bI with h | h
     ·have h1:=mI x hx;have h2:=hfl2 x h;omega
     ·have h1:=hFm5 x hx;have h2:=tM x h;omega)
    have gP:Chg [g2] w5 (w5.setCell ⟨g2,o2+v,Ab⟩ (Aa qa2 qn2 qc2)):=Chg.setCell w5 g2 _ _;have hg2w5:g2<w5:=Bl;obtain ⟨OB_0,OB_1,OB_2,OB_3,OB_l⟩:=OB.g4;go_upto_region 15 with fail
    clear OB_0 OB_1 OB_2 OB_3 OB_l;replace OB:=OB.chg gP (fun hx=>eL (bQ.out _ hx));replace RES3:=RES3.chg gP (fun hx=>by have:=bQ.out _ hx;omega);replace RP3:=RP3.chg gP (fun hx=>by have:=bQ.out _ hx;omega);replace dY:=dY.chg gP (fun x hx hx2=>by have h1:=bQ.out _ hx2;have h2:=sU x hx;omega);replace cB:=cB.trans (gP.below (by have:=cB.size;omega) (fun x hx=>by have:=bQ.out _ hx;omega));have kI:∀ x∈F7,x∈F2\/w3<=x:=fun x hx=>by
     rcases gE x hx with h | h
     ·rcases hF5 x h with h' | h'
      ·exact .inl h'
      ·right;have:=tM x h';omega
     ·exact .inr (mI x h)
    clear oy5 gP cx3 hfg5;generalize w5.setCell ⟨g2,o2+v,Ab⟩ (Aa qa2 qn2 qc2)=w7 at *
    go_wp2;exact ⟨⟨k+1,(⟨Ac ⟨g2,o2,Ab⟩,4,f1⟩,⟨C2,p2,f2⟩),F7,Bl,by go_num,by rw [aF.out];exact hP1,by rw [aF.out,vN.out];exact oy7,⟨fun x hx=>by (rcases kI x hx with h | h);exact pU x h;omega,fun hx=>by (rcases kI _ hx with h | h);exact eV h;omega,fun x hx bI=>by have h1:=sU x hx;(rcases kI x bI with h | h);have:=dS x h;omega;omega⟩,dY,by rw [aF.out,vN.out];exact OB,RES3,RP3,cB⟩,clM⟩
  have aB:(k:Int)<3:=Bl;have qV:(0:Int)<(Zk.shelf[home].length:Int):=Bl;have hqn:0<Zk.shelf[home].length:=Bl;have hqe:¬ Zk.shelf[home]=[]:=fun h=>hq (by rw [h];rfl);have pQ:k<L.length:=Bl;obtain ⟨gv,ov,rfl,hgv,cv⟩:=fW.out.rd.nat pQ;have cE:(0:Int)<=(k:Int):=Bl;generalize L[k]=v at *
  replace cW:=Br (cW.out (.inr (by rw [dF.out];exact hq)));clear hq;rotate_left;have aB:¬ (k:Int)<3:=Bl;have qV:True:=trivial;replace cW:=Br (cW.out (.inl Bl));all_goals
   have HZ:=Br (show Jd y (wk:Int) d=Of Zk home by rw [H.out,HG.out,cW.out]);have kS:∀ e∈Zk.shelf[home],Vc Zk e:=fun e he=>by
    exact Al7
   replace fE:RdL By wr wr (Aa xa Zk.shelf[home].length xc) Zk.shelf[home]:=fE;have qI:=bH.out.all _ (Aw mF);have qU:Hid (Of Zk home=S9 Zk home Zk.shelf[home]):=by
    show Of Zk home=_;unfold Of;rw [dF.out]
   have CT:=Br (Q9 Zk.shelf[home] ⟨xa,Zk.shelf[home].length,xc⟩ wr Bl fE);clear aF dF fW nG pE mC sK H HG cW;generalize Zk.shelf[home]=SH at *
   go_wp2_with fail
   refine CT.out.mono ?_
   (try clear hqe)
   (try clear hqn)
   (try clear qV)
   have qV:True:=trivial;rintro e9 w2 ⟨⟨ta,tn,tc⟩,Ft,rfl,ot,nt,b2⟩;replace oy:Bw.ow wr F Zk (⟨Ac ⟨g,o,Ab⟩,4,e1⟩,⟨B2,m2,e2⟩):=oy.out;have qC:=Bw.ow_lt (F:=F) (x:=Zk) (s:=(⟨Ac ⟨g,o,Ab⟩,4,e1⟩,⟨B2,m2,e2⟩)) oy;replace oy:Bw.ow w2 F Zk (⟨Ac ⟨g,o,Ab⟩,4,e1⟩,⟨B2,m2,e2⟩):=owB oy b2;clear OB_0 OB_1 OB_2 OB_3 OB_l;replace OB:=OB.below b2;replace RES:=RES.below b2;replace RP:=RP.below b2;have aK:=Bv hb b2;have eB:=b2.size;clear b2 CT ch fE hb oyr;have aC:w.heap.size+1+1≠w.heap.size+1:=Bl;cases SH with
   | nil =>
    have HF:=Br (HZ.out.trans qU.out);clear HZ qU kS ot;have EB0:Below w2 w2 (w2.alloc (.cells #[J U 0,J U 0,J U 0,J U 0] 71)):=Bu;go_upto_region 17 with fail
    replace oy:Bw.ow _ F Zk (⟨Ac ⟨g,o,Ab⟩,4,e1⟩,⟨B2,m2,e2⟩):=owB oy EB0;replace OB:=OB.below EB0;replace RES:=RES.below EB0;replace RP:=RP.below EB0;replace aK:=Bv aK EB0;clear EB0;generalize w2.alloc (.cells #[J U 0,J U 0,J U 0,J U 0] 71)=w3 at *
    obtain ⟨OB_0,OB_1,OB_2,OB_3,OB_l⟩:=OB.g4;obtain ⟨RES_0,RES_1,RES_2,RES_3,RES_l⟩:=RES.g4;obtain ⟨RP_0,RP_1,RP_2,RP_3,RP_l⟩:=RP.g4;have rf:=RES.free;have pf:=RP.free;go_wp2;have en1:w.heap.size+1∉F:=fun hx=>by have:=hF.out.1 _ hx;omega
    have en2:w.heap.size+1+1∉F:=fun hx=>by have:=hF.out.1 _ hx;omega
    have RES2:=DBox.row4 RES rfl (J U Zk.now) (J U Zk.seq) (Aa (Ac ⟨g,o,Ab⟩) 4 e1) (Aa B2 m2 e2);have RP2:=DBox.row4 ((((RP.setOther (a:=⟨w+1,0,Ab⟩) aC (J U Zk.now)).setOther (a:=⟨w+1,1,Ab⟩) aC (J U Zk.seq)).setOther (a:=⟨w+1,2,Ab⟩) aC (Aa (Ac ⟨g,o,Ab⟩) 4 e1)).setOther (a:=⟨w+1,3,Ab⟩) aC (Aa B2 m2 e2)) rfl (J U 9) (J U 0) (J U 0) (J U 0);have RES3:=(((RES2.setOther (a:=⟨w+1+1,0,Ab⟩) aC.symm (J U 9)).setOther (a:=⟨w+1+1,1,Ab⟩) aC.symm (J U 0)).setOther (a:=⟨w+1+1,2,Ab⟩) aC.symm (J U 0)).setOther (a:=⟨w+1+1,3,Ab⟩) aC.symm (J U 0);refine Aj (Po RES3 RP2) rfl ⟨(⟨Ac ⟨g,o,Ab⟩,4,e1⟩,⟨B2,m2,e2⟩),F,by rw [HF.out];rfl,by rw [HF.out];exact (by (repeat (refine Dt.ow_set Bw ?_ (by first | exact en1 | exact en2) _));exact (show Bw.ow _ F Zk (⟨Ac ⟨g,o,Ab⟩,4,e1⟩,⟨B2,m2,e2⟩) from oy)),fun x hx=>by have:=hF.out.1 x hx;omega,?_⟩;repeat (first | (with_reducible exact aK) | refine Ad ?_ Bp _)
   | cons e rest =>
    obtain ⟨jL,⟨gW,qW⟩,dX⟩:=kS e (List.mem_cons_self ..);obtain ⟨pr,sq,rn,tk⟩:=e;dsimp only at jL gW qW dX;obtain ⟨t,rfl⟩:=Ap gW;rcases E9 Zk rn with gV | ⟨j,hj,gV⟩
    ·exact absurd jL Bl
    have dI:=Ha hj gV;rw [dI] at qW dX;have vA:j<y.runs.length:=by rw [<-bH.out.runs];exact hj
    have sQ:Hid (Hn Zk.runs[j]):=Al0
    have HF:=Br (HZ.out.trans (qU.out.trans (show _=((⟨Zk.now,Zk.seq,Zk.shelf.set home rest,Zk.runs.set j (Eo Zk.runs[j] t Zk.now)⟩:Yard),(⟨0,rn,t,(Cv Zk.runs[j] t).try_+1⟩:Reply)) by show S9 _ _ (_ :: _)=_;unfold S9;dsimp only;rw [gV,dI,Ao,Ao])));have gT:=Br (show 0<=Zk.now/\Zk.now<=999999980 by rw [bH.out.now];exact HP.out.1);have hrun8:Zk.runs.length<=8:=by rw [bH.out.runs];exact HP.out.2.2.2.2.2.2.1
    have fA:t<Zk.runs[j].tasks.length:=Bl;have sL:=Cu fA;have nI:=Br (show Dn ⟨Zk.now,Zk.seq,Zk.shelf.set home rest,Zk.runs⟩ rn=j from (N3 (y:=Zk) rfl rn).trans gV);have tZ:=Br (show Ca ⟨Zk.now,Zk.seq,Zk.shelf.set home rest,Zk.runs⟩<=2000000 by
     have:=Ls (y:=⟨Zk.now,Zk.seq,Zk.shelf.set home rest,Zk.runs⟩) (M:=80) (by simpa using jY) (fun s hs=>by
      rcases List.mem_or_eq_of_mem_set hs with h | h
      ·exact bH.out.all s h
      ·subst h;simp at qI;omega) hrun8 (fun k hk=>by
       have aZ:k<y.runs.length:=by rw [<-bH.out.runs];exact hk
       have e:Zk.runs[k]=y.runs[k]:=by simp only [bH.out.runs]
       show Hn Zk.runs[k];rw [e];exact Ev HP.out aZ)
     omega)
    clear HZ qU kS gV dI jL gW qW dX vA rK qV;replace ot:OwL By w2 Ft (Aa ta tn tc) rest:=ot;have fF:∀ x∈Ft,wr<=x/\x<w2:=fun x hx=>⟨nt x hx,ot.lt x hx⟩
    have EB:=DBox.new 71 [J U pr,J U sq,J U rn,J U (t:Int)] w2 (b:=w2) rfl;have EB0:Below w2 w2 (w2.alloc (.cells #[J U pr,J U sq,J U rn,J U (t:Int)] 71)):=Bu;go_upto_region 17 with fail
    replace oy:Bw.ow _ F Zk (⟨Ac ⟨g,o,Ab⟩,4,e1⟩,⟨B2,m2,e2⟩):=owB oy EB0;replace ot:=ot.below EB0;replace OB:=OB.below EB0;replace RES:=RES.below EB0;replace RP:=RP.below EB0;replace aK:=Bv aK EB0;clear nt EB0;generalize w2.alloc (.cells #[J U pr,J U sq,J U rn,J U (t:Int)] 71)=w3 at *
    have hebl:=EB.lt;generalize w2.heap.size=eb at *
    obtain ⟨OB_0,OB_1,OB_2,OB_3,OB_l⟩:=OB.g4;have EB_:=EB.g4;replace oy:Bw.ow w3 F Zk (⟨Ac ⟨g,o,Ab⟩,4,e1⟩,⟨B2,m2,e2⟩):=oy;have kH:∀ j,w3.frozen? ⟨g,j,Ab⟩=false:=Ali
    obtain ⟨_,_,⟨xa3,xn3,xc3⟩,dD,sS,_,ch⟩:=RdL.entryS (show RdL (Dt.list By) w3 w3.heap.size (Aa (Ac ⟨g,o,Ab⟩) 4 e1) Zk.shelf from (Bw.ow_rd (F:=F) (x:=Zk) oy).1) mF;simp only [Option.some.injEq,Addr.mk.injEq,and_true] at dD;obtain ⟨rfl,rfl⟩:=dD;obtain ⟨F4,oy4,vF,eY⟩:=Gt oy mF (l:=rest) (t:=⟨ta,tn,tc⟩) ot (fun x hx bI=>by have h1:=(fF x hx).1;have h2:=qC x bI;omega);go_upto_region 20 with fail
    have eQ:Chg [g] w3 (w3.setCell ⟨g,o+home,Ab⟩ (Aa ta tn tc)):=Chg.setCell w3 g _ _;have bQ:=Br (show ∀ x,x∈[g]->x=g from fun x hx=>by simpa using hx);have hgF2:=hF.out.1 g eY;have eL:ob≠g:=fun h=>hF.out.2.1 (by rw [h];exact eY);clear OB_0 OB_1 OB_2 OB_3 OB_l;clear EB_;replace OB:=OB.chg eQ (fun hx=>eL (bQ.out _ hx));replace EB:=EB.chg eQ (fun hx=>by have:=bQ.out _ hx;omega);replace RES:=RES.chg eQ (fun hx=>by have:=bQ.out _ hx;omega);replace RP:=RP.chg eQ (fun hx=>by have:=bQ.out _ hx;omega);have pV:=eQ.size;replace aK:=aK.trans (eQ.below (by have:=aK.size;omega) (fun x hx=>by have:=bQ.out _ hx;omega));clear eQ oy kH ch ot;generalize w3.setCell ⟨g,o+home,Ab⟩ (Aa ta tn tc)=w4 at *
    replace oy4:Bw.ow w4 F4 ⟨Zk.now,Zk.seq,Zk.shelf.set home rest,Zk.runs⟩ (⟨Ac ⟨g,o,Ab⟩,4,e1⟩,⟨B2,m2,e2⟩):=oy4;have gZ:∀ x∈F4,(x∈F\/(wr<=x/\x<eb)):=fun x hx=>(vF x hx).imp id (fun h=>fF x h);have CA:=Br (fun W (hW:Below w4 w4 W)=>Fj ⟨Zk.now,Zk.seq,Zk.shelf.set home rest,Zk.runs⟩ (⟨Ac ⟨g,o,Ab⟩,4,e1⟩,⟨B2,m2,e2⟩) rn W tZ.out (Bw.rd_more (Bw.rd_below (Bw.ow_rd (F:=F4) (x:=⟨Zk.now,Zk.seq,Zk.shelf.set home rest,Zk.runs⟩) oy4) hW) hW.size));rw [nI.out] at CA;have oyr:=(Bw.ow_rd (F:=F4) (x:=⟨Zk.now,Zk.seq,Zk.shelf.set home rest,Zk.runs⟩) oy4).2;have dH:m2=Zk.runs.length:=RdL.at1 (s:=⟨B2,m2,e2⟩) oyr;subst dH;have jF:(j:Int)<(Zk.runs.length:Int):=Bl;have bX:(0:Int)<=(j:Int):=Bl;have hobw4:ob<w4:=OB.lt;have hebw4:eb<w4:=EB.lt;obtain ⟨gr0,orr0,-,rfl,hgrw0,-⟩:=RdL.run (show RdL Cf w4 w4.heap.size (Aa B2 Zk.runs.length e2) Zk.runs from oyr) hj;obtain ⟨OB_0,OB_1,OB_2,OB_3,OB_l⟩:=OB.g4;have EB_:=EB.g4;have aM:=Cw w4;refine Bz Bm Bm ?_;repeat (go_big_quiet_step ((go_at_call 78;rename_i x;exact Fu (CA.out x.1 x.2))))
    refine Ak ?_;rintro w5 ⟨⟨_,b5⟩,rfl⟩;clear OB_0 OB_1 OB_2 OB_3 OB_l;clear EB_;replace OB:=OB.below b5;replace EB:=EB.below b5;replace RES:=RES.below b5;replace RP:=RP.below b5;replace aK:=Bv aK b5;replace oy4:Bw.ow w5 F4 ⟨Zk.now,Zk.seq,Zk.shelf.set home rest,Zk.runs⟩ (⟨Ac ⟨g,o,Ab⟩,4,e1⟩,⟨Ac ⟨gr0,orr0,Ab⟩,Zk.runs.length,e2⟩):=owB oy4 b5;have qD:=b5.size;clear b5 CA nI tZ aM oyr;obtain ⟨G1,G2,sP,bP,osS,osR⟩:=oy4;replace osS:OwL (Dt.list By) w5 G1 (Aa (Ac ⟨g,o,Ab⟩) 4 e1) (Zk.shelf.set home rest):=osS;replace osR:OwL Cf w5 G2 (Aa (Ac ⟨gr0,orr0,Ab⟩) Zk.runs.length e2) Zk.runs:=osR;obtain ⟨gr,orr,rs,sr,Ga,Fx,Gb,hAe,hG2,mZ,F5_⟩:=osR.foc hj;simp only [Option.some.injEq,Addr.mk.injEq,and_true] at hAe;obtain ⟨rfl,rfl⟩:=hAe;generalize nB:Zk.runs[j]=r at *
    obtain ⟨Fp,gt,ot2,tc2,jW,hnx,eB,op,oh,hgg,hgp⟩:=F5_.atRun Bl;obtain ⟨sr1,sr2⟩:=sr;obtain rfl:sr2=_:=eB;have kN:-1000000<=r.tasks[t].try_/\r.tasks[t].try_<=2000000000/\0<=r.plan.wait/\r.plan.wait<=2000000000:=Akr
    have hmemF:gt∈F4/\gr0∈F4:=by
     rw [sP,hG2,jW];exact ⟨Bo,Bo⟩
    have hdF:∀ x∈G1,x≠gt:=fun x hx e=>by
     rw [sP,Ax] at bP;exact bP.2.2 x hx gt (by rw [hG2,jW];simp) e
    have jD:∀ x∈F4,w+1+1<x/\x≠ob/\x≠eb:=fun x hx=>by
     rcases gZ x hx with h1 | h1
     ·refine ⟨hF.out.1 x h1,fun e=>hF.out.2.1 (by rw [<-e];exact h1),fun e=>?_⟩
      have:=qC x h1
      omega
     ·omega
    have hgt4:=jD gt hmemF.1;have hgr5:=F5_.blk;have kF:(t:Int)<(r.tasks.length:Int):=Bl;have gW:(0:Int)<=(t:Int):=Bl;have hgtw:gt<w5:=(oh.block Bl).2.1;have nP:=(oh.block Bl).2.2;obtain ⟨c0,c1,c2,c3,c4,c5,c6,c7⟩:=F5_.run;have hobw5:ob<w5:=Bl;have hebw5:eb<w5:=Bl;obtain ⟨OB_0,OB_1,OB_2,OB_3,OB_l⟩:=OB.g4;have EB_:=EB.g4;have aM:=Cw w5;go_upto_region 21 with fail
    refine Bz Bm Bm ?_;repeat (go_big_quiet_step (fail))
    refine Ak ?_;rintro w6 ⟨⟨_,b6⟩,rfl⟩;have hB6:Below w4 w4 w4:=Bs _ _;replace F5_:=F5_.sub (w':=w6) (y:=r) (Chg.of_below _ b6) (Cf.ow_below (F:=Fx) (x:=r) (s:=(sr1,⟨Ac ⟨gt,ot2,Ab⟩,r.tasks.length,tc2⟩)) F5_.here b6) rfl;replace oh:=oh.below b6;replace op:=Ce.ow_below (F:=Fp) (x:=r.plan) (s:=sr1) op b6;replace osS:=osS.below b6;clear OB_0 OB_1 OB_2 OB_3 OB_l;clear EB_;replace OB:=OB.below b6;replace EB:=EB.below b6;replace RES:=RES.below b6;replace RP:=RP.below b6;replace aK:=Bv aK b6;have qL:=b6.size;clear c0 c1 c2 c3 c4 c5 c6 c7 aM b6 hB6 nP;have nP:=(oh.block Bl).2.2;have hgtw6:gt<w6:=Bl;have hgrw6:gr0<w6:=Bl;obtain ⟨_,_,dD,_,d0,d1,d2,d3⟩:=oh.rd.tsk fA;simp only [Option.some.injEq,Addr.mk.injEq,and_true] at dD;obtain ⟨rfl,rfl⟩:=dD;have hw24:U.wrap (r.tasks[t].try_+1)=r.tasks[t].try_+1:=Aq _ Bl;have hww:U.wrap (Zk.now+r.plan.wait)=Zk.now+r.plan.wait:=Aq _ (by have:=gT.out;omega);have eF:=(Chg.setCell w6 gt (ot2+t * 4) (J U 3)).trans (Chg.setCell _ gt (ot2+t * 4+2) (J U (r.tasks[t].try_+1)));have c3:w6.cell? ⟨gr0,orr0+j * 8+3,Ab⟩=Ac (J U r.plan.wait):=F5_.cells 3 _ rfl;have bQ:=Br (show ∀ x,x∈[gt]->x=gt from fun x hx=>by simpa using hx);have e3:∀ W:World,Chg [gt] w6 W->W.cell? ⟨gr0,orr0+j * 8+3,Ab⟩=Ac (J U r.plan.wait):=fun W hW=>(hW.cell (p:=⟨gr0,_,Ab⟩) hgrw6 (fun hx=>hgg (bQ.out _ hx))).trans c3;have oh2:Hw Ge ((w6.setCell ⟨gt,ot2+t * 4,Ab⟩ (J U 3)).setCell ⟨gt,ot2+t * 4+2,Ab⟩ (J U (r.tasks[t].try_+1))) [gt] (Aa (Ac ⟨gt,ot2,Ab⟩) r.tasks.length tc2) (r.tasks.set t ⟨3,r.tasks[t].need,r.tasks[t].try_+1,r.tasks[t].until_⟩):=by
     have h1:=oh.part fA ⟨3,r.tasks[t].need,r.tasks[t].try_,r.tasks[t].until_⟩ 0 [J U 3] (show 0+1<=4 by omega) (fun i hi=>by simp at hi;subst hi;rfl) (fun i hi ho=>by
      have:i<4:=hi;rcases (show i=1\/i=2\/i=3 by simp at ho;omega) with rfl | rfl | rfl<;>rfl)
     have h2:=h1.part (j:=t) (by rw [Bh];exact fA) ⟨3,r.tasks[t].need,r.tasks[t].try_+1,r.tasks[t].until_⟩ 2 [J U (r.tasks[t].try_+1)] (show 2+1<=4 by omega) (fun i hi=>by simp at hi;subst hi;rfl) (fun i hi ho=>by
      have:i<4:=hi;rw [List.getElem_set_self];rcases (show i=0\/i=1\/i=3 by simp at ho;omega) with rfl | rfl | rfl<;>rfl)
     rw [List.set_set] at h2;exact h2
    go_upto_region 24 with fail
    generalize (w6.setCell ⟨gt,ot2+t * 4,Ab⟩ (J U 3)).setCell ⟨gt,ot2+t * 4+2,Ab⟩ (J U (r.tasks[t].try_+1))=w7 at *
    have OB7:=OB.chg eF (fun hx=>hgt4.2.1 (bQ.out _ hx).symm);have c37:=e3 w7 eF;have hs7:=eF.size;clear d0 d1 d2 d3 nP oh;refine Go.wp_region_noPanic ?_;refine wp_region_held_drew (S:=(fun w'=>DBox ob [J U Zk.now,J U Zk.seq,Aa (Ac ⟨g,o,Ab⟩) 4 e1,Aa (Ac ⟨gr0,orr0,Ab⟩) Zk.runs.length e2] w'/\w'.cell? ⟨gr0,orr0+j * 8+3,Ab⟩=Ac (J U r.plan.wait))) Bm ⟨DBox.drew4 OB7,c37⟩ (fun hHeld=>?_);replace oh2:=oh2.below (Bs w7 w7).drew;replace eF:=eF.drew;have hs8:w7.drew.heap.size=w7.heap.size:=rfl;clear OB7 c37;generalize w7.drew=w8 at *
    refine tV 0 ?_
    (try simp only [pS])
    refine tV 1 ?_
    (try simp only [pS])
    refine tV 2 ?_
    (try simp only [pS])
    refine tV 3 ?_
    (try simp only [pS])
    refine tV 4 ?_
    (try simp only [pS])
    refine tV 5 ?_
    (try simp only [pS])
    refine tV 6 ?_
    (try simp only [pS])
    refine tV 7 ?_
    (try simp only [pS])
    refine tV 8 ?_
    (try simp only [pS])
    refine tV 9 ?_
    (try simp only [pS])
    refine tV 10 ?_
    (try simp only [pS])
    have fL:t<(r.tasks.set t ⟨3,r.tasks[t].need,r.tasks[t].try_+1,r.tasks[t].until_⟩).length:=by rw [Bh];exact fA
    obtain ⟨_,_,dD,_,d0,d1,d2,d3⟩:=oh2.rd.tsk fL;simp only [Option.some.injEq,Addr.mk.injEq,and_true] at dD;obtain ⟨rfl,rfl⟩:=dD;have nP:=(oh2.block (by rw [Bh];omega)).2.2;have jQ:=Chg.setCell w8 gt (ot2+t * 4+3) (J U (Zk.now+r.plan.wait));refine rC 11 (fun K_ hK=>?_);go_simp;refine hK.out _ _ ⟨hHeld.1.chg jQ (fun hx=>hgt4.2.1 (bQ.out _ hx).symm),e3 _ (eF.trans jQ)⟩ (fun hHeld=>?_);clear hK K_ hHeld
    (try simp only [pS])
    refine Al Bm ?_ _;refine NoPanic.normal ?_;have oh3:=oh2.part (j:=t) fL ⟨3,r.tasks[t].need,r.tasks[t].try_+1,Zk.now+r.plan.wait⟩ 3 [J U (Zk.now+r.plan.wait)] (show 3+1<=4 by omega) (fun i hi=>by simp at hi;subst hi;rfl) (fun i hi ho=>by
     have:i<4:=hi;rw [List.getElem_set_self];rcases (show i=0\/i=1\/i=2 by simp at ho;omega) with rfl | rfl | rfl<;>rfl)
    rw [List.set_set] at oh3;replace oh3:Hw Ge (w8.setCell ⟨gt,ot2+t * 4+3,Ab⟩ (J U (Zk.now+r.plan.wait))) [gt] (Aa (Ac ⟨gt,ot2,Ab⟩) r.tasks.length tc2) (r.tasks.set t ⟨3,r.tasks[t].need,r.tasks[t].try_+1,Zk.now+r.plan.wait⟩):=oh3;replace eF:=eF.trans jQ;have hE:=Br (show Eo r t Zk.now=⟨r.id,r.plan,r.state,r.tasks.set t ⟨3,r.tasks[t].need,r.tasks[t].try_+1,Zk.now+r.plan.wait⟩⟩ by unfold Eo;rw [Ln fA]);clear d0 d1 d2 d3 nP oh2 jQ;generalize w8.setCell ⟨gt,ot2+t * 4+3,Ab⟩ (J U (Zk.now+r.plan.wait))=w9 at *
    have hxm:∀ x∈[gt],x∈Fx:=fun x hx=>by rw [bQ.out x hx,jW];simp
    replace op:=Ce.ow_chg (F:=Fp) (x:=r.plan) (s:=sr1) op eF (fun x hx h=>hgp (by rw [<-bQ.out x h];exact hx));have F9_:=F5_.sub (w':=w9) (y:=Eo r t Zk.now) (eF.mono hxm) (by
     rw [hE.out];exact ⟨Fp,[gt],jW,hnx,op,Hb oh3⟩) (by rw [hE.out])
    have osR9:=F9_.owl mZ;rw [<-hG2] at osR9;have osS9:=osS.chg eF (fun x hx h=>hdF x hx (bQ.out x h));have oy8:Bw.ow w9 F4 ⟨Zk.now,Zk.seq,Zk.shelf.set home rest,Zk.runs.set j (Eo r t Zk.now)⟩ (⟨Ac ⟨g,o,Ab⟩,4,e1⟩,⟨Ac ⟨gr0,orr0,Ab⟩,Zk.runs.length,e2⟩):=⟨G1,G2,sP,bP,osS9,osR9⟩
    replace OB:=OB.chg eF (fun hx=>hgt4.2.1 (bQ.out _ hx).symm);replace EB:=EB.chg eF (fun hx=>hgt4.2.2 (bQ.out _ hx).symm);replace RES:=RES.chg eF (fun hx=>by have:=bQ.out _ hx;omega);replace RP:=RP.chg eF (fun hx=>by have:=bQ.out _ hx;omega);replace aK:=aK.trans (eF.below (by have:=aK.size;omega) (fun x hx=>by have:=bQ.out _ hx;omega));have qR:t<(r.tasks.set t ⟨3,r.tasks[t].need,r.tasks[t].try_+1,Zk.now+r.plan.wait⟩).length:=by rw [Bh];exact fA
    obtain ⟨_,_,dD,_,-,-,cY,-⟩:=oh3.rd.tsk qR;simp only [Option.some.injEq,Addr.mk.injEq,and_true] at dD;obtain ⟨rfl,rfl⟩:=dD;rw [List.getElem_set_self] at cY;have uL:=eF.size;have hgt9:gt<w9:=Bl;have HFF:=Br (show Jd y (wk:Int) d=((⟨Zk.now,Zk.seq,Zk.shelf.set home rest,Zk.runs.set j (Eo r t Zk.now)⟩:Yard),(⟨0,rn,t,r.tasks[t].try_+1⟩:Reply)) by rw [HF.out,sL]);have en1:w.heap.size+1∉F4:=fun hx=>by have:=(jD _ hx).1;omega
    have en2:w.heap.size+1+1∉F4:=fun hx=>by have:=(jD _ hx).1;omega
    have nA:∀ x∈F4,w<=x:=fun x hx=>by have:=(jD x hx).1;omega
    have gn1:gt≠w.heap.size+1:=Bl;have gn2:gt≠w.heap.size+1+1:=Bl;clear HF gZ fF vF qC sL hE oh3 op F9_ F5_ osR9 osS9 osS osR eF e3 c3 bP sP hG2 mZ hdF jD hmemF;go_upto_region 25 with fail
    refine Go.wp_region_noPanic ?_;refine wp_region_held_drew (S:=(fun w'=>DBox ob [J U Zk.now,J U Zk.seq,Aa (Ac ⟨g,o,Ab⟩) 4 e1,Aa (Ac ⟨gr0,orr0,Ab⟩) Zk.runs.length e2] w'/\DBox eb [J U pr,J U sq,J U rn,J U (t:Int)] w'/\w'.cell? ⟨gt,ot2+t * 4+2,Ab⟩=Ac (J U (r.tasks[t].try_+1)))) Bm ⟨DBox.drew4 OB,DBox.drew4 EB,cY⟩ (fun hHeld=>?_);replace oy8:Bw.ow w9.drew F4 ⟨Zk.now,Zk.seq,Zk.shelf.set home rest,Zk.runs.set j (Eo r t Zk.now)⟩ (⟨Ac ⟨g,o,Ab⟩,4,e1⟩,⟨Ac ⟨gr0,orr0,Ab⟩,Zk.runs.length,e2⟩):=owB oy8 (Bs _ _).drew;replace RES:DBox _ _ w9.drew:=DBox.drew4 RES;replace RP:DBox _ _ w9.drew:=DBox.drew4 RP;replace aK:=aK.drew;have pC:w9.drew.heap.size=w9.heap.size:=rfl;rw [<-pC] at hgt9;clear OB EB cY pC;generalize w9.drew=w8d at *
    refine tV 0 ?_
    (try simp only [pS])
    refine tV 1 ?_
    (try simp only [pS])
    refine tV 2 ?_
    (try simp only [pS])
    refine tV 3 ?_
    (try simp only [pS])
    refine tV 4 ?_
    (try simp only [pS])
    refine tV 5 ?_
    (try simp only [pS])
    refine tV 6 ?_
    (try simp only [pS])
    refine tV 7 ?_
    (try simp only [pS])
    refine tV 8 ?_
    (try simp only [pS])
    refine tV 9 ?_
    (try simp only [pS])
    have RES_0:=RES.cell 0 _ rfl;have RES_1:=RES.cell 1 _ rfl;have RES_2:=RES.cell 2 _ rfl;have RES_3:=RES.cell 3 _ rfl;have rf:=RES.free;have bZ:=Br (show ∀ x,x∈[w.heap.size+1]->x=w.heap.size+1 from fun x hx=>by simpa using hx);have hm2':=Br (show ∀ x,x∈[w.heap.size+1+1]->x=w.heap.size+1+1 from fun x hx=>by simpa using hx);have fI:=Chg.cells4 w8d (w+1) 0 1 2 3 (J U Zk.now) (J U Zk.seq) (Aa (Ac ⟨g,o,Ab⟩) 4 e1) (Aa (Ac ⟨gr0,orr0,Ab⟩) Zk.runs.length e2);refine rC 10 (fun K_ hK=>?_);go_simp;have hS1:=fI.size;have RES2:=DBox.row4 RES rfl (J U Zk.now) (J U Zk.seq) (Aa (Ac ⟨g,o,Ab⟩) 4 e1) (Aa (Ac ⟨gr0,orr0,Ab⟩) Zk.runs.length e2);have RP2:=RP.chg fI (fun hx=>by have:=bZ.out _ hx;omega);replace oy8:Bw.ow _ F4 ⟨Zk.now,Zk.seq,Zk.shelf.set home rest,Zk.runs.set j (Eo r t Zk.now)⟩ (⟨Ac ⟨g,o,Ab⟩,4,e1⟩,⟨Ac ⟨gr0,orr0,Ab⟩,Zk.runs.length,e2⟩):=owC oy8 fI (fun x hx hx2=>by have h1:=bZ.out _ hx2;subst h1;exact en1 hx);replace aK:=aK.trans (fI.below (by have:=aK.size;omega) (fun x hx=>by have:=bZ.out _ hx;omega));refine hK.out _ _ ⟨hHeld.1.chg fI (fun hx=>by have:=bZ.out _ hx;omega),hHeld.2.1.chg fI (fun hx=>by have:=bZ.out _ hx;omega),(fI.cell (p:=⟨gt,_,Ab⟩) hgt9 (fun hx=>gn1 (bZ.out _ hx))).trans hHeld.2.2⟩ (fun hHeld=>?_);clear hK K_ rf RES_0 RES_1 RES_2 RES_3 fI
    (try simp only [pS])
    generalize (((w8d.setCell ⟨w+1,0,Ab⟩ (J U Zk.now)).setCell ⟨w+1,1,Ab⟩ (J U Zk.seq)).setCell ⟨w+1,2,Ab⟩ (Aa (Ac ⟨g,o,Ab⟩) 4 e1)).setCell ⟨w+1,3,Ab⟩ (Aa (Ac ⟨gr0,orr0,Ab⟩) Zk.runs.length e2)=wA at *
    have RP_0:=RP2.cell 0 _ rfl;have RP_1:=RP2.cell 1 _ rfl;have RP_2:=RP2.cell 2 _ rfl;have RP_3:=RP2.cell 3 _ rfl;have pf:=RP2.free;have gG:=Chg.cells4 wA (w+1+1) 0 1 2 3 (J U 0) (J U rn) (J U (t:Int)) (J U (r.tasks[t].try_+1));refine rC 11 (fun K_ hK=>?_);go_simp;refine hK.out _ _ ⟨hHeld.1.chg gG (fun hx=>by have:=hm2'.out _ hx;omega),hHeld.2.1.chg gG (fun hx=>by have:=hm2'.out _ hx;omega),(gG.cell (p:=⟨gt,_,Ab⟩) (by show gt<wA;omega) (fun hx=>gn2 (hm2'.out _ hx))).trans hHeld.2.2⟩ (fun hHeld=>?_);clear hK K_ hHeld
    (try simp only [pS])
    refine Al Bm ?_ _;refine NoPanic.normal ?_;have RES3:=RES2.chg gG (fun hx=>by have:=hm2'.out _ hx;omega);have RP3:=DBox.row4 RP2 rfl (J U 0) (J U rn) (J U (t:Int)) (J U (r.tasks[t].try_+1));replace oy8:Bw.ow _ F4 ⟨Zk.now,Zk.seq,Zk.shelf.set home rest,Zk.runs.set j (Eo r t Zk.now)⟩ (⟨Ac ⟨g,o,Ab⟩,4,e1⟩,⟨Ac ⟨gr0,orr0,Ab⟩,Zk.runs.length,e2⟩):=owC oy8 gG (fun x hx hx2=>by have h1:=hm2'.out _ hx2;subst h1;exact en2 hx);replace aK:=aK.trans (gG.below (by have:=aK.size;omega) (fun x hx=>by have:=hm2'.out _ hx;omega));clear RP_0 RP_1 RP_2 RP_3 pf;go_wp2;exact Aj (Po RES3 RP3) rfl ⟨(⟨Ac ⟨g,o,Ab⟩,4,e1⟩,⟨Ac ⟨gr0,orr0,Ab⟩,Zk.runs.length,e2⟩),F4,by rw [HFF.out],by rw [HFF.out];exact oy8,nA,aK⟩
theorem Acp (id:Int) (p:Nat) (e:Entry) (w:World) (X:DBox p [J U id] w) :
  Calls Am 221 #[G6 e (),.pointer (Ac ⟨p,0,Ab⟩)] w fun e' w'=>e' = .returned (.bool (e.run == id))/\Below w w w':=by
 have B0:Below w w (w.alloc (.cells #[J U e.prio,J U e.seq,J U e.run,J U e.task] 71)):=Bu;have E:=DBox.new 71 [J U e.prio,J U e.seq,J U e.run,J U e.task] w (b:=w) rfl;replace X:=X.below B0;obtain ⟨X_0,X_l⟩:=X.g1;have E_:=E.g4;go_enter func221,ntmps221;go_wp2;go_ret;exact ⟨rfl,B0⟩
theorem Aaj (l:List Task) (t u:Nat) (x:Task) (hx:t<l.length->x.try_=(l.getD t ⟨0,0,0,0⟩).try_):((l.set t x).getD u ⟨0,0,0,0⟩).try_=(l.getD u ⟨0,0,0,0⟩).try_:=by
 simp only [List.getD_eq_getElem?_getD,List.getElem?_set] at hx ⊢;by_cases h:t=u
 ·subst h;by_cases ht:t<l.length
  ·simp only [if_pos ht,↓reduceIte,Option.getD_some];exact hx ht
  ·simp [ht]
 ·simp [h]
theorem Acq (l:List Task) (t u:Nat) (f:Task->Task) (hf:∀ x,(f x).try_=x.try_):((Hy l t f).getD u ⟨0,0,0,0⟩).try_=(l.getD u ⟨0,0,0,0⟩).try_:=by
 unfold Hy;exact Aaj l t u _ (fun _=>hf _)
theorem Agb (l:List Task) (u:Nat):((l.map Dr).getD u ⟨0,0,0,0⟩).try_=(l.getD u ⟨0,0,0,0⟩).try_:=by
 simp only [List.getD_eq_getElem?_getD,List.getElem?_map];cases l[u]? with
 | none=>rfl
 | some x =>
  simp only [Option.map_some,Option.getD_some];unfold Dr;split<;>rfl
theorem Aed (r:Run) (t u:Nat):(Cv (Dp r t) u).try_=(Cv r u).try_:=by
 unfold Dp;split
 ·exact Acq r.tasks t u (fun x=>⟨2,x.need,x.try_,0⟩) (fun _=>rfl)
 ·show (((Hy r.tasks t fun x=>⟨5,x.need,x.try_,0⟩).map Dr).getD u ⟨0,0,0,0⟩).try_=_;rw [Agb];exact Acq r.tasks t u (fun x=>⟨5,x.need,x.try_,0⟩) (fun _=>rfl)
theorem Aee (z:Yard) (k:Nat) (r:Run):(Gn z k r).runs=z.runs.set k r:=by
 unfold Gn Ny;rw [(Q5 _ _ _).2.1]
theorem Agc (z:Yard) (k j:Nat) (r:Run) (hk:k<z.runs.length):Hi (Gn z k r) j=if k=j then r else Hi z j:=by
 unfold Hi;rw [Aee];simp only [List.getD_eq_getElem?_getD,List.getElem?_set];by_cases h:k=j
 ·subst h;simp [hk]
 ·simp [h]
def SameTry (y z:Yard):Prop:=∀ k t,(Cv (Hi z k) t).try_=(Cv (Hi y k) t).try_
theorem SameTry.fail {y z:Yard} (h:SameTry y z) {k:Nat} (hk:k<z.runs.length) (t:Nat):SameTry y (Gr z k t):=fun j u=>by
 by_cases q:(Cv (Hi z k) t).state=3
 ·rw [Kz q,Agc z k j _ hk]
  split
  ·next e =>
   subst e
   rw [Aed]
   exact h k u
  ·exact h j u
 ·rw [Lu q]
  exact h j u
theorem Wo {y z:Yard} {m:Nat} (hT:Trn y m z) (hS:SameTry y z) {k t:Nat} {id:Int} (hk:k<z.runs.length) (ht:t<z.runs[k].tasks.length) (hid:Dn z id=k) :
  Gq z id t (Cv (Hi y k) t).try_ ↔ (Cv (Hi z k) t).state=3:=by
 unfold Gq;rw [Ha hk hid,hid,<-hS k t,E6 hk];simp only [Ao];exact ⟨fun h=>h.2.2.1,fun h=>⟨Bl,⟨Bl,Bl⟩,h,trivial⟩⟩
def upY (z:Yard):Yard:=⟨z.now+1,z.seq,z.shelf,z.runs⟩
theorem Acr (r:Run):∀ (l:List Nat) (z:Yard),l.foldl (fun y t=>Mb y r t) (upY z)=upY (l.foldl (fun y t=>Mb y r t) z)
 | [],z=>rfl
 | t :: l,z=>by
  rw [List.foldl_cons,List.foldl_cons,<-Acr r l (Mb z r t)];rfl
theorem Ag4 (z:Yard) (k:Nat) (r:Run):Gn (upY z) k r=upY (Gn z k r):=by
 unfold Gn Ny;exact Acr r _ ⟨z.now,z.seq,z.shelf,z.runs.set k r⟩
theorem Jg (r:Run):Co r=r.plan.edges.length+r.tasks.length:=Alg
theorem Mi {y:Yard} {M:Nat} (h4:y.shelf.length=4) (hM:∀ s∈y.shelf,s.length<=M) (h8:y.runs.length<=8) (hr:∀ r∈y.runs,Co r<=42):Ca y<=4 * (M+1)+344:=by
 have h1:Ek Cn y.shelf<=y.shelf.length * (M+1):=Ri (fun s hs=>by
  have e:Cn s=s.length:=Fh (fun _=>rfl) _;rw [e];exact hM s hs)
 have h2:Ek Co y.runs<=y.runs.length * (42+1):=Ri hr;exact Al3
theorem Fq {y:Yard} (h:Dk y):∀ r∈y.runs,Co r<=42:=fun r hr=>by
 obtain ⟨k,hk,rfl⟩:=List.getElem_of_mem hr
 exact Kw (Ev h hk)
theorem Trn.folds {y:Yard} (hy:Dk y):∀ (l:List (Nat×Nat)) (z:Yard) (m:Nat),Trn y m z->(∀ p∈l,p.1<y.runs.length/\p.2<(Hi y p.1).tasks.length)->Trn y (m+l.length) (Fo z l)
 | [],z,m,h,_=>h
 | p :: l,z,m,h,hl=>by
  have hp:=hl p (List.mem_cons_self ..);have hk:p.1<z.runs.length:=by rw [h.len];exact hp.1
  have h1:=h.fail hk (t:=p.2) (by rw [(h.run p.1 hk hp.1).2.2,<-E6 hp.1];exact hp.2);have h2:=Trn.folds hy l (Gr z p.1 p.2) (m+1) h1 (fun q hq=>hl q (List.mem_cons_of_mem _ hq));rw [List.length_cons,show m+(l.length+1)=m+1+l.length by omega];exact h2
theorem Aef {y:Yard} {n:Nat} {p:Nat×Nat} (h:p∈Ic y n):p.1<n/\p.2<(Hi y p.1).tasks.length:=by
 unfold Ic at h;obtain ⟨j,hj,hp⟩:=List.mem_flatMap.1 h;unfold Jx at hp;obtain ⟨t,ht,rfl⟩:=List.mem_map.1 hp;exact ⟨List.mem_range.1 hj,List.mem_range.1 ht⟩
theorem Wp {y:Yard} (h:∀ j,(Hi y j).tasks.length<=12):∀ k,(Ic y k).length<=12 * k
 | 0=>by simp [Ic]
 | k+1=>by
  rw [O4,List.length_append];have h1:=Wp h k;have h3:=h k;have h2:(Jx k (Hi y k).tasks.length).length=(Hi y k).tasks.length:=by unfold Jx;simp
  omega
theorem Ag5 {y:Yard} {id tk tr:Int} (q:Gv y id tk tr=0):Dk y /\ ∃ k,∃ hk:k<y.runs.length,Dn y id=(k:Int)/\Ko y id=y.runs[k]:=by
 unfold Gv at q;by_cases p0:Dk y
 ·by_cases p1:Dn y id<0
  ·rw [if_neg (fun h=>h p0),if_pos p1] at q;cases q
  ·rcases E9 y id with hr | ⟨k,hk,hr⟩
   ·omega
   ·exact ⟨p0,k,hk,hr,Ha hk hr⟩
 ·exact Ak8
theorem BldG.cut {α:Type} {d:Dt α} {E:TypeId} {w w':World} {base g:Nat} {v v':Value} {rs:List (α×d.S)} {G:List Nat} (h:BldG d E w base v rs G) {k:Nat} (hk:k<rs.length) (ho:Ow d.enc E w' base v' (rs.take k ++ rs.drop (k+1))) (hC:Chg [g] w w') (hv:v.ownBlock=Ac g) (sI:v'.ownBlock=Ac g) :
  ∃ G',BldG d E w' base v' (rs.take k ++ rs.drop (k+1)) G' /\ ∀ x∈G',x∈G:=by
 obtain ⟨h1,h2,h3,h4⟩:=h;obtain ⟨Ga,G2,rfl,hGa,eI⟩:=h2.split k (Nat.le_of_lt hk);rw [List.drop_eq_getElem_cons hk] at eI;obtain ⟨Gx,Gc,rfl,_,hGc⟩:=eI.head;have eN:∀ x∈Ga ++ Gc,x∈Ga ++ (Gx ++ Gc):=fun x hx=>by
  rcases Bi.1 hx with h | h
  ·exact List.mem_append_left _ h
  ·exact Be _ (Be _ h)
 refine ⟨Ga ++ Gc,⟨ho,(hGa.append hGc).chg hC (fun b hb hx=>(h4 b (eN b hb)).2 (by rw [List.mem_singleton.1 hx];exact hv)),?_,fun b hb=>⟨(h4 b (eN b hb)).1,fun e=>(h4 b (eN b hb)).2 (by rw [hv,<-e,sI])⟩⟩,eN⟩;rw [Ax] at h3 ⊢;exact ⟨h3.1,(Ax.1 h3.2.1).2.1,fun a ha b hb=>h3.2.2 a ha b (Be _ hb)⟩
theorem Mt {b:Nat} {w:World} {u0 u1 u2 u3:Value} (X:DBox b [u0,u1,u2,u3] w) {v0 v1 v2 v3 v5:Value} {rest:List Value} :
  (results Tryz.f137 (v0 :: v1 :: v2 :: v3 :: .pointer (Ac ⟨b,0,Ab⟩) :: v5 :: rest).toArray).run Am w = .ok (.tuple #[.agg #[u0,u1,u2,u3],v5]) w:=by
 have c0:=X.cell 0 _ rfl;have c1:=X.cell 1 _ rfl;have c2:=X.cell 2 _ rfl;have c3:=X.cell 3 _ rfl;simp [results,results137,go_sem,c0,c1,c2,c3]
theorem Wq (y:Yard) (s:Sl×Sl) (id:Int) (w:World) (hl:Ca y<=2000000) (h:Bw.rd w w y s) :
  Calls Am 137 #[Ds y s,J U id] w (Is (Iw y id) (Iv y id) w):=by
 have HR:=Br (show ∀ W,Below w w W->Bw.rd W W y s from fun W hW=>Bw.rd_more (Bw.rd_below h hW) hW.size);obtain ⟨⟨A1,n1,c1⟩,⟨A2,n2,c2⟩⟩:=s;have CC:=Br (fun W hW=>Ks y (⟨A1,n1,c1⟩,⟨A2,n2,c2⟩) W hl (HR.out W hW));have CY:=Br (fun W hW=>Gk y (⟨A1,n1,c1⟩,⟨A2,n2,c2⟩) W hl (HR.out W hW));have CA:=Br (fun W hW=>Fj y (⟨A1,n1,c1⟩,⟨A2,n2,c2⟩) id W hl (HR.out W hW));have CX:=Br (fun W hW=>show RdL Cf W W.heap.size (Aa A2 n2 c2) y.runs from (HR.out W hW).2);clear h HR;obtain ⟨W,aH,X,I,RES,B0⟩:=bx3 w 31 [J U y.now,J U y.seq,Aa A1 n1 c1,Aa A2 n2 c2] 3 [J U id] 31 [J U 0,J U 0,Aa Ab 0 0,Aa Ab 0 0];go_enter func137,ntmps137;go_wp2_with fail
 rw [<-aH.out];clear aH;have eC:w.heap.size+1+1<W.heap.size:=RES.lt;refine (CC.out _ B0).mono ?_;rintro e1 w1 ⟨⟨B1,m1,e1⟩,⟨B2,m2,e2⟩,F1,base,rfl,oS,eR,aV,cZ,oR,b1⟩;have bE:=b1.size;replace X:=X.below b1;replace I:=I.below b1;replace RES:=RES.below b1;replace B0:=Bv B0 b1;clear b1;obtain ⟨rs,bZ,G0,oR⟩:=oR;have hm:=Br bZ;clear bZ;replace oR:BldG Cf 67 w1 base (Aa B2 m2 e2) rs G0:=oR;have vB:=oR.2.1.lt;have qQ:∀ g,(Value.slice B2 m2 e2).ownBlock=Ac g->g≠w1.heap.size:=fun g hg h=>by
  have:=(oR.1.within g hg).2
  omega
 obtain ⟨F,oy,nF⟩:∃ F,Bw.ow w1 F y (⟨B1,m1,e1⟩,⟨B2,m2,e2⟩) /\ ∀ x∈F,W<=x:=Ais
 go_upto_region 2 with fail
 have OB:=DBox.new 31 [J U y.now,J U y.seq,Aa B1 m1 e1,Aa B2 m2 e2] w1 (b:=w1) rfl;have b2:Below w1 w1 (w1.alloc (.cells #[J U y.now,J U y.seq,Aa B1 m1 e1,Aa B2 m2 e2] 31)):=Bu;replace X:=X.below b2;replace I:=I.below b2;replace RES:=RES.below b2;replace oy:=Bw.ow_below (F:=F) (x:=y) (s:=(⟨B1,m1,e1⟩,⟨B2,m2,e2⟩)) oy b2;replace oS:=oS.below b2;replace oR:=oR.below b2;replace B0:=Bv B0 b2;have ow1:=OB.lt;have hbob:base<=w1.heap.size:=cZ;replace cZ:=Ah cZ b2.size;clear b2;generalize w1.alloc (.cells #[J U y.now,J U y.seq,Aa B1 m1 e1,Aa B2 m2 e2] 31)=w2 at *
 generalize cR:w1.heap.size=ob at *
 have X_:=X.g4;obtain ⟨I_0,I_l⟩:=I.g1;obtain ⟨OB_0,OB_1,OB_2,OB_3,OB_l⟩:=OB.g4;go_wp2_with fail
 refine (CA.out _ B0).mono ?_;rintro e1 w3 ⟨rfl,b3⟩;clear X_;clear I_0 I_l;clear OB_0 OB_1 OB_2 OB_3 OB_l;replace X:=X.below b3;replace I:=I.below b3;replace OB:=OB.below b3;replace RES:=RES.below b3;replace oy:Bw.ow w3 F y (⟨B1,m1,e1⟩,⟨B2,m2,e2⟩):=owB oy b3;replace oS:=oS.below b3;replace oR:=oR.below b3;replace B0:=Bv B0 b3;replace cZ:=Ah cZ b3.size;clear b3;have X_:=X.g4;obtain ⟨I_0,I_l⟩:=I.g1;obtain ⟨OB_0,OB_1,OB_2,OB_3,OB_l⟩:=OB.g4;go_wp2_with fail
 refine (CY.out _ B0).mono ?_;rintro e1 w4 ⟨rfl,b4⟩;clear X_;clear I_0 I_l;clear OB_0 OB_1 OB_2 OB_3 OB_l;replace X:=X.below b4;replace I:=I.below b4;replace OB:=OB.below b4;replace RES:=RES.below b4;replace oy:Bw.ow w4 F y (⟨B1,m1,e1⟩,⟨B2,m2,e2⟩):=owB oy b4;replace oS:=oS.below b4;replace oR:=oR.below b4;replace B0:=Bv B0 b4;replace cZ:=Ah cZ b4.size;clear b4;have X_:=X.g4;obtain ⟨I_0,I_l⟩:=I.g1;obtain ⟨OB_0,OB_1,OB_2,OB_3,OB_l⟩:=OB.g4;by_cases p0:Dk y;case neg =>
  rw [Cg p0];have H:=Br (show Iv y id=8 by unfold Iv;rw [if_pos p0]);exact Aig
 rw [Di p0];have P0:=Br p0;clear p0;by_cases p1:Dn y id<0;case pos =>
  have H:=Br (show Iv y id=10 by unfold Iv;rw [if_neg (fun h=>h P0.out),if_pos p1]);exact Aig
 rcases E9 y id with hr | ⟨k,hk,hr⟩
 ·exact absurd hr Bl
 have HK:=Br (Ha hk hr);have HR2:=Br hr;rw [hr];clear hr p1;have P1:=Br (show ¬ Dn y id<0 by have:=HR2.out;omega);have gJ:(k:Int)<(n2:Int):=by have:=RdL.at1 (s:=⟨A2,n2,c2⟩) (CX.out _ B0);dsimp only at this;omega
 have cE:(0:Int)<=(k:Int):=Bl;have hkn:¬ (k:Int)<0:=Bl;obtain ⟨gx,ox,_,rfl,kX,_,c0,c1_,c2_,c3_,c4_,c5_,c6,c7_⟩:=(CX.out _ B0).run hk;clear c0 c1_ c2_ c3_ c4_ c5_ c7_;by_cases p2:y.runs[k].state=1;case pos =>
  have q2:(y.runs[k].state == 1)=true:=by simp [p2]
  have H:=Br (show Iv y id=13 by unfold Iv;rw [if_neg (fun h=>h P0.out),if_neg P1.out,if_pos (by rw [HK.out];exact p2)]);clear p2;exact Aig
 have q2:(y.runs[k].state == 1)=false:=by simp [p2]
 have H:=Br (show Iv y id=0 by unfold Iv;rw [if_neg (fun h=>h P0.out),if_neg P1.out,if_neg (by rw [HK.out];exact p2)]);have H2:=Br (show Iw y id=⟨y.now,y.seq,y.shelf.map (Dj id),y.runs.take k ++ y.runs.drop (k+1)⟩ by unfold Iw;rw [if_pos H.out,HR2.out,Ao]);clear p2;go_upto_region 9 with fail
 clear X_;clear X c6 q2 CC CY CA CX;have bK:rs.length=y.runs.length:=by have:=congrArg List.length hm.out;simpa using this
 have hkr:k<rs.length:=Bl;have rU:y.runs.length<=8:=P0.out.2.2.2.2.2.2.1;obtain ⟨gr,cap,hv,rQ,gD⟩:∃ gr cap,Value.slice B2 m2 e2 = Aa (Ac ⟨gr,0,Ab⟩) rs.length cap/\base<=gr/\gr<w4.heap.size:=by
  rcases oR.1.form with ⟨_,h⟩ | ⟨gr,cap,h,hb,hl,_⟩
  ·rw [h] at hkr;simp at hkr
  ·exact ⟨gr,cap,h,hb,hl⟩
 simp only [Value.slice.injEq] at hv;obtain ⟨rfl,rfl,rfl⟩:=hv;have CD:=Br (Aco rs gr e2 base k w4 hkr Bl oR.1);have wr1:U.wrap ((k:Int)+1)=(k:Int)+1:=Aq _ Bl;have eL:ob≠gr:=fun e=>qQ gr rfl e.symm;replace bK:=Br bK;have hob4:ob<w4:=OB.lt;go_wp2_with fail
 refine CD.out.mono ?_;rintro e5 w5 ⟨rfl,o5,gg⟩;have hC:=Chg.of_grown gg;have bQ:=Br (show ∀ x,x∈[gr]->x=gr from fun x hx=>by simpa using hx);obtain ⟨G5,oR5,hG5⟩:=oR.cut hkr o5 hC rfl rfl;have orr:=oR5.owl (l:=y.runs.take k ++ y.runs.drop (k+1)) (by rw [List.map_append,List.map_take,List.map_drop,hm.out]);have hB5:∀ x∈El (Aa (Ac ⟨gr,0,Ab⟩) (rs.length - 1) e2) (rs.take k ++ rs.drop (k+1)).length ++ G5,x≠ob/\base<=x:=fun x hx=>by
  rcases Bi.1 hx with hx | hx
  ·have h1:=H9 _ _ _ hx;have:gr=x:=by simpa [Value.ownBlock] using h1
   subst this;exact ⟨fun e=>eL e.symm,rQ⟩
  ·have h1:=vB x (hG5 x hx);exact ⟨Bl,(oR.2.2.2 x (hG5 x hx)).1⟩
 generalize El (Aa (Ac ⟨gr,0,Ab⟩) (rs.length - 1) e2) (rs.take k ++ rs.drop (k+1)).length ++ G5=F2 at *
 clear OB_0 OB_1 OB_2 OB_3 OB_l;replace OB:=OB.chg hC (fun hx=>eL (bQ.out _ hx));replace RES:=RES.chg hC (fun hx=>by have:=bQ.out _ hx;omega);clear I_0 I_l;replace I:=I.chg hC (fun hx=>by have:=bQ.out _ hx;omega);replace oS:=oS.chg hC (fun x hx h=>by have h1:=bQ.out x h;have h2:=(eR x hx).2;omega);replace B0:=B0.trans (hC.below (by have:=B0.size;omega) (fun x hx=>by have:=bQ.out _ hx;omega));have qD:=hC.size;clear oR oy o5 gg hC oR5 hG5 CD;obtain ⟨OB_0,OB_1,OB_2,OB_3,OB_l⟩:=OB.g4;obtain ⟨I_0,I_l⟩:=I.g1;have obf:=OB.free;go_upto_region 10 with fail
 clear OB_0 OB_1 OB_2 OB_3 OB_l;clear I_0 I_l;have OB6:DBox ob [J U y.now,J U y.seq,Aa B1 m1 e1,Aa (Ac ⟨gr,0,Ab⟩) (rs.length - 1) e2] (w5.setCell ⟨ob,3,Ab⟩ (Aa (Ac ⟨gr,0,Ab⟩) (rs.length - 1) e2)):=OB.set 3 Bo _;replace RES:=RES.setOther (a:=⟨ob,3,Ab⟩) (by show w.heap.size+1+1≠ob;omega) (Aa (Ac ⟨gr,0,Ab⟩) (rs.length - 1) e2);replace I:=I.setOther (a:=⟨ob,3,Ab⟩) (by show w.heap.size+1≠ob;omega) (Aa (Ac ⟨gr,0,Ab⟩) (rs.length - 1) e2);replace oS:=oS.set (a:=⟨ob,3,Ab⟩) (fun hx=>by have h1:_/\ob<base:=eR _ hx;omega) (Aa (Ac ⟨gr,0,Ab⟩) (rs.length - 1) e2);replace orr:=orr.set (a:=⟨ob,3,Ab⟩) (fun hx=>(hB5 _ hx).1 rfl) (Aa (Ac ⟨gr,0,Ab⟩) (rs.length - 1) e2);replace B0:Below w w (w5.setCell ⟨ob,3,Ab⟩ (Aa (Ac ⟨gr,0,Ab⟩) (rs.length - 1) e2)):=Ad B0 (by show w.heap.size<=ob;omega) _;clear obf OB;generalize w5.setCell ⟨ob,3,Ab⟩ (Aa (Ac ⟨gr,0,Ab⟩) (rs.length - 1) e2)=w6 at *
 generalize y.runs.take k ++ y.runs.drop (k+1)=RR at *
 generalize rs.length - 1=rn at *
 have OB:=OB6;clear OB6;obtain rfl:m1=y.shelf.length:=RdL.at1 (s:=⟨B1,m1,e1⟩) oS.rd;have nH:=Br (show y.shelf.length=4 from P0.out.2.2.1);have jB:=Br (fun (i:Nat) (hi:i<y.shelf.length)=>(P0.out.2.2.2.1 _ (Aw hi)).1);have pM:w+1+1<ob:=Bl;have hF1':=Br (show ∀ x∈F1,w+1+1<x/\x<base/\x≠ob from fun x hx=>by have h1:=eR x hx;omega);have hB5':=Br (show ∀ x∈F2,x≠ob/\base<=x from hB5);obtain ⟨OB_0,OB_1,OB_2,OB_3,OB_l⟩:=OB.g4;obtain ⟨I_0,I_l⟩:=I.g1;go_wp2;clear OB_0 OB_1 OB_2 OB_3 OB_l;clear I_0 I_l;go_loopw [8,42] (fun u i wr=>∃ (j:Nat) (F:List Nat),j<=y.shelf.length/\i = J U j/\Hid (OwL (Dt.list By) wr F (Aa B1 y.shelf.length e1) ((y.shelf.take j).map (Dj id) ++ y.shelf.drop j)/\(∀ x∈F,x∈F1)/\OwL Cf wr F2 (Aa (Ac ⟨gr,0,Ab⟩) rn e2) RR)/\DBox ob [J U y.now,J U y.seq,Aa B1 y.shelf.length e1,Aa (Ac ⟨gr,0,Ab⟩) rn e2] wr/\DBox (w+1) [J U id] wr/\DBox (w+1+1) [J U 0,J U 0,Aa Ab 0 0,Aa Ab 0 0] wr/\Below w w wr) (fun _ i _=>y.shelf.length - (intOf i).toNat);case atStart=>exact ⟨0,F1,Ag _,rfl,⟨by simpa using oS,fun x hx=>hx,orr⟩,OB,I,RES,B0⟩
 case round =>
  clear oS orr OB I RES B0 eR hB5 hm qD;obtain ⟨j,F,hj,rfl,hO,OB,I,RES,jX⟩:=hrel;have hRl2:=RES.lt;have hobl:=OB.lt;obtain ⟨OB_0,OB_1,OB_2,OB_3,OB_l⟩:=OB.g4;obtain ⟨I_0,I_l⟩:=I.g1;by_cases aA:j<y.shelf.length
  ·have aB:(j:Int)<(y.shelf.length:Int):=Bl;have hi00:(0:Int)<=(j:Int):=Bl;have pZ:j<((y.shelf.take j).map (Dj id) ++ y.shelf.drop j).length:=by simp;omega
   have hltH:=Br (show j<y.shelf.length/\y.shelf.length=4 from ⟨aA,nH.out⟩);obtain ⟨os,jU,orr⟩:=hO.out;have qI:=jB.out j aA;have bW:=Br (O3 (Dj id) aA);have hat:=Wg (Dj id) aA pZ;obtain ⟨g,o,_,rfl,hg,_,_⟩:=os.rd.entryS pZ;have bd:Below wr wr wr.drew:=(Bs _ _).drew;obtain ⟨⟨A9,n9,c9⟩,Fx,kW,bI,kX,eY,gI,aL,cU⟩:=OwL.trade (os.below bd) pZ;rw [hat] at kW aL;clear hat;replace kW:OwL By wr.drew Fx (Aa A9 n9 c9) y.shelf[j]:=kW;have sY:n9=y.shelf[j].length:=RdL.at1 (s:=⟨A9,n9,c9⟩) kW.rd;subst sY;have ck:wr.drew.cell? ⟨g,o+j,Ab⟩=Ac (Aa A9 y.shelf[j].length c9):=by
    have:=aL 0 _ rfl
    rw [show o+j * (Dt.list By).enc.sz+0=o+j from by show o+j * 1+0=o+j;omega] at this;exact this
   have hIn:w.heap.size+1∉Fx:=fun hx=>by have:=hF1'.out _ (jU _ (bI _ hx));omega
   have kG:=Bv jX bd;have Id:=I.below bd;have kB:∀ (W:World) (x:Entry),DBox (w+1) [J U id] W->Calls Am 221 #[G6 x (),.pointer (Ac ⟨w+1,0,Ab⟩)] W fun e w'=>e = .returned (.bool (x.run == id))/\Below W W w' :=
    fun W x hX=>Acp id (w+1) x W hX
   have CD:=Br (Sz y.shelf[j] A9 y.shelf[j].length c9 Fx 221 (w.heap.size+1) (fun e=>e.run == id) (Nz func221 Bm Bm) wr.drew Bl
    (fun W x hW=>kB W x (Id.chg hW hIn))
    (Qm 221 (w+1) (fun e=>e.run == id) (Nz func221 Bm Bm) y.shelf[j] A9 y.shelf[j].length c9 wr.drew Bl (Ra kW).rd (fun W x hW=>kB W x (Id.below hW)))
    (Ra kW))
   clear kB;go_upto_region 13 with fail
   refine Dh (fun w'=>w'.cell? ⟨ob,2,Ab⟩=Ac (Aa (Ac ⟨g,o,Ab⟩) y.shelf.length e1)/\w'.cell? ⟨g,o+j,Ab⟩=Ac (Aa A9 y.shelf[j].length c9)) 11 Bm ?_ (fun hHeld=>?_)
   ·exact ⟨OB_2,ck⟩
   refine aT 0 hHeld ?_;try simp only [pS]
   refine aT 1 hHeld ?_;try simp only [pS]
   refine aT 2 hHeld ?_;try simp only [pS]
   refine aT 3 hHeld ?_;try simp only [pS]
   refine aT 4 hHeld ?_;try simp only [pS]
   refine aT 5 hHeld ?_;try simp only [pS]
   refine aT 6 hHeld ?_;try simp only [pS]
   refine aT 7 hHeld ?_;try simp only [pS]
   refine aT 8 hHeld ?_;try simp only [pS]
   refine oT 9 (fun K hK=>?_)
   (go_simp;refine CD.out.mono ?_;rintro e7 wa ⟨k9,F',rfl,hH,eN,hC⟩)
   have hgw2:g<wr.drew:=os.lt g eY;have gR:ob<wr.drew:=OB.lt;have nJ:ob∉Fx:=fun hx=>(hF1'.out _ (jU _ (bI _ hx))).2.2 rfl;have hgn:=hF1'.out g (jU _ eY);have hobg2:ob≠g:=fun e=>hgn.2.2 e.symm;have sM:=(hC.cell (p:=⟨ob,2,Ab⟩) gR nJ).trans hHeld.1;have ck2:=(hC.cell (p:=⟨g,_,Ab⟩) hgw2 kX).trans ck;have hgf2:∀ j,wa.frozen? ⟨g,j,Ab⟩=false:=fun j=>(hC.frozen (p:=⟨g,_,Ab⟩) hgw2 kX).trans (gI j);refine hK.out _ _ (fun _=>⟨sM,ck2⟩) ?_;clear hK K;try simp only [pS]
   refine oT 10 (fun K hK=>?_);go_simp;refine hK.out _ _ (fun _=>⟨sM,ck2⟩) ?_;clear hK K;try simp only [pS]
   have hga:=hC.size;refine oT 11 (fun K hK=>?_);go_simp;refine hK.out _ _ (fun aC=>absurd rfl aC) ?_;clear hK K hHeld;try simp only [pS]
   refine Eh Bm ?_ _;obtain ⟨F3,o3,tB,sS⟩:=cU wa (Dj id y.shelf[j]) ⟨A9,k9,c9⟩ F' hC (Yh hH) eN;have fK:Ie wa g (o+j * (Dt.list By).enc.sz) ((Dt.list By).enc.cells (Dj id y.shelf[j],(⟨A9,k9,c9⟩:Sl)))=wa.setCell ⟨g,o+j,Ab⟩ (Aa A9 k9 c9):=by
    show Ie wa g (o+j * 1) [Aa A9 k9 c9]=_;rw [Nat.mul_one];rfl
   rw [fK,bW.out] at o3;have hS:=Chg.setCell wa g (o+j) (Aa A9 k9 c9);have fV:=Br (show ∀ x,x∈[g]->x=g from fun x hx=>by simpa using hx);have orr3:=((orr.below bd).chg hC (fun x hx hx2=>by have h1:=hF1'.out _ (jU _ (bI _ hx2));have h2:=hB5'.out x hx;omega)).chg hS (fun x hx hx2=>by have h1:=fV.out x hx2;have h2:=hB5'.out x hx;omega);have hX3:w.heap.size+1+1∉Fx:=fun hx=>by have:=hF1'.out _ (jU _ (bI _ hx));omega
   have RES3:=((RES.below bd).chg hC hX3).chg hS (fun hx=>by have:=fV.out _ hx;omega);have I3:=(Id.chg hC hIn).chg hS (fun hx=>by have:=fV.out _ hx;omega);have OB3:=((OB.below bd).chg hC nJ).chg hS (fun hx=>hobg2 (fV.out _ hx));have B3:=(kG.trans (hC.below kG.size (fun z hz=>by have:=hF1'.out _ (jU _ (bI _ hz));omega))).trans (hS.below (base:=w) (by have:=kG.size;omega) (fun x hx=>by have:=fV.out x hx;omega));have rM:∀ x∈F3,x∈F1:=fun x hx=>jU x (tB x hx);clear cU hC hH eN CD os orr kW aL ck ck2 sM hgf2 gI hS RES I Id kG bd bW tB;clear OB_0 OB_1 OB_2 OB_3 OB_l;clear I_0 I_l;clear OB;generalize wa.setCell ⟨g,o+j,Ab⟩ (Aa A9 k9 c9)=w7 at *
   have uD:=hltH.out.1;have kC:=hltH.out.2;have hj3:j<=3:=Bl;replace kC:=Br kC;go_wp2;have hl4:=kC.out;exact ⟨⟨j+1,F3,Bl,by go_num,⟨o3,rM,orr3⟩,OB3,I3,RES3,B3⟩,clM⟩
  ·have aB:¬ (j:Int)<(y.shelf.length:Int):=Bl;obtain ⟨os,jU,orr⟩:=hO.out;rw [Bg Bl,List.drop_eq_nil_of_le Bl,List.append_nil] at os;have RES_:=RES.g4;have rf:=RES.free;have hRb:=Br (show w.heap.size+1+1<base from Bl);clear hO;go_wp2;have en1:w.heap.size+1+1∉F:=fun hx=>by have:=hF1'.out _ (jU _ hx);omega
   have en2:w.heap.size+1+1∉F2:=fun hx=>by have h1:=(hB5'.out _ hx).2;have:=hRb.out;omega
   refine Aj (Mt (DBox.row4 RES rfl _ _ _ _)) rfl ⟨(⟨B1,y.shelf.length,e1⟩,⟨Ac ⟨gr,0,Ab⟩,rn,e2⟩),F ++ F2,by rw [H.out,H2.out],⟨F,F2,rfl,?_,?_,?_⟩,fun x hx=>?_,?_⟩
   ·rw [Ax];refine ⟨os.nodup,orr.nodup,fun a ha b hb e=>?_⟩;subst e;have h1:=hF1'.out a (jU a ha);have h2:=hB5'.out a hb;omega
   ·rw [H2.out];show OwL (Dt.list By) _ F (Aa B1 y.shelf.length e1) (y.shelf.map (Dj id));exact ((((os.set (a:=⟨_,_,Ab⟩) en1 _).set (a:=⟨_,_,Ab⟩) en1 _).set (a:=⟨_,_,Ab⟩) en1 _).set (a:=⟨_,_,Ab⟩) en1 _)
   ·rw [H2.out];show OwL Cf _ F2 (Aa (Ac ⟨gr,0,Ab⟩) rn e2) RR;exact ((((orr.set (a:=⟨_,_,Ab⟩) en2 _).set (a:=⟨_,_,Ab⟩) en2 _).set (a:=⟨_,_,Ab⟩) en2 _).set (a:=⟨_,_,Ab⟩) en2 _)
   ·rcases Bi.1 hx with hx | hx
    ·have:=hF1'.out _ (jU _ hx);omega
    ·have h1:=(hB5'.out _ hx).2;have:=hRb.out;omega
   ·repeat (first | (with_reducible exact jX) | refine Ad ?_ Bp _)
theorem Sk {b:Nat} {w:World} {u0 u1 u2 u3:Value} (X:DBox b [u0,u1,u2,u3] w) {v0 v1 v3:Value} {rest:List Value} :
  (results Tryz.f135 (v0 :: v1 :: .pointer (Ac ⟨b,0,Ab⟩) :: v3 :: rest).toArray).run Am w = .ok (.tuple #[.agg #[u0,u1,u2,u3],v3]) w:=by
 obtain ⟨c0,c1,c2,c3,-⟩:=X.g4;simp [results,results135,go_sem,c0,c1,c2,c3]
theorem Agd (gr o n c:Nat) (rs:List (Run×Cf.S)) (k:Nat) (G1 Fx G2:List Nat) (r:Run) (s:Sl×Sl) (u p gl pl cl:Nat) (w:World) (hp:w.cell? ⟨p,0,Ab⟩=Ac (Aa (Ac ⟨gl,pl,Ab⟩) 3 cl)) (hp':p<w) (hq:w.cell? ⟨gl,pl+1,Ab⟩=Ac (J U u)) (hq':gl<w) (hR:I4 r u) (hF:Foc Cf w gr o n c rs k G1 Fx G2 r s) :
  Calls Am 217 #[.pointer (Ac ⟨gr,o+k * 8,Ab⟩),.pointer (Ac ⟨p,0,Ab⟩)] w (Im gr o n c rs k G1 Fx G2 (Dp r u) s w):=by
 have C:=Br (M4 gr o n c rs k G1 Fx G2 r s u w (by have:=Eb hR.1;omega) hR hF);go_enter func217,ntmps217;go_wp2_with fail
 refine C.out.mono ?_;rintro e w1 ⟨rfl,h1,h2⟩;have HF:=Br (show Im gr o n c rs k G1 Fx G2 (Dp r u) s w (.returned (.tuple #[])) w1 from ⟨rfl,h1,h2⟩);clear h1 h2 C;go_wp2;exact Aj (v:=.tuple #[]) (by simp [results,results217,go_sem]) rfl HF.out
theorem Aak (y:Yard) (s:Sl×Sl) (w:World) (hl:Ca y<=2000000) (h:Bw.rd w w y s) :
  Calls Am 135 #[Ds y s] w (Is (Je y) (Jr y) w):=by
 have HR:=Br (show ∀ W,Below w w W->Bw.rd W W y s from fun W hW=>Bw.rd_more (Bw.rd_below h hW) hW.size);obtain ⟨⟨A1,n1,c1⟩,⟨A2,n2,c2⟩⟩:=s;have CC:=Br (fun W hW=>Fe y (⟨A1,n1,c1⟩,⟨A2,n2,c2⟩) W hl (HR.out W hW));have CY:=Br (fun W hW=>Gk y (⟨A1,n1,c1⟩,⟨A2,n2,c2⟩) W hl (HR.out W hW));clear h;obtain ⟨W,aH,X,RES,B0⟩:=bx2 w 31 [J U y.now,J U y.seq,Aa A1 n1 c1,Aa A2 n2 c2] 31 [J U 0,J U 0,Aa Ab 0 0,Aa Ab 0 0];go_enter func135,ntmps135;go_wp2_with fail
 rw [<-aH.out];clear aH;refine (CC.out _ B0).mono ?_;rintro e1 w1 ⟨⟨⟨B1,m1,e1⟩,⟨B2,m2,e2⟩⟩,F,rfl,oy,nF,b1⟩;have eC:=RES.lt;have b2:Below w1 w1 (w1.alloc (.cells #[J U y.now,J U y.seq,Aa B1 m1 e1,Aa B2 m2 e2] 31)):=Bu;have OB:DBox w1 (Ht y (⟨B1,m1,e1⟩,⟨B2,m2,e2⟩)) _:=DBox.new 31 [J U y.now,J U y.seq,Aa B1 m1 e1,Aa B2 m2 e2] w1 (b:=w1) rfl;have bR:=Br (Bw.ow_lt (F:=F) (x:=y) (s:=(⟨B1,m1,e1⟩,⟨B2,m2,e2⟩)) oy);have dB:=Br (show ∀ x∈F,w.heap.size+1<x from fun x hx=>by have:=nF x hx;omega);replace oy:Bw.ow _ F y (⟨B1,m1,e1⟩,⟨B2,m2,e2⟩):=owB oy b2;have b12:=Bv b1 b2;replace X:=X.below b12;replace RES:=RES.below b12;replace B0:=Bv B0 b12;have bE:=b1.size;clear b1 b2 b12 CC nF;go_upto_region 2 with fail
 have cR:w1.heap.size∉F:=fun h=>by have:=bR.out _ h;omega
 have hobR:w.heap.size+1<w1.heap.size:=Bl;generalize w1.heap.size=ob at *
 generalize w1.alloc (.cells #[J U y.now,J U y.seq,Aa B1 m1 e1,Aa B2 m2 e2] 31)=w2 at *
 have X_:=X.g4;go_wp2_with fail
 refine (CY.out _ B0).mono ?_;rintro e1' w3 ⟨rfl,b3⟩;clear X_;replace X:=X.below b3;replace RES:=RES.below b3;replace OB:=OB.below b3;replace B0:=Bv B0 b3;replace oy:Bw.ow w3 F y (⟨B1,m1,e1⟩,⟨B2,m2,e2⟩):=owB oy b3;clear b3 CY bR;by_cases p0:Dk y;case neg =>
  rw [Cg p0];have H:=Br (show Jr y=8 by unfold Jr;rw [if_pos p0]);exact Ai6
 rw [Di p0];have P0:=Br p0;have gT:=p0.1;clear p0;have wr1:U.wrap (y.now+1)=y.now+1:=Aq _ Bl;have X_:=X.g4;by_cases p1:999999980<y.now+1;case pos =>
  have H:=Br (show Jr y=7 by unfold Jr;rw [if_neg (fun h=>h P0.out),if_pos p1]);exact Ai6
 have H:=Br (show Jr y=0 by unfold Jr;rw [if_neg (fun h=>h P0.out),if_neg p1]);have H2:=Br (show Je y=upY (Fo y (Gg y y.runs.length)) by unfold Je;rw [if_pos H.out];rfl);have CL:=Br (fun W hW=>Aah y (⟨A1,n1,c1⟩,⟨A2,n2,c2⟩) W hl P0.out (HR.out W hW));clear HR;have OB_:=OB.g4;have obf:=OB.free;go_upto_region 7 with fail
 clear X_;clear OB_;clear obf;have fK:=B0.size;have qM:w≠ob:=Bl;replace X:=X.setOther (a:=⟨ob,0,Ab⟩) qM (J U (y.now+1));replace OB:DBox ob (Ht (upY y) (⟨B1,m1,e1⟩,⟨B2,m2,e2⟩)) (w3.setCell ⟨ob,0,Ab⟩ (J U (y.now+1))):=OB.set 0 Bo _;replace RES:=RES.setOther (a:=⟨ob,0,Ab⟩) (by show w.heap.size+1≠ob;omega) (J U (y.now+1));replace oy:Bw.ow (w3.setCell ⟨ob,0,Ab⟩ (J U (y.now+1))) F (upY y) (⟨B1,m1,e1⟩,⟨B2,m2,e2⟩):=Bw.ow_set (F:=F) (x:=y) (s:=(⟨B1,m1,e1⟩,⟨B2,m2,e2⟩)) oy (a:=⟨ob,0,Ab⟩) cR _;replace B0:Below w w (w3.setCell ⟨ob,0,Ab⟩ (J U (y.now+1))):=Ad B0 (by show w.heap.size<=ob;omega) _;generalize w3.setCell ⟨ob,0,Ab⟩ (J U (y.now+1))=w3 at *
 have bR:=Bw.ow_lt (F:=F) (x:=upY y) (s:=(⟨B1,m1,e1⟩,⟨B2,m2,e2⟩)) oy;have X_:=X.g4;go_wp2_with fail
 refine (CL.out _ B0).mono ?_;rintro e1 w4 ⟨⟨A9,n9,c9⟩,Fl,he,ol,nl,b4⟩;replace he:e1 = .returned (Aa A9 n9 c9):=he;subst he;clear X_;clear X CL;have gQ:ob<w3:=OB.lt;have hRl3:w.heap.size+1<w3.heap.size:=RES.lt;replace OB:=OB.below b4;replace RES:=RES.below b4;replace oy:Bw.ow w4 F (upY y) (⟨B1,m1,e1⟩,⟨B2,m2,e2⟩):=owB oy b4;replace B0:=Bv B0 b4;have gF:Hid ((∀ x∈F,w+1<x)/\ob∉F /\ ∀ x∈Fl,x∉F):=⟨dB.out,cR,fun x hx bI=>by have h1:w3<=x:=nl x hx;have h2:=bR x bI;omega⟩
 have hFln:=Br (show ∀ x∈Fl,x≠ob/\w.heap.size+1<x from fun x hx=>by have h1:w3<=x:=nl x hx;omega);have hmemL:=Br (fun p (hp:p∈Gg y y.runs.length)=>Si hp);clear nl b4 bR dB cR gQ hRl3 fK;have hLs:=Br (show (Gg y y.runs.length).length<=96 by have h1:=Lt (Nk P0.out) y.runs.length;have h2:=P0.out.2.2.2.2.2.2.1;omega);generalize Gg y y.runs.length=L at *
 obtain rfl:n9=L.length:=by have:=RdL.at1 (s:=⟨A9,n9,c9⟩) ol.rd;rw [Ar] at this;exact this
 go_wp2;go_loopw [27] (fun iv wr=>∃ (i:Nat) (Z:Yard) (F:List Nat),i<=L.length/\iv = J U i/\Hid (Trn y i Z/\SameTry y Z)/\Hid (Fo y (L.take i)=Z)/\Hid (Bw.ow wr F (upY Z) (⟨B1,m1,e1⟩,⟨B2,m2,e2⟩))/\Hid ((∀ x∈F,w+1<x)/\ob∉F /\ ∀ x∈Fl,x∉F)/\Hid (OwL (Dt.flats Iz) wr Fl (Aa A9 L.length c9) (L.map (I5 y)))/\DBox ob (Ht (upY Z) (⟨B1,m1,e1⟩,⟨B2,m2,e2⟩)) wr/\DBox (w+1) [J U 0,J U 0,Aa Ab 0 0,Aa Ab 0 0] wr/\Below w w wr) (fun i _=>L.length - (intOf i).toNat);case atStart=>exact ⟨0,y,F,Ag _,rfl,⟨Trn.start P0.out,fun _ _=>rfl⟩,rfl,oy,gF,ol,OB,RES,B0⟩
 case round =>
  clear oy gF ol OB RES B0;obtain ⟨i,Z,F,hi,rfl,hT,hZ,oy,hF,ol,OB,RES,hb⟩:=hrel;replace oy:Bw.ow wr F (upY Z) (⟨B1,m1,e1⟩,⟨B2,m2,e2⟩):=oy.out;have bS:=hLs.out;by_cases aA:i<L.length
  ·have aB:(i:Int)<(L.length:Int):=Bl;have aQ:(0:Int)<=(i:Int):=Bl;have hp:=hmemL.out _ (Aw aA);have aF:Hid (Fo y (L.take (i+1))=Gr Z L[i].1 L[i].2):=Amb
   have cM:(L.map (I5 y))[i]'(by rw [Ar];exact aA)=[(Hi y L[i].1).id,(L[i].2:Int),(Cv (Hi y L[i].1) L[i].2).try_]:=by
    rw [List.getElem_map];rfl
   generalize L[i]=p at *
   obtain ⟨k,t⟩:=p;dsimp only at hp aF cM;have qS:k<y.runs.length:=hp.1;have eD:k<Z.runs.length:=by rw [hT.out.1.len];exact qS
   have hru:=E6 qS;rw [hru] at hp cM;have gA:=hT.out.1.run k eD qS;have kD:t<Z.runs[k].tasks.length:=by rw [gA.2.2];exact hp.2
   have gV:=Br (show Dn Z y.runs[k].id=k from (hT.out.1.runAt _).trans (P0.out.2.2.2.2.2.2.2.1 k qS).2);have tL:=hT.out.1.cnt Bl;have hN:=Br (show Trn y (i+1) (Gr Z k t)/\SameTry y (Gr Z k t) from ⟨hT.out.1.fail eD kD,hT.out.2.fail eD t⟩);have cM:=Br cM;have nW:=Br (Wo hT.out.1 hT.out.2 eD kD gV.out);rw [hru] at nW;obtain ⟨bl,lo,rfl⟩:∃ b o,A9=Ac ⟨b,o,Ab⟩:=Amf
   obtain ⟨gl,pl,cl,jC,gC,l0,l1,l2,l3⟩:=N6 ol.out (i:=i) (by rw [Ar];exact aA) cM.out;have mH:=ol.out.lt _ jC;have cH:=ol.out.lt _ gC;generalize hid:y.runs[k].id=rid at *
   generalize htr:(Cv y.runs[k] t).try_=tr at *
   have TQ:=DBox.new 26 [Aa (Ac ⟨gl,pl,Ab⟩) 3 cl] wr (b:=wr) rfl;have bq:Below wr wr (wr.alloc (.cells #[Aa (Ac ⟨gl,pl,Ab⟩) 3 cl] 26)):=Bu;go_upto_region 10 with fail
   have gR:=OB.lt;replace OB:=OB.below bq;replace RES:=RES.below bq;have hqF:wr.heap.size∉F:=fun hx=>by have:=Bw.ow_lt (F:=F) (x:=upY Z) (s:=(⟨B1,m1,e1⟩,⟨B2,m2,e2⟩)) oy _ hx;omega
   have hqo:wr≠ob:=Bl;have hqL:∀ x∈Fl,x≠wr:=fun x hx=>by have:=ol.out.lt x hx;omega
   replace l1:=(bq.cell (p:=⟨gl,_,Ab⟩) cH).trans l1;replace l2:=(bq.cell (p:=⟨gl,_,Ab⟩) cH).trans l2;replace l3:=(bq.cell (p:=⟨gl,_,Ab⟩) cH).trans l3;replace cH:=Ai cH bq.size;replace oy:Bw.ow _ F (upY Z) (⟨B1,m1,e1⟩,⟨B2,m2,e2⟩):=owB oy bq;replace ol:=Br (ol.out.below bq);replace hb:=Bv hb bq;clear bq l0 mH;generalize wr.alloc (.cells #[Aa (Ac ⟨gl,pl,Ab⟩) 3 cl] 26)=w5 at *
   generalize wr.heap.size=tq at *
   have OB_:=OB.g4;obtain ⟨TQ_0,TQ_l⟩:=TQ.g1;have oyr:=Bw.ow_rd (F:=F) (x:=upY Z) (s:=(⟨B1,m1,e1⟩,⟨B2,m2,e2⟩)) oy;have CH:=Br (fun W (hW:Below w5 w5 W)=>Mz (upY Z) (⟨B1,m1,e1⟩,⟨B2,m2,e2⟩) rid t tr W tL (Bw.rd_more (Bw.rd_below (x:=upY Z) (s:=(⟨B1,m1,e1⟩,⟨B2,m2,e2⟩)) oyr hW) hW.size));have CA:=Br (fun W (hW:Below w5 w5 W)=>Fj (upY Z) (⟨B1,m1,e1⟩,⟨B2,m2,e2⟩) rid W tL (Bw.rd_more (Bw.rd_below (x:=upY Z) (s:=(⟨B1,m1,e1⟩,⟨B2,m2,e2⟩)) oyr hW) hW.size));clear oyr;have aM:=Cw w5;go_wp2;refine Bz Bm Bm ?_;repeat (go_big_quiet_step ((go_at_call 216;rename_i x;exact Fu (CH.out x.1 x.2))))
   refine Ak ?_;rintro w6 ⟨⟨_,b6⟩,rfl⟩;clear aM CH;clear OB_;clear TQ_0 TQ_l;replace OB:=OB.below b6;replace RES:=RES.below b6;replace TQ:=TQ.below b6;replace l1:=(b6.cell (p:=⟨gl,_,Ab⟩) cH).trans l1;replace l2:=(b6.cell (p:=⟨gl,_,Ab⟩) cH).trans l2;replace l3:=(b6.cell (p:=⟨gl,_,Ab⟩) cH).trans l3;replace cH:=Ai cH b6.size;replace oy:Bw.ow _ F (upY Z) (⟨B1,m1,e1⟩,⟨B2,m2,e2⟩):=owB oy b6;replace ol:=Br (ol.out.below b6);replace hb:=Bv hb b6;have CA2:=Br (fun W (hW:Below w6 w6 W)=>CA.out W (Bv b6 hW));clear CA b6;by_cases q:(Cv (Hi Z k) t).state=3;case neg =>
    rw [Cg (show ¬ Gq (upY Z) rid t tr from fun h=>q (nW.out.1 h))];have bJ:=Br (show Gr Z k t=Z from Lu q);clear q nW;go_wp2;exact ⟨⟨i+1,Z,F,Bl,by go_num,⟨hT.out.1.mono Bl,hT.out.2⟩,aF.out.trans bJ.out,oy,hF,ol,OB,RES,hb⟩,clM⟩
   rw [Di (show Gq (upY Z) rid t tr from nW.out.2 q)];have aP:Hid (I4 Z.runs[k] t):=⟨gA.1,⟨Bl,Bl⟩,by rw [Ao,<-E6 eD];exact q⟩
   have bJ:=Br (show Gr Z k t=Gn Z k (Dp Z.runs[k] t) by rw [Kz q,E6 eD]);clear q nW;have CA:=CA2.out _ (Bs _ _).drew;rw [show Dn (upY Z) rid=k from gV.out] at CA;have CA:=Br CA;have OB_:=OB.g4;obtain ⟨TQ_0,TQ_l⟩:=TQ.g1;go_upto_region 11 with fail
   refine Go.wp_region_noPanic ?_;refine wp_region_held_drew (S:=(fun w'=>w'.cell? ⟨tq,0,Ab⟩=Ac (Aa (Ac ⟨gl,pl,Ab⟩) 3 cl)/\w'.cell? ⟨gl,pl,Ab⟩=Ac (J U rid))) Bm ⟨TQ_0,l1⟩ (fun hHeld=>?_);refine tV 1 ?_
   (try simp only [pS])
   refine tV 2 ?_
   (try simp only [pS])
   refine tV 3 ?_
   (try simp only [pS])
   refine tV 5 ?_
   (try simp only [pS])
   clear OB_;clear TQ_0 TQ_l;have bd:Below w6 w6 w6.drew:=(Bs _ _).drew;replace OB:=OB.below bd;replace RES:=RES.below bd;replace TQ:=TQ.below bd;replace l2:=(bd.cell (p:=⟨gl,_,Ab⟩) cH).trans l2;replace cH:gl<w6.drew:=cH;replace oy:Bw.ow _ F (upY Z) (⟨B1,m1,e1⟩,⟨B2,m2,e2⟩):=owB oy bd;replace ol:=Br (ol.out.below bd);replace hb:=Bv hb bd;clear bd l1 l3 CA2;generalize w6.drew=w6 at *
   have OB_:=OB.g4;refine rC 0 (fun K_ hK=>?_);go_simp;refine hK.out _ _ hHeld (fun hHeld=>?_);clear hK K_
   (try simp only [pS])
   have hTq:=TQ.lt;refine rC 4 (fun K_ hK=>?_);go_simp;refine CA.out.mono ?_;rintro e5 wa ⟨rfl,ba⟩;clear OB_;replace OB:=OB.below ba;replace RES:=RES.below ba;replace TQ:=TQ.below ba;replace l2:=(ba.cell (p:=⟨gl,_,Ab⟩) cH).trans l2;have uU:=(ba.cell (p:=⟨tq,_,Ab⟩) hTq).trans hHeld.1;have vM:=(ba.cell (p:=⟨gl,_,Ab⟩) cH).trans hHeld.2;replace cH:=Ai cH ba.size;replace oy:Bw.ow _ F (upY Z) (⟨B1,m1,e1⟩,⟨B2,m2,e2⟩):=owB oy ba;replace ol:=Br (ol.out.below ba);replace hb:=Bv hb ba;clear ba CA;refine hK.out _ _ ⟨uU,vM⟩ (fun hHeld=>?_);clear hK K_ uU vM
   (try simp only [pS])
   have rL:=TQ.lt;have CH:=Br (Kg 217 tq (Nz func217 Bm Bm) (upY Z) ob (⟨B1,m1,e1⟩,⟨B2,m2,e2⟩) F k (Dp Z.runs[k] t) wa hT.out.1.four (fun s hs=>by have:=hT.out.1.all s hs;omega) (by have:=hT.out.1.seq;show 0<=Z.seq/\Z.seq<=_;omega) eD (by rw [Il];have:=Eb aP.out.1;omega) (by have:=Eb aP.out.1;show Z.runs[k].tasks.length<=_;omega) OB oy hF.out.2.1
    (Br fun W gr o n c rs G1 Fx G2 sr hW hFo=>Agd gr o n c rs k G1 Fx G2 Z.runs[k] sr t tq gl pl cl W ((TQ.below hW).cell 0 _ rfl) (TQ.below hW).lt ((hW.cell (p:=⟨gl,_,Ab⟩) cH).trans l2) (Ai cH hW.size) aP.out hFo))
   rw [Ag4,<-bJ.out] at CH;refine rC 6 (fun K_ hK=>?_);go_simp;refine CH.out.mono ?_;rintro e6 wb ⟨rfl,F',OB',oy',nF',hc⟩;have bL:=hb.size;have eC:=RES.lt;have hobA:=OB.lt;have cF:∀ x∈ob :: F,w+1<x:=fun x hx=>by
    exact Am0
   have tC:∀ x∈Fl,x∉ob :: F:=fun x hx hx2=>by
    rcases List.mem_cons.1 hx2 with e | hx2
    ·exact (hFln.out x hx).1 e
    ·exact hF.out.2.2 x hx hx2
   have hqn:tq∉ob :: F:=fun hx=>by
    rcases List.mem_cons.1 hx with e | hx
    ·exact hqo e
    ·exact hqF hx
   have uU:=(hc.cell (p:=⟨tq,_,Ab⟩) rL hqn).trans hHeld.1;have vM:=(hc.cell (p:=⟨gl,_,Ab⟩) cH (tC gl gC)).trans hHeld.2;have rI:=ol.out.lt;replace RES:=RES.chg hc (fun hx=>by have:=cF _ hx;omega);replace hb:=hb.trans (hc.below (base:=w) bL (fun x hx=>by have:=cF x hx;omega));replace ol:=Br (ol.out.chg hc tC);have rN:Hid ((∀ x∈F',w+1<x)/\ob∉F' /\ ∀ x∈Fl,x∉F'):=⟨fun x hx=>by
    rcases nF' x hx with h | h
    ·exact hF.out.1 x h
    ·omega,fun hx=>by
    rcases nF' _ hx with h | h
    ·exact hF.out.2.1 h
    ·omega,fun x hx hx2=>by
    rcases nF' x hx2 with h | h
    ·exact hF.out.2.2 x hx h
    ·have:=rI x hx;omega⟩
   clear CH OB oy hc nF' cF tC rI TQ l2 hqn;refine hK.out _ _ ⟨uU,vM⟩ (fun hHeld=>?_);clear hK K_ uU vM
   (try simp only [pS])
   refine Al Bm ?_ _;refine NoPanic.normal ?_;clear hHeld;generalize Gr Z k t=Z1 at *
   go_wp2;exact ⟨⟨i+1,Z1,F',Bl,by go_num,hN,aF,oy',rN,ol,OB',RES,hb⟩,clM⟩
  ·have aB:¬ (i:Int)<(L.length:Int):=Bl;have hZ1:=Br (show Fo y L=Z by have:=hZ.out;rw [Bg Bl] at this;exact this);have H3:=Br (show Je y=upY Z by rw [H2.out,hZ1.out]);have OB_:=OB.g4;have RES_:=RES.g4;have rf:=RES.free;go_wp2;have en1:w.heap.size+1∉F:=fun hx=>by have:=hF.out.1 _ hx;omega
   refine Aj (Sk (DBox.row4 RES rfl _ _ _ _)) rfl ⟨(⟨B1,m1,e1⟩,⟨B2,m2,e2⟩),F,by rw [H.out,H3.out],by rw [H3.out];exact Bw.set4 (F:=F) (x:=upY Z) (s:=(⟨B1,m1,e1⟩,⟨B2,m2,e2⟩)) oy en1,fun x hx=>by have:=hF.out.1 x hx;omega,?_⟩;repeat (first | (with_reducible exact hb) | refine Ad ?_ Bp _)
end Go.Proofs.YtecnbnbopcblgaaGreat
