/-
  Restart of the program. A yard does not grow by a deed beyond what a law's arguments hold. Plain. Do of the program. Written by program (ido.py). What is asked 
-/
import Derived.Test.YtecnbnbopcblgaaGreatZAk4
import Derived.Test.YtecnbnbopcblgaaGreatZAk9
import Derived.Test.YtecnbnbopcblgaaGreatZAk10
import Derived.Test.YtecnbnbopcblgaaGreatZAk11
import Derived.Test.YtecnbnbopcblgaaGreatZAk14
import Derived.Test.YtecnbnbopcblgaaGreatZAk15
import Derived.Test.YtecnbnbopcblgaaGreatZAk16
namespace Go.Proofs.YtecnbnbopcblgaaGreat
open Go.RowKit
set_option maxRecDepth 100000
set_option maxHeartbeats 4000000
set_option linter.unusedVariables false
set_option linter.unusedSimpArgs false
open Value renaming int->J,slice->Aa
open IntKind renaming i64->U
open Option renaming none->Ab,some->Ac
open Below renaming setCell->Ad
open Nat renaming zero_le->Ag
open Go renaming bodyPost_ret->Aj,wpAnyH_done->Al
open Go.Proofs.Tryz renaming prog->Am
open Int renaming toNat_natCast->Ao
open List renaming mem_singleton->Au,getElem_mem->Aw,mem_append->Bi
open Go.Proofs.Tryz
theorem Akd {p:Prop} (h:p:=by
 have hS:=Br (show ∀ i (hi:i<k.memos.length),i<j+1->k.memos[i].id<id from fun i hi h=>by
  by_cases e:i=j
  ·subst e;exact hl
  ·exact cQ.out i hi Bl)
 go_wp2;exact ⟨⟨j+1,Bl,by go_num,hS,trivial⟩,clM⟩):p:=h
theorem Rp {b:Nat} {w:World} {u0 u1 u2 u3:Value} (X:DBox b [u0,u1,u2,u3] w) {v0 v1:Value} {rest:List Value} :
  (results Tryz.f138 (v0 :: v1 :: .pointer (Ac ⟨b,0,Ab⟩) :: rest).toArray).run Am w = .ok (.agg #[u0,u1,u2,u3]) w:=by
 obtain ⟨c0,c1,c2,c3,-⟩:=X.g4;simp [results,results138,go_sem,c0,c1,c2,c3]
theorem Aal (gr o n c:Nat) (rs:List (Run×Cf.S)) (k:Nat) (G1 Fx G2:List Nat) (r:Run) (s:Sl×Sl) (u p:Nat) (w:World) (hp:w.cell? ⟨p,0,Ab⟩=Ac (J U u)) (hp':p<w) (hR:I4 r u) (hF:Foc Cf w gr o n c rs k G1 Fx G2 r s) :
  Calls Am 222 #[.pointer (Ac ⟨gr,o+k * 8,Ab⟩),.pointer (Ac ⟨p,0,Ab⟩)] w (Im gr o n c rs k G1 Fx G2 (Dp r u) s w):=by
 have C:=Br (M4 gr o n c rs k G1 Fx G2 r s u w (by have:=Eb hR.1;omega) hR hF);go_enter func222,ntmps222;go_wp2_with fail
 refine C.out.mono ?_;rintro e w1 ⟨rfl,h1,h2⟩;have HF:=Br (show Im gr o n c rs k G1 Fx G2 (Dp r u) s w (.returned (.tuple #[])) w1 from ⟨rfl,h1,h2⟩);clear h1 h2 C;go_wp2;exact Aj (v:=.tuple #[]) (by simp [results,results222,go_sem]) rfl HF.out
theorem T9 (y:Yard) (s:Sl×Sl) (w:World) (hl:Ca y<=2000000) (h:Bw.rd w w y s) :
  Calls Am 138 #[Ds y s] w (Dv Bw Ds (Mh y) w):=by
 have HR:=Br (show ∀ W,Below w w W->Bw.rd W W y s from fun W hW=>Bw.rd_more (Bw.rd_below h hW) hW.size);obtain ⟨⟨A1,n1,c1⟩,⟨A2,n2,c2⟩⟩:=s;have CC:=Br (fun W hW=>Fe y (⟨A1,n1,c1⟩,⟨A2,n2,c2⟩) W hl (HR.out W hW));have CY:=Br (fun W hW=>Gk y (⟨A1,n1,c1⟩,⟨A2,n2,c2⟩) W hl (HR.out W hW));clear h;obtain ⟨W,aH,X,RES,B0⟩:=bx2 w 31 [J U y.now,J U y.seq,Aa A1 n1 c1,Aa A2 n2 c2] 31 [J U 0,J U 0,Aa Ab 0 0,Aa Ab 0 0];go_enter func138,ntmps138;go_wp2_with fail
 rw [<-aH.out];clear aH;refine (CC.out _ B0).mono ?_;rintro e1 w1 ⟨⟨⟨B1,m1,e1⟩,⟨B2,m2,e2⟩⟩,F,rfl,oy,nF,b1⟩;have eC:=RES.lt;have b2:Below w1 w1 (w1.alloc (.cells #[J U y.now,J U y.seq,Aa B1 m1 e1,Aa B2 m2 e2] 31)):=Bu;have OB:DBox w1 (Ht y (⟨B1,m1,e1⟩,⟨B2,m2,e2⟩)) _:=DBox.new 31 [J U y.now,J U y.seq,Aa B1 m1 e1,Aa B2 m2 e2] w1 (b:=w1) rfl;have bR:=Br (Bw.ow_lt (F:=F) (x:=y) (s:=(⟨B1,m1,e1⟩,⟨B2,m2,e2⟩)) oy);have dB:=Br (show ∀ x∈F,w.heap.size+1<x from fun x hx=>by have:=nF x hx;omega);replace oy:Bw.ow _ F y (⟨B1,m1,e1⟩,⟨B2,m2,e2⟩):=owB oy b2;have b12:=Bv b1 b2;replace X:=X.below b12;replace RES:=RES.below b12;replace B0:=Bv B0 b12;have bE:=b1.size;clear b1 b2 b12 CC nF;go_upto_region 2 with fail
 have cR:w1.heap.size∉F:=fun h=>by have:=bR.out _ h;omega
 have hobR:w.heap.size+1<w1.heap.size:=Bl;generalize w1.heap.size=ob at *
 generalize w1.alloc (.cells #[J U y.now,J U y.seq,Aa B1 m1 e1,Aa B2 m2 e2] 31)=w2 at *
 have X_:=X.g4;go_wp2_with fail
 refine (CY.out _ B0).mono ?_;rintro e1' w3 ⟨rfl,b3⟩;clear X_;replace X:=X.below b3;replace RES:=RES.below b3;replace OB:=OB.below b3;replace B0:=Bv B0 b3;replace oy:Bw.ow w3 F y (⟨B1,m1,e1⟩,⟨B2,m2,e2⟩):=owB oy b3;clear b3 CY bR;by_cases p0:Dk y;case neg =>
  rw [Cg p0];have H2:=Br (show Mh y=y from if_neg p0);clear p0;have RES_:=RES.g4;have OB_:=OB.g4;have rf:=RES.free;go_wp2;have en1:w.heap.size+1∉F:=fun hx=>by have:=dB.out _ hx;omega
  refine Aj (Rp (DBox.row4 RES rfl _ _ _ _)) rfl ⟨(⟨B1,m1,e1⟩,⟨B2,m2,e2⟩),F,by rw [H2.out],by rw [H2.out];exact Bw.set4 (F:=F) (x:=y) (s:=(⟨B1,m1,e1⟩,⟨B2,m2,e2⟩)) oy en1,fun x hx=>by have:=dB.out x hx;omega,?_⟩;repeat (first | (with_reducible exact B0) | refine Ad ?_ Bp _)
 rw [Di p0];have P0:=Br p0;have H2:=Br (show Mh y=Fo y (Ic y y.runs.length) from if_pos p0);clear p0;obtain rfl:n2=y.runs.length:=RdL.at1 (s:=⟨A2,n2,c2⟩) (HR.out w (Bs _ _)).2;have CX:=Br (fun W (hW:Below w w W)=>show RdL Cf W W.heap.size (Aa A2 y.runs.length c2) y.runs from (HR.out W hW).2);clear HR;have rU:y.runs.length<=8:=P0.out.2.2.2.2.2.2.1;have gF:Hid ((∀ x∈F,w+1<x)/\ob∉F):=⟨dB.out,cR⟩
 clear dB cR;have X_:=X.g4;go_wp2;clear X_;go_loopw [17] (fun iv wr=>∃ (k:Nat) (Z:Yard) (F:List Nat),k<=y.runs.length/\iv = J U k/\Hid (Trn y (12 * k) Z/\SameTry y Z)/\Hid (Fo y (Ic y k)=Z)/\Hid (Bw.ow wr F Z (⟨B1,m1,e1⟩,⟨B2,m2,e2⟩))/\Hid ((∀ x∈F,w+1<x)/\ob∉F)/\DBox ob (Ht Z (⟨B1,m1,e1⟩,⟨B2,m2,e2⟩)) wr/\DBox (w+1) [J U 0,J U 0,Aa Ab 0 0,Aa Ab 0 0] wr/\Below w w wr) (fun i _=>y.runs.length - (intOf i).toNat);case atStart=>exact ⟨0,y,F,Ag _,rfl,⟨Trn.start P0.out,fun _ _=>rfl⟩,rfl,oy,gF,OB,RES,B0⟩
 case round =>
  clear oy gF OB RES B0 X;obtain ⟨k,Z,F,hk,rfl,hT,hZ,oy,hF,OB,RES,hb⟩:=hrel;by_cases aA:k<y.runs.length
  ·have aB:(k:Int)<(y.runs.length:Int):=Bl;have cE:(0:Int)<=(k:Int):=Bl;obtain ⟨b,o,⟨⟨A8,n8,c8⟩,⟨At,nt,ct⟩⟩,rfl,aJ,cP,e0,e1_,e2_,e3,e4,e5,e6,e7⟩:=(CX.out w (Bs _ _)).run aA;obtain rfl:nt=y.runs[k].tasks.length:=RdL.at1 (s:=⟨At,nt,ct⟩) cP.2;have HT:=Br (fun W (hW:Below w w W)=>show RdL C8 W w.heap.size (Aa At y.runs[k].tasks.length ct) y.runs[k].tasks from RdL.below cP.2 hW);clear cP;replace e0:=(hb.cell (p:=⟨b,_,Ab⟩) aJ).trans e0;replace e1_:=(hb.cell (p:=⟨b,_,Ab⟩) aJ).trans e1_;replace e2_:=(hb.cell (p:=⟨b,_,Ab⟩) aJ).trans e2_;replace e3:=(hb.cell (p:=⟨b,_,Ab⟩) aJ).trans e3;replace e4:=(hb.cell (p:=⟨b,_,Ab⟩) aJ).trans e4;replace e5:=(hb.cell (p:=⟨b,_,Ab⟩) aJ).trans e5;replace e6:=(hb.cell (p:=⟨b,_,Ab⟩) aJ).trans e6;replace e7:=(hb.cell (p:=⟨b,_,Ab⟩) aJ).trans e7;have bV:b<wr:=Nat.lt_of_lt_of_le aJ hb.size;have R:=DBox.new 67 [J U y.runs[k].id,J U y.runs[k].plan.prio,J U y.runs[k].plan.most,J U y.runs[k].plan.wait,J U y.runs[k].plan.tasks,Aa A8 n8 c8,J U y.runs[k].state,Aa At y.runs[k].tasks.length ct] wr (b:=wr) rfl;have ha:Below wr wr (wr.alloc (.cells #[J U y.runs[k].id,J U y.runs[k].plan.prio,J U y.runs[k].plan.most,J U y.runs[k].plan.wait,J U y.runs[k].plan.tasks,Aa A8 n8 c8,J U y.runs[k].state,Aa At y.runs[k].tasks.length ct] 67)):=Bu;go_upto_region 7 with fail
   have hobr:=OB.lt;have hrF:wr.heap.size∉F:=fun hx=>by have:=Bw.ow_lt (F:=F) (x:=Z) (s:=(⟨B1,m1,e1⟩,⟨B2,m2,e2⟩)) oy.out _ hx;omega
   replace OB:=OB.below ha;replace RES:=RES.below ha;replace oy:Hid (Bw.ow _ F Z (⟨B1,m1,e1⟩,⟨B2,m2,e2⟩)):=Br (Bw.ow_below (F:=F) (x:=Z) (s:=(⟨B1,m1,e1⟩,⟨B2,m2,e2⟩)) oy.out ha);replace hb:=Bv hb ha;clear e0 e1_ e2_ e3 e4 e5 e6 e7 aJ ha bV;have hrbn:wr≠ob:=Bl;generalize wr.alloc (.cells #[J U y.runs[k].id,J U y.runs[k].plan.prio,J U y.runs[k].plan.most,J U y.runs[k].plan.wait,J U y.runs[k].plan.tasks,Aa A8 n8 c8,J U y.runs[k].state,Aa At y.runs[k].tasks.length ct] 67)=w1 at *
   generalize wr.heap.size=rb at *
   have R_:=R.g8;go_wp2;clear R_;have rM:Hid ((∀ x∈F,w+1<x)/\ob∉F/\rb∉F):=⟨hF.out.1,hF.out.2,hrF⟩
   go_loopw [25] (fun iv wr=>∃ (t:Nat) (Z:Yard) (F:List Nat),t<=y.runs[k].tasks.length/\iv = J U t/\Hid (Trn y (12 * k+t) Z/\SameTry y Z)/\Hid (Fo y (Ic y k ++ Jx k t)=Z)/\Hid (Bw.ow wr F Z (⟨B1,m1,e1⟩,⟨B2,m2,e2⟩))/\Hid ((∀ x∈F,w+1<x)/\ob∉F/\rb∉F)/\DBox ob (Ht Z (⟨B1,m1,e1⟩,⟨B2,m2,e2⟩)) wr/\DBox (w+1) [J U 0,J U 0,Aa Ab 0 0,Aa Ab 0 0] wr/\DBox rb [J U y.runs[k].id,J U y.runs[k].plan.prio,J U y.runs[k].plan.most,J U y.runs[k].plan.wait,J U y.runs[k].plan.tasks,Aa A8 n8 c8,J U y.runs[k].state,Aa At y.runs[k].tasks.length ct] wr/\Below w w wr) (fun i _=>y.runs[k].tasks.length - (intOf i).toNat);case atStart=>exact ⟨0,Z,F,Ag _,rfl,hT,by rw [show Jx k 0=[] from rfl,List.append_nil];exact hZ,oy,rM,OB,RES,R,hb⟩
   case round =>
    clear oy hF OB RES R hb rM hrF hT hZ;obtain ⟨t,Z,F,ht,rfl,hT,hZ,oy,hF,OB,RES,R,hb⟩:=hrel;replace oy:Bw.ow wr F Z (⟨B1,m1,e1⟩,⟨B2,m2,e2⟩):=oy.out;have fR:=(Eb (Ev P0.out aA)).2;by_cases fF:t<y.runs[k].tasks.length
    ·have nT:(t:Int)<(y.runs[k].tasks.length:Int):=Bl;have vT:(0:Int)<=(t:Int):=Bl;obtain ⟨b',o',_,rfl,bF,_,d0,d1,d2,d3⟩:=(HT.out wr hb).task fF;have aF:Hid (Fo y (Ic y k ++ Jx k (t+1))=Gr Z k t):=by
      show Fo y _=_;rw [<-hZ.out,Ta,<-List.append_assoc];unfold Fo;rw [List.foldl_append];rfl
     have eD:k<Z.runs.length:=by rw [hT.out.1.len];exact aA
     have gA:=hT.out.1.run k eD aA;have kD:t<Z.runs[k].tasks.length:=by rw [gA.2.2];exact fF
     have gV:=Br (show Dn Z y.runs[k].id=k from (hT.out.1.runAt _).trans (P0.out.2.2.2.2.2.2.2.1 k aA).2);have tL:=hT.out.1.cnt Bl;have hN:=Br (show Trn y (12 * k+(t+1)) (Gr Z k t)/\SameTry y (Gr Z k t) from ⟨hT.out.1.fail eD kD,hT.out.2.fail eD t⟩);have nW:=Br (Wo hT.out.1 hT.out.2 eD kD gV.out);rw [E6 aA,Cu fF] at nW;have gR:=OB.lt;have hRw:=R.lt;have tC:=Bw.ow_lt (F:=F) (x:=Z) (s:=(⟨B1,m1,e1⟩,⟨B2,m2,e2⟩)) oy;generalize y.runs[k].tasks[t]=x at *
     have IB:=(DBox.new 3 [J U t] wr (b:=wr) rfl).below ((Bs _ _).alloc (Bt _) (.cells #[J U x.state,J U x.need,J U x.try_,J U x.until_] 203));have TB:=DBox.new 203 [J U x.state,J U x.need,J U x.try_,J U x.until_] (wr.alloc (.cells #[J U t] 3)) (b:=wr+1) Bo;have bq:Below wr wr ((wr.alloc (.cells #[J U t] 3)).alloc (.cells #[J U x.state,J U x.need,J U x.try_,J U x.until_] 203)):=by repeat (first | exact Bs _ _ | refine Below.alloc ?_ Bp _)
     go_upto_region 10 with fail
     replace OB:=OB.below bq;replace RES:=RES.below bq;replace R:=R.below bq;replace oy:Bw.ow _ F Z (⟨B1,m1,e1⟩,⟨B2,m2,e2⟩):=owB oy bq;replace hb:=Bv hb bq;clear bq d0 d1 d2 d3;have hiF:wr.heap.size∉ob :: F:=fun hx=>by
      rcases List.mem_cons.1 hx with e | hx
      ·omega
      ·have:=tC _ hx;omega
     clear tC;generalize (wr.alloc (.cells #[J U t] 3)).alloc (.cells #[J U x.state,J U x.need,J U x.try_,J U x.until_] 203)=w5 at *
     generalize wr.heap.size=iq at *
     have CH:=Br (fun W (hW:Below w5 w5 W)=>Mz Z (⟨B1,m1,e1⟩,⟨B2,m2,e2⟩) y.runs[k].id t x.try_ W tL (Bw.rd_more (Bw.rd_below (x:=Z) (s:=(⟨B1,m1,e1⟩,⟨B2,m2,e2⟩)) (Bw.ow_rd (F:=F) (x:=Z) (s:=(⟨B1,m1,e1⟩,⟨B2,m2,e2⟩)) oy) hW) hW.size));have OB_:=OB.g4;have R_:=R.g8;have TB_:=TB.g4;obtain ⟨IB_0,IB_l⟩:=IB.g1;go_wp2_with fail
     refine (CH.out _ (Bs _ _)).mono ?_;rintro e5 w6 ⟨rfl,b6⟩;clear CH;clear OB_;clear R_;clear TB_;clear IB_0 IB_l;replace OB:=OB.below b6;replace RES:=RES.below b6;replace R:=R.below b6;replace IB:=IB.below b6;clear TB;replace oy:Bw.ow _ F Z (⟨B1,m1,e1⟩,⟨B2,m2,e2⟩):=owB oy b6;replace hb:=Bv hb b6;clear b6;by_cases q:(Cv (Hi Z k) t).state=3;case neg =>
      rw [Cg (show ¬ Gq Z y.runs[k].id t x.try_ from fun h=>q (nW.out.1 h))];have bJ:=Br (show Gr Z k t=Z from Lu q);clear q nW;go_wp2;exact ⟨⟨t+1,Z,F,Bl,by go_num,⟨hT.out.1.mono Bl,hT.out.2⟩,aF.out.trans bJ.out,oy,hF,OB,RES,R,hb⟩,clM⟩
     rw [Di (show Gq Z y.runs[k].id t x.try_ from nW.out.2 q)];have aP:Hid (I4 Z.runs[k] t):=⟨gA.1,⟨Bl,Bl⟩,by rw [Ao,<-E6 eD];exact q⟩
     have bJ:=Br (show Gr Z k t=Gn Z k (Dp Z.runs[k] t) by rw [Kz q,E6 eD]);clear q nW;have CH:=Br (Kg 222 iq (Nz func222 Bm Bm) Z ob (⟨B1,m1,e1⟩,⟨B2,m2,e2⟩) F k (Dp Z.runs[k] t) w6 hT.out.1.four (fun s hs=>by have:=hT.out.1.all s hs;omega) (by have:=hT.out.1.seq;omega) eD (by rw [Il];have:=Eb aP.out.1;omega) (by have:=Eb aP.out.1;omega) OB oy hF.out.2.1
      (Br fun W gr o n c rs G1 Fx G2 sr hW hFo=>Aal gr o n c rs k G1 Fx G2 Z.runs[k] sr t iq W ((IB.below hW).cell 0 _ rfl) (IB.below hW).lt aP.out hFo))
     rw [<-bJ.out] at CH;go_wp2_with fail
     refine CH.out.mono ?_;rintro e6 wb ⟨rfl,F',OB',oy',nF',hc⟩;have bL:=hb.size;have eC:=RES.lt;have hobA:=OB.lt;have hrbA:=R.lt;have cF:∀ x∈ob :: F,w+1<x:=fun x hx=>by
      exact Am0
     have hrn2:rb∉ob :: F:=fun hx=>by
      rcases List.mem_cons.1 hx with e | hx
      ·exact hrbn e
      ·exact hF.out.2.2 hx
     replace RES:=RES.chg hc (fun hx=>by have:=cF _ hx;omega);replace R:=R.chg hc hrn2;replace hb:=hb.trans (hc.below (base:=w) bL (fun x hx=>by have:=cF x hx;omega));have rN:Hid ((∀ x∈F',w+1<x)/\ob∉F'/\rb∉F'):=⟨fun x hx=>by
      rcases nF' x hx with h | h
      ·exact hF.out.1 x h
      ·omega,fun hx=>by
      rcases nF' _ hx with h | h
      ·exact hF.out.2.1 h
      ·omega,fun hx=>by
      rcases nF' _ hx with h | h
      ·exact hF.out.2.2 h
      ·omega⟩
     clear CH OB oy hc nF' cF hrn2 IB;generalize Gr Z k t=Z1 at *
     go_wp2;exact ⟨⟨t+1,Z1,F',Bl,by go_num,hN,aF,oy',rN,OB',RES,R,hb⟩,clM⟩
    ·have nT:¬ (t:Int)<(y.runs[k].tasks.length:Int):=Bl;have hZ3:=Br (show Fo y (Ic y (k+1))=Z by rw [O4,E6 aA,show y.runs[k].tasks.length=t by omega];exact hZ.out);go_wp2;exact ⟨⟨k+1,Z,F,Bl,by go_num,⟨hT.out.1.mono Bl,hT.out.2⟩,hZ3,oy,⟨hF.out.1,hF.out.2.1⟩,OB,RES,hb⟩,clM⟩
  ·have aB:¬ (k:Int)<(y.runs.length:Int):=Bl;have H3:=Br (show Mh y=Z by rw [H2.out,<-hZ.out,show k=y.runs.length by omega]);have oy:=oy.out;have OB_:=OB.g4;have RES_:=RES.g4;have rf:=RES.free;go_wp2;have en1:w.heap.size+1∉F:=fun hx=>by have:=hF.out.1 _ hx;omega
   refine Aj (Rp (DBox.row4 RES rfl _ _ _ _)) rfl ⟨(⟨B1,m1,e1⟩,⟨B2,m2,e2⟩),F,by rw [H3.out],by rw [H3.out];exact Bw.set4 (F:=F) (x:=Z) (s:=(⟨B1,m1,e1⟩,⟨B2,m2,e2⟩)) oy en1,fun x hx=>by have:=hF.out.1 x hx;omega,?_⟩;repeat (first | (with_reducible exact hb) | refine Ad ?_ Bp _)
theorem Trn.cnt1 {y z:Yard} {m:Nat} (h:Trn y m z) (hm:m<=1000):Ca z<=1048576:=Amc
theorem Pol.cnt1 {y z:Yard} {home:Nat} (h:Pol y home z) (hy:Dk y):Ca z<=1048576:=Akb
theorem Yq {y:Yard} {k:Nat} {r:Run} (hy:Dk y) (hk:k<y.runs.length) (hc:Co r<=42) (hT:r.tasks.length<=12):Ca (Gn y k r)<=1048576:=by
 rw [Yk _ _ _ hk];have hF:=Qo (y:=⟨y.now,y.seq,y.shelf,y.runs.set k r⟩) (was:=y.runs[k]) (r:=r) (M:=80) (fun s hs=>(hy.2.2.2.1 s hs).1) r.tasks.length
 have:=Mi (M:=92) (hF.len.trans hy.2.2.1) (fun s hs=>by have:=hF.all s hs;omega) (by rw [hF.runs];simp;exact hy.2.2.2.2.2.2.1) (fun x hx=>by
  rw [hF.runs] at hx;rcases List.mem_or_eq_of_mem_set hx with h | h
  ·exact Fq hy x h
  ·rw [h];exact hc)
 omega
theorem Ag6 {y:Yard} {d:Deed} (h:Ca y<=1048576):Ca (doO y d).1<=1048576:=by
 unfold doO;split
 ·exact h
 split
 ·show Ca (Jm y d.run d.plan)<=_;unfold Jm;split
  ·next q =>
   unfold Jl at q;by_cases p0:Dk y
   ·rw [if_neg (fun h=>h p0)] at q;split at q
    ·cases q
    split at q
    ·cases q
    split at q
    ·next hf=>exact absurd q hf
    next hf =>
    split at q
    ·cases q
    next hr =>
    have hf0:Cr d.plan=0:=Classical.not_not.1 hf;have hm:=Dl.1 hf0;have hT:=Er hm.1;have hE:=Fw hm.1;have cG:=Ql d.run d.plan;have rU:y.runs.length<8:=by
     have gK:Mr y d.plan=true:=by cases e:Mr y d.plan<;>simp_all
     unfold Mr at gK;simp only [Bool.and_eq_true,decide_eq_true_eq] at gK;exact gK.1
    have hF:=Qo (y:=⟨y.now,y.seq,y.shelf,y.runs ++ [Cl d.run d.plan]⟩) (was:=Hd) (r:=Cl d.run d.plan) (M:=80) (fun s hs=>(p0.2.2.2.1 s hs).1) (Cl d.run d.plan).tasks.length
    have:=Mi (y:=Ny ⟨y.now,y.seq,y.shelf,y.runs ++ [Cl d.run d.plan]⟩ Hd (Cl d.run d.plan)) (M:=92) (hF.len.trans p0.2.2.1) (fun s hs=>by have:=hF.all s hs;omega) (by
     show (Ir _ _ _ _).runs.length<=8;rw [hF.runs];simp;omega) (fun x hx=>by
     have dR:x∈(Ir ⟨y.now,y.seq,y.shelf,y.runs ++ [Cl d.run d.plan]⟩ Hd (Cl d.run d.plan) (Cl d.run d.plan).tasks.length).runs:=hx;rw [hF.runs] at dR;rcases Bi.1 dR with h1 | h1
     ·exact Fq p0 x h1
     ·rw [Au.1 h1,Jg];show d.plan.edges.length+_<=42;omega)
    omega
   ·exact Ak8
  ·exact h
 ·show Ca (Jd y d.worker d.draw).1<=_;unfold Jd;by_cases p0:Dk y;case neg=>rw [if_pos p0];exact h
  rw [if_neg (fun h=>h p0)];split
  ·exact h
  ·next hw =>
   have nQ:=Ct.1 (show inB d.worker 0 99=true by cases e:inB d.worker 0 99<;>simp_all);have hh:(d.worker % 4).toNat<4:=Bl;have hP:Pol y (d.worker % 4).toNat (Me y (d.worker % 4) d.draw):=by
    unfold Me;refine Pol.fold hh _ _ (Pol.start p0 hh) (fun v hv=>⟨Qq v hv,Qr Bl Bl v hv⟩)
   have hc:=hP.cnt1 p0;unfold Of S9;split
   ·exact hc
   ·next e rest fJ =>
    have h80:∀ s∈(Me y (d.worker % 4) d.draw).shelf.set (d.worker % 4).toNat rest,s.length<=80:=fun s hs=>by
     rcases List.mem_or_eq_of_mem_set hs with h1 | h1
     ·exact hP.all s h1
     ·have h2:=hP.all _ (Aw (show (d.worker % 4).toNat<(Me y (d.worker % 4) d.draw).shelf.length by rw [hP.four];exact hh));rw [G8 (by rw [hP.four];exact hh)] at fJ;rw [fJ] at h2;rw [h1];simp at h2;omega
    have:=Mi (y:=⟨(Me y (d.worker % 4) d.draw).now,(Me y (d.worker % 4) d.draw).seq,(Me y (d.worker % 4) d.draw).shelf.set (d.worker % 4).toNat rest,(Me y (d.worker % 4) d.draw).runs.set (Dn (Me y (d.worker % 4) d.draw) e.run).toNat (Eo (Ko (Me y (d.worker % 4) d.draw) e.run) e.task.toNat (Me y (d.worker % 4) d.draw).now)⟩) (M:=80) (by simpa using hP.four) h80 (by simp;rw [hP.runs];exact p0.2.2.2.2.2.2.1) (fun x hx=>by
     rcases List.mem_or_eq_of_mem_set hx with h1 | h1
     ·rw [hP.runs] at h1;exact Fq p0 x h1
     ·rw [h1,Jg,N4];show (Ko (Me y (d.worker % 4) d.draw) e.run).plan.edges.length+_<=42;rw [<-Jg];unfold Ko;rw [List.getD_eq_getElem?_getD];cases q:(Me y (d.worker % 4) d.draw).runs[(Dn (Me y (d.worker % 4) d.draw) e.run).toNat]? with
      | none=>decide
      | some r =>
       have h2:=List.mem_of_getElem? q;rw [hP.runs] at h2;exact Fq p0 r h2)
    dsimp only;omega
 ·show Ca (K7 y d.run d.task d.try_)<=_;unfold K7;split
  ·next q =>
   obtain ⟨p0,k,hk,e1,e2⟩:=Ag5 q;rw [e1,e2,Ao];have hs:=Fq p0 _ (Aw hk);have hl:=Eb (Ev p0 hk);exact Yq p0 hk (by rw [Jg,Pn];rw [Jg] at hs;exact hs) (by rw [Pn];exact hl.2)
  ·exact h
 ·show Ca (K6 y d.run d.task d.try_)<=_;unfold K6;split
  ·next q =>
   obtain ⟨p0,k,hk,e1,e2⟩:=Ag5 q;rw [e1,e2,Ao];have hs:=Fq p0 _ (Aw hk);have hl:=Eb (Ev p0 hk);exact Yq p0 hk (by rw [Jg,Il,(Yj _ _).2];rw [Jg] at hs;exact hs) (by rw [Il];exact hl.2)
  ·exact h
 ·show Ca (Je y)<=_;unfold Je;split
  ·next q =>
   unfold Jr at q;by_cases p0:Dk y
   ·have hT:=Trn.folds p0 (Gg y y.runs.length) y 0 (Trn.start p0) (fun p hp=>Si hp);have hl:=Lt (Nk p0) y.runs.length;have h8:=p0.2.2.2.2.2.2.1;exact hT.cnt1 Bl
   ·exact Ak8
  ·exact h
 ·show Ca (Iu y d.run)<=_;unfold Iu;split
  ·next q =>
   unfold It at q;by_cases p0:Dk y
   ·rw [if_neg (fun h=>h p0)] at q;split at q
    ·cases q
    next hr =>
    rcases E9 y d.run with e | ⟨k,hk,e⟩
    ·omega
    ·have eU:=Ha hk e
     have:=Mi (y:=⟨y.now,y.seq,y.shelf,y.runs.set (Dn y d.run).toNat (D6 (Ko y d.run) 4)⟩) (M:=80) p0.2.2.1 (fun s hs=>(p0.2.2.2.1 s hs).1) (by simp;exact p0.2.2.2.2.2.2.1) (fun x hx=>by
      rcases List.mem_or_eq_of_mem_set hx with h1 | h1
      ·exact Fq p0 x h1
      ·have hs:=Fq p0 _ (Aw hk);rw [Jg] at hs;rw [h1,eU,Jg];show y.runs[k].plan.edges.length+(y.runs[k].tasks.map Dr).length<=42;rw [List.length_map];exact hs)
     omega
   ·exact Ak8
  ·exact h
 ·show Ca (Iw y d.run)<=_;unfold Iw;split
  ·next q =>
   unfold Iv at q;by_cases p0:Dk y
   ·have:=Mi (y:=⟨y.now,y.seq,y.shelf.map (Dj d.run),y.runs.take (Dn y d.run).toNat ++ y.runs.drop ((Dn y d.run).toNat+1)⟩) (M:=80) (by simp;exact p0.2.2.1) (fun s hs=>by
     obtain ⟨l,hl,rfl⟩:=List.mem_map.1 hs;exact Nat.le_trans (List.length_filter_le _ _) (p0.2.2.2.1 l hl).1) (by have:=p0.2.2.2.2.2.2.1;simp;omega) (fun x hx=>by
     rcases Bi.1 hx with h1 | h1
     ·exact Fq p0 x (List.mem_of_mem_take h1)
     ·exact Fq p0 x (List.mem_of_mem_drop h1))
    omega
   ·exact Ak8
  ·exact h
 ·show Ca (Mh y)<=_;unfold Mh;split
  ·next p0 =>
   have hT:=Trn.folds p0 (Ic y y.runs.length) y 0 (Trn.start p0) (fun p hp=>Aef hp);have hl:=Wp (Nk p0) y.runs.length;have h8:=p0.2.2.2.2.2.2.1;exact hT.cnt1 Bl
  ·exact h
theorem Aam {b c:Nat} {w:World} {u0 u1 u2 u3 v0 v1 v2 v3:Value} (X:DBox b [u0,u1,u2,u3] w) (Y:DBox c [v0,v1,v2,v3] w) {x0 x1 x2 x3:Value} {rest:List Value} :
  (results Tryz.f70 (x0 :: x1 :: x2 :: x3 :: .pointer (Ac ⟨b,0,Ab⟩) :: .pointer (Ac ⟨c,0,Ab⟩) :: rest).toArray).run Am w = .ok (.tuple #[.agg #[u0,u1,u2,u3],.agg #[v0,v1,v2,v3]]) w:=by
 have c0:=X.cell 0 _ rfl;have c1:=X.cell 1 _ rfl;have c2:=X.cell 2 _ rfl;have c3:=X.cell 3 _ rfl;have d0:=Y.cell 0 _ rfl;have d1:=Y.cell 1 _ rfl;have d2:=Y.cell 2 _ rfl;have d3:=Y.cell 3 _ rfl;simp [results,results70,go_sem,c0,c1,c2,c3,d0,d1,d2,d3]
theorem Aeg (y:Yard) (s:Sl×Sl) (d:Deed) (sd:Sl) (w:World) (hl:Ca y<=2000000) (hp:d.plan.edges.length<=2000000) (h:Bw.rd w w y s) (gN:Cq.rd w w d sd) :
  Calls Am 70 #[Ds y s,Dc d sd] w (Rk (doO y d) w):=by
 obtain ⟨⟨A1,n1,c1⟩,⟨A2,n2,c2⟩⟩:=s;obtain ⟨A3,n3,c3⟩:=sd;have sR:Ce.rd w w d.plan ⟨A3,n3,c3⟩:=gN;obtain rfl:n3=d.plan.edges.length:=RdL.at1 (s:=⟨A3,n3,c3⟩) sR;have HR:=Br (show ∀ W,Below w w W->Bw.rd W W y (⟨A1,n1,c1⟩,⟨A2,n2,c2⟩) from fun W hW=>Bw.rd_more (Bw.rd_below h hW) hW.size);have HP:=Br (show ∀ W,Below w w W->Ce.rd W W d.plan ⟨A3,d.plan.edges.length,c3⟩ from fun W hW=>Ce.rd_more (Ce.rd_below sR hW) hW.size);have CD:=Br (fun W (hW:Below w w W)=>Ov d ⟨A3,d.plan.edges.length,c3⟩ W (by show Ec d.plan<=_;rw [show Ec d.plan=d.plan.edges.length from Fh (fun _=>rfl) _];exact hp) (Cq.rd_more (Cq.rd_below gN hW) hW.size));have CC:=Br (fun W hW=>Fe y (⟨A1,n1,c1⟩,⟨A2,n2,c2⟩) W hl (HR.out W hW));have CY:=Br (fun W hW=>Gk y (⟨A1,n1,c1⟩,⟨A2,n2,c2⟩) W hl (HR.out W hW));clear h gN sR;obtain ⟨kd,rn,p,tk,ty,wk,dr⟩:=d;replace hp:p.edges.length<=2000000:=hp;replace HP:Hid (∀ W,Below w w W->Ce.rd W W p ⟨A3,p.edges.length,c3⟩):=HP;obtain ⟨W,aH,X,D,RES,RP,B0⟩:=bx4 w 31 [J U y.now,J U y.seq,Aa A1 n1 c1,Aa A2 n2 c2] 45 [J U kd,J U rn,J U p.prio,J U p.most,J U p.wait,J U p.tasks,Aa A3 p.edges.length c3,J U tk,J U ty,J U wk,J U dr] 31 [J U 0,J U 0,Aa Ab 0 0,Aa Ab 0 0] 84 [J U 0,J U 0,J U 0,J U 0];go_enter func70,ntmps70;go_wp2_with fail
 rw [<-aH.out];clear aH;have hWs:w.heap.size+1+1+1<W.heap.size:=RP.lt;refine (CD.out _ B0).mono ?_;rintro e1 w1 ⟨rfl,b1⟩;replace X:=X.below b1;replace D:=D.below b1;replace RES:=RES.below b1;replace RP:=RP.below b1;have bE:=b1.size;replace B0:=Bv B0 b1;clear b1 CD;have X_:=X.g4;have D_:=D.g11;cases hd:Dg ⟨kd,rn,p,tk,ty,wk,dr⟩;case false =>
  have H:=Br (show doO y ⟨kd,rn,p,tk,ty,wk,dr⟩=(y,⟨5,0,0,0⟩) from if_pos hd);clear hd;go_wp2_with fail
  refine (CC.out _ B0).mono ?_;rintro e2 w2 ⟨s2,F,rfl,oy,nF,b2⟩;have cA:∀ x∈F,w+1+1+1<x:=fun x hx=>by have h1:=nF x hx;omega
  clear X_;clear D_;clear X D;replace RES:=RES.below b2;replace RP:=RP.below b2;replace B0:=Bv B0 b2;clear nF b2;obtain ⟨RES_0,RES_1,RES_2,RES_3,RES_l⟩:=RES.g4;obtain ⟨RP_0,RP_1,RP_2,RP_3,RP_l⟩:=RP.g4;have rf:=RES.free;have pf:=RP.free;have aC:w.heap.size+1+1+1≠w.heap.size+1+1:=Bl;go_wp2;have RES2:=DBox.row4 RES rfl (J U y.now) (J U y.seq) (Aa s2.1.a s2.1.n s2.1.c) (Aa s2.2.a s2.2.n s2.2.c);have RP2:=DBox.row4 ((((RP.setOther (a:=⟨w+1+1,0,Ab⟩) aC (J U y.now)).setOther (a:=⟨w+1+1,1,Ab⟩) aC (J U y.seq)).setOther (a:=⟨w+1+1,2,Ab⟩) aC (Aa s2.1.a s2.1.n s2.1.c)).setOther (a:=⟨w+1+1,3,Ab⟩) aC (Aa s2.2.a s2.2.n s2.2.c)) rfl (J U 5) (J U 0) (J U 0) (J U 0);have RES3:=((((RES2.setOther (a:=⟨w+1+1+1,0,Ab⟩) aC.symm (J U 5)).setOther (a:=⟨w+1+1+1,1,Ab⟩) aC.symm (J U 0)).setOther (a:=⟨w+1+1+1,2,Ab⟩) aC.symm (J U 0)).setOther (a:=⟨w+1+1+1,3,Ab⟩) aC.symm (J U 0))
  have en1:w.heap.size+1+1∉F:=fun hx=>by have:=cA _ hx;omega
  have en2:w.heap.size+1+1+1∉F:=fun hx=>by have:=cA _ hx;omega
  refine Aj (Aam RES3 RP2) rfl ⟨s2,F,by rw [H.out],by rw [H.out];exact (by (repeat (refine Dt.ow_set Bw ?_ (by first | exact en1 | exact en2) _));exact (show Bw.ow _ F y s2 from oy)),fun x hx=>by have:=cA x hx;omega,?_⟩;repeat (first | (with_reducible exact B0) | refine Ad ?_ Bp _)
 replace hd:=Br hd;have hkd:=Ct.1 (Td hd.out);dsimp only at hkd;clear CC;have b2:Below w1 w1 ((w1.alloc (.cells #[J U 0,J U 0,Aa Ab 0 0,Aa Ab 0 0] 31)).alloc (.cells #[J U 0,J U 0,J U 0,J U 0] 84)):=(Bu).alloc Bo _;have OB:=(DBox.new 31 [J U 0,J U 0,Aa Ab 0 0,Aa Ab 0 0] w1 (b:=w1) rfl).below ((Bs _ _).alloc (Bt _) (.cells #[J U 0,J U 0,J U 0,J U 0] 84));have RR:=DBox.new 84 [J U 0,J U 0,J U 0,J U 0] (w1.alloc (.cells #[J U 0,J U 0,Aa Ab 0 0,Aa Ab 0 0] 31)) (b:=w1+1) Bo;go_upto_region 5 with fail
 clear X_;clear D_;replace X:=X.below b2;replace D:=D.below b2;replace RES:=RES.below b2;replace RP:=RP.below b2;have pM:w.heap.size+1+1+1<w1.heap.size:=Bl;replace B0:=Bv B0 b2;clear b2;replace OB:DBox w1 [J U 0,J U 0,Aa Ab 0 0,Aa Ab 0 0] ((w1.alloc (.cells #[J U 0,J U 0,Aa Ab 0 0,Aa Ab 0 0] 31)).alloc (.cells #[J U 0,J U 0,J U 0,J U 0] 84)):=OB;replace RR:DBox (w1+1) [J U 0,J U 0,J U 0,J U 0] ((w1.alloc (.cells #[J U 0,J U 0,Aa Ab 0 0,Aa Ab 0 0] 31)).alloc (.cells #[J U 0,J U 0,J U 0,J U 0] 84)):=RR;generalize ((w1.alloc (.cells #[J U 0,J U 0,Aa Ab 0 0,Aa Ab 0 0] 31)).alloc (.cells #[J U 0,J U 0,J U 0,J U 0] 84))=w2 at *
 generalize cR:w1.heap.size=ob at *
 have bK:=RR.lt;have X_:=X.g4;have D_:=D.g11;rcases (show kd=1\/kd=2\/kd=3\/kd=4\/kd=5\/kd=6\/kd=7\/kd=8 by omega) with rfl | rfl | rfl | rfl | rfl | rfl | rfl | rfl
 have H:=Br (show doO y ⟨1,rn,p,tk,ty,wk,dr⟩=(Jm y rn p,⟨Jl y rn p,0,0,0⟩) by unfold doO;rw [if_neg (by rw [hd.out];simp)];rfl);have CS:=Br (Wl y (⟨A1,n1,c1⟩,⟨A2,n2,c2⟩) rn p ⟨A3,p.edges.length,c3⟩ w2 hl hp (HR.out _ B0) (HP.out _ B0));generalize Jm y rn p=z at *
 generalize Jl y rn p=c at *
 rotate_left
 ·have H:Hid (doO y ⟨2,rn,p,tk,ty,wk,dr⟩=Jd y wk dr):=by
   show doO y ⟨2,rn,p,tk,ty,wk,dr⟩=_;exact Amd
  have uB:=Br (Te hd.out);obtain ⟨dn,rfl⟩:=Int.eq_ofNat_of_zero_le uB.out.1;have CS:=Br (Aai y (⟨A1,n1,c1⟩,⟨A2,n2,c2⟩) wk dn w2 hl (by have:=uB.out;omega) (HR.out _ B0));generalize Jd y wk (dn:Int)=o at *
  obtain ⟨z,⟨o0,o1,o2,o3⟩⟩:=o;go_wp2_with fail
  refine CS.out.mono ?_;rintro e2 w3 ⟨s2,F,rfl,oy,nF,b3⟩;replace oy:Bw.ow w3 F z s2:=oy;have cA:∀ x∈F,w+1+1+1<x:=fun x hx=>by have h1:=nF x hx;omega
  clear X_;clear D_;clear X D OB RR;replace RES:=RES.below b3;replace RP:=RP.below b3;replace B0:=Bv B0 b3;clear nF b3;obtain ⟨RES_0,RES_1,RES_2,RES_3,RES_l⟩:=RES.g4;obtain ⟨RP_0,RP_1,RP_2,RP_3,RP_l⟩:=RP.g4;have rf:=RES.free;have pf:=RP.free;have aC:w.heap.size+1+1+1≠w.heap.size+1+1:=Bl;go_wp2;have RES2:=DBox.row4 RES rfl (J U z.now) (J U z.seq) (Aa s2.1.a s2.1.n s2.1.c) (Aa s2.2.a s2.2.n s2.2.c);have RP2:=DBox.row4 ((((RP.setOther (a:=⟨w+1+1,0,Ab⟩) aC (J U z.now)).setOther (a:=⟨w+1+1,1,Ab⟩) aC (J U z.seq)).setOther (a:=⟨w+1+1,2,Ab⟩) aC (Aa s2.1.a s2.1.n s2.1.c)).setOther (a:=⟨w+1+1,3,Ab⟩) aC (Aa s2.2.a s2.2.n s2.2.c)) rfl (J U o0) (J U o1) (J U o2) (J U o3);have RES3:=((((RES2.setOther (a:=⟨w+1+1+1,0,Ab⟩) aC.symm (J U o0)).setOther (a:=⟨w+1+1+1,1,Ab⟩) aC.symm (J U o1)).setOther (a:=⟨w+1+1+1,2,Ab⟩) aC.symm (J U o2)).setOther (a:=⟨w+1+1+1,3,Ab⟩) aC.symm (J U o3))
  have en1:w.heap.size+1+1∉F:=fun hx=>by have:=cA _ hx;omega
  have en2:w.heap.size+1+1+1∉F:=fun hx=>by have:=cA _ hx;omega
  refine Aj (Aam RES3 RP2) rfl ⟨s2,F,by rw [H.out],by rw [H.out];exact (by (repeat (refine Dt.ow_set Bw ?_ (by first | exact en1 | exact en2) _));exact (show Bw.ow _ F z s2 from oy)),fun x hx=>by have:=cA x hx;omega,?_⟩;repeat (first | (with_reducible exact B0) | refine Ad ?_ Bp _)
 have H:=Br (show doO y ⟨3,rn,p,tk,ty,wk,dr⟩=(K7 y rn tk ty,⟨Gv y rn tk ty,0,0,0⟩) by unfold doO;rw [if_neg (by rw [hd.out];simp)];rfl);have CS:=Br (Sj y (⟨A1,n1,c1⟩,⟨A2,n2,c2⟩) rn tk ty w2 hl (HR.out _ B0));generalize K7 y rn tk ty=z at *
 generalize Gv y rn tk ty=c at *
 rotate_left;have H:=Br (show doO y ⟨4,rn,p,tk,ty,wk,dr⟩=(K6 y rn tk ty,⟨Gv y rn tk ty,0,0,0⟩) by unfold doO;rw [if_neg (by rw [hd.out];simp)];rfl);have CS:=Br (Aag y (⟨A1,n1,c1⟩,⟨A2,n2,c2⟩) rn tk ty w2 hl (HR.out _ B0));generalize K6 y rn tk ty=z at *
 generalize Gv y rn tk ty=c at *
 rotate_left;have H:=Br (show doO y ⟨5,rn,p,tk,ty,wk,dr⟩=(Je y,⟨Jr y,0,0,0⟩) by unfold doO;rw [if_neg (by rw [hd.out];simp)];rfl);have CS:=Br (Aak y (⟨A1,n1,c1⟩,⟨A2,n2,c2⟩) w2 hl (HR.out _ B0));generalize Je y=z at *
 generalize Jr y=c at *
 rotate_left;have H:=Br (show doO y ⟨6,rn,p,tk,ty,wk,dr⟩=(Iu y rn,⟨It y rn,0,0,0⟩) by unfold doO;rw [if_neg (by rw [hd.out];simp)];rfl);have CS:=Br (Wm y (⟨A1,n1,c1⟩,⟨A2,n2,c2⟩) rn w2 hl (HR.out _ B0));generalize Iu y rn=z at *
 generalize It y rn=c at *
 rotate_left;have H:=Br (show doO y ⟨7,rn,p,tk,ty,wk,dr⟩=(Iw y rn,⟨Iv y rn,0,0,0⟩) by unfold doO;rw [if_neg (by rw [hd.out];simp)];rfl);have CS:=Br (Wq y (⟨A1,n1,c1⟩,⟨A2,n2,c2⟩) rn w2 hl (HR.out _ B0));generalize Iw y rn=z at *
 generalize Iv y rn=c at *
 rotate_left;focus
  have H:=Br (show doO y ⟨8,rn,p,tk,ty,wk,dr⟩=(Mh y,⟨Tc y,0,0,0⟩) by unfold doO;rw [if_neg (by rw [hd.out];simp)];rfl);have CS:=Br (T9 y (⟨A1,n1,c1⟩,⟨A2,n2,c2⟩) w2 hl (HR.out _ B0));have hrc:=Br (show (Dk y->Tc y=0)/\(¬ Dk y->Tc y=8) from ⟨fun h=>if_pos h,fun h=>if_neg h⟩);generalize Mh y=z at *
  generalize Tc y=c at *
  go_wp2_with fail
  refine CS.out.mono ?_;rintro e2 w3 ⟨s2,F,rfl,oy,nF,b3⟩;replace oy:Bw.ow w3 F z s2:=oy;have cA:∀ x∈F,ob+1<x:=fun x hx=>by have h1:=nF x hx;omega
  clear X_;clear D_;replace X:=X.below b3;clear D;replace OB:=OB.below b3;replace RR:=RR.below b3;replace RES:=RES.below b3;replace RP:=RP.below b3;replace B0:=Bv B0 b3;have kT:=b3.size;clear nF b3;have OB_:=OB.g4;have RR_:=RR.g4;have OBf:=OB.free;have RRf:=RR.free;go_upto_region 7 with fail
  clear OB_;clear RR_;clear OBf RRf;have dJ:=Chg.cells4 w3 ob 0 1 2 3 (J U z.now) (J U z.seq) (Aa s2.1.a s2.1.n s2.1.c) (Aa s2.2.a s2.2.n s2.2.c);have bT:=Br (show ∀ x,x∈[ob]->x=ob from fun x hx=>by simpa using hx);replace OB:=DBox.row4 OB rfl (J U z.now) (J U z.seq) (Aa s2.1.a s2.1.n s2.1.c) (Aa s2.2.a s2.2.n s2.2.c);replace RR:=RR.chg dJ (fun hx=>by have:=bT.out _ hx;omega);replace RES:=RES.chg dJ (fun hx=>by have:=bT.out _ hx;omega);replace RP:=RP.chg dJ (fun hx=>by have:=bT.out _ hx;omega);replace oy:Bw.ow _ F z s2:=owC oy dJ (fun x hx h=>by have h1:=bT.out x h;have h2:=cA x hx;omega);replace X:=X.chg dJ (fun hx=>by have:=bT.out _ hx;omega);replace B0:=B0.trans (dJ.below (by have:=B0.size;omega) (fun x hx=>by have:=bT.out x hx;omega));clear dJ;generalize (((w3.setCell ⟨ob,0,Ab⟩ (J U z.now)).setCell ⟨ob,1,Ab⟩ (J U z.seq)).setCell ⟨ob,2,Ab⟩ (Aa s2.1.a s2.1.n s2.1.c)).setCell ⟨ob,3,Ab⟩ (Aa s2.2.a s2.2.n s2.2.c)=w4 at *
  have X_:=X.g4;go_wp2_with fail
  refine (CY.out _ B0).mono ?_;rintro e9 w8 ⟨rfl,b8⟩;clear X_;clear X;replace OB:=OB.below b8;replace RR:=RR.below b8;replace RES:=RES.below b8;replace RP:=RP.below b8;replace oy:Bw.ow w8 F z s2:=owB oy b8;replace B0:=Bv B0 b8;have hs8:=b8.size;clear b8;by_cases p0:Dk y;focus
   rw [Di p0];have hc0:=Br (hrc.out.1 p0);replace RR:DBox (ob+1) [J U c,J U 0,J U 0,J U 0] w8:=by rw [hc0.out];exact RR
   rename World=>w5;go_upto_region 23 with fail
  rotate_left;focus
   rw [Cg p0];have hc8:=Br (hrc.out.2 p0);have RR_:=RR.g4;have RRf:=RR.free;go_upto_region 23 with fail
   clear RR_;clear RRf;rename World=>w4;have mD:=Chg.setCell w4 (ob+1) 0 (J U 8);have cV:=Br (show ∀ x,x∈[ob+1]->x=ob+1 from fun x hx=>by simpa using hx);replace OB:=OB.chg mD (fun hx=>by have:=cV.out _ hx;omega);replace RR:DBox (ob+1) [J U 8,J U 0,J U 0,J U 0] (w4.setCell ⟨ob+1,0,Ab⟩ (J U 8)):=RR.set 0 Bo _;replace RES:=RES.chg mD (fun hx=>by have:=cV.out _ hx;omega);replace RP:=RP.chg mD (fun hx=>by have:=cV.out _ hx;omega);replace oy:Bw.ow _ F z s2:=owC oy mD (fun x hx h=>by have h1:=cV.out x h;have h2:=cA x hx;omega);replace B0:=B0.trans (mD.below (by have:=B0.size;omega) (fun x hx=>by have:=cV.out x hx;omega));clear mD;generalize w4.setCell ⟨ob+1,0,Ab⟩ (J U 8)=w5 at *
   replace RR:DBox (ob+1) [J U c,J U 0,J U 0,J U 0] w5:=by rw [hc8.out];exact RR
 rotate_left 2;iterate 6
  focus
   go_wp2_with fail
   refine CS.out.mono ?_;rintro e2 w3 ⟨s2,F,rfl,oy,nF,b3⟩;replace oy:Bw.ow w3 F z s2:=oy;have cA:∀ x∈F,ob+1<x:=fun x hx=>by have h1:=nF x hx;omega
   clear X_;clear D_;clear X;clear D;replace OB:=OB.below b3;replace RR:=RR.below b3;replace RES:=RES.below b3;replace RP:=RP.below b3;replace B0:=Bv B0 b3;have kT:=b3.size;clear nF b3;have OB_:=OB.g4;have RR_:=RR.g4;have OBf:=OB.free;have RRf:=RR.free;go_upto_region 23 with fail
   clear OB_;clear RR_;clear OBf RRf;have dJ:=Chg.cells4 w3 ob 0 1 2 3 (J U z.now) (J U z.seq) (Aa s2.1.a s2.1.n s2.1.c) (Aa s2.2.a s2.2.n s2.2.c);have bT:=Br (show ∀ x,x∈[ob]->x=ob from fun x hx=>by simpa using hx);replace OB:=DBox.row4 OB rfl (J U z.now) (J U z.seq) (Aa s2.1.a s2.1.n s2.1.c) (Aa s2.2.a s2.2.n s2.2.c);replace RR:=RR.chg dJ (fun hx=>by have:=bT.out _ hx;omega);replace RES:=RES.chg dJ (fun hx=>by have:=bT.out _ hx;omega);replace RP:=RP.chg dJ (fun hx=>by have:=bT.out _ hx;omega);replace oy:Bw.ow _ F z s2:=owC oy dJ (fun x hx h=>by have h1:=bT.out x h;have h2:=cA x hx;omega);replace B0:=B0.trans (dJ.below (by have:=B0.size;omega) (fun x hx=>by have:=bT.out x hx;omega));clear dJ;generalize (((w3.setCell ⟨ob,0,Ab⟩ (J U z.now)).setCell ⟨ob,1,Ab⟩ (J U z.seq)).setCell ⟨ob,2,Ab⟩ (Aa s2.1.a s2.1.n s2.1.c)).setCell ⟨ob,3,Ab⟩ (Aa s2.2.a s2.2.n s2.2.c)=w4 at *
   have mD:=Chg.setCell w4 (ob+1) 0 (J U c);have cV:=Br (show ∀ x,x∈[ob+1]->x=ob+1 from fun x hx=>by simpa using hx);replace OB:=OB.chg mD (fun hx=>by have:=cV.out _ hx;omega);replace RR:DBox (ob+1) [J U c,J U 0,J U 0,J U 0] (w4.setCell ⟨ob+1,0,Ab⟩ (J U c)):=RR.set 0 Bo _;replace RES:=RES.chg mD (fun hx=>by have:=cV.out _ hx;omega);replace RP:=RP.chg mD (fun hx=>by have:=cV.out _ hx;omega);replace oy:Bw.ow _ F z s2:=owC oy mD (fun x hx h=>by have h1:=cV.out x h;have h2:=cA x hx;omega);replace B0:=B0.trans (mD.below (by have:=B0.size;omega) (fun x hx=>by have:=cV.out x hx;omega));clear mD;generalize w4.setCell ⟨ob+1,0,Ab⟩ (J U c)=w5 at *
  rotate_left
 all_goals
  refine Go.wp_region_noPanic ?_;refine wp_region_held_drew (S:=(fun w'=>DBox ob [J U z.now,J U z.seq,Aa s2.1.a s2.1.n s2.1.c,Aa s2.2.a s2.2.n s2.2.c] w'/\DBox (ob+1) [J U c,J U 0,J U 0,J U 0] w')) Bm ⟨DBox.drew4 OB,DBox.drew4 RR⟩ (fun hHeld=>?_);replace oy:Bw.ow w5.drew F z s2:=owB oy (Bs _ _).drew;replace RES:DBox _ _ w5.drew:=DBox.drew4 RES;replace RP:DBox _ _ w5.drew:=DBox.drew4 RP;replace B0:=B0.drew;clear OB RR;generalize w5.drew=w6 at *
  refine tV 0 ?_
  (try simp only [pS])
  refine tV 1 ?_
  (try simp only [pS])
  have RES_0:=RES.cell 0 _ rfl;have RES_1:=RES.cell 1 _ rfl;have RES_2:=RES.cell 2 _ rfl;have RES_3:=RES.cell 3 _ rfl;have rf:=RES.free;have bZ:=Br (show ∀ x,x∈[w.heap.size+1+1]->x=w.heap.size+1+1 from fun x hx=>by simpa using hx);have dH:=Br (show ∀ x,x∈[w.heap.size+1+1+1]->x=w.heap.size+1+1+1 from fun x hx=>by simpa using hx);have fI:=Chg.cells4 w6 (w+1+1) 0 1 2 3 (J U z.now) (J U z.seq) (Aa s2.1.a s2.1.n s2.1.c) (Aa s2.2.a s2.2.n s2.2.c);refine rC 2 (fun K_ hK=>?_);go_simp;have RES2:=DBox.row4 RES rfl (J U z.now) (J U z.seq) (Aa s2.1.a s2.1.n s2.1.c) (Aa s2.2.a s2.2.n s2.2.c);have RP2:=RP.chg fI (fun hx=>by have:=bZ.out _ hx;omega);replace oy:Bw.ow _ F z s2:=owC oy fI (fun x hx h=>by have h1:=bZ.out x h;have h2:=cA x hx;omega);replace B0:=B0.trans (fI.below (by have:=B0.size;omega) (fun x hx=>by have:=bZ.out x hx;omega));refine hK.out _ _ ⟨hHeld.1.chg fI (fun hx=>by have:=bZ.out _ hx;omega),hHeld.2.chg fI (fun hx=>by have:=bZ.out _ hx;omega)⟩ (fun hHeld=>?_);clear hK K_ rf RES_0 RES_1 RES_2 RES_3 fI
  (try simp only [pS])
  generalize (((w6.setCell ⟨w+1+1,0,Ab⟩ (J U z.now)).setCell ⟨w+1+1,1,Ab⟩ (J U z.seq)).setCell ⟨w+1+1,2,Ab⟩ (Aa s2.1.a s2.1.n s2.1.c)).setCell ⟨w+1+1,3,Ab⟩ (Aa s2.2.a s2.2.n s2.2.c)=w7 at *
  have RP_0:=RP2.cell 0 _ rfl;have RP_1:=RP2.cell 1 _ rfl;have RP_2:=RP2.cell 2 _ rfl;have RP_3:=RP2.cell 3 _ rfl;have pf:=RP2.free;have gG:=Chg.cells4 w7 (w+1+1+1) 0 1 2 3 (J U c) (J U 0) (J U 0) (J U 0);refine rC 3 (fun K_ hK=>?_);go_simp;refine hK.out _ _ ⟨hHeld.1.chg gG (fun hx=>by have:=dH.out _ hx;omega),hHeld.2.chg gG (fun hx=>by have:=dH.out _ hx;omega)⟩ (fun hHeld=>?_);clear hK K_ hHeld
  (try simp only [pS])
  refine Al Bm ?_ _;refine NoPanic.normal ?_;have RES3:=RES2.chg gG (fun hx=>by have:=dH.out _ hx;omega);have RP3:=DBox.row4 RP2 rfl (J U c) (J U 0) (J U 0) (J U 0);replace oy:Bw.ow _ F z s2:=owC oy gG (fun x hx h=>by have h1:=dH.out x h;have h2:=cA x hx;omega);replace B0:=B0.trans (gG.below (by have:=B0.size;omega) (fun x hx=>by have:=dH.out x hx;omega));clear RP_0 RP_1 RP_2 RP_3 pf;go_wp2;exact Aj (Aam RES3 RP3) rfl ⟨s2,F,by rw [H.out],by rw [H.out];exact oy,fun x hx=>by have:=cA x hx;omega,B0⟩
def Rq:List Memo->Memo->List Memo
 | [],m=>[m]
 | x :: l,m=>if x.id<m.id then x :: Rq l m else m :: x :: l
theorem Aan:∀ (l:List Memo) (m:Memo) (k:Nat),k<=l.length->(∀ j (hj:j<l.length),j<k->l[j].id<m.id)->(∀ hk:k<l.length,¬ l[k].id<m.id)->Rq l m=l.take k ++ m :: l.drop k
 | [],m,0,_,_,_=>rfl
 | [],m,k+1,h,_,_=>by simp at h
 | x :: l,m,0,_,_,h2=>by
  have h3:=h2 Bo;simp only [List.getElem_cons_zero] at h3;rw [Rq,if_neg h3];rfl
 | x :: l,m,k+1,h,h1,h2=>by
  have h0:=h1 0 Bo Bl;simp only [List.getElem_cons_zero] at h0;rw [Rq,if_pos h0,Aan l m k (by simpa using h) (fun j hj gB=>by have h3:=h1 (j+1) (by simpa using hj) Bl;simpa using h3) (fun hk=>by have h3:=h2 (by simpa using hk);simpa using h3)];rfl
theorem Acs:∀ (l:List Memo) (m:Memo),(Rq l m).length=l.length+1
 | [],m=>rfl
 | x :: l,m=>by
  rw [Rq];split
  ·rw [List.length_cons,Acs l m,List.length_cons]
  ·rfl
open Classical in
noncomputable def Dy (k:Desk) (id:Int) (d:Deed):Desk×Reply×Bool :=
 if ¬ Kk k then (k,⟨8,0,0,0⟩,false) else
 if inB id 1 1000000000=false\/Dg d=false then (k,⟨5,0,0,0⟩,false) else
 if id<k.fr then (k,⟨11,0,0,0⟩,false) else
 if (Hr k id).2=true then (k,(Hr k id).1,true) else
 if k.memos.length=40 then (k,⟨7,0,0,0⟩,false) else
 (⟨(doO k.yard d).1,Rq k.memos ⟨id,(doO k.yard d).2⟩,k.fr⟩,(doO k.yard d).2,false)
section
variable {k:Desk} {id:Int} {d:Deed}
theorem Ahw (h:¬ Kk k):Dy k id d=(k,⟨8,0,0,0⟩,false):=by unfold Dy;rw [if_pos h]
variable (h1:Kk k)
include h1
theorem Ahx (h:inB id 1 1000000000=false\/Dg d=false):Dy k id d=(k,⟨5,0,0,0⟩,false):=by unfold Dy;rw [if_neg (fun h=>h h1),if_pos h]
variable (h2:inB id 1 1000000000=true) (h3:Dg d=true)
include h2 h3
theorem Ahy (h:id<k.fr):Dy k id d=(k,⟨11,0,0,0⟩,false):=by unfold Dy;rw [if_neg (fun h=>h h1),if_neg (by rw [h2,h3];simp),if_pos h]
variable (h4:¬ id<k.fr)
include h4
theorem Ahz (h:(Hr k id).2=true):Dy k id d=(k,(Hr k id).1,true):=by unfold Dy;rw [if_neg (fun h=>h h1),if_neg (by rw [h2,h3];simp),if_neg h4,if_pos h]
variable (h5:(Hr k id).2=false)
include h5
theorem Ah0 (h:k.memos.length=40):Dy k id d=(k,⟨7,0,0,0⟩,false):=by unfold Dy;rw [if_neg (fun h=>h h1),if_neg (by rw [h2,h3];simp),if_neg h4,if_neg (by rw [h5];simp),if_pos h]
theorem Ah1 (h:¬ k.memos.length=40):Dy k id d=(⟨(doO k.yard d).1,Rq k.memos ⟨id,(doO k.yard d).2⟩,k.fr⟩,(doO k.yard d).2,false):=by unfold Dy;rw [if_neg (fun h=>h h1),if_neg (by rw [h2,h3];simp),if_neg h4,if_neg (by rw [h5];simp),if_neg h]
end
theorem Aho (k:Desk) (id:Int) (d:Deed) (h:Dd k<=1048576):Dd (Dy k id d).1<=2000000:=by
 unfold Dy;split
 ·show Dd k<=_;omega
 next hk =>
 have aZ:Kk k:=Classical.not_not.1 hk;split
 ·show Dd k<=_;omega
 split
 ·show Dd k<=_;omega
 split
 ·show Dd k<=_;omega
 split
 ·show Dd k<=_;omega
 ·have h1:Ca k.yard<=1048576:=by unfold Dd at h;omega
  have h2:=Ag6 (d:=d) h1;have h3:Ek Ee (Rq k.memos ⟨id,(doO k.yard d).2⟩)=(Rq k.memos ⟨id,(doO k.yard d).2⟩).length:=Fh (fun _=>rfl) _;rw [Acs] at h3;have h4:=aZ.2.1;show Ca (doO k.yard d).1+Ek Ee (Rq k.memos ⟨id,(doO k.yard d).2⟩)<=_;omega
def Ue (x:Desk×Reply×Bool) (w:World) (e:Ending) (w':World):Prop :=
 ∃ s F,e = .returned (.tuple #[Ih x.1 s,I0 x.2.1 (),.bool x.2.2])/\Cj.ow w' F x.1 s/\(∀ b∈F,w<=b)/\Below w w w'
theorem Cx {w:World} {p q:Nat} {z0 z1 z2 z3 z4 z5 y0 y1 y2 y3:Value} (X:DBox p [z0,z1,z2,z3,z4,z5] w) (Y:DBox q [y0,y1,y2,y3] w) (cK:p≠q) (u0 u1 u2 u3 u4 u5 v0 v1 v2 v3:Value) :
  DBox p [u0,u1,u2,u3,u4,u5] ((((((((((w.setCell ⟨p,0,Ab⟩ u0).setCell ⟨p,1,Ab⟩ u1).setCell ⟨p,2,Ab⟩ u2).setCell ⟨p,3,Ab⟩ u3).setCell ⟨p,4,Ab⟩ u4).setCell ⟨p,5,Ab⟩ u5).setCell ⟨q,0,Ab⟩ v0).setCell ⟨q,1,Ab⟩ v1).setCell ⟨q,2,Ab⟩ v2).setCell ⟨q,3,Ab⟩ v3) /\
  DBox q [v0,v1,v2,v3] ((((((((((w.setCell ⟨p,0,Ab⟩ u0).setCell ⟨p,1,Ab⟩ u1).setCell ⟨p,2,Ab⟩ u2).setCell ⟨p,3,Ab⟩ u3).setCell ⟨p,4,Ab⟩ u4).setCell ⟨p,5,Ab⟩ u5).setCell ⟨q,0,Ab⟩ v0).setCell ⟨q,1,Ab⟩ v1).setCell ⟨q,2,Ab⟩ v2).setCell ⟨q,3,Ab⟩ v3) /\
  Chg [p,q] w ((((((((((w.setCell ⟨p,0,Ab⟩ u0).setCell ⟨p,1,Ab⟩ u1).setCell ⟨p,2,Ab⟩ u2).setCell ⟨p,3,Ab⟩ u3).setCell ⟨p,4,Ab⟩ u4).setCell ⟨p,5,Ab⟩ u5).setCell ⟨q,0,Ab⟩ v0).setCell ⟨q,1,Ab⟩ v1).setCell ⟨q,2,Ab⟩ v2).setCell ⟨q,3,Ab⟩ v3):=by
 have c1:=((Chg.cells4 w p 0 1 2 3 u0 u1 u2 u3).trans (Chg.setCell _ p 4 u4)).trans (Chg.setCell _ p 5 u5);have X1:=(((((X.set 0 Bo u0).set 1 Bo u1).set 2 Bo u2).set 3 Bo u3).set 4 Bo u4).set 5 Bo u5;have Y1:=Y.chg c1 (fun h=>cK (Au.1 h).symm);generalize (((((w.setCell ⟨p,0,Ab⟩ u0).setCell ⟨p,1,Ab⟩ u1).setCell ⟨p,2,Ab⟩ u2).setCell ⟨p,3,Ab⟩ u3).setCell ⟨p,4,Ab⟩ u4).setCell ⟨p,5,Ab⟩ u5=w1 at *
 have c2:=Chg.cells4 w1 q 0 1 2 3 v0 v1 v2 v3;exact ⟨X1.chg c2 (fun h=>cK (Au.1 h)),(((Y1.set 0 Bo v0).set 1 Bo v1).set 2 Bo v2).set 3 Bo v3,(c1.mono (fun x hx=>by rw [Au.1 hx];simp)).trans (c2.mono (fun x hx=>by rw [Au.1 hx];simp))⟩
theorem Chg.cells6 (w:World) (p:Nat) (u0 u1 u2 u3 u4 u5:Value):Chg [p] w ((((((w.setCell ⟨p,0,Ab⟩ u0).setCell ⟨p,1,Ab⟩ u1).setCell ⟨p,2,Ab⟩ u2).setCell ⟨p,3,Ab⟩ u3).setCell ⟨p,4,Ab⟩ u4).setCell ⟨p,5,Ab⟩ u5) :=
 ((Chg.cells4 w p 0 1 2 3 u0 u1 u2 u3).trans (Chg.setCell _ p 4 u4)).trans (Chg.setCell _ p 5 u5)
theorem Gm {x:Desk×Reply×Bool} {y:Yard} {ms:List Memo} {f:Int} {r:Reply} {b:Bool} (H:x=(⟨y,ms,f⟩,r,b)) {w w4 w5:World} {s:Sl×Sl} {v:Sl} {F1 F2:List Nat} {p q:Nat} (oy:Bw.ow w4 F1 y s) (om:OwL Ed w4 F2 v.v ms)
  (n1:∀ g∈F1,q<g) (n2:∀ g∈F2,q<g) (n3:∀ g∈F1,g∉F2) (hp:w<=p) (hq:p<q) (B:Below w w w4) (hC:Chg [p,q] w4 w5) :
  Ue x w (.returned (.tuple #[.agg #[J U y.now,J U y.seq,Aa s.1.a s.1.n s.1.c,Aa s.2.a s.2.n s.2.c,Aa v.a v.n v.c,J U f],.agg #[J U r.code,J U r.run,J U r.task,J U r.try_],.bool b])) w5:=by
 subst H;have hx:∀ g,q<g->g∉[p,q]:=fun g hg h=>by rcases List.mem_cons.1 h with h | h;omega;have:=Au.1 h;omega
 refine ⟨(s,v),F1 ++ F2,rfl,⟨F1,F2,rfl,?_,?_,?_⟩,?_,?_⟩
 ·rw [List.nodup_append];exact ⟨Bw.ow_nodup oy,om.nodup,fun u hu u' hu' e=>n3 u hu (e ▸ hu')⟩
 ·exact Bw.ow_chg oy hC (fun g hg=>hx g (n1 g hg))
 ·exact OwL.chg om hC (fun g hg=>hx g (n2 g hg))
 ·intro g hg;rcases Bi.1 hg with h | h
  ·have:=n1 g h;omega
  ·have:=n2 g h;omega
 ·exact B.trans (hC.below (by have:=B.size;omega) (fun g hg=>by rcases List.mem_cons.1 hg with h | h;omega;have:=Au.1 h;omega))
theorem K8 {w:World} {E:TypeId} {base:Nat} {A:Option Addr} {n c:Nat} {l:List Memo} (h:Ow Ej E w base (Aa A n c) l):∃ (F:List Nat),OwL Ed w F (Aa A n c) l /\ ∀ b∈F,base<=b/\(Value.slice A n c).ownBlock=Ac b:=by
 obtain ⟨h1,h2⟩:=Hw.of_ow h;refine ⟨_,Ab9 h1,fun b hb=>⟨h2 b hb,?_⟩⟩;rcases h.form with ⟨e,rfl⟩ | ⟨g,cap,e,_⟩
 ·rw [e] at hb;simp [El] at hb
 ·rw [e] at hb ⊢;simp [El] at hb;rw [hb.2]
theorem Mj {b c:Nat} {w:World} {u0 u1 u2 u3 u4 u5 v0 v1 v2 v3:Value} (X:DBox b [u0,u1,u2,u3,u4,u5] w) (Y:DBox c [v0,v1,v2,v3] w) {x0 x1 x2 x3 x4 x5 n:Value} {rest:List Value} :
  (results Tryz.f30 (x0 :: x1 :: x2 :: x3 :: x4 :: x5 :: .pointer (Ac ⟨b,0,Ab⟩) :: .pointer (Ac ⟨c,0,Ab⟩) :: n :: rest).toArray).run Am w = .ok (.tuple #[.agg #[u0,u1,u2,u3,u4,u5],.agg #[v0,v1,v2,v3],n]) w:=by
 have c0:=X.cell 0 _ rfl;have c1:=X.cell 1 _ rfl;have c2:=X.cell 2 _ rfl;have c3:=X.cell 3 _ rfl;have c4:=X.cell 4 _ rfl;have c5:=X.cell 5 _ rfl;have d0:=Y.cell 0 _ rfl;have d1:=Y.cell 1 _ rfl;have d2:=Y.cell 2 _ rfl;have d3:=Y.cell 3 _ rfl;simp [results,results30,go_sem,c0,c1,c2,c3,c4,c5,d0,d1,d2,d3]
theorem Aeh (k:Desk) (s:(Sl×Sl)×Sl) (id:Int) (d:Deed) (sd:Sl) (w:World) (hm:Dd k<=2000000) (hd:E8 d<=2000000) (h:Cj.rd w w k s) (gN:Cq.rd w w d sd)
  (hDo:Dy k id d=(⟨(doO k.yard d).1,Rq k.memos ⟨id,(doO k.yard d).2⟩,k.fr⟩,(doO k.yard d).2,false) -> ∀ W,Below w w W->Calls Am 70 #[Ds k.yard s.1,Dc d sd] W (Rk (doO k.yard d) W)) :
  Calls Am 30 #[Ih k s,J U id,Dc d sd] w (Ue (Dy k id d) w):=by
 have sF:Ca k.yard<=2000000:=by unfold Dd at hm;omega
 have kU:k.memos.length<=2000000:=Nat.le_trans (Ck Ee _) (by unfold Dd at hm;omega);have hpe:d.plan.edges.length<=2000000:=by
  have h2:E8 d=d.plan.edges.length:=Fh (fun _=>rfl) _;omega
 have HD:=Br (show ∀ W,Below w w W->Cj.rd W W k s from fun W hW=>Cj.rd_more (Cj.rd_below h hW) hW.size);have HE:=Br (show ∀ W,Below w w W->Cq.rd W W d sd from fun W hW=>Cq.rd_more (Cq.rd_below gN hW) hW.size);have CC:=Br (fun W (hW:Below w w W)=>Sb k s W hm (HD.out W hW));have CM:=Br (fun W (hW:Below w w W)=>Vg k s id W hm (HD.out W hW));have CO:=Br (fun W (hW:Below w w W)=>V0 k s W hm (HD.out W hW));have CE:=Br (fun W (hW:Below w w W)=>Ov d sd W hd (HE.out W hW));have CD:=Br hDo;clear hDo;have H1:=Br (fun h1=>Ahw (k:=k) (id:=id) (d:=d) h1);have H2:=Br (fun h1 h2=>Ahx (k:=k) (id:=id) (d:=d) h1 h2);have H3:=Br (fun h1 h2 h3 h=>Ahy (k:=k) (id:=id) (d:=d) h1 h2 h3 h);have H4:=Br (fun h1 h2 h3 h4 h=>Ahz (k:=k) (id:=id) (d:=d) h1 h2 h3 h4 h);have H5:=Br (fun h1 h2 h3 h4 h5 h=>Ah0 (k:=k) (id:=id) (d:=d) h1 h2 h3 h4 h5 h);have H6:=Br (fun h1 h2 h3 h4 h5 h=>Ah1 (k:=k) (id:=id) (d:=d) h1 h2 h3 h4 h5 h);obtain ⟨⟨⟨A1,n1,c1⟩,⟨A2,n2,c2⟩⟩,⟨A3,n3,c3⟩⟩:=s;obtain rfl:n3=k.memos.length:=RdL.at1 (s:=⟨A3,n3,c3⟩) h.2;clear h gN sF hpe hm hd HD HE;obtain ⟨W,aH,X,DB,RES,REP,B0⟩:=bx4 w 81 [J U k.yard.now,J U k.yard.seq,Aa A1 n1 c1,Aa A2 n2 c2,Aa A3 k.memos.length c3,J U k.fr] 45 [J U d.kind,J U d.run,J U d.plan.prio,J U d.plan.most,J U d.plan.wait,J U d.plan.tasks,Aa sd.a sd.n sd.c,J U d.task,J U d.try_,J U d.worker,J U d.draw] 81 [J U 0,J U 0,Aa Ab 0 0,Aa Ab 0 0,Aa Ab 0 0,J U 0] 84 [J U 0,J U 0,J U 0,J U 0];go_enter func30,ntmps30;go_wp2_with fail
 rw [<-aH.out];clear aH;have hW0:w.heap.size+3<W.heap.size:=REP.lt;refine (CC.out _ B0).mono ?_;rintro e1 w1 ⟨⟨⟨B1,m1,e1⟩,⟨B2,m2,e2⟩⟩,F,⟨B3,m3,e3⟩,base,rfl,oy,nF,om,aV,cZ,b1⟩;replace oy:Bw.ow w1 F k.yard (⟨B1,m1,e1⟩,⟨B2,m2,e2⟩):=oy;obtain rfl:m3=k.memos.length:=by obtain ⟨_,_,hv,-⟩:=Rd.of_own om;simp only [Value.slice.injEq] at hv;exact hv.2.1
 have cS:=Bw.ow_lt (F:=F) (x:=k.yard) (s:=(⟨B1,m1,e1⟩,⟨B2,m2,e2⟩)) oy;have jJ:=om.within;replace X:=X.below b1;replace DB:=DB.below b1;replace RES:=RES.below b1;replace REP:=REP.below b1;replace B0:=Bv B0 b1;have bE:=b1.size;clear b1 CC;obtain ⟨w2,nY,OB,b2⟩:=bx1 w1 81 [J U k.yard.now,J U k.yard.seq,Aa B1 m1 e1,Aa B2 m2 e2,Aa B3 k.memos.length e3,J U k.fr];go_upto_region 2 with fail
 rw [<-nY.out];clear nY;replace X:=X.below b2;replace DB:=DB.below b2;replace RES:=RES.below b2;replace REP:=REP.below b2;replace oy:Bw.ow _ F k.yard (⟨B1,m1,e1⟩,⟨B2,m2,e2⟩):=owB oy b2;replace om:=om.below b2;replace B0:=Bv B0 b2;clear b2;generalize cR:w1.heap.size=ob at *
 have hF:Hid (∀ x∈F,w+3<x/\x≠ob/\x<base):=fun x hx=>⟨by have:=(nF x hx).1;omega,by have:=cS x hx;omega,(nF x hx).2⟩
 have qH:Hid (∀ g,(Value.slice B3 k.memos.length e3).ownBlock=Ac g->base<=g/\g<ob):=jJ;have gQ:w+3<ob:=Bl;have uA:w.heap.size+3<base:=Bl;clear nF cS jJ aV cR bE hW0;have X_:=X.g6;go_wp2_with fail
 refine (CM.out _ B0).mono ?_;rintro e3 w3 ⟨rfl,b3⟩;clear X_ CM;replace X:=X.below b3;replace DB:=DB.below b3;replace RES:=RES.below b3;replace REP:=REP.below b3;replace OB:=OB.below b3;replace oy:Bw.ow _ F k.yard (⟨B1,m1,e1⟩,⟨B2,m2,e2⟩):=owB oy b3;replace om:=om.below b3;replace B0:=Bv B0 b3;clear b3;generalize Hr k id=M at *
 obtain ⟨mr,mb⟩:=M;have hoM:=OB.lt;obtain ⟨w4,pP,MB,b4⟩:=bx1 w3 84 [J U mr.code,J U mr.run,J U mr.task,J U mr.try_];go_upto_region 3 with fail
 rw [<-pP.out];clear pP;replace X:=X.below b4;replace DB:=DB.below b4;replace RES:=RES.below b4;replace REP:=REP.below b4;replace OB:=OB.below b4;replace oy:Bw.ow _ F k.yard (⟨B1,m1,e1⟩,⟨B2,m2,e2⟩):=owB oy b4;replace om:=om.below b4;replace B0:=Bv B0 b4;clear b4;generalize w3.heap.size=mq at *
 have X_:=X.g6;go_wp2_with fail
 refine (CO.out _ B0).mono ?_;rintro e5 w5 ⟨rfl,b5⟩;clear X_ CO;replace X:=X.below b5;replace DB:=DB.below b5;replace RES:=RES.below b5;replace REP:=REP.below b5;replace OB:=OB.below b5;replace MB:=MB.below b5;replace oy:Bw.ow _ F k.yard (⟨B1,m1,e1⟩,⟨B2,m2,e2⟩):=owB oy b5;replace om:=om.below b5;replace B0:=Bv B0 b5;clear b5;have cK:w.heap.size+1+1≠w.heap.size+1+1+1:=Bl;have gY:w.heap.size<=w.heap.size+1+1:=Bl;have kK:w.heap.size+1+1<w.heap.size+1+1+1:=Bl;have OB_:=OB.g6;have RES_:=RES.g6;have REP_:=REP.g4;have rf:=RES.free;have pf:=REP.free;by_cases p1:Kk k;case neg =>
  rw [Cg p1];replace H1:=Br (H1.out p1);clear p1;go_wp2;obtain ⟨F2,om2,nF2⟩:=K8 om;exact Aj (Mj (Cx RES REP cK _ _ _ _ _ _ _ _ _ _).1 (Cx RES REP cK _ _ _ _ _ _ _ _ _ _).2.1) rfl (Gm H1.out (s:=(⟨B1,m1,e1⟩,⟨B2,m2,e2⟩)) (v:=⟨B3,k.memos.length,e3⟩) oy om2 (fun g hg=>(hF.out g hg).1) (fun g hg=>by have:=(nF2 g hg).1;omega) (fun g hg dW=>by have h1:=(hF.out g hg).2.2;have:=(nF2 g dW).1;omega) gY kK B0 (Cx RES REP cK _ _ _ _ _ _ _ _ _ _).2.2)
 rw [Di p1];replace H2:=Br (H2.out p1);replace H3:=Br (H3.out p1);replace H4:=Br (H4.out p1);replace H5:=Br (H5.out p1);replace H6:=Br (H6.out p1);have mG:k.memos.length<=1000000:=by have:=p1.2.1;omega
 clear H1 p1;have DB_:=DB.g11;have X_:=X.g6;cases a2:inB id 1 1000000000;case false =>
  replace H2:=Br (H2.out (.inl a2));go_wp2_with (go_at_call 72;refine (Cm _ _ _ _).mono ?_;rintro e w9 ⟨rfl,rfl⟩)
  obtain ⟨F2,om2,nF2⟩:=K8 om;exact Aj (Mj (Cx RES REP cK _ _ _ _ _ _ _ _ _ _).1 (Cx RES REP cK _ _ _ _ _ _ _ _ _ _).2.1) rfl (Gm H2.out (s:=(⟨B1,m1,e1⟩,⟨B2,m2,e2⟩)) (v:=⟨B3,k.memos.length,e3⟩) oy om2 (fun g hg=>(hF.out g hg).1) (fun g hg=>by have:=(nF2 g hg).1;omega) (fun g hg dW=>by have h1:=(hF.out g hg).2.2;have:=(nF2 g dW).1;omega) gY kK B0 (Cx RES REP cK _ _ _ _ _ _ _ _ _ _).2.2)
 replace H3:=Br (H3.out a2);replace H4:=Br (H4.out a2);replace H5:=Br (H5.out a2);replace H6:=Br (H6.out a2);go_wp2_with (go_at_call 72;refine (Cm _ _ _ _).mono ?_;rintro e w9 ⟨rfl,rfl⟩)
 refine (CE.out _ B0).mono ?_;rintro e6 w6 ⟨rfl,b6⟩;clear DB_ X_ OB_ RES_ REP_ rf pf CE a2;replace X:=X.below b6;replace DB:=DB.below b6;replace RES:=RES.below b6;replace REP:=REP.below b6;replace OB:=OB.below b6;replace MB:=MB.below b6;replace oy:Bw.ow _ F k.yard (⟨B1,m1,e1⟩,⟨B2,m2,e2⟩):=owB oy b6;replace om:=om.below b6;replace B0:=Bv B0 b6;clear b6;have X_:=X.g6;have OB_:=OB.g6;have RES_:=RES.g6;have REP_:=REP.g4;have rf:=RES.free;have pf:=REP.free;cases a3:Dg d;case false =>
  replace H2:=Br (H2.out (.inr a3));go_wp2;obtain ⟨F2,om2,nF2⟩:=K8 om;exact Aj (Mj (Cx RES REP cK _ _ _ _ _ _ _ _ _ _).1 (Cx RES REP cK _ _ _ _ _ _ _ _ _ _).2.1) rfl (Gm H2.out (s:=(⟨B1,m1,e1⟩,⟨B2,m2,e2⟩)) (v:=⟨B3,k.memos.length,e3⟩) oy om2 (fun g hg=>(hF.out g hg).1) (fun g hg=>by have:=(nF2 g hg).1;omega) (fun g hg dW=>by have h1:=(hF.out g hg).2.2;have:=(nF2 g dW).1;omega) gY kK B0 (Cx RES REP cK _ _ _ _ _ _ _ _ _ _).2.2)
 replace H3:=Br (H3.out a3);replace H4:=Br (H4.out a3);replace H5:=Br (H5.out a3);replace H6:=Br (H6.out a3);clear H2 a3;by_cases h4:id<k.fr;case pos =>
  replace H3:=Br (H3.out h4);go_wp2;obtain ⟨F2,om2,nF2⟩:=K8 om;exact Aj (Mj (Cx RES REP cK _ _ _ _ _ _ _ _ _ _).1 (Cx RES REP cK _ _ _ _ _ _ _ _ _ _).2.1) rfl (Gm H3.out (s:=(⟨B1,m1,e1⟩,⟨B2,m2,e2⟩)) (v:=⟨B3,k.memos.length,e3⟩) oy om2 (fun g hg=>(hF.out g hg).1) (fun g hg=>by have:=(nF2 g hg).1;omega) (fun g hg dW=>by have h1:=(hF.out g hg).2.2;have:=(nF2 g dW).1;omega) gY kK B0 (Cx RES REP cK _ _ _ _ _ _ _ _ _ _).2.2)
 replace H4:=Br (H4.out Bl);replace H5:=Br (H5.out Bl);replace H6:=Br (H6.out Bl);clear H3;try dsimp only at H4 H5 H6
 cases mb;case true =>
  replace H4:=Br (H4.out rfl);go_upto_region 10 with fail
  refine Go.wp_region_noPanic ?_;refine wp_region_held_drew (S:=(fun w'=>DBox ob [J U k.yard.now,J U k.yard.seq,Aa B1 m1 e1,Aa B2 m2 e2,Aa B3 k.memos.length e3,J U k.fr] w'/\DBox mq [J U mr.code,J U mr.run,J U mr.task,J U mr.try_] w')) Bm ⟨OB.below (Bs _ _).drew,MB.below (Bs _ _).drew⟩ (fun hHeld=>?_);have bd:Below w6 w6 w6.drew:=(Bs _ _).drew;have hoW:=OB.lt;have hrW:=MB.lt;clear RES_ REP_ rf pf OB_;replace RES:=RES.below bd;replace REP:=REP.below bd;replace oy:Bw.ow _ F k.yard (⟨B1,m1,e1⟩,⟨B2,m2,e2⟩):=owB oy bd;replace om:=om.below bd;replace B0:=Bv B0 bd;clear bd;have fY:ob≠w.heap.size+1+1:=Bl;have dS:ob≠w.heap.size+1+1+1:=Bl;have mV:mq≠w.heap.size+1+1:=Bl;have jY:mq≠w.heap.size+1+1+1:=Bl;generalize w6.drew=wd at *
  refine tV 0 ?_
  (try simp only [pS])
  refine tV 1 ?_
  (try simp only [pS])
  have RES_:=RES.g6;have rf:=RES.free;have q1:=Chg.cells6 wd (w+1+1) (J U k.yard.now) (J U k.yard.seq) (Aa B1 m1 e1) (Aa B2 m2 e2) (Aa B3 k.memos.length e3) (J U k.fr);have REP1:=REP.chg q1 (fun h=>cK (Au.1 h).symm);have REP_:=REP1.g4;have pf:=REP1.free;refine rC 2 (fun K_ hK=>?_);go_simp;refine hK.out _ _ ⟨hHeld.1.chg q1 (fun h=>fY (Au.1 h)),hHeld.2.chg q1 (fun h=>mV (Au.1 h))⟩ (fun hHeld2=>?_);clear hK K_ hHeld
  (try simp only [pS])
  have q2:=Chg.cells4 ((((((wd.setCell ⟨w+1+1,0,Ab⟩ (J U k.yard.now)).setCell ⟨w+1+1,1,Ab⟩ (J U k.yard.seq)).setCell ⟨w+1+1,2,Ab⟩ (Aa B1 m1 e1)).setCell ⟨w+1+1,3,Ab⟩ (Aa B2 m2 e2)).setCell ⟨w+1+1,4,Ab⟩ (Aa B3 k.memos.length e3)).setCell ⟨w+1+1,5,Ab⟩ (J U k.fr)) (w+1+1+1) 0 1 2 3 (J U mr.code) (J U mr.run) (J U mr.task) (J U mr.try_);refine rC 3 (fun K_ hK=>?_);go_simp;refine hK.out _ _ ⟨hHeld2.1.chg q2 (fun h=>dS (Au.1 h)),hHeld2.2.chg q2 (fun h=>jY (Au.1 h))⟩ (fun hHeld=>?_);clear hK K_ hHeld2
  (try simp only [pS])
  refine tV 4 ?_
  (try simp only [pS])
  refine Al Bm ?_ _;refine NoPanic.normal ?_;go_wp2;obtain ⟨F2,om2,nF2⟩:=K8 om;exact Aj (Mj (Cx RES REP cK _ _ _ _ _ _ _ _ _ _).1 (Cx RES REP cK _ _ _ _ _ _ _ _ _ _).2.1) rfl (Gm H4.out (s:=(⟨B1,m1,e1⟩,⟨B2,m2,e2⟩)) (v:=⟨B3,k.memos.length,e3⟩) oy om2 (fun g hg=>(hF.out g hg).1) (fun g hg=>by have:=(nF2 g hg).1;omega) (fun g hg dW=>by have h1:=(hF.out g hg).2.2;have:=(nF2 g dW).1;omega) gY kK B0 (Cx RES REP cK _ _ _ _ _ _ _ _ _ _).2.2)
 replace H5:=Br (H5.out rfl);replace H6:=Br (H6.out rfl);clear H4 MB;by_cases h5:k.memos.length=40;case pos =>
  have t4:((k.memos.length:Int) == 40)=true:=by simp;omega
  replace H5:=Br (H5.out h5);clear h5;go_wp2;obtain ⟨F2,om2,nF2⟩:=K8 om;exact Aj (Mj (Cx RES REP cK _ _ _ _ _ _ _ _ _ _).1 (Cx RES REP cK _ _ _ _ _ _ _ _ _ _).2.1) rfl (Gm H5.out (s:=(⟨B1,m1,e1⟩,⟨B2,m2,e2⟩)) (v:=⟨B3,k.memos.length,e3⟩) oy om2 (fun g hg=>(hF.out g hg).1) (fun g hg=>by have:=(nF2 g hg).1;omega) (fun g hg dW=>by have h1:=(hF.out g hg).2.2;have:=(nF2 g dW).1;omega) gY kK B0 (Cx RES REP cK _ _ _ _ _ _ _ _ _ _).2.2)
 have t4:((k.memos.length:Int) == 40)=false:=by simp;omega
 replace H6:=Br (H6.out h5);clear H5 h5;have DB_:=DB.g11;generalize doO k.yard d=o at *
 obtain ⟨z,rep⟩:=o;try dsimp only at H6
 go_wp2_with fail
 refine (CD.out H6.out _ B0).mono ?_;rintro e7 w7 ⟨⟨⟨B4,m4,e4⟩,⟨B5,m5,e5⟩⟩,F7,rfl,oz,nF7,b7⟩;replace oz:Bw.ow w7 F7 z (⟨B4,m4,e4⟩,⟨B5,m5,e5⟩):=oz;have hob7:=OB.lt;have hz7:=Bw.ow_lt (F:=F7) (x:=z) (s:=(⟨B4,m4,e4⟩,⟨B5,m5,e5⟩)) oz;have gE:Hid (∀ x∈F7,ob<x/\x<w7):=fun x hx=>⟨by have:=nF7 x hx;omega,hz7 x hx⟩
 clear DB_ X_ OB_ RES_ REP_ rf pf CD nF7 hz7 oy X DB;replace RES:=RES.below b7;replace REP:=REP.below b7;replace OB:=OB.below b7;replace om:=om.below b7;replace B0:=Bv B0 b7;clear b7;have tS:ob<w7:=OB.lt;obtain ⟨w8,hw8_,NB,RB,b8⟩:=bx2 w7 31 [J U z.now,J U z.seq,Aa B4 m4 e4,Aa B5 m5 e5] 84 [J U rep.code,J U rep.run,J U rep.task,J U rep.try_];go_upto_region 14 with fail
 rw [<-hw8_.out];clear hw8_;replace RES:=RES.below b8;replace REP:=REP.below b8;replace OB:=OB.below b8;replace om:=om.below b8;replace oz:Bw.ow _ F7 z (⟨B4,m4,e4⟩,⟨B5,m5,e5⟩):=owB oz b8;replace B0:=Bv B0 b8;clear b8;generalize w7.heap.size=nb at *
 have NB_:=NB.g4;have OB_:=OB.g6;have obf:=OB.free;go_upto_region 15 with fail
 have bT:=Br (show ∀ x,x∈[ob]->x=ob from fun x hx=>by simpa using hx);have q4:=Chg.cells4 w8 ob 0 1 2 3 (J U z.now) (J U z.seq) (Aa B4 m4 e4) (Aa B5 m5 e5);have OB4:=(((OB.set 0 Bo (J U z.now)).set 1 Bo (J U z.seq)).set 2 Bo (Aa B4 m4 e4)).set 3 Bo (Aa B5 m5 e5);replace OB4:DBox ob [J U z.now,J U z.seq,Aa B4 m4 e4,Aa B5 m5 e5,Aa B3 k.memos.length e3,J U k.fr] ((((w8.setCell ⟨ob,0,Ab⟩ (J U z.now)).setCell ⟨ob,1,Ab⟩ (J U z.seq)).setCell ⟨ob,2,Ab⟩ (Aa B4 m4 e4)).setCell ⟨ob,3,Ab⟩ (Aa B5 m5 e5)):=OB4;replace RES:=RES.chg q4 (fun hx=>by have:=bT.out _ hx;omega);replace REP:=REP.chg q4 (fun hx=>by have:=bT.out _ hx;omega);replace RB:=RB.chg q4 (fun hx=>by have:=bT.out _ hx;omega);replace om:=om.grown q4.toGrown (.inr (fun e=>by have:=(qH.out _ e).2;omega));replace oz:Bw.ow _ F7 z (⟨B4,m4,e4⟩,⟨B5,m5,e5⟩):=owC oz q4 (fun x hx hx2=>by have h1:=(gE.out x hx).1;have:=bT.out x hx2;omega);replace B0:=B0.trans (q4.below (by have:=B0.size;omega) (fun x hx=>by have:=bT.out x hx;omega));clear q4 OB OB_ NB_ obf NB;have OB:=OB4;clear OB4;generalize (((w8.setCell ⟨ob,0,Ab⟩ (J U z.now)).setCell ⟨ob,1,Ab⟩ (J U z.seq)).setCell ⟨ob,2,Ab⟩ (Aa B4 m4 e4)).setCell ⟨ob,3,Ab⟩ (Aa B5 m5 e5)=w9 at *
 go_wp2;go_loopw [14] (fun iv wr=>∃ j:Nat,j<=k.memos.length/\iv = J U j/\Hid (∀ i (hi:i<k.memos.length),i<j->k.memos[i].id<id)/\wr=w9) (fun iv _=>k.memos.length - (intOf iv).toNat);case atStart=>exact ⟨0,Ag _,rfl,fun i hi h=>absurd h Bl,rfl⟩
 case round =>
  obtain ⟨j,hj,rfl,cQ,rfl⟩:=hrel;have OB_:=OB.g6;have bX:(0:Int)<=(j:Int):=Bl;by_cases hgo:∃ hj':j<k.memos.length,k.memos[j].id<id
  ·obtain ⟨aA,hl⟩:=hgo;have aB:(j:Int)<(k.memos.length:Int):=Bl;obtain ⟨bm,obm,rfl,eE,k0,-⟩:=(Rd.of_own om).memo_ aA;exact Akd
  ·have HP:=Br (Aan k.memos ⟨id,rep⟩ j hj cQ.out (fun hk h=>hgo ⟨hk,h⟩));have RB_:=RB.g4;by_cases aA:j<k.memos.length;have aB:(j:Int)<(k.memos.length:Int):=Bl;have cG:¬ k.memos[j].id<id:=fun h=>hgo ⟨aA,h⟩;obtain ⟨bm,obm,rfl,eE,k0,-⟩:=(Rd.of_own om).memo_ aA;rotate_left;have aB:¬ (j:Int)<(k.memos.length:Int):=Bl;all_goals go_wp2_with fail
   all_goals
    have hxr:(wr.alloc (.cells #[J U id,J U rep.code,J U rep.run,J U rep.task,J U rep.try_] 154)).heap[wr.heap.size]? = Ac (.cells (Ej.cells ⟨id,rep⟩).toArray 154 (0,0)):=heap_alloc_new wr _;have ba:Below wr wr (wr.alloc (.cells #[J U id,J U rep.code,J U rep.run,J U rep.task,J U rep.try_] 154)):=Bu;have hxs:wr.heap.size<(wr.alloc (.cells #[J U id,J U rep.code,J U rep.run,J U rep.task,J U rep.try_] 154)).heap.size:=Bo;have hobr:=OB.lt;have mW:=RB.lt;refine (V3 _ k.memos j wr ⟨id,rep⟩ base _ hj mG (om.below ba) Bl hxr (fun h=>by have h1:=(qH.out _ h).2;omega)).mono ?_;rintro e10 w10 ⟨v5,rfl,o5,g5,f5⟩;rw [<-HP.out] at o5;clear HP hxr OB_ RB_;replace B0:=(Bv B0 ba).grown g5 (Bv B0 ba).size (fun g hg=>by have:=(qH.out g hg).1;omega);replace RES:=(RES.below ba).off g5 (fun h=>by have:=(qH.out _ h.symm).1;omega);replace REP:=(REP.below ba).off g5 (fun h=>by have:=(qH.out _ h.symm).1;omega);replace OB:=(OB.below ba).off g5 (fun h=>by have:=(qH.out _ h.symm).2;omega);replace RB:=(RB.below ba).off g5 (fun h=>by have:=(qH.out _ h.symm).2;omega);replace oz:Bw.ow _ F7 z (⟨B4,m4,e4⟩,⟨B5,m5,e5⟩):=owB oz ba;replace oz:Bw.ow w10 F7 z (⟨B4,m4,e4⟩,⟨B5,m5,e5⟩):=Bw.ow_keep (F:=F7) (x:=z) (s:=(⟨B4,m4,e4⟩,⟨B5,m5,e5⟩)) oz g5.size (fun x hx=>g5.block x (Bw.ow_lt (F:=F7) (x:=z) (s:=(⟨B4,m4,e4⟩,⟨B5,m5,e5⟩)) oz x hx) (fun e=>by have:=(qH.out x e.symm).2;have:=(gE.out x hx).1;omega));have uJ:Hid (∀ x∈F7,x<wr):=fun x hx=>by have:=(gE.out x hx).2;omega
    have hne5:Hid (∀ g,v5.ownBlock=Ac g->g≠ob /\ ∀ x∈F7,x≠g):=fun g hg=>by
     rcases f5 with h | h
     ·rw [h] at hg;have h1:=(qH.out g hg).2;exact ⟨Bl,fun x hx=>by have:=(gE.out x hx).1;omega⟩
     ·rw [h] at hg;injection hg with hg
      exact ⟨Bl,fun x hx=>by have:=uJ.out x hx;omega⟩
    obtain ⟨A9,c9,rfl,-⟩:=_root_.id (Rd.of_own o5);clear om f5 cQ qH uJ;have om:=o5;clear o5 g5 ba;generalize Rq k.memos ⟨id,rep⟩=L at *
    have OB_:=OB.g6;have obf:=OB.free;go_upto_region 19 with fail
    have q5:=Chg.setCell w10 ob 4 (Aa A9 L.length c9);have OB5:=OB.set 4 Bo (Aa A9 L.length c9);replace RES:=RES.chg q5 (fun hx=>by have:=bT.out _ hx;omega);replace REP:=REP.chg q5 (fun hx=>by have:=bT.out _ hx;omega);replace RB:=RB.chg q5 (fun hx=>by have:=bT.out _ hx;omega);replace om:=om.grown q5.toGrown (.inr (fun e=>(hne5.out _ e).1 rfl));replace oz:Bw.ow _ F7 z (⟨B4,m4,e4⟩,⟨B5,m5,e5⟩):=owC oz q5 (fun x hx hx2=>by have h1:=(gE.out x hx).1;have:=bT.out x hx2;omega);replace B0:=B0.trans (q5.below (by have:=B0.size;omega) (fun x hx=>by have:=bT.out x hx;omega));clear q5 OB OB_ obf;have OB:DBox ob [J U z.now,J U z.seq,Aa B4 m4 e4,Aa B5 m5 e5,Aa A9 L.length c9,J U k.fr] (w10.setCell ⟨ob,4,Ab⟩ (Aa A9 L.length c9)):=OB5;clear OB5;generalize w10.setCell ⟨ob,4,Ab⟩ (Aa A9 L.length c9)=w11 at *
    have RES_:=RES.g6;have REP_:=REP.g4;have OB_:=OB.g6;have rf:=RES.free;have pf:=REP.free;refine Go.wp_region_noPanic ?_;refine wp_region_held_drew (S:=(fun w'=>DBox ob [J U z.now,J U z.seq,Aa B4 m4 e4,Aa B5 m5 e5,Aa A9 L.length c9,J U k.fr] w'/\DBox (nb+1) [J U rep.code,J U rep.run,J U rep.task,J U rep.try_] w')) Bm ⟨OB.below (Bs _ _).drew,RB.below (Bs _ _).drew⟩ (fun hHeld=>?_);have bd:Below w11 w11 w11.drew:=(Bs _ _).drew;have hoW:=OB.lt;have hrW:=RB.lt;clear RES_ REP_ rf pf OB_;replace RES:=RES.below bd;replace REP:=REP.below bd;replace om:=om.below bd;replace oz:Bw.ow _ F7 z (⟨B4,m4,e4⟩,⟨B5,m5,e5⟩):=owB oz bd;replace B0:=Bv B0 bd;clear bd;have fY:ob≠w.heap.size+1+1:=Bl;have dS:ob≠w.heap.size+1+1+1:=Bl;have mV:(nb+1)≠w.heap.size+1+1:=Bl;have jY:(nb+1)≠w.heap.size+1+1+1:=Bl;generalize w11.drew=wd at *
    refine tV 0 ?_
    (try simp only [pS])
    refine tV 1 ?_
    (try simp only [pS])
    have RES_:=RES.g6;have rf:=RES.free;have q1:=Chg.cells6 wd (w+1+1) (J U z.now) (J U z.seq) (Aa B4 m4 e4) (Aa B5 m5 e5) (Aa A9 L.length c9) (J U k.fr);have REP1:=REP.chg q1 (fun h=>cK (Au.1 h).symm);have REP_:=REP1.g4;have pf:=REP1.free;refine rC 2 (fun K_ hK=>?_);go_simp;refine hK.out _ _ ⟨hHeld.1.chg q1 (fun h=>fY (Au.1 h)),hHeld.2.chg q1 (fun h=>mV (Au.1 h))⟩ (fun hHeld2=>?_);clear hK K_ hHeld
    (try simp only [pS])
    have q2:=Chg.cells4 ((((((wd.setCell ⟨w+1+1,0,Ab⟩ (J U z.now)).setCell ⟨w+1+1,1,Ab⟩ (J U z.seq)).setCell ⟨w+1+1,2,Ab⟩ (Aa B4 m4 e4)).setCell ⟨w+1+1,3,Ab⟩ (Aa B5 m5 e5)).setCell ⟨w+1+1,4,Ab⟩ (Aa A9 L.length c9)).setCell ⟨w+1+1,5,Ab⟩ (J U k.fr)) (w+1+1+1) 0 1 2 3 (J U rep.code) (J U rep.run) (J U rep.task) (J U rep.try_);refine rC 3 (fun K_ hK=>?_);go_simp;refine hK.out _ _ ⟨hHeld2.1.chg q2 (fun h=>dS (Au.1 h)),hHeld2.2.chg q2 (fun h=>jY (Au.1 h))⟩ (fun hHeld=>?_);clear hK K_ hHeld2
    (try simp only [pS])
    refine tV 4 ?_
    (try simp only [pS])
    refine Al Bm ?_ _;refine NoPanic.normal ?_;go_wp2;obtain ⟨F2,om2,nF2⟩:=K8 om;exact Aj (Mj (Cx RES REP cK _ _ _ _ _ _ _ _ _ _).1 (Cx RES REP cK _ _ _ _ _ _ _ _ _ _).2.1) rfl (Gm H6.out (s:=(⟨B4,m4,e4⟩,⟨B5,m5,e5⟩)) (v:=⟨A9,L.length,c9⟩) oz om2 (fun g hg=>by have:=(gE.out g hg).1;omega) (fun g hg=>by have:=(nF2 g hg).1;omega) (fun g hg dW=>(hne5.out g (nF2 g dW).2).2 g hg rfl) gY kK B0 (Cx RES REP cK _ _ _ _ _ _ _ _ _ _).2.2)
end Go.Proofs.YtecnbnbopcblgaaGreat
