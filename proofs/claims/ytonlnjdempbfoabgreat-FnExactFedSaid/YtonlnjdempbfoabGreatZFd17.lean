/-
  Tick of the program. Restart of the program. A yard does not grow without bound by a deed. Plain. Do of the program. Written by program (ido.py). Replay of the 
-/
import Derived.Test.YtonlnjdempbfoabGreatZFd0
import Derived.Test.YtonlnjdempbfoabGreatZFd3
import Derived.Test.YtonlnjdempbfoabGreatZFd4
import Derived.Test.YtonlnjdempbfoabGreatZFd5
import Derived.Test.YtonlnjdempbfoabGreatZFd9
import Derived.Test.YtonlnjdempbfoabGreatZFd11
import Derived.Test.YtonlnjdempbfoabGreatZFd13
import Derived.Test.YtonlnjdempbfoabGreatZFd14
import Derived.Test.YtonlnjdempbfoabGreatZFd15
import Derived.Test.YtonlnjdempbfoabGreatZFd16
namespace Go.Proofs.YtonlnjdempbfoabGreat
open Go.RowKit
set_option maxRecDepth 100000
set_option maxHeartbeats 4000000
set_option linter.unusedVariables false
set_option linter.unusedSimpArgs false
open Value renaming int->J,slice->Aa
open IntKind renaming i64->U
open Option renaming none->Ab,some->Ac
open Below renaming setCell->Ad
open Nat renaming zero_le->Ag,le_trans->Ah,lt_of_lt_of_le->Ai
open Go renaming bodyPost_ret->Aj
open Go.Proofs.Tryz renaming prog->Am
open Int renaming toNat_natCast->Ao
open List renaming length_map->Ar,getElem_mem->Aw,take_of_length_le->Bg,mem_append->Bi
open Go.Proofs.Tryz
theorem Ry {b:Nat} {w:World} {u0 u1 u2 u3:Value} (X:DBox b [u0,u1,u2,u3] w) {v0 v1 v3:Value} {rest:List Value} :
  (results Tryz.f115 (v0 :: v1 :: .pointer (Ac ⟨b,0,Ab⟩) :: v3 :: rest).toArray).run Am w = .ok (.tuple #[.agg #[u0,u1,u2,u3],v3]) w:=by
 obtain ⟨c0,c1,c2,c3,-⟩:=X.g4;simp [results,results115,go_sem,c0,c1,c2,c3]
theorem Afr (gr o n c:Nat) (rs:List (Run×Ce.S)) (k:Nat) (G1 Fx G2:List Nat) (r:Run) (s:Sl×Sl) (u p gl pl cl:Nat) (w:World) (hp:w.cell? ⟨p,0,Ab⟩=Ac (Aa (Ac ⟨gl,pl,Ab⟩) 3 cl)) (hp':p<w) (hq:w.cell? ⟨gl,pl+1,Ab⟩=Ac (J U u)) (hq':gl<w) (hR:Is r u) (hF:Foc Ce w gr o n c rs k G1 Fx G2 r s) :
  Calls Am 194 #[.pointer (Ac ⟨gr,o+k * 8,Ab⟩),.pointer (Ac ⟨p,0,Ab⟩)] w (Ie gr o n c rs k G1 Fx G2 (Dn r u) s w):=by
 have C:=Bq (Mq gr o n c rs k G1 Fx G2 r s u w (by have:=D7 hR.1;omega) hR hF);go_enter func194,ntmps194;go_wp2_with fail
 refine C.out.mono ?_;rintro e w1 ⟨rfl,h1,h2⟩;have HF:=Bq (show Ie gr o n c rs k G1 Fx G2 (Dn r u) s w (.returned (.tuple #[])) w1 from ⟨rfl,h1,h2⟩);clear h1 h2 C;go_wp2;exact Aj (v:=.tuple #[]) (by simp [results,results194,go_sem]) rfl HF.out
theorem Zt (y:Yard) (s:Sl×Sl) (w:World) (hl:Ca y<=2000000) (h:Bv.rd w w y s) :
  Calls Am 115 #[Dm y s] w (Ij (I6 y) (Jj y) w):=by
 have HR:=Bq (show ∀ W,Below w w W->Bv.rd W W y s from fun W hW=>Bv.rd_more (Bv.rd_below h hW) hW.size);obtain ⟨⟨A1,n1,c1⟩,⟨A2,n2,c2⟩⟩:=s;have CC:=Bq (fun W hW=>Ev y (⟨A1,n1,c1⟩,⟨A2,n2,c2⟩) W hl (HR.out W hW));have CY:=Bq (fun W hW=>Fw y (⟨A1,n1,c1⟩,⟨A2,n2,c2⟩) W hl (HR.out W hW));clear h;obtain ⟨W,aH,X,RES,B0⟩:=bx2 w 27 [J U y.now,J U y.seq,Aa A1 n1 c1,Aa A2 n2 c2] 27 [J U 0,J U 0,Aa Ab 0 0,Aa Ab 0 0];go_enter func115,ntmps115;go_wp2_with fail
 rw [<-aH.out];clear aH;refine (CC.out _ B0).mono ?_;rintro e1 w1 ⟨⟨⟨B1,m1,e1⟩,⟨B2,m2,e2⟩⟩,F,rfl,oy,nF,b1⟩;have dP:=RES.lt;have b2:Below w1 w1 (w1.alloc (.cells #[J U y.now,J U y.seq,Aa B1 m1 e1,Aa B2 m2 e2] 27)):=Bt;have OB:DBox w1 (Gv y (⟨B1,m1,e1⟩,⟨B2,m2,e2⟩)) _:=DBox.new 27 [J U y.now,J U y.seq,Aa B1 m1 e1,Aa B2 m2 e2] w1 (b:=w1) rfl;have bV:=Bq (Bv.ow_lt (F:=F) (x:=y) (s:=(⟨B1,m1,e1⟩,⟨B2,m2,e2⟩)) oy);have cZ:=Bq (show ∀ x∈F,w.heap.size+1<x from fun x hx=>by have:=nF x hx;omega);replace oy:Bv.ow _ F y (⟨B1,m1,e1⟩,⟨B2,m2,e2⟩):=owB oy b2;have b12:=Bu b1 b2;replace X:=X.below b12;replace RES:=RES.below b12;replace B0:=Bu B0 b12;have bS:=b1.size;clear b1 b2 b12 CC nF;go_upto_region 2 with fail
 have cW:w1.heap.size∉F:=fun h=>by have:=bV.out _ h;omega
 have hobR:w.heap.size+1<w1.heap.size:=Bl;generalize w1.heap.size=ob at *
 generalize w1.alloc (.cells #[J U y.now,J U y.seq,Aa B1 m1 e1,Aa B2 m2 e2] 27)=w2 at *
 have X_:=X.g4;go_wp2_with fail
 refine (CY.out _ B0).mono ?_;rintro e1' w3 ⟨rfl,b3⟩;clear X_;replace X:=X.below b3;replace RES:=RES.below b3;replace OB:=OB.below b3;replace B0:=Bu B0 b3;replace oy:Bv.ow w3 F y (⟨B1,m1,e1⟩,⟨B2,m2,e2⟩):=owB oy b3;clear b3 CY bV;by_cases p0:Dh y;case neg =>
  rw [Ci p0];have H:=Bq (show Jj y=8 by unfold Jj;rw [if_pos p0]);have H2:=Bq (show I6 y=y by unfold I6;rw [H.out,if_neg Bp]);have RES_:=RES.g4;have OB_:=OB.g4;have rf:=RES.free;go_wp2;have en1:w.heap.size+1∉F:=fun hx=>by have:=cZ.out _ hx;omega
  refine Aj (Ry (DBox.row4 RES rfl _ _ _ _)) rfl ⟨(⟨B1,m1,e1⟩,⟨B2,m2,e2⟩),F,by rw [H.out,H2.out],by rw [H2.out];exact Bv.set4 (F:=F) (x:=y) (s:=(⟨B1,m1,e1⟩,⟨B2,m2,e2⟩)) oy en1,fun x hx=>by have:=cZ.out x hx;omega,?_⟩;repeat (first | (with_reducible exact B0) | refine Ad ?_ Bo _)
 rw [Dp p0];have P0:=Bq p0;have gF:=p0.1;clear p0;have wr1:U.wrap (y.now+1)=y.now+1:=IntWalk.i64_in _ Bl;have X_:=X.g4;by_cases p1:999999980<y.now+1;case pos =>
  have H:=Bq (show Jj y=7 by unfold Jj;rw [if_neg (fun h=>h P0.out),if_pos p1]);have H2:=Bq (show I6 y=y by unfold I6;rw [H.out,if_neg Bp]);have RES_:=RES.g4;have OB_:=OB.g4;have rf:=RES.free;go_wp2;have en1:w.heap.size+1∉F:=fun hx=>by have:=cZ.out _ hx;omega
  refine Aj (Ry (DBox.row4 RES rfl _ _ _ _)) rfl ⟨(⟨B1,m1,e1⟩,⟨B2,m2,e2⟩),F,by rw [H.out,H2.out],by rw [H2.out];exact Bv.set4 (F:=F) (x:=y) (s:=(⟨B1,m1,e1⟩,⟨B2,m2,e2⟩)) oy en1,fun x hx=>by have:=cZ.out x hx;omega,?_⟩;repeat (first | (with_reducible exact B0) | refine Ad ?_ Bo _)
 have H:=Bq (show Jj y=0 by unfold Jj;rw [if_neg (fun h=>h P0.out),if_neg p1]);have H2:=Bq (show I6 y=upY (Fe y (Fk y y.runs.length)) by unfold I6;rw [if_pos H.out];rfl);have CL:=Bq (fun W hW=>Zp y (⟨A1,n1,c1⟩,⟨A2,n2,c2⟩) W hl P0.out (HR.out W hW));clear HR;have OB_:=OB.g4;have obf:=OB.free;go_upto_region 7 with fail
 clear X_;clear OB_;clear obf;have fP:=B0.size;have pU:w≠ob:=Bl;replace X:=X.setOther (a:=⟨ob,0,Ab⟩) pU (J U (y.now+1));replace OB:DBox ob (Gv (upY y) (⟨B1,m1,e1⟩,⟨B2,m2,e2⟩)) (w3.setCell ⟨ob,0,Ab⟩ (J U (y.now+1))):=OB.set 0 Bn _;replace RES:=RES.setOther (a:=⟨ob,0,Ab⟩) (by show w.heap.size+1≠ob;omega) (J U (y.now+1));replace oy:Bv.ow (w3.setCell ⟨ob,0,Ab⟩ (J U (y.now+1))) F (upY y) (⟨B1,m1,e1⟩,⟨B2,m2,e2⟩):=Bv.ow_set (F:=F) (x:=y) (s:=(⟨B1,m1,e1⟩,⟨B2,m2,e2⟩)) oy (a:=⟨ob,0,Ab⟩) cW _;replace B0:Below w w (w3.setCell ⟨ob,0,Ab⟩ (J U (y.now+1))):=Ad B0 (by show w.heap.size<=ob;omega) _;generalize w3.setCell ⟨ob,0,Ab⟩ (J U (y.now+1))=w3 at *
 have bV:=Bv.ow_lt (F:=F) (x:=upY y) (s:=(⟨B1,m1,e1⟩,⟨B2,m2,e2⟩)) oy;have X_:=X.g4;go_wp2_with fail
 refine (CL.out _ B0).mono ?_;rintro e1 w4 ⟨⟨A9,n9,c9⟩,Fl,he,ol,nl,b4⟩;replace he:e1 = .returned (Aa A9 n9 c9):=he;subst he;clear X_;clear X CL;have jW:ob<w3:=OB.lt;have hRl3:w.heap.size+1<w3.heap.size:=RES.lt;replace OB:=OB.below b4;replace RES:=RES.below b4;replace oy:Bv.ow w4 F (upY y) (⟨B1,m1,e1⟩,⟨B2,m2,e2⟩):=owB oy b4;replace B0:=Bu B0 b4;have gB:Hid ((∀ x∈F,w+1<x)/\ob∉F /\ ∀ x∈Fl,x∉F):=⟨cZ.out,cW,fun x hx bJ=>by have h1:w3<=x:=nl x hx;have h2:=bV x bJ;omega⟩
 have hFln:=Bq (show ∀ x∈Fl,x≠ob/\w.heap.size+1<x from fun x hx=>by have h1:w3<=x:=nl x hx;omega);have hmemL:=Bq (fun p (hp:p∈Fk y y.runs.length)=>Rx hp);clear nl b4 bV cZ cW jW hRl3 fP;have hLs:=Bq (show (Fk y y.runs.length).length<=96 by have h1:=Lm (M8 P0.out) y.runs.length;have h2:=P0.out.2.2.2.2.2.2.1;omega);generalize Fk y y.runs.length=L at *
 obtain rfl:n9=L.length:=by have:=RdL.at1 (s:=⟨A9,n9,c9⟩) ol.rd;rw [Ar] at this;exact this
 go_wp2;go_loopw [27] (fun iv wr=>∃ (i:Nat) (Z:Yard) (F:List Nat),i<=L.length/\iv = J U i/\Hid (Trn y i Z/\SameTry y Z)/\Hid (Fe y (L.take i)=Z)/\Hid (Bv.ow wr F (upY Z) (⟨B1,m1,e1⟩,⟨B2,m2,e2⟩))/\Hid ((∀ x∈F,w+1<x)/\ob∉F /\ ∀ x∈Fl,x∉F)/\Hid (OwL (Dt.flats Ip) wr Fl (Aa A9 L.length c9) (L.map (It y)))/\DBox ob (Gv (upY Z) (⟨B1,m1,e1⟩,⟨B2,m2,e2⟩)) wr/\DBox (w+1) [J U 0,J U 0,Aa Ab 0 0,Aa Ab 0 0] wr/\Below w w wr) (fun i _=>L.length - (intOf i).toNat);case atStart=>exact ⟨0,y,F,Ag _,rfl,⟨Trn.start P0.out,fun _ _=>rfl⟩,rfl,oy,gB,ol,OB,RES,B0⟩
 case round =>
  clear oy gB ol OB RES B0;obtain ⟨i,Z,F,hi,rfl,hT,hZ,oy,hF,ol,OB,RES,hb⟩:=hrel;replace oy:Bv.ow wr F (upY Z) (⟨B1,m1,e1⟩,⟨B2,m2,e2⟩):=oy.out;have bZ:=hLs.out;by_cases aA:i<L.length
  ·have aB:(i:Int)<(L.length:Int):=Bl;have aR:(0:Int)<=(i:Int):=Bl;have hp:=hmemL.out _ (Aw aA);have aE:Hid (Fe y (L.take (i+1))=Gi Z L[i].1 L[i].2):=by
    show Fe y (L.take (i+1))=_;unfold Fe;rw [Kq (fun z p=>Gi z p.1 p.2) y L i aA,<-hZ.out];rfl
   have dE:(L.map (It y))[i]'(by rw [Ar];exact aA)=[(Ha y L[i].1).id,(L[i].2:Int),(Cv (Ha y L[i].1) L[i].2).try_]:=by
    rw [List.getElem_map];rfl
   generalize L[i]=p at *
   obtain ⟨k,t⟩:=p;dsimp only at hp aE dE;have qW:k<y.runs.length:=hp.1;have eE:k<Z.runs.length:=by rw [hT.out.1.len];exact qW
   have hru:=Ex qW;rw [hru] at hp dE;have fT:=hT.out.1.run k eE qW;have kA:t<Z.runs[k].tasks.length:=by rw [fT.2.2];exact hp.2
   have gJ:=Bq (show Dk Z y.runs[k].id=k from (hT.out.1.runAt _).trans (P0.out.2.2.2.2.2.2.2.1 k qW).2);have pW:=hT.out.1.cnt Bl;have hN:=Bq (show Trn y (i+1) (Gi Z k t)/\SameTry y (Gi Z k t) from ⟨hT.out.1.fail eE kA,hT.out.2.fail eE t⟩);have dE:=Bq dE;have pM:=Bq (V3 hT.out.1 hT.out.2 eE kA gJ.out);rw [hru] at pM;obtain ⟨bl,lo,rfl⟩:∃ b o,A9=Ac ⟨b,o,Ab⟩:=by
    obtain ⟨b,o,_,hA,_⟩:=RdL.at_ ol.out.rd i (by rw [Ar];exact aA);exact ⟨b,o,hA⟩
   obtain ⟨gl,pl,cl,gV,fU,l0,l1,l2,l3⟩:=Ns ol.out (i:=i) (by rw [Ar];exact aA) dE.out;have mH:=ol.out.lt _ gV;have cG:=ol.out.lt _ fU;generalize hid:y.runs[k].id=rid at *
   generalize htr:(Cv y.runs[k] t).try_=tr at *
   have TQ:=DBox.new 32 [Aa (Ac ⟨gl,pl,Ab⟩) 3 cl] wr (b:=wr) rfl;have bq:Below wr wr (wr.alloc (.cells #[Aa (Ac ⟨gl,pl,Ab⟩) 3 cl] 32)):=Bt;go_upto_region 10 with fail
   have gD:=OB.lt;replace OB:=OB.below bq;replace RES:=RES.below bq;have hqF:wr.heap.size∉F:=fun hx=>by have:=Bv.ow_lt (F:=F) (x:=upY Z) (s:=(⟨B1,m1,e1⟩,⟨B2,m2,e2⟩)) oy _ hx;omega
   have hqo:wr≠ob:=Bl;have hqL:∀ x∈Fl,x≠wr:=fun x hx=>by have:=ol.out.lt x hx;omega
   replace l1:=(bq.cell (p:=⟨gl,_,Ab⟩) cG).trans l1;replace l2:=(bq.cell (p:=⟨gl,_,Ab⟩) cG).trans l2;replace l3:=(bq.cell (p:=⟨gl,_,Ab⟩) cG).trans l3;replace cG:=Ai cG bq.size;replace oy:Bv.ow _ F (upY Z) (⟨B1,m1,e1⟩,⟨B2,m2,e2⟩):=owB oy bq;replace ol:=Bq (ol.out.below bq);replace hb:=Bu hb bq;clear bq l0 mH;generalize wr.alloc (.cells #[Aa (Ac ⟨gl,pl,Ab⟩) 3 cl] 32)=w5 at *
   generalize wr.heap.size=tq at *
   have OB_:=OB.g4;obtain ⟨TQ_0,TQ_l⟩:=TQ.g1;have oyr:=Bv.ow_rd (F:=F) (x:=upY Z) (s:=(⟨B1,m1,e1⟩,⟨B2,m2,e2⟩)) oy;have CH:=Bq (fun W (hW:Below w5 w5 W)=>Mn (upY Z) (⟨B1,m1,e1⟩,⟨B2,m2,e2⟩) rid t tr W pW (Bv.rd_more (Bv.rd_below (x:=upY Z) (s:=(⟨B1,m1,e1⟩,⟨B2,m2,e2⟩)) oyr hW) hW.size));have CA:=Bq (fun W (hW:Below w5 w5 W)=>E9 (upY Z) (⟨B1,m1,e1⟩,⟨B2,m2,e2⟩) rid W pW (Bv.rd_more (Bv.rd_below (x:=upY Z) (s:=(⟨B1,m1,e1⟩,⟨B2,m2,e2⟩)) oyr hW) hW.size));clear oyr;have aQ:=Di w5;go_wp2;refine Bz Bm Bm ?_;repeat (go_big_quiet_step ((go_at_call 193;rename_i x;exact Fg (CH.out x.1 x.2))))
   refine wpQuiet_nil ?_;rintro w6 ⟨⟨_,b6⟩,rfl⟩;clear aQ CH;clear OB_;clear TQ_0 TQ_l;replace OB:=OB.below b6;replace RES:=RES.below b6;replace TQ:=TQ.below b6;replace l1:=(b6.cell (p:=⟨gl,_,Ab⟩) cG).trans l1;replace l2:=(b6.cell (p:=⟨gl,_,Ab⟩) cG).trans l2;replace l3:=(b6.cell (p:=⟨gl,_,Ab⟩) cG).trans l3;replace cG:=Ai cG b6.size;replace oy:Bv.ow _ F (upY Z) (⟨B1,m1,e1⟩,⟨B2,m2,e2⟩):=owB oy b6;replace ol:=Bq (ol.out.below b6);replace hb:=Bu hb b6;have CA2:=Bq (fun W (hW:Below w6 w6 W)=>CA.out W (Bu b6 hW));clear CA b6;by_cases q:(Cv (Ha Z k) t).state=3;case neg =>
    rw [Ci (show ¬ Gh (upY Z) rid t tr from fun h=>q (pM.out.1 h))];have bK:=Bq (show Gi Z k t=Z from Ln q);clear q pM;go_wp2;exact ⟨⟨i+1,Z,F,Bl,by go_num,⟨hT.out.1.mono Bl,hT.out.2⟩,aE.out.trans bK.out,oy,hF,ol,OB,RES,hb⟩,by simp [intOf];omega⟩
   rw [Dp (show Gh (upY Z) rid t tr from pM.out.2 q)];have aP:Hid (Is Z.runs[k] t):=⟨fT.1,⟨Bl,Bl⟩,by rw [Ao,<-Ex eE];exact q⟩
   have bK:=Bq (show Gi Z k t=Gd Z k (Dn Z.runs[k] t) by rw [Ku q,Ex eE]);clear q pM;have CA:=CA2.out _ (Br _ _).drew;rw [show Dk (upY Z) rid=k from gJ.out] at CA;have CA:=Bq CA;have OB_:=OB.g4;obtain ⟨TQ_0,TQ_l⟩:=TQ.g1;go_upto_region 11 with fail
   refine Go.wp_region_noPanic ?_;refine wp_region_held_drew (S:=(fun w'=>w'.cell? ⟨tq,0,Ab⟩=Ac (Aa (Ac ⟨gl,pl,Ab⟩) 3 cl)/\w'.cell? ⟨gl,pl,Ab⟩=Ac (J U rid))) Bm ⟨TQ_0,l1⟩ (fun hHeld=>?_);refine tV 1 ?_
   (try simp only [pS])
   refine tV 2 ?_
   (try simp only [pS])
   refine tV 3 ?_
   (try simp only [pS])
   refine tV 5 ?_
   (try simp only [pS])
   clear OB_;clear TQ_0 TQ_l;have bd:Below w6 w6 w6.drew:=(Br _ _).drew;replace OB:=OB.below bd;replace RES:=RES.below bd;replace TQ:=TQ.below bd;replace l2:=(bd.cell (p:=⟨gl,_,Ab⟩) cG).trans l2;replace cG:gl<w6.drew:=cG;replace oy:Bv.ow _ F (upY Z) (⟨B1,m1,e1⟩,⟨B2,m2,e2⟩):=owB oy bd;replace ol:=Bq (ol.out.below bd);replace hb:=Bu hb bd;clear bd l1 l3 CA2;generalize w6.drew=w6 at *
   have OB_:=OB.g4;refine rC 0 (fun K_ hK=>?_);go_simp;refine hK.out _ _ hHeld (fun hHeld=>?_);clear hK K_
   (try simp only [pS])
   have hTq:=TQ.lt;refine rC 4 (fun K_ hK=>?_);go_simp;refine CA.out.mono ?_;rintro e5 wa ⟨rfl,ba⟩;clear OB_;replace OB:=OB.below ba;replace RES:=RES.below ba;replace TQ:=TQ.below ba;replace l2:=(ba.cell (p:=⟨gl,_,Ab⟩) cG).trans l2;have uL:=(ba.cell (p:=⟨tq,_,Ab⟩) hTq).trans hHeld.1;have uJ:=(ba.cell (p:=⟨gl,_,Ab⟩) cG).trans hHeld.2;replace cG:=Ai cG ba.size;replace oy:Bv.ow _ F (upY Z) (⟨B1,m1,e1⟩,⟨B2,m2,e2⟩):=owB oy ba;replace ol:=Bq (ol.out.below ba);replace hb:=Bu hb ba;clear ba CA;refine hK.out _ _ ⟨uL,uJ⟩ (fun hHeld=>?_);clear hK K_ uL uJ
   (try simp only [pS])
   have rH:=TQ.lt;have CH:=Bq (J8 194 tq (Nk func194 Bm Bm) (upY Z) ob (⟨B1,m1,e1⟩,⟨B2,m2,e2⟩) F k (Dn Z.runs[k] t) wa hT.out.1.four (fun s hs=>by have:=hT.out.1.all s hs;omega) (by have:=hT.out.1.seq;show 0<=Z.seq/\Z.seq<=_;omega) eE (by rw [Ic];have:=D7 aP.out.1;omega) (by have:=D7 aP.out.1;show Z.runs[k].tasks.length<=_;omega) OB oy hF.out.2.1
    (Bq fun W gr o n c rs G1 Fx G2 sr hW hFo=>Afr gr o n c rs k G1 Fx G2 Z.runs[k] sr t tq gl pl cl W ((TQ.below hW).cell 0 _ rfl) (TQ.below hW).lt ((hW.cell (p:=⟨gl,_,Ab⟩) cG).trans l2) (Ai cG hW.size) aP.out hFo))
   rw [Agg,<-bK.out] at CH;refine rC 6 (fun K_ hK=>?_);go_simp;refine CH.out.mono ?_;rintro e6 wb ⟨rfl,F',OB',oy',nF',hc⟩;have bM:=hb.size;have dP:=RES.lt;have hobA:=OB.lt;have cP:∀ x∈ob :: F,w+1<x:=fun x hx=>by
    rcases List.mem_cons.1 hx with rfl | hx
    ·exact hobR
    ·exact hF.out.1 x hx
   have sY:∀ x∈Fl,x∉ob :: F:=fun x hx hx2=>by
    rcases List.mem_cons.1 hx2 with e | hx2
    ·exact (hFln.out x hx).1 e
    ·exact hF.out.2.2 x hx hx2
   have hqn:tq∉ob :: F:=fun hx=>by
    rcases List.mem_cons.1 hx with e | hx
    ·exact hqo e
    ·exact hqF hx
   have uL:=(hc.cell (p:=⟨tq,_,Ab⟩) rH hqn).trans hHeld.1;have uJ:=(hc.cell (p:=⟨gl,_,Ab⟩) cG (sY gl fU)).trans hHeld.2;have sS:=ol.out.lt;replace RES:=RES.chg hc (fun hx=>by have:=cP _ hx;omega);replace hb:=hb.trans (hc.below (base:=w) bM (fun x hx=>by have:=cP x hx;omega));replace ol:=Bq (ol.out.chg hc sY);have rG:Hid ((∀ x∈F',w+1<x)/\ob∉F' /\ ∀ x∈Fl,x∉F'):=⟨fun x hx=>by
    rcases nF' x hx with h | h
    ·exact hF.out.1 x h
    ·omega,fun hx=>by
    rcases nF' _ hx with h | h
    ·exact hF.out.2.1 h
    ·omega,fun x hx hx2=>by
    rcases nF' x hx2 with h | h
    ·exact hF.out.2.2 x hx h
    ·have:=sS x hx;omega⟩
   clear CH OB oy hc nF' cP sY sS TQ l2 hqn;refine hK.out _ _ ⟨uL,uJ⟩ (fun hHeld=>?_);clear hK K_ uL uJ
   (try simp only [pS])
   refine wpAnyH_done Bm ?_ _;refine NoPanic.normal ?_;clear hHeld;generalize Gi Z k t=Z1 at *
   go_wp2;exact ⟨⟨i+1,Z1,F',Bl,by go_num,hN,aE,oy',rG,ol,OB',RES,hb⟩,by simp [intOf];omega⟩
  ·have aB:¬ (i:Int)<(L.length:Int):=Bl;have hZ1:=Bq (show Fe y L=Z by have:=hZ.out;rw [Bg Bl] at this;exact this);have H3:=Bq (show I6 y=upY Z by rw [H2.out,hZ1.out]);have OB_:=OB.g4;have RES_:=RES.g4;have rf:=RES.free;go_wp2;have en1:w.heap.size+1∉F:=fun hx=>by have:=hF.out.1 _ hx;omega
   refine Aj (Ry (DBox.row4 RES rfl _ _ _ _)) rfl ⟨(⟨B1,m1,e1⟩,⟨B2,m2,e2⟩),F,by rw [H.out,H3.out],by rw [H3.out];exact Bv.set4 (F:=F) (x:=upY Z) (s:=(⟨B1,m1,e1⟩,⟨B2,m2,e2⟩)) oy en1,fun x hx=>by have:=hF.out.1 x hx;omega,?_⟩;repeat (first | (with_reducible exact hb) | refine Ad ?_ Bo _)
theorem Q7 {b:Nat} {w:World} {u0 u1 u2 u3:Value} (X:DBox b [u0,u1,u2,u3] w) {v0 v1:Value} {rest:List Value} :
  (results Tryz.f118 (v0 :: v1 :: .pointer (Ac ⟨b,0,Ab⟩) :: rest).toArray).run Am w = .ok (.agg #[u0,u1,u2,u3]) w:=by
 obtain ⟨c0,c1,c2,c3,-⟩:=X.g4;simp [results,results118,go_sem,c0,c1,c2,c3]
theorem Zu (gr o n c:Nat) (rs:List (Run×Ce.S)) (k:Nat) (G1 Fx G2:List Nat) (r:Run) (s:Sl×Sl) (u p:Nat) (w:World) (hp:w.cell? ⟨p,0,Ab⟩=Ac (J U u)) (hp':p<w) (hR:Is r u) (hF:Foc Ce w gr o n c rs k G1 Fx G2 r s) :
  Calls Am 199 #[.pointer (Ac ⟨gr,o+k * 8,Ab⟩),.pointer (Ac ⟨p,0,Ab⟩)] w (Ie gr o n c rs k G1 Fx G2 (Dn r u) s w):=by
 have C:=Bq (Mq gr o n c rs k G1 Fx G2 r s u w (by have:=D7 hR.1;omega) hR hF);go_enter func199,ntmps199;go_wp2_with fail
 refine C.out.mono ?_;rintro e w1 ⟨rfl,h1,h2⟩;have HF:=Bq (show Ie gr o n c rs k G1 Fx G2 (Dn r u) s w (.returned (.tuple #[])) w1 from ⟨rfl,h1,h2⟩);clear h1 h2 C;go_wp2;exact Aj (v:=.tuple #[]) (by simp [results,results199,go_sem]) rfl HF.out
theorem Tm (y:Yard) (s:Sl×Sl) (w:World) (hl:Ca y<=2000000) (h:Bv.rd w w y s) :
  Calls Am 118 #[Dm y s] w (Df Bv Dm (L9 y) w):=by
 have HR:=Bq (show ∀ W,Below w w W->Bv.rd W W y s from fun W hW=>Bv.rd_more (Bv.rd_below h hW) hW.size);obtain ⟨⟨A1,n1,c1⟩,⟨A2,n2,c2⟩⟩:=s;have CC:=Bq (fun W hW=>Ev y (⟨A1,n1,c1⟩,⟨A2,n2,c2⟩) W hl (HR.out W hW));have CY:=Bq (fun W hW=>Fw y (⟨A1,n1,c1⟩,⟨A2,n2,c2⟩) W hl (HR.out W hW));clear h;obtain ⟨W,aH,X,RES,B0⟩:=bx2 w 27 [J U y.now,J U y.seq,Aa A1 n1 c1,Aa A2 n2 c2] 27 [J U 0,J U 0,Aa Ab 0 0,Aa Ab 0 0];go_enter func118,ntmps118;go_wp2_with fail
 rw [<-aH.out];clear aH;refine (CC.out _ B0).mono ?_;rintro e1 w1 ⟨⟨⟨B1,m1,e1⟩,⟨B2,m2,e2⟩⟩,F,rfl,oy,nF,b1⟩;have dP:=RES.lt;have b2:Below w1 w1 (w1.alloc (.cells #[J U y.now,J U y.seq,Aa B1 m1 e1,Aa B2 m2 e2] 27)):=Bt;have OB:DBox w1 (Gv y (⟨B1,m1,e1⟩,⟨B2,m2,e2⟩)) _:=DBox.new 27 [J U y.now,J U y.seq,Aa B1 m1 e1,Aa B2 m2 e2] w1 (b:=w1) rfl;have bV:=Bq (Bv.ow_lt (F:=F) (x:=y) (s:=(⟨B1,m1,e1⟩,⟨B2,m2,e2⟩)) oy);have cZ:=Bq (show ∀ x∈F,w.heap.size+1<x from fun x hx=>by have:=nF x hx;omega);replace oy:Bv.ow _ F y (⟨B1,m1,e1⟩,⟨B2,m2,e2⟩):=owB oy b2;have b12:=Bu b1 b2;replace X:=X.below b12;replace RES:=RES.below b12;replace B0:=Bu B0 b12;have bS:=b1.size;clear b1 b2 b12 CC nF;go_upto_region 2 with fail
 have cW:w1.heap.size∉F:=fun h=>by have:=bV.out _ h;omega
 have hobR:w.heap.size+1<w1.heap.size:=Bl;generalize w1.heap.size=ob at *
 generalize w1.alloc (.cells #[J U y.now,J U y.seq,Aa B1 m1 e1,Aa B2 m2 e2] 27)=w2 at *
 have X_:=X.g4;go_wp2_with fail
 refine (CY.out _ B0).mono ?_;rintro e1' w3 ⟨rfl,b3⟩;clear X_;replace X:=X.below b3;replace RES:=RES.below b3;replace OB:=OB.below b3;replace B0:=Bu B0 b3;replace oy:Bv.ow w3 F y (⟨B1,m1,e1⟩,⟨B2,m2,e2⟩):=owB oy b3;clear b3 CY bV;by_cases p0:Dh y;case neg =>
  rw [Ci p0];have H2:=Bq (show L9 y=y from if_neg p0);clear p0;have RES_:=RES.g4;have OB_:=OB.g4;have rf:=RES.free;go_wp2;have en1:w.heap.size+1∉F:=fun hx=>by have:=cZ.out _ hx;omega
  refine Aj (Q7 (DBox.row4 RES rfl _ _ _ _)) rfl ⟨(⟨B1,m1,e1⟩,⟨B2,m2,e2⟩),F,by rw [H2.out],by rw [H2.out];exact Bv.set4 (F:=F) (x:=y) (s:=(⟨B1,m1,e1⟩,⟨B2,m2,e2⟩)) oy en1,fun x hx=>by have:=cZ.out x hx;omega,?_⟩;repeat (first | (with_reducible exact B0) | refine Ad ?_ Bo _)
 rw [Dp p0];have P0:=Bq p0;have H2:=Bq (show L9 y=Fe y (Hx y y.runs.length) from if_pos p0);clear p0;obtain rfl:n2=y.runs.length:=RdL.at1 (s:=⟨A2,n2,c2⟩) (HR.out w (Br _ _)).2;have CX:=Bq (fun W (hW:Below w w W)=>show RdL Ce W W.heap.size (Aa A2 y.runs.length c2) y.runs from (HR.out W hW).2);clear HR;have rE:y.runs.length<=8:=P0.out.2.2.2.2.2.2.1;have gB:Hid ((∀ x∈F,w+1<x)/\ob∉F):=⟨cZ.out,cW⟩
 clear cZ cW;have X_:=X.g4;go_wp2;clear X_;go_loopw [17] (fun iv wr=>∃ (k:Nat) (Z:Yard) (F:List Nat),k<=y.runs.length/\iv = J U k/\Hid (Trn y (12 * k) Z/\SameTry y Z)/\Hid (Fe y (Hx y k)=Z)/\Hid (Bv.ow wr F Z (⟨B1,m1,e1⟩,⟨B2,m2,e2⟩))/\Hid ((∀ x∈F,w+1<x)/\ob∉F)/\DBox ob (Gv Z (⟨B1,m1,e1⟩,⟨B2,m2,e2⟩)) wr/\DBox (w+1) [J U 0,J U 0,Aa Ab 0 0,Aa Ab 0 0] wr/\Below w w wr) (fun i _=>y.runs.length - (intOf i).toNat);case atStart=>exact ⟨0,y,F,Ag _,rfl,⟨Trn.start P0.out,fun _ _=>rfl⟩,rfl,oy,gB,OB,RES,B0⟩
 case round =>
  clear oy gB OB RES B0 X;obtain ⟨k,Z,F,hk,rfl,hT,hZ,oy,hF,OB,RES,hb⟩:=hrel;by_cases aA:k<y.runs.length
  ·have aB:(k:Int)<(y.runs.length:Int):=Bl;have cL:(0:Int)<=(k:Int):=Bl;obtain ⟨b,o,⟨⟨A8,n8,c8⟩,⟨At,nt,ct⟩⟩,rfl,aK,cM,e0,e1_,e2_,e3,e4,e5,e6,e7⟩:=(CX.out w (Br _ _)).run aA;obtain rfl:nt=y.runs[k].tasks.length:=RdL.at1 (s:=⟨At,nt,ct⟩) cM.2;have HT:=Bq (fun W (hW:Below w w W)=>show RdL C7 W w.heap.size (Aa At y.runs[k].tasks.length ct) y.runs[k].tasks from RdL.below cM.2 hW);clear cM;replace e0:=(hb.cell (p:=⟨b,_,Ab⟩) aK).trans e0;replace e1_:=(hb.cell (p:=⟨b,_,Ab⟩) aK).trans e1_;replace e2_:=(hb.cell (p:=⟨b,_,Ab⟩) aK).trans e2_;replace e3:=(hb.cell (p:=⟨b,_,Ab⟩) aK).trans e3;replace e4:=(hb.cell (p:=⟨b,_,Ab⟩) aK).trans e4;replace e5:=(hb.cell (p:=⟨b,_,Ab⟩) aK).trans e5;replace e6:=(hb.cell (p:=⟨b,_,Ab⟩) aK).trans e6;replace e7:=(hb.cell (p:=⟨b,_,Ab⟩) aK).trans e7;have bW:b<wr:=Ai aK hb.size;have R:=DBox.new 167 [J U y.runs[k].id,J U y.runs[k].plan.prio,J U y.runs[k].plan.most,J U y.runs[k].plan.wait,J U y.runs[k].plan.tasks,Aa A8 n8 c8,J U y.runs[k].state,Aa At y.runs[k].tasks.length ct] wr (b:=wr) rfl;have ha:Below wr wr (wr.alloc (.cells #[J U y.runs[k].id,J U y.runs[k].plan.prio,J U y.runs[k].plan.most,J U y.runs[k].plan.wait,J U y.runs[k].plan.tasks,Aa A8 n8 c8,J U y.runs[k].state,Aa At y.runs[k].tasks.length ct] 167)):=Bt;go_upto_region 7 with fail
   have hobr:=OB.lt;have hrF:wr.heap.size∉F:=fun hx=>by have:=Bv.ow_lt (F:=F) (x:=Z) (s:=(⟨B1,m1,e1⟩,⟨B2,m2,e2⟩)) oy.out _ hx;omega
   replace OB:=OB.below ha;replace RES:=RES.below ha;replace oy:Hid (Bv.ow _ F Z (⟨B1,m1,e1⟩,⟨B2,m2,e2⟩)):=Bq (Bv.ow_below (F:=F) (x:=Z) (s:=(⟨B1,m1,e1⟩,⟨B2,m2,e2⟩)) oy.out ha);replace hb:=Bu hb ha;clear e0 e1_ e2_ e3 e4 e5 e6 e7 aK ha bW;have hrbn:wr≠ob:=Bl;generalize wr.alloc (.cells #[J U y.runs[k].id,J U y.runs[k].plan.prio,J U y.runs[k].plan.most,J U y.runs[k].plan.wait,J U y.runs[k].plan.tasks,Aa A8 n8 c8,J U y.runs[k].state,Aa At y.runs[k].tasks.length ct] 167)=w1 at *
   generalize wr.heap.size=rb at *
   have R_:=R.g8;go_wp2;clear R_;have qZ:Hid ((∀ x∈F,w+1<x)/\ob∉F/\rb∉F):=⟨hF.out.1,hF.out.2,hrF⟩
   go_loopw [25] (fun iv wr=>∃ (t:Nat) (Z:Yard) (F:List Nat),t<=y.runs[k].tasks.length/\iv = J U t/\Hid (Trn y (12 * k+t) Z/\SameTry y Z)/\Hid (Fe y (Hx y k ++ Jn k t)=Z)/\Hid (Bv.ow wr F Z (⟨B1,m1,e1⟩,⟨B2,m2,e2⟩))/\Hid ((∀ x∈F,w+1<x)/\ob∉F/\rb∉F)/\DBox ob (Gv Z (⟨B1,m1,e1⟩,⟨B2,m2,e2⟩)) wr/\DBox (w+1) [J U 0,J U 0,Aa Ab 0 0,Aa Ab 0 0] wr/\DBox rb [J U y.runs[k].id,J U y.runs[k].plan.prio,J U y.runs[k].plan.most,J U y.runs[k].plan.wait,J U y.runs[k].plan.tasks,Aa A8 n8 c8,J U y.runs[k].state,Aa At y.runs[k].tasks.length ct] wr/\Below w w wr) (fun i _=>y.runs[k].tasks.length - (intOf i).toNat);case atStart=>exact ⟨0,Z,F,Ag _,rfl,hT,by rw [show Jn k 0=[] from rfl,List.append_nil];exact hZ,oy,qZ,OB,RES,R,hb⟩
   case round =>
    clear oy hF OB RES R hb qZ hrF hT hZ;obtain ⟨t,Z,F,ht,rfl,hT,hZ,oy,hF,OB,RES,R,hb⟩:=hrel;replace oy:Bv.ow wr F Z (⟨B1,m1,e1⟩,⟨B2,m2,e2⟩):=oy.out;have fI:=(D7 (Eo P0.out aA)).2;by_cases fF:t<y.runs[k].tasks.length
    ·have nI:(t:Int)<(y.runs[k].tasks.length:Int):=Bl;have uV:(0:Int)<=(t:Int):=Bl;obtain ⟨b',o',_,rfl,bI,_,d0,d1,d2,d3⟩:=(HT.out wr hb).task fF;have aE:Hid (Fe y (Hx y k ++ Jn k (t+1))=Gi Z k t):=by
      show Fe y _=_;rw [<-hZ.out,Sm,<-List.append_assoc];unfold Fe;rw [List.foldl_append];rfl
     have eE:k<Z.runs.length:=by rw [hT.out.1.len];exact aA
     have fT:=hT.out.1.run k eE aA;have kA:t<Z.runs[k].tasks.length:=by rw [fT.2.2];exact fF
     have gJ:=Bq (show Dk Z y.runs[k].id=k from (hT.out.1.runAt _).trans (P0.out.2.2.2.2.2.2.2.1 k aA).2);have pW:=hT.out.1.cnt Bl;have hN:=Bq (show Trn y (12 * k+(t+1)) (Gi Z k t)/\SameTry y (Gi Z k t) from ⟨hT.out.1.fail eE kA,hT.out.2.fail eE t⟩);have pM:=Bq (V3 hT.out.1 hT.out.2 eE kA gJ.out);rw [Ex aA,Cu fF] at pM;have gD:=OB.lt;have hRw:=R.lt;have sY:=Bv.ow_lt (F:=F) (x:=Z) (s:=(⟨B1,m1,e1⟩,⟨B2,m2,e2⟩)) oy;generalize y.runs[k].tasks[t]=x at *
     have IB:=(DBox.new 3 [J U t] wr (b:=wr) rfl).below ((Br _ _).alloc (Bs _) (.cells #[J U x.state,J U x.need,J U x.try_,J U x.until_] 217));have TB:=DBox.new 217 [J U x.state,J U x.need,J U x.try_,J U x.until_] (wr.alloc (.cells #[J U t] 3)) (b:=wr+1) Bn;have bq:Below wr wr ((wr.alloc (.cells #[J U t] 3)).alloc (.cells #[J U x.state,J U x.need,J U x.try_,J U x.until_] 217)):=by repeat (first | exact Br _ _ | refine Below.alloc ?_ Bo _)
     go_upto_region 10 with fail
     replace OB:=OB.below bq;replace RES:=RES.below bq;replace R:=R.below bq;replace oy:Bv.ow _ F Z (⟨B1,m1,e1⟩,⟨B2,m2,e2⟩):=owB oy bq;replace hb:=Bu hb bq;clear bq d0 d1 d2 d3;have hiF:wr.heap.size∉ob :: F:=fun hx=>by
      rcases List.mem_cons.1 hx with e | hx
      ·omega
      ·have:=sY _ hx;omega
     clear sY;generalize (wr.alloc (.cells #[J U t] 3)).alloc (.cells #[J U x.state,J U x.need,J U x.try_,J U x.until_] 217)=w5 at *
     generalize wr.heap.size=iq at *
     have CH:=Bq (fun W (hW:Below w5 w5 W)=>Mn Z (⟨B1,m1,e1⟩,⟨B2,m2,e2⟩) y.runs[k].id t x.try_ W pW (Bv.rd_more (Bv.rd_below (x:=Z) (s:=(⟨B1,m1,e1⟩,⟨B2,m2,e2⟩)) (Bv.ow_rd (F:=F) (x:=Z) (s:=(⟨B1,m1,e1⟩,⟨B2,m2,e2⟩)) oy) hW) hW.size));have OB_:=OB.g4;have R_:=R.g8;have TB_:=TB.g4;obtain ⟨IB_0,IB_l⟩:=IB.g1;go_wp2_with fail
     refine (CH.out _ (Br _ _)).mono ?_;rintro e5 w6 ⟨rfl,b6⟩;clear CH;clear OB_;clear R_;clear TB_;clear IB_0 IB_l;replace OB:=OB.below b6;replace RES:=RES.below b6;replace R:=R.below b6;replace IB:=IB.below b6;clear TB;replace oy:Bv.ow _ F Z (⟨B1,m1,e1⟩,⟨B2,m2,e2⟩):=owB oy b6;replace hb:=Bu hb b6;clear b6;by_cases q:(Cv (Ha Z k) t).state=3;case neg =>
      rw [Ci (show ¬ Gh Z y.runs[k].id t x.try_ from fun h=>q (pM.out.1 h))];have bK:=Bq (show Gi Z k t=Z from Ln q);clear q pM;go_wp2;exact ⟨⟨t+1,Z,F,Bl,by go_num,⟨hT.out.1.mono Bl,hT.out.2⟩,aE.out.trans bK.out,oy,hF,OB,RES,R,hb⟩,by simp [intOf];omega⟩
     rw [Dp (show Gh Z y.runs[k].id t x.try_ from pM.out.2 q)];have aP:Hid (Is Z.runs[k] t):=⟨fT.1,⟨Bl,Bl⟩,by rw [Ao,<-Ex eE];exact q⟩
     have bK:=Bq (show Gi Z k t=Gd Z k (Dn Z.runs[k] t) by rw [Ku q,Ex eE]);clear q pM;have CH:=Bq (J8 199 iq (Nk func199 Bm Bm) Z ob (⟨B1,m1,e1⟩,⟨B2,m2,e2⟩) F k (Dn Z.runs[k] t) w6 hT.out.1.four (fun s hs=>by have:=hT.out.1.all s hs;omega) (by have:=hT.out.1.seq;omega) eE (by rw [Ic];have:=D7 aP.out.1;omega) (by have:=D7 aP.out.1;omega) OB oy hF.out.2.1
      (Bq fun W gr o n c rs G1 Fx G2 sr hW hFo=>Zu gr o n c rs k G1 Fx G2 Z.runs[k] sr t iq W ((IB.below hW).cell 0 _ rfl) (IB.below hW).lt aP.out hFo))
     rw [<-bK.out] at CH;go_wp2_with fail
     refine CH.out.mono ?_;rintro e6 wb ⟨rfl,F',OB',oy',nF',hc⟩;have bM:=hb.size;have dP:=RES.lt;have hobA:=OB.lt;have hrbA:=R.lt;have cP:∀ x∈ob :: F,w+1<x:=fun x hx=>by
      rcases List.mem_cons.1 hx with rfl | hx
      ·exact hobR
      ·exact hF.out.1 x hx
     have hrn2:rb∉ob :: F:=fun hx=>by
      rcases List.mem_cons.1 hx with e | hx
      ·exact hrbn e
      ·exact hF.out.2.2 hx
     replace RES:=RES.chg hc (fun hx=>by have:=cP _ hx;omega);replace R:=R.chg hc hrn2;replace hb:=hb.trans (hc.below (base:=w) bM (fun x hx=>by have:=cP x hx;omega));have rG:Hid ((∀ x∈F',w+1<x)/\ob∉F'/\rb∉F'):=⟨fun x hx=>by
      rcases nF' x hx with h | h
      ·exact hF.out.1 x h
      ·omega,fun hx=>by
      rcases nF' _ hx with h | h
      ·exact hF.out.2.1 h
      ·omega,fun hx=>by
      rcases nF' _ hx with h | h
      ·exact hF.out.2.2 h
      ·omega⟩
     clear CH OB oy hc nF' cP hrn2 IB;generalize Gi Z k t=Z1 at *
     go_wp2;exact ⟨⟨t+1,Z1,F',Bl,by go_num,hN,aE,oy',rG,OB',RES,R,hb⟩,by simp [intOf];omega⟩
    ·have nI:¬ (t:Int)<(y.runs[k].tasks.length:Int):=Bl;have hZ3:=Bq (show Fe y (Hx y (k+1))=Z by rw [Ok,Ex aA,show y.runs[k].tasks.length=t by omega];exact hZ.out);go_wp2;exact ⟨⟨k+1,Z,F,Bl,by go_num,⟨hT.out.1.mono Bl,hT.out.2⟩,hZ3,oy,⟨hF.out.1,hF.out.2.1⟩,OB,RES,hb⟩,by simp [intOf];omega⟩
  ·have aB:¬ (k:Int)<(y.runs.length:Int):=Bl;have H3:=Bq (show L9 y=Z by rw [H2.out,<-hZ.out,show k=y.runs.length by omega]);have oy:=oy.out;have OB_:=OB.g4;have RES_:=RES.g4;have rf:=RES.free;go_wp2;have en1:w.heap.size+1∉F:=fun hx=>by have:=hF.out.1 _ hx;omega
   refine Aj (Q7 (DBox.row4 RES rfl _ _ _ _)) rfl ⟨(⟨B1,m1,e1⟩,⟨B2,m2,e2⟩),F,by rw [H3.out],by rw [H3.out];exact Bv.set4 (F:=F) (x:=Z) (s:=(⟨B1,m1,e1⟩,⟨B2,m2,e2⟩)) oy en1,fun x hx=>by have:=hF.out.1 x hx;omega,?_⟩;repeat (first | (with_reducible exact hb) | refine Ad ?_ Bo _)
theorem I9 (r:Run):Cn r=r.plan.edges.length+r.tasks.length:=by
 have e1:Ed r.plan=r.plan.edges.length:=Ge (fun _=>rfl) _;have e2:D8 Dz r.tasks=r.tasks.length:=Ge (fun _=>rfl) _;unfold Cn;omega
theorem Ma {y:Yard} {M:Nat} (h4:y.shelf.length=4) (hM:∀ s∈y.shelf,s.length<=M) (h8:y.runs.length<=8) (hr:∀ r∈y.runs,Cn r<=42):Ca y<=4 * (M+1)+344:=by
 have h1:D8 Cl y.shelf<=y.shelf.length * (M+1):=Q1 (fun s hs=>by
  have e:Cl s=s.length:=Ge (fun _=>rfl) _;rw [e];exact hM s hs)
 have h2:D8 Cn y.runs<=y.runs.length * (42+1):=Q1 hr;rw [h4] at h1;have h3:y.runs.length * (42+1)<=8 * 43:=Nat.mul_le_mul_right _ h8;unfold Ca;omega
theorem Ff {y:Yard} (h:Dh y):∀ r∈y.runs,Cn r<=42:=fun r hr=>by
 obtain ⟨k,hk,rfl⟩:=List.getElem_of_mem hr
 exact Kr (Eo h hk)
theorem Ab4 {y:Yard} {k:Nat} {r:Run} (hy:Dh y) (hk:k<y.runs.length) (hc:Cn r<=42) (hT:r.tasks.length<=12):Ca (Gd y k r)<=2000000:=by
 rw [Xw _ _ _ hk];have hF:=Qb (y:=⟨y.now,y.seq,y.shelf,y.runs.set k r⟩) (was:=y.runs[k]) (r:=r) (M:=80) (fun s hs=>(hy.2.2.2.1 s hs).1) r.tasks.length
 have:=Ma (M:=92) (hF.len.trans hy.2.2.1) (fun s hs=>by have:=hF.all s hs;omega) (by rw [hF.runs];simp;exact hy.2.2.2.2.2.2.1) (fun x hx=>by
  rw [hF.runs] at hx;rcases List.mem_or_eq_of_mem_set hx with h | h
  ·exact Ff hy x h
  ·rw [h];exact hc)
 omega
theorem Trn.folds {y:Yard} (hy:Dh y):∀ (l:List (Nat×Nat)) (z:Yard) (m:Nat),Trn y m z->(∀ p∈l,p.1<y.runs.length/\p.2<(Ha y p.1).tasks.length)->Trn y (m+l.length) (Fe z l)
 | [],z,m,h,_=>h
 | p :: l,z,m,h,hl=>by
  have hp:=hl p (List.mem_cons_self ..);have hk:p.1<z.runs.length:=by rw [h.len];exact hp.1
  have h1:=h.fail hk (t:=p.2) (by rw [(h.run p.1 hk hp.1).2.2,<-Ex hp.1];exact hp.2);have h2:=Trn.folds hy l (Gi z p.1 p.2) (m+1) h1 (fun q hq=>hl q (List.mem_cons_of_mem _ hq));rw [List.length_cons,show m+(l.length+1)=m+1+l.length by omega];exact h2
theorem Ady {y:Yard} {n:Nat} {p:Nat×Nat} (h:p∈Hx y n):p.1<n/\p.2<(Ha y p.1).tasks.length:=by
 unfold Hx at h;obtain ⟨j,hj,hp⟩:=List.mem_flatMap.1 h;unfold Jn at hp;obtain ⟨t,ht,rfl⟩:=List.mem_map.1 hp;exact ⟨List.mem_range.1 hj,List.mem_range.1 ht⟩
theorem V6 {y:Yard} (h:∀ j,(Ha y j).tasks.length<=12):∀ k,(Hx y k).length<=12 * k
 | 0=>by simp [Hx]
 | k+1=>by
  rw [Ok,List.length_append];have h1:=V6 h k;have h3:=h k;have h2:(Jn k (Ha y k).tasks.length).length=(Ha y k).tasks.length:=by unfold Jn;simp
  omega
theorem Agh {y:Yard} {id tk tr:Int} (q:Gn y id tk tr=0):Dh y /\ ∃ k,∃ hk:k<y.runs.length,Dk y id=(k:Int)/\Kh y id=y.runs[k]:=by
 unfold Gn at q;by_cases p0:Dh y
 ·by_cases p1:Dk y id<0
  ·rw [if_neg (fun h=>h p0),if_pos p1] at q;cases q
  ·rcases Ez y id with hr | ⟨k,hk,hr⟩
   ·omega
   ·exact ⟨p0,k,hk,hr,Gy hk hr⟩
 ·rw [if_pos p0] at q;cases q
theorem Agy {y:Yard} {d:Deed} (h:Ca y<=2000000):Ca (doO y d).1<=2000000:=by
 unfold doO;split
 ·exact h
 split
 ·show Ca (Jf y d.run d.plan)<=_;unfold Jf;split
  ·next q =>
   unfold Je at q;by_cases p0:Dh y
   ·rw [if_neg (fun h=>h p0)] at q;split at q
    ·cases q
    split at q
    ·cases q
    split at q
    ·next hf=>exact absurd q hf
    next hf =>
    split at q
    ·cases q
    next hr =>
    have hf0:Cs d.plan=0:=Classical.not_not.1 hf;have hm:=Dj.1 hf0;have hT:=Eh hm.1;have hE:=Fh hm.1;have cS:=P8 d.run d.plan;have rE:y.runs.length<8:=by
     have gH:Mf y d.plan=true:=by cases e:Mf y d.plan<;>simp_all
     unfold Mf at gH;simp only [Bool.and_eq_true,decide_eq_true_eq] at gH;exact gH.1
    have hF:=Qb (y:=⟨y.now,y.seq,y.shelf,y.runs ++ [Ck d.run d.plan]⟩) (was:=G4) (r:=Ck d.run d.plan) (M:=80) (fun s hs=>(p0.2.2.2.1 s hs).1) (Ck d.run d.plan).tasks.length
    have:=Ma (y:=Nj ⟨y.now,y.seq,y.shelf,y.runs ++ [Ck d.run d.plan]⟩ G4 (Ck d.run d.plan)) (M:=92) (hF.len.trans p0.2.2.1) (fun s hs=>by have:=hF.all s hs;omega) (by
     show (Ii _ _ _ _).runs.length<=8;rw [hF.runs];simp;omega) (fun x hx=>by
     have dV:x∈(Ii ⟨y.now,y.seq,y.shelf,y.runs ++ [Ck d.run d.plan]⟩ G4 (Ck d.run d.plan) (Ck d.run d.plan).tasks.length).runs:=hx;rw [hF.runs] at dV;rcases Bi.1 dV with h1 | h1
     ·exact Ff p0 x h1
     ·rw [List.mem_singleton.1 h1,I9];show d.plan.edges.length+_<=42;omega)
    omega
   ·rw [if_pos p0] at q;cases q
  ·exact h
 ·show Ca (I5 y d.worker d.draw).1<=_;unfold I5;by_cases p0:Dh y;case neg=>rw [if_pos p0];exact h
  rw [if_neg (fun h=>h p0)];split
  ·exact h
  ·next hw =>
   have pE:=Cw.1 (show inB d.worker 0 99=true by cases e:inB d.worker 0 99<;>simp_all);have hh:(d.worker % 4).toNat<4:=Bl;have hP:Pol y (d.worker % 4).toNat (Lz y (d.worker % 4) d.draw):=by
    unfold Lz;refine Pol.fold hh _ _ (Pol.start p0 hh) (fun v hv=>⟨Qd v hv,Qe Bl Bl v hv⟩)
   have hc:=hP.cnt p0;unfold N1 Sk;split
   ·exact hc
   ·next e rest eS =>
    have h80:∀ s∈(Lz y (d.worker % 4) d.draw).shelf.set (d.worker % 4).toNat rest,s.length<=80:=fun s hs=>by
     rcases List.mem_or_eq_of_mem_set hs with h1 | h1
     ·exact hP.all s h1
     ·have h2:=hP.all _ (Aw (show (d.worker % 4).toNat<(Lz y (d.worker % 4) d.draw).shelf.length by rw [hP.four];exact hh));rw [Gu (by rw [hP.four];exact hh)] at eS;rw [eS] at h2;rw [h1];simp at h2;omega
    have:=Ma (y:=⟨(Lz y (d.worker % 4) d.draw).now,(Lz y (d.worker % 4) d.draw).seq,(Lz y (d.worker % 4) d.draw).shelf.set (d.worker % 4).toNat rest,(Lz y (d.worker % 4) d.draw).runs.set (Dk (Lz y (d.worker % 4) d.draw) e.run).toNat (Ee (Kh (Lz y (d.worker % 4) d.draw) e.run) e.task.toNat (Lz y (d.worker % 4) d.draw).now)⟩) (M:=80) (by simpa using hP.four) h80 (by simp;rw [hP.runs];exact p0.2.2.2.2.2.2.1) (fun x hx=>by
     rcases List.mem_or_eq_of_mem_set hx with h1 | h1
     ·rw [hP.runs] at h1;exact Ff p0 x h1
     ·rw [h1,I9,Nq];show (Kh (Lz y (d.worker % 4) d.draw) e.run).plan.edges.length+_<=42;rw [<-I9];unfold Kh;rw [List.getD_eq_getElem?_getD];cases q:(Lz y (d.worker % 4) d.draw).runs[(Dk (Lz y (d.worker % 4) d.draw) e.run).toNat]? with
      | none=>decide
      | some r =>
       have h2:=List.mem_of_getElem? q;rw [hP.runs] at h2;exact Ff p0 r h2)
    dsimp only;omega
 ·show Ca (K3 y d.run d.task d.try_)<=_;unfold K3;split
  ·next q =>
   obtain ⟨p0,k,hk,e1,e2⟩:=Agh q;rw [e1,e2,Ao];have hs:=Ff p0 _ (Aw hk);have hl:=D7 (Eo p0 hk);exact Ab4 p0 hk (by rw [I9,O3];rw [I9] at hs;exact hs) (by rw [O3];exact hl.2)
  ·exact h
 ·show Ca (K2 y d.run d.task d.try_)<=_;unfold K2;split
  ·next q =>
   obtain ⟨p0,k,hk,e1,e2⟩:=Agh q;rw [e1,e2,Ao];have hs:=Ff p0 _ (Aw hk);have hl:=D7 (Eo p0 hk);exact Ab4 p0 hk (by rw [I9,Ic,(Xv _ _).2];rw [I9] at hs;exact hs) (by rw [Ic];exact hl.2)
  ·exact h
 ·show Ca (I6 y)<=_;unfold I6;split
  ·next q =>
   unfold Jj at q;by_cases p0:Dh y
   ·have hT:=Trn.folds p0 (Fk y y.runs.length) y 0 (Trn.start p0) (fun p hp=>Rx hp);have hl:=Lm (M8 p0) y.runs.length;have h8:=p0.2.2.2.2.2.2.1;exact hT.cnt Bl
   ·rw [if_pos p0] at q;cases q
  ·exact h
 ·show Ca (Io y d.run)<=_;unfold Io;split
  ·next q =>
   unfold Im at q;by_cases p0:Dh y
   ·rw [if_neg (fun h=>h p0)] at q;split at q
    ·cases q
    next hr =>
    rcases Ez y d.run with e | ⟨k,hk,e⟩
    ·omega
    ·have eU:=Gy hk e
     have:=Ma (y:=⟨y.now,y.seq,y.shelf,y.runs.set (Dk y d.run).toNat (Dx (Kh y d.run) 4)⟩) (M:=80) p0.2.2.1 (fun s hs=>(p0.2.2.2.1 s hs).1) (by simp;exact p0.2.2.2.2.2.2.1) (fun x hx=>by
      rcases List.mem_or_eq_of_mem_set hx with h1 | h1
      ·exact Ff p0 x h1
      ·have hs:=Ff p0 _ (Aw hk);rw [I9] at hs;rw [h1,eU,I9];show y.runs[k].plan.edges.length+(y.runs[k].tasks.map Dq).length<=42;rw [Ar];exact hs)
     omega
   ·rw [if_pos p0] at q;cases q
  ·exact h
 ·show Ca (Il y d.run)<=_;unfold Il;split
  ·next q =>
   unfold Ik at q;by_cases p0:Dh y
   ·have:=Ma (y:=⟨y.now,y.seq,y.shelf.map (Dg d.run),y.runs.take (Dk y d.run).toNat ++ y.runs.drop ((Dk y d.run).toNat+1)⟩) (M:=80) (by simp;exact p0.2.2.1) (fun s hs=>by
     obtain ⟨l,hl,rfl⟩:=List.mem_map.1 hs;exact Ah (List.length_filter_le _ _) (p0.2.2.2.1 l hl).1) (by have:=p0.2.2.2.2.2.2.1;simp;omega) (fun x hx=>by
     rcases Bi.1 hx with h1 | h1
     ·exact Ff p0 x (List.mem_of_mem_take h1)
     ·exact Ff p0 x (List.mem_of_mem_drop h1))
    omega
   ·rw [if_pos p0] at q;cases q
  ·exact h
 ·show Ca (L9 y)<=_;unfold L9;split
  ·next p0 =>
   have hT:=Trn.folds p0 (Hx y y.runs.length) y 0 (Trn.start p0) (fun p hp=>Ady hp);have hl:=V6 (M8 p0) y.runs.length;have h8:=p0.2.2.2.2.2.2.1;exact hT.cnt Bl
  ·exact h
theorem Zv {b c:Nat} {w:World} {u0 u1 u2 u3 v0 v1 v2 v3:Value} (X:DBox b [u0,u1,u2,u3] w) (Y:DBox c [v0,v1,v2,v3] w) {x0 x1 x2 x3:Value} {rest:List Value} :
  (results Tryz.f58 (x0 :: x1 :: x2 :: x3 :: .pointer (Ac ⟨b,0,Ab⟩) :: .pointer (Ac ⟨c,0,Ab⟩) :: rest).toArray).run Am w = .ok (.tuple #[.agg #[u0,u1,u2,u3],.agg #[v0,v1,v2,v3]]) w:=by
 have c0:=X.cell 0 _ rfl;have c1:=X.cell 1 _ rfl;have c2:=X.cell 2 _ rfl;have c3:=X.cell 3 _ rfl;have d0:=Y.cell 0 _ rfl;have d1:=Y.cell 1 _ rfl;have d2:=Y.cell 2 _ rfl;have d3:=Y.cell 3 _ rfl;simp [results,results58,go_sem,c0,c1,c2,c3,d0,d1,d2,d3]
theorem Adz (y:Yard) (s:Sl×Sl) (d:Deed) (sd:Sl) (w:World) (hl:Ca y<=2000000) (hp:d.plan.edges.length<=2000000) (h:Bv.rd w w y s) (qA:Ec.rd w w d sd) :
  Calls Am 58 #[Dm y s,De d sd] w (Tq (doO y d) w):=by
 obtain ⟨⟨A1,n1,c1⟩,⟨A2,n2,c2⟩⟩:=s;obtain ⟨A3,n3,c3⟩:=sd;have sI:Cd.rd w w d.plan ⟨A3,n3,c3⟩:=qA;obtain rfl:n3=d.plan.edges.length:=RdL.at1 (s:=⟨A3,n3,c3⟩) sI;have HR:=Bq (show ∀ W,Below w w W->Bv.rd W W y (⟨A1,n1,c1⟩,⟨A2,n2,c2⟩) from fun W hW=>Bv.rd_more (Bv.rd_below h hW) hW.size);have HP:=Bq (show ∀ W,Below w w W->Cd.rd W W d.plan ⟨A3,d.plan.edges.length,c3⟩ from fun W hW=>Cd.rd_more (Cd.rd_below sI hW) hW.size);have CD:=Bq (fun W (hW:Below w w W)=>Vj d ⟨A3,d.plan.edges.length,c3⟩ W (by show Ed d.plan<=_;rw [show Ed d.plan=d.plan.edges.length from Ge (fun _=>rfl) _];exact hp) (Ec.rd_more (Ec.rd_below qA hW) hW.size));have CC:=Bq (fun W hW=>Ev y (⟨A1,n1,c1⟩,⟨A2,n2,c2⟩) W hl (HR.out W hW));have CY:=Bq (fun W hW=>Fw y (⟨A1,n1,c1⟩,⟨A2,n2,c2⟩) W hl (HR.out W hW));clear h qA sI;obtain ⟨kd,rn,p,tk,ty,wk,dr⟩:=d;replace hp:p.edges.length<=2000000:=hp;replace HP:Hid (∀ W,Below w w W->Cd.rd W W p ⟨A3,p.edges.length,c3⟩):=HP;obtain ⟨W,aH,X,D,RES,RP,B0⟩:=bx4 w 27 [J U y.now,J U y.seq,Aa A1 n1 c1,Aa A2 n2 c2] 38 [J U kd,J U rn,J U p.prio,J U p.most,J U p.wait,J U p.tasks,Aa A3 p.edges.length c3,J U tk,J U ty,J U wk,J U dr] 27 [J U 0,J U 0,Aa Ab 0 0,Aa Ab 0 0] 40 [J U 0,J U 0,J U 0,J U 0];go_enter func58,ntmps58;go_wp2_with fail
 rw [<-aH.out];clear aH;have hWs:w.heap.size+1+1+1<W.heap.size:=RP.lt;refine (CD.out _ B0).mono ?_;rintro e1 w1 ⟨rfl,b1⟩;replace X:=X.below b1;replace D:=D.below b1;replace RES:=RES.below b1;replace RP:=RP.below b1;have bS:=b1.size;replace B0:=Bu B0 b1;clear b1 CD;have X_:=X.g4;have D_:=D.g11;cases hd:Dl ⟨kd,rn,p,tk,ty,wk,dr⟩;case false =>
  have H:=Bq (show doO y ⟨kd,rn,p,tk,ty,wk,dr⟩=(y,⟨5,0,0,0⟩) from if_pos hd);clear hd;go_wp2_with fail
  refine (CC.out _ B0).mono ?_;rintro e2 w2 ⟨s2,F,rfl,oy,nF,b2⟩;have cB:∀ x∈F,w+1+1+1<x:=fun x hx=>by have h1:=nF x hx;omega
  clear X_;clear D_;clear X D;replace RES:=RES.below b2;replace RP:=RP.below b2;replace B0:=Bu B0 b2;clear nF b2;obtain ⟨RES_0,RES_1,RES_2,RES_3,RES_l⟩:=RES.g4;obtain ⟨RP_0,RP_1,RP_2,RP_3,RP_l⟩:=RP.g4;have rf:=RES.free;have pf:=RP.free;have aC:w.heap.size+1+1+1≠w.heap.size+1+1:=Bl;go_wp2;have RES2:=DBox.row4 RES rfl (J U y.now) (J U y.seq) (Aa s2.1.a s2.1.n s2.1.c) (Aa s2.2.a s2.2.n s2.2.c);have RP2:=DBox.row4 ((((RP.setOther (a:=⟨w+1+1,0,Ab⟩) aC (J U y.now)).setOther (a:=⟨w+1+1,1,Ab⟩) aC (J U y.seq)).setOther (a:=⟨w+1+1,2,Ab⟩) aC (Aa s2.1.a s2.1.n s2.1.c)).setOther (a:=⟨w+1+1,3,Ab⟩) aC (Aa s2.2.a s2.2.n s2.2.c)) rfl (J U 5) (J U 0) (J U 0) (J U 0);have RES3:=((((RES2.setOther (a:=⟨w+1+1+1,0,Ab⟩) aC.symm (J U 5)).setOther (a:=⟨w+1+1+1,1,Ab⟩) aC.symm (J U 0)).setOther (a:=⟨w+1+1+1,2,Ab⟩) aC.symm (J U 0)).setOther (a:=⟨w+1+1+1,3,Ab⟩) aC.symm (J U 0))
  have en1:w.heap.size+1+1∉F:=fun hx=>by have:=cB _ hx;omega
  have en2:w.heap.size+1+1+1∉F:=fun hx=>by have:=cB _ hx;omega
  refine Aj (Zv RES3 RP2) rfl ⟨s2,F,by rw [H.out],by rw [H.out];exact (by (repeat (refine Dt.ow_set Bv ?_ (by first | exact en1 | exact en2) _));exact (show Bv.ow _ F y s2 from oy)),fun x hx=>by have:=cB x hx;omega,?_⟩;repeat (first | (with_reducible exact B0) | refine Ad ?_ Bo _)
 replace hd:=Bq hd;have hkd:=Cw.1 (Sp hd.out);dsimp only at hkd;clear CC;have b2:Below w1 w1 ((w1.alloc (.cells #[J U 0,J U 0,Aa Ab 0 0,Aa Ab 0 0] 27)).alloc (.cells #[J U 0,J U 0,J U 0,J U 0] 40)):=(Bt).alloc Bn _;have OB:=(DBox.new 27 [J U 0,J U 0,Aa Ab 0 0,Aa Ab 0 0] w1 (b:=w1) rfl).below ((Br _ _).alloc (Bs _) (.cells #[J U 0,J U 0,J U 0,J U 0] 40));have RR:=DBox.new 40 [J U 0,J U 0,J U 0,J U 0] (w1.alloc (.cells #[J U 0,J U 0,Aa Ab 0 0,Aa Ab 0 0] 27)) (b:=w1+1) Bn;go_upto_region 5 with fail
 clear X_;clear D_;replace X:=X.below b2;replace D:=D.below b2;replace RES:=RES.below b2;replace RP:=RP.below b2;have nY:w.heap.size+1+1+1<w1.heap.size:=Bl;replace B0:=Bu B0 b2;clear b2;replace OB:DBox w1 [J U 0,J U 0,Aa Ab 0 0,Aa Ab 0 0] ((w1.alloc (.cells #[J U 0,J U 0,Aa Ab 0 0,Aa Ab 0 0] 27)).alloc (.cells #[J U 0,J U 0,J U 0,J U 0] 40)):=OB;replace RR:DBox (w1+1) [J U 0,J U 0,J U 0,J U 0] ((w1.alloc (.cells #[J U 0,J U 0,Aa Ab 0 0,Aa Ab 0 0] 27)).alloc (.cells #[J U 0,J U 0,J U 0,J U 0] 40)):=RR;generalize ((w1.alloc (.cells #[J U 0,J U 0,Aa Ab 0 0,Aa Ab 0 0] 27)).alloc (.cells #[J U 0,J U 0,J U 0,J U 0] 40))=w2 at *
 generalize cW:w1.heap.size=ob at *
 have bG:=RR.lt;have X_:=X.g4;have D_:=D.g11;rcases (show kd=1\/kd=2\/kd=3\/kd=4\/kd=5\/kd=6\/kd=7\/kd=8 by omega) with rfl | rfl | rfl | rfl | rfl | rfl | rfl | rfl
 have H:=Bq (show doO y ⟨1,rn,p,tk,ty,wk,dr⟩=(Jf y rn p,⟨Je y rn p,0,0,0⟩) by unfold doO;rw [if_neg (by rw [hd.out];simp)];rfl);have CS:=Bq (V1 y (⟨A1,n1,c1⟩,⟨A2,n2,c2⟩) rn p ⟨A3,p.edges.length,c3⟩ w2 hl hp (HR.out _ B0) (HP.out _ B0));generalize Jf y rn p=z at *
 generalize Je y rn p=c at *
 rotate_left
 ·have H:Hid (doO y ⟨2,rn,p,tk,ty,wk,dr⟩=I5 y wk dr):=by
   show doO y ⟨2,rn,p,tk,ty,wk,dr⟩=_;unfold doO;rw [if_neg (by rw [hd.out];simp)];rfl
  have uC:=Bq (Sq hd.out);obtain ⟨dn,rfl⟩:=Int.eq_ofNat_of_zero_le uC.out.1;have CS:=Bq (Zr y (⟨A1,n1,c1⟩,⟨A2,n2,c2⟩) wk dn w2 hl (by have:=uC.out;omega) (HR.out _ B0));generalize I5 y wk (dn:Int)=o at *
  obtain ⟨z,⟨o0,o1,o2,o3⟩⟩:=o;go_wp2_with fail
  refine CS.out.mono ?_;rintro e2 w3 ⟨s2,F,rfl,oy,nF,b3⟩;replace oy:Bv.ow w3 F z s2:=oy;have cB:∀ x∈F,w+1+1+1<x:=fun x hx=>by have h1:=nF x hx;omega
  clear X_;clear D_;clear X D OB RR;replace RES:=RES.below b3;replace RP:=RP.below b3;replace B0:=Bu B0 b3;clear nF b3;obtain ⟨RES_0,RES_1,RES_2,RES_3,RES_l⟩:=RES.g4;obtain ⟨RP_0,RP_1,RP_2,RP_3,RP_l⟩:=RP.g4;have rf:=RES.free;have pf:=RP.free;have aC:w.heap.size+1+1+1≠w.heap.size+1+1:=Bl;go_wp2;have RES2:=DBox.row4 RES rfl (J U z.now) (J U z.seq) (Aa s2.1.a s2.1.n s2.1.c) (Aa s2.2.a s2.2.n s2.2.c);have RP2:=DBox.row4 ((((RP.setOther (a:=⟨w+1+1,0,Ab⟩) aC (J U z.now)).setOther (a:=⟨w+1+1,1,Ab⟩) aC (J U z.seq)).setOther (a:=⟨w+1+1,2,Ab⟩) aC (Aa s2.1.a s2.1.n s2.1.c)).setOther (a:=⟨w+1+1,3,Ab⟩) aC (Aa s2.2.a s2.2.n s2.2.c)) rfl (J U o0) (J U o1) (J U o2) (J U o3);have RES3:=((((RES2.setOther (a:=⟨w+1+1+1,0,Ab⟩) aC.symm (J U o0)).setOther (a:=⟨w+1+1+1,1,Ab⟩) aC.symm (J U o1)).setOther (a:=⟨w+1+1+1,2,Ab⟩) aC.symm (J U o2)).setOther (a:=⟨w+1+1+1,3,Ab⟩) aC.symm (J U o3))
  have en1:w.heap.size+1+1∉F:=fun hx=>by have:=cB _ hx;omega
  have en2:w.heap.size+1+1+1∉F:=fun hx=>by have:=cB _ hx;omega
  refine Aj (Zv RES3 RP2) rfl ⟨s2,F,by rw [H.out],by rw [H.out];exact (by (repeat (refine Dt.ow_set Bv ?_ (by first | exact en1 | exact en2) _));exact (show Bv.ow _ F z s2 from oy)),fun x hx=>by have:=cB x hx;omega,?_⟩;repeat (first | (with_reducible exact B0) | refine Ad ?_ Bo _)
 have H:=Bq (show doO y ⟨3,rn,p,tk,ty,wk,dr⟩=(K3 y rn tk ty,⟨Gn y rn tk ty,0,0,0⟩) by unfold doO;rw [if_neg (by rw [hd.out];simp)];rfl);have CS:=Bq (Rv y (⟨A1,n1,c1⟩,⟨A2,n2,c2⟩) rn tk ty w2 hl (HR.out _ B0));generalize K3 y rn tk ty=z at *
 generalize Gn y rn tk ty=c at *
 rotate_left;have H:=Bq (show doO y ⟨4,rn,p,tk,ty,wk,dr⟩=(K2 y rn tk ty,⟨Gn y rn tk ty,0,0,0⟩) by unfold doO;rw [if_neg (by rw [hd.out];simp)];rfl);have CS:=Bq (Zo y (⟨A1,n1,c1⟩,⟨A2,n2,c2⟩) rn tk ty w2 hl (HR.out _ B0));generalize K2 y rn tk ty=z at *
 generalize Gn y rn tk ty=c at *
 rotate_left;have H:=Bq (show doO y ⟨5,rn,p,tk,ty,wk,dr⟩=(I6 y,⟨Jj y,0,0,0⟩) by unfold doO;rw [if_neg (by rw [hd.out];simp)];rfl);have CS:=Bq (Zt y (⟨A1,n1,c1⟩,⟨A2,n2,c2⟩) w2 hl (HR.out _ B0));generalize I6 y=z at *
 generalize Jj y=c at *
 rotate_left;have H:=Bq (show doO y ⟨6,rn,p,tk,ty,wk,dr⟩=(Io y rn,⟨Im y rn,0,0,0⟩) by unfold doO;rw [if_neg (by rw [hd.out];simp)];rfl);have CS:=Bq (V2 y (⟨A1,n1,c1⟩,⟨A2,n2,c2⟩) rn w2 hl (HR.out _ B0));generalize Io y rn=z at *
 generalize Im y rn=c at *
 rotate_left;have H:=Bq (show doO y ⟨7,rn,p,tk,ty,wk,dr⟩=(Il y rn,⟨Ik y rn,0,0,0⟩) by unfold doO;rw [if_neg (by rw [hd.out];simp)];rfl);have CS:=Bq (V5 y (⟨A1,n1,c1⟩,⟨A2,n2,c2⟩) rn w2 hl (HR.out _ B0));generalize Il y rn=z at *
 generalize Ik y rn=c at *
 rotate_left;focus
  have H:=Bq (show doO y ⟨8,rn,p,tk,ty,wk,dr⟩=(L9 y,⟨So y,0,0,0⟩) by unfold doO;rw [if_neg (by rw [hd.out];simp)];rfl);have CS:=Bq (Tm y (⟨A1,n1,c1⟩,⟨A2,n2,c2⟩) w2 hl (HR.out _ B0));have hrc:=Bq (show (Dh y->So y=0)/\(¬ Dh y->So y=8) from ⟨fun h=>if_pos h,fun h=>if_neg h⟩);generalize L9 y=z at *
  generalize So y=c at *
  go_wp2_with fail
  refine CS.out.mono ?_;rintro e2 w3 ⟨s2,F,rfl,oy,nF,b3⟩;replace oy:Bv.ow w3 F z s2:=oy;have cB:∀ x∈F,ob+1<x:=fun x hx=>by have h1:=nF x hx;omega
  clear X_;clear D_;replace X:=X.below b3;clear D;replace OB:=OB.below b3;replace RR:=RR.below b3;replace RES:=RES.below b3;replace RP:=RP.below b3;replace B0:=Bu B0 b3;have kI:=b3.size;clear nF b3;have OB_:=OB.g4;have RR_:=RR.g4;have OBf:=OB.free;have RRf:=RR.free;go_upto_region 7 with fail
  clear OB_;clear RR_;clear OBf RRf;have cK:=Chg.cells4 w3 ob 0 1 2 3 (J U z.now) (J U z.seq) (Aa s2.1.a s2.1.n s2.1.c) (Aa s2.2.a s2.2.n s2.2.c);have dY:=Bq (show ∀ x,x∈[ob]->x=ob from fun x hx=>by simpa using hx);replace OB:=DBox.row4 OB rfl (J U z.now) (J U z.seq) (Aa s2.1.a s2.1.n s2.1.c) (Aa s2.2.a s2.2.n s2.2.c);replace RR:=RR.chg cK (fun hx=>by have:=dY.out _ hx;omega);replace RES:=RES.chg cK (fun hx=>by have:=dY.out _ hx;omega);replace RP:=RP.chg cK (fun hx=>by have:=dY.out _ hx;omega);replace oy:Bv.ow _ F z s2:=owC oy cK (fun x hx h=>by have h1:=dY.out x h;have h2:=cB x hx;omega);replace X:=X.chg cK (fun hx=>by have:=dY.out _ hx;omega);replace B0:=B0.trans (cK.below (by have:=B0.size;omega) (fun x hx=>by have:=dY.out x hx;omega));clear cK;generalize (((w3.setCell ⟨ob,0,Ab⟩ (J U z.now)).setCell ⟨ob,1,Ab⟩ (J U z.seq)).setCell ⟨ob,2,Ab⟩ (Aa s2.1.a s2.1.n s2.1.c)).setCell ⟨ob,3,Ab⟩ (Aa s2.2.a s2.2.n s2.2.c)=w4 at *
  have X_:=X.g4;go_wp2_with fail
  refine (CY.out _ B0).mono ?_;rintro e9 w8 ⟨rfl,b8⟩;clear X_;clear X;replace OB:=OB.below b8;replace RR:=RR.below b8;replace RES:=RES.below b8;replace RP:=RP.below b8;replace oy:Bv.ow w8 F z s2:=owB oy b8;replace B0:=Bu B0 b8;have hs8:=b8.size;clear b8;by_cases p0:Dh y;focus
   rw [Dp p0];have hc0:=Bq (hrc.out.1 p0);replace RR:DBox (ob+1) [J U c,J U 0,J U 0,J U 0] w8:=by rw [hc0.out];exact RR
   rename World=>w5;go_upto_region 23 with fail
  rotate_left;focus
   rw [Ci p0];have hc8:=Bq (hrc.out.2 p0);have RR_:=RR.g4;have RRf:=RR.free;go_upto_region 23 with fail
   clear RR_;clear RRf;rename World=>w4;have cU:=Chg.setCell w4 (ob+1) 0 (J U 8);have bR:=Bq (show ∀ x,x∈[ob+1]->x=ob+1 from fun x hx=>by simpa using hx);replace OB:=OB.chg cU (fun hx=>by have:=bR.out _ hx;omega);replace RR:DBox (ob+1) [J U 8,J U 0,J U 0,J U 0] (w4.setCell ⟨ob+1,0,Ab⟩ (J U 8)):=RR.set 0 Bn _;replace RES:=RES.chg cU (fun hx=>by have:=bR.out _ hx;omega);replace RP:=RP.chg cU (fun hx=>by have:=bR.out _ hx;omega);replace oy:Bv.ow _ F z s2:=owC oy cU (fun x hx h=>by have h1:=bR.out x h;have h2:=cB x hx;omega);replace B0:=B0.trans (cU.below (by have:=B0.size;omega) (fun x hx=>by have:=bR.out x hx;omega));clear cU;generalize w4.setCell ⟨ob+1,0,Ab⟩ (J U 8)=w5 at *
   replace RR:DBox (ob+1) [J U c,J U 0,J U 0,J U 0] w5:=by rw [hc8.out];exact RR
 rotate_left 2;iterate 6
  focus
   go_wp2_with fail
   refine CS.out.mono ?_;rintro e2 w3 ⟨s2,F,rfl,oy,nF,b3⟩;replace oy:Bv.ow w3 F z s2:=oy;have cB:∀ x∈F,ob+1<x:=fun x hx=>by have h1:=nF x hx;omega
   clear X_;clear D_;clear X;clear D;replace OB:=OB.below b3;replace RR:=RR.below b3;replace RES:=RES.below b3;replace RP:=RP.below b3;replace B0:=Bu B0 b3;have kI:=b3.size;clear nF b3;have OB_:=OB.g4;have RR_:=RR.g4;have OBf:=OB.free;have RRf:=RR.free;go_upto_region 23 with fail
   clear OB_;clear RR_;clear OBf RRf;have cK:=Chg.cells4 w3 ob 0 1 2 3 (J U z.now) (J U z.seq) (Aa s2.1.a s2.1.n s2.1.c) (Aa s2.2.a s2.2.n s2.2.c);have dY:=Bq (show ∀ x,x∈[ob]->x=ob from fun x hx=>by simpa using hx);replace OB:=DBox.row4 OB rfl (J U z.now) (J U z.seq) (Aa s2.1.a s2.1.n s2.1.c) (Aa s2.2.a s2.2.n s2.2.c);replace RR:=RR.chg cK (fun hx=>by have:=dY.out _ hx;omega);replace RES:=RES.chg cK (fun hx=>by have:=dY.out _ hx;omega);replace RP:=RP.chg cK (fun hx=>by have:=dY.out _ hx;omega);replace oy:Bv.ow _ F z s2:=owC oy cK (fun x hx h=>by have h1:=dY.out x h;have h2:=cB x hx;omega);replace B0:=B0.trans (cK.below (by have:=B0.size;omega) (fun x hx=>by have:=dY.out x hx;omega));clear cK;generalize (((w3.setCell ⟨ob,0,Ab⟩ (J U z.now)).setCell ⟨ob,1,Ab⟩ (J U z.seq)).setCell ⟨ob,2,Ab⟩ (Aa s2.1.a s2.1.n s2.1.c)).setCell ⟨ob,3,Ab⟩ (Aa s2.2.a s2.2.n s2.2.c)=w4 at *
   have cU:=Chg.setCell w4 (ob+1) 0 (J U c);have bR:=Bq (show ∀ x,x∈[ob+1]->x=ob+1 from fun x hx=>by simpa using hx);replace OB:=OB.chg cU (fun hx=>by have:=bR.out _ hx;omega);replace RR:DBox (ob+1) [J U c,J U 0,J U 0,J U 0] (w4.setCell ⟨ob+1,0,Ab⟩ (J U c)):=RR.set 0 Bn _;replace RES:=RES.chg cU (fun hx=>by have:=bR.out _ hx;omega);replace RP:=RP.chg cU (fun hx=>by have:=bR.out _ hx;omega);replace oy:Bv.ow _ F z s2:=owC oy cU (fun x hx h=>by have h1:=bR.out x h;have h2:=cB x hx;omega);replace B0:=B0.trans (cU.below (by have:=B0.size;omega) (fun x hx=>by have:=bR.out x hx;omega));clear cU;generalize w4.setCell ⟨ob+1,0,Ab⟩ (J U c)=w5 at *
  rotate_left
 all_goals
  refine Go.wp_region_noPanic ?_;refine wp_region_held_drew (S:=(fun w'=>DBox ob [J U z.now,J U z.seq,Aa s2.1.a s2.1.n s2.1.c,Aa s2.2.a s2.2.n s2.2.c] w'/\DBox (ob+1) [J U c,J U 0,J U 0,J U 0] w')) Bm ⟨DBox.drew4 OB,DBox.drew4 RR⟩ (fun hHeld=>?_);replace oy:Bv.ow w5.drew F z s2:=owB oy (Br _ _).drew;replace RES:DBox _ _ w5.drew:=DBox.drew4 RES;replace RP:DBox _ _ w5.drew:=DBox.drew4 RP;replace B0:=B0.drew;clear OB RR;generalize w5.drew=w6 at *
  refine tV 0 ?_
  (try simp only [pS])
  refine tV 1 ?_
  (try simp only [pS])
  have RES_0:=RES.cell 0 _ rfl;have RES_1:=RES.cell 1 _ rfl;have RES_2:=RES.cell 2 _ rfl;have RES_3:=RES.cell 3 _ rfl;have rf:=RES.free;have bU:=Bq (show ∀ x,x∈[w.heap.size+1+1]->x=w.heap.size+1+1 from fun x hx=>by simpa using hx);have eQ:=Bq (show ∀ x,x∈[w.heap.size+1+1+1]->x=w.heap.size+1+1+1 from fun x hx=>by simpa using hx);have fD:=Chg.cells4 w6 (w+1+1) 0 1 2 3 (J U z.now) (J U z.seq) (Aa s2.1.a s2.1.n s2.1.c) (Aa s2.2.a s2.2.n s2.2.c);refine rC 2 (fun K_ hK=>?_);go_simp;have RES2:=DBox.row4 RES rfl (J U z.now) (J U z.seq) (Aa s2.1.a s2.1.n s2.1.c) (Aa s2.2.a s2.2.n s2.2.c);have RP2:=RP.chg fD (fun hx=>by have:=bU.out _ hx;omega);replace oy:Bv.ow _ F z s2:=owC oy fD (fun x hx h=>by have h1:=bU.out x h;have h2:=cB x hx;omega);replace B0:=B0.trans (fD.below (by have:=B0.size;omega) (fun x hx=>by have:=bU.out x hx;omega));refine hK.out _ _ ⟨hHeld.1.chg fD (fun hx=>by have:=bU.out _ hx;omega),hHeld.2.chg fD (fun hx=>by have:=bU.out _ hx;omega)⟩ (fun hHeld=>?_);clear hK K_ rf RES_0 RES_1 RES_2 RES_3 fD
  (try simp only [pS])
  generalize (((w6.setCell ⟨w+1+1,0,Ab⟩ (J U z.now)).setCell ⟨w+1+1,1,Ab⟩ (J U z.seq)).setCell ⟨w+1+1,2,Ab⟩ (Aa s2.1.a s2.1.n s2.1.c)).setCell ⟨w+1+1,3,Ab⟩ (Aa s2.2.a s2.2.n s2.2.c)=w7 at *
  have RP_0:=RP2.cell 0 _ rfl;have RP_1:=RP2.cell 1 _ rfl;have RP_2:=RP2.cell 2 _ rfl;have RP_3:=RP2.cell 3 _ rfl;have pf:=RP2.free;have gA:=Chg.cells4 w7 (w+1+1+1) 0 1 2 3 (J U c) (J U 0) (J U 0) (J U 0);refine rC 3 (fun K_ hK=>?_);go_simp;refine hK.out _ _ ⟨hHeld.1.chg gA (fun hx=>by have:=eQ.out _ hx;omega),hHeld.2.chg gA (fun hx=>by have:=eQ.out _ hx;omega)⟩ (fun hHeld=>?_);clear hK K_ hHeld
  (try simp only [pS])
  refine wpAnyH_done Bm ?_ _;refine NoPanic.normal ?_;have RES3:=RES2.chg gA (fun hx=>by have:=eQ.out _ hx;omega);have RP3:=DBox.row4 RP2 rfl (J U c) (J U 0) (J U 0) (J U 0);replace oy:Bv.ow _ F z s2:=owC oy gA (fun x hx h=>by have h1:=eQ.out x h;have h2:=cB x hx;omega);replace B0:=B0.trans (gA.below (by have:=B0.size;omega) (fun x hx=>by have:=eQ.out x hx;omega));clear RP_0 RP_1 RP_2 RP_3 pf;go_wp2;exact Aj (Zv RES3 RP3) rfl ⟨s2,F,by rw [H.out],by rw [H.out];exact oy,fun x hx=>by have:=cB x hx;omega,B0⟩
noncomputable def Hy (y:Yard) (l:List Note):Yard:=l.foldl (fun y x=>(doO y x.deed).1) y
theorem V7 (y:Yard) (l:List Note) (x:Note):Hy y (l ++ [x])=(doO (Hy y l) x.deed).1:=by unfold Hy;rw [List.foldl_append];rfl
theorem O6:∀ (l:List Note) (y:Yard),Ca y<=2000000->Ca (Hy y l)<=2000000
 | [],_,h=>h
 | x :: l,y,h=>O6 l _ (Agy h)
theorem Ab5 {b:Nat} {w:World} {u0 u1 u2 u3:Value} (X:DBox b [u0,u1,u2,u3] w) {v0 v1 v2 v3:Value} {rest:List Value} :
  (results Tryz.f29 (v0 :: v1 :: v2 :: v3 :: .pointer (Ac ⟨b,0,Ab⟩) :: rest).toArray).run Am w = .ok (.agg #[u0,u1,u2,u3]) w:=by
 obtain ⟨c0,c1,c2,c3,-⟩:=X.g4;simp [results,results29,go_sem,c0,c1,c2,c3]
theorem V8 (y:Yard) (s:Sl×Sl) (l:List Note) (sl:Sl) (w:World) (hc:Ca y<=2000000) (hl:D8 Cz l<=2000000) (hy:Bv.rd w w y s) (h:RdL Ct w w sl.v l) :
  Calls Am 29 #[Dm y s,Aa sl.a sl.n sl.c] w (Df Bv Dm (Hy y l) w):=by
 obtain ⟨⟨A1,n1,c1⟩,⟨A2,n2,c2⟩⟩:=s;obtain ⟨A,n,c⟩:=sl;obtain rfl:n=l.length:=RdL.at1 (s:=⟨A,n,c⟩) h;have hln:l.length<=2000000:=Ah (Cj Cz _) hl;have hed:=Bq (show ∀ k (hk:k<l.length),l[k].deed.plan.edges.length<=2000000 from fun k hk=>by
  have h1:=C9 (cnt:=Cz) (Aw hk);have h2:Cz l[k]=l[k].deed.plan.edges.length:=Ge (fun _=>rfl) _;omega)
 have CC:=Bq (fun W (hW:Below w w W)=>Ev y (⟨A1,n1,c1⟩,⟨A2,n2,c2⟩) W hc (Bv.rd_more (Bv.rd_below hy hW) hW.size));have sU:=Bq hc;clear hy hc;obtain ⟨W,aH,X,RES,B0⟩:=bx2 w 27 [J U y.now,J U y.seq,Aa A1 n1 c1,Aa A2 n2 c2] 27 [J U 0,J U 0,Aa Ab 0 0,Aa Ab 0 0];go_enter func29,ntmps29;go_wp2_with fail
 rw [<-aH.out];clear aH;have dP:w.heap.size+1<W.heap.size:=RES.lt;refine (CC.out _ B0).mono ?_;rintro e1 w1 ⟨⟨⟨B1,m1,e1⟩,⟨B2,m2,e2⟩⟩,F,rfl,oy,nF,b1⟩;have bS:=b1.size;have cE:=Bv.ow_lt (F:=F) (x:=y) (s:=(⟨B1,m1,e1⟩,⟨B2,m2,e2⟩)) oy;replace RES:=RES.below b1;replace B0:=Bu B0 b1;clear X b1 CC;obtain ⟨w2,nG,YB,b2⟩:=bx1 w1 27 [J U y.now,J U y.seq,Aa B1 m1 e1,Aa B2 m2 e2];go_upto_region 2 with fail
 rw [<-nG.out];clear nG;replace oy:Bv.ow _ F y (⟨B1,m1,e1⟩,⟨B2,m2,e2⟩):=owB oy b2;replace RES:=RES.below b2;replace B0:=Bu B0 b2;have hYl:=YB.lt;clear b2;generalize hyb:w1.heap.size=yb at *
 have dG:Hid (∀ x∈F,w<x/\x≠w.heap.size+1/\x≠yb):=fun x hx=>by have h1:=nF x hx;have h2:=cE x hx;omega
 have hybn:w+1<yb:=Bl;clear nF cE;go_wp2;go_loopw [12] (fun iv wr=>∃ (k:Nat) (s:Sl×Sl) (F:List Nat),k<=l.length/\iv = J U k/\Hid (Bv.ow wr F (Hy y (l.take k)) s /\ ∀ x∈F,w<x/\x≠w.heap.size+1/\x≠yb)/\DBox yb (Gv (Hy y (l.take k)) s) wr/\DBox (w+1) [J U 0,J U 0,Aa Ab 0 0,Aa Ab 0 0] wr/\Below w w wr) (fun iv _=>l.length - (intOf iv).toNat);case atStart=>exact ⟨0,(⟨B1,m1,e1⟩,⟨B2,m2,e2⟩),F,Ag _,rfl,⟨oy,dG.out⟩,YB,RES,B0⟩
 case round =>
  clear oy dG YB RES B0;obtain ⟨k,s,F,hk,rfl,hO,YB,RES,hb⟩:=hrel;have pN:=YB.lt;have hRl2:=RES.lt;have cQ:=hb.size;by_cases aA:k<l.length
  ·have aB:(k:Int)<(l.length:Int):=Bl;have pB:=Bq (O6 (l.take k) y sU.out);have aE:=Bq (show Hy y (l.take (k+1))=(doO (Hy y (l.take k)) l[k].deed).1 by rw [Cp l k aA,V7]);obtain ⟨db,od,sd,rfl,hdb,gR,c0,c1,c2,c3,c4,c5,c6,c7,c8,c9,c10,c11⟩:=(h.below hb).note aA;have mL:db<wr:=Bl;have hedk:=hed.out k aA;have hrdW:=Bq (show ∀ W,Below wr wr W->Ec.rd W W l[k].deed sd from fun W hW=>Ct.rd_more (x:=l[k]) (Ct.rd_below (x:=l[k]) (Ct.rd_more gR cQ) hW) hW.size);clear gR;have oy:=hO.out.1;have qR:=hO.out.2;clear hO;have pW:Hid (Ca (Hy y (l.take k))<=2000000):=pB;clear pB;generalize Hy y (l.take k)=Z at *
   generalize l[k]=d at *
   obtain ⟨w4,hw4_,DB,b4⟩:=bx1 wr 125 [J U d.seq,J U d.deed.kind,J U d.deed.run,J U d.deed.plan.prio,J U d.deed.plan.most,J U d.deed.plan.wait,J U d.deed.plan.tasks,Aa sd.a sd.n sd.c,J U d.deed.task,J U d.deed.try_,J U d.deed.worker,J U d.deed.draw];go_upto_region 5 with fail
   rw [<-hw4_.out];clear hw4_;replace YB:=YB.below b4;replace RES:=RES.below b4;replace oy:Bv.ow _ F Z s:=owB oy b4;have bY:=Bu hb b4;have mR:=b4.size;have CD:=Bq (Adz Z s d.deed sd _ pW.out hedk (Bv.ow_rd (F:=F) (x:=Z) (s:=s) oy) (hrdW.out _ b4));clear b4 c0 c1 c2 c3 c4 c5 c6 c7 c8 c9 c10 c11;have YB_:=YB.g4;have DB_:=DB.g12;generalize doO Z d.deed=o at *
   obtain ⟨z,rep⟩:=o;dsimp only at aE;go_wp2_with fail
   refine CD.out.mono ?_;rintro e6 w6 ⟨s6,F6,rfl,oy6,n6,b6⟩;replace oy6:Bv.ow w6 F6 z s6:=oy6;clear YB_;clear DB_;clear DB CD;replace YB:=YB.below b6;replace RES:=RES.below b6;have mW:=Bu bY b6;have mU:∀ x∈F6,w4<=x:=n6;clear n6 oy b6;have YB_:=YB.g4;have ybf:=YB.free;go_upto_region 6 with fail
   clear YB_;clear ybf;have cK:=Chg.cells4 w6 yb 0 1 2 3 (J U z.now) (J U z.seq) (Aa s6.1.a s6.1.n s6.1.c) (Aa s6.2.a s6.2.n s6.2.c);have sA:=Bq (show ∀ x,x∈[yb]->x=yb from fun x hx=>by simpa using hx);have hyn:w<=yb:=Bl;have mE:Hid (∀ x∈F6,w<x/\x≠w.heap.size+1/\x≠yb):=fun x hx=>by have:=mU x hx;omega
   have YB7:=DBox.row4 YB rfl (J U z.now) (J U z.seq) (Aa s6.1.a s6.1.n s6.1.c) (Aa s6.2.a s6.2.n s6.2.c);have oy7:Bv.ow _ F6 z s6:=owC oy6 cK (fun x hx hx2=>(mE.out x hx).2.2 (sA.out x hx2));have RES7:=RES.chg cK (fun hx=>by have:=sA.out _ hx;omega);have sF:=mW.trans (cK.below (by have:=mW.size;omega) (fun x hx=>by have:=sA.out x hx;omega));clear YB oy6 cK mU mW qR RES;generalize (((w6.setCell ⟨yb,0,Ab⟩ (J U z.now)).setCell ⟨yb,1,Ab⟩ (J U z.seq)).setCell ⟨yb,2,Ab⟩ (Aa s6.1.a s6.1.n s6.1.c)).setCell ⟨yb,3,Ab⟩ (Aa s6.2.a s6.2.n s6.2.c)=w7 at *
   go_wp2;exact ⟨⟨k+1,s6,F6,Bl,by go_num,by rw [aE.out];exact ⟨oy7,mE.out⟩,by rw [aE.out];exact YB7,RES7,sF⟩,by simp [intOf];omega⟩
  ·have aB:¬ (k:Int)<(l.length:Int):=Bl;have hE:=Bq (show l.take k=l from Bg Bl);rw [hE.out] at hO YB;obtain ⟨oy,qR⟩:=hO.out;clear hO;have YB_:=YB.g4;have RES_:=RES.g4;have rf:=RES.free;generalize Hy y l=Z at *
   go_wp2;have en1:w.heap.size+1∉F:=fun hx=>by have:=qR _ hx;omega
   have cU:=Chg.cells4 wr (w+1) 0 1 2 3 (J U Z.now) (J U Z.seq) (Aa s.1.a s.1.n s.1.c) (Aa s.2.a s.2.n s.2.c);have bR:=Bq (show ∀ x,x∈[w.heap.size+1]->x=w.heap.size+1 from fun x hx=>by simpa using hx);refine Aj (Ab5 (DBox.row4 RES rfl _ _ _ _)) rfl ⟨s,F,rfl,Bv.ow_chg (F:=F) (x:=Z) (s:=s) (show Bv.ow wr F Z s from oy) cU (fun x hx hx2=>en1 (by rw [<-bR.out x hx2];exact hx)),fun x hx=>by have:=qR x hx;omega,hb.trans (cU.below Bl (fun x hx=>by have:=bR.out x hx;omega))⟩
theorem Ab6 {b:Nat} {w:World} {u0 u1 u2 u3:Value} (X:DBox b [u0,u1,u2,u3] w) {v0 v1 v2 v3:Value} {rest:List Value} :
  (results Tryz.f86 (v0 :: v1 :: v2 :: v3 :: .pointer (Ac ⟨b,0,Ab⟩) :: rest).toArray).run Am w = .ok (.agg #[u0,u1,u2,u3]) w:=by
 obtain ⟨c0,c1,c2,c3,-⟩:=X.g4;simp [results,results86,go_sem,c0,c1,c2,c3]
theorem V9 (y:Yard) (s:Sl×Sl) (l:List Note) (sl:Sl) (w:World) (hc:Ca y<=2000000) (hl:D8 Cz l<=2000000) (hy:Bv.rd w w y s) (h:RdL Ct w w sl.v l) :
  Calls Am 86 #[Dm y s,Aa sl.a sl.n sl.c] w (Df Bv Dm (Hy y l) w):=by
 obtain ⟨⟨A1,n1,c1⟩,⟨A2,n2,c2⟩⟩:=s;obtain ⟨A,n,c⟩:=sl;obtain rfl:n=l.length:=RdL.at1 (s:=⟨A,n,c⟩) h;have hln:l.length<=2000000:=Ah (Cj Cz _) hl;have hed:=Bq (show ∀ k (hk:k<l.length),l[k].deed.plan.edges.length<=2000000 from fun k hk=>by
  have h1:=C9 (cnt:=Cz) (Aw hk);have h2:Cz l[k]=l[k].deed.plan.edges.length:=Ge (fun _=>rfl) _;omega)
 have CC:=Bq (fun W (hW:Below w w W)=>El y (⟨A1,n1,c1⟩,⟨A2,n2,c2⟩) W hc (Bv.rd_more (Bv.rd_below hy hW) hW.size));have sU:=Bq hc;clear hy hc;obtain ⟨W,aH,X,RES,B0⟩:=bx2 w 27 [J U y.now,J U y.seq,Aa A1 n1 c1,Aa A2 n2 c2] 27 [J U 0,J U 0,Aa Ab 0 0,Aa Ab 0 0];go_enter func86,ntmps86;go_wp2_with fail
 rw [<-aH.out];clear aH;have dP:w.heap.size+1<W.heap.size:=RES.lt;refine (CC.out _ B0).mono ?_;rintro e1 w1 ⟨⟨⟨B1,m1,e1⟩,⟨B2,m2,e2⟩⟩,F,rfl,oy,nF,b1⟩;have bS:=b1.size;have cE:=Bv.ow_lt (F:=F) (x:=y) (s:=(⟨B1,m1,e1⟩,⟨B2,m2,e2⟩)) oy;replace RES:=RES.below b1;replace B0:=Bu B0 b1;clear X b1 CC;obtain ⟨w2,nG,YB,b2⟩:=bx1 w1 27 [J U y.now,J U y.seq,Aa B1 m1 e1,Aa B2 m2 e2];go_upto_region 2 with fail
 rw [<-nG.out];clear nG;replace oy:Bv.ow _ F y (⟨B1,m1,e1⟩,⟨B2,m2,e2⟩):=owB oy b2;replace RES:=RES.below b2;replace B0:=Bu B0 b2;have hYl:=YB.lt;clear b2;generalize hyb:w1.heap.size=yb at *
 have dG:Hid (∀ x∈F,w<x/\x≠w.heap.size+1/\x≠yb):=fun x hx=>by have h1:=nF x hx;have h2:=cE x hx;omega
 have hybn:w+1<yb:=Bl;clear nF cE;go_wp2;go_loopw [6] (fun iv wr=>∃ (k:Nat) (s:Sl×Sl) (F:List Nat),k<=l.length/\iv = J U k/\Hid (Bv.ow wr F (Hy y (l.take k)) s /\ ∀ x∈F,w<x/\x≠w.heap.size+1/\x≠yb)/\DBox yb (Gv (Hy y (l.take k)) s) wr/\DBox (w+1) [J U 0,J U 0,Aa Ab 0 0,Aa Ab 0 0] wr/\Below w w wr) (fun iv _=>l.length - (intOf iv).toNat);case atStart=>exact ⟨0,(⟨B1,m1,e1⟩,⟨B2,m2,e2⟩),F,Ag _,rfl,⟨oy,dG.out⟩,YB,RES,B0⟩
 case round =>
  clear oy dG YB RES B0;obtain ⟨k,s,F,hk,rfl,hO,YB,RES,hb⟩:=hrel;have pN:=YB.lt;have hRl2:=RES.lt;have cQ:=hb.size;by_cases aA:k<l.length
  ·have aB:(k:Int)<(l.length:Int):=Bl;have pB:=Bq (O6 (l.take k) y sU.out);have aE:=Bq (show Hy y (l.take (k+1))=(doO (Hy y (l.take k)) l[k].deed).1 by rw [Cp l k aA,V7]);obtain ⟨db,od,sd,rfl,hdb,gR,c0,c1,c2,c3,c4,c5,c6,c7,c8,c9,c10,c11⟩:=(h.below hb).note aA;have mL:db<wr:=Bl;have hedk:=hed.out k aA;have hrdW:=Bq (show ∀ W,Below wr wr W->Ec.rd W W l[k].deed sd from fun W hW=>Ct.rd_more (x:=l[k]) (Ct.rd_below (x:=l[k]) (Ct.rd_more gR cQ) hW) hW.size);clear gR;have oy:=hO.out.1;have qR:=hO.out.2;clear hO;have pW:Hid (Ca (Hy y (l.take k))<=2000000):=pB;clear pB;generalize Hy y (l.take k)=Z at *
   generalize l[k]=d at *
   have CD:=Bq (Adx Z s d.deed sd wr.drew pW.out hedk (Bv.ow_rd (w:=wr.drew) (F:=F) (x:=Z) (s:=s) (Bv.ow_below (F:=F) (x:=Z) (s:=s) oy (Br _ _).drew)) (hrdW.out _ (Br _ _).drew));generalize doO Z d.deed=o at *
   obtain ⟨z,rep⟩:=o;dsimp only at aE;obtain ⟨YB_0,YB_1,YB_2,YB_3,YB_l⟩:=YB.g4;go_upto_region 5 with fail
   refine Su (fun w'=>w'.cell? ⟨yb,0,Ab⟩=Ac (J U Z.now)/\w'.cell? ⟨yb,1,Ab⟩=Ac (J U Z.seq)/\w'.cell? ⟨yb,2,Ab⟩=Ac (Aa s.1.a s.1.n s.1.c)/\w'.cell? ⟨yb,3,Ab⟩=Ac (Aa s.2.a s.2.n s.2.c)/\w'.cell? ⟨db,od+k * 12+1,Ab⟩=Ac (J U d.deed.kind)/\w'.cell? ⟨db,od+k * 12+2,Ab⟩=Ac (J U d.deed.run)/\w'.cell? ⟨db,od+k * 12+3,Ab⟩=Ac (J U d.deed.plan.prio)/\w'.cell? ⟨db,od+k * 12+4,Ab⟩=Ac (J U d.deed.plan.most)/\w'.cell? ⟨db,od+k * 12+5,Ab⟩=Ac (J U d.deed.plan.wait)/\w'.cell? ⟨db,od+k * 12+6,Ab⟩=Ac (J U d.deed.plan.tasks)/\w'.cell? ⟨db,od+k * 12+7,Ab⟩=Ac (Aa sd.a sd.n sd.c)/\w'.cell? ⟨db,od+k * 12+8,Ab⟩=Ac (J U d.deed.task)/\w'.cell? ⟨db,od+k * 12+9,Ab⟩=Ac (J U d.deed.try_)/\w'.cell? ⟨db,od+k * 12+10,Ab⟩=Ac (J U d.deed.worker)/\w'.cell? ⟨db,od+k * 12+11,Ab⟩=Ac (J U d.deed.draw)) 10 Bm ?_ (fun hHeld=>?_)
   ·exact ⟨YB_0,YB_1,YB_2,YB_3,c1,c2,c3,c4,c5,c6,c7,c8,c9,c10,c11⟩
   refine aM 0 hHeld ?_;try simp only [pS]
   refine aM 1 hHeld ?_;try simp only [pS]
   refine aM 2 hHeld ?_;try simp only [pS]
   refine aM 3 hHeld ?_;try simp only [pS]
   refine aM 4 hHeld ?_;try simp only [pS]
   refine aM 5 hHeld ?_;try simp only [pS]
   refine oM 6 (fun K hK=>?_)
   (go_simp;refine CD.out.mono ?_;rintro e6 w6 ⟨s6,F6,rfl,oy6,n6,b6⟩;replace oy6:Bv.ow w6 F6 z s6:=oy6)
   have b6':Below wr wr w6:=Bu (Br _ _).drew b6;have tU:=(⟨(b6'.cell (p:=⟨_,_,Ab⟩) pN).trans YB_0,(b6'.cell (p:=⟨_,_,Ab⟩) pN).trans YB_1,(b6'.cell (p:=⟨_,_,Ab⟩) pN).trans YB_2,(b6'.cell (p:=⟨_,_,Ab⟩) pN).trans YB_3,(b6'.cell (p:=⟨_,_,Ab⟩) mL).trans c1,(b6'.cell (p:=⟨_,_,Ab⟩) mL).trans c2,(b6'.cell (p:=⟨_,_,Ab⟩) mL).trans c3,(b6'.cell (p:=⟨_,_,Ab⟩) mL).trans c4,(b6'.cell (p:=⟨_,_,Ab⟩) mL).trans c5,(b6'.cell (p:=⟨_,_,Ab⟩) mL).trans c6,(b6'.cell (p:=⟨_,_,Ab⟩) mL).trans c7,(b6'.cell (p:=⟨_,_,Ab⟩) mL).trans c8,(b6'.cell (p:=⟨_,_,Ab⟩) mL).trans c9,(b6'.cell (p:=⟨_,_,Ab⟩) mL).trans c10,(b6'.cell (p:=⟨_,_,Ab⟩) mL).trans c11⟩:w6.cell? ⟨yb,0,Ab⟩=Ac (J U Z.now)/\w6.cell? ⟨yb,1,Ab⟩=Ac (J U Z.seq)/\w6.cell? ⟨yb,2,Ab⟩=Ac (Aa s.1.a s.1.n s.1.c)/\w6.cell? ⟨yb,3,Ab⟩=Ac (Aa s.2.a s.2.n s.2.c)/\w6.cell? ⟨db,od+k * 12+1,Ab⟩=Ac (J U d.deed.kind)/\w6.cell? ⟨db,od+k * 12+2,Ab⟩=Ac (J U d.deed.run)/\w6.cell? ⟨db,od+k * 12+3,Ab⟩=Ac (J U d.deed.plan.prio)/\w6.cell? ⟨db,od+k * 12+4,Ab⟩=Ac (J U d.deed.plan.most)/\w6.cell? ⟨db,od+k * 12+5,Ab⟩=Ac (J U d.deed.plan.wait)/\w6.cell? ⟨db,od+k * 12+6,Ab⟩=Ac (J U d.deed.plan.tasks)/\w6.cell? ⟨db,od+k * 12+7,Ab⟩=Ac (Aa sd.a sd.n sd.c)/\w6.cell? ⟨db,od+k * 12+8,Ab⟩=Ac (J U d.deed.task)/\w6.cell? ⟨db,od+k * 12+9,Ab⟩=Ac (J U d.deed.try_)/\w6.cell? ⟨db,od+k * 12+10,Ab⟩=Ac (J U d.deed.worker)/\w6.cell? ⟨db,od+k * 12+11,Ab⟩=Ac (J U d.deed.draw))
   refine hK.out _ _ (fun _ _=>tU) ?_;clear hK K;try simp only [pS]
   refine aM 7 tU ?_;try simp only [pS]
   refine aM 8 tU ?_;try simp only [pS]
   have YB6:=YB.below b6';have k0:=YB6.cell 0 _ rfl;have k1:=YB6.cell 1 _ rfl;have k2:=YB6.cell 2 _ rfl;have k3:=YB6.cell 3 _ rfl;have ybf:=YB6.free;have ybl:=YB6.lt;refine oM2 9 10 (fun K hK=>?_) (fun K hK=>?_)
   (go_simp;refine hK.out _ _ (fun _ _=>tU) ?_;clear hK K;try simp only [pS])
   refine oM 10 (fun K hK=>?_)
   (go_simp;refine hK.out _ _ (fun aC=>absurd rfl aC) ?_;clear hK K;try simp only [pS])
   refine R7 Bm ?_ _;rotate_left
   (go_simp;refine hK.out _ _ (fun aC=>absurd rfl aC) ?_;clear hK K;try simp only [pS])
   refine oM 9 (fun K hK=>?_)
   (go_simp;refine hK.out _ _ (fun _ h=>Bool.noConfusion (h.symm.trans (show _=true by kernel_rfl))) ?_;clear hK K;try simp only [pS])
   refine R7 Bm ?_ _;all_goals
    clear YB_0 YB_1 YB_2 YB_3 YB_l;clear hHeld tU c0 c1 c2 c3 c4 c5 c6 c7 c8 c9 c10 c11 CD k0 k1 k2 k3 ybf ybl;replace YB:=YB6;clear YB6;replace RES:=RES.below b6';have mW:=Bu hb b6';have mU:∀ x∈F6,wr<=x:=n6;clear n6 oy b6 b6';have cK:=Chg.cells4 w6 yb 0 1 2 3 (J U z.now) (J U z.seq) (Aa s6.1.a s6.1.n s6.1.c) (Aa s6.2.a s6.2.n s6.2.c);have sA:=Bq (show ∀ x,x∈[yb]->x=yb from fun x hx=>by simpa using hx);have hyn:w<=yb:=Bl;have mE:Hid (∀ x∈F6,w<x/\x≠w.heap.size+1/\x≠yb):=fun x hx=>by have:=mU x hx;omega
    have YB7:=DBox.row4 YB rfl (J U z.now) (J U z.seq) (Aa s6.1.a s6.1.n s6.1.c) (Aa s6.2.a s6.2.n s6.2.c);have oy7:Bv.ow _ F6 z s6:=owC oy6 cK (fun x hx hx2=>(mE.out x hx).2.2 (sA.out x hx2));have RES7:=RES.chg cK (fun hx=>by have:=sA.out _ hx;omega);have sF:=mW.trans (cK.below (by have:=mW.size;omega) (fun x hx=>by have:=sA.out x hx;omega));clear YB oy6 cK mU mW qR RES;generalize (((w6.setCell ⟨yb,0,Ab⟩ (J U z.now)).setCell ⟨yb,1,Ab⟩ (J U z.seq)).setCell ⟨yb,2,Ab⟩ (Aa s6.1.a s6.1.n s6.1.c)).setCell ⟨yb,3,Ab⟩ (Aa s6.2.a s6.2.n s6.2.c)=w7 at *
    go_wp2;exact ⟨⟨k+1,s6,F6,Bl,by go_num,by rw [aE.out];exact ⟨oy7,mE.out⟩,by rw [aE.out];exact YB7,RES7,sF⟩,by simp [intOf];omega⟩
  ·have aB:¬ (k:Int)<(l.length:Int):=Bl;have hE:=Bq (show l.take k=l from Bg Bl);rw [hE.out] at hO YB;obtain ⟨oy,qR⟩:=hO.out;clear hO;obtain ⟨YB_0,YB_1,YB_2,YB_3,YB_l⟩:=YB.g4;have RES_:=RES.g4;have rf:=RES.free;generalize Hy y l=Z at *
   go_wp2;have en1:w.heap.size+1∉F:=fun hx=>by have:=qR _ hx;omega
   have cU:=Chg.cells4 wr (w+1) 0 1 2 3 (J U Z.now) (J U Z.seq) (Aa s.1.a s.1.n s.1.c) (Aa s.2.a s.2.n s.2.c);have bR:=Bq (show ∀ x,x∈[w.heap.size+1]->x=w.heap.size+1 from fun x hx=>by simpa using hx);refine Aj (Ab6 (DBox.row4 RES rfl _ _ _ _)) rfl ⟨s,F,rfl,Bv.ow_chg (F:=F) (x:=Z) (s:=s) (show Bv.ow wr F Z s from oy) cU (fun x hx hx2=>en1 (by rw [<-bR.out x hx2];exact hx)),fun x hx=>by have:=qR x hx;omega,hb.trans (cU.below Bl (fun x hx=>by have:=bR.out x hx;omega))⟩
end Go.Proofs.YtonlnjdempbfoabGreat
