/-
  Tick of the program. Restart of the program. A yard does not grow without bound by a deed. Plain. Do of the program. Written by program (ido.py). OverAt of the 
-/
import Derived.Test.YtonlnjdempbfoaaGreatZSl0
import Derived.Test.YtonlnjdempbfoaaGreatZSl2
import Derived.Test.YtonlnjdempbfoaaGreatZSl3
import Derived.Test.YtonlnjdempbfoaaGreatZSl4
import Derived.Test.YtonlnjdempbfoaaGreatZSl8
import Derived.Test.YtonlnjdempbfoaaGreatZSl10
import Derived.Test.YtonlnjdempbfoaaGreatZSl12
import Derived.Test.YtonlnjdempbfoaaGreatZSl13
import Derived.Test.YtonlnjdempbfoaaGreatZSl14
import Derived.Test.YtonlnjdempbfoaaGreatZSl15
namespace Go.Proofs.YtonlnjdempbfoaaGreat
open Go.RowKit
set_option maxRecDepth 100000
set_option maxHeartbeats 4000000
set_option linter.unusedVariables false
set_option linter.unusedSimpArgs false
open Value renaming int->J,slice->Aa
open IntKind renaming i64->U
open Option renaming none->Ab,some->Ac
open Below renaming setCell->Ad
open Nat renaming zero_le->Ag,le_trans->Ah,lt_of_lt_of_le->Ai
open Go renaming bodyPost_ret->Aj
open Go.Proofs.Tryz renaming prog->Am
open Int renaming toNat_natCast->Ao
open List renaming length_map->Ar,getElem_mem->Aw,length_take->Az,take_of_length_le->Bg,mem_append->Bi
open World renaming size_alloc->Bj
theorem Qz {b:Nat} {w:World} {u0 u1 u2 u3:Value} (X:DBox b [u0,u1,u2,u3] w) {v0 v1 v3:Value} {rest:List Value} :
  (results Tryz.f112 (v0 :: v1 :: .pointer (Ac ⟨b,0,Ab⟩) :: v3 :: rest).toArray).run Am w = .ok (.tuple #[.agg #[u0,u1,u2,u3],v3]) w:=by
 obtain ⟨c0,c1,c2,c3,-⟩:=X.g4;simp [results,Tryz.results112,go_sem,c0,c1,c2,c3]
theorem Ada (gr o n c:Nat) (rs:List (Run×Ch.S)) (k:Nat) (G1 Fx G2:List Nat) (r:Run) (s:Sl×Sl) (u p gl pl cl:Nat) (w:World) (hp:w.cell? ⟨p,0,Ab⟩=Ac (Aa (Ac ⟨gl,pl,Ab⟩) 3 cl)) (hp':p<w) (hq:w.cell? ⟨gl,pl+1,Ab⟩=Ac (J U u)) (hq':gl<w) (hR:H9 r u) (hF:Foc Ch w gr o n c rs k G1 Fx G2 r s) :
  Calls Am 176 #[.pointer (Ac ⟨gr,o+k * 8,Ab⟩),.pointer (Ac ⟨p,0,Ab⟩)] w (Hk gr o n c rs k G1 Fx G2 (De r u) s w):=by
 have C:=Bq (Ly gr o n c rs k G1 Fx G2 r s u w (by have:=Dp hR.1;omega) hR hF);go_enter Tryz.func176,Tryz.ntmps176;go_wp2_with fail
 refine C.out.mono ?_;rintro e w1 ⟨rfl,h1,h2⟩;have HF:=Bq (show Hk gr o n c rs k G1 Fx G2 (De r u) s w (.returned (.tuple #[])) w1 from ⟨rfl,h1,h2⟩);clear h1 h2 C;go_wp2;exact Aj (v:=.tuple #[]) (by simp [results,Tryz.results176,go_sem]) rfl HF.out
theorem Xv (y:Yard) (s:Sl×Sl) (w:World) (hl:Cb y<=2000000) (h:Bu.rd w w y s) :
  Calls Am 112 #[Dg y s] w (Ht (Ip y) (I2 y) w):=by
 have HR:=Bq (show ∀ W,Below w w W->Bu.rd W W y s from fun W hW=>Bu.rd_more (Bu.rd_below h hW) hW.size);obtain ⟨⟨A1,n1,c1⟩,⟨A2,n2,c2⟩⟩:=s;have CC:=Bq (fun W hW=>Eo y (⟨A1,n1,c1⟩,⟨A2,n2,c2⟩) W hl (HR.out W hW));have CY:=Bq (fun W hW=>Fi y (⟨A1,n1,c1⟩,⟨A2,n2,c2⟩) W hl (HR.out W hW));clear h;obtain ⟨W,aG,X,RES,B0⟩:=bx2 w 31 [J U y.now,J U y.seq,Aa A1 n1 c1,Aa A2 n2 c2] 31 [J U 0,J U 0,Aa Ab 0 0,Aa Ab 0 0];go_enter Tryz.func112,Tryz.ntmps112;go_wp2_with fail
 rw [<-aG.out];clear aG;refine (CC.out _ B0).mono ?_;rintro e1 w1 ⟨⟨⟨B1,m1,e1⟩,⟨B2,m2,e2⟩⟩,F,rfl,oy,nF,b1⟩;have dK:=RES.lt;have b2:Below w1 w1 (w1.alloc (.cells #[J U y.now,J U y.seq,Aa B1 m1 e1,Aa B2 m2 e2] 31)):=(Br _ _).alloc (Bs _) _;have OB:DBox w1 (Eh y (⟨B1,m1,e1⟩,⟨B2,m2,e2⟩)) _:=DBox.new 31 [J U y.now,J U y.seq,Aa B1 m1 e1,Aa B2 m2 e2] w1 (b:=w1.heap.size) rfl;have bP:=Bq (Bu.ow_lt (F:=F) (x:=y) (s:=(⟨B1,m1,e1⟩,⟨B2,m2,e2⟩)) oy);have cL:=Bq (show ∀ x∈F,w.heap.size+1<x from fun x hx=>by have:=nF x hx;omega);replace oy:Bu.ow _ F y (⟨B1,m1,e1⟩,⟨B2,m2,e2⟩):=owB oy b2;have b12:=Bt b1 b2;replace X:=X.below b12;replace RES:=RES.below b12;replace B0:=Bt B0 b12;have bL:=b1.size;clear b1 b2 b12 CC nF;go_upto_region 2 with fail
 have cJ:w1.heap.size∉F:=fun h=>by have:=bP.out _ h;omega
 have hobR:w.heap.size+1<w1.heap.size:=Bl;generalize w1.heap.size=ob at *
 generalize w1.alloc (.cells #[J U y.now,J U y.seq,Aa B1 m1 e1,Aa B2 m2 e2] 31)=w2 at *
 have X_:=X.g4;go_wp2_with fail
 refine (CY.out _ B0).mono ?_;rintro e1' w3 ⟨rfl,b3⟩;clear X_;replace X:=X.below b3;replace RES:=RES.below b3;replace OB:=OB.below b3;replace B0:=Bt B0 b3;replace oy:Bu.ow w3 F y (⟨B1,m1,e1⟩,⟨B2,m2,e2⟩):=owB oy b3;clear b3 CY bP;by_cases p0:Dd y;case neg =>
  rw [Cf p0];have H:=Bq (show I2 y=8 by unfold I2;rw [if_pos p0]);have H2:=Bq (show Ip y=y by unfold Ip;rw [H.out,if_neg Bp]);have RES_:=RES.g4;have OB_:=OB.g4;have rf:=RES.free;go_wp2;have en1:w.heap.size+1∉F:=fun hx=>by have:=cL.out _ hx;omega
  refine Aj (Qz (DBox.row4 RES rfl _ _ _ _)) rfl ⟨(⟨B1,m1,e1⟩,⟨B2,m2,e2⟩),F,by rw [H.out,H2.out],by rw [H2.out];exact Bu.set4 (F:=F) (x:=y) (s:=(⟨B1,m1,e1⟩,⟨B2,m2,e2⟩)) oy en1,fun x hx=>by have:=cL.out x hx;omega,?_⟩;repeat (first | (with_reducible exact B0) | refine Ad ?_ Bo _)
 rw [Dj p0];have P0:=Bq p0;have fY:=p0.1;clear p0;have wr1:U.wrap (y.now+1)=y.now+1:=IntWalk.i64_in _ Bl;have X_:=X.g4;by_cases p1:999999980<y.now+1;case pos =>
  have H:=Bq (show I2 y=7 by unfold I2;rw [if_neg (fun h=>h P0.out),if_pos p1]);have H2:=Bq (show Ip y=y by unfold Ip;rw [H.out,if_neg Bp]);have RES_:=RES.g4;have OB_:=OB.g4;have rf:=RES.free;go_wp2;have en1:w.heap.size+1∉F:=fun hx=>by have:=cL.out _ hx;omega
  refine Aj (Qz (DBox.row4 RES rfl _ _ _ _)) rfl ⟨(⟨B1,m1,e1⟩,⟨B2,m2,e2⟩),F,by rw [H.out,H2.out],by rw [H2.out];exact Bu.set4 (F:=F) (x:=y) (s:=(⟨B1,m1,e1⟩,⟨B2,m2,e2⟩)) oy en1,fun x hx=>by have:=cL.out x hx;omega,?_⟩;repeat (first | (with_reducible exact B0) | refine Ad ?_ Bo _)
 have H:=Bq (show I2 y=0 by unfold I2;rw [if_neg (fun h=>h P0.out),if_neg p1]);have H2:=Bq (show Ip y=upY (Ew y (E8 y y.runs.length)) by unfold Ip;rw [if_pos H.out];rfl);have CL:=Bq (fun W hW=>Xr y (⟨A1,n1,c1⟩,⟨A2,n2,c2⟩) W hl P0.out (HR.out W hW));clear HR;have OB_:=OB.g4;have obf:=OB.free;go_upto_region 7 with fail
 clear X_;clear OB_;clear obf;have fB:=B0.size;have pU:w≠ob:=Bl;replace X:=X.setOther (a:=⟨ob,0,Ab⟩) pU (J U (y.now+1));replace OB:DBox ob (Eh (upY y) (⟨B1,m1,e1⟩,⟨B2,m2,e2⟩)) (w3.setCell ⟨ob,0,Ab⟩ (J U (y.now+1))):=OB.set 0 Bn _;replace RES:=RES.setOther (a:=⟨ob,0,Ab⟩) (by show w.heap.size+1≠ob;omega) (J U (y.now+1));replace oy:Bu.ow (w3.setCell ⟨ob,0,Ab⟩ (J U (y.now+1))) F (upY y) (⟨B1,m1,e1⟩,⟨B2,m2,e2⟩):=Bu.ow_set (F:=F) (x:=y) (s:=(⟨B1,m1,e1⟩,⟨B2,m2,e2⟩)) oy (a:=⟨ob,0,Ab⟩) cJ _;replace B0:Below w w (w3.setCell ⟨ob,0,Ab⟩ (J U (y.now+1))):=Ad B0 (by show w.heap.size<=ob;omega) _;generalize w3.setCell ⟨ob,0,Ab⟩ (J U (y.now+1))=w3 at *
 have bP:=Bu.ow_lt (F:=F) (x:=upY y) (s:=(⟨B1,m1,e1⟩,⟨B2,m2,e2⟩)) oy;have X_:=X.g4;go_wp2_with fail
 refine (CL.out _ B0).mono ?_;rintro e1 w4 ⟨⟨A9,n9,c9⟩,Fl,he,ol,nl,b4⟩;replace he:e1 = .returned (Aa A9 n9 c9):=he;subst he;clear X_;clear X CL;have jK:ob<w3:=OB.lt;have hRl3:w.heap.size+1<w3.heap.size:=RES.lt;replace OB:=OB.below b4;replace RES:=RES.below b4;replace oy:Bu.ow w4 F (upY y) (⟨B1,m1,e1⟩,⟨B2,m2,e2⟩):=owB oy b4;replace B0:=Bt B0 b4;have fV:Hid ((∀ x∈F,w.heap.size+1<x)/\ob∉F /\ ∀ x∈Fl,x∉F):=⟨cL.out,cJ,fun x hx bF=>by have h1:w3<=x:=nl x hx;have h2:=bP x bF;omega⟩
 have hFln:=Bq (show ∀ x∈Fl,x≠ob/\w.heap.size+1<x from fun x hx=>by have h1:w3<=x:=nl x hx;omega);have hmemL:=Bq (fun p (hp:p∈E8 y y.runs.length)=>Qy hp);clear nl b4 bP cL cJ jK hRl3 fB;have hLs:=Bq (show (E8 y y.runs.length).length<=96 by have h1:=Kz (Mg P0.out) y.runs.length;have h2:=P0.out.2.2.2.2.2.2.1;omega);generalize E8 y y.runs.length=L at *
 obtain rfl:n9=L.length:=by have:=RdL.at1 (s:=⟨A9,n9,c9⟩) ol.rd;rw [Ar] at this;exact this
 go_wp2;go_loopw [27] (fun iv wr=>∃ (i:Nat) (Z:Yard) (F:List Nat),i<=L.length/\iv = J U i/\Hid (Trn y i Z/\SameTry y Z)/\Hid (Ew y (L.take i)=Z)/\Hid (Bu.ow wr F (upY Z) (⟨B1,m1,e1⟩,⟨B2,m2,e2⟩))/\Hid ((∀ x∈F,w.heap.size+1<x)/\ob∉F /\ ∀ x∈Fl,x∉F)/\Hid (OwL (Dt.flats Hn) wr Fl (Aa A9 L.length c9) (L.map (Ia y)))/\DBox ob (Eh (upY Z) (⟨B1,m1,e1⟩,⟨B2,m2,e2⟩)) wr/\DBox (w.heap.size+1) [J U 0,J U 0,Aa Ab 0 0,Aa Ab 0 0] wr/\Below w w wr) (fun i _=>L.length - (intOf i).toNat);case atStart=>exact ⟨0,y,F,Ag _,rfl,⟨Trn.start P0.out,fun _ _=>rfl⟩,rfl,oy,fV,ol,OB,RES,B0⟩
 case round =>
  clear oy fV ol OB RES B0;obtain ⟨i,Z,F,hi,rfl,hT,hZ,oy,hF,ol,OB,RES,hb⟩:=hrel;replace oy:Bu.ow wr F (upY Z) (⟨B1,m1,e1⟩,⟨B2,m2,e2⟩):=oy.out;have cR:=hLs.out;by_cases aA:i<L.length
  ·have aB:(i:Int)<(L.length:Int):=Bl;have aL:(0:Int)<=(i:Int):=Bl;have hp:=hmemL.out _ (Aw aA);have aE:Hid (Ew y (L.take (i+1))=Fe Z L[i].1 L[i].2):=by
    show Ew y (L.take (i+1))=_;unfold Ew;rw [J2 (fun z p=>Fe z p.1 p.2) y L i aA,<-hZ.out];rfl
   have cS:(L.map (Ia y))[i]'(by rw [Ar];exact aA)=[(Gl y L[i].1).id,(L[i].2:Int),(Cs (Gl y L[i].1) L[i].2).try_]:=by
    rw [List.getElem_map];rfl
   generalize L[i]=p at *
   obtain ⟨k,t⟩:=p;dsimp only at hp aE cS;have qH:k<y.runs.length:=hp.1;have dR:k<Z.runs.length:=by rw [hT.out.1.len];exact qH
   have hru:=Ei qH;rw [hru] at hp cS;have fN:=hT.out.1.run k dR qH;have jN:t<Z.runs[k].tasks.length:=by rw [fN.2.2];exact hp.2
   have gH:=Bq (show Da Z y.runs[k].id=k from (hT.out.1.runAt _).trans (P0.out.2.2.2.2.2.2.2.1 k qH).2);have pT:=hT.out.1.cnt Bl;have hN:=Bq (show Trn y (i+1) (Fe Z k t)/\SameTry y (Fe Z k t) from ⟨hT.out.1.fail dR jN,hT.out.2.fail dR t⟩);have cS:=Bq cS;have nH:=Bq (U0 hT.out.1 hT.out.2 dR jN gH.out);rw [hru] at nH;obtain ⟨bl,lo,rfl⟩:∃ b o,A9=Ac ⟨b,o,Ab⟩:=by
    obtain ⟨b,o,_,hA,_⟩:=RdL.at_ ol.out.rd i (by rw [Ar];exact aA);exact ⟨b,o,hA⟩
   obtain ⟨gl,pl,cl,gZ,fL,l0,l1,l2,l3⟩:=Mu ol.out (i:=i) (by rw [Ar];exact aA) cS.out;have kV:=ol.out.lt _ gZ;have bW:=ol.out.lt _ fL;generalize hid:y.runs[k].id=rid at *
   generalize htr:(Cs y.runs[k] t).try_=tr at *
   have TQ:=DBox.new 26 [Aa (Ac ⟨gl,pl,Ab⟩) 3 cl] wr (b:=wr.heap.size) rfl;have bq:Below wr wr (wr.alloc (.cells #[Aa (Ac ⟨gl,pl,Ab⟩) 3 cl] 26)):=(Br _ _).alloc (Bs _) _;go_upto_region 10 with fail
   have gC:=OB.lt;replace OB:=OB.below bq;replace RES:=RES.below bq;have hqF:wr.heap.size∉F:=fun hx=>by have:=Bu.ow_lt (F:=F) (x:=upY Z) (s:=(⟨B1,m1,e1⟩,⟨B2,m2,e2⟩)) oy _ hx;omega
   have hqo:wr≠ob:=Bl;have hqL:∀ x∈Fl,x≠wr:=fun x hx=>by have:=ol.out.lt x hx;omega
   replace l1:=(bq.cell (p:=⟨gl,_,Ab⟩) bW).trans l1;replace l2:=(bq.cell (p:=⟨gl,_,Ab⟩) bW).trans l2;replace l3:=(bq.cell (p:=⟨gl,_,Ab⟩) bW).trans l3;replace bW:=Ai bW bq.size;replace oy:Bu.ow _ F (upY Z) (⟨B1,m1,e1⟩,⟨B2,m2,e2⟩):=owB oy bq;replace ol:=Bq (ol.out.below bq);replace hb:=Bt hb bq;clear bq l0 kV;generalize wr.alloc (.cells #[Aa (Ac ⟨gl,pl,Ab⟩) 3 cl] 26)=w5 at *
   generalize wr.heap.size=tq at *
   have OB_:=OB.g4;obtain ⟨TQ_0,TQ_l⟩:=TQ.g1;have oyr:=Bu.ow_rd (F:=F) (x:=upY Z) (s:=(⟨B1,m1,e1⟩,⟨B2,m2,e2⟩)) oy;have CH:=Bq (fun W (hW:Below w5 w5 W)=>Lv (upY Z) (⟨B1,m1,e1⟩,⟨B2,m2,e2⟩) rid t tr W pT (Bu.rd_more (Bu.rd_below (x:=upY Z) (s:=(⟨B1,m1,e1⟩,⟨B2,m2,e2⟩)) oyr hW) hW.size));have CA:=Bq (fun W (hW:Below w5 w5 W)=>Et (upY Z) (⟨B1,m1,e1⟩,⟨B2,m2,e2⟩) rid W pT (Bu.rd_more (Bu.rd_below (x:=upY Z) (s:=(⟨B1,m1,e1⟩,⟨B2,m2,e2⟩)) oyr hW) hW.size));clear oyr;have aR:=C7 w5;go_wp2;refine Bw Bm Bm ?_;repeat (go_big_quiet_step ((go_at_call 175;rename_i x;exact Ey (CH.out x.1 x.2))))
   refine wpQuiet_nil ?_;rintro w6 ⟨⟨_,b6⟩,rfl⟩;clear aR CH;clear OB_;clear TQ_0 TQ_l;replace OB:=OB.below b6;replace RES:=RES.below b6;replace TQ:=TQ.below b6;replace l1:=(b6.cell (p:=⟨gl,_,Ab⟩) bW).trans l1;replace l2:=(b6.cell (p:=⟨gl,_,Ab⟩) bW).trans l2;replace l3:=(b6.cell (p:=⟨gl,_,Ab⟩) bW).trans l3;replace bW:=Ai bW b6.size;replace oy:Bu.ow _ F (upY Z) (⟨B1,m1,e1⟩,⟨B2,m2,e2⟩):=owB oy b6;replace ol:=Bq (ol.out.below b6);replace hb:=Bt hb b6;have CA2:=Bq (fun W (hW:Below w6 w6 W)=>CA.out W (Bt b6 hW));clear CA b6;by_cases q:(Cs (Gl Z k) t).state=3;case neg =>
    rw [Cf (show ¬ Fd (upY Z) rid t tr from fun h=>q (nH.out.1 h))];have bG:=Bq (show Fe Z k t=Z from K0 q);clear q nH;go_wp2;exact ⟨⟨i+1,Z,F,Bl,by go_num,⟨hT.out.1.mono Bl,hT.out.2⟩,aE.out.trans bG.out,oy,hF,ol,OB,RES,hb⟩,by simp [intOf];omega⟩
   rw [Dj (show Fd (upY Z) rid t tr from nH.out.2 q)];have aK:Hid (H9 Z.runs[k] t):=⟨fN.1,⟨Bl,Bl⟩,by rw [Ao,<-Ei dR];exact q⟩
   have bG:=Bq (show Fe Z k t=Fb Z k (De Z.runs[k] t) by rw [J6 q,Ei dR]);clear q nH;have CA:=CA2.out _ (Br _ _).drew;rw [show Da (upY Z) rid=k from gH.out] at CA;have CA:=Bq CA;have OB_:=OB.g4;obtain ⟨TQ_0,TQ_l⟩:=TQ.g1;go_upto_region 11 with fail
   refine Go.wp_region_noPanic ?_;refine wp_region_held_drew (S:=(fun w'=>w'.cell? ⟨tq,0,Ab⟩=Ac (Aa (Ac ⟨gl,pl,Ab⟩) 3 cl)/\w'.cell? ⟨gl,pl,Ab⟩=Ac (J U rid))) Bm ⟨TQ_0,l1⟩ (fun hHeld=>?_);refine tV 1 ?_
   (try simp only [pS])
   refine tV 2 ?_
   (try simp only [pS])
   refine tV 3 ?_
   (try simp only [pS])
   refine tV 5 ?_
   (try simp only [pS])
   clear OB_;clear TQ_0 TQ_l;have bd:Below w6 w6 w6.drew:=(Br _ _).drew;replace OB:=OB.below bd;replace RES:=RES.below bd;replace TQ:=TQ.below bd;replace l2:=(bd.cell (p:=⟨gl,_,Ab⟩) bW).trans l2;replace bW:gl<w6.drew:=bW;replace oy:Bu.ow _ F (upY Z) (⟨B1,m1,e1⟩,⟨B2,m2,e2⟩):=owB oy bd;replace ol:=Bq (ol.out.below bd);replace hb:=Bt hb bd;clear bd l1 l3 CA2;generalize w6.drew=w6 at *
   have OB_:=OB.g4;refine rC 0 (fun K_ hK=>?_);go_simp;refine hK.out _ _ hHeld (fun hHeld=>?_);clear hK K_
   (try simp only [pS])
   have hTq:=TQ.lt;refine rC 4 (fun K_ hK=>?_);go_simp;refine CA.out.mono ?_;rintro e5 wa ⟨rfl,ba⟩;clear OB_;replace OB:=OB.below ba;replace RES:=RES.below ba;replace TQ:=TQ.below ba;replace l2:=(ba.cell (p:=⟨gl,_,Ab⟩) bW).trans l2;have uQ:=(ba.cell (p:=⟨tq,_,Ab⟩) hTq).trans hHeld.1;have tM:=(ba.cell (p:=⟨gl,_,Ab⟩) bW).trans hHeld.2;replace bW:=Ai bW ba.size;replace oy:Bu.ow _ F (upY Z) (⟨B1,m1,e1⟩,⟨B2,m2,e2⟩):=owB oy ba;replace ol:=Bq (ol.out.below ba);replace hb:=Bt hb ba;clear ba CA;refine hK.out _ _ ⟨uQ,tM⟩ (fun hHeld=>?_);clear hK K_ uQ tM
   (try simp only [pS])
   have rB:=TQ.lt;have CH:=Bq (Jm 176 tq (Mn Tryz.func176 Bm Bm) (upY Z) ob (⟨B1,m1,e1⟩,⟨B2,m2,e2⟩) F k (De Z.runs[k] t) wa hT.out.1.four (fun s hs=>by have:=hT.out.1.all s hs;omega) (by have:=hT.out.1.seq;show 0<=Z.seq/\Z.seq<=_;omega) dR (by rw [Hj];have:=Dp aK.out.1;omega) (by have:=Dp aK.out.1;show Z.runs[k].tasks.length<=_;omega) OB oy hF.out.2.1
    (Bq fun W gr o n c rs G1 Fx G2 sr hW hFo=>Ada gr o n c rs k G1 Fx G2 Z.runs[k] sr t tq gl pl cl W ((TQ.below hW).cell 0 _ rfl) (TQ.below hW).lt ((hW.cell (p:=⟨gl,_,Ab⟩) bW).trans l2) (Ai bW hW.size) aK.out hFo))
   rw [Ad4,<-bG.out] at CH;refine rC 6 (fun K_ hK=>?_);go_simp;refine CH.out.mono ?_;rintro e6 wb ⟨rfl,F',OB',oy',nF',hc⟩;have aV:=hb.size;have dK:=RES.lt;have hobA:=OB.lt;have cE:∀ x∈ob :: F,w.heap.size+1<x:=fun x hx=>by
    rcases List.mem_cons.1 hx with rfl | hx
    ·exact hobR
    ·exact hF.out.1 x hx
   have tA:∀ x∈Fl,x∉ob :: F:=fun x hx hx2=>by
    rcases List.mem_cons.1 hx2 with e | hx2
    ·exact (hFln.out x hx).1 e
    ·exact hF.out.2.2 x hx hx2
   have hqn:tq∉ob :: F:=fun hx=>by
    rcases List.mem_cons.1 hx with e | hx
    ·exact hqo e
    ·exact hqF hx
   have uQ:=(hc.cell (p:=⟨tq,_,Ab⟩) rB hqn).trans hHeld.1;have tM:=(hc.cell (p:=⟨gl,_,Ab⟩) bW (tA gl fL)).trans hHeld.2;have rY:=ol.out.lt;replace RES:=RES.chg hc (fun hx=>by have:=cE _ hx;omega);replace hb:=hb.trans (hc.below (base:=w.heap.size) aV (fun x hx=>by have:=cE x hx;omega));replace ol:=Bq (ol.out.chg hc tA);have qY:Hid ((∀ x∈F',w.heap.size+1<x)/\ob∉F' /\ ∀ x∈Fl,x∉F'):=⟨fun x hx=>by
    rcases nF' x hx with h | h
    ·exact hF.out.1 x h
    ·omega,fun hx=>by
    rcases nF' _ hx with h | h
    ·exact hF.out.2.1 h
    ·omega,fun x hx hx2=>by
    rcases nF' x hx2 with h | h
    ·exact hF.out.2.2 x hx h
    ·have:=rY x hx;omega⟩
   clear CH OB oy hc nF' cE tA rY TQ l2 hqn;refine hK.out _ _ ⟨uQ,tM⟩ (fun hHeld=>?_);clear hK K_ uQ tM
   (try simp only [pS])
   refine wpAnyH_done Bm ?_ _;refine NoPanic.normal ?_;clear hHeld;generalize Fe Z k t=Z1 at *
   go_wp2;exact ⟨⟨i+1,Z1,F',Bl,by go_num,hN,aE,oy',qY,ol,OB',RES,hb⟩,by simp [intOf];omega⟩
  ·have aB:¬ (i:Int)<(L.length:Int):=Bl;have hZ1:=Bq (show Ew y L=Z by have:=hZ.out;rw [Bg Bl] at this;exact this);have H3:=Bq (show Ip y=upY Z by rw [H2.out,hZ1.out]);have OB_:=OB.g4;have RES_:=RES.g4;have rf:=RES.free;go_wp2;have en1:w.heap.size+1∉F:=fun hx=>by have:=hF.out.1 _ hx;omega
   refine Aj (Qz (DBox.row4 RES rfl _ _ _ _)) rfl ⟨(⟨B1,m1,e1⟩,⟨B2,m2,e2⟩),F,by rw [H.out,H3.out],by rw [H3.out];exact Bu.set4 (F:=F) (x:=upY Z) (s:=(⟨B1,m1,e1⟩,⟨B2,m2,e2⟩)) oy en1,fun x hx=>by have:=hF.out.1 x hx;omega,?_⟩;repeat (first | (with_reducible exact hb) | refine Ad ?_ Bo _)
theorem P8 {b:Nat} {w:World} {u0 u1 u2 u3:Value} (X:DBox b [u0,u1,u2,u3] w) {v0 v1:Value} {rest:List Value} :
  (results Tryz.f115 (v0 :: v1 :: .pointer (Ac ⟨b,0,Ab⟩) :: rest).toArray).run Am w = .ok (.agg #[u0,u1,u2,u3]) w:=by
 obtain ⟨c0,c1,c2,c3,-⟩:=X.g4;simp [results,Tryz.results115,go_sem,c0,c1,c2,c3]
theorem Xw (gr o n c:Nat) (rs:List (Run×Ch.S)) (k:Nat) (G1 Fx G2:List Nat) (r:Run) (s:Sl×Sl) (u p:Nat) (w:World) (hp:w.cell? ⟨p,0,Ab⟩=Ac (J U u)) (hp':p<w) (hR:H9 r u) (hF:Foc Ch w gr o n c rs k G1 Fx G2 r s) :
  Calls Am 180 #[.pointer (Ac ⟨gr,o+k * 8,Ab⟩),.pointer (Ac ⟨p,0,Ab⟩)] w (Hk gr o n c rs k G1 Fx G2 (De r u) s w):=by
 have C:=Bq (Ly gr o n c rs k G1 Fx G2 r s u w (by have:=Dp hR.1;omega) hR hF);go_enter Tryz.func180,Tryz.ntmps180;go_wp2_with fail
 refine C.out.mono ?_;rintro e w1 ⟨rfl,h1,h2⟩;have HF:=Bq (show Hk gr o n c rs k G1 Fx G2 (De r u) s w (.returned (.tuple #[])) w1 from ⟨rfl,h1,h2⟩);clear h1 h2 C;go_wp2;exact Aj (v:=.tuple #[]) (by simp [results,Tryz.results180,go_sem]) rfl HF.out
theorem Sk (y:Yard) (s:Sl×Sl) (w:World) (hl:Cb y<=2000000) (h:Bu.rd w w y s) :
  Calls Am 115 #[Dg y s] w (Di Bu Dg (Le y) w):=by
 have HR:=Bq (show ∀ W,Below w w W->Bu.rd W W y s from fun W hW=>Bu.rd_more (Bu.rd_below h hW) hW.size);obtain ⟨⟨A1,n1,c1⟩,⟨A2,n2,c2⟩⟩:=s;have CC:=Bq (fun W hW=>Eo y (⟨A1,n1,c1⟩,⟨A2,n2,c2⟩) W hl (HR.out W hW));have CY:=Bq (fun W hW=>Fi y (⟨A1,n1,c1⟩,⟨A2,n2,c2⟩) W hl (HR.out W hW));clear h;obtain ⟨W,aG,X,RES,B0⟩:=bx2 w 31 [J U y.now,J U y.seq,Aa A1 n1 c1,Aa A2 n2 c2] 31 [J U 0,J U 0,Aa Ab 0 0,Aa Ab 0 0];go_enter Tryz.func115,Tryz.ntmps115;go_wp2_with fail
 rw [<-aG.out];clear aG;refine (CC.out _ B0).mono ?_;rintro e1 w1 ⟨⟨⟨B1,m1,e1⟩,⟨B2,m2,e2⟩⟩,F,rfl,oy,nF,b1⟩;have dK:=RES.lt;have b2:Below w1 w1 (w1.alloc (.cells #[J U y.now,J U y.seq,Aa B1 m1 e1,Aa B2 m2 e2] 31)):=(Br _ _).alloc (Bs _) _;have OB:DBox w1 (Eh y (⟨B1,m1,e1⟩,⟨B2,m2,e2⟩)) _:=DBox.new 31 [J U y.now,J U y.seq,Aa B1 m1 e1,Aa B2 m2 e2] w1 (b:=w1.heap.size) rfl;have bP:=Bq (Bu.ow_lt (F:=F) (x:=y) (s:=(⟨B1,m1,e1⟩,⟨B2,m2,e2⟩)) oy);have cL:=Bq (show ∀ x∈F,w.heap.size+1<x from fun x hx=>by have:=nF x hx;omega);replace oy:Bu.ow _ F y (⟨B1,m1,e1⟩,⟨B2,m2,e2⟩):=owB oy b2;have b12:=Bt b1 b2;replace X:=X.below b12;replace RES:=RES.below b12;replace B0:=Bt B0 b12;have bL:=b1.size;clear b1 b2 b12 CC nF;go_upto_region 2 with fail
 have cJ:w1.heap.size∉F:=fun h=>by have:=bP.out _ h;omega
 have hobR:w.heap.size+1<w1.heap.size:=Bl;generalize w1.heap.size=ob at *
 generalize w1.alloc (.cells #[J U y.now,J U y.seq,Aa B1 m1 e1,Aa B2 m2 e2] 31)=w2 at *
 have X_:=X.g4;go_wp2_with fail
 refine (CY.out _ B0).mono ?_;rintro e1' w3 ⟨rfl,b3⟩;clear X_;replace X:=X.below b3;replace RES:=RES.below b3;replace OB:=OB.below b3;replace B0:=Bt B0 b3;replace oy:Bu.ow w3 F y (⟨B1,m1,e1⟩,⟨B2,m2,e2⟩):=owB oy b3;clear b3 CY bP;by_cases p0:Dd y;case neg =>
  rw [Cf p0];have H2:=Bq (show Le y=y from if_neg p0);clear p0;have RES_:=RES.g4;have OB_:=OB.g4;have rf:=RES.free;go_wp2;have en1:w.heap.size+1∉F:=fun hx=>by have:=cL.out _ hx;omega
  refine Aj (P8 (DBox.row4 RES rfl _ _ _ _)) rfl ⟨(⟨B1,m1,e1⟩,⟨B2,m2,e2⟩),F,by rw [H2.out],by rw [H2.out];exact Bu.set4 (F:=F) (x:=y) (s:=(⟨B1,m1,e1⟩,⟨B2,m2,e2⟩)) oy en1,fun x hx=>by have:=cL.out x hx;omega,?_⟩;repeat (first | (with_reducible exact B0) | refine Ad ?_ Bo _)
 rw [Dj p0];have P0:=Bq p0;have H2:=Bq (show Le y=Ew y (G8 y y.runs.length) from if_pos p0);clear p0;obtain rfl:n2=y.runs.length:=RdL.at1 (s:=⟨A2,n2,c2⟩) (HR.out w (Br _ _)).2;have CX:=Bq (fun W (hW:Below w w W)=>show RdL Ch W W.heap.size (Aa A2 y.runs.length c2) y.runs from (HR.out W hW).2);clear HR;have qZ:y.runs.length<=8:=P0.out.2.2.2.2.2.2.1;have fV:Hid ((∀ x∈F,w.heap.size+1<x)/\ob∉F):=⟨cL.out,cJ⟩
 clear cL cJ;have X_:=X.g4;go_wp2;clear X_;go_loopw [17] (fun iv wr=>∃ (k:Nat) (Z:Yard) (F:List Nat),k<=y.runs.length/\iv = J U k/\Hid (Trn y (12 * k) Z/\SameTry y Z)/\Hid (Ew y (G8 y k)=Z)/\Hid (Bu.ow wr F Z (⟨B1,m1,e1⟩,⟨B2,m2,e2⟩))/\Hid ((∀ x∈F,w.heap.size+1<x)/\ob∉F)/\DBox ob (Eh Z (⟨B1,m1,e1⟩,⟨B2,m2,e2⟩)) wr/\DBox (w.heap.size+1) [J U 0,J U 0,Aa Ab 0 0,Aa Ab 0 0] wr/\Below w w wr) (fun i _=>y.runs.length - (intOf i).toNat);case atStart=>exact ⟨0,y,F,Ag _,rfl,⟨Trn.start P0.out,fun _ _=>rfl⟩,rfl,oy,fV,OB,RES,B0⟩
 case round =>
  clear oy fV OB RES B0 X;obtain ⟨k,Z,F,hk,rfl,hT,hZ,oy,hF,OB,RES,hb⟩:=hrel;by_cases aA:k<y.runs.length
  ·have aB:(k:Int)<(y.runs.length:Int):=Bl;have dB:(0:Int)<=(k:Int):=Bl;obtain ⟨b,o,⟨⟨A8,n8,c8⟩,⟨At,nt,ct⟩⟩,rfl,aH,cD,e0,e1_,e2_,e3,e4,e5,e6,e7⟩:=(CX.out w (Br _ _)).run aA;obtain rfl:nt=y.runs[k].tasks.length:=RdL.at1 (s:=⟨At,nt,ct⟩) cD.2;have HT:=Bq (fun W (hW:Below w w W)=>show RdL Ee W w.heap.size (Aa At y.runs[k].tasks.length ct) y.runs[k].tasks from RdL.below cD.2 hW);clear cD;replace e0:=(hb.cell (p:=⟨b,_,Ab⟩) aH).trans e0;replace e1_:=(hb.cell (p:=⟨b,_,Ab⟩) aH).trans e1_;replace e2_:=(hb.cell (p:=⟨b,_,Ab⟩) aH).trans e2_;replace e3:=(hb.cell (p:=⟨b,_,Ab⟩) aH).trans e3;replace e4:=(hb.cell (p:=⟨b,_,Ab⟩) aH).trans e4;replace e5:=(hb.cell (p:=⟨b,_,Ab⟩) aH).trans e5;replace e6:=(hb.cell (p:=⟨b,_,Ab⟩) aH).trans e6;replace e7:=(hb.cell (p:=⟨b,_,Ab⟩) aH).trans e7;have bQ:b<wr:=Ai aH hb.size;have R:=DBox.new 89 [J U y.runs[k].id,J U y.runs[k].plan.prio,J U y.runs[k].plan.most,J U y.runs[k].plan.wait,J U y.runs[k].plan.tasks,Aa A8 n8 c8,J U y.runs[k].state,Aa At y.runs[k].tasks.length ct] wr (b:=wr.heap.size) rfl;have ha:Below wr wr (wr.alloc (.cells #[J U y.runs[k].id,J U y.runs[k].plan.prio,J U y.runs[k].plan.most,J U y.runs[k].plan.wait,J U y.runs[k].plan.tasks,Aa A8 n8 c8,J U y.runs[k].state,Aa At y.runs[k].tasks.length ct] 89)):=(Br _ _).alloc (Bs _) _;go_upto_region 7 with fail
   have hobr:=OB.lt;have hrF:wr.heap.size∉F:=fun hx=>by have:=Bu.ow_lt (F:=F) (x:=Z) (s:=(⟨B1,m1,e1⟩,⟨B2,m2,e2⟩)) oy.out _ hx;omega
   replace OB:=OB.below ha;replace RES:=RES.below ha;replace oy:Hid (Bu.ow _ F Z (⟨B1,m1,e1⟩,⟨B2,m2,e2⟩)):=Bq (Bu.ow_below (F:=F) (x:=Z) (s:=(⟨B1,m1,e1⟩,⟨B2,m2,e2⟩)) oy.out ha);replace hb:=Bt hb ha;clear e0 e1_ e2_ e3 e4 e5 e6 e7 aH ha bQ;have hrbn:wr≠ob:=Bl;generalize wr.alloc (.cells #[J U y.runs[k].id,J U y.runs[k].plan.prio,J U y.runs[k].plan.most,J U y.runs[k].plan.wait,J U y.runs[k].plan.tasks,Aa A8 n8 c8,J U y.runs[k].state,Aa At y.runs[k].tasks.length ct] 89)=w1 at *
   generalize wr.heap.size=rb at *
   have R_:=R.g8;go_wp2;clear R_;have qV:Hid ((∀ x∈F,w.heap.size+1<x)/\ob∉F/\rb∉F):=⟨hF.out.1,hF.out.2,hrF⟩
   go_loopw [25] (fun iv wr=>∃ (t:Nat) (Z:Yard) (F:List Nat),t<=y.runs[k].tasks.length/\iv = J U t/\Hid (Trn y (12 * k+t) Z/\SameTry y Z)/\Hid (Ew y (G8 y k ++ I6 k t)=Z)/\Hid (Bu.ow wr F Z (⟨B1,m1,e1⟩,⟨B2,m2,e2⟩))/\Hid ((∀ x∈F,w.heap.size+1<x)/\ob∉F/\rb∉F)/\DBox ob (Eh Z (⟨B1,m1,e1⟩,⟨B2,m2,e2⟩)) wr/\DBox (w.heap.size+1) [J U 0,J U 0,Aa Ab 0 0,Aa Ab 0 0] wr/\DBox rb [J U y.runs[k].id,J U y.runs[k].plan.prio,J U y.runs[k].plan.most,J U y.runs[k].plan.wait,J U y.runs[k].plan.tasks,Aa A8 n8 c8,J U y.runs[k].state,Aa At y.runs[k].tasks.length ct] wr/\Below w w wr) (fun i _=>y.runs[k].tasks.length - (intOf i).toNat);case atStart=>exact ⟨0,Z,F,Ag _,rfl,hT,by rw [show I6 k 0=[] from rfl,List.append_nil];exact hZ,oy,qV,OB,RES,R,hb⟩
   case round =>
    clear oy hF OB RES R hb qV hrF hT hZ;obtain ⟨t,Z,F,ht,rfl,hT,hZ,oy,hF,OB,RES,R,hb⟩:=hrel;replace oy:Bu.ow wr F Z (⟨B1,m1,e1⟩,⟨B2,m2,e2⟩):=oy.out;have fH:=(Dp (D7 P0.out aA)).2;by_cases eT:t<y.runs[k].tasks.length
    ·have nU:(t:Int)<(y.runs[k].tasks.length:Int):=Bl;have uU:(0:Int)<=(t:Int):=Bl;obtain ⟨b',o',_,rfl,bI,_,d0,d1,d2,d3⟩:=(HT.out wr hb).task eT;have aE:Hid (Ew y (G8 y k ++ I6 k (t+1))=Fe Z k t):=by
      show Ew y _=_;rw [<-hZ.out,Rl,<-List.append_assoc];unfold Ew;rw [List.foldl_append];rfl
     have dR:k<Z.runs.length:=by rw [hT.out.1.len];exact aA
     have fN:=hT.out.1.run k dR aA;have jN:t<Z.runs[k].tasks.length:=by rw [fN.2.2];exact eT
     have gH:=Bq (show Da Z y.runs[k].id=k from (hT.out.1.runAt _).trans (P0.out.2.2.2.2.2.2.2.1 k aA).2);have pT:=hT.out.1.cnt Bl;have hN:=Bq (show Trn y (12 * k+(t+1)) (Fe Z k t)/\SameTry y (Fe Z k t) from ⟨hT.out.1.fail dR jN,hT.out.2.fail dR t⟩);have nH:=Bq (U0 hT.out.1 hT.out.2 dR jN gH.out);rw [Ei aA,Cr eT] at nH;have gC:=OB.lt;have hRw:=R.lt;have tA:=Bu.ow_lt (F:=F) (x:=Z) (s:=(⟨B1,m1,e1⟩,⟨B2,m2,e2⟩)) oy;generalize y.runs[k].tasks[t]=x at *
     have IB:=(DBox.new 3 [J U t] wr (b:=wr.heap.size) rfl).below ((Br _ _).alloc (Bs _) (.cells #[J U x.state,J U x.need,J U x.try_,J U x.until_] 138));have TB:=DBox.new 138 [J U x.state,J U x.need,J U x.try_,J U x.until_] (wr.alloc (.cells #[J U t] 3)) (b:=wr.heap.size+1) Bn;have bq:Below wr wr ((wr.alloc (.cells #[J U t] 3)).alloc (.cells #[J U x.state,J U x.need,J U x.try_,J U x.until_] 138)):=by repeat (first | exact Br _ _ | refine Below.alloc ?_ Bo _)
     go_upto_region 10 with fail
     replace OB:=OB.below bq;replace RES:=RES.below bq;replace R:=R.below bq;replace oy:Bu.ow _ F Z (⟨B1,m1,e1⟩,⟨B2,m2,e2⟩):=owB oy bq;replace hb:=Bt hb bq;clear bq d0 d1 d2 d3;have hiF:wr.heap.size∉ob :: F:=fun hx=>by
      rcases List.mem_cons.1 hx with e | hx
      ·omega
      ·have:=tA _ hx;omega
     clear tA;generalize (wr.alloc (.cells #[J U t] 3)).alloc (.cells #[J U x.state,J U x.need,J U x.try_,J U x.until_] 138)=w5 at *
     generalize wr.heap.size=iq at *
     have CH:=Bq (fun W (hW:Below w5 w5 W)=>Lv Z (⟨B1,m1,e1⟩,⟨B2,m2,e2⟩) y.runs[k].id t x.try_ W pT (Bu.rd_more (Bu.rd_below (x:=Z) (s:=(⟨B1,m1,e1⟩,⟨B2,m2,e2⟩)) (Bu.ow_rd (F:=F) (x:=Z) (s:=(⟨B1,m1,e1⟩,⟨B2,m2,e2⟩)) oy) hW) hW.size));have OB_:=OB.g4;have R_:=R.g8;have TB_:=TB.g4;obtain ⟨IB_0,IB_l⟩:=IB.g1;go_wp2_with fail
     refine (CH.out _ (Br _ _)).mono ?_;rintro e5 w6 ⟨rfl,b6⟩;clear CH;clear OB_;clear R_;clear TB_;clear IB_0 IB_l;replace OB:=OB.below b6;replace RES:=RES.below b6;replace R:=R.below b6;replace IB:=IB.below b6;clear TB;replace oy:Bu.ow _ F Z (⟨B1,m1,e1⟩,⟨B2,m2,e2⟩):=owB oy b6;replace hb:=Bt hb b6;clear b6;by_cases q:(Cs (Gl Z k) t).state=3;case neg =>
      rw [Cf (show ¬ Fd Z y.runs[k].id t x.try_ from fun h=>q (nH.out.1 h))];have bG:=Bq (show Fe Z k t=Z from K0 q);clear q nH;go_wp2;exact ⟨⟨t+1,Z,F,Bl,by go_num,⟨hT.out.1.mono Bl,hT.out.2⟩,aE.out.trans bG.out,oy,hF,OB,RES,R,hb⟩,by simp [intOf];omega⟩
     rw [Dj (show Fd Z y.runs[k].id t x.try_ from nH.out.2 q)];have aK:Hid (H9 Z.runs[k] t):=⟨fN.1,⟨Bl,Bl⟩,by rw [Ao,<-Ei dR];exact q⟩
     have bG:=Bq (show Fe Z k t=Fb Z k (De Z.runs[k] t) by rw [J6 q,Ei dR]);clear q nH;have CH:=Bq (Jm 180 iq (Mn Tryz.func180 Bm Bm) Z ob (⟨B1,m1,e1⟩,⟨B2,m2,e2⟩) F k (De Z.runs[k] t) w6 hT.out.1.four (fun s hs=>by have:=hT.out.1.all s hs;omega) (by have:=hT.out.1.seq;omega) dR (by rw [Hj];have:=Dp aK.out.1;omega) (by have:=Dp aK.out.1;omega) OB oy hF.out.2.1
      (Bq fun W gr o n c rs G1 Fx G2 sr hW hFo=>Xw gr o n c rs k G1 Fx G2 Z.runs[k] sr t iq W ((IB.below hW).cell 0 _ rfl) (IB.below hW).lt aK.out hFo))
     rw [<-bG.out] at CH;go_wp2_with fail
     refine CH.out.mono ?_;rintro e6 wb ⟨rfl,F',OB',oy',nF',hc⟩;have aV:=hb.size;have dK:=RES.lt;have hobA:=OB.lt;have hrbA:=R.lt;have cE:∀ x∈ob :: F,w.heap.size+1<x:=fun x hx=>by
      rcases List.mem_cons.1 hx with rfl | hx
      ·exact hobR
      ·exact hF.out.1 x hx
     have hrn2:rb∉ob :: F:=fun hx=>by
      rcases List.mem_cons.1 hx with e | hx
      ·exact hrbn e
      ·exact hF.out.2.2 hx
     replace RES:=RES.chg hc (fun hx=>by have:=cE _ hx;omega);replace R:=R.chg hc hrn2;replace hb:=hb.trans (hc.below (base:=w.heap.size) aV (fun x hx=>by have:=cE x hx;omega));have qY:Hid ((∀ x∈F',w.heap.size+1<x)/\ob∉F'/\rb∉F'):=⟨fun x hx=>by
      rcases nF' x hx with h | h
      ·exact hF.out.1 x h
      ·omega,fun hx=>by
      rcases nF' _ hx with h | h
      ·exact hF.out.2.1 h
      ·omega,fun hx=>by
      rcases nF' _ hx with h | h
      ·exact hF.out.2.2 h
      ·omega⟩
     clear CH OB oy hc nF' cE hrn2 IB;generalize Fe Z k t=Z1 at *
     go_wp2;exact ⟨⟨t+1,Z1,F',Bl,by go_num,hN,aE,oy',qY,OB',RES,R,hb⟩,by simp [intOf];omega⟩
    ·have nU:¬ (t:Int)<(y.runs[k].tasks.length:Int):=Bl;have hZ3:=Bq (show Ew y (G8 y (k+1))=Z by rw [Nq,Ei aA,show y.runs[k].tasks.length=t by omega];exact hZ.out);go_wp2;exact ⟨⟨k+1,Z,F,Bl,by go_num,⟨hT.out.1.mono Bl,hT.out.2⟩,hZ3,oy,⟨hF.out.1,hF.out.2.1⟩,OB,RES,hb⟩,by simp [intOf];omega⟩
  ·have aB:¬ (k:Int)<(y.runs.length:Int):=Bl;have H3:=Bq (show Le y=Z by rw [H2.out,<-hZ.out,show k=y.runs.length by omega]);have oy:=oy.out;have OB_:=OB.g4;have RES_:=RES.g4;have rf:=RES.free;go_wp2;have en1:w.heap.size+1∉F:=fun hx=>by have:=hF.out.1 _ hx;omega
   refine Aj (P8 (DBox.row4 RES rfl _ _ _ _)) rfl ⟨(⟨B1,m1,e1⟩,⟨B2,m2,e2⟩),F,by rw [H3.out],by rw [H3.out];exact Bu.set4 (F:=F) (x:=Z) (s:=(⟨B1,m1,e1⟩,⟨B2,m2,e2⟩)) oy en1,fun x hx=>by have:=hF.out.1 x hx;omega,?_⟩;repeat (first | (with_reducible exact hb) | refine Ad ?_ Bo _)
theorem Is (r:Run):Cw r=r.plan.edges.length+r.tasks.length:=by
 have e1:Eb r.plan=r.plan.edges.length:=Fn (fun _=>rfl) _;have e2:E6 He r.tasks=r.tasks.length:=Fn (fun _=>rfl) _;unfold Cw;omega
theorem Lf {y:Yard} {M:Nat} (h4:y.shelf.length=4) (hM:∀ s∈y.shelf,s.length<=M) (h8:y.runs.length<=8) (hr:∀ r∈y.runs,Cw r<=42):Cb y<=4 * (M+1)+344:=by
 have h1:E6 C8 y.shelf<=y.shelf.length * (M+1):=Py (fun s hs=>by
  have e:C8 s=s.length:=Fn (fun _=>rfl) _;rw [e];exact hM s hs)
 have h2:E6 Cw y.runs<=y.runs.length * (42+1):=Py hr;rw [h4] at h1;have h3:y.runs.length * (42+1)<=8 * 43:=Nat.mul_le_mul_right _ h8;unfold Cb;omega
theorem Ex {y:Yard} (h:Dd y):∀ r∈y.runs,Cw r<=42:=fun r hr=>by
 obtain ⟨k,hk,rfl⟩:=List.getElem_of_mem hr
 exact J3 (D7 h hk)
theorem Aad {y:Yard} {k:Nat} {r:Run} (hy:Dd y) (hk:k<y.runs.length) (hc:Cw r<=42) (hT:r.tasks.length<=12):Cb (Fb y k r)<=2000000:=by
 rw [Wb _ _ _ hk];have hF:=O4 (y:=⟨y.now,y.seq,y.shelf,y.runs.set k r⟩) (was:=y.runs[k]) (r:=r) (M:=80) (fun s hs=>(hy.2.2.2.1 s hs).1) r.tasks.length
 have:=Lf (M:=92) (hF.len.trans hy.2.2.1) (fun s hs=>by have:=hF.all s hs;omega) (by rw [hF.runs];simp;exact hy.2.2.2.2.2.2.1) (fun x hx=>by
  rw [hF.runs] at hx;rcases List.mem_or_eq_of_mem_set hx with h | h
  ·exact Ex hy x h
  ·rw [h];exact hc)
 omega
theorem Trn.folds {y:Yard} (hy:Dd y):∀ (l:List (Nat×Nat)) (z:Yard) (m:Nat),Trn y m z->(∀ p∈l,p.1<y.runs.length/\p.2<(Gl y p.1).tasks.length)->Trn y (m+l.length) (Ew z l)
 | [],z,m,h,_=>h
 | p :: l,z,m,h,hl=>by
  have hp:=hl p (List.mem_cons_self ..);have hk:p.1<z.runs.length:=by rw [h.len];exact hp.1
  have h1:=h.fail hk (t:=p.2) (by rw [(h.run p.1 hk hp.1).2.2,<-Ei hp.1];exact hp.2);have h2:=Trn.folds hy l (Fe z p.1 p.2) (m+1) h1 (fun q hq=>hl q (List.mem_cons_of_mem _ hq));rw [List.length_cons,show m+(l.length+1)=m+1+l.length by omega];exact h2
theorem Abk {y:Yard} {n:Nat} {p:Nat×Nat} (h:p∈G8 y n):p.1<n/\p.2<(Gl y p.1).tasks.length:=by
 unfold G8 at h;obtain ⟨j,hj,hp⟩:=List.mem_flatMap.1 h;unfold I6 at hp;obtain ⟨t,ht,rfl⟩:=List.mem_map.1 hp;exact ⟨List.mem_range.1 hj,List.mem_range.1 ht⟩
theorem U3 {y:Yard} (h:∀ j,(Gl y j).tasks.length<=12):∀ k,(G8 y k).length<=12 * k
 | 0=>by simp [G8]
 | k+1=>by
  rw [Nq,List.length_append];have h1:=U3 h k;have h3:=h k;have h2:(I6 k (Gl y k).tasks.length).length=(Gl y k).tasks.length:=by unfold I6;simp
  omega
theorem Ad5 {y:Yard} {id tk tr:Int} (q:Fk y id tk tr=0):Dd y /\ ∃ k,∃ hk:k<y.runs.length,Da y id=(k:Int)/\Js y id=y.runs[k]:=by
 unfold Fk at q;by_cases p0:Dd y
 ·by_cases p1:Da y id<0
  ·rw [if_neg (fun h=>h p0),if_pos p1] at q;cases q
  ·rcases Ek y id with hr | ⟨k,hk,hr⟩
   ·omega
   ·exact ⟨p0,k,hk,hr,Gf hk hr⟩
 ·rw [if_pos p0] at q;cases q
theorem Ael {y:Yard} {d:Deed} (h:Cb y<=2000000):Cb (doO y d).1<=2000000:=by
 unfold doO;split
 ·exact h
 split
 ·show Cb (Iy y d.run d.plan)<=_;unfold Iy;split
  ·next q =>
   unfold Ix at q;by_cases p0:Dd y
   ·rw [if_neg (fun h=>h p0)] at q;split at q
    ·cases q
    split at q
    ·cases q
    split at q
    ·next hf=>exact absurd q hf
    next hf =>
    split at q
    ·cases q
    next hr =>
    have hf0:Co d.plan=0:=Classical.not_not.1 hf;have hm:=C9.1 hf0;have hT:=Dw hm.1;have hE:=Ez hm.1;have eM:=Oy d.run d.plan;have qZ:y.runs.length<8:=by
     have nX:Ln y d.plan=true:=by cases e:Ln y d.plan<;>simp_all
     unfold Ln at nX;simp only [Bool.and_eq_true,decide_eq_true_eq] at nX;exact nX.1
    have hF:=O4 (y:=⟨y.now,y.seq,y.shelf,y.runs ++ [Ci d.run d.plan]⟩) (was:=Gh) (r:=Ci d.run d.plan) (M:=80) (fun s hs=>(p0.2.2.2.1 s hs).1) (Ci d.run d.plan).tasks.length
    have:=Lf (y:=Mm ⟨y.now,y.seq,y.shelf,y.runs ++ [Ci d.run d.plan]⟩ Gh (Ci d.run d.plan)) (M:=92) (hF.len.trans p0.2.2.1) (fun s hs=>by have:=hF.all s hs;omega) (by
     show (Hs _ _ _ _).runs.length<=8;rw [hF.runs];simp;omega) (fun x hx=>by
     have eH:x∈(Hs ⟨y.now,y.seq,y.shelf,y.runs ++ [Ci d.run d.plan]⟩ Gh (Ci d.run d.plan) (Ci d.run d.plan).tasks.length).runs:=hx;rw [hF.runs] at eH;rcases Bi.1 eH with h1 | h1
     ·exact Ex p0 x h1
     ·rw [List.mem_singleton.1 h1,Is];show d.plan.edges.length+_<=42;omega)
    omega
   ·rw [if_pos p0] at q;cases q
  ·exact h
 ·show Cb (Io y d.worker d.draw).1<=_;unfold Io;by_cases p0:Dd y;case neg=>rw [if_pos p0];exact h
  rw [if_neg (fun h=>h p0)];split
  ·exact h
  ·next hw =>
   have kX:=Cv.1 (show inB d.worker 0 99=true by cases e:inB d.worker 0 99<;>simp_all);have hh:(d.worker % 4).toNat<4:=Bl;have hP:Pol y (d.worker % 4).toNat (Lb y (d.worker % 4) d.draw):=by
    unfold Lb;refine Pol.fold hh _ _ (Pol.start p0 hh) (fun v hv=>⟨O7 v hv,O8 Bl Bl v hv⟩)
   have hc:=hP.cnt p0;unfold M6 Rk;split
   ·exact hc
   ·next e rest jW =>
    have h80:∀ s∈(Lb y (d.worker % 4) d.draw).shelf.set (d.worker % 4).toNat rest,s.length<=80:=fun s hs=>by
     rcases List.mem_or_eq_of_mem_set hs with h1 | h1
     ·exact hP.all s h1
     ·have h2:=hP.all _ (Aw (show (d.worker % 4).toNat<(Lb y (d.worker % 4) d.draw).shelf.length by rw [hP.four];exact hh));rw [Fz (by rw [hP.four];exact hh)] at jW;rw [jW] at h2;rw [h1];simp at h2;omega
    have:=Lf (y:=⟨(Lb y (d.worker % 4) d.draw).now,(Lb y (d.worker % 4) d.draw).seq,(Lb y (d.worker % 4) d.draw).shelf.set (d.worker % 4).toNat rest,(Lb y (d.worker % 4) d.draw).runs.set (Da (Lb y (d.worker % 4) d.draw) e.run).toNat (Du (Js (Lb y (d.worker % 4) d.draw) e.run) e.task.toNat (Lb y (d.worker % 4) d.draw).now)⟩) (M:=80) (by simpa using hP.four) h80 (by simp;rw [hP.runs];exact p0.2.2.2.2.2.2.1) (fun x hx=>by
     rcases List.mem_or_eq_of_mem_set hx with h1 | h1
     ·rw [hP.runs] at h1;exact Ex p0 x h1
     ·rw [h1,Is,Ms];show (Js (Lb y (d.worker % 4) d.draw) e.run).plan.edges.length+_<=42;rw [<-Is];unfold Js;rw [List.getD_eq_getElem?_getD];cases q:(Lb y (d.worker % 4) d.draw).runs[(Da (Lb y (d.worker % 4) d.draw) e.run).toNat]? with
      | none=>decide
      | some r =>
       have h2:=List.mem_of_getElem? q;rw [hP.runs] at h2;exact Ex p0 r h2)
    dsimp only;omega
 ·show Cb (Ke y d.run d.task d.try_)<=_;unfold Ke;split
  ·next q =>
   obtain ⟨p0,k,hk,e1,e2⟩:=Ad5 q;rw [e1,e2,Ao];have hs:=Ex p0 _ (Aw hk);have hl:=Dp (D7 p0 hk);exact Aad p0 hk (by rw [Is,N2];rw [Is] at hs;exact hs) (by rw [N2];exact hl.2)
  ·exact h
 ·show Cb (Kd y d.run d.task d.try_)<=_;unfold Kd;split
  ·next q =>
   obtain ⟨p0,k,hk,e1,e2⟩:=Ad5 q;rw [e1,e2,Ao];have hs:=Ex p0 _ (Aw hk);have hl:=Dp (D7 p0 hk);exact Aad p0 hk (by rw [Is,Hj,(Wa _ _).2];rw [Is] at hs;exact hs) (by rw [Hj];exact hl.2)
  ·exact h
 ·show Cb (Ip y)<=_;unfold Ip;split
  ·next q =>
   unfold I2 at q;by_cases p0:Dd y
   ·have hT:=Trn.folds p0 (E8 y y.runs.length) y 0 (Trn.start p0) (fun p hp=>Qy hp);have hl:=Kz (Mg p0) y.runs.length;have h8:=p0.2.2.2.2.2.2.1;exact hT.cnt Bl
   ·rw [if_pos p0] at q;cases q
  ·exact h
 ·show Cb (Hy y d.run)<=_;unfold Hy;split
  ·next q =>
   unfold Hx at q;by_cases p0:Dd y
   ·rw [if_neg (fun h=>h p0)] at q;split at q
    ·cases q
    next hr =>
    rcases Ek y d.run with e | ⟨k,hk,e⟩
    ·omega
    ·have eF:=Gf hk e
     have:=Lf (y:=⟨y.now,y.seq,y.shelf,y.runs.set (Da y d.run).toNat (Dm (Js y d.run) 4)⟩) (M:=80) p0.2.2.1 (fun s hs=>(p0.2.2.2.1 s hs).1) (by simp;exact p0.2.2.2.2.2.2.1) (fun x hx=>by
      rcases List.mem_or_eq_of_mem_set hx with h1 | h1
      ·exact Ex p0 x h1
      ·have hs:=Ex p0 _ (Aw hk);rw [Is] at hs;rw [h1,eF,Is];show y.runs[k].plan.edges.length+(y.runs[k].tasks.map Df).length<=42;rw [Ar];exact hs)
     omega
   ·rw [if_pos p0] at q;cases q
  ·exact h
 ·show Cb (Hv y d.run)<=_;unfold Hv;split
  ·next q =>
   unfold Hu at q;by_cases p0:Dd y
   ·have:=Lf (y:=⟨y.now,y.seq,y.shelf.map (C6 d.run),y.runs.take (Da y d.run).toNat ++ y.runs.drop ((Da y d.run).toNat+1)⟩) (M:=80) (by simp;exact p0.2.2.1) (fun s hs=>by
     obtain ⟨l,hl,rfl⟩:=List.mem_map.1 hs;exact Ah (List.length_filter_le _ _) (p0.2.2.2.1 l hl).1) (by have:=p0.2.2.2.2.2.2.1;simp;omega) (fun x hx=>by
     rcases Bi.1 hx with h1 | h1
     ·exact Ex p0 x (List.mem_of_mem_take h1)
     ·exact Ex p0 x (List.mem_of_mem_drop h1))
    omega
   ·rw [if_pos p0] at q;cases q
  ·exact h
 ·show Cb (Le y)<=_;unfold Le;split
  ·next p0 =>
   have hT:=Trn.folds p0 (G8 y y.runs.length) y 0 (Trn.start p0) (fun p hp=>Abk hp);have hl:=U3 (Mg p0) y.runs.length;have h8:=p0.2.2.2.2.2.2.1;exact hT.cnt Bl
  ·exact h
theorem Xx {b c:Nat} {w:World} {u0 u1 u2 u3 v0 v1 v2 v3:Value} (X:DBox b [u0,u1,u2,u3] w) (Y:DBox c [v0,v1,v2,v3] w) {x0 x1 x2 x3:Value} {rest:List Value} :
  (results Tryz.f56 (x0 :: x1 :: x2 :: x3 :: .pointer (Ac ⟨b,0,Ab⟩) :: .pointer (Ac ⟨c,0,Ab⟩) :: rest).toArray).run Am w = .ok (.tuple #[.agg #[u0,u1,u2,u3],.agg #[v0,v1,v2,v3]]) w:=by
 have c0:=X.cell 0 _ rfl;have c1:=X.cell 1 _ rfl;have c2:=X.cell 2 _ rfl;have c3:=X.cell 3 _ rfl;have d0:=Y.cell 0 _ rfl;have d1:=Y.cell 1 _ rfl;have d2:=Y.cell 2 _ rfl;have d3:=Y.cell 3 _ rfl;simp [results,Tryz.results56,go_sem,c0,c1,c2,c3,d0,d1,d2,d3]
theorem Abl (y:Yard) (s:Sl×Sl) (d:Deed) (sd:Sl) (w:World) (hl:Cb y<=2000000) (hp:d.plan.edges.length<=2000000) (h:Bu.rd w w y s) (pX:Cg.rd w w d sd) :
  Calls Am 56 #[Dg y s,Cy d sd] w (Sq (doO y d) w):=by
 obtain ⟨⟨A1,n1,c1⟩,⟨A2,n2,c2⟩⟩:=s;obtain ⟨A3,n3,c3⟩:=sd;have sE:Ca.rd w w d.plan ⟨A3,n3,c3⟩:=pX;obtain rfl:n3=d.plan.edges.length:=RdL.at1 (s:=⟨A3,n3,c3⟩) sE;have HR:=Bq (show ∀ W,Below w w W->Bu.rd W W y (⟨A1,n1,c1⟩,⟨A2,n2,c2⟩) from fun W hW=>Bu.rd_more (Bu.rd_below h hW) hW.size);have HP:=Bq (show ∀ W,Below w w W->Ca.rd W W d.plan ⟨A3,d.plan.edges.length,c3⟩ from fun W hW=>Ca.rd_more (Ca.rd_below sE hW) hW.size);have CD:=Bq (fun W (hW:Below w w W)=>Ug d ⟨A3,d.plan.edges.length,c3⟩ W (by show Eb d.plan<=_;rw [show Eb d.plan=d.plan.edges.length from Fn (fun _=>rfl) _];exact hp) (Cg.rd_more (Cg.rd_below pX hW) hW.size));have CC:=Bq (fun W hW=>Eo y (⟨A1,n1,c1⟩,⟨A2,n2,c2⟩) W hl (HR.out W hW));have CY:=Bq (fun W hW=>Fi y (⟨A1,n1,c1⟩,⟨A2,n2,c2⟩) W hl (HR.out W hW));clear h pX sE;obtain ⟨kd,rn,p,tk,ty,wk,dr⟩:=d;replace hp:p.edges.length<=2000000:=hp;replace HP:Hid (∀ W,Below w w W->Ca.rd W W p ⟨A3,p.edges.length,c3⟩):=HP;obtain ⟨W,aG,X,D,RES,RP,B0⟩:=bx4 w 31 [J U y.now,J U y.seq,Aa A1 n1 c1,Aa A2 n2 c2] 45 [J U kd,J U rn,J U p.prio,J U p.most,J U p.wait,J U p.tasks,Aa A3 p.edges.length c3,J U tk,J U ty,J U wk,J U dr] 31 [J U 0,J U 0,Aa Ab 0 0,Aa Ab 0 0] 69 [J U 0,J U 0,J U 0,J U 0];go_enter Tryz.func56,Tryz.ntmps56;go_wp2_with fail
 rw [<-aG.out];clear aG;have hWs:w.heap.size+1+1+1<W.heap.size:=RP.lt;refine (CD.out _ B0).mono ?_;rintro e1 w1 ⟨rfl,b1⟩;replace X:=X.below b1;replace D:=D.below b1;replace RES:=RES.below b1;replace RP:=RP.below b1;have bL:=b1.size;replace B0:=Bt B0 b1;clear b1 CD;have X_:=X.g4;have D_:=D.g11;cases hd:Db ⟨kd,rn,p,tk,ty,wk,dr⟩;case false =>
  have H:=Bq (show doO y ⟨kd,rn,p,tk,ty,wk,dr⟩=(y,⟨5,0,0,0⟩) from if_pos hd);clear hd;go_wp2_with fail
  refine (CC.out _ B0).mono ?_;rintro e2 w2 ⟨s2,F,rfl,oy,nF,b2⟩;have bV:∀ x∈F,w.heap.size+1+1+1<x:=fun x hx=>by have h1:=nF x hx;omega
  clear X_;clear D_;clear X D;replace RES:=RES.below b2;replace RP:=RP.below b2;replace B0:=Bt B0 b2;clear nF b2;obtain ⟨RES_0,RES_1,RES_2,RES_3,RES_l⟩:=RES.g4;obtain ⟨RP_0,RP_1,RP_2,RP_3,RP_l⟩:=RP.g4;have rf:=RES.free;have pf:=RP.free;have aC:w.heap.size+1+1+1≠w.heap.size+1+1:=Bl;go_wp2;have RES2:=DBox.row4 RES rfl (J U y.now) (J U y.seq) (Aa s2.1.a s2.1.n s2.1.c) (Aa s2.2.a s2.2.n s2.2.c);have RP2:=DBox.row4 ((((RP.setOther (a:=⟨w.heap.size+1+1,0,Ab⟩) aC (J U y.now)).setOther (a:=⟨w.heap.size+1+1,1,Ab⟩) aC (J U y.seq)).setOther (a:=⟨w.heap.size+1+1,2,Ab⟩) aC (Aa s2.1.a s2.1.n s2.1.c)).setOther (a:=⟨w.heap.size+1+1,3,Ab⟩) aC (Aa s2.2.a s2.2.n s2.2.c)) rfl (J U 5) (J U 0) (J U 0) (J U 0);have RES3:=((((RES2.setOther (a:=⟨w.heap.size+1+1+1,0,Ab⟩) aC.symm (J U 5)).setOther (a:=⟨w.heap.size+1+1+1,1,Ab⟩) aC.symm (J U 0)).setOther (a:=⟨w.heap.size+1+1+1,2,Ab⟩) aC.symm (J U 0)).setOther (a:=⟨w.heap.size+1+1+1,3,Ab⟩) aC.symm (J U 0))
  have en1:w.heap.size+1+1∉F:=fun hx=>by have:=bV _ hx;omega
  have en2:w.heap.size+1+1+1∉F:=fun hx=>by have:=bV _ hx;omega
  refine Aj (Xx RES3 RP2) rfl ⟨s2,F,by rw [H.out],by rw [H.out];exact (by (repeat (refine Dt.ow_set Bu ?_ (by first | exact en1 | exact en2) _));exact (show Bu.ow _ F y s2 from oy)),fun x hx=>by have:=bV x hx;omega,?_⟩;repeat (first | (with_reducible exact B0) | refine Ad ?_ Bo _)
 replace hd:=Bq hd;have hkd:=Cv.1 (Ro hd.out);dsimp only at hkd;clear CC;have b2:Below w1 w1 ((w1.alloc (.cells #[J U 0,J U 0,Aa Ab 0 0,Aa Ab 0 0] 31)).alloc (.cells #[J U 0,J U 0,J U 0,J U 0] 69)):=((Br _ _).alloc (Bs _) _).alloc Bn _;have OB:=(DBox.new 31 [J U 0,J U 0,Aa Ab 0 0,Aa Ab 0 0] w1 (b:=w1.heap.size) rfl).below ((Br _ _).alloc (Bs _) (.cells #[J U 0,J U 0,J U 0,J U 0] 69));have RR:=DBox.new 69 [J U 0,J U 0,J U 0,J U 0] (w1.alloc (.cells #[J U 0,J U 0,Aa Ab 0 0,Aa Ab 0 0] 31)) (b:=w1.heap.size+1) Bn;go_upto_region 5 with fail
 clear X_;clear D_;replace X:=X.below b2;replace D:=D.below b2;replace RES:=RES.below b2;replace RP:=RP.below b2;have nJ:w.heap.size+1+1+1<w1.heap.size:=Bl;replace B0:=Bt B0 b2;clear b2;replace OB:DBox w1 [J U 0,J U 0,Aa Ab 0 0,Aa Ab 0 0] ((w1.alloc (.cells #[J U 0,J U 0,Aa Ab 0 0,Aa Ab 0 0] 31)).alloc (.cells #[J U 0,J U 0,J U 0,J U 0] 69)):=OB;replace RR:DBox (w1.heap.size+1) [J U 0,J U 0,J U 0,J U 0] ((w1.alloc (.cells #[J U 0,J U 0,Aa Ab 0 0,Aa Ab 0 0] 31)).alloc (.cells #[J U 0,J U 0,J U 0,J U 0] 69)):=RR;generalize ((w1.alloc (.cells #[J U 0,J U 0,Aa Ab 0 0,Aa Ab 0 0] 31)).alloc (.cells #[J U 0,J U 0,J U 0,J U 0] 69))=w2 at *
 generalize cJ:w1.heap.size=ob at *
 have bK:=RR.lt;have X_:=X.g4;have D_:=D.g11;rcases (show kd=1\/kd=2\/kd=3\/kd=4\/kd=5\/kd=6\/kd=7\/kd=8 by omega) with rfl | rfl | rfl | rfl | rfl | rfl | rfl | rfl
 have H:=Bq (show doO y ⟨1,rn,p,tk,ty,wk,dr⟩=(Iy y rn p,⟨Ix y rn p,0,0,0⟩) by unfold doO;rw [if_neg (by rw [hd.out];simp)];rfl);have CS:=Bq (Uy y (⟨A1,n1,c1⟩,⟨A2,n2,c2⟩) rn p ⟨A3,p.edges.length,c3⟩ w2 hl hp (HR.out _ B0) (HP.out _ B0));generalize Iy y rn p=z at *
 generalize Ix y rn p=c at *
 rotate_left
 ·have H:Hid (doO y ⟨2,rn,p,tk,ty,wk,dr⟩=Io y wk dr):=by
   show doO y ⟨2,rn,p,tk,ty,wk,dr⟩=_;unfold doO;rw [if_neg (by rw [hd.out];simp)];rfl
  have tL:=Bq (Rp hd.out);obtain ⟨dn,rfl⟩:=Int.eq_ofNat_of_zero_le tL.out.1;have CS:=Bq (Xt y (⟨A1,n1,c1⟩,⟨A2,n2,c2⟩) wk dn w2 hl (by have:=tL.out;omega) (HR.out _ B0));generalize Io y wk (dn:Int)=o at *
  obtain ⟨z,⟨o0,o1,o2,o3⟩⟩:=o;go_wp2_with fail
  refine CS.out.mono ?_;rintro e2 w3 ⟨s2,F,rfl,oy,nF,b3⟩;replace oy:Bu.ow w3 F z s2:=oy;have bV:∀ x∈F,w.heap.size+1+1+1<x:=fun x hx=>by have h1:=nF x hx;omega
  clear X_;clear D_;clear X D OB RR;replace RES:=RES.below b3;replace RP:=RP.below b3;replace B0:=Bt B0 b3;clear nF b3;obtain ⟨RES_0,RES_1,RES_2,RES_3,RES_l⟩:=RES.g4;obtain ⟨RP_0,RP_1,RP_2,RP_3,RP_l⟩:=RP.g4;have rf:=RES.free;have pf:=RP.free;have aC:w.heap.size+1+1+1≠w.heap.size+1+1:=Bl;go_wp2;have RES2:=DBox.row4 RES rfl (J U z.now) (J U z.seq) (Aa s2.1.a s2.1.n s2.1.c) (Aa s2.2.a s2.2.n s2.2.c);have RP2:=DBox.row4 ((((RP.setOther (a:=⟨w.heap.size+1+1,0,Ab⟩) aC (J U z.now)).setOther (a:=⟨w.heap.size+1+1,1,Ab⟩) aC (J U z.seq)).setOther (a:=⟨w.heap.size+1+1,2,Ab⟩) aC (Aa s2.1.a s2.1.n s2.1.c)).setOther (a:=⟨w.heap.size+1+1,3,Ab⟩) aC (Aa s2.2.a s2.2.n s2.2.c)) rfl (J U o0) (J U o1) (J U o2) (J U o3);have RES3:=((((RES2.setOther (a:=⟨w.heap.size+1+1+1,0,Ab⟩) aC.symm (J U o0)).setOther (a:=⟨w.heap.size+1+1+1,1,Ab⟩) aC.symm (J U o1)).setOther (a:=⟨w.heap.size+1+1+1,2,Ab⟩) aC.symm (J U o2)).setOther (a:=⟨w.heap.size+1+1+1,3,Ab⟩) aC.symm (J U o3))
  have en1:w.heap.size+1+1∉F:=fun hx=>by have:=bV _ hx;omega
  have en2:w.heap.size+1+1+1∉F:=fun hx=>by have:=bV _ hx;omega
  refine Aj (Xx RES3 RP2) rfl ⟨s2,F,by rw [H.out],by rw [H.out];exact (by (repeat (refine Dt.ow_set Bu ?_ (by first | exact en1 | exact en2) _));exact (show Bu.ow _ F z s2 from oy)),fun x hx=>by have:=bV x hx;omega,?_⟩;repeat (first | (with_reducible exact B0) | refine Ad ?_ Bo _)
 have H:=Bq (show doO y ⟨3,rn,p,tk,ty,wk,dr⟩=(Ke y rn tk ty,⟨Fk y rn tk ty,0,0,0⟩) by unfold doO;rw [if_neg (by rw [hd.out];simp)];rfl);have CS:=Bq (Qx y (⟨A1,n1,c1⟩,⟨A2,n2,c2⟩) rn tk ty w2 hl (HR.out _ B0));generalize Ke y rn tk ty=z at *
 generalize Fk y rn tk ty=c at *
 rotate_left;have H:=Bq (show doO y ⟨4,rn,p,tk,ty,wk,dr⟩=(Kd y rn tk ty,⟨Fk y rn tk ty,0,0,0⟩) by unfold doO;rw [if_neg (by rw [hd.out];simp)];rfl);have CS:=Bq (Xq y (⟨A1,n1,c1⟩,⟨A2,n2,c2⟩) rn tk ty w2 hl (HR.out _ B0));generalize Kd y rn tk ty=z at *
 generalize Fk y rn tk ty=c at *
 rotate_left;have H:=Bq (show doO y ⟨5,rn,p,tk,ty,wk,dr⟩=(Ip y,⟨I2 y,0,0,0⟩) by unfold doO;rw [if_neg (by rw [hd.out];simp)];rfl);have CS:=Bq (Xv y (⟨A1,n1,c1⟩,⟨A2,n2,c2⟩) w2 hl (HR.out _ B0));generalize Ip y=z at *
 generalize I2 y=c at *
 rotate_left;have H:=Bq (show doO y ⟨6,rn,p,tk,ty,wk,dr⟩=(Hy y rn,⟨Hx y rn,0,0,0⟩) by unfold doO;rw [if_neg (by rw [hd.out];simp)];rfl);have CS:=Bq (Uz y (⟨A1,n1,c1⟩,⟨A2,n2,c2⟩) rn w2 hl (HR.out _ B0));generalize Hy y rn=z at *
 generalize Hx y rn=c at *
 rotate_left;have H:=Bq (show doO y ⟨7,rn,p,tk,ty,wk,dr⟩=(Hv y rn,⟨Hu y rn,0,0,0⟩) by unfold doO;rw [if_neg (by rw [hd.out];simp)];rfl);have CS:=Bq (U2 y (⟨A1,n1,c1⟩,⟨A2,n2,c2⟩) rn w2 hl (HR.out _ B0));generalize Hv y rn=z at *
 generalize Hu y rn=c at *
 rotate_left;focus
  have H:=Bq (show doO y ⟨8,rn,p,tk,ty,wk,dr⟩=(Le y,⟨Rn y,0,0,0⟩) by unfold doO;rw [if_neg (by rw [hd.out];simp)];rfl);have CS:=Bq (Sk y (⟨A1,n1,c1⟩,⟨A2,n2,c2⟩) w2 hl (HR.out _ B0));have sW:=Bq (show (Dd y->Rn y=0)/\(¬ Dd y->Rn y=8) from ⟨fun h=>if_pos h,fun h=>if_neg h⟩);generalize Le y=z at *
  generalize Rn y=c at *
  go_wp2_with fail
  refine CS.out.mono ?_;rintro e2 w3 ⟨s2,F,rfl,oy,nF,b3⟩;replace oy:Bu.ow w3 F z s2:=oy;have bV:∀ x∈F,ob+1<x:=fun x hx=>by have h1:=nF x hx;omega
  clear X_;clear D_;replace X:=X.below b3;clear D;replace OB:=OB.below b3;replace RR:=RR.below b3;replace RES:=RES.below b3;replace RP:=RP.below b3;replace B0:=Bt B0 b3;have jP:=b3.size;clear nF b3;have OB_:=OB.g4;have RR_:=RR.g4;have OBf:=OB.free;have RRf:=RR.free;go_upto_region 7 with fail
  clear OB_;clear RR_;clear OBf RRf;have bU:=Chg.cells4 w3 ob 0 1 2 3 (J U z.now) (J U z.seq) (Aa s2.1.a s2.1.n s2.1.c) (Aa s2.2.a s2.2.n s2.2.c);have dL:=Bq (show ∀ x,x∈[ob]->x=ob from fun x hx=>by simpa using hx);replace OB:=DBox.row4 OB rfl (J U z.now) (J U z.seq) (Aa s2.1.a s2.1.n s2.1.c) (Aa s2.2.a s2.2.n s2.2.c);replace RR:=RR.chg bU (fun hx=>by have:=dL.out _ hx;omega);replace RES:=RES.chg bU (fun hx=>by have:=dL.out _ hx;omega);replace RP:=RP.chg bU (fun hx=>by have:=dL.out _ hx;omega);replace oy:Bu.ow _ F z s2:=owC oy bU (fun x hx h=>by have h1:=dL.out x h;have h2:=bV x hx;omega);replace X:=X.chg bU (fun hx=>by have:=dL.out _ hx;omega);replace B0:=B0.trans (bU.below (by have:=B0.size;omega) (fun x hx=>by have:=dL.out x hx;omega));clear bU;generalize (((w3.setCell ⟨ob,0,Ab⟩ (J U z.now)).setCell ⟨ob,1,Ab⟩ (J U z.seq)).setCell ⟨ob,2,Ab⟩ (Aa s2.1.a s2.1.n s2.1.c)).setCell ⟨ob,3,Ab⟩ (Aa s2.2.a s2.2.n s2.2.c)=w4 at *
  have X_:=X.g4;go_wp2_with fail
  refine (CY.out _ B0).mono ?_;rintro e9 w8 ⟨rfl,b8⟩;clear X_;clear X;replace OB:=OB.below b8;replace RR:=RR.below b8;replace RES:=RES.below b8;replace RP:=RP.below b8;replace oy:Bu.ow w8 F z s2:=owB oy b8;replace B0:=Bt B0 b8;have hs8:=b8.size;clear b8;by_cases p0:Dd y;focus
   rw [Dj p0];have hc0:=Bq (sW.out.1 p0);replace RR:DBox (ob+1) [J U c,J U 0,J U 0,J U 0] w8:=by rw [hc0.out];exact RR
   rename World=>w5;go_upto_region 23 with fail
  rotate_left;focus
   rw [Cf p0];have hc8:=Bq (sW.out.2 p0);have RR_:=RR.g4;have RRf:=RR.free;go_upto_region 23 with fail
   clear RR_;clear RRf;rename World=>w4;have dU:=Chg.setCell w4 (ob+1) 0 (J U 8);have cI:=Bq (show ∀ x,x∈[ob+1]->x=ob+1 from fun x hx=>by simpa using hx);replace OB:=OB.chg dU (fun hx=>by have:=cI.out _ hx;omega);replace RR:DBox (ob+1) [J U 8,J U 0,J U 0,J U 0] (w4.setCell ⟨ob+1,0,Ab⟩ (J U 8)):=RR.set 0 Bn _;replace RES:=RES.chg dU (fun hx=>by have:=cI.out _ hx;omega);replace RP:=RP.chg dU (fun hx=>by have:=cI.out _ hx;omega);replace oy:Bu.ow _ F z s2:=owC oy dU (fun x hx h=>by have h1:=cI.out x h;have h2:=bV x hx;omega);replace B0:=B0.trans (dU.below (by have:=B0.size;omega) (fun x hx=>by have:=cI.out x hx;omega));clear dU;generalize w4.setCell ⟨ob+1,0,Ab⟩ (J U 8)=w5 at *
   replace RR:DBox (ob+1) [J U c,J U 0,J U 0,J U 0] w5:=by rw [hc8.out];exact RR
 rotate_left 2;iterate 6
  focus
   go_wp2_with fail
   refine CS.out.mono ?_;rintro e2 w3 ⟨s2,F,rfl,oy,nF,b3⟩;replace oy:Bu.ow w3 F z s2:=oy;have bV:∀ x∈F,ob+1<x:=fun x hx=>by have h1:=nF x hx;omega
   clear X_;clear D_;clear X;clear D;replace OB:=OB.below b3;replace RR:=RR.below b3;replace RES:=RES.below b3;replace RP:=RP.below b3;replace B0:=Bt B0 b3;have jP:=b3.size;clear nF b3;have OB_:=OB.g4;have RR_:=RR.g4;have OBf:=OB.free;have RRf:=RR.free;go_upto_region 23 with fail
   clear OB_;clear RR_;clear OBf RRf;have bU:=Chg.cells4 w3 ob 0 1 2 3 (J U z.now) (J U z.seq) (Aa s2.1.a s2.1.n s2.1.c) (Aa s2.2.a s2.2.n s2.2.c);have dL:=Bq (show ∀ x,x∈[ob]->x=ob from fun x hx=>by simpa using hx);replace OB:=DBox.row4 OB rfl (J U z.now) (J U z.seq) (Aa s2.1.a s2.1.n s2.1.c) (Aa s2.2.a s2.2.n s2.2.c);replace RR:=RR.chg bU (fun hx=>by have:=dL.out _ hx;omega);replace RES:=RES.chg bU (fun hx=>by have:=dL.out _ hx;omega);replace RP:=RP.chg bU (fun hx=>by have:=dL.out _ hx;omega);replace oy:Bu.ow _ F z s2:=owC oy bU (fun x hx h=>by have h1:=dL.out x h;have h2:=bV x hx;omega);replace B0:=B0.trans (bU.below (by have:=B0.size;omega) (fun x hx=>by have:=dL.out x hx;omega));clear bU;generalize (((w3.setCell ⟨ob,0,Ab⟩ (J U z.now)).setCell ⟨ob,1,Ab⟩ (J U z.seq)).setCell ⟨ob,2,Ab⟩ (Aa s2.1.a s2.1.n s2.1.c)).setCell ⟨ob,3,Ab⟩ (Aa s2.2.a s2.2.n s2.2.c)=w4 at *
   have dU:=Chg.setCell w4 (ob+1) 0 (J U c);have cI:=Bq (show ∀ x,x∈[ob+1]->x=ob+1 from fun x hx=>by simpa using hx);replace OB:=OB.chg dU (fun hx=>by have:=cI.out _ hx;omega);replace RR:DBox (ob+1) [J U c,J U 0,J U 0,J U 0] (w4.setCell ⟨ob+1,0,Ab⟩ (J U c)):=RR.set 0 Bn _;replace RES:=RES.chg dU (fun hx=>by have:=cI.out _ hx;omega);replace RP:=RP.chg dU (fun hx=>by have:=cI.out _ hx;omega);replace oy:Bu.ow _ F z s2:=owC oy dU (fun x hx h=>by have h1:=cI.out x h;have h2:=bV x hx;omega);replace B0:=B0.trans (dU.below (by have:=B0.size;omega) (fun x hx=>by have:=cI.out x hx;omega));clear dU;generalize w4.setCell ⟨ob+1,0,Ab⟩ (J U c)=w5 at *
  rotate_left
 all_goals
  refine Go.wp_region_noPanic ?_;refine wp_region_held_drew (S:=(fun w'=>DBox ob [J U z.now,J U z.seq,Aa s2.1.a s2.1.n s2.1.c,Aa s2.2.a s2.2.n s2.2.c] w'/\DBox (ob+1) [J U c,J U 0,J U 0,J U 0] w')) Bm ⟨DBox.drew4 OB,DBox.drew4 RR⟩ (fun hHeld=>?_);replace oy:Bu.ow w5.drew F z s2:=owB oy (Br _ _).drew;replace RES:DBox _ _ w5.drew:=DBox.drew4 RES;replace RP:DBox _ _ w5.drew:=DBox.drew4 RP;replace B0:=B0.drew;clear OB RR;generalize w5.drew=w6 at *
  refine tV 0 ?_
  (try simp only [pS])
  refine tV 1 ?_
  (try simp only [pS])
  have RES_0:=RES.cell 0 _ rfl;have RES_1:=RES.cell 1 _ rfl;have RES_2:=RES.cell 2 _ rfl;have RES_3:=RES.cell 3 _ rfl;have rf:=RES.free;have cG:=Bq (show ∀ x,x∈[w.heap.size+1+1]->x=w.heap.size+1+1 from fun x hx=>by simpa using hx);have dJ:=Bq (show ∀ x,x∈[w.heap.size+1+1+1]->x=w.heap.size+1+1+1 from fun x hx=>by simpa using hx);have eR:=Chg.cells4 w6 (w.heap.size+1+1) 0 1 2 3 (J U z.now) (J U z.seq) (Aa s2.1.a s2.1.n s2.1.c) (Aa s2.2.a s2.2.n s2.2.c);refine rC 2 (fun K_ hK=>?_);go_simp;have RES2:=DBox.row4 RES rfl (J U z.now) (J U z.seq) (Aa s2.1.a s2.1.n s2.1.c) (Aa s2.2.a s2.2.n s2.2.c);have RP2:=RP.chg eR (fun hx=>by have:=cG.out _ hx;omega);replace oy:Bu.ow _ F z s2:=owC oy eR (fun x hx h=>by have h1:=cG.out x h;have h2:=bV x hx;omega);replace B0:=B0.trans (eR.below (by have:=B0.size;omega) (fun x hx=>by have:=cG.out x hx;omega));refine hK.out _ _ ⟨hHeld.1.chg eR (fun hx=>by have:=cG.out _ hx;omega),hHeld.2.chg eR (fun hx=>by have:=cG.out _ hx;omega)⟩ (fun hHeld=>?_);clear hK K_ rf RES_0 RES_1 RES_2 RES_3 eR
  (try simp only [pS])
  generalize (((w6.setCell ⟨w.heap.size+1+1,0,Ab⟩ (J U z.now)).setCell ⟨w.heap.size+1+1,1,Ab⟩ (J U z.seq)).setCell ⟨w.heap.size+1+1,2,Ab⟩ (Aa s2.1.a s2.1.n s2.1.c)).setCell ⟨w.heap.size+1+1,3,Ab⟩ (Aa s2.2.a s2.2.n s2.2.c)=w7 at *
  have RP_0:=RP2.cell 0 _ rfl;have RP_1:=RP2.cell 1 _ rfl;have RP_2:=RP2.cell 2 _ rfl;have RP_3:=RP2.cell 3 _ rfl;have pf:=RP2.free;have fT:=Chg.cells4 w7 (w.heap.size+1+1+1) 0 1 2 3 (J U c) (J U 0) (J U 0) (J U 0);refine rC 3 (fun K_ hK=>?_);go_simp;refine hK.out _ _ ⟨hHeld.1.chg fT (fun hx=>by have:=dJ.out _ hx;omega),hHeld.2.chg fT (fun hx=>by have:=dJ.out _ hx;omega)⟩ (fun hHeld=>?_);clear hK K_ hHeld
  (try simp only [pS])
  refine wpAnyH_done Bm ?_ _;refine NoPanic.normal ?_;have RES3:=RES2.chg fT (fun hx=>by have:=dJ.out _ hx;omega);have RP3:=DBox.row4 RP2 rfl (J U c) (J U 0) (J U 0) (J U 0);replace oy:Bu.ow _ F z s2:=owC oy fT (fun x hx h=>by have h1:=dJ.out x h;have h2:=bV x hx;omega);replace B0:=B0.trans (fT.below (by have:=B0.size;omega) (fun x hx=>by have:=dJ.out x hx;omega));clear RP_0 RP_1 RP_2 RP_3 pf;go_wp2;exact Aj (Xx RES3 RP3) rfl ⟨s2,F,by rw [H.out],by rw [H.out];exact oy,fun x hx=>by have:=bV x hx;omega,B0⟩
theorem Oq:Cb Fq<=2000000:=Bp
theorem Q0:∀ (l:List Deed) (y:Yard),Cb y<=2000000->Cb (l.foldl (fun y d=>(doO y d).1) y)<=2000000
 | [],_,h=>h
 | d :: l,y,h=>Q0 l _ (Ael h)
noncomputable def Ib (y:Yard) (l:List Deed):Yard:=l.foldl (fun y d=>(doO y d).1) y
theorem U4 (y:Yard) (l:List Deed) (d:Deed):Ib y (l ++ [d])=(doO (Ib y l) d).1:=by unfold Ib;rw [List.foldl_append];rfl
noncomputable def Jn (y:Yard):List Deed->List Reply
 | []=>[]
 | d :: l=>(doO y d).2 :: Jn (doO y d).1 l
theorem Q1:∀ (l:List Deed) (y:Yard) (d:Deed),Jn y (l ++ [d])=Jn y l ++ [(doO (Ib y l) d).2]
 | [],y,d=>rfl
 | e :: l,y,d=>by rw [List.cons_append,Jn,Q1 l];rfl
theorem P9:∀ (l:List Deed) (y:Yard),(Jn y l).length=l.length
 | [],_=>rfl
 | d :: l,y=>by rw [Jn,List.length_cons,P9 l,List.length_cons]
def Ab5 (z:Yard) (rl:List Reply) (w:World) (e:Ending) (w':World):Prop :=
 ∃ (s:Sl×Sl) (F:List Nat) (t:Sl),e = .returned (.tuple #[Dg z s,Aa t.a t.n t.c])/\Bu.ow w' F z s/\(∀ b∈F,w<=b)/\RdL Hz w' w' t.v rl/\Below w w w'
theorem Wi {w:World} {B:Nat} {v:Value} {l:List Reply} (h:Rd Hz.enc w B v (l.map fun x=>(x,()))):RdL Hz w B v l:=⟨_,by rw [List.map_map];exact List.map_id _,h,fun _ _=>trivial⟩
theorem Abm {b:Nat} {w:World} {u0 u1 u2 u3:Value} (X:DBox b [u0,u1,u2,u3] w) {v0 v1 v2 v3 v5:Value} {rest:List Value} :
  (results Tryz.f93 (v0 :: v1 :: v2 :: v3 :: .pointer (Ac ⟨b,0,Ab⟩) :: v5 :: rest).toArray).run Am w = .ok (.tuple #[.agg #[u0,u1,u2,u3],v5]) w:=by
 obtain ⟨c0,c1,c2,c3,-⟩:=X.g4;simp [results,Tryz.results93,go_sem,c0,c1,c2,c3]
theorem Vo (y:Yard) (s:Sl×Sl) (l:List Deed) (sl:Sl) (w:World) (hc:Cb y<=2000000) (hl:E6 Cm l<=2000000) (hy:Bu.rd w w y s) (h:RdL Cg w w sl.v l) :
  Calls Am 93 #[Dg y s,.slice sl.a sl.n sl.c] w (Ab5 (Ib y l) (Jn y l) w):=by
 obtain ⟨⟨A1,n1,c1⟩,⟨A2,n2,c2⟩⟩:=s;obtain ⟨A,n,c⟩:=sl;obtain rfl:n=l.length:=RdL.at1 (s:=⟨A,n,c⟩) h;have uH:l.length<=2000000:=Ah (Ck Cm _) hl;have hed:=Bq (show ∀ k (hk:k<l.length),l[k].plan.edges.length<=2000000 from fun k hk=>by
  have h1:=Ds (cnt:=Cm) (Aw hk);have h2:Cm l[k]=l[k].plan.edges.length:=Fn (fun _=>rfl) _;omega)
 have CC:=Bq (fun W (hW:Below w w W)=>Eo y (⟨A1,n1,c1⟩,⟨A2,n2,c2⟩) W hc (Bu.rd_more (Bu.rd_below hy hW) hW.size));obtain ⟨i0,aL,aS,aP,aQ⟩:=info_parts Q6;have sX:=Bq hc;clear hy hc;obtain ⟨W,aG,X,RES,B0⟩:=bx2 w 31 [.int .i64 y.now,.int .i64 y.seq,.slice A1 n1 c1,.slice A2 n2 c2] 31 [.int .i64 0,.int .i64 0,.slice Ab 0 0,.slice Ab 0 0];go_enter Tryz.func93,Tryz.ntmps93;go_wp2_with fail
 rw [<-aG.out];clear aG;have dK:w.heap.size+1<W.heap.size:=RES.lt;refine (CC.out _ B0).mono ?_;rintro e1 w1 ⟨⟨⟨B1,m1,e1⟩,⟨B2,m2,e2⟩⟩,F,rfl,oy,nF,b1⟩;have bL:=b1.size;have cH:=Bu.ow_lt (F:=F) (x:=y) (s:=(⟨B1,m1,e1⟩,⟨B2,m2,e2⟩)) oy;replace RES:=RES.below b1;replace B0:=Bt B0 b1;clear X b1 CC;go_upto_region 2 with fail
 have YB:=DBox.new 31 (Eh y (⟨B1,m1,e1⟩,⟨B2,m2,e2⟩)) w1 (b:=w1.heap.size) rfl;have b2:Below w1 w1 (w1.alloc (.cells (Eh y (⟨B1,m1,e1⟩,⟨B2,m2,e2⟩)).toArray 31)):=(Br _ _).alloc (Bs _) _;replace oy:Bu.ow _ F y (⟨B1,m1,e1⟩,⟨B2,m2,e2⟩):=owB oy b2;replace RES:=RES.below b2;replace B0:=Bt B0 b2;have hYl:=YB.lt;clear b2;generalize w1.alloc (.cells (Eh y (⟨B1,m1,e1⟩,⟨B2,m2,e2⟩)).toArray 31)=w2 at *
 generalize hyb:w1.heap.size=yb at *
 have fM:Hid (∀ x∈F,w.heap.size+1<x/\x≠yb):=fun x hx=>by have h1:=nF x hx;have h2:=cH x hx;omega
 have hybn:w.heap.size+1<yb:=Bl;clear nF cH;have o0:=Ow.nil Hz.enc 69 w2 w2;go_wp2;go_loopw [7,16] (fun rv iv wr=>∃ (k:Nat) (s:Sl×Sl) (F:List Nat) (v:Value),k<=l.length/\iv = .int .i64 k/\v=rv/\Hid (Bu.ow wr F (Ib y (l.take k)) s /\ ∀ x∈F,w.heap.size+1<x/\x≠yb)/\Hid (Ow Hz.enc 69 wr w2 v ((Jn y (l.take k)).map fun x=>(x,())))/\DBox yb (Eh (Ib y (l.take k)) s) wr/\DBox (w.heap.size+1) [.int .i64 0,.int .i64 0,.slice Ab 0 0,.slice Ab 0 0] wr/\Below w w wr/\w2.heap.size<=wr.heap.size) (fun _ i _=>l.length - (intOf i).toNat);case atStart=>exact ⟨0,(⟨B1,m1,e1⟩,⟨B2,m2,e2⟩),F,_,Ag _,rfl,rfl,⟨oy,fM.out⟩,o0,YB,RES,B0,Bn⟩
 case round =>
  clear oy fM YB RES B0 o0;obtain ⟨k,s,F,v,hk,rfl,rfl,hO,hR,YB,RES,hb,sS⟩:=hrel;have hYl2:=YB.lt;have hRl2:=RES.lt;have cC:=hb.size;by_cases aA:k<l.length
  ·have aB:(k:Int)<(l.length:Int):=Bl;have nQ:=Bq (Q0 (l.take k) y sX.out);have aE:=Bq (show Ib y (l.take (k+1))=(doO (Ib y (l.take k)) l[k]).1 by rw [Cn l k aA,U4]);have fD:=Bq (show Jn y (l.take (k+1))=Jn y (l.take k) ++ [(doO (Ib y (l.take k)) l[k]).2] by rw [Cn l k aA,Q1]);have bK:=Bq (show (Jn y (l.take k)).length=k by rw [P9,Az];omega);obtain ⟨db,od,sd,rfl,hdb,gB,c0,c1,c2,c3,c4,c5,c6,c7,c8,c9,c10⟩:=(h.below hb).deed aA;have mJ:db<wr:=Bl;have hedk:=hed.out k aA;have mY:=Bq (show ∀ W,Below wr wr W->Cg.rd W W l[k] sd from fun W hW=>Cg.rd_more (Cg.rd_below (Cg.rd_more gB cC) hW) hW.size);clear gB;have oy:=hO.out.1;have rU:=hO.out.2;have o0:=hR.out;clear hO hR;have pT:Hid (Cb (Ib y (l.take k))<=2000000):=nQ;clear nQ;generalize Ib y (l.take k)=Z at *
   generalize Jn y (l.take k)=RS at *
   generalize l[k]=d at *
   have gE:=Bq (show ∀ g,v.ownBlock=Ac g->w2.heap.size<=g/\g<wr.heap.size from fun g hg=>o0.within g hg);have DB:=DBox.new 45 [.int .i64 d.kind,.int .i64 d.run,.int .i64 d.plan.prio,.int .i64 d.plan.most,.int .i64 d.plan.wait,.int .i64 d.plan.tasks,.slice sd.a sd.n sd.c,.int .i64 d.task,.int .i64 d.try_,.int .i64 d.worker,.int .i64 d.draw] wr (b:=wr.heap.size) rfl;have b4:Below wr wr (wr.alloc (.cells #[.int .i64 d.kind,.int .i64 d.run,.int .i64 d.plan.prio,.int .i64 d.plan.most,.int .i64 d.plan.wait,.int .i64 d.plan.tasks,.slice sd.a sd.n sd.c,.int .i64 d.task,.int .i64 d.try_,.int .i64 d.worker,.int .i64 d.draw] 45)):=(Br _ _).alloc (Bs _) _;go_upto_region 6 with fail
   replace YB:=YB.below b4;replace RES:=RES.below b4;replace oy:Bu.ow _ F Z s:=owB oy b4;replace o0:=o0.below b4;have bR:=Bt hb b4;have kY:=b4.size;have CD:=Bq (Abl Z s d sd _ pT.out hedk (Bu.ow_rd (F:=F) (x:=Z) (s:=s) oy) (mY.out _ b4));clear b4 c0 c1 c2 c3 c4 c5 c6 c7 c8 c9 c10;generalize wr.alloc (.cells #[.int .i64 d.kind,.int .i64 d.run,.int .i64 d.plan.prio,.int .i64 d.plan.most,.int .i64 d.plan.wait,.int .i64 d.plan.tasks,.slice sd.a sd.n sd.c,.int .i64 d.task,.int .i64 d.try_,.int .i64 d.worker,.int .i64 d.draw] 45)=w4 at *
   have YB_:=YB.g4;have DB_:=DB.g11;generalize doO Z d=o at *
   obtain ⟨z,rep⟩:=o;dsimp only at aE fD;go_wp2_with fail
   refine CD.out.mono ?_;rintro e6 w6 ⟨s6,F6,rfl,oy6,n6,b6⟩;replace oy6:Bu.ow w6 F6 z s6:=oy6;clear YB_;clear DB_;clear DB CD;replace YB:=YB.below b6;replace RES:=RES.below b6;replace o0:=o0.below b6;have tC:=Bt bR b6;have nP:=b6.size;have kD:∀ x∈F6,w4<=x:=n6;have hFl6:=Bu.ow_lt (F:=F6) (x:=z) (s:=s6) oy6;have NB:=(DBox.new 31 (Eh z s6) w6 (b:=w6.heap.size) rfl).below ((Br _ _).alloc (Bs _) (.cells #[.int .i64 rep.code,.int .i64 rep.run,.int .i64 rep.task,.int .i64 rep.try_] 69));have RB:=DBox.new 69 [.int .i64 rep.code,.int .i64 rep.run,.int .i64 rep.task,.int .i64 rep.try_] (w6.alloc (.cells (Eh z s6).toArray 31)) (b:=w6.heap.size+1) Bn;have b7:Below w6 w6 ((w6.alloc (.cells (Eh z s6).toArray 31)).alloc (.cells #[.int .i64 rep.code,.int .i64 rep.run,.int .i64 rep.task,.int .i64 rep.try_] 69)):=((Br _ _).alloc (Bs _) _).alloc Bn _;go_upto_region 7 with fail
   replace YB:=YB.below b7;replace RES:=RES.below b7;replace o0:=o0.below b7;have nW:=Bt tC b7;have hs7:=b7.size;replace oy6:Bu.ow _ F6 z s6:=owB oy6 b7;clear n6 oy b6 b7;replace NB:DBox w6 (Eh z s6) ((w6.alloc (.cells (Eh z s6).toArray 31)).alloc (.cells #[.int .i64 rep.code,.int .i64 rep.run,.int .i64 rep.task,.int .i64 rep.try_] 69)):=NB;generalize ((w6.alloc (.cells (Eh z s6).toArray 31)).alloc (.cells #[.int .i64 rep.code,.int .i64 rep.run,.int .i64 rep.task,.int .i64 rep.try_] 69))=w7 at *
   generalize sF:w6.heap.size=nb at *
   have eM:=RB.lt;have YB_:=YB.g4;have NB_:=NB.g4;have ybf:=YB.free;go_upto_region 8 with fail
   clear YB_;clear NB_;clear ybf NB;have nI:∀ x∈F6,x≠yb:=fun x hx=>by have:=kD x hx;omega
   have bU:=Chg.cells4 w7 yb 0 1 2 3 (.int .i64 z.now) (.int .i64 z.seq) (.slice s6.1.a s6.1.n s6.1.c) (.slice s6.2.a s6.2.n s6.2.c);have pY:=Bq (show ∀ x,x∈[yb]->x=yb from fun x hx=>by simpa using hx);have YB8:=DBox.row4 YB rfl (.int .i64 z.now) (.int .i64 z.seq) (.slice s6.1.a s6.1.n s6.1.c) (.slice s6.2.a s6.2.n s6.2.c);have oy8:Bu.ow _ F6 z s6:=owC oy6 bU (fun x hx hx2=>nI x hx (pY.out x hx2));have RES8:=RES.chg bU (fun hx=>by have:=pY.out _ hx;omega);have RB8:=RB.chg bU (fun hx=>by have:=pY.out _ hx;omega);have o8:=o0.grown bU.toGrown (.inr (fun e=>by have:=(gE.out _ e).1;omega));have mP:=nW.trans (bU.below (by have:=nW.size;omega) (fun x hx=>by have:=pY.out x hx;omega));have hs8:=bU.size;clear YB oy6 bU nW RES RB o0;generalize (((w7.setCell ⟨yb,0,Ab⟩ (.int .i64 z.now)).setCell ⟨yb,1,Ab⟩ (.int .i64 z.seq)).setCell ⟨yb,2,Ab⟩ (.slice s6.1.a s6.1.n s6.1.c)).setCell ⟨yb,3,Ab⟩ (.slice s6.2.a s6.2.n s6.2.c)=w8 at *
   have RB:=RB8;have RB_:=RB.g4;have ha:=Bq (show ∀ w:World,Below w w (w.alloc (.cells #[.int .i64 rep.code,.int .i64 rep.run,.int .i64 rep.task,.int .i64 rep.try_] 69)) from fun w=>(Br _ _).alloc (Bs _) _);have hrl3:=Bq (show (RS.map fun x=>(x,())).length<=3000000 by rw [Ar,bK.out];omega);obtain ⟨A7,c7',kQ,-⟩:=_root_.id (Rd.of_own o8);generalize kM:(RS.map fun x=>(x,())).length=n7 at kQ;subst kQ;replace kM:=Bq kM;go_upto_region 9 with (at_builtin;go_loud (refine By _ Hz.enc Bp rfl (.tmp 27) (.tmp 29) rfl Tryz.underlying152 aL aS aP aQ rfl (base:=w2.heap.size) (v:=.slice A7 n7 c7') (l:=RS.map fun x=>(x,())) rfl (o8.below (ha.out w8)) rfl (Rd.one Hz.enc _ _ (rep,()) rfl rfl 1 (Bs _) (Nat.lt_succ_self _)) hrl3.out Bn Bp (by simp;omega) ?_);intro v5 w5 o5 g5 f5)
   clear RB_;clear RB;have rn:∀ z,z<w2.heap.size->Ac z≠(Value.slice A7 n7 c7').ownBlock:=fun z hz e=>by have:=(gE.out z e.symm).1;omega
   have YB9:=(YB8.below (ha.out w8)).off g5 (rn yb Bl);have RES9:=(RES8.below (ha.out w8)).off g5 (rn _ Bl);have oy9:Bu.ow w5 F6 z s6:=Bu.ow_keep (F:=F6) (x:=z) (s:=s6) (Bu.ow_below (F:=F6) (x:=z) (s:=s6) oy8 (ha.out w8)) g5.size (fun x hx=>g5.block x (Bu.ow_lt (F:=F6) (x:=z) (s:=s6) (Bu.ow_below (F:=F6) (x:=z) (s:=s6) oy8 (ha.out w8)) x hx) (fun e=>by have h1:=(gE.out x e.symm).2;have h2:=kD x hx;omega));have tI:=(Bt mP (ha.out w8)).grown g5 (Bt mP (ha.out w8)).size (fun g hg=>by have:=(gE.out g hg).1;omega);have g5s:=g5.size;simp only [Bj] at g5s;have jD:∀ x∈F6,w.heap.size+1<x/\x≠yb:=fun x hx=>⟨by have:=kD x hx;omega,nI x hx⟩
   have o9:Ow Hz.enc 69 w5 w2 v5 ((RS ++ [rep]).map fun x=>(x,())):=by rw [List.map_append];exact o5
   clear o5 g5 f5 oy8 YB8 RES8 o8 mP;go_wp2;exact ⟨⟨k+1,s6,F6,v5,Bl,by go_num,rfl,by rw [aE.out];exact ⟨oy9,jD⟩,by rw [fD.out];exact o9,by rw [aE.out];exact YB9,RES9,tI,Bl⟩,by simp [intOf];omega⟩
  ·have aB:¬ (k:Int)<(l.length:Int):=Bl;have hE:=Bq (show l.take k=l from Bg Bl);rw [hE.out] at hO hR YB;obtain ⟨oy,rU⟩:=hO.out;have o0:=hR.out;clear hO hR;obtain ⟨A7,c7,kQ,-⟩:=_root_.id (Rd.of_own o0);generalize kM:((Jn y l).map fun x=>(x,())).length=n7 at kQ;subst kQ;replace kM:=Bq kM;have YB_:=YB.g4;have RES_:=RES.g4;have rf:=RES.free;generalize Ib y l=Z at *
   go_wp2;have en1:w.heap.size+1∉F:=fun hx=>by have:=rU _ hx;omega
   have dU:=Chg.cells4 wr (w.heap.size+1) 0 1 2 3 (.int .i64 Z.now) (.int .i64 Z.seq) (.slice s.1.a s.1.n s.1.c) (.slice s.2.a s.2.n s.2.c);have cI:=Bq (show ∀ x,x∈[w.heap.size+1]->x=w.heap.size+1 from fun x hx=>by simpa using hx);refine Aj (Abm (DBox.row4 RES rfl _ _ _ _)) rfl ⟨s,F,⟨A7,n7,c7⟩,rfl,Bu.ow_chg (F:=F) (x:=Z) (s:=s) (show Bu.ow wr F Z s from oy) dU (fun x hx hx2=>en1 (by rw [<-cI.out x hx2];exact hx)),fun x hx=>by have:=rU x hx;omega,Wi (o0.rdHi dU (fun x hx=>.inl (by rw [cI.out x hx];omega))),hb.trans (dU.below Bl (fun x hx=>by have:=cI.out x hx;omega))⟩
theorem Abn {b:Nat} {w:World} {u0 u1 u2 u3:Value} (X:DBox b [u0,u1,u2,u3] w) {v0 v1 v2 v3 v5:Value} {rest:List Value} :
  (results Tryz.f90 (v0 :: v1 :: v2 :: v3 :: .pointer (Ac ⟨b,0,Ab⟩) :: v5 :: rest).toArray).run Am w = .ok (.tuple #[.agg #[u0,u1,u2,u3],v5]) w:=by
 obtain ⟨c0,c1,c2,c3,-⟩:=X.g4;simp [results,Tryz.results90,go_sem,c0,c1,c2,c3]
theorem Vp (y:Yard) (s:Sl×Sl) (l:List Deed) (sl:Sl) (w:World) (hc:Cb y<=2000000) (hl:E6 Cm l<=2000000) (hy:Bu.rd w w y s) (h:RdL Cg w w sl.v l) :
  Calls Am 90 #[Dg y s,.slice sl.a sl.n sl.c] w (Ab5 (Ib y l) (Jn y l) w):=by
 obtain ⟨⟨A1,n1,c1⟩,⟨A2,n2,c2⟩⟩:=s;obtain ⟨A,n,c⟩:=sl;obtain rfl:n=l.length:=RdL.at1 (s:=⟨A,n,c⟩) h;have uH:l.length<=2000000:=Ah (Ck Cm _) hl;have hed:=Bq (show ∀ k (hk:k<l.length),l[k].plan.edges.length<=2000000 from fun k hk=>by
  have h1:=Ds (cnt:=Cm) (Aw hk);have h2:Cm l[k]=l[k].plan.edges.length:=Fn (fun _=>rfl) _;omega)
 have CC:=Bq (fun W (hW:Below w w W)=>Ed y (⟨A1,n1,c1⟩,⟨A2,n2,c2⟩) W hc (Bu.rd_more (Bu.rd_below hy hW) hW.size));obtain ⟨i0,aL,aS,aP,aQ⟩:=info_parts Q6;have sX:=Bq hc;clear hy hc;obtain ⟨W,aG,X,RES,B0⟩:=bx2 w 31 [.int .i64 y.now,.int .i64 y.seq,.slice A1 n1 c1,.slice A2 n2 c2] 31 [.int .i64 0,.int .i64 0,.slice Ab 0 0,.slice Ab 0 0];go_enter Tryz.func90,Tryz.ntmps90;go_wp2_with fail
 rw [<-aG.out];clear aG;have dK:w.heap.size+1<W.heap.size:=RES.lt;refine (CC.out _ B0).mono ?_;rintro e1 w1 ⟨⟨⟨B1,m1,e1⟩,⟨B2,m2,e2⟩⟩,F,rfl,oy,nF,b1⟩;have bL:=b1.size;have cH:=Bu.ow_lt (F:=F) (x:=y) (s:=(⟨B1,m1,e1⟩,⟨B2,m2,e2⟩)) oy;replace RES:=RES.below b1;replace B0:=Bt B0 b1;clear X b1 CC;go_upto_region 2 with fail
 have YB:=DBox.new 31 (Eh y (⟨B1,m1,e1⟩,⟨B2,m2,e2⟩)) w1 (b:=w1.heap.size) rfl;have b2:Below w1 w1 (w1.alloc (.cells (Eh y (⟨B1,m1,e1⟩,⟨B2,m2,e2⟩)).toArray 31)):=(Br _ _).alloc (Bs _) _;replace oy:Bu.ow _ F y (⟨B1,m1,e1⟩,⟨B2,m2,e2⟩):=owB oy b2;replace RES:=RES.below b2;replace B0:=Bt B0 b2;have hYl:=YB.lt;clear b2;generalize w1.alloc (.cells (Eh y (⟨B1,m1,e1⟩,⟨B2,m2,e2⟩)).toArray 31)=w2 at *
 generalize hyb:w1.heap.size=yb at *
 have fM:Hid (∀ x∈F,w.heap.size+1<x/\x≠yb):=fun x hx=>by have h1:=nF x hx;have h2:=cH x hx;omega
 have hybn:w.heap.size+1<yb:=Bl;clear nF cH;have q0:Below w2 w2 (w2.alloc (.cells #[] 69)):=(Br _ _).alloc (Bs _) _;have o0:=Ow.empty Hz.enc 69 w2 rfl;replace oy:Bu.ow _ F y (⟨B1,m1,e1⟩,⟨B2,m2,e2⟩):=owB oy q0;replace RES:=RES.below q0;replace YB:=YB.below q0;replace B0:=Bt B0 q0;clear q0;go_wp2;go_loopw [7,8] (fun rv iv wr=>∃ (k:Nat) (s:Sl×Sl) (F:List Nat) (v:Value),k<=l.length/\iv = .int .i64 k/\v=rv/\Hid (Bu.ow wr F (Ib y (l.take k)) s /\ ∀ x∈F,w.heap.size+1<x/\x≠yb)/\Hid (Ow Hz.enc 69 wr w2 v ((Jn y (l.take k)).map fun x=>(x,())))/\DBox yb (Eh (Ib y (l.take k)) s) wr/\DBox (w.heap.size+1) [.int .i64 0,.int .i64 0,.slice Ab 0 0,.slice Ab 0 0] wr/\Below w w wr/\w2.heap.size<=wr.heap.size) (fun _ i _=>l.length - (intOf i).toNat);case atStart=>exact ⟨0,(⟨B1,m1,e1⟩,⟨B2,m2,e2⟩),F,_,Ag _,rfl,rfl,⟨oy,fM.out⟩,o0,YB,RES,B0,Bn⟩
 case round =>
  clear oy fM YB RES B0 o0;obtain ⟨k,s,F,v,hk,rfl,rfl,hO,hR,YB,RES,hb,sS⟩:=hrel;have hYl2:=YB.lt;have hRl2:=RES.lt;have cC:=hb.size;by_cases aA:k<l.length
  ·have aB:(k:Int)<(l.length:Int):=Bl;have nQ:=Bq (Q0 (l.take k) y sX.out);have aE:=Bq (show Ib y (l.take (k+1))=(doO (Ib y (l.take k)) l[k]).1 by rw [Cn l k aA,U4]);have fD:=Bq (show Jn y (l.take (k+1))=Jn y (l.take k) ++ [(doO (Ib y (l.take k)) l[k]).2] by rw [Cn l k aA,Q1]);have bK:=Bq (show (Jn y (l.take k)).length=k by rw [P9,Az];omega);obtain ⟨db,od,sd,rfl,hdb,gB,c0,c1,c2,c3,c4,c5,c6,c7,c8,c9,c10⟩:=(h.below hb).deed aA;have mJ:db<wr:=Bl;have hedk:=hed.out k aA;have mY:=Bq (show ∀ W,Below wr wr W->Cg.rd W W l[k] sd from fun W hW=>Cg.rd_more (Cg.rd_below (Cg.rd_more gB cC) hW) hW.size);clear gB;have oy:=hO.out.1;have rU:=hO.out.2;have o0:=hR.out;clear hO hR;have pT:Hid (Cb (Ib y (l.take k))<=2000000):=nQ;clear nQ;generalize Ib y (l.take k)=Z at *
   generalize Jn y (l.take k)=RS at *
   generalize l[k]=d at *
   have gE:=Bq (show ∀ g,v.ownBlock=Ac g->w2.heap.size<=g/\g<wr.heap.size from fun g hg=>o0.within g hg);have b4:Below wr wr (wr.alloc (.cells #[.int .i64 0,.int .i64 0,.int .i64 0,.int .i64 0] 69)):=(Br _ _).alloc (Bs _) _;have RB:=DBox.new 69 [.int .i64 0,.int .i64 0,.int .i64 0,.int .i64 0] wr (b:=wr.heap.size) rfl;go_upto_region 7 with fail
   replace YB:=YB.below b4;replace RES:=RES.below b4;replace oy:Bu.ow _ F Z s:=owB oy b4;replace o0:=o0.below b4;have bR:=Bt hb b4;have kY:=b4.size;replace c0:=(b4.cell (p:=⟨_,_,Ab⟩) mJ).trans c0;replace c1:=(b4.cell (p:=⟨_,_,Ab⟩) mJ).trans c1;replace c2:=(b4.cell (p:=⟨_,_,Ab⟩) mJ).trans c2;replace c3:=(b4.cell (p:=⟨_,_,Ab⟩) mJ).trans c3;replace c4:=(b4.cell (p:=⟨_,_,Ab⟩) mJ).trans c4;replace c5:=(b4.cell (p:=⟨_,_,Ab⟩) mJ).trans c5;replace c6:=(b4.cell (p:=⟨_,_,Ab⟩) mJ).trans c6;replace c7:=(b4.cell (p:=⟨_,_,Ab⟩) mJ).trans c7;replace c8:=(b4.cell (p:=⟨_,_,Ab⟩) mJ).trans c8;replace c9:=(b4.cell (p:=⟨_,_,Ab⟩) mJ).trans c9;replace c10:=(b4.cell (p:=⟨_,_,Ab⟩) mJ).trans c10;replace mY:=Bq (fun W hW=>mY.out W (Bt b4 hW));clear b4;generalize wr.alloc (.cells #[.int .i64 0,.int .i64 0,.int .i64 0,.int .i64 0] 69)=w4 at *
   generalize sF:wr.heap.size=nb at *
   have eM:=RB.lt;have CD:=Bq (Abj Z s d sd w4.drew pT.out hedk (Bu.ow_rd (w:=w4.drew) (F:=F) (x:=Z) (s:=s) (Bu.ow_below (F:=F) (x:=Z) (s:=s) oy (Br _ _).drew)) (mY.out _ (Br _ _).drew));generalize doO Z d=o at *
   obtain ⟨z,rep⟩:=o;dsimp only at aE fD;have hYl3:yb<w4:=YB.lt;have fF:db<w4:=Bl;obtain ⟨YB_0,YB_1,YB_2,YB_3,YB_l⟩:=YB.g4;refine Rs (fun w'=>w'.cell? ⟨yb,0,Ab⟩=Ac (.int .i64 Z.now)/\w'.cell? ⟨yb,1,Ab⟩=Ac (.int .i64 Z.seq)/\w'.cell? ⟨yb,2,Ab⟩=Ac (.slice s.1.a s.1.n s.1.c)/\w'.cell? ⟨yb,3,Ab⟩=Ac (.slice s.2.a s.2.n s.2.c)/\w'.cell? ⟨db,od+k * 11,Ab⟩=Ac (.int .i64 d.kind)/\w'.cell? ⟨db,od+k * 11+1,Ab⟩=Ac (.int .i64 d.run)/\w'.cell? ⟨db,od+k * 11+2,Ab⟩=Ac (.int .i64 d.plan.prio)/\w'.cell? ⟨db,od+k * 11+3,Ab⟩=Ac (.int .i64 d.plan.most)/\w'.cell? ⟨db,od+k * 11+4,Ab⟩=Ac (.int .i64 d.plan.wait)/\w'.cell? ⟨db,od+k * 11+5,Ab⟩=Ac (.int .i64 d.plan.tasks)/\w'.cell? ⟨db,od+k * 11+6,Ab⟩=Ac (.slice sd.a sd.n sd.c)/\w'.cell? ⟨db,od+k * 11+7,Ab⟩=Ac (.int .i64 d.task)/\w'.cell? ⟨db,od+k * 11+8,Ab⟩=Ac (.int .i64 d.try_)/\w'.cell? ⟨db,od+k * 11+9,Ab⟩=Ac (.int .i64 d.worker)/\w'.cell? ⟨db,od+k * 11+10,Ab⟩=Ac (.int .i64 d.draw)) 9 Bm ?_ (fun hHeld=>?_)
   ·exact ⟨YB_0,YB_1,YB_2,YB_3,c0,c1,c2,c3,c4,c5,c6,c7,c8,c9,c10⟩
   refine aM 0 hHeld ?_;try simp only [pS]
   refine aM 1 hHeld ?_;try simp only [pS]
   refine aM 2 hHeld ?_;try simp only [pS]
   refine aM 3 hHeld ?_;try simp only [pS]
   refine aM 4 hHeld ?_;try simp only [pS]
   refine oM 5 (fun K hK=>?_)
   (go_simp;refine CD.out.mono ?_;rintro e6 w6 ⟨s6,F6,rfl,oy6,n6,b6⟩;replace oy6:Bu.ow w6 F6 z s6:=oy6)
   have b6':Below w4 w4 w6:=Bt (Br _ _).drew b6;have uD:=(⟨(b6'.cell (p:=⟨_,_,Ab⟩) hYl3).trans YB_0,(b6'.cell (p:=⟨_,_,Ab⟩) hYl3).trans YB_1,(b6'.cell (p:=⟨_,_,Ab⟩) hYl3).trans YB_2,(b6'.cell (p:=⟨_,_,Ab⟩) hYl3).trans YB_3,(b6'.cell (p:=⟨_,_,Ab⟩) fF).trans c0,(b6'.cell (p:=⟨_,_,Ab⟩) fF).trans c1,(b6'.cell (p:=⟨_,_,Ab⟩) fF).trans c2,(b6'.cell (p:=⟨_,_,Ab⟩) fF).trans c3,(b6'.cell (p:=⟨_,_,Ab⟩) fF).trans c4,(b6'.cell (p:=⟨_,_,Ab⟩) fF).trans c5,(b6'.cell (p:=⟨_,_,Ab⟩) fF).trans c6,(b6'.cell (p:=⟨_,_,Ab⟩) fF).trans c7,(b6'.cell (p:=⟨_,_,Ab⟩) fF).trans c8,(b6'.cell (p:=⟨_,_,Ab⟩) fF).trans c9,(b6'.cell (p:=⟨_,_,Ab⟩) fF).trans c10⟩:w6.cell? ⟨yb,0,Ab⟩=Ac (.int .i64 Z.now)/\w6.cell? ⟨yb,1,Ab⟩=Ac (.int .i64 Z.seq)/\w6.cell? ⟨yb,2,Ab⟩=Ac (.slice s.1.a s.1.n s.1.c)/\w6.cell? ⟨yb,3,Ab⟩=Ac (.slice s.2.a s.2.n s.2.c)/\w6.cell? ⟨db,od+k * 11,Ab⟩=Ac (.int .i64 d.kind)/\w6.cell? ⟨db,od+k * 11+1,Ab⟩=Ac (.int .i64 d.run)/\w6.cell? ⟨db,od+k * 11+2,Ab⟩=Ac (.int .i64 d.plan.prio)/\w6.cell? ⟨db,od+k * 11+3,Ab⟩=Ac (.int .i64 d.plan.most)/\w6.cell? ⟨db,od+k * 11+4,Ab⟩=Ac (.int .i64 d.plan.wait)/\w6.cell? ⟨db,od+k * 11+5,Ab⟩=Ac (.int .i64 d.plan.tasks)/\w6.cell? ⟨db,od+k * 11+6,Ab⟩=Ac (.slice sd.a sd.n sd.c)/\w6.cell? ⟨db,od+k * 11+7,Ab⟩=Ac (.int .i64 d.task)/\w6.cell? ⟨db,od+k * 11+8,Ab⟩=Ac (.int .i64 d.try_)/\w6.cell? ⟨db,od+k * 11+9,Ab⟩=Ac (.int .i64 d.worker)/\w6.cell? ⟨db,od+k * 11+10,Ab⟩=Ac (.int .i64 d.draw))
   refine hK.out _ _ (fun _ _=>uD) ?_;clear hK K;try simp only [pS]
   refine aM 6 uD ?_;try simp only [pS]
   refine aM 7 uD ?_;try simp only [pS]
   have YB6:=YB.below b6';have RB6:=RB.below b6';have hybnb:yb≠nb:=Bl;have RB6b:=(((RB6.setOther (a:=⟨yb,0,Ab⟩) hybnb.symm (.int .i64 z.now)).setOther (a:=⟨yb,1,Ab⟩) hybnb.symm (.int .i64 z.seq)).setOther (a:=⟨yb,2,Ab⟩) hybnb.symm (.slice s6.1.a s6.1.n s6.1.c)).setOther (a:=⟨yb,3,Ab⟩) hybnb.symm (.slice s6.2.a s6.2.n s6.2.c);have k0:=YB6.cell 0 _ rfl;have k1:=YB6.cell 1 _ rfl;have k2:=YB6.cell 2 _ rfl;have k3:=YB6.cell 3 _ rfl;have ybf:=YB6.free;have ybl:=YB6.lt;have r0:=RB6b.cell 0 _ rfl;have r1:=RB6b.cell 1 _ rfl;have r2:=RB6b.cell 2 _ rfl;have r3:=RB6b.cell 3 _ rfl;have rbf:=RB6b.free;have rbl:=RB6b.lt;refine oM2 8 9 (fun K hK=>?_) (fun K hK=>?_)
   (go_simp;refine hK.out _ _ (fun _ _=>uD) ?_;clear hK K;try simp only [pS])
   refine oM 9 (fun K hK=>?_)
   (go_simp;refine hK.out _ _ (fun aC=>absurd rfl aC) ?_;clear hK K;try simp only [pS])
   rotate_left
   (go_simp;refine hK.out _ _ (fun aC=>absurd rfl aC) ?_;clear hK K;try simp only [pS])
   refine oM 8 (fun K hK=>?_)
   (go_simp;refine hK.out _ _ (fun _ h=>Bool.noConfusion (h.symm.trans (show _=true by kernel_rfl))) ?_;clear hK K;try simp only [pS])
   all_goals
    refine oM 10 (fun K hK=>?_)
    (go_simp;refine hK.out _ _ (fun _ h=>Bool.noConfusion (h.symm.trans (show _=true by kernel_rfl))) ?_;clear hK K;try simp only [pS])
    refine Yf Bm ?_ _;clear YB_0 YB_1 YB_2 YB_3 YB_l;clear hHeld uD c0 c1 c2 c3 c4 c5 c6 c7 c8 c9 c10 CD k0 k1 k2 k3 ybf ybl r0 r1 r2 r3 rbf rbl RB6b RB;replace YB:=YB6;have RB:=RB6;clear YB6 RB6;replace RES:=RES.below b6';replace o0:=o0.below b6';have nW:=Bt bR b6';have kD:∀ x∈F6,w4<=x:=n6;have hs7:=b6'.size;clear n6 oy b6 b6';have nI:∀ x∈F6,x≠yb:=fun x hx=>by have:=kD x hx;omega
    have bU:=Chg.cells4 w6 yb 0 1 2 3 (.int .i64 z.now) (.int .i64 z.seq) (.slice s6.1.a s6.1.n s6.1.c) (.slice s6.2.a s6.2.n s6.2.c);have pY:=Bq (show ∀ x,x∈[yb]->x=yb from fun x hx=>by simpa using hx);have YB8:=DBox.row4 YB rfl (.int .i64 z.now) (.int .i64 z.seq) (.slice s6.1.a s6.1.n s6.1.c) (.slice s6.2.a s6.2.n s6.2.c);have oy8:Bu.ow _ F6 z s6:=owC oy6 bU (fun x hx hx2=>nI x hx (pY.out x hx2));have RES8:=RES.chg bU (fun hx=>by have:=pY.out _ hx;omega);have RB8:=RB.chg bU (fun hx=>by have:=pY.out _ hx;omega);have o8:=o0.grown bU.toGrown (.inr (fun e=>by have:=(gE.out _ e).1;omega));have mP:=nW.trans (bU.below (by have:=nW.size;omega) (fun x hx=>by have:=pY.out x hx;omega));have hs8:=bU.size;clear YB oy6 bU nW RES RB o0;generalize (((w6.setCell ⟨yb,0,Ab⟩ (.int .i64 z.now)).setCell ⟨yb,1,Ab⟩ (.int .i64 z.seq)).setCell ⟨yb,2,Ab⟩ (.slice s6.1.a s6.1.n s6.1.c)).setCell ⟨yb,3,Ab⟩ (.slice s6.2.a s6.2.n s6.2.c)=wq at *
    have dU:=Chg.cells4 wq nb 0 1 2 3 (.int .i64 rep.code) (.int .i64 rep.run) (.int .i64 rep.task) (.int .i64 rep.try_);have cI:=Bq (show ∀ x,x∈[nb]->x=nb from fun x hx=>by simpa using hx);replace YB8:=YB8.chg dU (fun hx=>by have:=cI.out _ hx;omega);replace oy8:Bu.ow _ F6 z s6:=owC oy8 dU (fun x hx hx2=>by have h1:=kD x hx;have h2:=cI.out x hx2;omega);replace RES8:=RES8.chg dU (fun hx=>by have:=cI.out _ hx;omega);replace RB8:=DBox.row4 RB8 rfl (.int .i64 rep.code) (.int .i64 rep.run) (.int .i64 rep.task) (.int .i64 rep.try_);replace o8:=o8.grown dU.toGrown (.inr (fun e=>by have:=(gE.out _ e).2;omega));replace mP:=mP.trans (dU.below (by have:=mP.size;omega) (fun x hx=>by have:=cI.out x hx;omega));have tH:=dU.size;clear dU;generalize (((wq.setCell ⟨nb,0,Ab⟩ (.int .i64 rep.code)).setCell ⟨nb,1,Ab⟩ (.int .i64 rep.run)).setCell ⟨nb,2,Ab⟩ (.int .i64 rep.task)).setCell ⟨nb,3,Ab⟩ (.int .i64 rep.try_)=w8 at *
    have RB:=RB8;have RB_:=RB.g4;have ha:=Bq (show ∀ w:World,Below w w (w.alloc (.cells #[.int .i64 rep.code,.int .i64 rep.run,.int .i64 rep.task,.int .i64 rep.try_] 69)) from fun w=>(Br _ _).alloc (Bs _) _);have hrl3:=Bq (show (RS.map fun x=>(x,())).length<=3000000 by rw [Ar,bK.out];omega);obtain ⟨A7,c7',kQ,-⟩:=_root_.id (Rd.of_own o8);generalize kM:(RS.map fun x=>(x,())).length=n7 at kQ;subst kQ;replace kM:=Bq kM;go_upto_region 5 with (at_builtin;go_loud (refine By _ Hz.enc Bp rfl (.tmp 29) (.tmp 31) rfl Tryz.underlying152 aL aS aP aQ rfl (base:=w2.heap.size) (v:=.slice A7 n7 c7') (l:=RS.map fun x=>(x,())) rfl (o8.below (ha.out w8)) rfl (Rd.one Hz.enc _ _ (rep,()) rfl rfl 1 (Bs _) (Nat.lt_succ_self _)) hrl3.out Bn Bp (by simp;omega) ?_);intro v5 w5 o5 g5 f5)
    clear RB_;clear RB;have rn:∀ z,z<w2.heap.size->Ac z≠(Value.slice A7 n7 c7').ownBlock:=fun z hz e=>by have:=(gE.out z e.symm).1;omega
    have YB9:=(YB8.below (ha.out w8)).off g5 (rn yb Bl);have RES9:=(RES8.below (ha.out w8)).off g5 (rn _ Bl);have oy9:Bu.ow w5 F6 z s6:=Bu.ow_keep (F:=F6) (x:=z) (s:=s6) (Bu.ow_below (F:=F6) (x:=z) (s:=s6) oy8 (ha.out w8)) g5.size (fun x hx=>g5.block x (Bu.ow_lt (F:=F6) (x:=z) (s:=s6) (Bu.ow_below (F:=F6) (x:=z) (s:=s6) oy8 (ha.out w8)) x hx) (fun e=>by have h1:=(gE.out x e.symm).2;have h2:=kD x hx;omega));have tI:=(Bt mP (ha.out w8)).grown g5 (Bt mP (ha.out w8)).size (fun g hg=>by have:=(gE.out g hg).1;omega);have g5s:=g5.size;simp only [Bj] at g5s;have jD:∀ x∈F6,w.heap.size+1<x/\x≠yb:=fun x hx=>⟨by have:=kD x hx;omega,nI x hx⟩
    have o9:Ow Hz.enc 69 w5 w2 v5 ((RS ++ [rep]).map fun x=>(x,())):=by rw [List.map_append];exact o5
    clear o5 g5 f5 oy8 YB8 RES8 o8 mP;go_wp2;exact ⟨⟨k+1,s6,F6,v5,Bl,by go_num,rfl,by rw [aE.out];exact ⟨oy9,jD⟩,by rw [fD.out];exact o9,by rw [aE.out];exact YB9,RES9,tI,Bl⟩,by simp [intOf];omega⟩
  ·have aB:¬ (k:Int)<(l.length:Int):=Bl;have hE:=Bq (show l.take k=l from Bg Bl);rw [hE.out] at hO hR YB;obtain ⟨oy,rU⟩:=hO.out;have o0:=hR.out;clear hO hR;obtain ⟨A7,c7,kQ,-⟩:=_root_.id (Rd.of_own o0);generalize kM:((Jn y l).map fun x=>(x,())).length=n7 at kQ;subst kQ;replace kM:=Bq kM;obtain ⟨YB_0,YB_1,YB_2,YB_3,YB_l⟩:=YB.g4;have RES_:=RES.g4;have rf:=RES.free;generalize Ib y l=Z at *
   go_wp2;have en1:w.heap.size+1∉F:=fun hx=>by have:=rU _ hx;omega
   have dU:=Chg.cells4 wr (w.heap.size+1) 0 1 2 3 (.int .i64 Z.now) (.int .i64 Z.seq) (.slice s.1.a s.1.n s.1.c) (.slice s.2.a s.2.n s.2.c);have cI:=Bq (show ∀ x,x∈[w.heap.size+1]->x=w.heap.size+1 from fun x hx=>by simpa using hx);refine Aj (Abn (DBox.row4 RES rfl _ _ _ _)) rfl ⟨s,F,⟨A7,n7,c7⟩,rfl,Bu.ow_chg (F:=F) (x:=Z) (s:=s) (show Bu.ow wr F Z s from oy) dU (fun x hx hx2=>en1 (by rw [<-cI.out x hx2];exact hx)),fun x hx=>by have:=rU x hx;omega,Wi (o0.rdHi dU (fun x hx=>.inl (by rw [cI.out x hx];omega))),hb.trans (dU.below Bl (fun x hx=>by have:=cI.out x hx;omega))⟩
theorem Qa (l:List Deed) (s:Sl) (w:World) (hl:E6 Cm l<=2000000) (h:RdL Cg w w s.v l) :
  Calls Am 92 #[.slice s.a s.n s.c] w (Di (Dt.list Cg) slV l w):=by
 obtain ⟨A,n,c⟩:=s;obtain ⟨A',c',hv,-⟩:=h.form;simp only [Sl.v,Value.slice.injEq] at hv;obtain ⟨rfl,rfl,rfl⟩:=hv;have cR:l.length<=2000000:=Ah (Ck _ _) hl;have gF:∀ k (hk:k<l.length),Cm l[k]<=2000000:=fun k hk=>by have:=Ds (cnt:=Cm) (Aw hk);omega
 clear hl;obtain ⟨i0,aL,aS,aP,aQ⟩:=info_parts K5;go_enter Tryz.func92,Tryz.ntmps92;go_wp2;go_loopw [3,8] (fun t i wr=>∃ (k:Nat) (v:Value),k<=l.length/\i = .int .i64 k/\v=t/\Hid (Bls Cg 45 wr w v (l.take k))/\Below w w wr) (fun _ i _=>l.length - (intOf i).toNat);case atStart=>exact ⟨0,_,Ag _,rfl,rfl,⟨[],rfl,Bld.nil _ _ _ _⟩,Br _ _⟩
 case round =>
  obtain ⟨k,v,hk,rfl,rfl,dF,hb⟩:=hrel;by_cases aA:k<l.length
  ·obtain ⟨b,o,s',rfl,aH,hr,c0,c1,c2,c3,c4,c5,c6,c7,c8,c9,c10⟩:=(h.below hb).deed aA;have hx:∀ W,Below wr wr W->Cg.rd W W l[k] s':=fun W hW=>Cg.rd_more (Cg.rd_below (Cg.rd_more hr hb.size) hW) hW.size;obtain ⟨rs,hm,hB⟩:=dF.out;have bK:rs.length=k:=by have:=congrArg List.length hm;simpa [Nat.min_eq_left hk] using this
   have hO:=hB.ow;have aV:=hb.size;have B1:=(Br wr wr).alloc (Bs _) (.cells #[.int .i64 l[k].kind,.int .i64 l[k].run,.int .i64 l[k].plan.prio,.int .i64 l[k].plan.most,.int .i64 l[k].plan.wait,.int .i64 l[k].plan.tasks,.slice s'.a s'.n s'.c,.int .i64 l[k].task,.int .i64 l[k].try_,.int .i64 l[k].worker,.int .i64 l[k].draw] 45);have Hrl:=Bq bK;have hrl':rs.length<=2000000:=Bl;clear bK;go_wp2_with (first | (go_at_call 158;refine (Jw l[k] s' _ (gF k aA) (hx _ B1)).mono ?_;rintro e w2 ⟨s2,F2,rfl,o2,n2,b2⟩;have B2:=Bt B1 b2;have z2:=b2.size;(try simp only [Bj] at z2 n2)) | (at_builtin;refine By _ Cg.enc Bp rfl (.tmp 12) (.tmp 15) rfl Tryz.underlying78 aL aS aP aQ rfl (v:=v) (l:=rs) rfl (hO.below (B2.alloc Bl _)) rfl (Rd.one Cg.enc _ _ (l[k],s2) rfl rfl 1 (Bs _) (Nat.lt_succ_self _)) Bl Bn Bp (by (try simp only [Bj]);omega) ?_;intro v5 w5 o5 g5 f5))
   have hP:=Bld.push1 (d:=Cg) (x:=l[k]) hB B2 o2 (fun b aU=>by have:=n2 b aU;omega) aV ((Br _ _).alloc (Bs _) _) o5 g5 f5;refine ⟨⟨k+1,v5,Bl,by go_num,rfl,⟨rs ++ [(l[k],s2)],by rw [List.map_append,hm,Cn l k aA];rfl,hP⟩,((hb.trans (B2.mono hb.size)).alloc Bl _).grown g5 Bo (fun g hg=>(hO.within g hg).1)⟩,by simp [intOf];omega⟩
  ·go_wp2;go_ret;have h1:=dF.out;rw [Bg Bl] at h1;exact h1.own hb
noncomputable def Iq (l:List Deed):List Deed:=if 400<l.length then l else G6 l (Jn Fq l)
theorem Adb (l:List Deed):E6 Cm (Iq l)<=E6 Cm l:=by
 unfold Iq;split
 ·exact Bs _
 ·exact Tv _ _
theorem Aae (y:Yard) (l:List Deed) (h:l.length<=400):E6 Pk (Jn y l)<=2000000:=by
 have h1:E6 Pk (Jn y l)=(Jn y l).length:=Fn (fun _=>rfl) _;rw [h1,P9];omega
theorem Qb (l:List Deed) (s:Sl) (w:World) (hl:E6 Cm l<=2000000) (h:RdL Cg w w s.v l) :
  Calls Am 42 #[Aa s.a s.n s.c] w (Di (Dt.list Cg) slV (Iq l) w):=by
 obtain ⟨A,n,c⟩:=s;obtain rfl:n=l.length:=RdL.at1 (s:=⟨A,n,c⟩) h;have uH:l.length<=2000000:=Ah (Ck Cm _) hl;by_cases q:400<l.length
 ·have qI:(400:Int)<(l.length:Int):=Bl;have H:=Bq (show Iq l=l from if_pos q);have C:=Bq (Qa l ⟨A,l.length,c⟩ w hl h);rw [H.out];clear q;go_enter Tryz.func42,Tryz.ntmps42;go_wp2_with fail
  refine C.out.mono ?_;rintro e w1 ⟨s1,F,he,o1,n1,b1⟩;replace he:e = .returned (Aa s1.a s1.n s1.c):=he;subst he;go_wp2;go_ret;exact ⟨s1,F,rfl,o1,n1,b1⟩
 have qI:¬ (400:Int)<(l.length:Int):=Bl;have H:=Bq (show Iq l=G6 l (Jn Fq l) from if_neg q);have sW:=Bq (Aae Fq l Bl);rw [H.out];have HR:=Bq (show ∀ W,Below w w W->RdL Cg W W (Aa A l.length c) l from fun W hW=>(h.below hW).more hW.size);clear q;go_enter Tryz.func42,Tryz.ntmps42;go_wp2_with fail
 refine (Rz w).mono ?_;rintro e1 w1 ⟨⟨⟨B1,m1,e1⟩,⟨B2,m2,e2⟩⟩,F,rfl,oy,nF,b1⟩;have CA:=Bq (Vo Fq (⟨B1,m1,e1⟩,⟨B2,m2,e2⟩) l ⟨A,l.length,c⟩ w1 Oq hl (Bu.ow_rd (F:=F) (x:=Fq) (s:=(⟨B1,m1,e1⟩,⟨B2,m2,e2⟩)) oy) (HR.out _ b1));generalize Ib Fq l=Z at *
 generalize Jn Fq l=RS at *
 go_wp2_with fail
 refine CA.out.mono ?_;rintro e2' w2 ⟨s2,F2,t,rfl,oy2,n2,rr,b2⟩;have b12:=Bt b1 b2;go_upto_region 4 with fail
 have ba:Below w2 w2 (w2.alloc (.cells #[J U Z.now,J U Z.seq,Aa s2.1.a s2.1.n s2.1.c,Aa s2.2.a s2.2.n s2.2.c] 31)):=(Br _ _).alloc (Bs _) _;have b3:=Bt b12 ba;have CM:=Bq (Qn l ⟨A,l.length,c⟩ RS t _ hl sW.out (HR.out _ b3) ((rr.below ba).more ba.size));generalize w2.alloc (.cells #[J U Z.now,J U Z.seq,Aa s2.1.a s2.1.n s2.1.c,Aa s2.2.a s2.2.n s2.2.c] 31)=w3 at *
 generalize G6 l RS=M at *
 go_wp2_with fail
 refine CM.out.mono ?_;rintro e3 w4 ⟨s4,F4,he,o4,n4,b4⟩;replace he:e3 = .returned (Aa s4.a s4.n s4.c):=he;subst he;have hz:=b3.size;go_wp2;go_ret;exact ⟨s4,F4,rfl,o4,fun x hx=>Ah hz (n4 x hx),Bt b3 b4⟩
theorem Xy (l:List Deed) (s:Sl) (w:World) (hl:E6 Cm l<=2000000) (h:RdL Cg w w s.v l) :
  Calls Am 41 #[Aa s.a s.n s.c] w (Di (Dt.list Cg) slV (Iq l) w):=by
 obtain ⟨A,n,c⟩:=s;obtain rfl:n=l.length:=RdL.at1 (s:=⟨A,n,c⟩) h;have uH:l.length<=2000000:=Ah (Ck Cm _) hl;by_cases q:400<l.length
 ·have qI:(400:Int)<(l.length:Int):=Bl;have H:=Bq (show Iq l=l from if_pos q);have C:=Bq (Ls l ⟨A,l.length,c⟩ w hl h);rw [H.out];clear q;go_enter Tryz.func41,Tryz.ntmps41;go_wp2_with fail
  refine C.out.mono ?_;rintro e w1 ⟨s1,F,he,o1,n1,b1⟩;replace he:e = .returned (Aa s1.a s1.n s1.c):=he;subst he;go_wp2;go_ret;exact ⟨s1,F,rfl,o1,n1,b1⟩
 have qI:¬ (400:Int)<(l.length:Int):=Bl;have H:=Bq (show Iq l=G6 l (Jn Fq l) from if_neg q);have sW:=Bq (Aae Fq l Bl);rw [H.out];have HR:=Bq (show ∀ W,Below w w W->RdL Cg W W (Aa A l.length c) l from fun W hW=>(h.below hW).more hW.size);clear q;go_enter Tryz.func41,Tryz.ntmps41;go_wp2_with fail
 refine (R0 w).mono ?_;rintro e1 w1 ⟨⟨⟨B1,m1,e1⟩,⟨B2,m2,e2⟩⟩,F,rfl,oy,nF,b1⟩;have CA:=Bq (Vp Fq (⟨B1,m1,e1⟩,⟨B2,m2,e2⟩) l ⟨A,l.length,c⟩ w1 Oq hl (Bu.ow_rd (F:=F) (x:=Fq) (s:=(⟨B1,m1,e1⟩,⟨B2,m2,e2⟩)) oy) (HR.out _ b1));generalize Ib Fq l=Z at *
 generalize Jn Fq l=RS at *
 go_wp2_with fail
 refine CA.out.mono ?_;rintro e2' w2 ⟨s2,F2,t,rfl,oy2,n2,rr,b2⟩;have b12:=Bt b1 b2;go_upto_region 4 with fail
 have ba:Below w2 w2 (w2.alloc (.cells #[J U Z.now,J U Z.seq,Aa s2.1.a s2.1.n s2.1.c,Aa s2.2.a s2.2.n s2.2.c] 31)):=(Br _ _).alloc (Bs _) _;have b3:=Bt b12 ba;have CM:=Bq (Qo l ⟨A,l.length,c⟩ RS t _ hl sW.out (HR.out _ b3) ((rr.below ba).more ba.size));generalize w2.alloc (.cells #[J U Z.now,J U Z.seq,Aa s2.1.a s2.1.n s2.1.c,Aa s2.2.a s2.2.n s2.2.c] 31)=w3 at *
 generalize G6 l RS=M at *
 go_wp2_with fail
 refine CM.out.mono ?_;rintro e3 w4 ⟨s4,F4,he,o4,n4,b4⟩;replace he:e3 = .returned (Aa s4.a s4.n s4.c):=he;subst he;have hz:=b3.size;go_wp2;go_ret;exact ⟨s4,F4,rfl,o4,fun x hx=>Ah hz (n4 x hx),Bt b3 b4⟩
end Go.Proofs.YtonlnjdempbfoaaGreat
