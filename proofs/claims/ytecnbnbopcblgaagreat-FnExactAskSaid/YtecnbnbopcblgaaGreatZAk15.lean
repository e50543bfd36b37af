/-
  Submit of the program. Written by program (isu.py). Swept of the program. Cancel of the program. Written by program (icn.py). Do of the reference. Written by pr
-/
import Derived.Test.YtecnbnbopcblgaaGreatZAk7
import Derived.Test.YtecnbnbopcblgaaGreatZAk10
import Derived.Test.YtecnbnbopcblgaaGreatZAk11
import Derived.Test.YtecnbnbopcblgaaGreatZAk13
import Derived.Test.YtecnbnbopcblgaaGreatZAk14
namespace Go.Proofs.YtecnbnbopcblgaaGreat
open Go.RowKit
set_option maxRecDepth 100000
set_option maxHeartbeats 4000000
set_option linter.unusedVariables false
set_option linter.unusedSimpArgs false
open Value renaming int->J,slice->Aa
open IntKind renaming i64->U
open Option renaming none->Ab,some->Ac
open Below renaming setCell->Ad
open Nat renaming le_trans->Ah
open Go renaming bodyPost_ret->Aj
open Go.Proofs.Tryz renaming prog->Am
open List renaming nodup_append->Ax,mem_append_left->Bf,mem_append->Bi
open World renaming size_alloc->Bj
open Go.Proofs.Tryz
theorem Aif {p:Prop} (h:p:=by
 have H2:=Br (show Jm y id p=y by unfold Jm;rw [H.out,if_neg Bq]);have RES_:=RES.g4;have rf:=RES.free;go_wp2;have en1:w.heap.size+1+1∉F:=fun hx=>by have:=nF _ hx;omega
 refine Aj (J1 (DBox.row4 RES rfl _ _ _ _)) rfl ⟨(⟨B1,m1,e1⟩,⟨B2,m2,e2⟩),F,by rw [H.out,H2.out],by rw [H2.out];exact (by (repeat (refine Dt.ow_set Bw ?_ en1 _));exact (show Bw.ow _ F y (⟨B1,m1,e1⟩,⟨B2,m2,e2⟩) from oy)),fun x hx=>by have:=nF x hx;omega,?_⟩;repeat (first | (with_reducible exact B0) | refine Ad ?_ Bp _)):p:=h
theorem Aij {p:Prop} (h:p:=by
 have H2:=Br (show Iu y id=y by unfold Iu;rw [H.out,if_neg Bq]);have RES_:=RES.g4;have rf:=RES.free;go_wp2;have en1:w.heap.size+1∉F:=fun hx=>by have:=nF _ hx;omega
 refine Aj (Ms (DBox.row4 RES rfl _ _ _ _)) rfl ⟨(⟨B1,m1,e1⟩,⟨B2,m2,e2⟩),F,by rw [H.out,H2.out],by rw [H2.out];exact (by (repeat (refine Dt.ow_set Bw ?_ en1 _));exact (show Bw.ow _ F y (⟨B1,m1,e1⟩,⟨B2,m2,e2⟩) from oy)),fun x hx=>by have:=nF x hx;omega,?_⟩;repeat (first | (with_reducible exact B0) | refine Ad ?_ Bp _)):p:=h
theorem Aiv {p:Prop} (h:p:=by exact ⟨(b6.cell (p:=⟨_,_,Ab⟩) (by show ob<w4;omega)).trans OB_3,(b6.cell (p:=⟨_,_,Ab⟩) (by show w.heap.size<w4.heap.size;omega)).trans X_3,(b6.cell (p:=⟨_,_,Ab⟩) (by show gx<w4;omega)).trans c0,(b6.cell (p:=⟨_,_,Ab⟩) (by show gx<w4;omega)).trans c1_,(b6.cell (p:=⟨_,_,Ab⟩) (by show gx<w4;omega)).trans c2_,(b6.cell (p:=⟨_,_,Ab⟩) (by show gx<w4;omega)).trans c3_,(b6.cell (p:=⟨_,_,Ab⟩) (by show gx<w4;omega)).trans c4_,(b6.cell (p:=⟨_,_,Ab⟩) (by show gx<w4;omega)).trans c5_,(b6.cell (p:=⟨_,_,Ab⟩) (by show gx<w4;omega)).trans c6,(b6.cell (p:=⟨_,_,Ab⟩) (by show gx<w4;omega)).trans c7_⟩):p:=h
theorem Amd {p:Prop} (h:p:=by unfold doO;rw [if_neg (by rw [hd.out];simp)];rfl):p:=h
theorem Aga (y:Yard) (r:Run):Ny y Hd r=Ke y r (Ia r.tasks 2):=by
 have h:Oe Hd r r.tasks.length=Ia r.tasks 2:=by
  rw [Ro,List.filter_eq_self.2];intro t _;have e:Ia Hd.tasks 2=[]:=rfl;rw [e];simp
 unfold Ny Ke;rw [h]
theorem J1 {b:Nat} {w:World} {u0 u1 u2 u3:Value} (X:DBox b [u0,u1,u2,u3] w) {v0 v1 v2 v3 v4 v5 v7:Value} {rest:List Value} :
  (results Tryz.f131 (v0 :: v1 :: v2 :: v3 :: v4 :: v5 :: .pointer (Ac ⟨b,0,Ab⟩) :: v7 :: rest).toArray).run Am w = .ok (.tuple #[.agg #[u0,u1,u2,u3],v7]) w:=by
 have c0:=X.cell 0 _ rfl;have c1:=X.cell 1 _ rfl;have c2:=X.cell 2 _ rfl;have c3:=X.cell 3 _ rfl;simp [results,results131,go_sem,c0,c1,c2,c3]
theorem Wl (y:Yard) (s:Sl×Sl) (id:Int) (p:Plan) (sp:Sl) (w:World) (hl:Ca y<=2000000) (hp:p.edges.length<=2000000) (h:Bw.rd w w y s) (hpr:Ce.rd w w p sp) :
  Calls Am 131 #[Ds y s,J U id,Jo p sp] w (Is (Jm y id p) (Jl y id p) w):=by
 have HR:=Br (show ∀ W,Below w w W->Bw.rd W W y s from fun W hW=>Bw.rd_more (Bw.rd_below h hW) hW.size);obtain ⟨⟨A1,n1,c1⟩,⟨A2,n2,c2⟩⟩:=s;obtain ⟨A3,n3,c3⟩:=sp;obtain rfl:n3=p.edges.length:=RdL.at1 (s:=⟨A3,n3,c3⟩) hpr;have CC:=Br (fun W hW=>Ks y (⟨A1,n1,c1⟩,⟨A2,n2,c2⟩) W hl (HR.out W hW));have CY:=Br (fun W hW=>Gk y (⟨A1,n1,c1⟩,⟨A2,n2,c2⟩) W hl (HR.out W hW));have CA:=Br (fun W hW=>Fj y (⟨A1,n1,c1⟩,⟨A2,n2,c2⟩) id W hl (HR.out W hW));have CF:=Br (fun W (hW:Below w w W)=>Hz p (Aa A3 p.edges.length c3) W hp (((I2 hpr).below hW).more hW.size));have CR:=Br (fun W hW hS hq=>Z6 y (⟨A1,n1,c1⟩,⟨A2,n2,c2⟩) p (Aa A3 p.edges.length c3) W hl hS hq (HR.out W hW));have CN:=Br (fun W (hW:Below w w W) hid hf=>Wi id p ⟨A3,p.edges.length,c3⟩ W hid hf (Ce.rd_more (Ce.rd_below hpr hW) hW.size));obtain ⟨j0,bX,jz0,jz1,jz2⟩:=info_parts Kn;clear h hpr HR;obtain ⟨W,aH,X,P,RES,B0⟩:=bx3 w 31 [J U y.now,J U y.seq,Aa A1 n1 c1,Aa A2 n2 c2] 43 [J U p.prio,J U p.most,J U p.wait,J U p.tasks,Aa A3 p.edges.length c3] 31 [J U 0,J U 0,Aa Ab 0 0,Aa Ab 0 0];go_enter func131,ntmps131;go_wp2_with fail
 rw [<-aH.out];clear aH;have eC:w.heap.size+1+1<W.heap.size:=RES.lt;refine (CC.out _ B0).mono ?_;rintro e1 w1 ⟨⟨B1,m1,e1⟩,⟨B2,m2,e2⟩,F1,base,rfl,oS,eR,aV,cZ,oR,b1⟩;have bE:=b1.size;replace X:=X.below b1;replace P:=P.below b1;replace RES:=RES.below b1;replace B0:=Bv B0 b1;clear b1;obtain ⟨rs,bZ,G0,oR⟩:=oR;have hm:=Br bZ;clear bZ;replace oR:BldG Cf 67 w1 base (Aa B2 m2 e2) rs G0:=oR;have vB:=oR.2.1.lt;have qQ:∀ g,(Value.slice B2 m2 e2).ownBlock=Ac g->g≠w1.heap.size:=fun g hg h=>by
  have:=(oR.1.within g hg).2
  omega
 obtain ⟨F,oy,nF⟩:∃ F,Bw.ow w1 F y (⟨B1,m1,e1⟩,⟨B2,m2,e2⟩) /\ ∀ x∈F,W<=x:=Ais
 go_upto_region 2 with fail
 have OB:=DBox.new 31 [J U y.now,J U y.seq,Aa B1 m1 e1,Aa B2 m2 e2] w1 (b:=w1) rfl;have b2:Below w1 w1 (w1.alloc (.cells #[J U y.now,J U y.seq,Aa B1 m1 e1,Aa B2 m2 e2] 31)):=Bu;replace X:=X.below b2;replace P:=P.below b2;replace RES:=RES.below b2;replace oy:=Bw.ow_below (F:=F) (x:=y) (s:=(⟨B1,m1,e1⟩,⟨B2,m2,e2⟩)) oy b2;replace oS:=oS.below b2;replace oR:=oR.below b2;replace B0:=Bv B0 b2;have ow1:=OB.lt;have hbob:base<=w1.heap.size:=cZ;replace cZ:=Ah cZ b2.size;clear b2;generalize w1.alloc (.cells #[J U y.now,J U y.seq,Aa B1 m1 e1,Aa B2 m2 e2] 31)=w2 at *
 generalize cR:w1.heap.size=ob at *
 have X_:=X.g4;have P_:=P.g5;have OB_:=OB.g4;go_wp2_with fail
 refine (CY.out _ B0).mono ?_;rintro e1 w3 ⟨rfl,b3⟩;clear X_;clear P_;clear OB_;replace X:=X.below b3;replace P:=P.below b3;replace OB:=OB.below b3;replace RES:=RES.below b3;replace oy:Bw.ow w3 F y (⟨B1,m1,e1⟩,⟨B2,m2,e2⟩):=owB oy b3;replace oS:=oS.below b3;replace oR:=oR.below b3;replace B0:=Bv B0 b3;replace cZ:=Ah cZ b3.size;clear b3;have X_:=X.g4;have P_:=P.g5;have OB_:=OB.g4;by_cases p0:Dk y;case neg =>
  rw [Cg p0];have H:=Br (show Jl y id p=8 by unfold Jl;rw [if_pos p0]);exact Aif
 rw [Di p0];have rZ:=p0.2.2.2.2.2.2.2.2.2;have hsq:=p0.2.1;have h4:=Br p0.2.2.1;have dQ:=Br p0.2.2.2.1;have P0:=Br p0;clear p0;cases p1:inB id 1 9999;case false =>
  have H:=Br (show Jl y id p=5 by unfold Jl;rw [if_neg (fun h=>h P0.out),if_pos p1]);have H2:=Br (show Jm y id p=y by unfold Jm;rw [H.out,if_neg Bq]);have RES_:=RES.g4;have rf:=RES.free;go_wp2_with (go_at_call 72;refine (Cm _ _ _ _).mono ?_;rintro e w9 ⟨rfl,rfl⟩;rw [p1])
  have en1:w.heap.size+1+1∉F:=fun hx=>by have:=nF _ hx;omega
  refine Aj (J1 (DBox.row4 RES rfl _ _ _ _)) rfl ⟨(⟨B1,m1,e1⟩,⟨B2,m2,e2⟩),F,by rw [H.out,H2.out],by rw [H2.out];exact (by (repeat (refine Dt.ow_set Bw ?_ en1 _));exact (show Bw.ow _ F y (⟨B1,m1,e1⟩,⟨B2,m2,e2⟩) from oy)),fun x hx=>by have:=nF x hx;omega,?_⟩;repeat (first | (with_reducible exact B0) | refine Ad ?_ Bp _)
 have P1:=Br p1;go_wp2_with (go_at_call 72;refine (Cm _ _ _ _).mono ?_;rintro e w9 ⟨rfl,rfl⟩;rw [p1])
 refine (CA.out _ B0).mono ?_;rintro e1 w4 ⟨rfl,b4⟩;clear X_;clear P_;clear OB_;replace X:=X.below b4;replace P:=P.below b4;replace OB:=OB.below b4;replace RES:=RES.below b4;replace oy:Bw.ow w4 F y (⟨B1,m1,e1⟩,⟨B2,m2,e2⟩):=owB oy b4;replace oS:=oS.below b4;replace oR:=oR.below b4;replace B0:=Bv B0 b4;replace cZ:=Ah cZ b4.size;clear b4;have X_:=X.g4;have P_:=P.g5;have OB_:=OB.g4;by_cases p2:0<=Dn y id;case pos =>
  have H:=Br (show Jl y id p=6 by unfold Jl;rw [if_neg (fun h=>h P0.out),if_neg (by rw [P1.out];simp),if_pos p2]);exact Aif
 have P2:=Br p2;go_wp2_with fail
 refine (CF.out _ B0).mono ?_;rintro e1 w5 ⟨rfl,b5⟩;clear p1 p2;clear X_;clear P_;clear OB_;replace X:=X.below b5;replace P:=P.below b5;replace OB:=OB.below b5;replace RES:=RES.below b5;replace oy:Bw.ow w5 F y (⟨B1,m1,e1⟩,⟨B2,m2,e2⟩):=owB oy b5;replace oS:=oS.below b5;replace oR:=oR.below b5;replace B0:=Bv B0 b5;replace cZ:=Ah cZ b5.size;clear b5;have X_:=X.g4;have P_:=P.g5;have OB_:=OB.g4;by_cases p3:Cr p=0;case neg =>
  have q3:(Cr p != 0)=true:=by simp [p3]
  have H:=Br (show Jl y id p=Cr p by unfold Jl;rw [if_neg (fun h=>h P0.out),if_neg (by rw [P1.out];simp),if_neg (by have:=P2.out;omega),if_pos p3]);have H2:=Br (show Jm y id p=y by unfold Jm;rw [H.out,if_neg p3]);clear p3;have en1:w.heap.size+1+1∉F:=fun hx=>by have:=nF _ hx;omega
  have RES_:=RES.g4;have rf:=RES.free;have hpb:w.heap.size+1<w5.heap.size:=P.lt;have hobl:ob<w5:=OB.lt;have CF5:=Br (CF.out _ B0.drew);go_wp2;refine Go.wp_region_noPanic ?_;refine wp_region_held_drew (S:=(fun w'=>DBox ob [J U y.now,J U y.seq,Aa B1 m1 e1,Aa B2 m2 e2] w'/\DBox (w+1) [J U p.prio,J U p.most,J U p.wait,J U p.tasks,Aa A3 p.edges.length c3] w')) Bm ⟨DBox.drew4 OB,DBox.drew4 P⟩ (fun hHeld=>?_);replace oy:Bw.ow w5.drew F y (⟨B1,m1,e1⟩,⟨B2,m2,e2⟩):=owB oy (Bs _ _).drew;clear RES_;clear rf;replace RES:DBox _ _ w5.drew:=DBox.drew4 RES;replace B0:=B0.drew;clear X_;clear P_;clear OB_;clear OB X P;generalize w5.drew=w5d at *
  refine tV 0 ?_
  (try simp only [pS])
  refine tV 1 ?_
  (try simp only [pS])
  refine rC 2 (fun K_ hK=>?_);go_simp;refine CF5.out.mono ?_;rintro e1 w6 ⟨rfl,b6⟩;replace oy:Bw.ow w6 F y (⟨B1,m1,e1⟩,⟨B2,m2,e2⟩):=owB oy b6;replace RES:=RES.below b6;replace B0:=Bv B0 b6;refine hK.out _ _ ⟨hHeld.1.below b6,hHeld.2.below b6⟩ (fun hHeld=>?_);clear hK K_
  (try simp only [pS])
  have RES_:=RES.g4;have rf:=RES.free;refine rC 3 (fun K_ hK=>?_);go_simp;refine hK.out _ _ ⟨(((hHeld.1.setOther (a:=⟨w+1+1,0,Ab⟩) (by show ob≠w.heap.size+1+1;omega) _).setOther (a:=⟨w+1+1,1,Ab⟩) (by show ob≠w.heap.size+1+1;omega) _).setOther (a:=⟨w+1+1,2,Ab⟩) (by show ob≠w.heap.size+1+1;omega) _).setOther (a:=⟨w+1+1,3,Ab⟩) (by show ob≠w.heap.size+1+1;omega) _,(((hHeld.2.setOther (a:=⟨w+1+1,0,Ab⟩) (by show w.heap.size+1≠w.heap.size+1+1;omega) _).setOther (a:=⟨w+1+1,1,Ab⟩) (by show w.heap.size+1≠w.heap.size+1+1;omega) _).setOther (a:=⟨w+1+1,2,Ab⟩) (by show w.heap.size+1≠w.heap.size+1+1;omega) _).setOther (a:=⟨w+1+1,3,Ab⟩) (by show w.heap.size+1≠w.heap.size+1+1;omega) _⟩ (fun hHeld=>?_);clear hK K_
  (try simp only [pS])
  refine tV 4 ?_
  (try simp only [pS])
  refine wpAnyH_done Bm ?_ _;refine NoPanic.normal ?_;clear hHeld;clear RES_;clear rf;go_wp2;refine Aj (J1 (DBox.row4 RES rfl _ _ _ _)) rfl ⟨(⟨B1,m1,e1⟩,⟨B2,m2,e2⟩),F,by rw [H.out,H2.out],by rw [H2.out];exact (by (repeat (refine Dt.ow_set Bw ?_ en1 _));exact (show Bw.ow _ F y (⟨B1,m1,e1⟩,⟨B2,m2,e2⟩) from oy)),fun x hx=>by have:=nF x hx;omega,?_⟩;repeat (first | (with_reducible exact B0) | refine Ad ?_ Bp _)
 have q3:(Cr p != 0)=false:=by simp [p3]
 have P3:=Br p3;clear p3;go_wp2_with fail
 refine (CR.out _ B0 rZ Bl).mono ?_;rintro e1 w6 ⟨rfl,b6⟩;clear X_;clear P_;clear OB_;replace X:=X.below b6;replace P:=P.below b6;replace OB:=OB.below b6;replace RES:=RES.below b6;replace oy:Bw.ow w6 F y (⟨B1,m1,e1⟩,⟨B2,m2,e2⟩):=owB oy b6;replace oS:=oS.below b6;replace oR:=oR.below b6;replace B0:=Bv B0 b6;replace cZ:=Ah cZ b6.size;clear b6;have X_:=X.g4;have P_:=P.g5;have OB_:=OB.g4;cases p4:Mr y p;case false =>
  have H:=Br (show Jl y id p=7 by unfold Jl;rw [if_neg (fun h=>h P0.out),if_neg (by rw [P1.out];simp),if_neg (by have:=P2.out;omega),if_neg (fun h=>h P3.out),if_pos p4]);exact Aif
 have H:=Br (show Jl y id p=0 by unfold Jl;rw [if_neg (fun h=>h P0.out),if_neg (by rw [P1.out];simp),if_neg (by have:=P2.out;omega),if_neg (fun h=>h P3.out),if_neg (by rw [p4];simp)]);have H2:=Br (show Jm y id p=Ny ⟨y.now,y.seq,y.shelf,y.runs ++ [Cl id p]⟩ Hd (Cl id p) by unfold Jm;rw [if_pos H.out]);have rU:=Br (show y.runs.length<8 by
  unfold Mr at p4;simp only [Bool.and_eq_true,decide_eq_true_eq] at p4;exact p4.1)
 clear rZ;go_wp2_with fail
 refine (CN.out _ B0 P1.out P3.out).mono ?_;rintro e1 w7 ⟨sr,Fr,rfl,orn,nr,b7⟩;have cG:=Br (show (Cl id p).tasks.length<=12 by have h1:=Ql id p;have h2:=Er (Dl.1 P3.out).1;omega);have qL:=B0.size;have hobw6:=OB.lt;have fH:∀ x∈Fr,w6<=x:=nr;clear nr;clear X_;clear P_;clear OB_;clear X P;replace OB:=OB.below b7;replace RES:=RES.below b7;replace oS:=oS.below b7;have B7:=Bv B0 b7;have b7s:=b7.size;have XB:=DBox.new 67 [J U (Cl id p).id,J U (Cl id p).plan.prio,J U (Cl id p).plan.most,J U (Cl id p).plan.wait,J U (Cl id p).plan.tasks,Aa sr.1.a sr.1.n sr.1.c,J U (Cl id p).state,Aa sr.2.a sr.2.n sr.2.c] w7 (b:=w7) rfl;have b8:Below w7 w7 (w7.alloc (.cells #[J U (Cl id p).id,J U (Cl id p).plan.prio,J U (Cl id p).plan.most,J U (Cl id p).plan.wait,J U (Cl id p).plan.tasks,Aa sr.1.a sr.1.n sr.1.c,J U (Cl id p).state,Aa sr.2.a sr.2.n sr.2.c] 67)):=Bu;go_upto_region 13 with fail
 replace OB:=OB.below b8;replace RES:=RES.below b8;replace oS:=oS.below b8;replace B7:=Bv B7 b8;have b78:=Bv b7 b8;have orn8:=Cf.ow_below (F:=Fr) (x:=Cl id p) (s:=sr) orn b8;have dG:=XB.lt;generalize w7.alloc (.cells #[J U (Cl id p).id,J U (Cl id p).plan.prio,J U (Cl id p).plan.most,J U (Cl id p).plan.wait,J U (Cl id p).plan.tasks,Aa sr.1.a sr.1.n sr.1.c,J U (Cl id p).state,Aa sr.2.a sr.2.n sr.2.c] 67)=w8 at *
 generalize fB:w7.heap.size=xb at *
 have bK:=Br (show rs.length=y.runs.length by have:=congrArg List.length hm.out;simpa using this);have nU:=Br (show rs.length<=3000000 by have:=rU.out;have:=bK.out;omega);have hO:=oR.1;have uG:=hO.below b78;obtain ⟨A5_,c5_,rT,-⟩:=_root_.id (Rd.of_own hO);have uP:=rT;simp only [Sl.v,Value.slice.injEq] at uP;obtain ⟨rfl,rfl,rfl⟩:=uP;clear rT;have OB_:=OB.g4;have XB_:=XB.g8;have obf:=OB.free;have jJ:∀ g,(Value.slice B2 rs.length e2).ownBlock=Ac g->base<=g/\g<w6.heap.size:=fun g hg=>hO.within _ hg;have pH:∀ g,(Value.slice B2 rs.length e2).ownBlock=Ac g->g≠ob:=fun g hg=>qQ g hg;have ha:=Br (show ∀ w:World,Below w w (w.alloc (.cells #[J U (Cl id p).id,J U (Cl id p).plan.prio,J U (Cl id p).plan.most,J U (Cl id p).plan.wait,J U (Cl id p).plan.tasks,Aa sr.1.a sr.1.n sr.1.c,J U (Cl id p).state,Aa sr.2.a sr.2.n sr.2.c] 67)) from fun w=>Bu);have pI:=Br pH;have fU:=Br jJ;clear pH jJ qQ;have bG:base<=w8.heap.size:=Bl;go_upto_region 14 with (at_builtin;go_loud (refine Ci _ Cf.enc Bq rfl (.tmp 49) (.tmp 51) rfl underlying29 bX jz0 jz1 jz2 rfl (base:=base) (v:=Aa B2 rs.length e2) (l:=rs) rfl (uG.below (ha.out w8)) rfl (Rd.one Cf.enc _ _ (Cl id p,sr) rfl rfl 1 (Bt _) (Nat.lt_succ_self _)) nU.out Bo Bq (by simp;omega) ?_);intro v9 w9 o9 g9 f9;obtain ⟨A9,c9,rfl,-⟩:=_root_.id (Rd.of_own o9);simp only [List.length_append,List.length_singleton] at o9 f9;have OB9:=(OB.below (ha.out w8)).off g9 (fun e=>(pI.out _ e.symm) rfl);have q3:=OB9.cell 3 _ rfl;have qf:=OB9.free;have ql:=OB9.lt)
 have hP:=oR.push1 b78 orn8 fH cZ (ha.out w8) o9 g9 f9;have uN:=hP.owl (l:=y.runs ++ [Cl id p]) (by rw [List.map_append,hm.out];rfl);have g9s:=g9.size;simp only [Bj] at g9s;have gL:∀ x∈El (Aa A9 (rs.length+1) c9) (rs ++ [(Cl id p,sr)]).length ++ (G0 ++ Fr),x≠ob/\base<=x:=fun x hx=>by
  exact Ajg
 generalize El (Aa A9 (rs.length+1) c9) (rs ++ [(Cl id p,sr)]).length ++ (G0 ++ Fr)=F2 at *
 have XB9:=(XB.below (ha.out w8)).off g9 (fun e=>by have h1:=(fU.out _ e.symm).2;omega);have RES9:=(RES.below (ha.out w8)).off g9 (fun e=>by have h1:base<=w.heap.size+1+1:=(fU.out _ e.symm).1;omega);have oS9:=(oS.below (ha.out w8)).grown g9 (fun b hb e=>by have h1:=(fU.out b e).1;have h2:=(eR b hb).2;omega);have orn9:=Cf.ow_keep (Cf.ow_below (F:=Fr) (x:=Cl id p) (s:=sr) orn8 (ha.out w8)) g9.size (fun b dA=>g9.block b (Cf.ow_lt (F:=Fr) (x:=Cl id p) (s:=sr) (Cf.ow_below (F:=Fr) (x:=Cl id p) (s:=sr) orn8 (ha.out w8)) b dA) (fun e=>by have h1:=(fU.out _ e.symm).2;have h2:=fH b dA;omega));have B9:Below w w w9:=(Bv B7 (ha.out w8)).grown g9 (Bv B7 (ha.out w8)).size (fun g hg=>by have h1:=(fU.out g hg).1;omega);have pM:w<=ob:=Bl;have OB10:DBox ob [J U y.now,J U y.seq,Aa B1 m1 e1,Aa A9 (rs.length+1) c9] (w9.setCell ⟨ob,3,Ab⟩ (Aa A9 (rs.length+1) c9)):=OB9.set 3 Bo _;have XB10:=XB9.setOther (a:=⟨ob,3,Ab⟩) (by show xb≠ob;omega) (Aa A9 (rs.length+1) c9);have RES10:=RES9.setOther (a:=⟨ob,3,Ab⟩) (by show w.heap.size+1+1≠ob;omega) (Aa A9 (rs.length+1) c9);have oS10:=oS9.set (a:=⟨ob,3,Ab⟩) (fun hx=>by have h1:_/\ob<base:=eR _ hx;omega) (Aa A9 (rs.length+1) c9);have oR10:=uN.set (a:=⟨ob,3,Ab⟩) (fun hx=>(gL _ hx).1 rfl) (Aa A9 (rs.length+1) c9);have orn10:=Cf.ow_set (F:=Fr) (x:=Cl id p) (s:=sr) orn9 (a:=⟨ob,3,Ab⟩) (fun hx=>by have h1:w6<=ob:=fH _ hx;omega) (Aa A9 (rs.length+1) c9);have B10:Below w w (w9.setCell ⟨ob,3,Ab⟩ (Aa A9 (rs.length+1) c9)):=Ad B9 (by show w.heap.size<=ob;omega) _;clear OB9 XB9 RES9 oS9 orn9 B9 uN hP XB RES oS B7 OB o9 g9 f9 q3 qf ql orn8 hO uG oR obf pI;clear OB_;clear XB_;generalize w9.setCell ⟨ob,3,Ab⟩ (Aa A9 (rs.length+1) c9)=w10 at *
 have OB10_:=OB10.g4;have XB10_:=XB10.g8;obtain rfl:m1=y.shelf.length:=RdL.at1 (s:=⟨B1,m1,e1⟩) oS10.rd;obtain ⟨g,o,_,rfl,gD,_,_⟩:=RdL.entryS (show RdL (Dt.list By) w10 w10.heap.size (Aa B1 y.shelf.length e1) y.shelf from oS10.rd) (k:=0) (by have:=h4.out;omega);have eY:g∈F1:=OwL.block_mem (show OwL (Dt.list By) w10 F1 (Aa (Ac ⟨g,o,Ab⟩) y.shelf.length e1) y.shelf from oS10) (by have:=h4.out;omega);have rQ:=eR g eY;have hRlt:=oR10.lt;have bQ:=Br (show ∀ x,x∈[g]->x=g from fun x hx=>by simpa using hx);refine Go.wp_region_noPanic ?_;refine wp_region_held_drew (S:=(fun w'=>DBox xb [J U id,J U p.prio,J U p.most,J U p.wait,J U p.tasks,Aa sr.1.a sr.1.n sr.1.c,J U (Cl id p).state,Aa sr.2.a sr.2.n sr.2.c] w')) Bm (show DBox xb _ w10.drew from XB10.below (Bs _ _).drew) (fun hHeld=>?_);clear XB10_;refine tY 0 ?_
 (try simp only [pS])
 refine tY 1 ?_
 (try simp only [pS])
 have bd:Below w10 w10 w10.drew:=(Bs _ _).drew;have rL:Hid ((Cl id p).tasks.length<=2000000):=by
  have h1:(Cl id p).tasks.length=p.tasks.toNat:=by unfold Cl;simp
  have h2:=Er (Dl.1 P3.out).1;have h3:(Cl id p).tasks.length<=2000000:=Bl;exact Br h3
 have CT:=Br (Ip (Cl id p) sr 2 w10.drew rL.out (Cf.ow_rd (F:=Fr) (x:=Cl id p) (s:=sr) (Cf.ow_below (F:=Fr) (x:=Cl id p) (s:=sr) orn10 bd)));refine rC 2 (fun K_ hK=>?_);go_simp;refine CT.out.mono ?_;rintro e7 wa ⟨v7,rfl,o7,b7⟩;refine hK.out _ _ (hHeld.below b7) (fun hHeld=>?_);clear hK K_
 (try simp only [pS])
 have gN:w10.drew.heap.size=w10.heap.size:=rfl;have ba:Below w10 w10 wa:=Bv bd b7;clear bd b7 CT;replace OB10:=OB10.below ba;replace RES10:=RES10.below ba;replace oS10:=oS10.below ba;replace oR10:=oR10.below ba;replace B10:=Bv B10 ba;have tE:=ba.size;have hRlt:=oR10.lt;obtain ⟨A7,c7,rfl,-⟩:=_root_.id (Rd.of_own o7);have hobF:ob∉F1:=fun hx=>by have h1:_/\ob<base:=eR _ hx;omega
 have fV:=Br (show ∀ x,x∈[ob,g]->x=ob\/x=g from fun x hx=>by simpa using hx);have CS:=Br (Qb ⟨y.now,y.seq,y.shelf,y.runs ++ [Cl id p]⟩ ob g o e1 ⟨A9,rs.length+1,c9⟩ (Cl id p) sr (Ia (Cl id p).tasks 2) A7 _ c7 wa F1 h4.out (fun s hs=>by have:=(dQ.out s hs).1;omega) (by dsimp only;omega) (Ah (Li _ _ _) (by have:=cG.out;omega)) OB10 oS10 hobF (Br fun W hW=>o7.rdHi hW (fun x hx=>by rcases fV.out x hx with h | h<;>(left;omega))));rw [<-Aga] at CS;unfold Pk at CS;dsimp only at CS;have gI:=Br (show (Ny ⟨y.now,y.seq,y.shelf,y.runs ++ [Cl id p]⟩ Hd (Cl id p)).runs=y.runs ++ [Cl id p] from (Qo (y:=⟨y.now,y.seq,y.shelf,y.runs ++ [Cl id p]⟩) (was:=Hd) (r:=Cl id p) (M:=80) (fun s hs=>(dQ.out s hs).1) (Cl id p).tasks.length).runs);generalize Ny ⟨y.now,y.seq,y.shelf,y.runs ++ [Cl id p]⟩ Hd (Cl id p)=Z at *
 refine rC 3 (fun K_ hK=>?_);go_simp;refine CS.out.mono ?_;rintro e8 w11 ⟨rfl,F1',q1,Y6,q2,q3⟩;refine hK.out _ _ (hHeld.chg q3 (fun hx=>by rcases fV.out _ hx with h | h<;>omega)) (fun hHeld=>?_);clear hK K_
 (try simp only [pS])
 refine wpAnyH_done Bm ?_ _;refine NoPanic.normal ?_;clear hHeld CS o7 OB10;have hs11:=q3.size;have RES11:=RES10.chg q3 (fun hx=>by rcases fV.out _ hx with h | h<;>omega);have oR11:=oR10.chg q3 (fun x hx h=>by
  have h2:=gL x hx;rcases fV.out x h with h1 | h1
  ·exact h2.1 h1
  ·omega)
 have B11:=B10.trans (q3.below (by have:=B10.size;omega) (fun x hx=>by rcases fV.out _ hx with h | h<;>omega));clear RES10;have RES11_:=RES11.g4;have Y6_:=Y6.g4;have rf:=RES11.free;go_wp2;have en1:w.heap.size+1+1∉F1':=fun hx=>by
  rcases q2 _ hx with h | h
  ·have:=(eR _ h).1;omega
  ·have:=B10.size;omega
 have en2:w.heap.size+1+1∉F2:=fun hx=>by have:=(gL _ hx).2;omega
 refine Aj (J1 (DBox.row4 RES11 rfl _ _ _ _)) rfl ⟨(⟨Ac ⟨g,o,Ab⟩,y.shelf.length,e1⟩,⟨A9,rs.length+1,c9⟩),F1' ++ F2,by rw [H.out,H2.out],⟨F1',F2,rfl,?_,?_,?_⟩,fun x hx=>?_,?_⟩
 ·exact Aks
 ·exact Aj7
 ·exact Akk
 ·exact Ald
 ·repeat (first | (with_reducible exact B11) | refine Ad ?_ Bp _)
theorem Aea (y:Yard) (s:Sl×Sl) (p:Nat) (e:Entry) (w:World) (hl:Ca y<=2000000) (X:DBox p (Ht y s) w) (h:Bw.rd w w y s) :
  Calls Am 275 #[G6 e (),.pointer (Ac ⟨p,0,Ab⟩)] w fun e' w'=>e' = .returned (.bool (!Fc y e))/\Below w w w':=by
 have CF:=Br (fun W (hW:Below w w W)=>P4 y s e W hl (Bw.rd_more (Bw.rd_below h hW) hW.size));obtain ⟨⟨A1,n1,c1⟩,⟨A2,n2,c2⟩⟩:=s;have B0:Below w w (w.alloc (.cells #[J U e.prio,J U e.seq,J U e.run,J U e.task] 71)):=Bu;have E:=DBox.new 71 [J U e.prio,J U e.seq,J U e.run,J U e.task] w (b:=w) rfl;have CF:=Br (CF.out _ B0);replace X:=X.below B0;clear h hl;have X_:=X.g4;have E_:=E.g4;go_enter func275,ntmps275;go_wp2_with fail
 refine CF.out.mono ?_;rintro e1 w1 ⟨rfl,b1⟩;go_wp2;go_ret;exact ⟨rfl,Bv B0 b1⟩
theorem Aeb {b:Nat} {w:World} {u0 u1 u2 u3:Value} (X:DBox b [u0,u1,u2,u3] w) {v0 v1 v2 v3:Value} {rest:List Value} :
  (results Tryz.f204 (v0 :: v1 :: v2 :: v3 :: .pointer (Ac ⟨b,0,Ab⟩) :: rest).toArray).run Am w = .ok (.agg #[u0,u1,u2,u3]) w:=by
 obtain ⟨c0,c1,c2,c3,-⟩:=X.g4;simp [results,results204,go_sem,c0,c1,c2,c3]
theorem Qf (y:Yard) (s:Sl×Sl) (i:Nat) (w:World) (hi:i<y.shelf.length) (hl:Ca y<=2000000) (h:Bw.rd w w y s) :
  Calls Am 204 #[Ds y s,J U i] w (Dv Bw Ds (Cb y i) w):=by
 have HR:=Br (show ∀ W,Below w w W->Bw.rd W W y s from fun W hW=>Bw.rd_more (Bw.rd_below h hW) hW.size);obtain ⟨⟨A1,n1,c1⟩,⟨A2,n2,c2⟩⟩:=s;obtain rfl:n1=y.shelf.length:=RdL.at1 (s:=⟨A1,n1,c1⟩) h.1;have CC:=Br (fun W hW=>Fe y (⟨A1,y.shelf.length,c1⟩,⟨A2,n2,c2⟩) W hl (HR.out W hW));have qI:y.shelf[i].length<=2000000:=by
  have h1:=Dm (cnt:=Cn) (List.getElem_mem hi);exact Anb
 have hshl:y.shelf.length<=2000000:=Ah (Ck Cn _) (by unfold Ca at hl;omega);clear h;have hiI:(i:Int)<(y.shelf.length:Int):=Bl;have hi00:(0:Int)<=(i:Int):=Bl;obtain ⟨W,aH,X,RES,B0⟩:=bx2 w 31 [J U y.now,J U y.seq,Aa A1 y.shelf.length c1,Aa A2 n2 c2] 31 [J U 0,J U 0,Aa Ab 0 0,Aa Ab 0 0];go_enter func204,ntmps204;go_wp2_with fail
 rw [<-aH.out];clear aH;refine (CC.out _ B0).mono ?_;rintro e1 w1 ⟨⟨⟨B1,m1,e1⟩,⟨B2,m2,e2⟩⟩,F,rfl,oy,nF,b1⟩;have eC:=RES.lt;have b2:Below w1 w1 (w1.alloc (.cells #[J U y.now,J U y.seq,Aa B1 m1 e1,Aa B2 m2 e2] 31)):=Bu;have OB:DBox w1 (Ht y (⟨B1,m1,e1⟩,⟨B2,m2,e2⟩)) _:=DBox.new 31 [J U y.now,J U y.seq,Aa B1 m1 e1,Aa B2 m2 e2] w1 (b:=w1) rfl;have bR:=Br (Bw.ow_lt (F:=F) (x:=y) (s:=(⟨B1,m1,e1⟩,⟨B2,m2,e2⟩)) oy);have dB:=Br (show ∀ x∈F,w.heap.size+1<x from fun x hx=>by have:=nF x hx;omega);replace oy:Bw.ow _ F y (⟨B1,m1,e1⟩,⟨B2,m2,e2⟩):=owB oy b2;have b12:=Bv b1 b2;replace X:=X.below b12;replace RES:=RES.below b12;replace B0:=Bv B0 b12;have bE:=b1.size;clear b1 b2 b12 CC nF;go_upto_region 2 with fail
 have cR:w1.heap.size∉F:=fun h=>by have:=bR.out _ h;omega
 have hobR:w.heap.size+1<w1.heap.size:=Bl;generalize w1.heap.size=ob at *
 generalize w1.alloc (.cells #[J U y.now,J U y.seq,Aa B1 m1 e1,Aa B2 m2 e2] 31)=w2 at *
 have wr1:U.wrap ((y.shelf.length:Int) - 1)=(y.shelf.length:Int) - 1:=IntWalk.i64_in _ Bl;have q:inB (i:Int) 0 ((y.shelf.length:Int) - 1)=true:=Ct.2 Bl;have X_:=X.g4;go_wp2_with (go_at_call 72;refine (Cm _ _ _ _).mono ?_;rintro e w9 ⟨rfl,rfl⟩;rw [q])
 clear X_;have fL:=Br hl;have bd:Below w2 w2 w2.drew:=(Bs _ _).drew;obtain ⟨F1,F2,rfl,bP,os,orr⟩:=oy;replace os:OwL (Dt.list By) w2 F1 (Aa B1 m1 e1) y.shelf:=os;replace orr:OwL Cf w2 F2 (Aa B2 m2 e2) y.runs:=orr;obtain rfl:m1=y.shelf.length:=RdL.at1 (s:=⟨B1,m1,e1⟩) os.rd;obtain ⟨g,o,_,rfl,hg,_,_⟩:=os.rd.entryS hi;obtain ⟨OB_0,OB_1,OB_2,OB_3,OB_l⟩:=OB.g4;obtain ⟨⟨A9,n9,c9⟩,Fx,kW,bI,kX,eY,gI,aL,cU⟩:=OwL.trade (os.below bd) hi;replace kW:OwL By w2.drew Fx (Aa A9 n9 c9) y.shelf[i]:=kW;obtain rfl:n9=y.shelf[i].length:=RdL.at1 (s:=⟨A9,n9,c9⟩) kW.rd;have ck:w2.drew.cell? ⟨g,o+i,Ab⟩=Ac (Aa A9 y.shelf[i].length c9):=by
  have:=aL 0 _ rfl
  rw [show o+i * (Dt.list By).enc.sz+0=o+i from by show o+i * 1+0=o+i;omega] at this;exact this
 have hXn:w.heap.size∉Fx:=fun hx=>by have:=dB.out _ (Bf _ (bI _ hx));omega
 have kG:=Bv B0 bd;have Xd:=X.below bd;have kB:∀ (W:World) (x:Entry),Below w w W->DBox w [J U y.now,J U y.seq,Aa A1 y.shelf.length c1,Aa A2 n2 c2] W->Calls Am 275 #[G6 x (),.pointer (Ac ⟨w,0,Ab⟩)] W fun e w'=>e = .returned (.bool (!Fc y x))/\Below W W w' :=
  fun W x hW hX=>Aea y (⟨A1,y.shelf.length,c1⟩,⟨A2,n2,c2⟩) w x W fL.out hX (HR.out W hW)
 have CD:=Br (Sz y.shelf[i] A9 y.shelf[i].length c9 Fx 275 w.heap.size (fun e=>!Fc y e) (Nz func275 Bm Bm) w2.drew qI
  (fun W x hW=>kB W x (kG.trans (hW.below kG.size (fun z hz=>by have:=dB.out _ (Bf _ (bI _ hz));omega))) (Xd.chg hW hXn))
  (Qm 275 w (fun e=>!Fc y e) (Nz func275 Bm Bm) y.shelf[i] A9 y.shelf[i].length c9 w2.drew qI (Ra kW).rd (fun W x hW=>kB W x (kG.trans (hW.mono kG.size)) (Xd.below hW)))
  (Ra kW))
 clear kB fL;refine Dh (fun w'=>w'.cell? ⟨ob,2,Ab⟩=Ac (Aa (Ac ⟨g,o,Ab⟩) y.shelf.length e1)/\w'.cell? ⟨g,o+i,Ab⟩=Ac (Aa A9 y.shelf[i].length c9)) 11 Bm ?_ (fun hHeld=>?_)
 ·exact ⟨OB_2,ck⟩
 refine aT 0 hHeld ?_;try simp only [pS]
 refine aT 1 hHeld ?_;try simp only [pS]
 refine aT 2 hHeld ?_;try simp only [pS]
 refine aT 3 hHeld ?_;try simp only [pS]
 refine aT 4 hHeld ?_;try simp only [pS]
 refine aT 5 hHeld ?_;try simp only [pS]
 refine aT 6 hHeld ?_;try simp only [pS]
 refine aT 7 hHeld ?_;try simp only [pS]
 refine aT 8 hHeld ?_;try simp only [pS]
 refine oT 9 (fun K hK=>?_)
 (go_simp;refine CD.out.mono ?_;rintro e7 wa ⟨k9,F',rfl,hH,eN,hC⟩)
 have gD:g<w2.drew:=os.lt g eY;have gR:ob<w2.drew:=OB.lt;have nJ:ob∉Fx:=fun hx=>cR (Bf _ (bI _ hx));have eL:ob≠g:=fun e=>cR (by rw [e];exact Bf _ eY);have hgn:=dB.out g (Bf _ eY);have sM:=(hC.cell (p:=⟨ob,2,Ab⟩) gR nJ).trans hHeld.1;have ck2:=(hC.cell (p:=⟨g,_,Ab⟩) gD kX).trans ck;have hgf2:∀ j,wa.frozen? ⟨g,j,Ab⟩=false:=fun j=>(hC.frozen (p:=⟨g,_,Ab⟩) gD kX).trans (gI j);refine hK.out _ _ (fun _=>⟨sM,ck2⟩) ?_;clear hK K;try simp only [pS]
 refine oT 10 (fun K hK=>?_);go_simp;refine hK.out _ _ (fun _=>⟨sM,ck2⟩) ?_;clear hK K;try simp only [pS]
 have hga:=hC.size;refine oT 11 (fun K hK=>?_);go_simp;refine hK.out _ _ (fun aC=>absurd rfl aC) ?_;clear hK K hHeld;try simp only [pS]
 refine Eh Bm ?_ _;obtain ⟨F3,o3,tB,sS⟩:=cU wa (y.shelf[i].filter fun x=>!!Fc y x) ⟨A9,k9,c9⟩ F' hC (Yh hH) eN;have fK:Ie wa g (o+i * (Dt.list By).enc.sz) ((Dt.list By).enc.cells ((y.shelf[i].filter fun x=>!!Fc y x),(⟨A9,k9,c9⟩:Sl)))=wa.setCell ⟨g,o+i,Ab⟩ (Aa A9 k9 c9):=by
  show Ie wa g (o+i * 1) [Aa A9 k9 c9]=_;rw [Nat.mul_one];rfl
 rw [fK] at o3;have hd12:∀ x∈F1,x∉F2:=fun x hx hx2=>(Ax.1 bP).2.2 x hx x hx2 rfl;have hS:=Chg.setCell wa g (o+i) (Aa A9 k9 c9);have bQ:=Br (show ∀ x,x∈[g]->x=g from fun x hx=>by simpa using hx);have orr3:=((orr.below bd).chg hC (fun x hx hx2=>hd12 x (bI x hx2) hx)).chg hS (fun x hx hx2=>by have:=bQ.out x hx2;subst this;exact hd12 x eY hx);have hX3:w.heap.size+1∉Fx:=fun hx=>by have:=dB.out _ (Bf _ (bI _ hx));omega
 have RES3:=((RES.below bd).chg hC hX3).chg hS (fun hx=>by have:=bQ.out _ hx;omega);have OB3:=((OB.below bd).chg hC nJ).chg hS (fun hx=>eL (bQ.out _ hx));have B3:=(kG.trans (hC.below kG.size (fun z hz=>by have:=dB.out _ (Bf _ (bI _ hz));omega))).trans (hS.below (base:=w) (by have:=kG.size;omega) (fun x hx=>by have:=bQ.out x hx;omega));have oyF:Bw.ow (wa.setCell ⟨g,o+i,Ab⟩ (Aa A9 k9 c9)) (F3 ++ F2) (Cb y i) (⟨Ac ⟨g,o,Ab⟩,y.shelf.length,e1⟩,⟨B2,m2,e2⟩):=by
  refine ⟨F3,F2,rfl,?_,?_,orr3⟩
  ·rw [Ax] at bP ⊢;exact ⟨o3.nodup,bP.2.1,fun a ha b hb e=>hd12 a (tB a ha) (by rw [e];exact hb)⟩
  ·have hE:(Cb y i).shelf=y.shelf.set i (y.shelf[i].filter fun x=>!!Fc y x):=by
    show y.shelf.set i ((y.shelf.getD i []).filter fun e=>Fc y e)=_;rw [List.getD_eq_getElem?_getD,List.getElem?_eq_getElem hi];simp
   show OwL (Dt.list By) _ F3 (Aa (Ac ⟨g,o,Ab⟩) y.shelf.length e1) (Cb y i).shelf;rw [hE];exact o3
 have nA:∀ x∈F3 ++ F2,w+1<x:=fun x hx=>by
  rcases Bi.1 hx with hx | hx
  ·exact dB.out x (Bf _ (tB x hx))
  ·exact dB.out x (List.mem_append_right _ hx)
 have nA:=Br nA;clear o3 tB sS cU hC hH eN CD os orr orr3 kW aL ck ck2 sM hgf2 gI hd12 bI dB hX3 hS RES X Xd B0 kG bd;clear OB_0 OB_1 OB_2 OB_3 OB_l;clear OB;generalize wa.setCell ⟨g,o+i,Ab⟩ (Aa A9 k9 c9)=w6 at *
 have OB:=OB3;have RES:=RES3;obtain ⟨OB_0,OB_1,OB_2,OB_3,OB_l⟩:=OB.g4;have RES_:=RES.g4;have rf:=RES.free;go_wp2;have en1:w.heap.size+1∉F3 ++ F2:=fun hx=>by have:=nA.out _ hx;omega
 refine Aj (Aeb (DBox.row4 RES rfl _ _ _ _)) rfl ⟨(⟨Ac ⟨g,o,Ab⟩,y.shelf.length,e1⟩,⟨B2,m2,e2⟩),F3 ++ F2,rfl,Bw.set4 (F:=F3 ++ F2) (x:=Cb y i) (s:=(⟨Ac ⟨g,o,Ab⟩,y.shelf.length,e1⟩,⟨B2,m2,e2⟩)) oyF en1,fun x hx=>by have:=nA.out x hx;omega,?_⟩;repeat (first | (with_reducible exact B3) | refine Ad ?_ Bp _)
theorem Ms {b:Nat} {w:World} {u0 u1 u2 u3:Value} (X:DBox b [u0,u1,u2,u3] w) {v0 v1 v2 v3 v5:Value} {rest:List Value} :
  (results Tryz.f136 (v0 :: v1 :: v2 :: v3 :: .pointer (Ac ⟨b,0,Ab⟩) :: v5 :: rest).toArray).run Am w = .ok (.tuple #[.agg #[u0,u1,u2,u3],v5]) w:=by
 have c0:=X.cell 0 _ rfl;have c1:=X.cell 1 _ rfl;have c2:=X.cell 2 _ rfl;have c3:=X.cell 3 _ rfl;simp [results,results136,go_sem,c0,c1,c2,c3]
theorem Wm (y:Yard) (s:Sl×Sl) (id:Int) (w:World) (hl:Ca y<=2000000) (h:Bw.rd w w y s) :
  Calls Am 136 #[Ds y s,J U id] w (Is (Iu y id) (It y id) w):=by
 have HR:=Br (show ∀ W,Below w w W->Bw.rd W W y s from fun W hW=>Bw.rd_more (Bw.rd_below h hW) hW.size);obtain ⟨⟨A1,n1,c1⟩,⟨A2,n2,c2⟩⟩:=s;have CC:=Br (fun W hW=>Fe y (⟨A1,n1,c1⟩,⟨A2,n2,c2⟩) W hl (HR.out W hW));have CY:=Br (fun W hW=>Gk y (⟨A1,n1,c1⟩,⟨A2,n2,c2⟩) W hl (HR.out W hW));have CA:=Br (fun W hW=>Fj y (⟨A1,n1,c1⟩,⟨A2,n2,c2⟩) id W hl (HR.out W hW));have CX:=Br (fun W hW=>show RdL Cf W W.heap.size (Aa A2 n2 c2) y.runs from (HR.out W hW).2);clear h HR;obtain ⟨W,aH,X,RES,B0⟩:=bx2 w 31 [J U y.now,J U y.seq,Aa A1 n1 c1,Aa A2 n2 c2] 31 [J U 0,J U 0,Aa Ab 0 0,Aa Ab 0 0];go_enter func136,ntmps136;go_wp2_with fail
 rw [<-aH.out];clear aH;have eC:w.heap.size+1<W.heap.size:=RES.lt;refine (CC.out _ B0).mono ?_;rintro e1 w1 ⟨⟨⟨B1,m1,e1⟩,⟨B2,m2,e2⟩⟩,F,rfl,oy,nF,b1⟩;have bE:=b1.size;have cS:=Bw.ow_lt (F:=F) (x:=y) (s:=(⟨B1,m1,e1⟩,⟨B2,m2,e2⟩)) oy;replace X:=X.below b1;replace RES:=RES.below b1;replace B0:=Bv B0 b1;clear b1;go_upto_region 2 with fail
 have OB:=DBox.new 31 [J U y.now,J U y.seq,Aa B1 m1 e1,Aa B2 m2 e2] w1 (b:=w1) rfl;have b2:Below w1 w1 (w1.alloc (.cells #[J U y.now,J U y.seq,Aa B1 m1 e1,Aa B2 m2 e2] 31)):=Bu;replace X:=X.below b2;replace RES:=RES.below b2;replace oy:=Bw.ow_below (F:=F) (x:=y) (s:=(⟨B1,m1,e1⟩,⟨B2,m2,e2⟩)) oy b2;replace B0:=Bv B0 b2;have ow1:=OB.lt;clear b2;generalize w1.alloc (.cells #[J U y.now,J U y.seq,Aa B1 m1 e1,Aa B2 m2 e2] 31)=w2 at *
 generalize cR:w1.heap.size=ob at *
 obtain ⟨X_0,X_1,X_2,X_3,X_l⟩:=X.g4;obtain ⟨OB_0,OB_1,OB_2,OB_3,OB_l⟩:=OB.g4;go_wp2_with fail
 refine (CA.out _ B0).mono ?_;rintro e1 w3 ⟨rfl,b3⟩;clear X_0 X_1 X_2 X_3 X_l;clear OB_0 OB_1 OB_2 OB_3 OB_l;replace X:=X.below b3;replace OB:=OB.below b3;replace RES:=RES.below b3;replace oy:Bw.ow w3 F y (⟨B1,m1,e1⟩,⟨B2,m2,e2⟩):=owB oy b3;replace B0:=Bv B0 b3;clear b3;obtain ⟨X_0,X_1,X_2,X_3,X_l⟩:=X.g4;obtain ⟨OB_0,OB_1,OB_2,OB_3,OB_l⟩:=OB.g4;go_wp2_with fail
 refine (CY.out _ B0).mono ?_;rintro e1 w4 ⟨rfl,b4⟩;clear X_0 X_1 X_2 X_3 X_l;clear OB_0 OB_1 OB_2 OB_3 OB_l;replace X:=X.below b4;replace OB:=OB.below b4;replace RES:=RES.below b4;replace oy:Bw.ow w4 F y (⟨B1,m1,e1⟩,⟨B2,m2,e2⟩):=owB oy b4;replace B0:=Bv B0 b4;clear b4;obtain ⟨X_0,X_1,X_2,X_3,X_l⟩:=X.g4;obtain ⟨OB_0,OB_1,OB_2,OB_3,OB_l⟩:=OB.g4;by_cases p0:Dk y;case neg =>
  rw [Cg p0];have H:=Br (show It y id=8 by unfold It;rw [if_pos p0]);exact Aij
 rw [Di p0];have P0:=Br p0;clear p0;by_cases p1:Dn y id<0;case pos =>
  have H:=Br (show It y id=10 by unfold It;rw [if_neg (fun h=>h P0.out),if_pos p1]);exact Aij
 rcases E9 y id with hr | ⟨k,hk,hr⟩
 ·exact absurd hr Bl
 have HK:=Br (Ha hk hr);have HR2:=Br hr;rw [hr];clear hr p1;have P1:=Br (show ¬ Dn y id<0 by have:=HR2.out;omega);have gJ:(k:Int)<(n2:Int):=by have:=RdL.at1 (s:=⟨A2,n2,c2⟩) (CX.out _ B0);dsimp only at this;omega
 have cE:(0:Int)<=(k:Int):=Bl;have hkn:¬ (k:Int)<0:=Bl;have bN:=Br (Ev P0.out hk);obtain ⟨gx,ox,sk,rfl,kX,dI,c0,c1_,c2_,c3_,c4_,c5_,c6,c7_⟩:=(CX.out _ B0).run hk;by_cases p2:y.runs[k].state=1;case neg =>
  have q2:(y.runs[k].state != 1)=true:=by simp [p2]
  have H:=Br (show It y id=12 by unfold It;rw [if_neg (fun h=>h P0.out),if_neg P1.out,if_pos (by rw [HK.out];exact p2)]);clear p2;exact Aij
 have q2:(y.runs[k].state != 1)=false:=by simp [p2]
 have H:=Br (show It y id=0 by unfold It;rw [if_neg (fun h=>h P0.out),if_neg P1.out,if_neg (by rw [HK.out];exact fun h=>h p2)]);have H2:=Br (show Iu y id=⟨y.now,y.seq,y.shelf,y.runs.set k (D6 y.runs[k] 4)⟩ by unfold Iu;rw [if_pos H.out,HK.out,HR2.out,Int.toNat_natCast]);have P2:=Br p2;clear p2;go_upto_region 9 with fail
 have oyr:=(Bw.ow_rd (F:=F) (x:=y) (s:=(⟨B1,m1,e1⟩,⟨B2,m2,e2⟩)) oy).2;have dH:=Br (show m2=y.runs.length from RdL.at1 (s:=⟨B2,m2,e2⟩) oyr);have jF:(k:Int)<(m2:Int):=by have:=dH.out;omega
 obtain ⟨gr,orr,sk2,rfl,dN,_,d0,d1,d2,d3,d4,d5,d6,d7⟩:=RdL.run (show RdL Cf w4 w4.heap.size (Aa B2 m2 e2) y.runs from oyr) hk;have jG:∀ i,w4.frozen? ⟨gr,i,Ab⟩=false:=Alm
 clear q2;generalize nB:y.runs[k]=r at *
 have CSt:=Br (Aad r sk w4.drew (by have:=Kw bN.out;omega) bN.out P2.out (Cf.rd_below dI (Bs _ _).drew));have hobw5:ob<w4:=OB.lt;clear dI oyr nB;go_wp2;have hXb5:=X.lt;refine Dh (fun w'=>w'.cell? ⟨ob,3,Ab⟩=Ac (Aa (Ac ⟨gr,orr,Ab⟩) m2 e2)/\w'.cell? ⟨w,3,Ab⟩=Ac (Aa (Ac ⟨gx,ox,Ab⟩) n2 c2)/\w'.cell? ⟨gx,ox+k * 8,Ab⟩=Ac (J U r.id)/\w'.cell? ⟨gx,ox+k * 8+1,Ab⟩=Ac (J U r.plan.prio)/\w'.cell? ⟨gx,ox+k * 8+2,Ab⟩=Ac (J U r.plan.most)/\w'.cell? ⟨gx,ox+k * 8+3,Ab⟩=Ac (J U r.plan.wait)/\w'.cell? ⟨gx,ox+k * 8+4,Ab⟩=Ac (J U r.plan.tasks)/\w'.cell? ⟨gx,ox+k * 8+5,Ab⟩=Ac (Aa sk.1.a sk.1.n sk.1.c)/\w'.cell? ⟨gx,ox+k * 8+6,Ab⟩=Ac (J U r.state)/\w'.cell? ⟨gx,ox+k * 8+7,Ab⟩=Ac (Aa sk.2.a sk.2.n sk.2.c)) 10 Bm ?_ (fun hHeld=>?_)
 ·exact ⟨OB_3,X_3,c0,c1_,c2_,c3_,c4_,c5_,c6,c7_⟩
 refine aT 0 hHeld ?_;try simp only [pS]
 refine aT 1 hHeld ?_;try simp only [pS]
 refine aT 2 hHeld ?_;try simp only [pS]
 refine aT 3 hHeld ?_;try simp only [pS]
 refine aT 4 hHeld ?_;try simp only [pS]
 refine aT 5 hHeld ?_;try simp only [pS]
 refine aT 6 hHeld ?_;try simp only [pS]
 refine aT 7 hHeld ?_;try simp only [pS]
 refine oT 8 (fun K hK=>?_)
 (go_simp;refine CSt.out.mono ?_;rintro e9 w6 ⟨sr,Fr,rfl,orn,nr,b6⟩;have q0:w6.cell? ⟨gr,orr+k * 8,Ab⟩=Ac (J U r.id):=(b6.cell (p:=⟨_,_,Ab⟩) (by show gr<w4;omega)).trans d0;have q1:w6.cell? ⟨gr,orr+k * 8+1,Ab⟩=Ac (J U r.plan.prio):=(b6.cell (p:=⟨_,_,Ab⟩) (by show gr<w4;omega)).trans d1;have q2:w6.cell? ⟨gr,orr+k * 8+2,Ab⟩=Ac (J U r.plan.most):=(b6.cell (p:=⟨_,_,Ab⟩) (by show gr<w4;omega)).trans d2;have q3:w6.cell? ⟨gr,orr+k * 8+3,Ab⟩=Ac (J U r.plan.wait):=(b6.cell (p:=⟨_,_,Ab⟩) (by show gr<w4;omega)).trans d3;have q4:w6.cell? ⟨gr,orr+k * 8+4,Ab⟩=Ac (J U r.plan.tasks):=(b6.cell (p:=⟨_,_,Ab⟩) (by show gr<w4;omega)).trans d4;have q5:w6.cell? ⟨gr,orr+k * 8+5,Ab⟩=Ac (Aa sk2.1.a sk2.1.n sk2.1.c):=(b6.cell (p:=⟨_,_,Ab⟩) (by show gr<w4;omega)).trans d5;have q6:w6.cell? ⟨gr,orr+k * 8+6,Ab⟩=Ac (J U r.state):=(b6.cell (p:=⟨_,_,Ab⟩) (by show gr<w4;omega)).trans d6;have q7:w6.cell? ⟨gr,orr+k * 8+7,Ab⟩=Ac (Aa sk2.2.a sk2.2.n sk2.2.c):=(b6.cell (p:=⟨_,_,Ab⟩) (by show gr<w4;omega)).trans d7;have qf:∀ j,w6.frozen? ⟨gr,j,Ab⟩=false:=fun j=>(b6.frozen (p:=⟨_,_,Ab⟩) (by show gr<w4;omega)).trans (jG j))
 refine hK.out _ _ (fun _=>?_) ?_
 ·exact Aiv
 clear hK K;try simp only [pS]
 refine oT 9 (fun K hK=>?_);go_simp;refine hK.out _ _ (fun _=>?_) ?_
 ·exact Aiv
 clear hK K;try simp only [pS]
 refine oT 10 (fun K hK=>?_);go_simp;refine hK.out _ _ (fun aC=>absurd rfl aC) ?_;clear hK K;try simp only [pS]
 refine Eh Bm ?_ _;have b6':Below w4 w4 w6:=Bv (Bs _ _).drew b6;have qL:=b6'.size;have pV:=B0.size;have mW:∀ x∈Fr,w4<=x:=nr;have jN:∀ x∈F,x<w4:=Bw.ow_lt (F:=F) (x:=y) (s:=(⟨B1,m1,e1⟩,⟨Ac ⟨gr,orr,Ab⟩,m2,e2⟩)) oy;have oy6:Bw.ow w6 F y (⟨B1,m1,e1⟩,⟨Ac ⟨gr,orr,Ab⟩,m2,e2⟩):=owB oy b6';obtain ⟨F8,oy8,kZ,fT⟩:=Oy oy6 (k:=k) hk (r:=D6 r 4) (sr:=sr) orn (fun x hx bI=>by have h1:=mW x hx;have h2:=jN x bI;omega);have jP:Chg [gr] w6 ((((((((w6.setCell ⟨gr,orr+k * 8,Ab⟩ (J U (D6 r 4).id)).setCell ⟨gr,orr+k * 8+1,Ab⟩ (J U (D6 r 4).plan.prio)).setCell ⟨gr,orr+k * 8+2,Ab⟩ (J U (D6 r 4).plan.most)).setCell ⟨gr,orr+k * 8+3,Ab⟩ (J U (D6 r 4).plan.wait)).setCell ⟨gr,orr+k * 8+4,Ab⟩ (J U (D6 r 4).plan.tasks)).setCell ⟨gr,orr+k * 8+5,Ab⟩ (Aa sr.1.a sr.1.n sr.1.c)).setCell ⟨gr,orr+k * 8+6,Ab⟩ (J U (D6 r 4).state)).setCell ⟨gr,orr+k * 8+7,Ab⟩ (Aa sr.2.a sr.2.n sr.2.c)):=I6 (Cf.enc.cells (D6 r 4,sr)) w6 gr (orr+k * 8);have cV:=Br (show ∀ x,x∈[gr]->x=gr from fun x hx=>by simpa using hx);have nK:=nF gr fT;have hgrl:=cS gr fT;clear OB_0 OB_1 OB_2 OB_3 OB_l;clear X_0 X_1 X_2 X_3 X_l;clear X c0 c1_ c2_ c3_ c4_ c5_ c6 c7_;replace OB:=(OB.below b6').chg jP (fun hx=>by have:=cV.out _ hx;omega);replace RES:=(RES.below b6').chg jP (fun hx=>by have:=cV.out _ hx;omega);replace B0:=(Bv B0 b6').trans (jP.below (by have:=(Bv B0 b6').size;omega) (fun x hx=>by have:=cV.out _ hx;omega));have en1:w.heap.size+1∉F8:=fun hx=>by
  exact Ako
 have nA:∀ x∈F8,w<=x:=fun x hx=>by
  exact Ako
 clear hHeld oy oy6 b6 b6' nr orn jP CSt d0 d1 d2 d3 d4 d5 d6 d7 jG q0 q1 q2 q3 q4 q5 q6 q7 qf;generalize ((((((((w6.setCell ⟨gr,orr+k * 8,Ab⟩ (J U (D6 r 4).id)).setCell ⟨gr,orr+k * 8+1,Ab⟩ (J U (D6 r 4).plan.prio)).setCell ⟨gr,orr+k * 8+2,Ab⟩ (J U (D6 r 4).plan.most)).setCell ⟨gr,orr+k * 8+3,Ab⟩ (J U (D6 r 4).plan.wait)).setCell ⟨gr,orr+k * 8+4,Ab⟩ (J U (D6 r 4).plan.tasks)).setCell ⟨gr,orr+k * 8+5,Ab⟩ (Aa sr.1.a sr.1.n sr.1.c)).setCell ⟨gr,orr+k * 8+6,Ab⟩ (J U (D6 r 4).state)).setCell ⟨gr,orr+k * 8+7,Ab⟩ (Aa sr.2.a sr.2.n sr.2.c))=w8 at *
 obtain ⟨OB_0,OB_1,OB_2,OB_3,OB_l⟩:=OB.g4;have RES_:=RES.g4;have rf:=RES.free;go_wp2;refine Aj (Ms (DBox.row4 RES rfl _ _ _ _)) rfl ⟨(⟨B1,m1,e1⟩,⟨Ac ⟨gr,orr,Ab⟩,m2,e2⟩),F8,by rw [H.out,H2.out],by rw [H2.out];exact (by (repeat (refine Dt.ow_set Bw ?_ en1 _));exact (show Bw.ow _ F8 ⟨y.now,y.seq,y.shelf,y.runs.set k (D6 r 4)⟩ (⟨B1,m1,e1⟩,⟨Ac ⟨gr,orr,Ab⟩,m2,e2⟩) from oy8)),nA,?_⟩;repeat (first | (with_reducible exact B0) | refine Ad ?_ Bp _)
section
open Classical in
noncomputable def Tc (y:Yard):Int:=if Dk y then 0 else 8
noncomputable def doO (y:Yard) (d:Deed):Yard×Reply :=
 if Dg d=false then (y,⟨5,0,0,0⟩) else
 match d.kind with
 | 1=>(Jm y d.run d.plan,⟨Jl y d.run d.plan,0,0,0⟩)
 | 2=>Jd y d.worker d.draw
 | 3=>(K7 y d.run d.task d.try_,⟨Gv y d.run d.task d.try_,0,0,0⟩)
 | 4=>(K6 y d.run d.task d.try_,⟨Gv y d.run d.task d.try_,0,0,0⟩)
 | 5=>(Je y,⟨Jr y,0,0,0⟩)
 | 6=>(Iu y d.run,⟨It y d.run,0,0,0⟩)
 | 7=>(Iw y d.run,⟨Iv y d.run,0,0,0⟩)
 | _=>(Mh y,⟨Tc y,0,0,0⟩)
theorem Wn {b c:Nat} {w:World} {u0 u1 u2 u3 v0 v1 v2 v3:Value} (X:DBox b [u0,u1,u2,u3] w) (Y:DBox c [v0,v1,v2,v3] w) {x0 x1 x2 x3:Value} {rest:List Value} :
  (results Tryz.f92 (x0 :: x1 :: x2 :: x3 :: .pointer (Ac ⟨b,0,Ab⟩) :: .pointer (Ac ⟨c,0,Ab⟩) :: rest).toArray).run Am w = .ok (.tuple #[.agg #[u0,u1,u2,u3],.agg #[v0,v1,v2,v3]]) w:=by
 have c0:=X.cell 0 _ rfl;have c1:=X.cell 1 _ rfl;have c2:=X.cell 2 _ rfl;have c3:=X.cell 3 _ rfl;have d0:=Y.cell 0 _ rfl;have d1:=Y.cell 1 _ rfl;have d2:=Y.cell 2 _ rfl;have d3:=Y.cell 3 _ rfl;simp [results,results92,go_sem,c0,c1,c2,c3,d0,d1,d2,d3]
theorem Td {d:Deed} (h:Dg d=true):inB d.kind 1 8=true:=by
 unfold Dg at h;simp only [Bool.and_eq_true] at h;exact h.1.1.1.1
theorem Te {rn tk ty wk dr:Int} {p:Plan} (h:Dg ⟨2,rn,p,tk,ty,wk,dr⟩=true):0<=dr/\dr<=1000000000:=by
 unfold Dg at h;simp only [Bool.and_eq_true] at h;have h2:=h.1.2;simp at h2;exact Ct.1 (show inB dr 0 1000000000=true from h2.2)
theorem Aec (y:Yard) (s:Sl×Sl) (d:Deed) (sd:Sl) (w:World) (hl:Ca y<=2000000) (hp:d.plan.edges.length<=2000000) (h:Bw.rd w w y s) (gN:Cq.rd w w d sd) :
  Calls Am 92 #[Ds y s,Dc d sd] w (Rk (doO y d) w):=by
 obtain ⟨⟨A1,n1,c1⟩,⟨A2,n2,c2⟩⟩:=s;obtain ⟨A3,n3,c3⟩:=sd;have sR:Ce.rd w w d.plan ⟨A3,n3,c3⟩:=gN;obtain rfl:n3=d.plan.edges.length:=RdL.at1 (s:=⟨A3,n3,c3⟩) sR;have HR:=Br (show ∀ W,Below w w W->Bw.rd W W y (⟨A1,n1,c1⟩,⟨A2,n2,c2⟩) from fun W hW=>Bw.rd_more (Bw.rd_below h hW) hW.size);have HP:=Br (show ∀ W,Below w w W->Ce.rd W W d.plan ⟨A3,d.plan.edges.length,c3⟩ from fun W hW=>Ce.rd_more (Ce.rd_below sR hW) hW.size);have CD:=Br (fun W (hW:Below w w W)=>Ou d ⟨A3,d.plan.edges.length,c3⟩ W (Cq.rd_more (Cq.rd_below gN hW) hW.size));have CC:=Br (fun W hW=>E1 y (⟨A1,n1,c1⟩,⟨A2,n2,c2⟩) W hl (HR.out W hW));clear h gN sR;obtain ⟨kd,rn,p,tk,ty,wk,dr⟩:=d;replace hp:p.edges.length<=2000000:=hp;replace HP:Hid (∀ W,Below w w W->Ce.rd W W p ⟨A3,p.edges.length,c3⟩):=HP;obtain ⟨W,aH,X,D,RES,RP,OB,B0⟩:=bx5 w 31 [J U y.now,J U y.seq,Aa A1 n1 c1,Aa A2 n2 c2] 45 [J U kd,J U rn,J U p.prio,J U p.most,J U p.wait,J U p.tasks,Aa A3 p.edges.length c3,J U tk,J U ty,J U wk,J U dr] 31 [J U 0,J U 0,Aa Ab 0 0,Aa Ab 0 0] 84 [J U 0,J U 0,J U 0,J U 0] 31 [J U 0,J U 0,Aa Ab 0 0,Aa Ab 0 0];go_enter func92,ntmps92;go_wp2_with fail
 rw [<-aH.out];clear aH;have hWs:w.heap.size+1+1+1+1<W.heap.size:=OB.lt;refine (CD.out _ B0).mono ?_;rintro e1 w1 ⟨rfl,b1⟩;replace X:=X.below b1;replace D:=D.below b1;replace OB:=OB.below b1;replace RES:=RES.below b1;replace RP:=RP.below b1;have bE:=b1.size;replace B0:=Bv B0 b1;clear b1 CD;have X_:=X.g4;have D_:=D.g11;have OB_:=OB.g4;cases hd:Dg ⟨kd,rn,p,tk,ty,wk,dr⟩;case false =>
  have H:=Br (show doO y ⟨kd,rn,p,tk,ty,wk,dr⟩=(y,⟨5,0,0,0⟩) from if_pos hd);clear hd;go_wp2_with fail
  refine (CC.out _ B0).mono ?_;rintro e2 w2 ⟨s2,F,rfl,oy,nF,b2⟩;have cA:∀ x∈F,w+1+1+1+1<x:=fun x hx=>by have h1:=nF x hx;omega
  clear X_;clear D_;clear OB_;clear X D OB;replace RES:=RES.below b2;replace RP:=RP.below b2;replace B0:=Bv B0 b2;clear nF b2;have RES_:=RES.g4;have RP_:=RP.g4;have rf:=RES.free;have pf:=RP.free;have aC:w.heap.size+1+1+1≠w.heap.size+1+1:=Bl;go_wp2;have RES2:=DBox.row4 RES rfl (J U y.now) (J U y.seq) (Aa s2.1.a s2.1.n s2.1.c) (Aa s2.2.a s2.2.n s2.2.c);have RP2:=DBox.row4 ((((RP.setOther (a:=⟨w+1+1,0,Ab⟩) aC (J U y.now)).setOther (a:=⟨w+1+1,1,Ab⟩) aC (J U y.seq)).setOther (a:=⟨w+1+1,2,Ab⟩) aC (Aa s2.1.a s2.1.n s2.1.c)).setOther (a:=⟨w+1+1,3,Ab⟩) aC (Aa s2.2.a s2.2.n s2.2.c)) rfl (J U 5) (J U 0) (J U 0) (J U 0);have RES3:=((((RES2.setOther (a:=⟨w+1+1+1,0,Ab⟩) aC.symm (J U 5)).setOther (a:=⟨w+1+1+1,1,Ab⟩) aC.symm (J U 0)).setOther (a:=⟨w+1+1+1,2,Ab⟩) aC.symm (J U 0)).setOther (a:=⟨w+1+1+1,3,Ab⟩) aC.symm (J U 0))
  have en1:w.heap.size+1+1∉F:=fun hx=>by have:=cA _ hx;omega
  have en2:w.heap.size+1+1+1∉F:=fun hx=>by have:=cA _ hx;omega
  refine Aj (Wn RES3 RP2) rfl ⟨s2,F,by rw [H.out],by rw [H.out];exact (by (repeat (refine Dt.ow_set Bw ?_ (by first | exact en1 | exact en2) _));exact (show Bw.ow _ F y s2 from oy)),fun x hx=>by have:=cA x hx;omega,?_⟩;repeat (first | (with_reducible exact B0) | refine Ad ?_ Bp _)
 replace hd:=Br hd;have hkd:=Ct.1 (Td hd.out);dsimp only at hkd;clear CC;rcases (show kd=1\/kd=2\/kd=3\/kd=4\/kd=5\/kd=6\/kd=7\/kd=8 by omega) with rfl | rfl | rfl | rfl | rfl | rfl | rfl | rfl
 have H:=Br (show doO y ⟨1,rn,p,tk,ty,wk,dr⟩=(Jm y rn p,⟨Jl y rn p,0,0,0⟩) by unfold doO;rw [if_neg (by rw [hd.out];simp)];rfl);have CS:=Br (Wb y (⟨A1,n1,c1⟩,⟨A2,n2,c2⟩) rn p ⟨A3,p.edges.length,c3⟩ w1 hl hp (HR.out _ B0) (HP.out _ B0));generalize Jm y rn p=z at *
 generalize Jl y rn p=c at *
 rotate_left
 ·have H:Hid (doO y ⟨2,rn,p,tk,ty,wk,dr⟩=Jd y wk dr):=by
   show doO y ⟨2,rn,p,tk,ty,wk,dr⟩=_;exact Amd
  have uB:=Br (Te hd.out);obtain ⟨dn,rfl⟩:=Int.eq_ofNat_of_zero_le uB.out.1;have CS:=Br (Aab y (⟨A1,n1,c1⟩,⟨A2,n2,c2⟩) wk dn w1 hl (by have:=uB.out;omega) (HR.out _ B0));generalize Jd y wk (dn:Int)=o at *
  obtain ⟨z,⟨o0,o1,o2,o3⟩⟩:=o;go_wp2_with fail
  refine CS.out.mono ?_;rintro e2 w2 ⟨s2,F,rfl,oy,nF,b2⟩;replace oy:Bw.ow w2 F z s2:=oy;have cA:∀ x∈F,w+1+1+1+1<x:=fun x hx=>by have h1:=nF x hx;omega
  clear X_;clear D_;clear OB_;clear X D OB;replace RES:=RES.below b2;replace RP:=RP.below b2;replace B0:=Bv B0 b2;clear nF b2;have RES_:=RES.g4;have RP_:=RP.g4;have rf:=RES.free;have pf:=RP.free;have aC:w.heap.size+1+1+1≠w.heap.size+1+1:=Bl;go_wp2;have RES2:=DBox.row4 RES rfl (J U z.now) (J U z.seq) (Aa s2.1.a s2.1.n s2.1.c) (Aa s2.2.a s2.2.n s2.2.c);have RP2:=DBox.row4 ((((RP.setOther (a:=⟨w+1+1,0,Ab⟩) aC (J U z.now)).setOther (a:=⟨w+1+1,1,Ab⟩) aC (J U z.seq)).setOther (a:=⟨w+1+1,2,Ab⟩) aC (Aa s2.1.a s2.1.n s2.1.c)).setOther (a:=⟨w+1+1,3,Ab⟩) aC (Aa s2.2.a s2.2.n s2.2.c)) rfl (J U o0) (J U o1) (J U o2) (J U o3);have RES3:=((((RES2.setOther (a:=⟨w+1+1+1,0,Ab⟩) aC.symm (J U o0)).setOther (a:=⟨w+1+1+1,1,Ab⟩) aC.symm (J U o1)).setOther (a:=⟨w+1+1+1,2,Ab⟩) aC.symm (J U o2)).setOther (a:=⟨w+1+1+1,3,Ab⟩) aC.symm (J U o3))
  have en1:w.heap.size+1+1∉F:=fun hx=>by have:=cA _ hx;omega
  have en2:w.heap.size+1+1+1∉F:=fun hx=>by have:=cA _ hx;omega
  refine Aj (Wn RES3 RP2) rfl ⟨s2,F,by rw [H.out],by rw [H.out];exact (by (repeat (refine Dt.ow_set Bw ?_ (by first | exact en1 | exact en2) _));exact (show Bw.ow _ F z s2 from oy)),fun x hx=>by have:=cA x hx;omega,?_⟩;repeat (first | (with_reducible exact B0) | refine Ad ?_ Bp _)
 have H:=Br (show doO y ⟨3,rn,p,tk,ty,wk,dr⟩=(K7 y rn tk ty,⟨Gv y rn tk ty,0,0,0⟩) by unfold doO;rw [if_neg (by rw [hd.out];simp)];rfl);have CS:=Br (Sf y (⟨A1,n1,c1⟩,⟨A2,n2,c2⟩) rn tk ty w1 hl (HR.out _ B0));generalize K7 y rn tk ty=z at *
 generalize Gv y rn tk ty=c at *
 rotate_left;have H:=Br (show doO y ⟨4,rn,p,tk,ty,wk,dr⟩=(K6 y rn tk ty,⟨Gv y rn tk ty,0,0,0⟩) by unfold doO;rw [if_neg (by rw [hd.out];simp)];rfl);have CS:=Br (Zz y (⟨A1,n1,c1⟩,⟨A2,n2,c2⟩) rn tk ty w1 hl (HR.out _ B0));generalize K6 y rn tk ty=z at *
 generalize Gv y rn tk ty=c at *
 rotate_left;have H:=Br (show doO y ⟨5,rn,p,tk,ty,wk,dr⟩=(Je y,⟨Jr y,0,0,0⟩) by unfold doO;rw [if_neg (by rw [hd.out];simp)];rfl);have CS:=Br (Aaf y (⟨A1,n1,c1⟩,⟨A2,n2,c2⟩) w1 hl (HR.out _ B0));generalize Je y=z at *
 generalize Jr y=c at *
 rotate_left;have H:=Br (show doO y ⟨6,rn,p,tk,ty,wk,dr⟩=(Iu y rn,⟨It y rn,0,0,0⟩) by unfold doO;rw [if_neg (by rw [hd.out];simp)];rfl);have CS:=Br (Wc y (⟨A1,n1,c1⟩,⟨A2,n2,c2⟩) rn w1 hl (HR.out _ B0));generalize Iu y rn=z at *
 generalize It y rn=c at *
 rotate_left;have H:=Br (show doO y ⟨7,rn,p,tk,ty,wk,dr⟩=(Iw y rn,⟨Iv y rn,0,0,0⟩) by unfold doO;rw [if_neg (by rw [hd.out];simp)];rfl);have CS:=Br (Wh y (⟨A1,n1,c1⟩,⟨A2,n2,c2⟩) rn w1 hl (HR.out _ B0));generalize Iw y rn=z at *
 generalize Iv y rn=c at *
 rotate_left
 ·have H:Hid (doO y ⟨8,rn,p,tk,ty,wk,dr⟩=(Mh y,⟨Tc y,0,0,0⟩)):=by
   show doO y ⟨8,rn,p,tk,ty,wk,dr⟩=_;exact Amd
  have CS:=Br (T8 y (⟨A1,n1,c1⟩,⟨A2,n2,c2⟩) w1 hl (HR.out _ B0));have CY:=Br (fun W hW=>Gl y (⟨A1,n1,c1⟩,⟨A2,n2,c2⟩) W hl (HR.out W hW));generalize Mh y=z at *
  go_wp2_with fail
  refine CS.out.mono ?_;rintro e2 w2 ⟨s2,F,rfl,oy,nF,b2⟩;replace oy:Bw.ow w2 F z s2:=oy;have cA:∀ x∈F,w+1+1+1+1<x:=fun x hx=>by have h1:=nF x hx;omega
  clear X_;clear D_;clear OB_;replace X:=X.below b2;replace D:=D.below b2;replace OB:=OB.below b2;replace RES:=RES.below b2;replace RP:=RP.below b2;have X_:=X.g4;have D_:=D.g11;have OB_:=OB.g4;have OBf:=OB.free;replace B0:=Bv B0 b2;clear nF b2;go_upto_region 7 with fail
  clear X_;clear D_;have X9:=X;clear D OBf;have dJ:=Chg.cells4 w2 (w+1+1+1+1) 0 1 2 3 (J U z.now) (J U z.seq) (Aa s2.1.a s2.1.n s2.1.c) (Aa s2.2.a s2.2.n s2.2.c);have bT:=Br (show ∀ x,x∈[w.heap.size+1+1+1+1]->x=w.heap.size+1+1+1+1 from fun x hx=>by simpa using hx);clear OB_;replace OB:=DBox.row4 OB rfl (J U z.now) (J U z.seq) (Aa s2.1.a s2.1.n s2.1.c) (Aa s2.2.a s2.2.n s2.2.c);replace RES:=RES.chg dJ (fun hx=>by have:=bT.out _ hx;omega);replace RP:=RP.chg dJ (fun hx=>by have:=bT.out _ hx;omega);replace oy:Bw.ow _ F z s2:=owC oy dJ (fun x hx h=>by have h1:=bT.out x h;have h2:=cA x hx;omega);replace B0:=B0.trans (dJ.below (by have:=B0.size;omega) (fun x hx=>by have:=bT.out x hx;omega));have hCo9:=dJ;clear dJ;replace X:=X9.chg hCo9 (fun hx=>by have:=bT.out _ hx;omega);clear X9;generalize (((w2.setCell ⟨w+1+1+1+1,0,Ab⟩ (J U z.now)).setCell ⟨w+1+1+1+1,1,Ab⟩ (J U z.seq)).setCell ⟨w+1+1+1+1,2,Ab⟩ (Aa s2.1.a s2.1.n s2.1.c)).setCell ⟨w+1+1+1+1,3,Ab⟩ (Aa s2.2.a s2.2.n s2.2.c)=w3 at *
  have OB_:=OB.g4;have X_:=X.g4;go_wp2_with fail
  refine (CY.out _ B0).mono ?_;rintro e3 w4 ⟨rfl,b4⟩;clear X_;clear OB_;clear X;replace OB:=OB.below b4;replace RES:=RES.below b4;replace RP:=RP.below b4;replace oy:Bw.ow w4 F z s2:=owB oy b4;replace B0:=Bv B0 b4;clear b4;have OB_:=OB.g4;by_cases q:Dk y
  ·rw [Di q];replace H:=Br (H.out.trans (by rw [show Tc y=0 from if_pos q]));clear q;have RES_:=RES.g4;have RP_:=RP.g4;have rf:=RES.free;have pf:=RP.free;have aC:w.heap.size+1+1+1≠w.heap.size+1+1:=Bl;go_wp2;have RES2:=DBox.row4 RES rfl (J U z.now) (J U z.seq) (Aa s2.1.a s2.1.n s2.1.c) (Aa s2.2.a s2.2.n s2.2.c);have RP2:=DBox.row4 ((((RP.setOther (a:=⟨w+1+1,0,Ab⟩) aC (J U z.now)).setOther (a:=⟨w+1+1,1,Ab⟩) aC (J U z.seq)).setOther (a:=⟨w+1+1,2,Ab⟩) aC (Aa s2.1.a s2.1.n s2.1.c)).setOther (a:=⟨w+1+1,3,Ab⟩) aC (Aa s2.2.a s2.2.n s2.2.c)) rfl (J U 0) (J U 0) (J U 0) (J U 0);have RES3:=((((RES2.setOther (a:=⟨w+1+1+1,0,Ab⟩) aC.symm (J U 0)).setOther (a:=⟨w+1+1+1,1,Ab⟩) aC.symm (J U 0)).setOther (a:=⟨w+1+1+1,2,Ab⟩) aC.symm (J U 0)).setOther (a:=⟨w+1+1+1,3,Ab⟩) aC.symm (J U 0))
   have en1:w.heap.size+1+1∉F:=fun hx=>by have:=cA _ hx;omega
   have en2:w.heap.size+1+1+1∉F:=fun hx=>by have:=cA _ hx;omega
   refine Aj (Wn RES3 RP2) rfl ⟨s2,F,by rw [H.out],by rw [H.out];exact (by (repeat (refine Dt.ow_set Bw ?_ (by first | exact en1 | exact en2) _));exact (show Bw.ow _ F z s2 from oy)),fun x hx=>by have:=cA x hx;omega,?_⟩;repeat (first | (with_reducible exact B0) | refine Ad ?_ Bp _)
  ·rw [Cg q];replace H:=Br (H.out.trans (by rw [show Tc y=8 from if_neg q]));clear q;have RES_:=RES.g4;have RP_:=RP.g4;have rf:=RES.free;have pf:=RP.free;have aC:w.heap.size+1+1+1≠w.heap.size+1+1:=Bl;go_wp2;have RES2:=DBox.row4 RES rfl (J U z.now) (J U z.seq) (Aa s2.1.a s2.1.n s2.1.c) (Aa s2.2.a s2.2.n s2.2.c);have RP2:=DBox.row4 ((((RP.setOther (a:=⟨w+1+1,0,Ab⟩) aC (J U z.now)).setOther (a:=⟨w+1+1,1,Ab⟩) aC (J U z.seq)).setOther (a:=⟨w+1+1,2,Ab⟩) aC (Aa s2.1.a s2.1.n s2.1.c)).setOther (a:=⟨w+1+1,3,Ab⟩) aC (Aa s2.2.a s2.2.n s2.2.c)) rfl (J U 8) (J U 0) (J U 0) (J U 0);have RES3:=((((RES2.setOther (a:=⟨w+1+1+1,0,Ab⟩) aC.symm (J U 8)).setOther (a:=⟨w+1+1+1,1,Ab⟩) aC.symm (J U 0)).setOther (a:=⟨w+1+1+1,2,Ab⟩) aC.symm (J U 0)).setOther (a:=⟨w+1+1+1,3,Ab⟩) aC.symm (J U 0))
   have en1:w.heap.size+1+1∉F:=fun hx=>by have:=cA _ hx;omega
   have en2:w.heap.size+1+1+1∉F:=fun hx=>by have:=cA _ hx;omega
   refine Aj (Wn RES3 RP2) rfl ⟨s2,F,by rw [H.out],by rw [H.out];exact (by (repeat (refine Dt.ow_set Bw ?_ (by first | exact en1 | exact en2) _));exact (show Bw.ow _ F z s2 from oy)),fun x hx=>by have:=cA x hx;omega,?_⟩;repeat (first | (with_reducible exact B0) | refine Ad ?_ Bp _)
 all_goals
  go_wp2_with fail
  refine CS.out.mono ?_;rintro e2 w2 ⟨s2,F,rfl,oy,nF,b2⟩;replace oy:Bw.ow w2 F z s2:=oy;have cA:∀ x∈F,w+1+1+1+1<x:=fun x hx=>by have h1:=nF x hx;omega
  clear X_;clear D_;clear OB_;replace X:=X.below b2;replace D:=D.below b2;replace OB:=OB.below b2;replace RES:=RES.below b2;replace RP:=RP.below b2;have X_:=X.g4;have D_:=D.g11;have OB_:=OB.g4;have OBf:=OB.free;replace B0:=Bv B0 b2;clear nF b2;go_upto_region 23 with fail
  clear X_;clear D_;clear X D OBf;have dJ:=Chg.cells4 w2 (w+1+1+1+1) 0 1 2 3 (J U z.now) (J U z.seq) (Aa s2.1.a s2.1.n s2.1.c) (Aa s2.2.a s2.2.n s2.2.c);have bT:=Br (show ∀ x,x∈[w.heap.size+1+1+1+1]->x=w.heap.size+1+1+1+1 from fun x hx=>by simpa using hx);clear OB_;replace OB:=DBox.row4 OB rfl (J U z.now) (J U z.seq) (Aa s2.1.a s2.1.n s2.1.c) (Aa s2.2.a s2.2.n s2.2.c);replace RES:=RES.chg dJ (fun hx=>by have:=bT.out _ hx;omega);replace RP:=RP.chg dJ (fun hx=>by have:=bT.out _ hx;omega);replace oy:Bw.ow _ F z s2:=owC oy dJ (fun x hx h=>by have h1:=bT.out x h;have h2:=cA x hx;omega);replace B0:=B0.trans (dJ.below (by have:=B0.size;omega) (fun x hx=>by have:=bT.out x hx;omega));clear dJ;generalize (((w2.setCell ⟨w+1+1+1+1,0,Ab⟩ (J U z.now)).setCell ⟨w+1+1+1+1,1,Ab⟩ (J U z.seq)).setCell ⟨w+1+1+1+1,2,Ab⟩ (Aa s2.1.a s2.1.n s2.1.c)).setCell ⟨w+1+1+1+1,3,Ab⟩ (Aa s2.2.a s2.2.n s2.2.c)=w3 at *
  have OB_:=OB.g4;have RES_:=RES.g4;have RP_:=RP.g4;have rf:=RES.free;have pf:=RP.free;have aC:w.heap.size+1+1+1≠w.heap.size+1+1:=Bl;go_wp2;have RES2:=DBox.row4 RES rfl (J U z.now) (J U z.seq) (Aa s2.1.a s2.1.n s2.1.c) (Aa s2.2.a s2.2.n s2.2.c);have RP2:=DBox.row4 ((((RP.setOther (a:=⟨w+1+1,0,Ab⟩) aC (J U z.now)).setOther (a:=⟨w+1+1,1,Ab⟩) aC (J U z.seq)).setOther (a:=⟨w+1+1,2,Ab⟩) aC (Aa s2.1.a s2.1.n s2.1.c)).setOther (a:=⟨w+1+1,3,Ab⟩) aC (Aa s2.2.a s2.2.n s2.2.c)) rfl (J U c) (J U 0) (J U 0) (J U 0);have RES3:=((((RES2.setOther (a:=⟨w+1+1+1,0,Ab⟩) aC.symm (J U c)).setOther (a:=⟨w+1+1+1,1,Ab⟩) aC.symm (J U 0)).setOther (a:=⟨w+1+1+1,2,Ab⟩) aC.symm (J U 0)).setOther (a:=⟨w+1+1+1,3,Ab⟩) aC.symm (J U 0))
  have en1:w.heap.size+1+1∉F:=fun hx=>by have:=cA _ hx;omega
  have en2:w.heap.size+1+1+1∉F:=fun hx=>by have:=cA _ hx;omega
  refine Aj (Wn RES3 RP2) rfl ⟨s2,F,by rw [H.out],by rw [H.out];exact (by (repeat (refine Dt.ow_set Bw ?_ (by first | exact en1 | exact en2) _));exact (show Bw.ow _ F z s2 from oy)),fun x hx=>by have:=cA x hx;omega,?_⟩;repeat (first | (with_reducible exact B0) | refine Ad ?_ Bp _)
end
end Go.Proofs.YtecnbnbopcblgaaGreat
