/-
  Submit of the reference. Written by program (kx.py). Cancel of the reference. Written by program (ky.py). LateOf of the reference. Written by program (kz.py). F
-/
import Derived.Test.YtonlnjdempbfoaaGreatZFe0
import Derived.Test.YtonlnjdempbfoaaGreatZFe6
import Derived.Test.YtonlnjdempbfoaaGreatZFe8
import Derived.Test.YtonlnjdempbfoaaGreatZFe9
import Derived.Test.YtonlnjdempbfoaaGreatZFe11
namespace Go.Proofs.YtonlnjdempbfoaaGreat
open Go.RowKit
set_option maxRecDepth 100000
set_option maxHeartbeats 4000000
set_option linter.unusedVariables false
set_option linter.unusedSimpArgs false
open Value renaming int->J,slice->Aa
open IntKind renaming i64->U
open Option renaming none->Ab,some->Ac
open Below renaming setCell->Ad
open Nat renaming zero_le->Ag,le_trans->Ah
open Go renaming bodyPost_ret->Aj
open Go.Proofs.Tryz renaming prog->An
open Int renaming toNat_natCast->Ap
open IntWalk renaming i64_in->Ar
open List renaming length_map->Au,getElem_mem->Aw,nodup_append->Ax,length_take->Az,length_append->A0,mem_append_right->Bd,mem_append_left->Be,take_of_length_le->Bf,mem_append->Bh
open World renaming size_alloc->Bi
section
open Classical in
noncomputable def Mu (y:Yard) (id:Int) (p:Plan):Int :=
 if ¬ Dn y then 8 else if inB id 1 9999=false then 5 else if 0<=Dh y id then 6 else if ¬ Cr p=0 then Cr p else if M8 y p=false then 7 else 0
noncomputable def Mg (y:Yard) (id:Int) (p:Plan):Yard:=if Mu y id p=0 then Qk ⟨y.now,y.seq,y.shelf,y.runs ++ [Cl id p]⟩ Ez (Cl id p) else y
theorem Jq {b:Nat} {w:World} {u0 u1 u2 u3:Value} (X:DBox b [u0,u1,u2,u3] w) {v0 v1 v2 v3 v4 v5 v7:Value} {rest:List Value} :
  (results Tryz.f143 (v0 :: v1 :: v2 :: v3 :: v4 :: v5 :: .pointer (Ac ⟨b,0,Ab⟩) :: v7 :: rest).toArray).run An w = .ok (.tuple #[.agg #[u0,u1,u2,u3],v7]) w:=by
 have c0:=X.cell 0 _ rfl;have c1:=X.cell 1 _ rfl;have c2:=X.cell 2 _ rfl;have c3:=X.cell 3 _ rfl;simp [results,Tryz.results143,go_sem,c0,c1,c2,c3]
theorem Afk {α:Type} (d:Dt α) (w:World) (B c:Nat):RdL d w B (Aa Ab 0 c) []:=⟨[],rfl,Rd.nil _ _ _ _,fun _ h=>by cases h⟩
def BldG {α:Type} (d:Dt α) (E:TypeId) (w:World) (base:Nat) (v:Value) (rs:List (α×d.S)) (G:List Nat):Prop :=
 Ow d.enc E w base v rs/\Ows d w G rs/\G.Nodup /\ ∀ b∈G,base<=b/\v.ownBlock≠Ac b
theorem BldG.below {α:Type} {d:Dt α} {E:TypeId} {w w':World} {base:Nat} {v:Value} {rs:List (α×d.S)} {G:List Nat} (h:BldG d E w base v rs G) (hb:Below w w w'):BldG d E w' base v rs G :=
 ⟨h.1.below hb,h.2.1.bel hb,h.2.2.1,h.2.2.2⟩
theorem BldG.push1 {α:Type} {d:Dt α} {E:TypeId} {w w1 w2 w5:World} {base:Nat} {v v5:Value} {rs:List (α×d.S)} {G:List Nat} {x:α} {s:d.S} {F:List Nat} (h:BldG d E w base v rs G) (hb:Below w w w1) (o1:d.ow w1 F x s) (n1:∀ b∈F,w<=b)
  (aV:base<=w.heap.size) (aF:Below w1 w1 w2) (o5:Ow d.enc E w5 base v5 (rs ++ [(x,s)])) (g5:w2.grownBy w5 v.ownBlock) (f5:v5.ownBlock=v.ownBlock\/v5.ownBlock=Ac w2.heap.size):BldG d E w5 base v5 (rs ++ [(x,s)]) (G ++ F):=by
 obtain ⟨h1,h2,h3,h4⟩:=h;have hG:∀ b∈G,b<w:=h2.lt;have cL:∀ b∈F,b<w1:=d.ow_lt o1;have pT:∀ b∈F,v.ownBlock≠Ac b:=fun b hb he=>by
  have h5:=(h1.within b he).2;have h6:=n1 b hb;omega
 have hs:=hb.size;have cI:=aF.size;have ht:Ows d w2 F [(x,s)]:=Ows.one (r:=(x,s)) (d.ow_below o1 aF);refine ⟨o5,?_,?_,?_⟩
 ·refine Ows.append ((h2.bel (Bs hb aF)).keep g5.size fun b hbG=>g5.block b (by have:=hG b hbG;omega) ?_) (ht.keep g5.size fun b cN=>g5.block b (by have:=cL b cN;omega) ?_)
  ·exact fun e=>(h4 b hbG).2 e.symm
  ·exact fun e=>pT b cN e.symm
 ·rw [Ax];refine ⟨h3,d.ow_nodup o1,fun a ha b bE e=>?_⟩
  have:=hG a ha
  have:=n1 b bE
  omega
 ·intro b aW;rcases Bh.1 aW with aW | aW
  ·refine ⟨(h4 b aW).1,?_⟩;rcases f5 with hv | hv
   ·rw [hv];exact (h4 b aW).2
   ·rw [hv];intro e
    have:=hG b aW
    injection e with e
    omega
  ·refine ⟨by have:=n1 b aW;omega,?_⟩;rcases f5 with hv | hv
   ·rw [hv];exact pT b aW
   ·rw [hv];intro e
    have:=cL b aW
    injection e with e
    omega
theorem BldG.owl {α:Type} {d:Dt α} {E:TypeId} {w:World} {base:Nat} {v:Value} {rs:List (α×d.S)} {G:List Nat} (h:BldG d E w base v rs G) {l:List α} (hl:rs.map (·.1)=l):OwL d w (Eh v rs.length ++ G) v l:=by
 obtain ⟨h1,h2,h3,h4⟩:=h;obtain ⟨h5,h6⟩:=Hw.of_ow h1;refine ⟨rs,_,G,hl,h5,h2,rfl,?_⟩;rw [Ax];refine ⟨I3 _ _,h3,fun a ha b hb e=>?_⟩;subst e;exact (h4 a hb).2 (H6 _ _ _ ha)
theorem Vt (y:Yard) (s:Sl×Sl) (id:Int) (p:Plan) (sp:Sl) (w:World) (hl:Ci y<=2000000) (hp:p.edges.length<=2000000) (h:Bu.rd w w y s) (hpr:Cm.rd w w p sp) :
  Calls An 143 #[Du y s,.int .i64 id,Qc p sp] w (Ma (Mg y id p) (Mu y id p) w):=by
 have HR:=Bp (show ∀ W,Below w w W->Bu.rd W W y s from fun W hW=>Bu.rd_more (Bu.rd_below h hW) hW.size);obtain ⟨⟨A1,n1,c1⟩,⟨A2,n2,c2⟩⟩:=s;obtain ⟨A3,n3,c3⟩:=sp;obtain rfl:n3=p.edges.length:=RdL.at1 (s:=⟨A3,n3,c3⟩) hpr;have CC:=Bp (fun W hW=>L9 y (⟨A1,n1,c1⟩,⟨A2,n2,c2⟩) W hl (HR.out W hW));have CY:=Bp (fun W hW=>Gj y (⟨A1,n1,c1⟩,⟨A2,n2,c2⟩) W hl (HR.out W hW));have CA:=Bp (fun W hW=>Ew y (⟨A1,n1,c1⟩,⟨A2,n2,c2⟩) id W hl (HR.out W hW));have CF:=Bp (fun W (hW:Below w w W)=>I4 p (.slice A3 p.edges.length c3) W hp (((Ju hpr).below hW).more hW.size));have CR:=Bp (fun W hW hS hq=>Ym y (⟨A1,n1,c1⟩,⟨A2,n2,c2⟩) p (.slice A3 p.edges.length c3) W hl hS hq (HR.out W hW));have CN:=Bp (fun W (hW:Below w w W) hid hf=>Vs id p ⟨A3,p.edges.length,c3⟩ W hid hf (Cm.rd_more (Cm.rd_below hpr hW) hW.size));obtain ⟨j0,bS,jz0,jz1,jz2⟩:=info_parts N2;clear h hpr HR;obtain ⟨W,aH,X,P,RES,B0⟩:=bx3 w 31 [.int .i64 y.now,.int .i64 y.seq,.slice A1 n1 c1,.slice A2 n2 c2] 43 [.int .i64 p.prio,.int .i64 p.most,.int .i64 p.wait,.int .i64 p.tasks,.slice A3 p.edges.length c3] 31 [.int .i64 0,.int .i64 0,.slice Ab 0 0,.slice Ab 0 0];go_enter Tryz.func143,Tryz.ntmps143;go_wp2_with fail
 rw [<-aH.out];clear aH;have jQ:w.heap.size+1+1<W.heap.size:=RES.lt;refine (CC.out _ B0).mono ?_;rintro e1 w1 ⟨⟨B1,m1,e1⟩,⟨B2,m2,e2⟩,F1,base,rfl,oS,pQ,aV,eM,oR,b1⟩;have bL:=b1.size;replace X:=X.below b1;replace P:=P.below b1;replace RES:=RES.below b1;replace B0:=Bs B0 b1;clear b1;obtain ⟨rs,dA,G0,oR⟩:=oR;have hm:=Bp dA;clear dA;replace oR:BldG Co 89 w1 base (.slice B2 m2 e2) rs G0:=oR;have hG0:=oR.2.1.lt;have hoB:∀ g,(Value.slice B2 m2 e2).ownBlock=Ac g->g≠w1.heap.size:=fun g hg h=>by
  have:=(oR.1.within g hg).2
  omega
 obtain ⟨F,oy,nF⟩:∃ F,Bu.ow w1 F y (⟨B1,m1,e1⟩,⟨B2,m2,e2⟩) /\ ∀ x∈F,W<=x:=by
  have hB:Bld Co 89 w1 base (.slice B2 m2 e2) rs:=⟨G0,oR⟩
  replace hm:=hm.out;obtain ⟨F2,h5,h6⟩:=hB.owl hm;refine ⟨F1 ++ F2,⟨F1,F2,rfl,?_,oS,h5⟩,fun b hb=>?_⟩
  ·rw [Ax];refine ⟨oS.nodup,h5.nodup,fun u hu u' hu' e=>?_⟩
   have:=pQ u hu
   have:=h6 u' hu'
   omega
  ·rcases Bh.1 hb with hb | hb
   ·exact (pQ b hb).1
   ·have:=h6 b hb;omega
 go_upto_region 2 with fail
 have OB:=DBox.new 31 [.int .i64 y.now,.int .i64 y.seq,.slice B1 m1 e1,.slice B2 m2 e2] w1 (b:=w1.heap.size) rfl;have b2:Below w1 w1 (w1.alloc (.cells #[.int .i64 y.now,.int .i64 y.seq,.slice B1 m1 e1,.slice B2 m2 e2] 31)):=(Bq _ _).alloc (Br _) _;replace X:=X.below b2;replace P:=P.below b2;replace RES:=RES.below b2;replace oy:=Bu.ow_below (F:=F) (x:=y) (s:=(⟨B1,m1,e1⟩,⟨B2,m2,e2⟩)) oy b2;replace oS:=oS.below b2;replace oR:=oR.below b2;replace B0:=Bs B0 b2;have ow1:=OB.lt;have hbob:base<=w1.heap.size:=eM;replace eM:=Ah eM b2.size;clear b2;generalize w1.alloc (.cells #[.int .i64 y.now,.int .i64 y.seq,.slice B1 m1 e1,.slice B2 m2 e2] 31)=w2 at *
 generalize dQ:w1.heap.size=ob at *
 have X_:=X.g4;have P_:=P.g5;have OB_:=OB.g4;go_wp2_with fail
 refine (CY.out _ B0).mono ?_;rintro e1 w3 ⟨rfl,b3⟩;clear X_;clear P_;clear OB_;replace X:=X.below b3;replace P:=P.below b3;replace OB:=OB.below b3;replace RES:=RES.below b3;replace oy:Bu.ow w3 F y (⟨B1,m1,e1⟩,⟨B2,m2,e2⟩):=owB oy b3;replace oS:=oS.below b3;replace oR:=oR.below b3;replace B0:=Bs B0 b3;replace eM:=Ah eM b3.size;clear b3;have X_:=X.g4;have P_:=P.g5;have OB_:=OB.g4;by_cases p0:Dn y;case neg =>
  rw [Ck p0];have H:=Bp (show Mu y id p=8 by unfold Mu;rw [if_pos p0]);have H2:=Bp (show Mg y id p=y by unfold Mg;rw [H.out,if_neg Bo]);have RES_:=RES.g4;have rf:=RES.free;go_wp2;have en1:w.heap.size+1+1∉F:=fun hx=>by have:=nF _ hx;omega
  refine Aj (Jq (DBox.row4 RES rfl _ _ _ _)) rfl ⟨(⟨B1,m1,e1⟩,⟨B2,m2,e2⟩),F,by rw [H.out,H2.out],by rw [H2.out];exact (by (repeat (refine Dt.ow_set Bu ?_ en1 _));exact (show Bu.ow _ F y (⟨B1,m1,e1⟩,⟨B2,m2,e2⟩) from oy)),fun x hx=>by have:=nF x hx;omega,?_⟩;repeat (first | (with_reducible exact B0) | refine Ad ?_ Bn _)
 rw [D6 p0];have sK:=p0.2.2.2.2.2.2.2.2.2;have hsq:=p0.2.1;have h4:=Bp p0.2.2.1;have eA:=Bp p0.2.2.2.1;have P0:=Bp p0;clear p0;cases p1:inB id 1 9999;case false =>
  have H:=Bp (show Mu y id p=5 by unfold Mu;rw [if_neg (fun h=>h P0.out),if_pos p1]);have H2:=Bp (show Mg y id p=y by unfold Mg;rw [H.out,if_neg Bo]);have RES_:=RES.g4;have rf:=RES.free;go_wp2_with (go_at_call 155;refine (Cf _ _ _ _).mono ?_;rintro e w9 ⟨rfl,rfl⟩;rw [p1])
  have en1:w.heap.size+1+1∉F:=fun hx=>by have:=nF _ hx;omega
  refine Aj (Jq (DBox.row4 RES rfl _ _ _ _)) rfl ⟨(⟨B1,m1,e1⟩,⟨B2,m2,e2⟩),F,by rw [H.out,H2.out],by rw [H2.out];exact (by (repeat (refine Dt.ow_set Bu ?_ en1 _));exact (show Bu.ow _ F y (⟨B1,m1,e1⟩,⟨B2,m2,e2⟩) from oy)),fun x hx=>by have:=nF x hx;omega,?_⟩;repeat (first | (with_reducible exact B0) | refine Ad ?_ Bn _)
 have P1:=Bp p1;go_wp2_with (go_at_call 155;refine (Cf _ _ _ _).mono ?_;rintro e w9 ⟨rfl,rfl⟩;rw [p1])
 refine (CA.out _ B0).mono ?_;rintro e1 w4 ⟨rfl,b4⟩;clear X_;clear P_;clear OB_;replace X:=X.below b4;replace P:=P.below b4;replace OB:=OB.below b4;replace RES:=RES.below b4;replace oy:Bu.ow w4 F y (⟨B1,m1,e1⟩,⟨B2,m2,e2⟩):=owB oy b4;replace oS:=oS.below b4;replace oR:=oR.below b4;replace B0:=Bs B0 b4;replace eM:=Ah eM b4.size;clear b4;have X_:=X.g4;have P_:=P.g5;have OB_:=OB.g4;by_cases p2:0<=Dh y id;case pos =>
  have H:=Bp (show Mu y id p=6 by unfold Mu;rw [if_neg (fun h=>h P0.out),if_neg (by rw [P1.out];simp),if_pos p2]);have H2:=Bp (show Mg y id p=y by unfold Mg;rw [H.out,if_neg Bo]);have RES_:=RES.g4;have rf:=RES.free;go_wp2;have en1:w.heap.size+1+1∉F:=fun hx=>by have:=nF _ hx;omega
  refine Aj (Jq (DBox.row4 RES rfl _ _ _ _)) rfl ⟨(⟨B1,m1,e1⟩,⟨B2,m2,e2⟩),F,by rw [H.out,H2.out],by rw [H2.out];exact (by (repeat (refine Dt.ow_set Bu ?_ en1 _));exact (show Bu.ow _ F y (⟨B1,m1,e1⟩,⟨B2,m2,e2⟩) from oy)),fun x hx=>by have:=nF x hx;omega,?_⟩;repeat (first | (with_reducible exact B0) | refine Ad ?_ Bn _)
 have P2:=Bp p2;go_wp2_with fail
 refine (CF.out _ B0).mono ?_;rintro e1 w5 ⟨rfl,b5⟩;clear p1 p2;clear X_;clear P_;clear OB_;replace X:=X.below b5;replace P:=P.below b5;replace OB:=OB.below b5;replace RES:=RES.below b5;replace oy:Bu.ow w5 F y (⟨B1,m1,e1⟩,⟨B2,m2,e2⟩):=owB oy b5;replace oS:=oS.below b5;replace oR:=oR.below b5;replace B0:=Bs B0 b5;replace eM:=Ah eM b5.size;clear b5;have X_:=X.g4;have P_:=P.g5;have OB_:=OB.g4;by_cases p3:Cr p=0;case neg =>
  have q3:(Cr p != 0)=true:=by simp [p3]
  have H:=Bp (show Mu y id p=Cr p by unfold Mu;rw [if_neg (fun h=>h P0.out),if_neg (by rw [P1.out];simp),if_neg (by have:=P2.out;omega),if_pos p3]);have H2:=Bp (show Mg y id p=y by unfold Mg;rw [H.out,if_neg p3]);clear p3;have en1:w.heap.size+1+1∉F:=fun hx=>by have:=nF _ hx;omega
  have RES_:=RES.g4;have rf:=RES.free;have hpb:w.heap.size+1<w5.heap.size:=P.lt;have hobl:ob<w5:=OB.lt;have CF5:=Bp (CF.out _ B0.drew);go_wp2;refine Go.wp_region_noPanic ?_;refine wp_region_held_drew (S:=(fun w'=>DBox ob [.int .i64 y.now,.int .i64 y.seq,.slice B1 m1 e1,.slice B2 m2 e2] w'/\DBox (w.heap.size+1) [.int .i64 p.prio,.int .i64 p.most,.int .i64 p.wait,.int .i64 p.tasks,.slice A3 p.edges.length c3] w')) Bl ⟨DBox.drew4 OB,DBox.drew4 P⟩ (fun hHeld=>?_);replace oy:Bu.ow w5.drew F y (⟨B1,m1,e1⟩,⟨B2,m2,e2⟩):=owB oy (Bq _ _).drew;clear RES_;clear rf;replace RES:DBox _ _ w5.drew:=DBox.drew4 RES;replace B0:=B0.drew;clear X_;clear P_;clear OB_;clear OB X P;generalize w5.drew=w5d at *
  refine tV 0 ?_
  (try simp only [pS])
  refine tV 1 ?_
  (try simp only [pS])
  refine rC 2 (fun K_ hK=>?_);go_simp;refine CF5.out.mono ?_;rintro e1 w6 ⟨rfl,b6⟩;replace oy:Bu.ow w6 F y (⟨B1,m1,e1⟩,⟨B2,m2,e2⟩):=owB oy b6;replace RES:=RES.below b6;replace B0:=Bs B0 b6;refine hK.out _ _ ⟨hHeld.1.below b6,hHeld.2.below b6⟩ (fun hHeld=>?_);clear hK K_
  (try simp only [pS])
  have RES_:=RES.g4;have rf:=RES.free;refine rC 3 (fun K_ hK=>?_);go_simp;refine hK.out _ _ ⟨(((hHeld.1.setOther (a:=⟨w.heap.size+1+1,0,Ab⟩) (by show ob≠w.heap.size+1+1;omega) _).setOther (a:=⟨w.heap.size+1+1,1,Ab⟩) (by show ob≠w.heap.size+1+1;omega) _).setOther (a:=⟨w.heap.size+1+1,2,Ab⟩) (by show ob≠w.heap.size+1+1;omega) _).setOther (a:=⟨w.heap.size+1+1,3,Ab⟩) (by show ob≠w.heap.size+1+1;omega) _,(((hHeld.2.setOther (a:=⟨w.heap.size+1+1,0,Ab⟩) (by show w.heap.size+1≠w.heap.size+1+1;omega) _).setOther (a:=⟨w.heap.size+1+1,1,Ab⟩) (by show w.heap.size+1≠w.heap.size+1+1;omega) _).setOther (a:=⟨w.heap.size+1+1,2,Ab⟩) (by show w.heap.size+1≠w.heap.size+1+1;omega) _).setOther (a:=⟨w.heap.size+1+1,3,Ab⟩) (by show w.heap.size+1≠w.heap.size+1+1;omega) _⟩ (fun hHeld=>?_);clear hK K_
  (try simp only [pS])
  refine tV 4 ?_
  (try simp only [pS])
  refine wpAnyH_done Bl ?_ _;refine NoPanic.normal ?_;clear hHeld;clear RES_;clear rf;go_wp2;refine Aj (Jq (DBox.row4 RES rfl _ _ _ _)) rfl ⟨(⟨B1,m1,e1⟩,⟨B2,m2,e2⟩),F,by rw [H.out,H2.out],by rw [H2.out];exact (by (repeat (refine Dt.ow_set Bu ?_ en1 _));exact (show Bu.ow _ F y (⟨B1,m1,e1⟩,⟨B2,m2,e2⟩) from oy)),fun x hx=>by have:=nF x hx;omega,?_⟩;repeat (first | (with_reducible exact B0) | refine Ad ?_ Bn _)
 have q3:(Cr p != 0)=false:=by simp [p3]
 have P3:=Bp p3;clear p3;go_wp2_with fail
 refine (CR.out _ B0 sK Bk).mono ?_;rintro e1 w6 ⟨rfl,b6⟩;clear X_;clear P_;clear OB_;replace X:=X.below b6;replace P:=P.below b6;replace OB:=OB.below b6;replace RES:=RES.below b6;replace oy:Bu.ow w6 F y (⟨B1,m1,e1⟩,⟨B2,m2,e2⟩):=owB oy b6;replace oS:=oS.below b6;replace oR:=oR.below b6;replace B0:=Bs B0 b6;replace eM:=Ah eM b6.size;clear b6;have X_:=X.g4;have P_:=P.g5;have OB_:=OB.g4;cases p4:M8 y p;case false =>
  have H:=Bp (show Mu y id p=7 by unfold Mu;rw [if_neg (fun h=>h P0.out),if_neg (by rw [P1.out];simp),if_neg (by have:=P2.out;omega),if_neg (fun h=>h P3.out),if_pos p4]);have H2:=Bp (show Mg y id p=y by unfold Mg;rw [H.out,if_neg Bo]);have RES_:=RES.g4;have rf:=RES.free;go_wp2;have en1:w.heap.size+1+1∉F:=fun hx=>by have:=nF _ hx;omega
  refine Aj (Jq (DBox.row4 RES rfl _ _ _ _)) rfl ⟨(⟨B1,m1,e1⟩,⟨B2,m2,e2⟩),F,by rw [H.out,H2.out],by rw [H2.out];exact (by (repeat (refine Dt.ow_set Bu ?_ en1 _));exact (show Bu.ow _ F y (⟨B1,m1,e1⟩,⟨B2,m2,e2⟩) from oy)),fun x hx=>by have:=nF x hx;omega,?_⟩;repeat (first | (with_reducible exact B0) | refine Ad ?_ Bn _)
 have H:=Bp (show Mu y id p=0 by unfold Mu;rw [if_neg (fun h=>h P0.out),if_neg (by rw [P1.out];simp),if_neg (by have:=P2.out;omega),if_neg (fun h=>h P3.out),if_neg (by rw [p4];simp)]);have H2:=Bp (show Mg y id p=Qk ⟨y.now,y.seq,y.shelf,y.runs ++ [Cl id p]⟩ Ez (Cl id p) by unfold Mg;rw [if_pos H.out]);have hr8:=Bp (show y.runs.length<8 by
  unfold M8 at p4;simp only [Bool.and_eq_true,decide_eq_true_eq] at p4;exact p4.1)
 clear sK;go_wp2_with fail
 refine (CN.out _ B0 P1.out P3.out).mono ?_;rintro e1 w7 ⟨sr,Fr,rfl,orn,nr,b7⟩;have qU:=Bp (show (Cl id p).tasks.length<=12 by have h1:=Hb id p;have h2:=Ee (C8.1 P3.out).1;omega);have nD:=B0.size;have hobw6:=OB.lt;have jM:∀ x∈Fr,w6<=x:=nr;clear nr;clear X_;clear P_;clear OB_;clear X P;replace OB:=OB.below b7;replace RES:=RES.below b7;replace oS:=oS.below b7;have B7:=Bs B0 b7;have b7s:=b7.size;have XB:=DBox.new 89 [.int .i64 (Cl id p).id,.int .i64 (Cl id p).plan.prio,.int .i64 (Cl id p).plan.most,.int .i64 (Cl id p).plan.wait,.int .i64 (Cl id p).plan.tasks,.slice sr.1.a sr.1.n sr.1.c,.int .i64 (Cl id p).state,.slice sr.2.a sr.2.n sr.2.c] w7 (b:=w7.heap.size) rfl;have b8:Below w7 w7 (w7.alloc (.cells #[.int .i64 (Cl id p).id,.int .i64 (Cl id p).plan.prio,.int .i64 (Cl id p).plan.most,.int .i64 (Cl id p).plan.wait,.int .i64 (Cl id p).plan.tasks,.slice sr.1.a sr.1.n sr.1.c,.int .i64 (Cl id p).state,.slice sr.2.a sr.2.n sr.2.c] 89)):=(Bq _ _).alloc (Br _) _;go_upto_region 13 with fail
 replace OB:=OB.below b8;replace RES:=RES.below b8;replace oS:=oS.below b8;replace B7:=Bs B7 b8;have b78:=Bs b7 b8;have orn8:=Co.ow_below (F:=Fr) (x:=Cl id p) (s:=sr) orn b8;have eW:=XB.lt;generalize w7.alloc (.cells #[.int .i64 (Cl id p).id,.int .i64 (Cl id p).plan.prio,.int .i64 (Cl id p).plan.most,.int .i64 (Cl id p).plan.wait,.int .i64 (Cl id p).plan.tasks,.slice sr.1.a sr.1.n sr.1.c,.int .i64 (Cl id p).state,.slice sr.2.a sr.2.n sr.2.c] 89)=w8 at *
 generalize dZ:w7.heap.size=xb at *
 have cA:=Bp (show rs.length=y.runs.length by have:=congrArg List.length hm.out;simpa using this);have hrl8:=Bp (show rs.length<=3000000 by have:=hr8.out;have:=cA.out;omega);have hO:=oR.1;have hO8:=hO.below b78;obtain ⟨A5_,c5_,mP,-⟩:=_root_.id (Rd.of_own hO);have hv6:=mP;simp only [Sl.v,Value.slice.injEq] at hv6;obtain ⟨rfl,rfl,rfl⟩:=hv6;clear mP;have OB_:=OB.g4;have XB_:=XB.g8;have obf:=OB.free;have hwi:∀ g,(Value.slice B2 rs.length e2).ownBlock=Ac g->base<=g/\g<w6.heap.size:=fun g hg=>hO.within _ hg;have hneo:∀ g,(Value.slice B2 rs.length e2).ownBlock=Ac g->g≠ob:=fun g hg=>hoB g hg;have ha:=Bp (show ∀ w:World,Below w w (w.alloc (.cells #[.int .i64 (Cl id p).id,.int .i64 (Cl id p).plan.prio,.int .i64 (Cl id p).plan.most,.int .i64 (Cl id p).plan.wait,.int .i64 (Cl id p).plan.tasks,.slice sr.1.a sr.1.n sr.1.c,.int .i64 (Cl id p).state,.slice sr.2.a sr.2.n sr.2.c] 89)) from fun w=>(Bq _ _).alloc (Br _) _);have pN:=Bp hneo;have kU:=Bp hwi;clear hneo hwi hoB;have hbx:base<=w8.heap.size:=Bk;go_upto_region 14 with (at_builtin;go_loud (refine Bz _ Co.enc Bo rfl (.tmp 49) (.tmp 51) rfl Tryz.underlying29 bS jz0 jz1 jz2 rfl (base:=base) (v:=.slice B2 rs.length e2) (l:=rs) rfl (hO8.below (ha.out w8)) rfl (Rd.one Co.enc _ _ (Cl id p,sr) rfl rfl 1 (Br _) (Nat.lt_succ_self _)) hrl8.out Bm Bo (by simp;omega) ?_);intro v9 w9 o9 g9 f9;obtain ⟨A9,c9,rfl,-⟩:=_root_.id (Rd.of_own o9);simp only [A0,List.length_singleton] at o9 f9;have OB9:=(OB.below (ha.out w8)).off g9 (fun e=>(pN.out _ e.symm) rfl);have q3:=OB9.cell 3 _ rfl;have qf:=OB9.free;have ql:=OB9.lt)
 have hP:=oR.push1 b78 orn8 jM eM (ha.out w8) o9 g9 f9;have hPo:=hP.owl (l:=y.runs ++ [Cl id p]) (by rw [List.map_append,hm.out];rfl);have g9s:=g9.size;simp only [Bi] at g9s;have mN:∀ x∈Eh (.slice A9 (rs.length+1) c9) (rs ++ [(Cl id p,sr)]).length ++ (G0 ++ Fr),x≠ob/\base<=x:=fun x hx=>by
  rcases Bh.1 hx with hx | hx
  ·have h1:=H6 _ _ _ hx;refine ⟨?_,(o9.within x h1).1⟩;rcases f9 with h2 | h2
   ·rw [h2] at h1;exact pN.out _ h1
   ·rw [h2] at h1
    have:=Option.some.inj h1
    simp only [Bi] at this;omega
  ·rcases Bh.1 hx with hx | hx
   ·exact ⟨by have:=hG0 x hx;omega,(oR.2.2.2 x hx).1⟩
   ·exact ⟨by have:=jM x hx;omega,by have:=jM x hx;omega⟩
 generalize Eh (.slice A9 (rs.length+1) c9) (rs ++ [(Cl id p,sr)]).length ++ (G0 ++ Fr)=F2 at *
 have XB9:=(XB.below (ha.out w8)).off g9 (fun e=>by have h1:=(kU.out _ e.symm).2;omega);have RES9:=(RES.below (ha.out w8)).off g9 (fun e=>by have h1:base<=w.heap.size+1+1:=(kU.out _ e.symm).1;omega);have oS9:=(oS.below (ha.out w8)).grown g9 (fun b hb e=>by have h1:=(kU.out b e).1;have h2:=(pQ b hb).2;omega);have orn9:=Co.ow_keep (Co.ow_below (F:=Fr) (x:=Cl id p) (s:=sr) orn8 (ha.out w8)) g9.size (fun b cN=>g9.block b (Co.ow_lt (F:=Fr) (x:=Cl id p) (s:=sr) (Co.ow_below (F:=Fr) (x:=Cl id p) (s:=sr) orn8 (ha.out w8)) b cN) (fun e=>by have h1:=(kU.out _ e.symm).2;have h2:=jM b cN;omega));have B9:Below w w w9:=(Bs B7 (ha.out w8)).grown g9 (Bs B7 (ha.out w8)).size (fun g hg=>by have h1:=(kU.out g hg).1;omega);have hobn:w<=ob:=Bk;have OB10:DBox ob [.int .i64 y.now,.int .i64 y.seq,.slice B1 m1 e1,.slice A9 (rs.length+1) c9] (w9.setCell ⟨ob,3,Ab⟩ (.slice A9 (rs.length+1) c9)):=OB9.set 3 Bm _;have XB10:=XB9.setOther (a:=⟨ob,3,Ab⟩) (by show xb≠ob;omega) (.slice A9 (rs.length+1) c9);have RES10:=RES9.setOther (a:=⟨ob,3,Ab⟩) (by show w.heap.size+1+1≠ob;omega) (.slice A9 (rs.length+1) c9);have oS10:=oS9.set (a:=⟨ob,3,Ab⟩) (fun hx=>by have h1:_/\ob<base:=pQ _ hx;omega) (.slice A9 (rs.length+1) c9);have oR10:=hPo.set (a:=⟨ob,3,Ab⟩) (fun hx=>(mN _ hx).1 rfl) (.slice A9 (rs.length+1) c9);have orn10:=Co.ow_set (F:=Fr) (x:=Cl id p) (s:=sr) orn9 (a:=⟨ob,3,Ab⟩) (fun hx=>by have h1:w6<=ob:=jM _ hx;omega) (.slice A9 (rs.length+1) c9);have B10:Below w w (w9.setCell ⟨ob,3,Ab⟩ (.slice A9 (rs.length+1) c9)):=Ad B9 (by show w.heap.size<=ob;omega) _;clear OB9 XB9 RES9 oS9 orn9 B9 hPo hP XB RES oS B7 OB o9 g9 f9 q3 qf ql orn8 hO hO8 oR obf pN;clear OB_;clear XB_;generalize w9.setCell ⟨ob,3,Ab⟩ (.slice A9 (rs.length+1) c9)=w10 at *
 have OB10_:=OB10.g4;have XB10_:=XB10.g8;obtain rfl:m1=y.shelf.length:=RdL.at1 (s:=⟨B1,m1,e1⟩) oS10.rd;obtain ⟨g,o,_,rfl,gV,_,_⟩:=RdL.entryS (show RdL (Dt.list Cg) w10 w10.heap.size (.slice B1 y.shelf.length e1) y.shelf from oS10.rd) (k:=0) (by have:=h4.out;omega);have fJ:g∈F1:=OwL.block_mem (show OwL (Dt.list Cg) w10 F1 (.slice (Ac ⟨g,o,Ab⟩) y.shelf.length e1) y.shelf from oS10) (by have:=h4.out;omega);have hgb:=pQ g fJ;have hRlt:=oR10.lt;have bK:=Bp (show ∀ x,x∈[g]->x=g from fun x hx=>by simpa using hx);have CL:=Bp (Si ⟨y.now,y.seq,y.shelf,y.runs ++ [Cl id p]⟩ g o e1 ⟨A9,rs.length+1,c9⟩ Ez (⟨Ab,0,0⟩,⟨Ab,0,0⟩) (Cl id p) sr w10 F1 h4.out (fun s hs=>by have:=(eA.out s hs).1;omega) (by dsimp only;omega) (by have:=qU.out;omega) (by show ([]:List Task).length<=1000;simp) oS10 (Bp fun W hW=>(Co.ow_rd (Co.ow_chg (F:=Fr) (x:=Cl id p) (s:=sr) orn10 hW (fun x hx h=>by have h1:=bK.out x h;have h2:=jM x hx;omega))).2) (Bp fun W hW=>Afk _ _ _ _));have fL:=Bp (show (Qk ⟨y.now,y.seq,y.shelf,y.runs ++ [Cl id p]⟩ Ez (Cl id p)).runs=y.runs ++ [Cl id p] from (Rm (y:=⟨y.now,y.seq,y.shelf,y.runs ++ [Cl id p]⟩) (was:=Ez) (r:=Cl id p) (M:=80) (fun s hs=>(eA.out s hs).1) (Cl id p).tasks.length).runs);generalize Qk ⟨y.now,y.seq,y.shelf,y.runs ++ [Cl id p]⟩ Ez (Cl id p)=Z at *
 go_wp2_with fail
 refine CL.out.mono ?_;rintro e w11 ⟨F1',rfl,q1,q2,q3⟩;have hs11:=q3.size;have RES11:=RES10.chg q3 (fun hx=>by have:=bK.out _ hx;omega);have oR11:=oR10.chg q3 (fun x hx h=>by have h1:=bK.out x h;have h2:=(mN x hx).2;omega);have B11:=B10.trans (q3.below (by have:=B10.size;omega) (fun x hx=>by have:=bK.out _ hx;omega));clear OB10_;clear XB10_;clear OB10 XB10 RES10;obtain ⟨RES11_0,RES11_1,RES11_2,RES11_3,RES11_l⟩:=RES11.g4;have rf:=RES11.free;go_wp2;have en1:w.heap.size+1+1∉F1':=fun hx=>by
  rcases q2 _ hx with h | h
  ·have:=(pQ _ h).1;omega
  ·have:=RES11_l;have:=B10.size;omega
 have en2:w.heap.size+1+1∉F2:=fun hx=>by have:=(mN _ hx).2;omega
 refine Aj (Jq (DBox.row4 RES11 rfl _ _ _ _)) rfl ⟨(⟨Ac ⟨g,o,Ab⟩,y.shelf.length,e1⟩,⟨A9,rs.length+1,c9⟩),F1' ++ F2,by rw [H.out,H2.out],⟨F1',F2,rfl,?_,?_,?_⟩,fun x hx=>?_,?_⟩
 ·rw [Ax];refine ⟨q1.nodup,oR11.nodup,fun a ha b hb e=>?_⟩;subst e;have h3:=mN a hb;have h4:=hRlt a hb;rcases q2 a ha with h | h
  ·have:=(pQ a h).2;omega
  ·omega
 ·rw [H2.out];show OwL (Dt.list Cg) _ F1' (.slice (Ac ⟨g,o,Ab⟩) y.shelf.length e1) Z.shelf;exact ((((q1.set (a:=⟨_,_,Ab⟩) en1 _).set (a:=⟨_,_,Ab⟩) en1 _).set (a:=⟨_,_,Ab⟩) en1 _).set (a:=⟨_,_,Ab⟩) en1 _)
 ·rw [H2.out];show OwL Co _ F2 (.slice A9 (rs.length+1) c9) Z.runs;rw [fL.out];exact ((((oR11.set (a:=⟨_,_,Ab⟩) en2 _).set (a:=⟨_,_,Ab⟩) en2 _).set (a:=⟨_,_,Ab⟩) en2 _).set (a:=⟨_,_,Ab⟩) en2 _)
 ·rcases Bh.1 hx with hx | hx
  ·rcases q2 x hx with h | h
   ·have:=(pQ x h).1;omega
   ·have:=B10.size;omega
  ·have:=(mN x hx).2;omega
 ·repeat (first | (with_reducible exact B11) | refine Ad ?_ Bn _)
end
section
open Classical in
noncomputable def K6 (y:Yard) (id:Int):Int :=
 if ¬ Dn y then 8 else if Dh y id<0 then 10 else if ¬ (Ip y id).state=1 then 12 else 0
noncomputable def Ka (y:Yard) (id:Int):Yard:=if K6 y id=0 then ⟨y.now,y.seq,y.shelf,y.runs.set (Dh y id).toNat (Dp (Ip y id) 4)⟩ else y
theorem Mv {b:Nat} {w:World} {u0 u1 u2 u3:Value} (X:DBox b [u0,u1,u2,u3] w) {v0 v1 v2 v3 v5:Value} {rest:List Value} :
  (results Tryz.f148 (v0 :: v1 :: v2 :: v3 :: .pointer (Ac ⟨b,0,Ab⟩) :: v5 :: rest).toArray).run An w = .ok (.tuple #[.agg #[u0,u1,u2,u3],v5]) w:=by
 have c0:=X.cell 0 _ rfl;have c1:=X.cell 1 _ rfl;have c2:=X.cell 2 _ rfl;have c3:=X.cell 3 _ rfl;simp [results,Tryz.results148,go_sem,c0,c1,c2,c3]
theorem Vu (y:Yard) (s:Sl×Sl) (id:Int) (w:World) (hl:Ci y<=2000000) (h:Bu.rd w w y s) :
  Calls An 148 #[Du y s,J U id] w (Ma (Ka y id) (K6 y id) w):=by
 have HR:=Bp (show ∀ W,Below w w W->Bu.rd W W y s from fun W hW=>Bu.rd_more (Bu.rd_below h hW) hW.size);obtain ⟨⟨A1,n1,c1⟩,⟨A2,n2,c2⟩⟩:=s;have CC:=Bp (fun W hW=>Er y (⟨A1,n1,c1⟩,⟨A2,n2,c2⟩) W hl (HR.out W hW));have CY:=Bp (fun W hW=>Gj y (⟨A1,n1,c1⟩,⟨A2,n2,c2⟩) W hl (HR.out W hW));have CA:=Bp (fun W hW=>Ew y (⟨A1,n1,c1⟩,⟨A2,n2,c2⟩) id W hl (HR.out W hW));have CX:=Bp (fun W hW=>show RdL Co W W.heap.size (Aa A2 n2 c2) y.runs from (HR.out W hW).2);clear h HR;obtain ⟨W,aH,X,RES,B0⟩:=bx2 w 31 [J U y.now,J U y.seq,Aa A1 n1 c1,Aa A2 n2 c2] 31 [J U 0,J U 0,Aa Ab 0 0,Aa Ab 0 0];go_enter Tryz.func148,Tryz.ntmps148;go_wp2_with fail
 rw [<-aH.out];clear aH;have jQ:w.heap.size+1<W.heap.size:=RES.lt;refine (CC.out _ B0).mono ?_;rintro e1 w1 ⟨⟨⟨B1,m1,e1⟩,⟨B2,m2,e2⟩⟩,F,rfl,oy,nF,b1⟩;have bL:=b1.size;have cL:=Bu.ow_lt (F:=F) (x:=y) (s:=(⟨B1,m1,e1⟩,⟨B2,m2,e2⟩)) oy;replace X:=X.below b1;replace RES:=RES.below b1;replace B0:=Bs B0 b1;clear b1;go_upto_region 2 with fail
 have OB:=DBox.new 31 [J U y.now,J U y.seq,Aa B1 m1 e1,Aa B2 m2 e2] w1 (b:=w1.heap.size) rfl;have b2:Below w1 w1 (w1.alloc (.cells #[J U y.now,J U y.seq,Aa B1 m1 e1,Aa B2 m2 e2] 31)):=(Bq _ _).alloc (Br _) _;replace X:=X.below b2;replace RES:=RES.below b2;replace oy:=Bu.ow_below (F:=F) (x:=y) (s:=(⟨B1,m1,e1⟩,⟨B2,m2,e2⟩)) oy b2;replace B0:=Bs B0 b2;have ow1:=OB.lt;clear b2;generalize w1.alloc (.cells #[J U y.now,J U y.seq,Aa B1 m1 e1,Aa B2 m2 e2] 31)=w2 at *
 generalize dQ:w1.heap.size=ob at *
 have X_:=X.g4;obtain ⟨OB_0,OB_1,OB_2,OB_3,OB_l⟩:=OB.g4;go_wp2_with fail
 refine (CA.out _ B0).mono ?_;rintro e1 w3 ⟨rfl,b3⟩;clear X_;clear OB_0 OB_1 OB_2 OB_3 OB_l;replace X:=X.below b3;replace OB:=OB.below b3;replace RES:=RES.below b3;replace oy:Bu.ow w3 F y (⟨B1,m1,e1⟩,⟨B2,m2,e2⟩):=owB oy b3;replace B0:=Bs B0 b3;clear b3;have X_:=X.g4;obtain ⟨OB_0,OB_1,OB_2,OB_3,OB_l⟩:=OB.g4;go_wp2_with fail
 refine (CY.out _ B0).mono ?_;rintro e1 w4 ⟨rfl,b4⟩;clear X_;clear OB_0 OB_1 OB_2 OB_3 OB_l;replace X:=X.below b4;replace OB:=OB.below b4;replace RES:=RES.below b4;replace oy:Bu.ow w4 F y (⟨B1,m1,e1⟩,⟨B2,m2,e2⟩):=owB oy b4;replace B0:=Bs B0 b4;clear b4;have X_:=X.g4;obtain ⟨OB_0,OB_1,OB_2,OB_3,OB_l⟩:=OB.g4;by_cases p0:Dn y;case neg =>
  rw [Ck p0];have H:=Bp (show K6 y id=8 by unfold K6;rw [if_pos p0]);have H2:=Bp (show Ka y id=y by unfold Ka;rw [H.out,if_neg Bo]);have RES_:=RES.g4;have rf:=RES.free;go_wp2;have en1:w.heap.size+1∉F:=fun hx=>by have:=nF _ hx;omega
  refine Aj (Mv (DBox.row4 RES rfl _ _ _ _)) rfl ⟨(⟨B1,m1,e1⟩,⟨B2,m2,e2⟩),F,by rw [H.out,H2.out],by rw [H2.out];exact (by (repeat (refine Dt.ow_set Bu ?_ en1 _));exact (show Bu.ow _ F y (⟨B1,m1,e1⟩,⟨B2,m2,e2⟩) from oy)),fun x hx=>by have:=nF x hx;omega,?_⟩;repeat (first | (with_reducible exact B0) | refine Ad ?_ Bn _)
 rw [D6 p0];have P0:=Bp p0;clear p0;by_cases p1:Dh y id<0;case pos =>
  have H:=Bp (show K6 y id=10 by unfold K6;rw [if_neg (fun h=>h P0.out),if_pos p1]);have H2:=Bp (show Ka y id=y by unfold Ka;rw [H.out,if_neg Bo]);have RES_:=RES.g4;have rf:=RES.free;go_wp2;have en1:w.heap.size+1∉F:=fun hx=>by have:=nF _ hx;omega
  refine Aj (Mv (DBox.row4 RES rfl _ _ _ _)) rfl ⟨(⟨B1,m1,e1⟩,⟨B2,m2,e2⟩),F,by rw [H.out,H2.out],by rw [H2.out];exact (by (repeat (refine Dt.ow_set Bu ?_ en1 _));exact (show Bu.ow _ F y (⟨B1,m1,e1⟩,⟨B2,m2,e2⟩) from oy)),fun x hx=>by have:=nF x hx;omega,?_⟩;repeat (first | (with_reducible exact B0) | refine Ad ?_ Bn _)
 rcases Eu y id with hr | ⟨k,hk,hr⟩
 ·exact absurd hr Bk
 have HK:=Bp (Gq hk hr);have HR2:=Bp hr;rw [hr];clear hr p1;have P1:=Bp (show ¬ Dh y id<0 by have:=HR2.out;omega);have eC:(k:Int)<(n2:Int):=by have:=RdL.at1 (s:=⟨A2,n2,c2⟩) (CX.out _ B0);dsimp only at this;omega
 have cS:(0:Int)<=(k:Int):=Bk;have hkn:¬ (k:Int)<0:=Bk;have bH:=Bp (E0 P0.out hk);obtain ⟨gx,ox,_,rfl,nP,_,c0,c1_,c2_,c3_,c4_,c5_,c6,c7_⟩:=(CX.out _ B0).run hk;clear c0 c1_ c2_ c3_ c4_ c5_ c7_;by_cases p2:y.runs[k].state=1;case neg =>
  have q2:(y.runs[k].state != 1)=true:=by simp [p2]
  have H:=Bp (show K6 y id=12 by unfold K6;rw [if_neg (fun h=>h P0.out),if_neg P1.out,if_pos (by rw [HK.out];exact p2)]);clear p2;have H2:=Bp (show Ka y id=y by unfold Ka;rw [H.out,if_neg Bo]);have RES_:=RES.g4;have rf:=RES.free;go_wp2;have en1:w.heap.size+1∉F:=fun hx=>by have:=nF _ hx;omega
  refine Aj (Mv (DBox.row4 RES rfl _ _ _ _)) rfl ⟨(⟨B1,m1,e1⟩,⟨B2,m2,e2⟩),F,by rw [H.out,H2.out],by rw [H2.out];exact (by (repeat (refine Dt.ow_set Bu ?_ en1 _));exact (show Bu.ow _ F y (⟨B1,m1,e1⟩,⟨B2,m2,e2⟩) from oy)),fun x hx=>by have:=nF x hx;omega,?_⟩;repeat (first | (with_reducible exact B0) | refine Ad ?_ Bn _)
 have q2:(y.runs[k].state != 1)=false:=by simp [p2]
 have H:=Bp (show K6 y id=0 by unfold K6;rw [if_neg (fun h=>h P0.out),if_neg P1.out,if_neg (by rw [HK.out];exact fun h=>h p2)]);have H2:=Bp (show Ka y id=⟨y.now,y.seq,y.shelf,y.runs.set k (Dp y.runs[k] 4)⟩ by unfold Ka;rw [if_pos H.out,HK.out,HR2.out,Ap]);have P2:=Bp p2;clear p2;go_upto_region 9 with fail
 have oyr:=(Bu.ow_rd (F:=F) (x:=y) (s:=(⟨B1,m1,e1⟩,⟨B2,m2,e2⟩)) oy).2;have eN:=Bp (show m2=y.runs.length from RdL.at1 (s:=⟨B2,m2,e2⟩) oyr);have gF:(k:Int)<(m2:Int):=by have:=eN.out;omega
 obtain ⟨gr,orr,sk,rfl,cC,bP,d0,d1,d2,d3,d4,d5,d6,d7⟩:=RdL.run (show RdL Co w4 w4.heap.size (Aa B2 m2 e2) y.runs from oyr) hk;have kQ:∀ i,w4.frozen? ⟨gr,i,Ab⟩=false:=by
  obtain ⟨G1,G2,_,_,_,os⟩:=oy;exact OwL.free0 (show OwL Co w4 G2 (Aa (Ac ⟨gr,orr,Ab⟩) m2 e2) y.runs from os) Bk
 clear X_;clear X c6 q2;generalize mV:y.runs[k]=r at *
 have CSt:=Bp (Yk r sk w4.drew (by have:=Kp bH.out;omega) bH.out P2.out (by have:=Fo bH.out;omega) (Co.rd_below bP (Bq _ _).drew));have hobw5:ob<w4:=OB.lt;clear bP oyr mV;go_wp2;refine Dj (fun w'=>w'.cell? ⟨ob,3,Ab⟩=Ac (Aa (Ac ⟨gr,orr,Ab⟩) m2 e2)/\w'.cell? ⟨gr,orr+k * 8,Ab⟩=Ac (J U r.id)/\w'.cell? ⟨gr,orr+k * 8+1,Ab⟩=Ac (J U r.plan.prio)/\w'.cell? ⟨gr,orr+k * 8+2,Ab⟩=Ac (J U r.plan.most)/\w'.cell? ⟨gr,orr+k * 8+3,Ab⟩=Ac (J U r.plan.wait)/\w'.cell? ⟨gr,orr+k * 8+4,Ab⟩=Ac (J U r.plan.tasks)/\w'.cell? ⟨gr,orr+k * 8+5,Ab⟩=Ac (Aa sk.1.a sk.1.n sk.1.c)/\w'.cell? ⟨gr,orr+k * 8+6,Ab⟩=Ac (J U r.state)/\w'.cell? ⟨gr,orr+k * 8+7,Ab⟩=Ac (Aa sk.2.a sk.2.n sk.2.c)) 10 Bl ?_ (fun hHeld=>?_)
 ·exact ⟨OB_3,d0,d1,d2,d3,d4,d5,d6,d7⟩
 refine aT 0 hHeld ?_;try simp only [pS]
 refine aT 1 hHeld ?_;try simp only [pS]
 refine aT 2 hHeld ?_;try simp only [pS]
 refine aT 3 hHeld ?_;try simp only [pS]
 refine aT 4 hHeld ?_;try simp only [pS]
 refine aT 5 hHeld ?_;try simp only [pS]
 refine aT 6 hHeld ?_;try simp only [pS]
 refine aT 7 hHeld ?_;try simp only [pS]
 refine oT 8 (fun K hK=>?_)
 (go_simp;refine CSt.out.mono ?_;rintro e9 w6 ⟨sr,Fr,rfl,orn,nr,b6⟩;have q0:w6.cell? ⟨gr,orr+k * 8,Ab⟩=Ac (J U r.id):=(b6.cell (p:=⟨_,_,Ab⟩) (by show gr<w4;omega)).trans d0;have q1:w6.cell? ⟨gr,orr+k * 8+1,Ab⟩=Ac (J U r.plan.prio):=(b6.cell (p:=⟨_,_,Ab⟩) (by show gr<w4;omega)).trans d1;have q2:w6.cell? ⟨gr,orr+k * 8+2,Ab⟩=Ac (J U r.plan.most):=(b6.cell (p:=⟨_,_,Ab⟩) (by show gr<w4;omega)).trans d2;have q3:w6.cell? ⟨gr,orr+k * 8+3,Ab⟩=Ac (J U r.plan.wait):=(b6.cell (p:=⟨_,_,Ab⟩) (by show gr<w4;omega)).trans d3;have q4:w6.cell? ⟨gr,orr+k * 8+4,Ab⟩=Ac (J U r.plan.tasks):=(b6.cell (p:=⟨_,_,Ab⟩) (by show gr<w4;omega)).trans d4;have q5:w6.cell? ⟨gr,orr+k * 8+5,Ab⟩=Ac (Aa sk.1.a sk.1.n sk.1.c):=(b6.cell (p:=⟨_,_,Ab⟩) (by show gr<w4;omega)).trans d5;have q6:w6.cell? ⟨gr,orr+k * 8+6,Ab⟩=Ac (J U r.state):=(b6.cell (p:=⟨_,_,Ab⟩) (by show gr<w4;omega)).trans d6;have q7:w6.cell? ⟨gr,orr+k * 8+7,Ab⟩=Ac (Aa sk.2.a sk.2.n sk.2.c):=(b6.cell (p:=⟨_,_,Ab⟩) (by show gr<w4;omega)).trans d7;have qf:∀ j,w6.frozen? ⟨gr,j,Ab⟩=false:=fun j=>(b6.frozen (p:=⟨_,_,Ab⟩) (by show gr<w4;omega)).trans (kQ j))
 refine hK.out _ _ (fun _=>?_) ?_
 ·exact ⟨(b6.cell (p:=⟨_,_,Ab⟩) (by show ob<w4;omega)).trans OB_3,(b6.cell (p:=⟨_,_,Ab⟩) (by show gr<w4;omega)).trans d0,(b6.cell (p:=⟨_,_,Ab⟩) (by show gr<w4;omega)).trans d1,(b6.cell (p:=⟨_,_,Ab⟩) (by show gr<w4;omega)).trans d2,(b6.cell (p:=⟨_,_,Ab⟩) (by show gr<w4;omega)).trans d3,(b6.cell (p:=⟨_,_,Ab⟩) (by show gr<w4;omega)).trans d4,(b6.cell (p:=⟨_,_,Ab⟩) (by show gr<w4;omega)).trans d5,(b6.cell (p:=⟨_,_,Ab⟩) (by show gr<w4;omega)).trans d6,(b6.cell (p:=⟨_,_,Ab⟩) (by show gr<w4;omega)).trans d7⟩
 clear hK K;try simp only [pS]
 refine oT 9 (fun K hK=>?_);go_simp;refine hK.out _ _ (fun _=>?_) ?_
 ·exact ⟨(b6.cell (p:=⟨_,_,Ab⟩) (by show ob<w4;omega)).trans OB_3,(b6.cell (p:=⟨_,_,Ab⟩) (by show gr<w4;omega)).trans d0,(b6.cell (p:=⟨_,_,Ab⟩) (by show gr<w4;omega)).trans d1,(b6.cell (p:=⟨_,_,Ab⟩) (by show gr<w4;omega)).trans d2,(b6.cell (p:=⟨_,_,Ab⟩) (by show gr<w4;omega)).trans d3,(b6.cell (p:=⟨_,_,Ab⟩) (by show gr<w4;omega)).trans d4,(b6.cell (p:=⟨_,_,Ab⟩) (by show gr<w4;omega)).trans d5,(b6.cell (p:=⟨_,_,Ab⟩) (by show gr<w4;omega)).trans d6,(b6.cell (p:=⟨_,_,Ab⟩) (by show gr<w4;omega)).trans d7⟩
 clear hK K;try simp only [pS]
 refine oT 10 (fun K hK=>?_);go_simp;refine hK.out _ _ (fun aC=>absurd rfl aC) ?_;clear hK K;try simp only [pS]
 refine Ec Bl ?_ _;have b6':Below w4 w4 w6:=Bs (Bq _ _).drew b6;have nD:=b6'.size;have jY:=B0.size;have qN:∀ x∈Fr,w4<=x:=nr;have jN:∀ x∈F,x<w4:=Bu.ow_lt (F:=F) (x:=y) (s:=(⟨B1,m1,e1⟩,⟨Ac ⟨gr,orr,Ab⟩,m2,e2⟩)) oy;have oy6:Bu.ow w6 F y (⟨B1,m1,e1⟩,⟨Ac ⟨gr,orr,Ab⟩,m2,e2⟩):=owB oy b6';obtain ⟨F8,oy8,kF,fS⟩:=So oy6 (k:=k) hk (r:=Dp r 4) (sr:=sr) orn (fun x hx bF=>by have h1:=qN x hx;have h2:=jN x bF;omega);have mB:Chg [gr] w6 ((((((((w6.setCell ⟨gr,orr+k * 8,Ab⟩ (J U (Dp r 4).id)).setCell ⟨gr,orr+k * 8+1,Ab⟩ (J U (Dp r 4).plan.prio)).setCell ⟨gr,orr+k * 8+2,Ab⟩ (J U (Dp r 4).plan.most)).setCell ⟨gr,orr+k * 8+3,Ab⟩ (J U (Dp r 4).plan.wait)).setCell ⟨gr,orr+k * 8+4,Ab⟩ (J U (Dp r 4).plan.tasks)).setCell ⟨gr,orr+k * 8+5,Ab⟩ (Aa sr.1.a sr.1.n sr.1.c)).setCell ⟨gr,orr+k * 8+6,Ab⟩ (J U (Dp r 4).state)).setCell ⟨gr,orr+k * 8+7,Ab⟩ (Aa sr.2.a sr.2.n sr.2.c)):=Fb (Co.enc.cells (Dp r 4,sr)) w6 gr (orr+k * 8);have nL:=Bp (show ∀ x,x∈[gr]->x=gr from fun x hx=>by simpa using hx);have hgrn:=nF gr fS;have hgrl:=cL gr fS;clear OB_0 OB_1 OB_2 OB_3 OB_l;replace OB:=(OB.below b6').chg mB (fun hx=>by have:=nL.out _ hx;omega);replace RES:=(RES.below b6').chg mB (fun hx=>by have:=nL.out _ hx;omega);replace B0:=(Bs B0 b6').trans (mB.below (by have:=(Bs B0 b6').size;omega) (fun x hx=>by have:=nL.out _ hx;omega));have en1:w.heap.size+1∉F8:=fun hx=>by
  rcases kF _ hx with h | h
  ·have:=nF _ h;omega
  ·have:=qN _ h;omega
 have mT:∀ x∈F8,w<=x:=fun x hx=>by
  rcases kF _ hx with h | h
  ·have:=nF _ h;omega
  ·have:=qN _ h;omega
 clear hHeld oy oy6 b6 b6' nr orn mB CSt d0 d1 d2 d3 d4 d5 d6 d7 kQ q0 q1 q2 q3 q4 q5 q6 q7 qf;generalize ((((((((w6.setCell ⟨gr,orr+k * 8,Ab⟩ (J U (Dp r 4).id)).setCell ⟨gr,orr+k * 8+1,Ab⟩ (J U (Dp r 4).plan.prio)).setCell ⟨gr,orr+k * 8+2,Ab⟩ (J U (Dp r 4).plan.most)).setCell ⟨gr,orr+k * 8+3,Ab⟩ (J U (Dp r 4).plan.wait)).setCell ⟨gr,orr+k * 8+4,Ab⟩ (J U (Dp r 4).plan.tasks)).setCell ⟨gr,orr+k * 8+5,Ab⟩ (Aa sr.1.a sr.1.n sr.1.c)).setCell ⟨gr,orr+k * 8+6,Ab⟩ (J U (Dp r 4).state)).setCell ⟨gr,orr+k * 8+7,Ab⟩ (Aa sr.2.a sr.2.n sr.2.c))=w8 at *
 obtain ⟨OB_0,OB_1,OB_2,OB_3,OB_l⟩:=OB.g4;have RES_:=RES.g4;have rf:=RES.free;go_wp2;refine Aj (Mv (DBox.row4 RES rfl _ _ _ _)) rfl ⟨(⟨B1,m1,e1⟩,⟨Ac ⟨gr,orr,Ab⟩,m2,e2⟩),F8,by rw [H.out,H2.out],by rw [H2.out];exact (by (repeat (refine Dt.ow_set Bu ?_ en1 _));exact (show Bu.ow _ F8 ⟨y.now,y.seq,y.shelf,y.runs.set k (Dp r 4)⟩ (⟨B1,m1,e1⟩,⟨Ac ⟨gr,orr,Ab⟩,m2,e2⟩) from oy8)),mT,?_⟩;repeat (first | (with_reducible exact B0) | refine Ad ?_ Bn _)
end
theorem Abu (l:List Int):l.flatMap Nc.cells=l.map (Value.int .i64):=by
 induction l with
 | nil=>rfl
 | cons a l ih=>rw [List.flatMap_cons,ih];rfl
theorem Ow.intsK (w:World) (E:TypeId) (l:List Int) {cs:Array Value} (qL:cs=(l.map (Value.int .i64)).toArray) {n g base:Nat} (hn:n=l.length) (hg:g=w) (hb:base<=w.heap.size) (hl:l.length<=1000) :
  Ow Nc E (w.alloc (.cells cs E)) base (Aa (Ac ⟨g,0,Ab⟩) n n) l:=by
 subst hn hg qL
 have:=World.ownsRow_lit (base:=base) (e:=E) (size:=Nc.sz) w (l.map (Value.int .i64)).toArray l.length hb (by simp [maxLen];omega) (by simp [Nc])
 unfold Ow;rw [Abu];exact this
theorem Adn:(An.info? 26).map (fun i=>(i.zero,i.size,i.bytes))=Ac (Ac (Aa Ab 0 0),1,24):=Bl
def Sp (y:Yard) (x:Task):Bool:=(x.state == 3) && decide (x.until_ - 1<=y.now)
def Gp (y:Yard) (k:Nat):Run:=y.runs.getD k Ez
theorem Fq {y:Yard} {k:Nat} (h:k<y.runs.length):Gp y k=y.runs[k]:=by unfold Gp;rw [List.getD_eq_getElem?_getD,List.getElem?_eq_getElem h];rfl
def Jg (y:Yard) (k n:Nat):List (Nat×Nat):=((List.range n).filter fun t=>Sp y (Bx (Gp y k) t)).map fun t=>(k,t)
def Gm (y:Yard) (k:Nat):List (Nat×Nat):=(List.range k).flatMap fun j=>Jg y j (Gp y j).tasks.length
def Ns (y:Yard) (p:Nat×Nat):List Int:=[(Gp y p.1).id,p.2,(Bx (Gp y p.1) p.2).try_]
theorem Abv (y:Yard) (k:Nat):Jg y k 0=[]:=rfl
theorem Ado {y:Yard} {k n:Nat} (h:Sp y (Bx (Gp y k) n)=true):Jg y k (n+1)=Jg y k n ++ [(k,n)]:=by
 unfold Jg;rw [List.range_succ,List.filter_append,List.map_append];simp [h]
theorem Aaj {y:Yard} {k n:Nat} (h:Sp y (Bx (Gp y k) n)=false):Jg y k (n+1)=Jg y k n:=by
 unfold Jg;rw [List.range_succ,List.filter_append,List.map_append];simp [h]
theorem Vv (y:Yard) (k:Nat):Gm y (k+1)=Gm y k ++ Jg y k (Gp y k).tasks.length:=by
 unfold Gm;rw [List.range_succ,List.flatMap_append];simp
theorem Xh (y:Yard) (k n:Nat):(Jg y k n).length<=n:=by
 unfold Jg;rw [Au];exact Ah (List.length_filter_le _ _) Bm
theorem Mh {y:Yard} (h:∀ j,(Gp y j).tasks.length<=12):∀ k,(Gm y k).length<=12 * k
 | 0=>by simp [Gm]
 | k+1=>by
  rw [Vv,A0];have h1:=Mh h k;have h2:=Xh y k (Gp y k).tasks.length;have h3:=h k;omega
theorem Qv {y:Yard} (h:Dn y) (j:Nat):(Gp y j).tasks.length<=12:=by
 by_cases q:j<y.runs.length
 ·rw [Fq q];exact (Fo (E0 h q)).2
 ·unfold Gp;rw [List.getD_eq_getElem?_getD,List.getElem?_eq_none Bk];simp [Ez]
theorem Abw {y:Yard} (h:Dn y) {k t:Nat} (hk:k<y.runs.length) (ht:t<y.runs[k].tasks.length) (hs:y.runs[k].tasks[t].state=3):y.now+1<=y.runs[k].tasks[t].until_/\y.runs[k].tasks[t].until_<=1000000000:=by
 have h1:=h.2.2.2.2.2.2.2.2.1 y.runs[k] (Aw hk) t ht;unfold On at h1;rw [Cn ht] at h1;have h2:=h1.2 hs;have h3:=(E0 h hk).2.2.2.1 t ht;unfold Gl Lh at h3;rw [Cn ht] at h3;have h4:=h3.2.2.2.1 hs;omega
theorem Ys (y:Yard) (s:Sl×Sl) (w:World) (hl:Ci y<=2000000) (hY:Dn y) (h:Bu.rd w w y s) :
  Calls An 213 #[Du y s] w (Fc (Dt.list (Dt.flats Nc)) slV ((Gm y y.runs.length).map (Ns y)) w):=by
 obtain ⟨⟨A1,n1,c1⟩,⟨A2,n2,c2⟩⟩:=s;obtain rfl:n2=y.runs.length:=RdL.at1 (s:=⟨A2,n2,c2⟩) h.2;have CX:=Bp (fun W (hW:Below w w W)=>show RdL Co W w.heap.size (.slice A2 y.runs.length c2) y.runs from (Bu.rd_below (x:=y) (s:=(⟨A1,n1,c1⟩,⟨A2,y.runs.length,c2⟩)) h hW).2);have hrl8:y.runs.length<=8:=hY.2.2.2.2.2.2.1;have HP:=Bp hY;clear h hY;obtain ⟨it,i0,z0,z1,z2⟩:=info_parts Adn;have X:=DBox.new 31 [.int .i64 y.now,.int .i64 y.seq,.slice A1 n1 c1,.slice A2 y.runs.length c2] w (b:=w.heap.size) rfl;have B0:Below w w (w.alloc (.cells #[.int .i64 y.now,.int .i64 y.seq,.slice A1 n1 c1,.slice A2 y.runs.length c2] 31)):=by repeat (first | exact Bq _ _ | refine Below.alloc ?_ Bn _)
 go_enter Tryz.func213,Tryz.ntmps213;go_wp2;have hWs:w.heap.size+1=(w.alloc (.cells #[.int .i64 y.now,.int .i64 y.seq,.slice A1 n1 c1,.slice A2 y.runs.length c2] 31)).heap.size:=Bm;have o0:=Ow.empty (Dt.flats Nc).enc 26 (w.alloc (.cells #[.int .i64 y.now,.int .i64 y.seq,.slice A1 n1 c1,.slice A2 y.runs.length c2] 31)) rfl;have b0:Below (w.alloc (.cells #[.int .i64 y.now,.int .i64 y.seq,.slice A1 n1 c1,.slice A2 y.runs.length c2] 31)) (w.alloc (.cells #[.int .i64 y.now,.int .i64 y.seq,.slice A1 n1 c1,.slice A2 y.runs.length c2] 31)) ((w.alloc (.cells #[.int .i64 y.now,.int .i64 y.seq,.slice A1 n1 c1,.slice A2 y.runs.length c2] 31)).alloc (.cells #[] 26)):=(Bq _ _).alloc (Br _) _;replace X:=X.below b0;replace B0:=Bs B0 b0;rw [<-hWs] at o0;go_loopw [3,4] (fun v i wr=>∃ k:Nat,k<=y.runs.length/\i = .int .i64 k/\Hid (Bls (Dt.flats Nc) 26 wr (w.heap.size+1) v ((Gm y k).map (Ns y)))/\DBox w [.int .i64 y.now,.int .i64 y.seq,.slice A1 n1 c1,.slice A2 y.runs.length c2] wr/\Below w w wr) (fun _ i _=>y.runs.length - (intOf i).toNat);case atStart=>exact ⟨0,Ag _,rfl,⟨[],rfl,Bld.of_empty o0⟩,X,B0⟩
 case round =>
  clear X B0 o0 b0 hWs;obtain ⟨k,hk,rfl,hB,X,hb⟩:=hrel;have X_:=X.g4;by_cases aA:k<y.runs.length
  ·have aB:(k:Int)<(y.runs.length:Int):=Bk;have cS:(0:Int)<=(k:Int):=Bk;go_wp2;go_loopw [3,5,6] (fun vv i u wr=>∃ (n:Nat) (v:Value),n<=y.runs[k].tasks.length/\i = .int .i64 n/\v=vv/\Hid (Bls (Dt.flats Nc) 26 wr (w.heap.size+1) v ((Gm y k ++ Jg y k n).map (Ns y)))/\DBox w [.int .i64 y.now,.int .i64 y.seq,.slice A1 n1 c1,.slice A2 y.runs.length c2] wr/\Below w w wr) (fun _ i _ _=>y.runs[k].tasks.length - (intOf i).toNat);case atStart=>exact ⟨0,_,Ag _,rfl,rfl,by rw [Abv,List.append_nil];exact hB,X,hb⟩
   case round =>
    clear X_;clear X hb hB;obtain ⟨n,v,hn,rfl,rfl,hB,X,hb⟩:=hrel;obtain ⟨b,o,⟨s1,⟨At,nt,ct⟩⟩,rfl,aG,cE,c0,c1_,c2_,c3_,c4_,c5_,c6_,c7⟩:=(CX.out wr hb).run aA;obtain rfl:nt=y.runs[k].tasks.length:=RdL.at1 (s:=⟨At,nt,ct⟩) cE.2;have h3:RdL Eo wr w (.slice At y.runs[k].tasks.length ct) y.runs[k].tasks:=cE.2;clear c1_ c2_ c3_ c4_ c5_ c6_ cE;have X_:=X.g4;have hwrs:=hb.size;by_cases gW:n<y.runs[k].tasks.length
    ·have gR:=(Fo (E0 HP.out aA)).2;have hntI:(n:Int)<(y.runs[k].tasks.length:Int):=Bk;have hn0:(0:Int)<=(n:Int):=Bk;obtain ⟨b',o',_,rfl,bN,_,d0,d1,d2,d3⟩:=h3.task gW;have hU:=Bp (fun hs=>Abw HP.out aA gW hs);have hJ:=Bp (show Bx (Gp y k) n=y.runs[k].tasks[n] by rw [Fq aA,Cn gW]);have hRow:Hid (Ns y (k,n)=[y.runs[k].id,(n:Int),y.runs[k].tasks[n].try_]):=by
      show Ns y (k,n)=_;unfold Ns;rw [hJ.out,Fq aA]
     have aK:=Bp (show (Gm y k ++ Jg y k n).length<=3000000 by
      have h1:=Mh (Qv HP.out) k;have h2:=Xh y k n;have h5:=(Fo (E0 HP.out aA)).2;rw [A0];omega)
     generalize y.runs[k].tasks[n]=x at *
     generalize y.runs[k].id=rid at *
     have TB:=DBox.new 138 [.int .i64 x.state,.int .i64 x.need,.int .i64 x.try_,.int .i64 x.until_] wr (b:=wr.heap.size) rfl;have b2:Below wr wr (wr.alloc (.cells #[.int .i64 x.state,.int .i64 x.need,.int .i64 x.try_,.int .i64 x.until_] 138)):=(Bq _ _).alloc (Br _) _;go_upto_region 9 with fail
     clear X_;replace X:=X.below b2;have aF:=Bs hb b2;have rW:=hB.out.below b2;have cU:=TB.lt;have kL:=X.lt;replace c0:=(b2.cell (p:=⟨b,_,Ab⟩) (by show b<wr;omega)).trans c0;have hvb:=Bp (show ∀ z,v.ownBlock=Ac z->w.heap.size+1<=z/\z≠wr.heap.size/\z≠b from fun z hz=>by
      obtain ⟨rs,hm,hBl⟩:=hB.out;have h1:=hBl.ow.within z hz;omega)
     have bI:b<(wr.alloc (.cells #[.int .i64 x.state,.int .i64 x.need,.int .i64 x.try_,.int .i64 x.until_] 138)):=by simp;omega
     clear b2 c7 d0 d1 d2 d3 hb hB;generalize wr.alloc (.cells #[.int .i64 x.state,.int .i64 x.need,.int .i64 x.try_,.int .i64 x.until_] 138)=w2 at *
     generalize htb:wr.heap.size=tb at *
     have X_:=X.g4;obtain ⟨TB_0,TB_1,TB_2,TB_3,TB_l⟩:=TB.g4;by_cases q:x.state=3;case neg =>
      have q1:(x.state == 3)=false:=by simp [q]
      have S:=Bp (Aaj (y:=y) (k:=k) (n:=n) (by rw [hJ.out];unfold Sp;rw [q1];rfl));clear q;go_wp2;exact ⟨⟨n+1,v,gW,by go_num,rfl,by rw [S.out];exact rW,X,aF⟩,by simp [intOf];omega⟩
     have q1:(x.state == 3)=true:=by simp [q]
     have hu:=hU.out q;have wr1:U.wrap (x.until_ - 1)=x.until_ - 1:=Ar _ (by have:=HP.out.1;omega);have q2:¬ x.until_<=y.now:=Bk;by_cases q3:x.until_ - 1<=y.now;case neg =>
      have S:=Bp (Aaj (y:=y) (k:=k) (n:=n) (by rw [hJ.out];unfold Sp;rw [q1,decide_eq_false q3];rfl));clear q hu;go_wp2;exact ⟨⟨n+1,v,gW,by go_num,rfl,by rw [S.out];exact rW,X,aF⟩,by simp [intOf];omega⟩
     have S:=Bp (Ado (y:=y) (k:=k) (n:=n) (by rw [hJ.out];unfold Sp;rw [q1,decide_eq_true q3];rfl));clear q hu;go_wp2;clear TB_0 TB_1 TB_2 TB_3 TB_l;refine Go.wp_region_noPanic ?_;refine wp_region_held_drew (S:=(fun w'=>DBox w [.int .i64 y.now,.int .i64 y.seq,.slice A1 n1 c1,.slice (Ac ⟨b,o,Ab⟩) y.runs.length c2] w'/\w'.cell? ⟨b,o+k * 8,Ab⟩=Ac (.int .i64 rid)/\DBox tb [.int .i64 x.state,.int .i64 x.need,.int .i64 x.try_,.int .i64 x.until_] w')) Bl ⟨DBox.drew4 X,c0,DBox.drew4 TB⟩ (fun hHeld=>?_);have pU:=aF.drew;have mR:=rW.below (Bq _ _).drew;have hsd:w2.drew.heap.size=w2.heap.size:=rfl;clear X_;clear X c0 TB aF rW;rw [<-hsd] at bI cU kL;clear hsd;generalize w2.drew=w3 at *
     refine tV 0 ?_
     (try simp only [pS])
     refine tV 1 ?_
     (try simp only [pS])
     refine tV 2 ?_
     (try simp only [pS])
     refine tV 3 ?_
     (try simp only [pS])
     refine tV 4 ?_
     (try simp only [pS])
     refine tV 5 ?_
     (try simp only [pS])
     refine tV 6 ?_
     (try simp only [pS])
     refine tV 7 ?_
     (try simp only [pS])
     refine tV 8 ?_
     (try simp only [pS])
     refine tV 9 ?_
     (try simp only [pS])
     refine rC 10 (fun K_ hK=>?_);go_simp;have o9:=Ow.intsK w3 3 [rid,(n:Int),x.try_] (cs:=#[.int .i64 rid,.int .i64 (n:Int),.int .i64 x.try_]) rfl (n:=3) (g:=w3.heap.size) (base:=w3.heap.size) rfl rfl (Br _) Bm;have b4:Below w3 w3 (w3.alloc (.cells #[.int .i64 rid,.int .i64 (n:Int),.int .i64 x.try_] 3)):=(Bq _ _).alloc (Br _) _;have jY:=b4.size;obtain ⟨hw9,hwB⟩:=Hw.of_ow o9;refine hK.out _ _ ⟨hHeld.1.below b4,(b4.cell (p:=⟨b,_,Ab⟩) bI).trans hHeld.2.1,hHeld.2.2.below b4⟩ (fun hHeld=>?_);clear hK K_
     (try simp only [pS])
     generalize fY:w3.heap.size=g9 at *
     generalize w3.alloc (.cells #[.int .i64 rid,.int .i64 (n:Int),.int .i64 x.try_] 3)=w4 at *
     refine rC 11 (fun K_ hK=>?_);go_simp;have b5:Below w4 w4 (w4.alloc (.cells #[.slice (Ac ⟨g9,0,Ab⟩) 3 3] 26)):=(Bq _ _).alloc (Br _) _;have hbw4:b<w4:=Bk;refine hK.out _ _ ⟨hHeld.1.below b5,(b5.cell (p:=⟨b,_,Ab⟩) hbw4).trans hHeld.2.1,hHeld.2.2.below b5⟩ (fun hHeld=>?_);clear hK K_
     (try simp only [pS])
     obtain ⟨rs,hm,hBld⟩:=mR;have cA:rs.length<=3000000:=by
      have h1:=congrArg List.length hm;rw [Au,Au] at h1;rw [h1];exact aK.out
     have hrs:=Bp cA;clear cA;have b45:=Bs (by rw [fY];exact b4) b5;refine rC 12 (fun K_ hK=>?_);refine Ep _ (Dt.flats Nc).enc Bo (.tmp 53) (.tmp 64) 215 rfl (w.heap.size+1) 26 _ _ _ Tryz.underlying215 i0 z0 z1 z2 rfl v rs rfl (hBld.ow.below b45) _ _ _ _ [([rid,(n:Int),x.try_],(⟨Ac ⟨g9,0,Ab⟩,3,3⟩:Sl))] rfl (Rd.one (Dt.flats Nc).enc _ _ ([rid,(n:Int),x.try_],(⟨Ac ⟨g9,0,Ab⟩,3,3⟩:Sl)) rfl rfl 1 (Br _) (Nat.lt_succ_self _)) hrs.out Bm Bo (by have:=b45.size;omega) ?_;intro v6 w6 o6 gg f6;have hP:=Bld.push1 (d:=Dt.flats Nc) (x:=[rid,(n:Int),x.try_]) (s:=(⟨Ac ⟨g9,0,Ab⟩,3,3⟩:Sl)) hBld (by rw [fY];exact b4) hw9 (fun y hy=>by rw [fY];exact hwB y hy) Bk b5 o6 gg f6;have hXo:∀ z,v.ownBlock=Ac z->w.heap.size+1<=z/\z≠tb/\z≠b:=fun z hz=>hvb.out z hz;have X6:=hHeld.1.off gg (fun e=>by have:=(hXo _ e.symm).1;omega);have T6:=hHeld.2.2.off gg (fun e=>(hXo _ e.symm).2.1 rfl);have hbw5:b<(w4.alloc (.cells #[.slice (Ac ⟨g9,0,Ab⟩) 3 3] 26)):=by have:=b5.size;omega
     have c6:=(gg.cell_far ⟨b,o+k * 8,Ab⟩ hbw5 (fun e=>(hXo _ e.symm).2.2 rfl)).trans hHeld.2.1;have hb6:Below w w w6:=(Bs pU b45).grown gg (Bs pU b45).size (fun g hg=>by have:=(hXo g hg).1;omega);have hmm:(rs ++ [([rid,(n:Int),x.try_],(⟨Ac ⟨g9,0,Ab⟩,3,3⟩:Sl))]).map (·.1)=(Gm y k ++ Jg y k (n+1)).map (Ns y):=by
      simp only [List.map_append,List.map_cons,List.map_nil,hm,S.out,hRow.out,List.append_assoc]
     have hB6:Bls (Dt.flats Nc) 26 w6 (w.heap.size+1) v6 ((Gm y k ++ Jg y k (n+1)).map (Ns y)):=⟨_,hmm,hP⟩
     refine hK.out _ _ ⟨X6,c6,T6⟩ (fun hHeld=>?_);clear hK K_
     (try simp only [pS])
     refine tV 13 ?_
     (try simp only [pS])
     refine wpAnyH_done Bl ?_ _;refine NoPanic.normal ?_;have hB7:=Bp hB6;clear hHeld hP hmm hB6 hm hBld gg o6 f6 T6 c6;go_wp2;refine ⟨⟨n+1,gW,by go_num,?_⟩,by simp [intOf];omega⟩;rw [<-List.map_append];exact hB7
    ·have hntI:¬ (n:Int)<(y.runs[k].tasks.length:Int):=Bk;have S:=Bp (show Gm y (k+1)=Gm y k ++ Jg y k n by
      rw [Vv,show (Gp y k).tasks.length=n by rw [Fq aA];omega])
     go_wp2;exact ⟨⟨k+1,Bk,by go_num,by rw [S.out];exact hB,X,hb⟩,by simp [intOf];omega⟩
  ·have aB:¬ (k:Int)<(y.runs.length:Int):=Bk;obtain rfl:k=y.runs.length:=Bk;obtain ⟨rs,hm,hBl⟩:=hB.out;obtain ⟨F,h1,h2⟩:=hBl.owl hm;obtain ⟨A,c,hv,_⟩:=h1.form;rw [Au] at hv;subst hv;have eL:Fc (Dt.list (Dt.flats Nc)) slV ((Gm y y.runs.length).map (Ns y)) w (.returned (.slice A (Gm y y.runs.length).length c)) wr:=⟨⟨A,_,c⟩,F,rfl,h1,fun x hx=>by have:=h2 x hx;omega,hb⟩
   clear hB hBl h1;go_wp2;go_ret;exact eL
section
theorem Aen {y:Yard} {w:World} {F:List Nat} {s1:Sl} {g o n c:Nat} (h:Bu.ow w F y (s1,⟨Ac ⟨g,o,Ab⟩,n,c⟩)) {k:Nat} (hk:k<y.runs.length) :
  ∃ rs:List (Run×(Sl×Sl)),rs.length=n/\rs.length<=c/\n=y.runs.length/\Rd Co.enc w w (.slice (Ac ⟨g,o,Ab⟩) n c) rs /\
   ∀ (E:TypeId) (w8:World) (A9:Option Addr) (n9 c9:Nat),Below w w w8->Ow Co.enc E w8 w (.slice A9 n9 c9) (rs.take k ++ rs.drop (k+1)) ->
    ∃ F8,Bu.ow w8 F8 ⟨y.now,y.seq,y.shelf,y.runs.take k ++ y.runs.drop (k+1)⟩ (s1,⟨A9,n9,c9⟩) /\ ∀ x∈F8,x∈F\/w<=x:=by
 obtain ⟨F1,F2,rfl,bM,os,orr⟩:=h;replace os:OwL (Dt.list Cg) w F1 s1.v y.shelf:=os;replace orr:OwL Co w F2 (.slice (Ac ⟨g,o,Ab⟩) n c) y.runs:=orr;have hn:n=y.runs.length:=RdL.at1 (s:=⟨Ac ⟨g,o,Ab⟩,n,c⟩) orr.rd;have cL:=orr.lt;obtain ⟨rs,Hh,G,hm,hh,hG,rfl,nR⟩:=orr;have cA:rs.length=y.runs.length:=by have:=congrArg List.length hm;rw [Au] at this;exact this
 obtain ⟨G1,G2,rfl,hGa,hGb⟩:=hG.split k Bk;rw [List.drop_eq_getElem_cons (show k<rs.length by omega)] at hGb;obtain ⟨Gx,G3,rfl,_,hGc⟩:=hGb.head;refine ⟨rs,Bk,hh.rd.cap,hn,hh.rd,fun E w8 A9 n9 c9 hb ho=>?_⟩;obtain ⟨h5,h6⟩:=Hw.of_ow ho;have hnG2:=(Ax.1 nR).2.1;have hG13:(G1 ++ G3).Nodup:=by
  rw [Ax] at hnG2 ⊢;refine ⟨hnG2.1,(Ax.1 hnG2.2.1).2.1,fun a ha b bE=>hnG2.2.2 a ha b (Bd _ bE)⟩
 have hGsub:∀ x∈G1 ++ G3,x∈Hh ++ (G1 ++ (Gx ++ G3)):=fun x hx=>by
  rcases Bh.1 hx with h | h
  ·exact Bd _ (Be _ h)
  ·exact Bd _ (Bd _ (Bd _ h))
 refine ⟨F1 ++ (Eh (.slice A9 n9 c9) (rs.take k ++ rs.drop (k+1)).length ++ (G1 ++ G3)),⟨F1,_,rfl,?_,os.below hb,⟨rs.take k ++ rs.drop (k+1),_,G1 ++ G3,?_,h5,(hGa.append hGc).bel hb,rfl,?_⟩⟩,fun x hx=>?_⟩
 ·rw [Ax];refine ⟨os.nodup,?_,fun a ha b bE e=>?_⟩
  ·rw [Ax];refine ⟨I3 _ _,hG13,fun a ha b bE e=>?_⟩;subst e
   have:=h6 a ha
   have:=cL a (hGsub a bE)
   omega
  ·subst e;rcases Bh.1 bE with h | h
   ·have:=h6 a h;have:=os.lt a ha;omega
   ·exact (Ax.1 bM).2.2 a ha a (hGsub a h) rfl
 ·rw [List.map_append,List.map_take,List.map_drop,hm]
 ·rw [Ax];refine ⟨I3 _ _,hG13,fun a ha b bE e=>?_⟩;subst e
  have:=h6 a ha
  have:=cL a (hGsub a bE)
  omega
 ·rcases Bh.1 hx with h | h
  ·exact .inl (Be _ h)
  ·rcases Bh.1 h with h | h
   ·exact .inr (h6 x h)
   ·exact .inl (Bd _ (hGsub x h))
theorem Sq (f:List Entry->List Entry) {l:List (List Entry)} {k:Nat} (hk:k<l.length):((l.take k).map f ++ l.drop k).set k (f l[k])=(l.take (k+1)).map f ++ l.drop (k+1):=by
 rw [List.drop_eq_getElem_cons hk,List.set_append_right _ _ (by simp;omega)];rw [show k - ((l.take k).map f).length=0 by simp;omega,List.set_cons_zero,List.take_succ_eq_append_getElem hk,List.map_append,List.append_assoc];rfl
theorem Aak (f:List Entry->List Entry) {l:List (List Entry)} {k:Nat} (hk:k<l.length) (h:k<((l.take k).map f ++ l.drop k).length):((l.take k).map f ++ l.drop k)[k]=l[k]:=by
 rw [List.getElem_append_right (by simp;omega)];simp [Nat.min_eq_left (Nat.le_of_lt hk)]
open Classical in
noncomputable def K7 (y:Yard) (id:Int):Int :=
 if ¬ Dn y then 8 else if Dh y id<0 then 10 else if (Ip y id).state=1 then 13 else 0
def Di (id:Int) (l:List Entry):List Entry:=l.filter fun e=>e.run != id
noncomputable def Kb (y:Yard) (id:Int):Yard:=if K7 y id=0 then ⟨y.now,y.seq,y.shelf.map (Di id),y.runs.take (Dh y id).toNat ++ y.runs.drop ((Dh y id).toNat+1)⟩ else y
theorem K8 {b:Nat} {w:World} {u0 u1 u2 u3:Value} (X:DBox b [u0,u1,u2,u3] w) {v0 v1 v2 v3 v5:Value} {rest:List Value} :
  (results Tryz.f149 (v0 :: v1 :: v2 :: v3 :: .pointer (Ac ⟨b,0,Ab⟩) :: v5 :: rest).toArray).run An w = .ok (.tuple #[.agg #[u0,u1,u2,u3],v5]) w:=by
 have c0:=X.cell 0 _ rfl;have c1:=X.cell 1 _ rfl;have c2:=X.cell 2 _ rfl;have c3:=X.cell 3 _ rfl;simp [results,Tryz.results149,go_sem,c0,c1,c2,c3]
theorem Vw (y:Yard) (s:Sl×Sl) (id:Int) (w:World) (hl:Ci y<=2000000) (h:Bu.rd w w y s) :
  Calls An 149 #[Du y s,.int .i64 id] w (Ma (Kb y id) (K7 y id) w):=by
 have HR:=Bp (show ∀ W,Below w w W->Bu.rd W W y s from fun W hW=>Bu.rd_more (Bu.rd_below h hW) hW.size);obtain ⟨⟨A1,n1,c1⟩,⟨A2,n2,c2⟩⟩:=s;have CC:=Bp (fun W hW=>Er y (⟨A1,n1,c1⟩,⟨A2,n2,c2⟩) W hl (HR.out W hW));have CY:=Bp (fun W hW=>Gj y (⟨A1,n1,c1⟩,⟨A2,n2,c2⟩) W hl (HR.out W hW));have CA:=Bp (fun W hW=>Ew y (⟨A1,n1,c1⟩,⟨A2,n2,c2⟩) id W hl (HR.out W hW));have CX:=Bp (fun W hW=>show RdL Co W W.heap.size (.slice A2 n2 c2) y.runs from (HR.out W hW).2);clear h HR;obtain ⟨W,aH,X,RES,B0⟩:=bx2 w 31 [.int .i64 y.now,.int .i64 y.seq,.slice A1 n1 c1,.slice A2 n2 c2] 31 [.int .i64 0,.int .i64 0,.slice Ab 0 0,.slice Ab 0 0];go_enter Tryz.func149,Tryz.ntmps149;go_wp2_with fail
 rw [<-aH.out];clear aH;have jQ:w.heap.size+1<W.heap.size:=RES.lt;refine (CC.out _ B0).mono ?_;rintro e1 w1 ⟨⟨⟨B1,m1,e1⟩,⟨B2,m2,e2⟩⟩,F,rfl,oy,nF,b1⟩;have bL:=b1.size;have cL:=Bu.ow_lt (F:=F) (x:=y) (s:=(⟨B1,m1,e1⟩,⟨B2,m2,e2⟩)) oy;replace X:=X.below b1;replace RES:=RES.below b1;replace B0:=Bs B0 b1;clear b1;go_upto_region 2 with fail
 have OB:=DBox.new 31 [.int .i64 y.now,.int .i64 y.seq,.slice B1 m1 e1,.slice B2 m2 e2] w1 (b:=w1.heap.size) rfl;have b2:Below w1 w1 (w1.alloc (.cells #[.int .i64 y.now,.int .i64 y.seq,.slice B1 m1 e1,.slice B2 m2 e2] 31)):=(Bq _ _).alloc (Br _) _;replace X:=X.below b2;replace RES:=RES.below b2;replace oy:=Bu.ow_below (F:=F) (x:=y) (s:=(⟨B1,m1,e1⟩,⟨B2,m2,e2⟩)) oy b2;replace B0:=Bs B0 b2;have ow1:=OB.lt;clear b2;generalize w1.alloc (.cells #[.int .i64 y.now,.int .i64 y.seq,.slice B1 m1 e1,.slice B2 m2 e2] 31)=w2 at *
 generalize dQ:w1.heap.size=ob at *
 have X_:=X.g4;obtain ⟨OB_0,OB_1,OB_2,OB_3,OB_l⟩:=OB.g4;go_wp2_with fail
 refine (CA.out _ B0).mono ?_;rintro e1 w3 ⟨rfl,b3⟩;clear X_;clear OB_0 OB_1 OB_2 OB_3 OB_l;replace X:=X.below b3;replace OB:=OB.below b3;replace RES:=RES.below b3;replace oy:Bu.ow w3 F y (⟨B1,m1,e1⟩,⟨B2,m2,e2⟩):=owB oy b3;replace B0:=Bs B0 b3;clear b3;have X_:=X.g4;obtain ⟨OB_0,OB_1,OB_2,OB_3,OB_l⟩:=OB.g4;go_wp2_with fail
 refine (CY.out _ B0).mono ?_;rintro e1 w4 ⟨rfl,b4⟩;clear X_;clear OB_0 OB_1 OB_2 OB_3 OB_l;replace X:=X.below b4;replace OB:=OB.below b4;replace RES:=RES.below b4;replace oy:Bu.ow w4 F y (⟨B1,m1,e1⟩,⟨B2,m2,e2⟩):=owB oy b4;replace B0:=Bs B0 b4;clear b4;have X_:=X.g4;obtain ⟨OB_0,OB_1,OB_2,OB_3,OB_l⟩:=OB.g4;by_cases p0:Dn y;case neg =>
  rw [Ck p0];have H:=Bp (show K7 y id=8 by unfold K7;rw [if_pos p0]);have H2:=Bp (show Kb y id=y by unfold Kb;rw [H.out,if_neg Bo]);have RES_:=RES.g4;have rf:=RES.free;go_wp2;have en1:w.heap.size+1∉F:=fun hx=>by have:=nF _ hx;omega
  refine Aj (K8 (DBox.row4 RES rfl _ _ _ _)) rfl ⟨(⟨B1,m1,e1⟩,⟨B2,m2,e2⟩),F,by rw [H.out,H2.out],by rw [H2.out];exact (by (repeat (refine Dt.ow_set Bu ?_ en1 _));exact (show Bu.ow _ F y (⟨B1,m1,e1⟩,⟨B2,m2,e2⟩) from oy)),fun x hx=>by have:=nF x hx;omega,?_⟩;repeat (first | (with_reducible exact B0) | refine Ad ?_ Bn _)
 rw [D6 p0];have P0:=Bp p0;clear p0;by_cases p1:Dh y id<0;case pos =>
  have H:=Bp (show K7 y id=10 by unfold K7;rw [if_neg (fun h=>h P0.out),if_pos p1]);have H2:=Bp (show Kb y id=y by unfold Kb;rw [H.out,if_neg Bo]);have RES_:=RES.g4;have rf:=RES.free;go_wp2;have en1:w.heap.size+1∉F:=fun hx=>by have:=nF _ hx;omega
  refine Aj (K8 (DBox.row4 RES rfl _ _ _ _)) rfl ⟨(⟨B1,m1,e1⟩,⟨B2,m2,e2⟩),F,by rw [H.out,H2.out],by rw [H2.out];exact (by (repeat (refine Dt.ow_set Bu ?_ en1 _));exact (show Bu.ow _ F y (⟨B1,m1,e1⟩,⟨B2,m2,e2⟩) from oy)),fun x hx=>by have:=nF x hx;omega,?_⟩;repeat (first | (with_reducible exact B0) | refine Ad ?_ Bn _)
 rcases Eu y id with hr | ⟨k,hk,hr⟩
 ·exact absurd hr Bk
 have HK:=Bp (Gq hk hr);have HR2:=Bp hr;rw [hr];clear hr p1;have P1:=Bp (show ¬ Dh y id<0 by have:=HR2.out;omega);have eC:(k:Int)<(n2:Int):=by have:=RdL.at1 (s:=⟨A2,n2,c2⟩) (CX.out _ B0);dsimp only at this;omega
 have cS:(0:Int)<=(k:Int):=Bk;have hkn:¬ (k:Int)<0:=Bk;obtain ⟨gx,ox,_,rfl,nP,_,c0,c1_,c2_,c3_,c4_,c5_,c6,c7_⟩:=(CX.out _ B0).run hk;clear c0 c1_ c2_ c3_ c4_ c5_ c7_;by_cases p2:y.runs[k].state=1;case pos =>
  have q2:(y.runs[k].state == 1)=true:=by simp [p2]
  have H:=Bp (show K7 y id=13 by unfold K7;rw [if_neg (fun h=>h P0.out),if_neg P1.out,if_pos (by rw [HK.out];exact p2)]);clear p2;have H2:=Bp (show Kb y id=y by unfold Kb;rw [H.out,if_neg Bo]);have RES_:=RES.g4;have rf:=RES.free;go_wp2;have en1:w.heap.size+1∉F:=fun hx=>by have:=nF _ hx;omega
  refine Aj (K8 (DBox.row4 RES rfl _ _ _ _)) rfl ⟨(⟨B1,m1,e1⟩,⟨B2,m2,e2⟩),F,by rw [H.out,H2.out],by rw [H2.out];exact (by (repeat (refine Dt.ow_set Bu ?_ en1 _));exact (show Bu.ow _ F y (⟨B1,m1,e1⟩,⟨B2,m2,e2⟩) from oy)),fun x hx=>by have:=nF x hx;omega,?_⟩;repeat (first | (with_reducible exact B0) | refine Ad ?_ Bn _)
 have q2:(y.runs[k].state == 1)=false:=by simp [p2]
 have H:=Bp (show K7 y id=0 by unfold K7;rw [if_neg (fun h=>h P0.out),if_neg P1.out,if_neg (by rw [HK.out];exact p2)]);have H2:=Bp (show Kb y id=⟨y.now,y.seq,y.shelf.map (Di id),y.runs.take k ++ y.runs.drop (k+1)⟩ by unfold Kb;rw [if_pos H.out,HR2.out,Ap]);clear p2;go_upto_region 9 with fail
 obtain ⟨gr,orr,_,rfl,cC,_⟩:=RdL.run (show RdL Co w4 w4.heap.size (.slice B2 m2 e2) y.runs from (Bu.ow_rd (F:=F) (x:=y) (s:=(⟨B1,m1,e1⟩,⟨B2,m2,e2⟩)) oy).2) hk;obtain ⟨rs,cA,bT,eN,hrd0,jT⟩:=Aen oy hk;have hr8:y.runs.length<=8:=P0.out.2.2.2.2.2.2.1;clear X_;clear X c6 q2 CC CY CA CX eC;have eC:(k:Int)<=(m2:Int):=Bk;have hkI1:(k:Int)+1<=(m2:Int):=Bk;have pM:(0:Int)<=(k:Int)+1:=Bk;have gY:k<=e2:=Bk;have hkeI:(k:Int)<=(e2:Int):=Bk;have hk1e:k+1<=e2:=Bk;have hk1eI:(k:Int)+1<=(e2:Int):=Bk;have wr1:U.wrap ((k:Int)+1)=(k:Int)+1:=Ar _ Bk;have tn1:((k:Int)+1).toNat=k+1:=Bk;have hob4:ob<w4:=OB.lt;replace eN:=Bp eN;replace cA:=Bp cA;replace jT:=Bp jT;obtain ⟨j0,bS,jz0,jz1,jz2⟩:=info_parts N2;have a0:=Bp (show ∀ W,Below w4 w4 W->Rd Co.enc W w4 (.slice (Ac ⟨gr,orr,Ab⟩) k e2) (rs.take k) from fun W hW=>(hrd0.take (by have:=cA.out;omega) e2 gY).below hW);have a1:=Bp (show ∀ W,Below w4 w4 W->Rd Co.enc W w4 (.slice (Ac ⟨gr,orr+(k+1) * 8,Ab⟩) (m2 - (k+1)) (e2 - (k+1))) (rs.drop (k+1)) from fun W hW=>by have h1:=(hrd0.fromL (k+1) (by have:=cA.out;omega)).below hW;rw [cA.out] at h1;exact h1);rcases (show k+1<e2\/e2=k+1 by omega) with hlast | hlast
 ·have hlast2:¬ e2=k+1:=Bk;go_wp2;have b5:Below w4 w4 w4.drew:=(Bq _ _).drew;have OB5:=DBox.drew4 OB;refine Dj (fun w'=>w'.cell? ⟨ob,3,Ab⟩=Ac (.slice (Ac ⟨gr,orr,Ab⟩) m2 e2)) 13 Bl ?_ (fun hHeld=>?_)
  ·exact OB_3
  refine aT 1 hHeld ?_;try simp only [pS]
  refine aT 2 hHeld ?_;try simp only [pS]
  refine aT 3 hHeld ?_;try simp only [pS]
  refine aT 4 hHeld ?_;try simp only [pS]
  refine aT 6 hHeld ?_;try simp only [pS]
  refine aT 7 hHeld ?_;try simp only [pS]
  refine aT 8 hHeld ?_;try simp only [pS]
  refine aT 9 hHeld ?_;try simp only [pS]
  refine aT 10 hHeld ?_;try simp only [pS]
  refine oT 0 (fun K hK=>?_)
  (go_simp;have b6:Below w4.drew w4.drew (w4.drew.alloc (.cells #[] 89)):=(Bq _ _).alloc (Br _) _;have o6:=Ow.empty Co.enc 89 w4.drew (g:=w4.heap.size) rfl;have B6:=Bs b5 b6;have OB6:=OB5.below b6;have kY:=b6.size)
  refine hK.out _ _ (fun _=>?_) ?_
  ·exact OB6.cell 3 _ rfl
  clear hK K;try simp only [pS]
  refine oT 5 (fun K hK=>?_)
  (refine Df _ Co.enc Bo (by rfl) (.tmp 34) (.tmp 38) (by rfl) Tryz.underlying29 bS jz0 jz1 jz2 (by rfl) (base:=w4.heap.size) (v:=.slice (Ac ⟨w4,0,Ab⟩) 0 0) (l:=[]) (by rfl) o6 (by rfl) (a0.out _ B6) Bm (by have:=cA.out;rw [Az];omega) Bo kY ?_;intro v7 w7 o7 gg7 f7;rw [List.nil_append] at o7;have B7:Below w4 w4 w7:=B6.grown gg7 B6.size (fun g hg=>by have:=Option.some.inj (show Ac w4.heap.size=Ac g from hg);omega);have OB7:=OB6.off gg7 (fun e=>by have:=Option.some.inj (show Ac ob=Ac w4.heap.size from e);omega);have hg7s:=gg7.size)
  refine hK.out _ _ (fun _=>?_) ?_
  ·exact OB7.cell 3 _ rfl
  clear hK K;try simp only [pS]
  refine oT 11 (fun K hK=>?_)
  (refine Df _ Co.enc Bo (by rfl) (.tmp 39) (.tmp 44) (by rfl) Tryz.underlying29 bS jz0 jz1 jz2 (by rfl) (base:=w4.heap.size) (v:=v7) (l:=rs.take k) (by rfl) o7 (by rfl) (a1.out _ B7) (by have:=cA.out;have:=eN.out;rw [Az];omega) (by have:=cA.out;have:=eN.out;rw [List.length_drop];omega) Bo B7.size ?_;intro v8 w8 o8 gg8 f8;have B8:Below w4 w4 w8:=B7.grown gg8 B7.size (fun g hg=>(o7.within g hg).1);have OB8:=OB7.off gg8 (fun e=>by have:=(o7.within _ e.symm).1;omega);obtain ⟨A9,c9,pR,-⟩:=_root_.id (Rd.of_own o8);generalize rZ:(rs.take k ++ rs.drop (k+1)).length=n9 at pR;subst pR;replace rZ:=Bp rZ;have q3:=OB8.cell 3 _ rfl;have qf:=OB8.free;have ql:=OB8.lt)
  refine hK.out _ _ (fun _=>?_) ?_
  ·exact q3
  clear hK K;try simp only [pS]
  refine oT 12 (fun K hK=>?_);go_simp;refine hK.out _ _ (fun _=>?_) ?_
  ·exact q3
  clear hK K;try simp only [pS]
  refine oT 13 (fun K hK=>?_);go_simp;refine hK.out _ _ (fun aC=>absurd rfl aC) ?_;clear hK K;try simp only [pS]
  refine Ec Bl ?_ _;obtain ⟨F8,oy8,kF⟩:=jT.out 89 w8 A9 n9 c9 B8 o8;have dY:∀ x∈F8,w.heap.size+1<x/\x≠ob:=fun x hx=>by
   rcases kF x hx with h | h
   ·have h1:=nF x h;have h2:=cL x h;omega
   ·have h3:=B0.size;omega
  have OB9:DBox ob [.int .i64 y.now,.int .i64 y.seq,.slice B1 m1 e1,.slice A9 n9 c9] (w8.setCell ⟨ob,3,Ab⟩ (.slice A9 n9 c9)):=OB8.set 3 Bm _;have RES9:=(RES.below B8).setOther (a:=⟨ob,3,Ab⟩) (by show w.heap.size+1≠ob;omega) (.slice A9 n9 c9);have oy9:Bu.ow (w8.setCell ⟨ob,3,Ab⟩ (.slice A9 n9 c9)) F8 ⟨y.now,y.seq,y.shelf,y.runs.take k ++ y.runs.drop (k+1)⟩ (⟨B1,m1,e1⟩,⟨A9,n9,c9⟩):=Bu.ow_set (F:=F8) (x:=⟨y.now,y.seq,y.shelf,y.runs.take k ++ y.runs.drop (k+1)⟩) (s:=(⟨B1,m1,e1⟩,⟨A9,n9,c9⟩)) oy8 (a:=⟨ob,3,Ab⟩) (fun hx=>(dY _ hx).2 rfl) _;have B9:Below w w (w8.setCell ⟨ob,3,Ab⟩ (.slice A9 n9 c9)):=Ad (Bs B0 B8) (by show w.heap.size<=ob;omega) _;have kG:ob<(w8.setCell ⟨ob,3,Ab⟩ (.slice A9 n9 c9)):=OB9.lt;have dA:=Bp (show m1=y.shelf.length from RdL.at1 (s:=⟨B1,m1,e1⟩) (Bu.ow_rd (F:=F8) (x:=⟨y.now,y.seq,y.shelf,y.runs.take k ++ y.runs.drop (k+1)⟩) oy9).1);have hsh4:=Bp (show y.shelf.length=4 from P0.out.2.2.1);have hsh80:=Bp (fun (i:Nat) (hi:i<y.shelf.length)=>(P0.out.2.2.2.1 _ (Aw hi)).1);obtain ⟨i0,aL,aR,aS,aP⟩:=info_parts Fw;clear OB_0 OB_1 OB_2 OB_3 OB_l;clear OB RES OB8 oy8 o8 o7 OB7 OB6 o6 OB5 b5 b6 B6 B7 hHeld q3 qf ql gg7 gg8 f7 f8 kF hrd0 a0 a1 jT oy B8 kY hg7s;generalize y.runs.take k ++ y.runs.drop (k+1)=RR at *
  generalize w8.setCell ⟨ob,3,Ab⟩ (.slice A9 n9 c9)=w9 at *
  have OB9_:=OB9.g4;go_wp2;go_loopw [8,9,10] (fun iv u1 u2 wr=>∃ (i:Nat) (F:List Nat),i<=y.shelf.length/\iv = .int .i64 i/\Hid (Bu.ow wr F ⟨y.now,y.seq,(y.shelf.take i).map (Di id) ++ y.shelf.drop i,RR⟩ (⟨B1,m1,e1⟩,⟨A9,n9,c9⟩))/\Hid (∀ x∈F,w.heap.size+1<x/\x≠ob)/\DBox ob [.int .i64 y.now,.int .i64 y.seq,.slice B1 m1 e1,.slice A9 n9 c9] wr/\DBox (w.heap.size+1) [.int .i64 0,.int .i64 0,.slice Ab 0 0,.slice Ab 0 0] wr/\Below w w wr/\ob<wr) (fun i _ _ _=>y.shelf.length - (intOf i).toNat);case atStart=>exact ⟨0,F8,Ag _,rfl,by show Bu.ow w9 F8 ⟨y.now,y.seq,(y.shelf.take 0).map (Di id) ++ y.shelf.drop 0,RR⟩ (⟨B1,m1,e1⟩,⟨A9,n9,c9⟩);simpa using oy9,dY,OB9,RES9,B9,kG⟩
  case round =>
   clear OB9_;clear OB9 RES9 oy9 B9 kG dY;obtain ⟨i,F,hi,rfl,oy,hF,OB,RES,hb,mI⟩:=hrel;rename World=>wo;have h4:=hsh4.out;replace h4:=Bp h4;have hRl9:=RES.lt;obtain ⟨OB_0,OB_1,OB_2,OB_3,OB_l⟩:=OB.g4;by_cases aA:i<y.shelf.length
   ·have aB:(i:Int)<(m1:Int):=by have:=dA.out;omega
    have hi00:(0:Int)<=(i:Int):=Bk;have nA:i<((y.shelf.take i).map (Di id) ++ y.shelf.drop i).length:=by simp;omega
    obtain ⟨g,o,⟨xa,xn,xc⟩,rfl,gV,dU,ch⟩:=RdL.entryS (show RdL (Dt.list Cg) wo wo.heap.size (.slice B1 m1 e1) ((y.shelf.take i).map (Di id) ++ y.shelf.drop i) from (Bu.ow_rd (F:=F) (x:=⟨y.now,y.seq,(y.shelf.take i).map (Di id) ++ y.shelf.drop i,RR⟩) oy.out).1) nA;rw [Aak (Di id) aA nA] at dU;replace dU:RdL Cg wo wo (.slice xa xn xc) y.shelf[i]:=dU;have hxn:xn=y.shelf[i].length:=RdL.at1 (s:=⟨xa,xn,xc⟩) dU;subst hxn;have h80:=hsh80.out i aA;have sU:i<=3:=by have:=h4.out;omega
    have gL:∀ j,wo.frozen? ⟨g,j,Ab⟩=false:=by
     obtain ⟨G1,G2,_,_,os,_⟩:=oy.out;exact OwL.free0 (show OwL (Dt.list Cg) wo G1 (.slice (Ac ⟨g,o,Ab⟩) m1 e1) _ from os) (Nat.lt_of_le_of_lt (Ag _) nA)
    have dX:=Bp (Sq (Di id) aA);have q0:Below wo wo (wo.alloc (.cells #[] 93)):=(Bq _ _).alloc (Br _) _;have o0:=Ow.empty Cu 93 wo rfl;generalize y.shelf[i]=SH at *
    go_wp2;go_loopw [9,10] (fun v j wr=>∃ m:Nat,m<=SH.length/\j = .int .i64 m/\Hid (Ow Cu 93 wr wo v (Di id (SH.take m)))/\Below wo wo wr) (fun _ j _=>SH.length - (intOf j).toNat);case atStart=>exact ⟨0,Ag _,rfl,o0,q0⟩
    case round =>
     clear o0 q0;obtain ⟨m,hm_,rfl,hO,dW⟩:=hrel;clear OB_0 OB_1 OB_2 OB_3 OB_l;have OB2:=OB.below dW;have OB2_:=OB2.g4;have ch2:=(dW.cell (p:=⟨g,_,Ab⟩) gV).trans ch;have hwis:=dW.size;by_cases aX:m<SH.length
     ·have hltI2:(m:Int)<(SH.length:Int):=Bk;have rN:(0:Int)<=(m:Int):=Bk;obtain ⟨ge,oe,_,rfl,rL,_,d0,d1,d2,d3⟩:=(dU.below dW).entry aX;have Hl:=Bp (show (Di id (SH.take m)).length<=3000000 by have h1:=List.length_filter_le (fun e:Entry=>e.run != id) (SH.take m);rw [Az] at h1;unfold Di;omega);cases q:(SH[m].run != id)
      ·have S:=Bp (show Di id (SH.take (m+1))=Di id (SH.take m) from K4 (p:=fun e:Entry=>e.run != id) aX q);go_wp2;exact ⟨⟨m+1,Bk,by go_num,by rw [S.out];exact hO,dW⟩,by simp [intOf];omega⟩
      ·have S:=Bp (show Di id (SH.take (m+1))=Di id (SH.take m) ++ [SH[m]] from J4 (p:=fun e:Entry=>e.run != id) aX q);generalize SH[m]=e9 at *
       have ha:Hid (∀ w:World,Below w w (w.alloc (.cells #[.int .i64 e9.prio,.int .i64 e9.seq,.int .i64 e9.run,.int .i64 e9.task] 93))):=fun w=>(Bq _ _).alloc (Br _) _;have eV:=hO.out;go_wp2_with (at_builtin;go_loud (refine Bz _ Cu Bo rfl (.tmp 76) (.tmp 85) rfl Tryz.underlying96 aL aR aS aP rfl (base:=wo.heap.size) (l:=Di id (SH.take m)) rfl (eV.below (ha.out _)) rfl (Rd.one Cu _ _ e9 rfl rfl 1 (Br _) (Nat.lt_succ_self _)) Hl.out Bm Bo (by simp;omega) ?_);intro v5 w5 o5 g5 _)
       have eE:Below wo wo w5:=(Bs dW (ha.out _)).grown g5 (Bs dW (ha.out _)).size (fun g hg=>by have:=eV.within _ hg;omega);exact ⟨⟨m+1,Bk,by go_num,by rw [S.out];exact o5,eE⟩,by simp [intOf];omega⟩
     ·have hltI2:¬ (m:Int)<(SH.length:Int):=Bk;have dJ:=hO.out;rw [Bf Bk] at dJ;obtain ⟨⟨a8,n8,c8⟩,Ft,rfl,o9,nF9⟩:=Ha dJ;have oy2:Bu.ow wr F ⟨y.now,y.seq,(y.shelf.take i).map (Di id) ++ y.shelf.drop i,RR⟩ (⟨Ac ⟨g,o,Ab⟩,m1,e1⟩,⟨A9,n9,c9⟩):=owB oy.out dW;have hFlt2:∀ x∈F,x<wo:=Bu.ow_lt (F:=F) (x:=⟨y.now,y.seq,(y.shelf.take i).map (Di id) ++ y.shelf.drop i,RR⟩) (s:=(⟨Ac ⟨g,o,Ab⟩,m1,e1⟩,⟨A9,n9,c9⟩)) oy.out;obtain ⟨F',p1,p2,p3⟩:=Gf oy2 nA (l:=Di id SH) (t:=⟨a8,n8,c8⟩) o9 (fun x hx bF=>by have h1:=nF9 x hx;have h2:=hFlt2 x bF;omega);dsimp only at p1;rw [dX.out] at p1;have hgn:=hF.out g p3;have hfg2:∀ j,wr.frozen? ⟨g,j,Ab⟩=false:=fun j=>(dW.frozen (p:=⟨g,j,Ab⟩) gV).trans (gL j);have OB3:=OB2.setOther (a:=⟨g,o+i,Ab⟩) (by show ob≠g;omega) (.slice a8 n8 c8);have RES3:=(RES.below dW).setOther (a:=⟨g,o+i,Ab⟩) (by show w.heap.size+1≠g;omega) (.slice a8 n8 c8);have bY:Below w w (wr.setCell ⟨g,o+i,Ab⟩ (.slice a8 n8 c8)):=Ad (Bs hb dW) (by show w.heap.size<=g;omega) _;have hF3:Hid (∀ x∈F',w.heap.size+1<x/\x≠ob):=fun x hx=>by
       rcases p2 x hx with h | h
       ·exact hF.out x h
       ·have:=nF9 x h;omega
      have kS:=OB3.lt;clear hO dJ dX o9 gL;go_wp2;exact ⟨⟨i+1,F',Bk,by go_num,p1,hF3,OB3,RES3,bY,kS⟩,by simp [intOf];omega⟩
   ·have aB:¬ (i:Int)<(m1:Int):=by have:=dA.out;omega
    have hii:i=y.shelf.length:=Bk;have oyz:=oy.out;rw [Bf Bk,List.drop_eq_nil_of_le Bk,List.append_nil] at oyz;have rf:=RES.free;have RES_:=RES.g4;clear hii oy;go_wp2;have en1:w.heap.size+1∉F:=fun hx=>by have:=hF.out _ hx;omega
    refine Aj (K8 (DBox.row4 RES rfl _ _ _ _)) rfl ⟨(⟨B1,m1,e1⟩,⟨A9,n9,c9⟩),F,by rw [H.out,H2.out],by rw [H2.out];exact (by (repeat (refine Dt.ow_set Bu ?_ en1 _));exact (show Bu.ow _ F ⟨y.now,y.seq,y.shelf.map (Di id),RR⟩ (⟨B1,m1,e1⟩,⟨A9,n9,c9⟩) from oyz)),fun x hx=>by have:=hF.out x hx;omega,?_⟩;repeat (first | (with_reducible exact hb) | refine Ad ?_ Bn _)
 ·subst hlast;have hlast3:(k:Int)<=(k:Int)+1:=Bk;have hm2k:m2 - (k+1)=0:=by have:=cA.out;omega
  replace hm2k:=Bp hm2k;go_wp2;have b5:Below w4 w4 w4.drew:=(Bq _ _).drew;have OB5:=DBox.drew4 OB;refine Dj (fun w'=>w'.cell? ⟨ob,3,Ab⟩=Ac (.slice (Ac ⟨gr,orr,Ab⟩) m2 (k+1))) 13 Bl ?_ (fun hHeld=>?_)
  ·exact OB_3
  refine aT 1 hHeld ?_;try simp only [pS]
  refine aT 2 hHeld ?_;try simp only [pS]
  refine aT 3 hHeld ?_;try simp only [pS]
  refine aT 4 hHeld ?_;try simp only [pS]
  refine aT 6 hHeld ?_;try simp only [pS]
  refine aT 7 hHeld ?_;try simp only [pS]
  refine aT 8 hHeld ?_;try simp only [pS]
  refine aT 9 hHeld ?_;try simp only [pS]
  refine aT 10 hHeld ?_;try simp only [pS]
  refine oT 0 (fun K hK=>?_)
  (go_simp;have b6:Below w4.drew w4.drew (w4.drew.alloc (.cells #[] 89)):=(Bq _ _).alloc (Br _) _;have o6:=Ow.empty Co.enc 89 w4.drew (g:=w4.heap.size) rfl;have B6:=Bs b5 b6;have OB6:=OB5.below b6;have kY:=b6.size)
  refine hK.out _ _ (fun _=>?_) ?_
  ·exact OB6.cell 3 _ rfl
  clear hK K;try simp only [pS]
  refine oT 5 (fun K hK=>?_)
  (refine Df _ Co.enc Bo (by rfl) (.tmp 34) (.tmp 38) (by rfl) Tryz.underlying29 bS jz0 jz1 jz2 (by rfl) (base:=w4.heap.size) (v:=.slice (Ac ⟨w4,0,Ab⟩) 0 0) (l:=[]) (by rfl) o6 (by rfl) (a0.out _ B6) Bm (by have:=cA.out;rw [Az];omega) Bo kY ?_;intro v7 w7 o7 gg7 f7;rw [List.nil_append] at o7;have B7:Below w4 w4 w7:=B6.grown gg7 B6.size (fun g hg=>by have:=Option.some.inj (show Ac w4.heap.size=Ac g from hg);omega);have OB7:=OB6.off gg7 (fun e=>by have:=Option.some.inj (show Ac ob=Ac w4.heap.size from e);omega);have hg7s:=gg7.size)
  refine hK.out _ _ (fun _=>?_) ?_
  ·exact OB7.cell 3 _ rfl
  clear hK K;try simp only [pS]
  refine oT 11 (fun K hK=>?_)
  (refine Df _ Co.enc Bo (by rfl) (.tmp 39) (.tmp 44) (by rfl) Tryz.underlying29 bS jz0 jz1 jz2 (by rfl) (base:=w4.heap.size) (v:=v7) (l:=rs.take k) (by rfl) o7 (by rfl) (Rd.fromNone (B:=0) (k+1) (by have:=cA.out;have:=hm2k.out;omega) hm2k.out) (by have:=cA.out;have:=eN.out;rw [Az];omega) (by have:=cA.out;have:=eN.out;rw [List.length_drop];omega) Bo B7.size ?_;intro v8 w8 o8 gg8 f8;have B8:Below w4 w4 w8:=B7.grown gg8 B7.size (fun g hg=>(o7.within g hg).1);have OB8:=OB7.off gg8 (fun e=>by have:=(o7.within _ e.symm).1;omega);obtain ⟨A9,c9,pR,-⟩:=_root_.id (Rd.of_own o8);generalize rZ:(rs.take k ++ rs.drop (k+1)).length=n9 at pR;subst pR;replace rZ:=Bp rZ;have q3:=OB8.cell 3 _ rfl;have qf:=OB8.free;have ql:=OB8.lt)
  refine hK.out _ _ (fun _=>?_) ?_
  ·exact q3
  clear hK K;try simp only [pS]
  refine oT 12 (fun K hK=>?_);go_simp;refine hK.out _ _ (fun _=>?_) ?_
  ·exact q3
  clear hK K;try simp only [pS]
  refine oT 13 (fun K hK=>?_);go_simp;refine hK.out _ _ (fun aC=>absurd rfl aC) ?_;clear hK K;try simp only [pS]
  refine Ec Bl ?_ _;obtain ⟨F8,oy8,kF⟩:=jT.out 89 w8 A9 n9 c9 B8 o8;have dY:∀ x∈F8,w.heap.size+1<x/\x≠ob:=fun x hx=>by
   rcases kF x hx with h | h
   ·have h1:=nF x h;have h2:=cL x h;omega
   ·have h3:=B0.size;omega
  have OB9:DBox ob [.int .i64 y.now,.int .i64 y.seq,.slice B1 m1 e1,.slice A9 n9 c9] (w8.setCell ⟨ob,3,Ab⟩ (.slice A9 n9 c9)):=OB8.set 3 Bm _;have RES9:=(RES.below B8).setOther (a:=⟨ob,3,Ab⟩) (by show w.heap.size+1≠ob;omega) (.slice A9 n9 c9);have oy9:Bu.ow (w8.setCell ⟨ob,3,Ab⟩ (.slice A9 n9 c9)) F8 ⟨y.now,y.seq,y.shelf,y.runs.take k ++ y.runs.drop (k+1)⟩ (⟨B1,m1,e1⟩,⟨A9,n9,c9⟩):=Bu.ow_set (F:=F8) (x:=⟨y.now,y.seq,y.shelf,y.runs.take k ++ y.runs.drop (k+1)⟩) (s:=(⟨B1,m1,e1⟩,⟨A9,n9,c9⟩)) oy8 (a:=⟨ob,3,Ab⟩) (fun hx=>(dY _ hx).2 rfl) _;have B9:Below w w (w8.setCell ⟨ob,3,Ab⟩ (.slice A9 n9 c9)):=Ad (Bs B0 B8) (by show w.heap.size<=ob;omega) _;have kG:ob<(w8.setCell ⟨ob,3,Ab⟩ (.slice A9 n9 c9)):=OB9.lt;have dA:=Bp (show m1=y.shelf.length from RdL.at1 (s:=⟨B1,m1,e1⟩) (Bu.ow_rd (F:=F8) (x:=⟨y.now,y.seq,y.shelf,y.runs.take k ++ y.runs.drop (k+1)⟩) oy9).1);have hsh4:=Bp (show y.shelf.length=4 from P0.out.2.2.1);have hsh80:=Bp (fun (i:Nat) (hi:i<y.shelf.length)=>(P0.out.2.2.2.1 _ (Aw hi)).1);obtain ⟨i0,aL,aR,aS,aP⟩:=info_parts Fw;clear OB_0 OB_1 OB_2 OB_3 OB_l;clear OB RES OB8 oy8 o8 o7 OB7 OB6 o6 OB5 b5 b6 B6 B7 hHeld q3 qf ql gg7 gg8 f7 f8 kF hrd0 a0 a1 jT oy B8 kY hg7s;generalize y.runs.take k ++ y.runs.drop (k+1)=RR at *
  generalize w8.setCell ⟨ob,3,Ab⟩ (.slice A9 n9 c9)=w9 at *
  have OB9_:=OB9.g4;go_wp2;go_loopw [8,9,10] (fun iv u1 u2 wr=>∃ (i:Nat) (F:List Nat),i<=y.shelf.length/\iv = .int .i64 i/\Hid (Bu.ow wr F ⟨y.now,y.seq,(y.shelf.take i).map (Di id) ++ y.shelf.drop i,RR⟩ (⟨B1,m1,e1⟩,⟨A9,n9,c9⟩))/\Hid (∀ x∈F,w.heap.size+1<x/\x≠ob)/\DBox ob [.int .i64 y.now,.int .i64 y.seq,.slice B1 m1 e1,.slice A9 n9 c9] wr/\DBox (w.heap.size+1) [.int .i64 0,.int .i64 0,.slice Ab 0 0,.slice Ab 0 0] wr/\Below w w wr/\ob<wr) (fun i _ _ _=>y.shelf.length - (intOf i).toNat);case atStart=>exact ⟨0,F8,Ag _,rfl,by show Bu.ow w9 F8 ⟨y.now,y.seq,(y.shelf.take 0).map (Di id) ++ y.shelf.drop 0,RR⟩ (⟨B1,m1,e1⟩,⟨A9,n9,c9⟩);simpa using oy9,dY,OB9,RES9,B9,kG⟩
  case round =>
   clear OB9_;clear OB9 RES9 oy9 B9 kG dY;obtain ⟨i,F,hi,rfl,oy,hF,OB,RES,hb,mI⟩:=hrel;rename World=>wo;have h4:=hsh4.out;replace h4:=Bp h4;have hRl9:=RES.lt;obtain ⟨OB_0,OB_1,OB_2,OB_3,OB_l⟩:=OB.g4;by_cases aA:i<y.shelf.length
   ·have aB:(i:Int)<(m1:Int):=by have:=dA.out;omega
    have hi00:(0:Int)<=(i:Int):=Bk;have nA:i<((y.shelf.take i).map (Di id) ++ y.shelf.drop i).length:=by simp;omega
    obtain ⟨g,o,⟨xa,xn,xc⟩,rfl,gV,dU,ch⟩:=RdL.entryS (show RdL (Dt.list Cg) wo wo.heap.size (.slice B1 m1 e1) ((y.shelf.take i).map (Di id) ++ y.shelf.drop i) from (Bu.ow_rd (F:=F) (x:=⟨y.now,y.seq,(y.shelf.take i).map (Di id) ++ y.shelf.drop i,RR⟩) oy.out).1) nA;rw [Aak (Di id) aA nA] at dU;replace dU:RdL Cg wo wo (.slice xa xn xc) y.shelf[i]:=dU;have hxn:xn=y.shelf[i].length:=RdL.at1 (s:=⟨xa,xn,xc⟩) dU;subst hxn;have h80:=hsh80.out i aA;have sU:i<=3:=by have:=h4.out;omega
    have gL:∀ j,wo.frozen? ⟨g,j,Ab⟩=false:=by
     obtain ⟨G1,G2,_,_,os,_⟩:=oy.out;exact OwL.free0 (show OwL (Dt.list Cg) wo G1 (.slice (Ac ⟨g,o,Ab⟩) m1 e1) _ from os) (Nat.lt_of_le_of_lt (Ag _) nA)
    have dX:=Bp (Sq (Di id) aA);have q0:Below wo wo (wo.alloc (.cells #[] 93)):=(Bq _ _).alloc (Br _) _;have o0:=Ow.empty Cu 93 wo rfl;generalize y.shelf[i]=SH at *
    go_wp2;go_loopw [9,10] (fun v j wr=>∃ m:Nat,m<=SH.length/\j = .int .i64 m/\Hid (Ow Cu 93 wr wo v (Di id (SH.take m)))/\Below wo wo wr) (fun _ j _=>SH.length - (intOf j).toNat);case atStart=>exact ⟨0,Ag _,rfl,o0,q0⟩
    case round =>
     clear o0 q0;obtain ⟨m,hm_,rfl,hO,dW⟩:=hrel;clear OB_0 OB_1 OB_2 OB_3 OB_l;have OB2:=OB.below dW;have OB2_:=OB2.g4;have ch2:=(dW.cell (p:=⟨g,_,Ab⟩) gV).trans ch;have hwis:=dW.size;by_cases aX:m<SH.length
     ·have hltI2:(m:Int)<(SH.length:Int):=Bk;have rN:(0:Int)<=(m:Int):=Bk;obtain ⟨ge,oe,_,rfl,rL,_,d0,d1,d2,d3⟩:=(dU.below dW).entry aX;have Hl:=Bp (show (Di id (SH.take m)).length<=3000000 by have h1:=List.length_filter_le (fun e:Entry=>e.run != id) (SH.take m);rw [Az] at h1;unfold Di;omega);cases q:(SH[m].run != id)
      ·have S:=Bp (show Di id (SH.take (m+1))=Di id (SH.take m) from K4 (p:=fun e:Entry=>e.run != id) aX q);go_wp2;exact ⟨⟨m+1,Bk,by go_num,by rw [S.out];exact hO,dW⟩,by simp [intOf];omega⟩
      ·have S:=Bp (show Di id (SH.take (m+1))=Di id (SH.take m) ++ [SH[m]] from J4 (p:=fun e:Entry=>e.run != id) aX q);generalize SH[m]=e9 at *
       have ha:Hid (∀ w:World,Below w w (w.alloc (.cells #[.int .i64 e9.prio,.int .i64 e9.seq,.int .i64 e9.run,.int .i64 e9.task] 93))):=fun w=>(Bq _ _).alloc (Br _) _;have eV:=hO.out;go_wp2_with (at_builtin;go_loud (refine Bz _ Cu Bo rfl (.tmp 76) (.tmp 85) rfl Tryz.underlying96 aL aR aS aP rfl (base:=wo.heap.size) (l:=Di id (SH.take m)) rfl (eV.below (ha.out _)) rfl (Rd.one Cu _ _ e9 rfl rfl 1 (Br _) (Nat.lt_succ_self _)) Hl.out Bm Bo (by simp;omega) ?_);intro v5 w5 o5 g5 _)
       have eE:Below wo wo w5:=(Bs dW (ha.out _)).grown g5 (Bs dW (ha.out _)).size (fun g hg=>by have:=eV.within _ hg;omega);exact ⟨⟨m+1,Bk,by go_num,by rw [S.out];exact o5,eE⟩,by simp [intOf];omega⟩
     ·have hltI2:¬ (m:Int)<(SH.length:Int):=Bk;have dJ:=hO.out;rw [Bf Bk] at dJ;obtain ⟨⟨a8,n8,c8⟩,Ft,rfl,o9,nF9⟩:=Ha dJ;have oy2:Bu.ow wr F ⟨y.now,y.seq,(y.shelf.take i).map (Di id) ++ y.shelf.drop i,RR⟩ (⟨Ac ⟨g,o,Ab⟩,m1,e1⟩,⟨A9,n9,c9⟩):=owB oy.out dW;have hFlt2:∀ x∈F,x<wo:=Bu.ow_lt (F:=F) (x:=⟨y.now,y.seq,(y.shelf.take i).map (Di id) ++ y.shelf.drop i,RR⟩) (s:=(⟨Ac ⟨g,o,Ab⟩,m1,e1⟩,⟨A9,n9,c9⟩)) oy.out;obtain ⟨F',p1,p2,p3⟩:=Gf oy2 nA (l:=Di id SH) (t:=⟨a8,n8,c8⟩) o9 (fun x hx bF=>by have h1:=nF9 x hx;have h2:=hFlt2 x bF;omega);dsimp only at p1;rw [dX.out] at p1;have hgn:=hF.out g p3;have hfg2:∀ j,wr.frozen? ⟨g,j,Ab⟩=false:=fun j=>(dW.frozen (p:=⟨g,j,Ab⟩) gV).trans (gL j);have OB3:=OB2.setOther (a:=⟨g,o+i,Ab⟩) (by show ob≠g;omega) (.slice a8 n8 c8);have RES3:=(RES.below dW).setOther (a:=⟨g,o+i,Ab⟩) (by show w.heap.size+1≠g;omega) (.slice a8 n8 c8);have bY:Below w w (wr.setCell ⟨g,o+i,Ab⟩ (.slice a8 n8 c8)):=Ad (Bs hb dW) (by show w.heap.size<=g;omega) _;have hF3:Hid (∀ x∈F',w.heap.size+1<x/\x≠ob):=fun x hx=>by
       rcases p2 x hx with h | h
       ·exact hF.out x h
       ·have:=nF9 x h;omega
      have kS:=OB3.lt;clear hO dJ dX o9 gL;go_wp2;exact ⟨⟨i+1,F',Bk,by go_num,p1,hF3,OB3,RES3,bY,kS⟩,by simp [intOf];omega⟩
   ·have aB:¬ (i:Int)<(m1:Int):=by have:=dA.out;omega
    have hii:i=y.shelf.length:=Bk;have oyz:=oy.out;rw [Bf Bk,List.drop_eq_nil_of_le Bk,List.append_nil] at oyz;have rf:=RES.free;have RES_:=RES.g4;clear hii oy;go_wp2;have en1:w.heap.size+1∉F:=fun hx=>by have:=hF.out _ hx;omega
    refine Aj (K8 (DBox.row4 RES rfl _ _ _ _)) rfl ⟨(⟨B1,m1,e1⟩,⟨A9,n9,c9⟩),F,by rw [H.out,H2.out],by rw [H2.out];exact (by (repeat (refine Dt.ow_set Bu ?_ en1 _));exact (show Bu.ow _ F ⟨y.now,y.seq,y.shelf.map (Di id),RR⟩ (⟨B1,m1,e1⟩,⟨A9,n9,c9⟩) from oyz)),fun x hx=>by have:=hF.out x hx;omega,?_⟩;repeat (first | (with_reducible exact hb) | refine Ad ?_ Bn _)
end
end Go.Proofs.YtonlnjdempbfoaaGreat
