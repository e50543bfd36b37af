/-
  Complete and Fail of the program. slices.Delete at runs: one run is cut out of a slice of the call's own, in place. LateOf of the program. Restart of the refere
-/
import Derived.Test.YtecnbnbopcblgaaGreatZVw5
import Derived.Test.YtecnbnbopcblgaaGreatZVw6
import Derived.Test.YtecnbnbopcblgaaGreatZVw8
import Derived.Test.YtecnbnbopcblgaaGreatZVw9
import Derived.Test.YtecnbnbopcblgaaGreatZVw10
import Derived.Test.YtecnbnbopcblgaaGreatZVw11
import Derived.Test.YtecnbnbopcblgaaGreatZVw12
import Derived.Test.YtecnbnbopcblgaaGreatZVw13
namespace Go.Proofs.YtecnbnbopcblgaaGreat
open Go.RowKit
set_option maxRecDepth 100000
set_option maxHeartbeats 4000000
set_option linter.unusedVariables false
set_option linter.unusedSimpArgs false
open Value renaming int->J,slice->Aa
open IntKind renaming i64->Ab
open Option renaming none->Ac,some->Ad
open Below renaming setCell->Ae
open Nat renaming zero_le->Ah,le_trans->Ai
open Go renaming bodyPost_ret->Ak,wpAnyH_done->Am
open Go.Proofs.Tryz renaming prog->An
open Int renaming toNat_natCast->Ap
open IntWalk renaming i64_in->Ar
open List renaming length_map->Au,nodup_append->Ay,length_take->A0,length_append->Bd,mem_append_left->Bf,mem_append->Bi
open World renaming size_alloc->Bj
open Go.Proofs.Tryz
theorem Qw {b:Nat} {w:World} {u0 u1 u2 u3:Value} (X:DBox b [u0,u1,u2,u3] w) {v0 v1 v2 v3 v4 v5 v6 v7 v9:Value} {rest:List Value} :
  (results Tryz.f133 (v0 :: v1 :: v2 :: v3 :: v4 :: v5 :: v6 :: v7 :: .pointer (Ad ⟨b,0,Ac⟩) :: v9 :: rest).toArray).run An w = .ok (.tuple #[.agg #[u0,u1,u2,u3],v9]) w:=by
 obtain ⟨c0,c1,c2,c3,-⟩:=X.g4;simp [results,results133,go_sem,c0,c1,c2,c3]
theorem Z7 {b:Nat} {w:World} {u0 u1 u2 u3:Value} (X:DBox b [u0,u1,u2,u3] w) {v0 v1 v2 v3 v4 v5 v6 v7 v9:Value} {rest:List Value} :
  (results Tryz.f134 (v0 :: v1 :: v2 :: v3 :: v4 :: v5 :: v6 :: v7 :: .pointer (Ad ⟨b,0,Ac⟩) :: v9 :: rest).toArray).run An w = .ok (.tuple #[.agg #[u0,u1,u2,u3],v9]) w:=by
 obtain ⟨c0,c1,c2,c3,-⟩:=X.g4;simp [results,results134,go_sem,c0,c1,c2,c3]
theorem Y7 (gr o n c:Nat) (rs:List (Run×Cn.S)) (k:Nat) (G1 Fx G2:List Nat) (r:Run) (s:Sl×Sl) (u p:Nat) (w:World) (hp:w.cell? ⟨p,0,Ac⟩=Ad (J Ab u)) (hp':p<w) (hR:Iu r u) (hF:Foc Cn w gr o n c rs k G1 Fx G2 r s) :
  Calls An 211 #[.pointer (Ad ⟨gr,o+k * 8,Ac⟩),.pointer (Ad ⟨p,0,Ac⟩)] w (I1 gr o n c rs k G1 Fx G2 (Gs r u) s w):=by
 have C:=Bq (Aba gr o n c rs k G1 Fx G2 r s u w hR hF);go_enter func211,ntmps211;go_wp2_with fail
 refine C.out.mono ?_;rintro e w1 ⟨rfl,h1,h2⟩;have HF:=Bq (show I1 gr o n c rs k G1 Fx G2 (Gs r u) s w (.returned (.tuple #[])) w1 from ⟨rfl,h1,h2⟩);clear h1 h2 C;go_wp2;exact Ak (v:=.tuple #[]) (by simp [results,results211,go_sem]) rfl HF.out
theorem Ags (gr o n c:Nat) (rs:List (Run×Cn.S)) (k:Nat) (G1 Fx G2:List Nat) (r:Run) (s:Sl×Sl) (u p:Nat) (w:World) (hp:w.cell? ⟨p,0,Ac⟩=Ad (J Ab u)) (hp':p<w) (hR:Iu r u) (hF:Foc Cn w gr o n c rs k G1 Fx G2 r s) :
  Calls An 213 #[.pointer (Ad ⟨gr,o+k * 8,Ac⟩),.pointer (Ad ⟨p,0,Ac⟩)] w (I1 gr o n c rs k G1 Fx G2 (Dm r u) s w):=by
 have C:=Bq (Na gr o n c rs k G1 Fx G2 r s u w (by have:=D4 hR.1;omega) hR hF);go_enter func213,ntmps213;go_wp2_with fail
 refine C.out.mono ?_;rintro e w1 ⟨rfl,h1,h2⟩;have HF:=Bq (show I1 gr o n c rs k G1 Fx G2 (Dm r u) s w (.returned (.tuple #[])) w1 from ⟨rfl,h1,h2⟩);clear h1 h2 C;go_wp2;exact Ak (v:=.tuple #[]) (by simp [results,results213,go_sem]) rfl HF.out
theorem Afr {y:Yard} {id tk tr:Int} (q:G6 y id tk tr=0):Dn y /\ ∃ k,∃ hk:k<y.runs.length,∃ u:Nat,Db y id=(k:Int)/\Ij y id=y.runs[k]/\tk=(u:Int)/\Iu y.runs[k] u:=by
 unfold G6 at q;by_cases p0:Dn y
 ·by_cases p1:Db y id<0
  ·rw [if_neg (fun h=>h p0),if_pos p1] at q;cases q
  ·by_cases p2:Gq y id tk tr
   ·rcases Ek y id with hr | ⟨k,hk,hr⟩
    ·omega
    ·have HK:=Ey hk hr;have cU:(0<=tk/\tk<(y.runs[k].tasks.length:Int))/\(By y.runs[k] tk.toNat).state=3:=by
      unfold Gq at p2;rw [HK] at p2;exact ⟨p2.2.1,p2.2.2.1⟩
     obtain ⟨u,rfl⟩:=Int.eq_ofNat_of_zero_le cU.1.1;exact ⟨p0,k,hk,u,hr,HK,rfl,Er p0 hk,⟨Bl,by have:=cU.1.2;omega⟩,cU.2⟩
   ·rw [if_neg (fun h=>h p0),if_neg p1,if_pos p2] at q;cases q
 ·rw [if_pos p0] at q;cases q
theorem Tj (y:Yard) (s:Sl×Sl) (id tk tr:Int) (w:World) (hl:Cf y<=2000000) (h:Bu.rd w w y s) :
  Calls An 133 #[Dh y s,J Ab id,J Ab tk,J Ab tr] w (I7 (Kc y id tk tr) (G6 y id tk tr) w):=by
 have HR:=Bq (show ∀ W,Below w w W->Bu.rd W W y s from fun W hW=>Bu.rd_more (Bu.rd_below h hW) hW.size);obtain ⟨⟨A1,n1,c1⟩,⟨A2,n2,c2⟩⟩:=s;have CC:=Bq (fun W hW=>Gj y (⟨A1,n1,c1⟩,⟨A2,n2,c2⟩) W hl (HR.out W hW));have CK:=Bq (fun W hW=>Sj y (⟨A1,n1,c1⟩,⟨A2,n2,c2⟩) id tk tr W hl (HR.out W hW));have CA:=Bq (fun W hW=>Ep y (⟨A1,n1,c1⟩,⟨A2,n2,c2⟩) id W hl (HR.out W hW));clear h;obtain ⟨W,aG,X,T,RES,B0⟩:=bx3 w 31 [J Ab y.now,J Ab y.seq,Aa A1 n1 c1,Aa A2 n2 c2] 3 [J Ab tk] 31 [J Ab 0,J Ab 0,Aa Ac 0 0,Aa Ac 0 0];go_enter func133,ntmps133;go_wp2_with fail
 rw [<-aG.out];clear aG;refine (CC.out _ B0).mono ?_;rintro e1 w1 ⟨⟨⟨B1,m1,e1⟩,⟨B2,m2,e2⟩⟩,F,rfl,oy,nF,b1⟩;have dL:=RES.lt;have b2:Below w1 w1 (w1.alloc (.cells #[J Ab y.now,J Ab y.seq,Aa B1 m1 e1,Aa B2 m2 e2] 31)):=Bt;have OB:DBox w1 (Ev y (⟨B1,m1,e1⟩,⟨B2,m2,e2⟩)) _:=DBox.new 31 [J Ab y.now,J Ab y.seq,Aa B1 m1 e1,Aa B2 m2 e2] w1 (b:=w1) rfl;have bM:=Bq (Bu.ow_lt (F:=F) (x:=y) (s:=(⟨B1,m1,e1⟩,⟨B2,m2,e2⟩)) oy);have cM:=Bq (show ∀ x∈F,w.heap.size+3<=x from fun x hx=>by have:=nF x hx;omega);replace oy:Bu.ow _ F y (⟨B1,m1,e1⟩,⟨B2,m2,e2⟩):=owB oy b2;have b12:=Bv b1 b2;replace X:=X.below b12;replace T:=T.below b12;replace RES:=RES.below b12;replace B0:=Bv B0 b12;have bG:=b1.size;clear b1 b2 b12 CC nF;go_upto_region 2 with fail
 have cR:w1.heap.size∉F:=fun h=>by have:=bM.out _ h;omega
 generalize w1.heap.size=ob at *
 generalize w1.alloc (.cells #[J Ab y.now,J Ab y.seq,Aa B1 m1 e1,Aa B2 m2 e2] 31)=w2 at *
 have X_:=X.g4;obtain ⟨T_0,T_l⟩:=T.g1;go_wp2_with fail
 refine (CK.out _ B0).mono ?_;rintro e1' w3 ⟨rfl,b3⟩;clear X_;clear T_0 T_l;replace X:=X.below b3;replace T:=T.below b3;replace RES:=RES.below b3;replace OB:=OB.below b3;replace B0:=Bv B0 b3;replace oy:Bu.ow w3 F y (⟨B1,m1,e1⟩,⟨B2,m2,e2⟩):=owB oy b3;clear b3 CK;by_cases q:G6 y id tk tr=0;case neg =>
  have q2:(G6 y id tk tr == 0)=false:=beq_eq_false_iff_ne.2 q;have H:=Bq (show Kc y id tk tr=y from if_neg q);clear q;have RES_:=RES.g4;have OB_:=OB.g4;have rf:=RES.free;go_wp2;have en1:w.heap.size+1+1∉F:=fun hx=>by have:=cM.out _ hx;omega
  refine Ak (Qw (DBox.row4 RES rfl _ _ _ _)) rfl ⟨(⟨B1,m1,e1⟩,⟨B2,m2,e2⟩),F,by rw [H.out],by rw [H.out];exact Bu.set4 (F:=F) (x:=y) (s:=(⟨B1,m1,e1⟩,⟨B2,m2,e2⟩)) oy en1,fun x hx=>by have:=cM.out x hx;omega,?_⟩;repeat (first | (with_reducible exact B0) | refine Ae ?_ Bo _)
 have q2:(G6 y id tk tr == 0)=true:=by simp [q]
 have H:=Bq (show Kc y id tk tr=E0 y (Db y id).toNat (Gs (Ij y id) tk.toNat) from if_pos q);obtain ⟨nN,k,hk,u,hr,tU,rfl,aL⟩:=Afr q;have HR2:=Bq hr;have HK:=Bq tU;have nN:=Bq nN;have aL:=Bq aL;clear hr tU q;have X_:=X.g4;go_wp2_with fail
 refine (CA.out _ B0).mono ?_;rintro e2' w4 ⟨rfl,b4⟩;rw [HR2.out];clear X_;replace T:=T.below b4;replace RES:=RES.below b4;replace OB:=OB.below b4;replace B0:=Bv B0 b4;replace oy:Bu.ow w4 F y (⟨B1,m1,e1⟩,⟨B2,m2,e2⟩):=owB oy b4;clear b4 CA X;have qT:=T.lt;have CH:=Bq (Kt 211 (w+1) (N0 func211 Bm Bm) y ob (⟨B1,m1,e1⟩,⟨B2,m2,e2⟩) F k (Gs y.runs[k] u) w4 nN.out.2.2.1 (fun s hs=>by have:=(nN.out.2.2.2.1 s hs).1;omega) (by have:=nN.out.2.1;omega) hk (by rw [Ns];have:=D4 aL.out.1;omega) (by have:=D4 aL.out.1;omega) OB oy cR
  (Bq fun W gr o n c rs G1 Fx G2 sr hW hF=>Y7 gr o n c rs k G1 Fx G2 y.runs[k] sr u (w+1) W ((T.below hW).cell 0 _ rfl) (T.below hW).lt aL.out hF))
 go_wp2_with fail
 refine CH.out.mono ?_;rintro e3 w5 ⟨rfl,F',OB',oy',nF',hc⟩;have H2:Kc y id u tr=E0 y k (Gs y.runs[k] u):=by rw [H.out,HR2.out,HK.out];rfl
 rw [<-H2] at OB' oy';clear H2;have bJ:=B0.size;replace B0:=B0.trans (hc.below (base:=w) bJ (fun x hx=>by
  rcases List.mem_cons.1 hx with rfl | hx
  ·omega
  ·have:=cM.out x hx;omega))
 have sZ:w.heap.size+1+1∉ob :: F:=fun hx=>by
  rcases List.mem_cons.1 hx with e | hx
  ·omega
  ·have:=cM.out _ hx;omega
 have RL:=RES.lt;replace RES:=RES.chg hc sZ;clear OB CH T hc;have OB:=OB';have RES_:=RES.g4;have OB_:=OB.g4;have rf:=RES.free;go_wp2;have en1:w.heap.size+1+1∉F':=fun hx=>by rcases nF' _ hx with h | h;exact sZ (List.mem_cons_of_mem _ h);omega
 refine Ak (Qw (DBox.row4 RES rfl _ _ _ _)) rfl ⟨(⟨B1,m1,e1⟩,⟨B2,m2,e2⟩),F',rfl,Bu.set4 (F:=F') (x:=Kc y id u tr) (s:=(⟨B1,m1,e1⟩,⟨B2,m2,e2⟩)) oy' en1,fun x hx=>by rcases nF' x hx with h | h;(have:=cM.out x h;omega);omega,?_⟩;repeat (first | (with_reducible exact B0) | refine Ae ?_ Bo _)
theorem Abi (y:Yard) (s:Sl×Sl) (id tk tr:Int) (w:World) (hl:Cf y<=2000000) (h:Bu.rd w w y s) :
  Calls An 134 #[Dh y s,J Ab id,J Ab tk,J Ab tr] w (I7 (Ka y id tk tr) (G6 y id tk tr) w):=by
 have HR:=Bq (show ∀ W,Below w w W->Bu.rd W W y s from fun W hW=>Bu.rd_more (Bu.rd_below h hW) hW.size);obtain ⟨⟨A1,n1,c1⟩,⟨A2,n2,c2⟩⟩:=s;have CC:=Bq (fun W hW=>Gj y (⟨A1,n1,c1⟩,⟨A2,n2,c2⟩) W hl (HR.out W hW));have CK:=Bq (fun W hW=>Sj y (⟨A1,n1,c1⟩,⟨A2,n2,c2⟩) id tk tr W hl (HR.out W hW));have CA:=Bq (fun W hW=>Ep y (⟨A1,n1,c1⟩,⟨A2,n2,c2⟩) id W hl (HR.out W hW));clear h;obtain ⟨W,aG,X,T,RES,B0⟩:=bx3 w 31 [J Ab y.now,J Ab y.seq,Aa A1 n1 c1,Aa A2 n2 c2] 3 [J Ab tk] 31 [J Ab 0,J Ab 0,Aa Ac 0 0,Aa Ac 0 0];go_enter func134,ntmps134;go_wp2_with fail
 rw [<-aG.out];clear aG;refine (CC.out _ B0).mono ?_;rintro e1 w1 ⟨⟨⟨B1,m1,e1⟩,⟨B2,m2,e2⟩⟩,F,rfl,oy,nF,b1⟩;have dL:=RES.lt;have b2:Below w1 w1 (w1.alloc (.cells #[J Ab y.now,J Ab y.seq,Aa B1 m1 e1,Aa B2 m2 e2] 31)):=Bt;have OB:DBox w1 (Ev y (⟨B1,m1,e1⟩,⟨B2,m2,e2⟩)) _:=DBox.new 31 [J Ab y.now,J Ab y.seq,Aa B1 m1 e1,Aa B2 m2 e2] w1 (b:=w1) rfl;have bM:=Bq (Bu.ow_lt (F:=F) (x:=y) (s:=(⟨B1,m1,e1⟩,⟨B2,m2,e2⟩)) oy);have cM:=Bq (show ∀ x∈F,w.heap.size+3<=x from fun x hx=>by have:=nF x hx;omega);replace oy:Bu.ow _ F y (⟨B1,m1,e1⟩,⟨B2,m2,e2⟩):=owB oy b2;have b12:=Bv b1 b2;replace X:=X.below b12;replace T:=T.below b12;replace RES:=RES.below b12;replace B0:=Bv B0 b12;have bG:=b1.size;clear b1 b2 b12 CC nF;go_upto_region 2 with fail
 have cR:w1.heap.size∉F:=fun h=>by have:=bM.out _ h;omega
 generalize w1.heap.size=ob at *
 generalize w1.alloc (.cells #[J Ab y.now,J Ab y.seq,Aa B1 m1 e1,Aa B2 m2 e2] 31)=w2 at *
 have X_:=X.g4;obtain ⟨T_0,T_l⟩:=T.g1;go_wp2_with fail
 refine (CK.out _ B0).mono ?_;rintro e1' w3 ⟨rfl,b3⟩;clear X_;clear T_0 T_l;replace X:=X.below b3;replace T:=T.below b3;replace RES:=RES.below b3;replace OB:=OB.below b3;replace B0:=Bv B0 b3;replace oy:Bu.ow w3 F y (⟨B1,m1,e1⟩,⟨B2,m2,e2⟩):=owB oy b3;clear b3 CK;by_cases q:G6 y id tk tr=0;case neg =>
  have q2:(G6 y id tk tr == 0)=false:=beq_eq_false_iff_ne.2 q;have H:=Bq (show Ka y id tk tr=y from if_neg q);clear q;have RES_:=RES.g4;have OB_:=OB.g4;have rf:=RES.free;go_wp2;have en1:w.heap.size+1+1∉F:=fun hx=>by have:=cM.out _ hx;omega
  refine Ak (Z7 (DBox.row4 RES rfl _ _ _ _)) rfl ⟨(⟨B1,m1,e1⟩,⟨B2,m2,e2⟩),F,by rw [H.out],by rw [H.out];exact Bu.set4 (F:=F) (x:=y) (s:=(⟨B1,m1,e1⟩,⟨B2,m2,e2⟩)) oy en1,fun x hx=>by have:=cM.out x hx;omega,?_⟩;repeat (first | (with_reducible exact B0) | refine Ae ?_ Bo _)
 have q2:(G6 y id tk tr == 0)=true:=by simp [q]
 have H:=Bq (show Ka y id tk tr=E0 y (Db y id).toNat (Dm (Ij y id) tk.toNat) from if_pos q);obtain ⟨nN,k,hk,u,hr,tU,rfl,aL⟩:=Afr q;have HR2:=Bq hr;have HK:=Bq tU;have nN:=Bq nN;have aL:=Bq aL;clear hr tU q;have X_:=X.g4;go_wp2_with fail
 refine (CA.out _ B0).mono ?_;rintro e2' w4 ⟨rfl,b4⟩;rw [HR2.out];clear X_;replace T:=T.below b4;replace RES:=RES.below b4;replace OB:=OB.below b4;replace B0:=Bv B0 b4;replace oy:Bu.ow w4 F y (⟨B1,m1,e1⟩,⟨B2,m2,e2⟩):=owB oy b4;clear b4 CA X;have qT:=T.lt;have CH:=Bq (Kt 213 (w+1) (N0 func213 Bm Bm) y ob (⟨B1,m1,e1⟩,⟨B2,m2,e2⟩) F k (Dm y.runs[k] u) w4 nN.out.2.2.1 (fun s hs=>by have:=(nN.out.2.2.2.1 s hs).1;omega) (by have:=nN.out.2.1;omega) hk (by rw [Hd];have:=D4 aL.out.1;omega) (by have:=D4 aL.out.1;omega) OB oy cR
  (Bq fun W gr o n c rs G1 Fx G2 sr hW hF=>Ags gr o n c rs k G1 Fx G2 y.runs[k] sr u (w+1) W ((T.below hW).cell 0 _ rfl) (T.below hW).lt aL.out hF))
 go_wp2_with fail
 refine CH.out.mono ?_;rintro e3 w5 ⟨rfl,F',OB',oy',nF',hc⟩;have H2:Ka y id u tr=E0 y k (Dm y.runs[k] u):=by rw [H.out,HR2.out,HK.out];rfl
 rw [<-H2] at OB' oy';clear H2;have bJ:=B0.size;replace B0:=B0.trans (hc.below (base:=w) bJ (fun x hx=>by
  rcases List.mem_cons.1 hx with rfl | hx
  ·omega
  ·have:=cM.out x hx;omega))
 have sZ:w.heap.size+1+1∉ob :: F:=fun hx=>by
  rcases List.mem_cons.1 hx with e | hx
  ·omega
  ·have:=cM.out _ hx;omega
 have RL:=RES.lt;replace RES:=RES.chg hc sZ;clear OB CH T hc;have OB:=OB';have RES_:=RES.g4;have OB_:=OB.g4;have rf:=RES.free;go_wp2;have en1:w.heap.size+1+1∉F':=fun hx=>by rcases nF' _ hx with h | h;exact sZ (List.mem_cons_of_mem _ h);omega
 refine Ak (Z7 (DBox.row4 RES rfl _ _ _ _)) rfl ⟨(⟨B1,m1,e1⟩,⟨B2,m2,e2⟩),F',rfl,Bu.set4 (F:=F') (x:=Ka y id u tr) (s:=(⟨B1,m1,e1⟩,⟨B2,m2,e2⟩)) oy' en1,fun x hx=>by rcases nF' x hx with h | h;(have:=cM.out x h;omega);omega,?_⟩;repeat (first | (with_reducible exact B0) | refine Ae ?_ Bo _)
theorem Enc.flat_take {α:Type} (e:Enc α) (l:List α) (k:Nat) (hk:k<=l.length):(l.take k).flatMap e.cells=(l.flatMap e.cells).take (k * e.sz):=by
 have h:l.flatMap e.cells=(l.take k).flatMap e.cells ++ (l.drop k).flatMap e.cells:=by rw [<-List.flatMap_append,List.take_append_drop]
 rw [h,List.take_left' (by rw [e.flat_length,A0,Nat.min_eq_left hk])]
theorem Enc.flat_drop {α:Type} (e:Enc α) (l:List α) (k:Nat) (hk:k<=l.length):(l.drop k).flatMap e.cells=(l.flatMap e.cells).drop (k * e.sz):=by
 have h:l.flatMap e.cells=(l.take k).flatMap e.cells ++ (l.drop k).flatMap e.cells:=by rw [<-List.flatMap_append,List.take_append_drop]
 rw [h,List.drop_left' (by rw [e.flat_length,A0,Nat.min_eq_left hk])]
theorem Vh {α:Type} {P:Program} (w:World) (t ty E:TypeId) (i:TypeInfo) (ht:P.underlying t=Ad (.slice E)) (hi:P.info? E=Ad i) {e:Enc α} (cF:i.size=e.sz) (bJ:0<e.sz) {base g n cap B:Nat} {l:List α}
  (h:Ow e E w base (Aa (Ad ⟨g,0,Ac⟩) n cap) l) (k:Nat) (ad:Addr) (m c:Nat) (ys:List α) (hr:Rd e w B (Aa (Ad ad) m c) ys) (dZ:k+m<=l.length) :
  ∃ w',(Builtin.append_ #[t,t] ty #[Aa (Ad ⟨g,0,Ac⟩) k cap,Aa (Ad ad) m c]).run P w = .ok (Aa (Ad ⟨g,0,Ac⟩) (k+m) cap) w' /\
   Ow e E w' base (Aa (Ad ⟨g,0,Ac⟩) n cap) (l.take k ++ ys ++ l.drop (k+m))/\w.grownBy w' (Ad g):=by
 obtain ⟨rfl,hA⟩:=Afb bJ hr;have hnews:∀ j u,(ys.flatMap e.cells)[j]? = Ad u->w.cell? (ad.add j)=Ad u:=by
  intro j u hu;rcases Nat.eq_zero_or_pos ys.length with h0 | h0
  ·rw [List.eq_nil_of_length_eq_zero h0] at hu;simp at hu
  ·obtain ⟨a',ha,hc⟩:=hA h0;injection ha with ha
   subst ha;exact hc j u hu
 have h1:∀ u∈ys.flatMap e.cells,u.oneCell'=true:=by
  intro u hu;obtain ⟨y,_,hy⟩:=List.mem_flatMap.1 hu;exact e.one y u hy
 obtain ⟨jZ,h2⟩:=h;rcases h2 with ⟨hv,_⟩ | ⟨g',cap',cur,hv,hb,hg,hc,hm,hs,cU⟩
 ·simp at hv
 simp only [Value.slice.injEq,Option.some.injEq,Addr.mk.injEq,and_true] at hv;obtain ⟨rfl,rfl,rfl⟩:=hv;have hkm:(k+ys.length) * e.sz<=l.length * e.sz:=Nat.mul_le_mul_right _ dZ;have pZ:l.length * e.sz<=cap * e.sz:=Nat.mul_le_mul_right _ hc;rw [Nat.add_mul] at hkm;have hX:(l.flatMap e.cells).length=l.length * e.sz:=e.flat_length l;have hY:(ys.flatMap e.cells).length=ys.length * e.sz:=e.flat_length ys;have cZ:=run_append_room (P:=P) w t ty E i ht hi g k cap cur hg ad ys.length c (ys.flatMap e.cells) (by rw [e.flat_length,cF]) hnews h1 Bl (by rw [e.flat_length,cF,hs];omega);have hL:(l.take k ++ ys ++ l.drop (k+ys.length)).length=l.length:=by simp;omega
 refine ⟨_,cZ,⟨by rw [e.flat_length],.inr ⟨g,cap,_,by rw [hL],hb,setRow_heap w g cur _ E _ hg,by rw [hL];exact hc,hm,?_,?_⟩⟩,⟨rfl,rfl,rfl,Bn,fun j _ hj=>setRow_other w g j _ (fun e=>hj (by rw [e]))⟩⟩
 ·simp only [List.size_toArray,Bd,A0,List.length_drop,Array.length_toList,hY,cF,hs];omega
 ·rw [hL,List.flatMap_append,List.flatMap_append,e.flat_take l k Bl,e.flat_drop l _ dZ,cF,hY];obtain ⟨R,hT⟩:∃ R,cur.toList=l.flatMap e.cells ++ R:=⟨cur.toList.drop (l.length * e.sz),by rw [<-cU,List.take_append_drop]⟩
  simp only [hT];have e1:(l.flatMap e.cells ++ R).take (k * e.sz)=(l.flatMap e.cells).take (k * e.sz):=List.take_append_of_le_length (by rw [hX];omega);have e2:(l.flatMap e.cells ++ R).drop (k * e.sz+ys.length * e.sz)=(l.flatMap e.cells).drop (k * e.sz+ys.length * e.sz) ++ R:=List.drop_append_of_le_length (by rw [hX];omega);rw [e1,e2,<-List.append_assoc,List.take_left' (by simp only [Bd,A0,List.length_drop,hX,hY];omega),Nat.add_mul]
theorem Ow.clear {α:Type} {e:Enc α} {E:TypeId} {w:World} {base g n cap:Nat} {l:List α} (h:Ow e E w base (Aa (Ad ⟨g,0,Ac⟩) n cap) l) (k:Nat) (us:List Value) (hk:k * e.sz+us.length<=l.length * e.sz) (kP:k<=l.length) :
  Ow e E (Is w g (k * e.sz) us) base (Aa (Ad ⟨g,0,Ac⟩) k cap) (l.take k)/\w.grownBy (Is w g (k * e.sz) us) (Ad g):=by
 have hn:n=l.length:=by
  rcases h.form with ⟨h1,_⟩ | ⟨_,_,h1,_⟩
  ·simp at h1
  ·simp only [Value.slice.injEq] at h1;exact h1.2.1
 subst hn;obtain ⟨⟨h1,h2⟩,h3⟩:=Vq (cap:=cap) l.length us _ w (k * e.sz) h;refine ⟨?_,h3⟩;rcases h2 with ⟨hv,_⟩ | ⟨g',cap',cur,hv,hb,hg,hc,hm,hs,ht⟩
 ·simp at hv
 ·simp only [Value.slice.injEq,Option.some.injEq,Addr.mk.injEq,and_true] at hv;obtain ⟨rfl,-,rfl⟩:=hv;refine ⟨by rw [e.flat_length],.inr ⟨_,_,cur,by rw [A0,Nat.min_eq_left kP],hb,hg,by rw [A0];omega,hm,hs,?_⟩⟩;rw [A0,Nat.min_eq_left kP,e.flat_take _ _ kP];have h5:cur.toList.take (k * e.sz)=(cur.toList.take (l.length * e.sz)).take (k * e.sz):=by rw [List.take_take,Nat.min_eq_left (Nat.mul_le_mul_right _ kP)]
  rw [h5,ht,Sx _ _ _ (by rw [e.flat_length];omega),List.append_assoc,List.take_left' (by rw [A0,e.flat_length];omega)]
theorem Y8 {P:Program} {o:Oper} {a:Act} {K:Act->World->Prop} {Q:Exit->Act->World->Prop} (w:World) (s x:Operand) {t:TypeId} (ho:o.op = .call { callee:=.builtin .append,args:=#[s,x],argTypes:=#[t,t] })
  {v u v':Value} {w':World} (hs:a.eval s=v) (hx:a.eval x=u) (cZ:(Builtin.append_ #[t,t] o.type #[v,u]).run P w = .ok v' w') (h:K (a.put o.dst v') w'):o.wp P a w K Q:=by
 unfold Oper.wp execOp;simp only [ho,resolve,invoke,builtin,Sem.run_bind,Sem.run_pure,Result.andThen_ok,List.map_toArray,List.map_cons,List.map_nil,hs,hx,cZ];exact h
theorem Chg.of_grown {w w':World} {g:Nat} (h:w.grownBy w' (Ad g)):Chg [g] w w':=⟨h.os,h.tape,h.output,h.size,fun k hk hn=>h.block k hk (fun e=>hn (by injection e with e;simp [e]))⟩
theorem Adl (rs:List (Run×(Sl×Sl))) (g c base i:Nat) (w:World) (hi:i<rs.length) (hl:rs.length<=2000000) (h:Ow Cn.enc 67 w base (Aa (Ad ⟨g,0,Ac⟩) rs.length c) rs) :
  Calls An 219 #[Aa (Ad ⟨g,0,Ac⟩) rs.length c,J Ab (i:Int),J Ab ((i:Int)+1)] w fun e w'=>e = .returned (Aa (Ad ⟨g,0,Ac⟩) (rs.length - 1) c)/\Ow Cn.enc 67 w' base (Aa (Ad ⟨g,0,Ac⟩) (rs.length - 1) c) (rs.take i ++ rs.drop (i+1))/\w.grownBy w' (Ad g):=by
 obtain ⟨j0,bZ,jz0,jz1,jz2⟩:=info_parts L9;have hR:=Rd.of_own h;have cA:rs.length<=c:=hR.cap;have h1:(0:Int)<=(i:Int):=Bl;have h2:(0:Int)<=(i:Int)+1:=Bl;have h3:(i:Int)<=(i:Int)+1:=Bl;have h4:(i:Int)+1<=(rs.length:Int):=Bl;have h5:(rs.length:Int)<=(c:Int):=Bl;have h6:(i:Int)<=(c:Int):=Bl;have h7:((i:Int) == (i:Int)+1)=false:=by simp;omega
 have h8:((i:Int)+1).toNat=i+1:=Bl;go_enter func219,ntmps219;go_upto_region 5 with fail
 refine Go.wp_region_noPanic ?_;refine wp_region_held_drew (S:=fun _=>True) Bm trivial (fun aA=>?_);have hd:Ow Cn.enc 67 w.drew base (Aa (Ad ⟨g,0,Ac⟩) rs.length c) rs:=h.below (Br _ _).drew;have gd:w.grownBy w.drew (Ad g):=(Chg.of_below [g] (Br w w).drew).toGrown;generalize w.drew=w1 at *
 have hR1:=Rd.of_own hd;have hc0:¬ c=0:=Bl;refine tY 0 ?_
 (try simp only [pS])
 refine tY 1 ?_
 (try simp only [pS])
 refine tY 2 ?_
 (try simp only [pS])
 refine tY 3 ?_
 (try simp only [pS])
 refine tY 4 ?_
 (try simp only [pS])
 obtain ⟨ad,hadv,rX⟩:∃ ad:Addr,((if c=i+1 then Ad (⟨g,0,Ac⟩:Addr) else Ad ⟨g,(i+1) * 8,Ac⟩)=Ad ad)/\Rd Cn.enc w1 w1 (Aa (Ad ad) (rs.length - (i+1)) (c - (i+1))) (rs.drop (i+1)):=by
  by_cases hc:c=i+1
  ·refine ⟨⟨g,0,Ac⟩,by rw [if_pos hc],?_⟩;rw [List.drop_eq_nil_of_le Bl,show rs.length - (i+1)=0 by omega];exact ⟨_,_,rfl,Ah _,fun h=>absurd h Bn⟩
  ·refine ⟨⟨g,(i+1) * 8,Ac⟩,by rw [if_neg hc],?_⟩;have h9:=hR1.dropM (i+1) Bl;have e:(Ad (⟨g,0,Ac⟩:Addr)).map (fun x=>x.add ((i+1) * Cn.enc.sz))=Ad ⟨g,(i+1) * 8,Ac⟩:=by
    show Ad ((⟨g,0,Ac⟩:Addr).add ((i+1) * 8))=_;rw [Addr.add_lit,Nat.zero_add]
   rw [e] at h9;exact h9
 obtain ⟨w2,hka,jC,kI⟩:=Vh (P:=An) w1 29 29 67 j0 underlying29 bZ jz1 (e:=Cn.enc) Bp hd i ad _ _ _ rX Bl;obtain ⟨q,hq⟩:∃ q,q+1=rs.length:=⟨rs.length - 1,Bl⟩
 rw [show i+(rs.length - (i+1))=q by omega] at hka jC;have hL:(rs.take i ++ rs.drop (i+1) ++ rs.drop q).length=rs.length:=by simp;omega
 refine tY 5 ?_
 (try simp only [pS])
 refine rC 6 (fun K_ hK=>?_);refine Y8 w1 (.tmp 22) (.tmp 25) rfl rfl rfl hka ?_;refine hK.out _ _ trivial (fun aA=>?_);clear hK K_
 (try simp only [pS])
 refine rC 7 (fun K_ hK=>?_);go_simp;refine hK.out _ _ trivial (fun aA=>?_);clear hK K_
 (try simp only [pS])
 refine Am Bm ?_ _;refine NoPanic.normal ?_;clear hka aA hadv rX hR1;have hR2:=Rd.of_own jC;have hf2:=fun j=>jC.free j;have kz:∀ w,(zeroValue 67).run An w = .ok (.agg #[J Ab 0,J Ab 0,J Ab 0,J Ab 0,J Ab 0,Aa Ac 0 0,J Ab 0,Aa Ac 0 0]) w:=fun w=>by
  simp [zeroValue,typeInfo,bZ,jz0]
 have kc:=Om (P:=An) w2 29 67 0 (.agg #[J Ab 0,J Ab 0,J Ab 0,J Ab 0,J Ab 0,Aa Ac 0 0,J Ab 0,Aa Ac 0 0]) underlying29 kz g (q * 8) (rs.length - q) (c - q) Bl (fun v hv=>by
   simp [Value.cells] at hv;first | (rcases hv with rfl | rfl<;>rfl) | (rcases hv with rfl | rfl | rfl<;>rfl) | (rcases hv with rfl | rfl | rfl | rfl<;>rfl) | (rcases hv with (rfl | rfl) | rfl<;>rfl)) (fun x hx=>by
   have eE:x<(rs.length - q) * 8:=hx
   have:=hR2.some_ Bp (q * 8+x) (by
    show _<_ * 8;rw [hL];omega)
   rw [Nat.zero_add] at this;exact this) hf2
 have hq0:(0:Int)<=(q:Int):=Bl;have uY:(q:Int)<=(rs.length:Int):=Bl;have hcq:¬ c=q:=Bl;obtain ⟨uZ,sM⟩:=jC.clear q (Builtin.zeroCells #[J Ab 0,J Ab 0,J Ab 0,J Ab 0,J Ab 0,Aa Ac 0 0,J Ab 0,Aa Ac 0 0] (rs.length - q)).toList (by
  have e:(Builtin.zeroCells #[J Ab 0,J Ab 0,J Ab 0,J Ab 0,J Ab 0,Aa Ac 0 0,J Ab 0,Aa Ac 0 0] (rs.length - q)).toList.length=(rs.length - q) * 8:=by simp [Builtin.zeroCells]
  rw [e,hL];show q * 8+_<=_ * 8;omega) (by rw [hL];omega)
 rw [List.take_left' (by simp;omega)] at uZ;have HF:=Bq (show Ow Cn.enc 67 _ base (Aa (Ad ⟨g,0,Ac⟩) (rs.length - 1) c) (rs.take i ++ rs.drop (i+1))/\w.grownBy _ (Ad g) from ⟨by rw [show rs.length - 1=q by omega];exact uZ,(gd.trans kI).trans sM⟩);have hq':=Bq hq;clear uZ sM gd kI hR2 jC hq hd;go_wp2;go_ret;exact ⟨by rw [show rs.length - 1=q by have:=hq'.out;omega];rfl,HF.out⟩
theorem Abj (y:Yard) (s:Sl×Sl) (w:World) (hl:Cf y<=2000000) (hY:Dn y) (h:Bu.rd w w y s) :
  Calls An 215 #[Dh y s] w (Fa (Dt.list (Dt.flats Ii)) slV ((E7 y y.runs.length).map (Jb y)) w):=by
 obtain ⟨⟨A1,n1,c1⟩,⟨A2,n2,c2⟩⟩:=s;obtain rfl:n2=y.runs.length:=RdL.at1 (s:=⟨A2,n2,c2⟩) h.2;have CX:=Bq (fun W (hW:Below w w W)=>show RdL Cn W w.heap.size (Aa A2 y.runs.length c2) y.runs from (Bu.rd_below (x:=y) (s:=(⟨A1,n1,c1⟩,⟨A2,y.runs.length,c2⟩)) h hW).2);have nW:y.runs.length<=8:=hY.2.2.2.2.2.2.1;have HP:=Bq hY;clear h hY;obtain ⟨it,i0,z0,z1,z2⟩:=info_parts Z3;obtain ⟨W,aG,X,B0⟩:=bx1 w 31 [J Ab y.now,J Ab y.seq,Aa A1 n1 c1,Aa A2 y.runs.length c2];go_enter func215,ntmps215;go_wp2;rw [<-aG.out];clear aG;go_loopw [3,11] (fun v i wr=>∃ k:Nat,k<=y.runs.length/\i = J Ab k/\Hid (Bls (Dt.flats Ii) 26 wr (w+1) v ((E7 y k).map (Jb y)))/\DBox w [J Ab y.now,J Ab y.seq,Aa A1 n1 c1,Aa A2 y.runs.length c2] wr/\Below w w wr) (fun _ i _=>y.runs.length - (intOf i).toNat);case atStart=>exact ⟨0,Ah _,rfl,⟨[],rfl,Bld.nil _ _ _ _⟩,X,B0⟩
 case round =>
  clear X B0;obtain ⟨k,hk,rfl,hB,X,hb⟩:=hrel;have jY:=X.lt;by_cases aB:k<y.runs.length
  ·have aC:(k:Int)<(y.runs.length:Int):=Bl;have dF:(0:Int)<=(k:Int):=Bl;obtain ⟨b,o,⟨⟨A8,n8,c8⟩,⟨At,nt,ct⟩⟩,rfl,aH,bP,e0,e1,e2,e3,e4,e5,e6,e7⟩:=(CX.out w (Br _ _)).run aB;obtain rfl:nt=y.runs[k].tasks.length:=RdL.at1 (s:=⟨At,nt,ct⟩) bP.2;have HT:=Bq (fun W (hW:Below w w W)=>show RdL Eu W w.heap.size (Aa At y.runs[k].tasks.length ct) y.runs[k].tasks from RdL.below bP.2 hW);clear bP;replace e0:=(hb.cell (p:=⟨b,_,Ac⟩) aH).trans e0;replace e1:=(hb.cell (p:=⟨b,_,Ac⟩) aH).trans e1;replace e2:=(hb.cell (p:=⟨b,_,Ac⟩) aH).trans e2;replace e3:=(hb.cell (p:=⟨b,_,Ac⟩) aH).trans e3;replace e4:=(hb.cell (p:=⟨b,_,Ac⟩) aH).trans e4;replace e5:=(hb.cell (p:=⟨b,_,Ac⟩) aH).trans e5;replace e6:=(hb.cell (p:=⟨b,_,Ac⟩) aH).trans e6;replace e7:=(hb.cell (p:=⟨b,_,Ac⟩) aH).trans e7;have R:=DBox.new 67 [J Ab y.runs[k].id,J Ab y.runs[k].plan.prio,J Ab y.runs[k].plan.most,J Ab y.runs[k].plan.wait,J Ab y.runs[k].plan.tasks,Aa A8 n8 c8,J Ab y.runs[k].state,Aa At y.runs[k].tasks.length ct] wr (b:=wr) rfl;have ha:Below wr wr (wr.alloc (.cells #[J Ab y.runs[k].id,J Ab y.runs[k].plan.prio,J Ab y.runs[k].plan.most,J Ab y.runs[k].plan.wait,J Ab y.runs[k].plan.tasks,Aa A8 n8 c8,J Ab y.runs[k].state,Aa At y.runs[k].tasks.length ct] 67)):=Bt;have X_:=X.g4;go_upto_region 5 with fail
   clear X_;have hvr:=Bq (show ∀ v z,Bls (Dt.flats Ii) 26 wr (w+1) v ((E7 y k).map (Jb y))->v.ownBlock=Ad z->z≠wr.heap.size from fun v z ⟨rs,hm,mI⟩ hz=>by have h1:=mI.ow.within z hz;omega);have hvr2:=fun z=>hvr.out _ z hB.out;replace X:=X.below ha;replace hb:=Bv hb ha;have jH:=Bq (hB.out.below ha);have dL:=R.lt;have sZ:w.heap.size+1<=wr.heap.size:=jY;clear e0 e1 e2 e3 e4 e5 e6 e7 aH ha hB hvr;generalize wr.alloc (.cells #[J Ab y.runs[k].id,J Ab y.runs[k].plan.prio,J Ab y.runs[k].plan.most,J Ab y.runs[k].plan.wait,J Ab y.runs[k].plan.tasks,Aa A8 n8 c8,J Ab y.runs[k].state,Aa At y.runs[k].tasks.length ct] 67)=w1 at *
   generalize wr.heap.size=rb at *
   have R_:=R.g8;go_wp2;clear R_;go_loopw [3,18] (fun vv i wr=>∃ (n:Nat) (v:Value),n<=y.runs[k].tasks.length/\i = J Ab n/\v=vv/\Hid (Bls (Dt.flats Ii) 26 wr (w+1) v ((E7 y k ++ Jl y k n).map (Jb y)))/\Hid (∀ z,v.ownBlock=Ad z->z≠rb)/\DBox w [J Ab y.now,J Ab y.seq,Aa A1 n1 c1,Aa (Ad ⟨b,o,Ac⟩) y.runs.length c2] wr/\DBox rb [J Ab y.runs[k].id,J Ab y.runs[k].plan.prio,J Ab y.runs[k].plan.most,J Ab y.runs[k].plan.wait,J Ab y.runs[k].plan.tasks,Aa A8 n8 c8,J Ab y.runs[k].state,Aa At y.runs[k].tasks.length ct] wr/\Below w w wr) (fun _ i _=>y.runs[k].tasks.length - (intOf i).toNat);case atStart=>exact ⟨0,_,Ah _,rfl,rfl,by rw [Xi,List.append_nil];exact jH,Bq hvr2,X,R,hb⟩
   case round =>
    clear X R hb jH hvr2 dL;obtain ⟨n,v,hn,rfl,rfl,hB,gT,X,R,hb⟩:=hrel;by_cases eY:n<y.runs[k].tasks.length
    ·have fK:=(D4 (Er HP.out aB)).2;have pA:(n:Int)<(y.runs[k].tasks.length:Int):=Bl;have uS:(0:Int)<=(n:Int):=Bl;obtain ⟨b',o',_,rfl,bS,_,d0,d1,d2,d3⟩:=(HT.out wr hb).task eY;have hU:=Bq (fun hs=>Xj HP.out aB eY hs);have hJ:=Bq (show By (Gg y k) n=y.runs[k].tasks[n] by rw [Ee aB,Co eY]);have hRow:Hid (Jb y (k,n)=[y.runs[k].id,(n:Int),y.runs[k].tasks[n].try_]):=by
      show Jb y (k,n)=_;unfold Jb;rw [hJ.out,Ee aB]
     have aK:=Bq (show (E7 y k ++ Jl y k n).length<=3000000 by
      have h1:=La (Nt HP.out) k;have h2:=Ti y k n;have h5:=(D4 (Er HP.out aB)).2;rw [Bd];omega)
     have hlT:=Bq (rfl:y.runs[k].tasks.length=y.runs[k].tasks.length);generalize y.runs[k].tasks[n]=x at *
     have TB:=DBox.new 203 [J Ab x.state,J Ab x.need,J Ab x.try_,J Ab x.until_] wr (b:=wr) rfl;have b2:Below wr wr (wr.alloc (.cells #[J Ab x.state,J Ab x.need,J Ab x.try_,J Ab x.until_] 203)):=Bt;go_upto_region 8 with fail
     have dL:=R.lt;have hvt:=Bq (show ∀ z,v.ownBlock=Ad z->w.heap.size+1<=z/\z<wr.heap.size from fun z hz=>by
      obtain ⟨rs,hm,mI⟩:=hB.out;exact mI.ow.within z hz)
     replace X:=X.below b2;replace R:=R.below b2;have aJ:=Bv hb b2;have jH:=Bq (hB.out.below b2);clear b2 d0 d1 d2 d3 hb hB bS;generalize wr.alloc (.cells #[J Ab x.state,J Ab x.need,J Ab x.try_,J Ab x.until_] 203)=w2 at *
     generalize wr.heap.size=tb at *
     have X_:=X.g4;have TB_:=TB.g4;by_cases q:x.state=3;case neg =>
      have q1:(x.state == 3)=false:=by simp [q]
      have S:=Bq (So (y:=y) (k:=k) (n:=n) (by rw [hJ.out];unfold Ph;rw [q1];rfl));clear q;go_wp2;exact ⟨⟨n+1,v,eY,by go_num,rfl,by rw [S.out];exact jH,gT,X,R,aJ⟩,clM⟩
     have q1:(x.state == 3)=true:=by simp [q]
     have hu:=hU.out q;have wr1:Ab.wrap (x.until_ - 1)=x.until_ - 1:=Ar _ (by have:=HP.out.1;omega);have q2:¬ x.until_<=y.now:=Bl;by_cases q3:x.until_ - 1=y.now;case neg =>
      have q4:(x.until_ - 1 == y.now)=false:=by simp [q3]
      have S:=Bq (So (y:=y) (k:=k) (n:=n) (by rw [hJ.out];unfold Ph;rw [q1,decide_eq_false Bl];rfl));clear q hu;go_wp2;exact ⟨⟨n+1,v,eY,by go_num,rfl,by rw [S.out];exact jH,gT,X,R,aJ⟩,clM⟩
     have wr2:Ab.wrap y.now=y.now:=Ar _ (by have:=HP.out.1;omega);have S:=Bq (Z6 (y:=y) (k:=k) (n:=n) (by rw [hJ.out];unfold Ph;rw [q1,decide_eq_true Bl];rfl));clear q hu;have R_:=R.g8;go_upto_region 9 with fail
     generalize hrid:y.runs[k].id=rid at *
     have o9:=Ow.intsK w2 3 [rid,(n:Int),x.try_] (cs:=#[J Ab rid,J Ab (n:Int),J Ab x.try_]) rfl (n:=3) (g:=w2) (base:=w2) rfl rfl (Bs _) Bn;have b4:Below w2 w2 (w2.alloc (.cells #[J Ab rid,J Ab (n:Int),J Ab x.try_] 3)):=Bt;obtain ⟨hw9,uH⟩:=Hw.of_ow o9;have b5:Below (w2.alloc (.cells #[J Ab rid,J Ab (n:Int),J Ab x.try_] 3)) (w2.alloc (.cells #[J Ab rid,J Ab (n:Int),J Ab x.try_] 3)) ((w2.alloc (.cells #[J Ab rid,J Ab (n:Int),J Ab x.try_] 3)).alloc (.cells #[Aa (Ad ⟨w2,0,Ac⟩) 3 3] 26)):=Bt;have b45:=Bv b4 b5;obtain ⟨rs,hm,jN⟩:=jH.out;have tS:rs.length<=3000000:=by
      have h1:=congrArg List.length hm;rw [Au,Au] at h1;rw [h1];exact aK.out
     have tS:=Bq tS;have bU:=Bv aJ b45;have X3:=X.below b45;have R3:=R.below b45;have cN:=aJ.size;go_wp2_with (at_builtin;refine Cj _ (Dt.flats Ii).enc Bp rfl (.tmp 41) (.tmp 48) rfl underlying254 i0 z0 z1 z2 rfl (v:=v) (l:=rs) rfl (jN.ow.below b45) (A:=Ad ⟨w2+1,0,Ac⟩) (m:=1) (c:=1) (ys:=[([rid,(n:Int),x.try_],(⟨Ad ⟨w2,0,Ac⟩,3,3⟩:Sl))]) rfl (Rd.one (Dt.flats Ii).enc _ _ ([rid,(n:Int),x.try_],(⟨Ad ⟨w2,0,Ac⟩,3,3⟩:Sl)) Bn rfl 1 (Bs _) (Nat.lt_succ_self _)) tS.out Bn Bp (by have:=b45.size;omega) ?_;intro v6 w6 o6 gg f6)
     have pI:∀ z,v.ownBlock=Ad z->w.heap.size+1<=z/\z<tb/\z≠rb:=fun z hz=>⟨(hvt.out z hz).1,(hvt.out z hz).2,gT.out z hz⟩
     have X6:=X3.off gg (fun e=>by have:=(pI _ e.symm).1;omega);have R6:=R3.off gg (fun e=>(pI _ e.symm).2.2 rfl);have rF:Below w w w6:=bU.grown gg bU.size (fun g hg=>by have:=(pI g hg).1;omega);have hP:=Bld.push1 (d:=Dt.flats Ii) (x:=[rid,(n:Int),x.try_]) (s:=(⟨Ad ⟨w2,0,Ac⟩,3,3⟩:Sl)) jN b4 hw9 (fun y hy=>uH y hy) Bl b5 o6 gg f6;have kE:(rs ++ [([rid,(n:Int),x.try_],(⟨Ad ⟨w2,0,Ac⟩,3,3⟩:Sl))]).map (·.1)=(E7 y k ++ Jl y k (n+1)).map (Jb y):=by
      simp only [List.map_append,List.map_cons,List.map_nil,hm,S.out,hRow.out,List.append_assoc]
     have hvn6:=Bq (show ∀ z,v6.ownBlock=Ad z->z≠rb from fun z hz=>by
      rcases f6 with f6 | f6
      ·exact gT.out z (f6.symm.trans hz)
      ·have h1:Ad _=Ad z:=f6.symm.trans hz;have h2:=Option.some.inj h1;have h3:=b45.size;have h4:=R.lt;omega)
     have hB7:=Bq (show Bls (Dt.flats Ii) 26 w6 (w.heap.size+1) v6 ((E7 y k).map (Jb y) ++ (Jl y k (n+1)).map (Jb y)) by rw [<-List.map_append];exact ⟨_,kE,hP⟩);clear hP kE jN o6 gg f6 X3 R3 bU hm;refine ⟨⟨v6,J Ab (n:Int),.pointer (Ad ⟨tb,0,Ac⟩),J Ab ((n+1:Nat):Int),⟨n+1,eY,rfl,hB7,hvn6,X6,R6,rF⟩,rfl,rfl,rfl,Bn⟩,clM⟩
    ·have pA:¬ (n:Int)<(y.runs[k].tasks.length:Int):=Bl;have S:=Bq (show E7 y (k+1)=E7 y k ++ Jl y k n by
      rw [Rg,show (Gg y k).tasks.length=n by rw [Ee aB];omega])
     go_wp2;exact ⟨⟨k+1,Bl,by go_num,by rw [S.out];exact hB,X,hb⟩,clM⟩
  ·have aC:¬ (k:Int)<(y.runs.length:Int):=Bl;obtain rfl:k=y.runs.length:=Bl;obtain ⟨rs,hm,mI⟩:=hB.out;obtain ⟨F,h1,h2⟩:=mI.owl hm;obtain ⟨A,c,hv,_⟩:=h1.form;rw [Au] at hv;subst hv;have dK:Fa (Dt.list (Dt.flats Ii)) slV ((E7 y y.runs.length).map (Jb y)) w (.returned (Aa A (E7 y y.runs.length).length c)) wr:=⟨⟨A,_,c⟩,F,rfl,h1,fun x hx=>by have:=h2 x hx;omega,hb⟩
   clear hB mI h1;go_wp2;go_ret;exact dK
section
def J6 (k n:Nat):List (Nat×Nat):=(List.range n).map fun t=>(k,t)
def Ik (y:Yard) (k:Nat):List (Nat×Nat):=(List.range k).flatMap fun j=>J6 j (Gg y j).tasks.length
theorem Uh (k n:Nat):J6 k (n+1)=J6 k n ++ [(k,n)]:=by
 unfold J6;rw [List.range_succ,List.map_append];rfl
theorem Pj (y:Yard) (k:Nat):Ik y (k+1)=Ik y k ++ J6 k (Gg y k).tasks.length:=by
 unfold Ik;rw [List.range_succ,List.flatMap_append];simp
open Classical in
noncomputable def Kx (y:Yard):Yard:=if Dn y then Ej y (Ik y y.runs.length) else y
theorem Ui {b:Nat} {w:World} {u0 u1 u2 u3:Value} (X:DBox b [u0,u1,u2,u3] w) {v0 v1:Value} {rest:List Value} :
  (results Tryz.f171 (v0 :: v1 :: .pointer (Ad ⟨b,0,Ac⟩) :: rest).toArray).run An w = .ok (.agg #[u0,u1,u2,u3]) w:=by
 have c0:=X.cell 0 _ rfl;have c1:=X.cell 1 _ rfl;have c2:=X.cell 2 _ rfl;have c3:=X.cell 3 _ rfl;simp [results,results171,go_sem,c0,c1,c2,c3]
theorem Vi (y:Yard) (s:Sl×Sl) (w:World) (hl:Cf y<=2000000) (h:Bu.rd w w y s) :
  Calls An 171 #[Dh y s] w (Fa Bu Dh (Kx y) w):=by
 have HR:=Bq (show ∀ W,Below w w W->Bu.rd W W y s from fun W hW=>Bu.rd_more (Bu.rd_below h hW) hW.size);obtain ⟨⟨A1,n1,c1⟩,⟨A2,n2,c2⟩⟩:=s;have CC:=Bq (fun W hW=>Fh y (⟨A1,n1,c1⟩,⟨A2,n2,c2⟩) W hl (HR.out W hW));have CY:=Bq (fun W hW=>G9 y (⟨A1,n1,c1⟩,⟨A2,n2,c2⟩) W hl (HR.out W hW));clear h;obtain ⟨W,aG,X,RES,B0⟩:=bx2 w 31 [J Ab y.now,J Ab y.seq,Aa A1 n1 c1,Aa A2 n2 c2] 31 [J Ab 0,J Ab 0,Aa Ac 0 0,Aa Ac 0 0];go_enter func171,ntmps171;go_wp2_with fail
 rw [<-aG.out];clear aG;have dL:w.heap.size+1<W.heap.size:=RES.lt;refine (CC.out _ B0).mono ?_;rintro e1 w1 ⟨⟨⟨B1,m1,e1⟩,⟨B2,m2,e2⟩⟩,F,rfl,oy,nF,b1⟩;have bG:=b1.size;have cI:=Bu.ow_lt (F:=F) (x:=y) (s:=(⟨B1,m1,e1⟩,⟨B2,m2,e2⟩)) oy;replace X:=X.below b1;replace RES:=RES.below b1;replace B0:=Bv B0 b1;clear b1;go_upto_region 2 with fail
 have OB:=DBox.new 31 [J Ab y.now,J Ab y.seq,Aa B1 m1 e1,Aa B2 m2 e2] w1 (b:=w1) rfl;have b2:Below w1 w1 (w1.alloc (.cells #[J Ab y.now,J Ab y.seq,Aa B1 m1 e1,Aa B2 m2 e2] 31)):=Bt;replace X:=X.below b2;replace RES:=RES.below b2;replace oy:=Bu.ow_below (F:=F) (x:=y) (s:=(⟨B1,m1,e1⟩,⟨B2,m2,e2⟩)) oy b2;replace B0:=Bv B0 b2;have ow1:=OB.lt;clear b2;generalize w1.alloc (.cells #[J Ab y.now,J Ab y.seq,Aa B1 m1 e1,Aa B2 m2 e2] 31)=w2 at *
 generalize cR:w1.heap.size=ob at *
 have X_:=X.g4;obtain ⟨OB_0,OB_1,OB_2,OB_3,OB_l⟩:=OB.g4;go_wp2_with fail
 refine (CY.out _ B0).mono ?_;rintro e1 w3 ⟨rfl,b3⟩;clear X_;clear OB_0 OB_1 OB_2 OB_3 OB_l;replace X:=X.below b3;replace OB:=OB.below b3;replace RES:=RES.below b3;replace oy:Bu.ow w3 F y (⟨B1,m1,e1⟩,⟨B2,m2,e2⟩):=owB oy b3;replace B0:=Bv B0 b3;clear b3;have X_:=X.g4;obtain ⟨OB_0,OB_1,OB_2,OB_3,OB_l⟩:=OB.g4;by_cases p0:Dn y;case neg =>
  rw [Cm p0];have H2:=Bq (show Kx y=y from if_neg p0);clear p0;have RES_:=RES.g4;have rf:=RES.free;go_wp2;have en1:w.heap.size+1∉F:=fun hx=>by have:=nF _ hx;omega
  refine Ak (Ui (DBox.row4 RES rfl _ _ _ _)) rfl ⟨(⟨B1,m1,e1⟩,⟨B2,m2,e2⟩),F,by rw [H2.out],by rw [H2.out];exact (by (repeat (refine Dt.ow_set Bu ?_ en1 _));exact (show Bu.ow _ F y (⟨B1,m1,e1⟩,⟨B2,m2,e2⟩) from oy)),fun x hx=>by have:=nF x hx;omega,?_⟩;repeat (first | (with_reducible exact B0) | refine Ae ?_ Bo _)
 rw [Ds p0];have P0:=Bq p0;have H2:=Bq (show Kx y=Ej y (Ik y y.runs.length) from if_pos p0);clear p0;have jP:ob<w3:=OB.lt;have hB3:=B0.size;have fD:w.heap.size+1<w3.heap.size:=Bl;have rE:y.runs.length<=8:=P0.out.2.2.2.2.2.2.1;have fY:Hid ((∀ x∈F,w+1<x)/\ob∉F/\True):=⟨fun x hx=>by have:=nF x hx;omega,fun hx=>by have:=cI _ hx;omega,trivial⟩
 clear X_;clear OB_0 OB_1 OB_2 OB_3 OB_l;clear X HR CC CY nF cI;go_wp2;go_loopw [4] (fun iv wr=>∃ (k:Nat) (Z:Yard) (s:Sl×Sl) (F:List Nat),k<=y.runs.length/\iv = J Ab k/\Hid (Trn y (12 * k) Z)/\Hid (Ej y (Ik y k)=Z)/\Hid (Bu.ow wr F Z s)/\Hid ((∀ x∈F,w+1<x)/\ob∉F/\True)/\DBox ob (Ev Z s) wr/\DBox (w+1) [J Ab 0,J Ab 0,Aa Ac 0 0,Aa Ac 0 0] wr/\Below w w wr/\w3.heap.size<=wr.heap.size) (fun i _=>y.runs.length - (intOf i).toNat);case atStart=>exact ⟨0,y,(⟨B1,m1,e1⟩,⟨B2,m2,e2⟩),F,Ah _,rfl,Trn.start P0.out,rfl,oy,fY,OB,RES,B0,Bs _⟩
 case round =>
  clear oy fY OB RES B0;obtain ⟨k,Z,s,F,hk,rfl,hT,hZ,oy,hF,OB,RES,hb,mC⟩:=hrel;obtain ⟨⟨B1,m1,e1⟩,⟨B2,m2,e2⟩⟩:=s;have dW:=Bq (show m2=y.runs.length from (RdL.at1 (s:=⟨B2,m2,e2⟩) (Bu.ow_rd oy.out).2).trans hT.out.len);obtain ⟨OB_0,OB_1,OB_2,OB_3,OB_l⟩:=OB.g4;by_cases aB:k<y.runs.length
  ·have aC:(k:Int)<(m2:Int):=by have:=dW.out;omega
   have dF:(0:Int)<=(k:Int):=Bl;go_wp2;go_loopw [5] (fun iv wr=>∃ (t:Nat) (Z:Yard) (s:Sl×Sl) (F:List Nat),t<=y.runs[k].tasks.length/\iv = J Ab t/\Hid (Trn y (12 * k+t) Z)/\Hid (Ej y (Ik y k ++ J6 k t)=Z)/\Hid (Bu.ow wr F Z s)/\Hid ((∀ x∈F,w+1<x)/\ob∉F/\True)/\DBox ob (Ev Z s) wr/\DBox (w+1) [J Ab 0,J Ab 0,Aa Ac 0 0,Aa Ac 0 0] wr/\Below w w wr/\w3.heap.size<=wr.heap.size) (fun i _=>y.runs[k].tasks.length - (intOf i).toNat);case atStart=>exact ⟨0,Z,(⟨B1,m1,e1⟩,⟨B2,m2,e2⟩),F,Ah _,rfl,hT,by rw [show J6 k 0=[] from rfl,List.append_nil];exact hZ,oy,hF,OB,RES,hb,mC⟩
   case round =>
    clear OB_0 OB_1 OB_2 OB_3 OB_l;clear oy hF OB RES hb mC hT hZ dW aC;obtain ⟨t,Z,s,F,ht,rfl,hT,hZ,oy,hF,OB,RES,hb,mC⟩:=hrel;obtain ⟨⟨B1,m1,e1⟩,⟨B2,m2,e2⟩⟩:=s;replace oy:Bu.ow wr F Z (⟨B1,m1,e1⟩,⟨B2,m2,e2⟩):=oy.out;have bM:∀ x∈F,x<wr:=Bu.ow_lt (F:=F) (x:=Z) (s:=(⟨B1,m1,e1⟩,⟨B2,m2,e2⟩)) oy;have fK:=(D4 (Er P0.out aB)).2;have dV:k<Z.runs.length:=by rw [hT.out.len];exact aB
    have fT:=hT.out.run k dV aB;have oyr:=(Bu.ow_rd (F:=F) (x:=Z) (s:=(⟨B1,m1,e1⟩,⟨B2,m2,e2⟩)) oy).2;have dW:=Bq (show m2=Z.runs.length from RdL.at1 (s:=⟨B2,m2,e2⟩) oyr);have gJ:(k:Int)<(m2:Int):=by have:=dW.out;omega
    obtain ⟨gr,orr,⟨sk1,⟨tka,tkn,tkc⟩⟩,rfl,cQ,bR,c0,c1,c2,c3,c4,c5,c6,c7⟩:=RdL.run (show RdL Cn wr wr.heap.size (Aa B2 m2 e2) Z.runs from oyr) dV;have gV:=Bq (show tkn=Z.runs[k].tasks.length from RdL.at1 (s:=⟨tka,tkn,tkc⟩) bR.2);have cK:=Bq fT.2.2;have bK:=Bq fT.1;clear fT oyr;obtain ⟨OB_0,OB_1,OB_2,OB_3,OB_l⟩:=OB.g4;by_cases aX:t<y.runs[k].tasks.length
    ·have jX:(t:Int)<(tkn:Int):=by have:=gV.out;have:=cK.out;omega
     have gK:(0:Int)<=(t:Int):=Bl;have jM:t<Z.runs[k].tasks.length:=by have:=cK.out;omega
     have hN:=Bq (hT.out.fail dV jM);have aF:Hid (Ej y (Ik y k ++ J6 k (t+1))=Gh Z k t):=by
      show Ej y (Ik y k ++ J6 k (t+1))=_;rw [Uh,<-List.append_assoc];unfold Ej;rw [List.foldl_append,<-hZ.out];rfl
     obtain ⟨gt,ot,_,rfl,tP,_,d0,d1,d2,d3⟩:=RdL.task (show RdL Eu wr wr.heap.size (Aa tka tkn tkc) Z.runs[k].tasks from bR.2) jM;have hJ:=Bq (show By (Gg Z k) t=Z.runs[k].tasks[t] by rw [Ee dV,Co jM]);have hJ2:=Bq (Ee dV);clear d1 d2 d3;generalize mP:Z.runs[k]=r at *
     replace mP:=Bq mP;by_cases q:r.tasks[t].state=3;case neg =>
      have q1:(r.tasks[t].state == 3)=false:=by simp [q]
      have aM:=Bq (show Gh Z k t=Z from Kd (by rw [hJ.out];exact q));clear q;go_wp2;exact ⟨⟨t+1,Z,(⟨B1,m1,e1⟩,⟨Ad ⟨gr,orr,Ac⟩,m2,e2⟩),F,aX,by go_num,by rw [aM.out] at hN;exact hN,aF.out.trans aM.out,oy,hF,OB,RES,hb,mC⟩,clM⟩
     have q1:(r.tasks[t].state == 3)=true:=by simp [q]
     have aL:Hid (Iu r t):=⟨bK.out,⟨Bl,Bl⟩,by rw [Ap,Co jM];exact q⟩
     have aM:=Bq (show Gh Z k t=E0 Z k (Dm r t) by rw [Jm (by rw [hJ.out];exact q),hJ2.out]);have CF:=Bq (M6 r (sk1,⟨Ad ⟨gt,ot,Ac⟩,tkn,tkc⟩) t wr.drew (by have:=K7 bK.out;omega) aL.out (Cn.rd_below bR (Br _ _).drew));have gD:=OB.lt;clear q bR;go_wp2;refine Dl (fun w'=>w'.cell? ⟨ob,0,Ac⟩=Ad (J Ab Z.now)/\w'.cell? ⟨ob,1,Ac⟩=Ad (J Ab Z.seq)/\w'.cell? ⟨ob,2,Ac⟩=Ad (Aa B1 m1 e1)/\w'.cell? ⟨ob,3,Ac⟩=Ad (Aa (Ad ⟨gr,orr,Ac⟩) m2 e2)) 10 Bm ?_ (fun aA=>?_)
     ·exact ⟨OB_0,OB_1,OB_2,OB_3⟩
     refine aT 0 aA ?_;try simp only [pS]
     refine aT 1 aA ?_;try simp only [pS]
     refine aT 2 aA ?_;try simp only [pS]
     refine aT 3 aA ?_;try simp only [pS]
     refine aT 4 aA ?_;try simp only [pS]
     refine aT 5 aA ?_;try simp only [pS]
     refine aT 7 aA ?_;try simp only [pS]
     refine oT 6 (fun K hK=>?_);go_simp;refine hK.out _ _ (fun _=>?_) ?_
     ·exact ⟨OB_0,OB_1,OB_2,OB_3⟩
     clear hK K;try simp only [pS]
     refine oT 8 (fun K hK=>?_)
     (go_simp;refine CF.out.mono ?_;rintro e5 wa ⟨sr,Fr,rfl,orn,nFr,ba⟩;have nA:∀ x∈Fr,wr<=x:=nFr;have oya:Bu.ow wa F Z (⟨B1,m1,e1⟩,⟨Ad ⟨gr,orr,Ac⟩,m2,e2⟩):=owB oy (Bv (Br _ _).drew ba);have CT:=Bq (L7 Z (⟨B1,m1,e1⟩,⟨Ad ⟨gr,orr,Ac⟩,m2,e2⟩) k (Dm r t) sr wa F Fr hT.out.four (fun s hs=>by have:=hT.out.all s hs;omega) (by have:=hT.out.seq;omega) dV (by rw [Hd];have:=D4 bK.out;omega) (by rw [mP.out];have:=D4 bK.out;omega) oya orn (fun x hx bF=>by have h1:=nA x hx;have h2:=bM x bF;omega)))
     refine hK.out _ _ (fun _=>?_) ?_
     ·exact ⟨(ba.cell (p:=⟨_,_,Ac⟩) (by show ob<wr;omega)).trans OB_0,(ba.cell (p:=⟨_,_,Ac⟩) (by show ob<wr;omega)).trans OB_1,(ba.cell (p:=⟨_,_,Ac⟩) (by show ob<wr;omega)).trans OB_2,(ba.cell (p:=⟨_,_,Ac⟩) (by show ob<wr;omega)).trans OB_3⟩
     clear hK K;try simp only [pS]
     refine oT 9 (fun K hK=>?_)
     (go_simp;refine CT.out.mono ?_;rintro e6 wb ⟨s6,F6,rfl,oy6,n6,cb⟩;have OB6:=(OB.below (Bv (Br _ _).drew ba)).chg cb hF.out.2.1;have q0:=OB6.cell 0 _ rfl;have q1:=OB6.cell 1 _ rfl;have q2:=OB6.cell 2 _ rfl;have q3:=OB6.cell 3 _ rfl;have qf:=OB6.free;have ql:=OB6.lt;generalize E0 Z k (Dm r t)=Z1 at *)
     refine hK.out _ _ (fun _=>?_) ?_
     ·exact ⟨q0,q1,q2,q3⟩
     clear hK K;try simp only [pS]
     refine oT 10 (fun K hK=>?_);go_simp;refine hK.out _ _ (fun aE=>absurd rfl aE) ?_;clear hK K;try simp only [pS]
     refine Eb Bm ?_ _;have ba':Below wr wr wa:=Bv (Br _ _).drew ba;have hbas:=ba'.size;have hcbs:=cb.size;have gG:=OB.lt;have hRl7:=RES.lt;have bX:=Chg.cells4 wb ob 0 1 2 3 (J Ab Z1.now) (J Ab Z1.seq) (Aa s6.1.a s6.1.n s6.1.c) (Aa s6.2.a s6.2.n s6.2.c);have dQ:=Bq (show ∀ x,x∈[ob]->x=ob from fun x hx=>by simpa using hx);have OB7:=DBox.row4 OB6 rfl (J Ab Z1.now) (J Ab Z1.seq) (Aa s6.1.a s6.1.n s6.1.c) (Aa s6.2.a s6.2.n s6.2.c);have RES7:=((RES.below ba').chg cb (fun hx=>by have:=hF.out.1 _ hx;omega)).chg bX (fun hx=>by have:=dQ.out _ hx;omega);have qM:=((Bv hb ba').trans (cb.below (by have:=(Bv hb ba').size;omega) (fun x hx=>by have:=hF.out.1 x hx;omega))).trans (bX.below (by have:=hb.size;omega) (fun x hx=>by have:=dQ.out x hx;omega));have mH:∀ x∈F6,x∈F\/wr<=x:=fun x hx=>by
      rcases n6 x hx with h | h | h
      ·exact .inl h
      ·exact .inr (nA x h)
      ·exact .inr Bl
     have nX:ob∉F6:=fun hx=>by
      rcases mH _ hx with h | h
      ·exact hF.out.2.1 h
      ·omega
     have oy7:=Bu.ow_chg (F:=F6) (x:=Z1) (s:=s6) oy6 bX (fun x hx h=>by have:=dQ.out x h;subst this;exact nX hx);have kW:Hid ((∀ x∈F6,w+1<x)/\ob∉F6/\True):=⟨fun x hx=>by
      rcases mH x hx with h | h
      ·exact hF.out.1 x h
      ·have:=hRl7;omega,nX,trivial⟩
     have hw7:=Ai mC (Ai (Ai hbas hcbs) bX.size);clear aA q0 q1 q2 q3 qf ql OB6 oy6 CT CF oya orn nFr n6 ba cb;clear OB_0 OB_1 OB_2 OB_3 OB_l;clear OB;generalize (((wb.setCell ⟨ob,0,Ac⟩ (J Ab Z1.now)).setCell ⟨ob,1,Ac⟩ (J Ab Z1.seq)).setCell ⟨ob,2,Ac⟩ (Aa s6.1.a s6.1.n s6.1.c)).setCell ⟨ob,3,Ac⟩ (Aa s6.2.a s6.2.n s6.2.c)=w7 at *
     go_wp2;exact ⟨⟨t+1,Z1,s6,F6,aX,by go_num,by rw [<-aM.out];exact hN,aF.out.trans aM.out,oy7,kW,OB7,RES7,qM,hw7⟩,clM⟩
    ·have jX:¬ (t:Int)<(tkn:Int):=by have:=gV.out;have:=cK.out;omega
     have hS:=Bq (show Ej y (Ik y (k+1))=Z by
      rw [Pj,show (Gg y k).tasks.length=t by rw [Ee aB];omega];exact hZ.out)
     have hM:=Bq (show Trn y (12 * (k+1)) Z from hT.out.mono Bl);go_wp2;exact ⟨⟨k+1,Z,(⟨B1,m1,e1⟩,⟨Ad ⟨gr,orr,Ac⟩,m2,e2⟩),F,Bl,by go_num,hM,hS,oy,hF,OB,RES,hb,mC⟩,clM⟩
  ·have aC:¬ (k:Int)<(m2:Int):=by have:=dW.out;omega
   have hkk:k=y.runs.length:=Bl;have H3:=Bq (show Kx y=Z by rw [H2.out,<-hZ.out,hkk]);clear hkk;replace oy:Bu.ow wr F Z (⟨B1,m1,e1⟩,⟨B2,m2,e2⟩):=oy.out;have rf:=RES.free;have RES_:=RES.g4;go_wp2;have en1:w.heap.size+1∉F:=fun hx=>by have:=hF.out.1 _ hx;omega
   refine Ak (Ui (DBox.row4 RES rfl _ _ _ _)) rfl ⟨(⟨B1,m1,e1⟩,⟨B2,m2,e2⟩),F,by rw [H3.out],by rw [H3.out];exact (by (repeat (refine Dt.ow_set Bu ?_ en1 _));exact (show Bu.ow _ F Z (⟨B1,m1,e1⟩,⟨B2,m2,e2⟩) from oy)),fun x hx=>by have:=hF.out.1 x hx;omega,?_⟩;repeat (first | (with_reducible exact hb) | refine Ae ?_ Bo _)
end
theorem Agt (y:Yard) (r:Run):Ly y Eh r=Kq y r (Dd r.tasks 2):=by
 have h:Gt Eh r r.tasks.length=Dd r.tasks 2:=by
  rw [Sp,List.filter_eq_self.2];intro t _;have e:Dd Eh.tasks 2=[]:=rfl;rw [e];simp
 unfold Ly Kq;rw [h]
theorem Ke {b:Nat} {w:World} {u0 u1 u2 u3:Value} (X:DBox b [u0,u1,u2,u3] w) {v0 v1 v2 v3 v4 v5 v7:Value} {rest:List Value} :
  (results Tryz.f131 (v0 :: v1 :: v2 :: v3 :: v4 :: v5 :: .pointer (Ad ⟨b,0,Ac⟩) :: v7 :: rest).toArray).run An w = .ok (.tuple #[.agg #[u0,u1,u2,u3],v7]) w:=by
 have c0:=X.cell 0 _ rfl;have c1:=X.cell 1 _ rfl;have c2:=X.cell 2 _ rfl;have c3:=X.cell 3 _ rfl;simp [results,results131,go_sem,c0,c1,c2,c3]
theorem Xp (y:Yard) (s:Sl×Sl) (id:Int) (p:Plan) (sp:Sl) (w:World) (hl:Cf y<=2000000) (hp:p.edges.length<=2000000) (h:Bu.rd w w y s) (hpr:Ck.rd w w p sp) :
  Calls An 131 #[Dh y s,J Ab id,Ni p sp] w (I7 (I8 y id p) (Jc y id p) w):=by
 have HR:=Bq (show ∀ W,Below w w W->Bu.rd W W y s from fun W hW=>Bu.rd_more (Bu.rd_below h hW) hW.size);obtain ⟨⟨A1,n1,c1⟩,⟨A2,n2,c2⟩⟩:=s;obtain ⟨A3,n3,c3⟩:=sp;obtain rfl:n3=p.edges.length:=RdL.at1 (s:=⟨A3,n3,c3⟩) hpr;have CC:=Bq (fun W hW=>K2 y (⟨A1,n1,c1⟩,⟨A2,n2,c2⟩) W hl (HR.out W hW));have CY:=Bq (fun W hW=>G8 y (⟨A1,n1,c1⟩,⟨A2,n2,c2⟩) W hl (HR.out W hW));have CA:=Bq (fun W hW=>Ep y (⟨A1,n1,c1⟩,⟨A2,n2,c2⟩) id W hl (HR.out W hW));have CF:=Bq (fun W (hW:Below w w W)=>H9 p (Aa A3 p.edges.length c3) W hp (((Ja hpr).below hW).more hW.size));have CR:=Bq (fun W hW hS hq=>Aa6 y (⟨A1,n1,c1⟩,⟨A2,n2,c2⟩) p (Aa A3 p.edges.length c3) W hl hS hq (HR.out W hW));have CN:=Bq (fun W (hW:Below w w W) hid hf=>Xm id p ⟨A3,p.edges.length,c3⟩ W hid hf (Ck.rd_more (Ck.rd_below hpr hW) hW.size));obtain ⟨j0,bZ,jz0,jz1,jz2⟩:=info_parts L9;clear h hpr HR;obtain ⟨W,aG,X,P,RES,B0⟩:=bx3 w 31 [J Ab y.now,J Ab y.seq,Aa A1 n1 c1,Aa A2 n2 c2] 43 [J Ab p.prio,J Ab p.most,J Ab p.wait,J Ab p.tasks,Aa A3 p.edges.length c3] 31 [J Ab 0,J Ab 0,Aa Ac 0 0,Aa Ac 0 0];go_enter func131,ntmps131;go_wp2_with fail
 rw [<-aG.out];clear aG;have dL:w.heap.size+1+1<W.heap.size:=RES.lt;refine (CC.out _ B0).mono ?_;rintro e1 w1 ⟨⟨B1,m1,e1⟩,⟨B2,m2,e2⟩,F1,base,rfl,oS,eL,aS,cJ,oR,b1⟩;have bG:=b1.size;replace X:=X.below b1;replace P:=P.below b1;replace RES:=RES.below b1;replace B0:=Bv B0 b1;clear b1;obtain ⟨rs,cS,G0,oR⟩:=oR;have hm:=Bq cS;clear cS;replace oR:BldG Cn 67 w1 base (Aa B2 m2 e2) rs G0:=oR;have uA:=oR.2.1.lt;have qB:∀ g,(Value.slice B2 m2 e2).ownBlock=Ad g->g≠w1.heap.size:=fun g hg h=>by
  have:=(oR.1.within g hg).2
  omega
 obtain ⟨F,oy,nF⟩:∃ F,Bu.ow w1 F y (⟨B1,m1,e1⟩,⟨B2,m2,e2⟩) /\ ∀ x∈F,W<=x:=by
  have hB:Bld Cn 67 w1 base (Aa B2 m2 e2) rs:=⟨G0,oR⟩
  replace hm:=hm.out;obtain ⟨F2,h5,h6⟩:=hB.owl hm;refine ⟨F1 ++ F2,⟨F1,F2,rfl,?_,oS,h5⟩,fun b hb=>?_⟩
  ·rw [Ay];refine ⟨oS.nodup,h5.nodup,fun u hu u' hu' e=>?_⟩
   have:=eL u hu
   have:=h6 u' hu'
   omega
  ·rcases Bi.1 hb with hb | hb
   ·exact (eL b hb).1
   ·have:=h6 b hb;omega
 go_upto_region 2 with fail
 have OB:=DBox.new 31 [J Ab y.now,J Ab y.seq,Aa B1 m1 e1,Aa B2 m2 e2] w1 (b:=w1) rfl;have b2:Below w1 w1 (w1.alloc (.cells #[J Ab y.now,J Ab y.seq,Aa B1 m1 e1,Aa B2 m2 e2] 31)):=Bt;replace X:=X.below b2;replace P:=P.below b2;replace RES:=RES.below b2;replace oy:=Bu.ow_below (F:=F) (x:=y) (s:=(⟨B1,m1,e1⟩,⟨B2,m2,e2⟩)) oy b2;replace oS:=oS.below b2;replace oR:=oR.below b2;replace B0:=Bv B0 b2;have ow1:=OB.lt;have hbob:base<=w1.heap.size:=cJ;replace cJ:=Ai cJ b2.size;clear b2;generalize w1.alloc (.cells #[J Ab y.now,J Ab y.seq,Aa B1 m1 e1,Aa B2 m2 e2] 31)=w2 at *
 generalize cR:w1.heap.size=ob at *
 have X_:=X.g4;have P_:=P.g5;have OB_:=OB.g4;go_wp2_with fail
 refine (CY.out _ B0).mono ?_;rintro e1 w3 ⟨rfl,b3⟩;clear X_;clear P_;clear OB_;replace X:=X.below b3;replace P:=P.below b3;replace OB:=OB.below b3;replace RES:=RES.below b3;replace oy:Bu.ow w3 F y (⟨B1,m1,e1⟩,⟨B2,m2,e2⟩):=owB oy b3;replace oS:=oS.below b3;replace oR:=oR.below b3;replace B0:=Bv B0 b3;replace cJ:=Ai cJ b3.size;clear b3;have X_:=X.g4;have P_:=P.g5;have OB_:=OB.g4;by_cases p0:Dn y;case neg =>
  rw [Cm p0];have H:=Bq (show Jc y id p=8 by unfold Jc;rw [if_pos p0]);have H2:=Bq (show I8 y id p=y by unfold I8;rw [H.out,if_neg Bp]);have RES_:=RES.g4;have rf:=RES.free;go_wp2;have en1:w.heap.size+1+1∉F:=fun hx=>by have:=nF _ hx;omega
  refine Ak (Ke (DBox.row4 RES rfl _ _ _ _)) rfl ⟨(⟨B1,m1,e1⟩,⟨B2,m2,e2⟩),F,by rw [H.out,H2.out],by rw [H2.out];exact (by (repeat (refine Dt.ow_set Bu ?_ en1 _));exact (show Bu.ow _ F y (⟨B1,m1,e1⟩,⟨B2,m2,e2⟩) from oy)),fun x hx=>by have:=nF x hx;omega,?_⟩;repeat (first | (with_reducible exact B0) | refine Ae ?_ Bo _)
 rw [Ds p0];have rI:=p0.2.2.2.2.2.2.2.2.2;have hsq:=p0.2.1;have h4:=Bq p0.2.2.1;have cW:=Bq p0.2.2.2.1;have P0:=Bq p0;clear p0;cases p1:inB id 1 9999;case false =>
  have H:=Bq (show Jc y id p=5 by unfold Jc;rw [if_neg (fun h=>h P0.out),if_pos p1]);have H2:=Bq (show I8 y id p=y by unfold I8;rw [H.out,if_neg Bp]);have RES_:=RES.g4;have rf:=RES.free;go_wp2_with (go_at_call 72;refine (Cq _ _ _ _).mono ?_;rintro e w9 ⟨rfl,rfl⟩;rw [p1])
  have en1:w.heap.size+1+1∉F:=fun hx=>by have:=nF _ hx;omega
  refine Ak (Ke (DBox.row4 RES rfl _ _ _ _)) rfl ⟨(⟨B1,m1,e1⟩,⟨B2,m2,e2⟩),F,by rw [H.out,H2.out],by rw [H2.out];exact (by (repeat (refine Dt.ow_set Bu ?_ en1 _));exact (show Bu.ow _ F y (⟨B1,m1,e1⟩,⟨B2,m2,e2⟩) from oy)),fun x hx=>by have:=nF x hx;omega,?_⟩;repeat (first | (with_reducible exact B0) | refine Ae ?_ Bo _)
 have P1:=Bq p1;go_wp2_with (go_at_call 72;refine (Cq _ _ _ _).mono ?_;rintro e w9 ⟨rfl,rfl⟩;rw [p1])
 refine (CA.out _ B0).mono ?_;rintro e1 w4 ⟨rfl,b4⟩;clear X_;clear P_;clear OB_;replace X:=X.below b4;replace P:=P.below b4;replace OB:=OB.below b4;replace RES:=RES.below b4;replace oy:Bu.ow w4 F y (⟨B1,m1,e1⟩,⟨B2,m2,e2⟩):=owB oy b4;replace oS:=oS.below b4;replace oR:=oR.below b4;replace B0:=Bv B0 b4;replace cJ:=Ai cJ b4.size;clear b4;have X_:=X.g4;have P_:=P.g5;have OB_:=OB.g4;by_cases p2:0<=Db y id;case pos =>
  have H:=Bq (show Jc y id p=6 by unfold Jc;rw [if_neg (fun h=>h P0.out),if_neg (by rw [P1.out];simp),if_pos p2]);have H2:=Bq (show I8 y id p=y by unfold I8;rw [H.out,if_neg Bp]);have RES_:=RES.g4;have rf:=RES.free;go_wp2;have en1:w.heap.size+1+1∉F:=fun hx=>by have:=nF _ hx;omega
  refine Ak (Ke (DBox.row4 RES rfl _ _ _ _)) rfl ⟨(⟨B1,m1,e1⟩,⟨B2,m2,e2⟩),F,by rw [H.out,H2.out],by rw [H2.out];exact (by (repeat (refine Dt.ow_set Bu ?_ en1 _));exact (show Bu.ow _ F y (⟨B1,m1,e1⟩,⟨B2,m2,e2⟩) from oy)),fun x hx=>by have:=nF x hx;omega,?_⟩;repeat (first | (with_reducible exact B0) | refine Ae ?_ Bo _)
 have P2:=Bq p2;go_wp2_with fail
 refine (CF.out _ B0).mono ?_;rintro e1 w5 ⟨rfl,b5⟩;clear p1 p2;clear X_;clear P_;clear OB_;replace X:=X.below b5;replace P:=P.below b5;replace OB:=OB.below b5;replace RES:=RES.below b5;replace oy:Bu.ow w5 F y (⟨B1,m1,e1⟩,⟨B2,m2,e2⟩):=owB oy b5;replace oS:=oS.below b5;replace oR:=oR.below b5;replace B0:=Bv B0 b5;replace cJ:=Ai cJ b5.size;clear b5;have X_:=X.g4;have P_:=P.g5;have OB_:=OB.g4;by_cases p3:Cr p=0;case neg =>
  have q3:(Cr p != 0)=true:=by simp [p3]
  have H:=Bq (show Jc y id p=Cr p by unfold Jc;rw [if_neg (fun h=>h P0.out),if_neg (by rw [P1.out];simp),if_neg (by have:=P2.out;omega),if_pos p3]);have H2:=Bq (show I8 y id p=y by unfold I8;rw [H.out,if_neg p3]);clear p3;have en1:w.heap.size+1+1∉F:=fun hx=>by have:=nF _ hx;omega
  have RES_:=RES.g4;have rf:=RES.free;have hpb:w.heap.size+1<w5.heap.size:=P.lt;have hobl:ob<w5:=OB.lt;have CF5:=Bq (CF.out _ B0.drew);go_wp2;refine Go.wp_region_noPanic ?_;refine wp_region_held_drew (S:=(fun w'=>DBox ob [J Ab y.now,J Ab y.seq,Aa B1 m1 e1,Aa B2 m2 e2] w'/\DBox (w+1) [J Ab p.prio,J Ab p.most,J Ab p.wait,J Ab p.tasks,Aa A3 p.edges.length c3] w')) Bm ⟨DBox.drew4 OB,DBox.drew4 P⟩ (fun aA=>?_);replace oy:Bu.ow w5.drew F y (⟨B1,m1,e1⟩,⟨B2,m2,e2⟩):=owB oy (Br _ _).drew;clear RES_;clear rf;replace RES:DBox _ _ w5.drew:=DBox.drew4 RES;replace B0:=B0.drew;clear X_;clear P_;clear OB_;clear OB X P;generalize w5.drew=w5d at *
  refine tV 0 ?_
  (try simp only [pS])
  refine tV 1 ?_
  (try simp only [pS])
  refine rC 2 (fun K_ hK=>?_);go_simp;refine CF5.out.mono ?_;rintro e1 w6 ⟨rfl,b6⟩;replace oy:Bu.ow w6 F y (⟨B1,m1,e1⟩,⟨B2,m2,e2⟩):=owB oy b6;replace RES:=RES.below b6;replace B0:=Bv B0 b6;refine hK.out _ _ ⟨aA.1.below b6,aA.2.below b6⟩ (fun aA=>?_);clear hK K_
  (try simp only [pS])
  have RES_:=RES.g4;have rf:=RES.free;refine rC 3 (fun K_ hK=>?_);go_simp;refine hK.out _ _ ⟨(((aA.1.setOther (a:=⟨w+1+1,0,Ac⟩) (by show ob≠w.heap.size+1+1;omega) _).setOther (a:=⟨w+1+1,1,Ac⟩) (by show ob≠w.heap.size+1+1;omega) _).setOther (a:=⟨w+1+1,2,Ac⟩) (by show ob≠w.heap.size+1+1;omega) _).setOther (a:=⟨w+1+1,3,Ac⟩) (by show ob≠w.heap.size+1+1;omega) _,(((aA.2.setOther (a:=⟨w+1+1,0,Ac⟩) (by show w.heap.size+1≠w.heap.size+1+1;omega) _).setOther (a:=⟨w+1+1,1,Ac⟩) (by show w.heap.size+1≠w.heap.size+1+1;omega) _).setOther (a:=⟨w+1+1,2,Ac⟩) (by show w.heap.size+1≠w.heap.size+1+1;omega) _).setOther (a:=⟨w+1+1,3,Ac⟩) (by show w.heap.size+1≠w.heap.size+1+1;omega) _⟩ (fun aA=>?_);clear hK K_
  (try simp only [pS])
  refine tV 4 ?_
  (try simp only [pS])
  refine Am Bm ?_ _;refine NoPanic.normal ?_;clear aA;clear RES_;clear rf;go_wp2;refine Ak (Ke (DBox.row4 RES rfl _ _ _ _)) rfl ⟨(⟨B1,m1,e1⟩,⟨B2,m2,e2⟩),F,by rw [H.out,H2.out],by rw [H2.out];exact (by (repeat (refine Dt.ow_set Bu ?_ en1 _));exact (show Bu.ow _ F y (⟨B1,m1,e1⟩,⟨B2,m2,e2⟩) from oy)),fun x hx=>by have:=nF x hx;omega,?_⟩;repeat (first | (with_reducible exact B0) | refine Ae ?_ Bo _)
 have q3:(Cr p != 0)=false:=by simp [p3]
 have P3:=Bq p3;clear p3;go_wp2_with fail
 refine (CR.out _ B0 rI Bl).mono ?_;rintro e1 w6 ⟨rfl,b6⟩;clear X_;clear P_;clear OB_;replace X:=X.below b6;replace P:=P.below b6;replace OB:=OB.below b6;replace RES:=RES.below b6;replace oy:Bu.ow w6 F y (⟨B1,m1,e1⟩,⟨B2,m2,e2⟩):=owB oy b6;replace oS:=oS.below b6;replace oR:=oR.below b6;replace B0:=Bv B0 b6;replace cJ:=Ai cJ b6.size;clear b6;have X_:=X.g4;have P_:=P.g5;have OB_:=OB.g4;cases p4:Kr y p;case false =>
  have H:=Bq (show Jc y id p=7 by unfold Jc;rw [if_neg (fun h=>h P0.out),if_neg (by rw [P1.out];simp),if_neg (by have:=P2.out;omega),if_neg (fun h=>h P3.out),if_pos p4]);have H2:=Bq (show I8 y id p=y by unfold I8;rw [H.out,if_neg Bp]);have RES_:=RES.g4;have rf:=RES.free;go_wp2;have en1:w.heap.size+1+1∉F:=fun hx=>by have:=nF _ hx;omega
  refine Ak (Ke (DBox.row4 RES rfl _ _ _ _)) rfl ⟨(⟨B1,m1,e1⟩,⟨B2,m2,e2⟩),F,by rw [H.out,H2.out],by rw [H2.out];exact (by (repeat (refine Dt.ow_set Bu ?_ en1 _));exact (show Bu.ow _ F y (⟨B1,m1,e1⟩,⟨B2,m2,e2⟩) from oy)),fun x hx=>by have:=nF x hx;omega,?_⟩;repeat (first | (with_reducible exact B0) | refine Ae ?_ Bo _)
 have H:=Bq (show Jc y id p=0 by unfold Jc;rw [if_neg (fun h=>h P0.out),if_neg (by rw [P1.out];simp),if_neg (by have:=P2.out;omega),if_neg (fun h=>h P3.out),if_neg (by rw [p4];simp)]);have H2:=Bq (show I8 y id p=Ly ⟨y.now,y.seq,y.shelf,y.runs ++ [Ce id p]⟩ Eh (Ce id p) by unfold I8;rw [if_pos H.out]);have rE:=Bq (show y.runs.length<8 by
  unfold Kr at p4;simp only [Bool.and_eq_true,decide_eq_true_eq] at p4;exact p4.1)
 clear rI;go_wp2_with fail
 refine (CN.out _ B0 P1.out P3.out).mono ?_;rintro e1 w7 ⟨sr,Fr,rfl,orn,nr,b7⟩;have mQ:=Bq (show (Ce id p).tasks.length<=12 by have h1:=Hs id p;have h2:=Dx (Cs.1 P3.out).1;omega);have nY:=B0.size;have hobw6:=OB.lt;have eX:∀ x∈Fr,w6<=x:=nr;clear nr;clear X_;clear P_;clear OB_;clear X P;replace OB:=OB.below b7;replace RES:=RES.below b7;replace oS:=oS.below b7;have B7:=Bv B0 b7;have b7s:=b7.size;have XB:=DBox.new 67 [J Ab (Ce id p).id,J Ab (Ce id p).plan.prio,J Ab (Ce id p).plan.most,J Ab (Ce id p).plan.wait,J Ab (Ce id p).plan.tasks,Aa sr.1.a sr.1.n sr.1.c,J Ab (Ce id p).state,Aa sr.2.a sr.2.n sr.2.c] w7 (b:=w7) rfl;have b8:Below w7 w7 (w7.alloc (.cells #[J Ab (Ce id p).id,J Ab (Ce id p).plan.prio,J Ab (Ce id p).plan.most,J Ab (Ce id p).plan.wait,J Ab (Ce id p).plan.tasks,Aa sr.1.a sr.1.n sr.1.c,J Ab (Ce id p).state,Aa sr.2.a sr.2.n sr.2.c] 67)):=Bt;go_upto_region 13 with fail
 replace OB:=OB.below b8;replace RES:=RES.below b8;replace oS:=oS.below b8;replace B7:=Bv B7 b8;have b78:=Bv b7 b8;have orn8:=Cn.ow_below (F:=Fr) (x:=Ce id p) (s:=sr) orn b8;have gH:=XB.lt;generalize w7.alloc (.cells #[J Ab (Ce id p).id,J Ab (Ce id p).plan.prio,J Ab (Ce id p).plan.most,J Ab (Ce id p).plan.wait,J Ab (Ce id p).plan.tasks,Aa sr.1.a sr.1.n sr.1.c,J Ab (Ce id p).state,Aa sr.2.a sr.2.n sr.2.c] 67)=w8 at *
 generalize fA:w7.heap.size=xb at *
 have cK:=Bq (show rs.length=y.runs.length by have:=congrArg List.length hm.out;simpa using this);have nW:=Bq (show rs.length<=3000000 by have:=rE.out;have:=cK.out;omega);have hO:=oR.1;have tL:=hO.below b78;obtain ⟨A5_,c5_,jK,-⟩:=_root_.id (Rd.of_own hO);have tM:=jK;simp only [Sl.v,Value.slice.injEq] at tM;obtain ⟨rfl,rfl,rfl⟩:=tM;clear jK;have OB_:=OB.g4;have XB_:=XB.g8;have obf:=OB.free;have uC:∀ g,(Value.slice B2 rs.length e2).ownBlock=Ad g->base<=g/\g<w6.heap.size:=fun g hg=>hO.within _ hg;have nJ:∀ g,(Value.slice B2 rs.length e2).ownBlock=Ad g->g≠ob:=fun g hg=>qB g hg;have ha:=Bq (show ∀ w:World,Below w w (w.alloc (.cells #[J Ab (Ce id p).id,J Ab (Ce id p).plan.prio,J Ab (Ce id p).plan.most,J Ab (Ce id p).plan.wait,J Ab (Ce id p).plan.tasks,Aa sr.1.a sr.1.n sr.1.c,J Ab (Ce id p).state,Aa sr.2.a sr.2.n sr.2.c] 67)) from fun w=>Bt);have mU:=Bq nJ;have fG:=Bq uC;clear nJ uC qB;have fN:base<=w8.heap.size:=Bl;go_upto_region 14 with (at_builtin;go_loud (refine Cj _ Cn.enc Bp rfl (.tmp 49) (.tmp 51) rfl underlying29 bZ jz0 jz1 jz2 rfl (base:=base) (v:=Aa B2 rs.length e2) (l:=rs) rfl (tL.below (ha.out w8)) rfl (Rd.one Cn.enc _ _ (Ce id p,sr) rfl rfl 1 (Bs _) (Nat.lt_succ_self _)) nW.out Bn Bp (by simp;omega) ?_);intro v9 w9 o9 g9 f9;obtain ⟨A9,c9,rfl,-⟩:=_root_.id (Rd.of_own o9);simp only [Bd,List.length_singleton] at o9 f9;have OB9:=(OB.below (ha.out w8)).off g9 (fun e=>(mU.out _ e.symm) rfl);have q3:=OB9.cell 3 _ rfl;have qf:=OB9.free;have ql:=OB9.lt)
 have hP:=oR.push1 b78 orn8 eX cJ (ha.out w8) o9 g9 f9;have tT:=hP.owl (l:=y.runs ++ [Ce id p]) (by rw [List.map_append,hm.out];rfl);have g9s:=g9.size;simp only [Bj] at g9s;have gC:∀ x∈Ei (Aa A9 (rs.length+1) c9) (rs ++ [(Ce id p,sr)]).length ++ (G0 ++ Fr),x≠ob/\base<=x:=fun x hx=>by
  rcases Bi.1 hx with hx | hx
  ·have h1:=Ho _ _ _ hx;refine ⟨?_,(o9.within x h1).1⟩;rcases f9 with h2 | h2
   ·rw [h2] at h1;exact mU.out _ h1
   ·rw [h2] at h1
    have:=Option.some.inj h1
    simp only [Bj] at this;omega
  ·rcases Bi.1 hx with hx | hx
   ·exact ⟨by have:=uA x hx;omega,(oR.2.2.2 x hx).1⟩
   ·exact ⟨by have:=eX x hx;omega,by have:=eX x hx;omega⟩
 generalize Ei (Aa A9 (rs.length+1) c9) (rs ++ [(Ce id p,sr)]).length ++ (G0 ++ Fr)=F2 at *
 have XB9:=(XB.below (ha.out w8)).off g9 (fun e=>by have h1:=(fG.out _ e.symm).2;omega);have RES9:=(RES.below (ha.out w8)).off g9 (fun e=>by have h1:base<=w.heap.size+1+1:=(fG.out _ e.symm).1;omega);have oS9:=(oS.below (ha.out w8)).grown g9 (fun b hb e=>by have h1:=(fG.out b e).1;have h2:=(eL b hb).2;omega);have orn9:=Cn.ow_keep (Cn.ow_below (F:=Fr) (x:=Ce id p) (s:=sr) orn8 (ha.out w8)) g9.size (fun b bT=>g9.block b (Cn.ow_lt (F:=Fr) (x:=Ce id p) (s:=sr) (Cn.ow_below (F:=Fr) (x:=Ce id p) (s:=sr) orn8 (ha.out w8)) b bT) (fun e=>by have h1:=(fG.out _ e.symm).2;have h2:=eX b bT;omega));have B9:Below w w w9:=(Bv B7 (ha.out w8)).grown g9 (Bv B7 (ha.out w8)).size (fun g hg=>by have h1:=(fG.out g hg).1;omega);have nU:w<=ob:=Bl;have OB10:DBox ob [J Ab y.now,J Ab y.seq,Aa B1 m1 e1,Aa A9 (rs.length+1) c9] (w9.setCell ⟨ob,3,Ac⟩ (Aa A9 (rs.length+1) c9)):=OB9.set 3 Bn _;have XB10:=XB9.setOther (a:=⟨ob,3,Ac⟩) (by show xb≠ob;omega) (Aa A9 (rs.length+1) c9);have RES10:=RES9.setOther (a:=⟨ob,3,Ac⟩) (by show w.heap.size+1+1≠ob;omega) (Aa A9 (rs.length+1) c9);have oS10:=oS9.set (a:=⟨ob,3,Ac⟩) (fun hx=>by have h1:_/\ob<base:=eL _ hx;omega) (Aa A9 (rs.length+1) c9);have oR10:=tT.set (a:=⟨ob,3,Ac⟩) (fun hx=>(gC _ hx).1 rfl) (Aa A9 (rs.length+1) c9);have orn10:=Cn.ow_set (F:=Fr) (x:=Ce id p) (s:=sr) orn9 (a:=⟨ob,3,Ac⟩) (fun hx=>by have h1:w6<=ob:=eX _ hx;omega) (Aa A9 (rs.length+1) c9);have B10:Below w w (w9.setCell ⟨ob,3,Ac⟩ (Aa A9 (rs.length+1) c9)):=Ae B9 (by show w.heap.size<=ob;omega) _;clear OB9 XB9 RES9 oS9 orn9 B9 tT hP XB RES oS B7 OB o9 g9 f9 q3 qf ql orn8 hO tL oR obf mU;clear OB_;clear XB_;generalize w9.setCell ⟨ob,3,Ac⟩ (Aa A9 (rs.length+1) c9)=w10 at *
 have OB10_:=OB10.g4;have XB10_:=XB10.g8;obtain rfl:m1=y.shelf.length:=RdL.at1 (s:=⟨B1,m1,e1⟩) oS10.rd;obtain ⟨g,o,_,rfl,fZ,_,_⟩:=RdL.entryS (show RdL (Dt.list Ch) w10 w10.heap.size (Aa B1 y.shelf.length e1) y.shelf from oS10.rd) (k:=0) (by have:=h4.out;omega);have eP:g∈F1:=OwL.block_mem (show OwL (Dt.list Ch) w10 F1 (Aa (Ad ⟨g,o,Ac⟩) y.shelf.length e1) y.shelf from oS10) (by have:=h4.out;omega);have rB:=eL g eP;have hRlt:=oR10.lt;have bQ:=Bq (show ∀ x,x∈[g]->x=g from fun x hx=>by simpa using hx);refine Go.wp_region_noPanic ?_;refine wp_region_held_drew (S:=(fun w'=>DBox xb [J Ab id,J Ab p.prio,J Ab p.most,J Ab p.wait,J Ab p.tasks,Aa sr.1.a sr.1.n sr.1.c,J Ab (Ce id p).state,Aa sr.2.a sr.2.n sr.2.c] w')) Bm (show DBox xb _ w10.drew from XB10.below (Br _ _).drew) (fun aA=>?_);clear XB10_;refine tY 0 ?_
 (try simp only [pS])
 refine tY 1 ?_
 (try simp only [pS])
 have bd:Below w10 w10 w10.drew:=(Br _ _).drew;have mJ:Hid ((Ce id p).tasks.length<=2000000):=by
  have h1:(Ce id p).tasks.length=p.tasks.toNat:=by unfold Ce;simp
  have h2:=Dx (Cs.1 P3.out).1;have h3:(Ce id p).tasks.length<=2000000:=Bl;exact Bq h3
 have CT:=Bq (I2 (Ce id p) sr 2 w10.drew mJ.out (Cn.ow_rd (F:=Fr) (x:=Ce id p) (s:=sr) (Cn.ow_below (F:=Fr) (x:=Ce id p) (s:=sr) orn10 bd)));refine rC 2 (fun K_ hK=>?_);go_simp;refine CT.out.mono ?_;rintro e7 wa ⟨v7,rfl,o7,b7⟩;refine hK.out _ _ (aA.below b7) (fun aA=>?_);clear hK K_
 (try simp only [pS])
 have pT:w10.drew.heap.size=w10.heap.size:=rfl;have ba:Below w10 w10 wa:=Bv bd b7;clear bd b7 CT;replace OB10:=OB10.below ba;replace RES10:=RES10.below ba;replace oS10:=oS10.below ba;replace oR10:=oR10.below ba;replace B10:=Bv B10 ba;have tH:=ba.size;have hRlt:=oR10.lt;obtain ⟨A7,c7,rfl,-⟩:=_root_.id (Rd.of_own o7);have hobF:ob∉F1:=fun hx=>by have h1:_/\ob<base:=eL _ hx;omega
 have fE:=Bq (show ∀ x,x∈[ob,g]->x=ob\/x=g from fun x hx=>by simpa using hx);have CS:=Bq (Qt ⟨y.now,y.seq,y.shelf,y.runs ++ [Ce id p]⟩ ob g o e1 ⟨A9,rs.length+1,c9⟩ (Ce id p) sr (Dd (Ce id p).tasks 2) A7 _ c7 wa F1 h4.out (fun s hs=>by have:=(cW.out s hs).1;omega) (by dsimp only;omega) (Ai (Jr _ _ _) (by have:=mQ.out;omega)) OB10 oS10 hobF (Bq fun W hW=>o7.rdHi hW (fun x hx=>by rcases fE.out x hx with h | h<;>(left;omega))));rw [<-Agt] at CS;unfold P8 at CS;dsimp only at CS;have fB:=Bq (show (Ly ⟨y.now,y.seq,y.shelf,y.runs ++ [Ce id p]⟩ Eh (Ce id p)).runs=y.runs ++ [Ce id p] from (Rf (y:=⟨y.now,y.seq,y.shelf,y.runs ++ [Ce id p]⟩) (was:=Eh) (r:=Ce id p) (M:=80) (fun s hs=>(cW.out s hs).1) (Ce id p).tasks.length).runs);generalize Ly ⟨y.now,y.seq,y.shelf,y.runs ++ [Ce id p]⟩ Eh (Ce id p)=Z at *
 refine rC 3 (fun K_ hK=>?_);go_simp;refine CS.out.mono ?_;rintro e8 w11 ⟨rfl,F1',q1,Y6,q2,q3⟩;refine hK.out _ _ (aA.chg q3 (fun hx=>by rcases fE.out _ hx with h | h<;>omega)) (fun aA=>?_);clear hK K_
 (try simp only [pS])
 refine Am Bm ?_ _;refine NoPanic.normal ?_;clear aA CS o7 OB10;have hs11:=q3.size;have RES11:=RES10.chg q3 (fun hx=>by rcases fE.out _ hx with h | h<;>omega);have oR11:=oR10.chg q3 (fun x hx h=>by
  have h2:=gC x hx;rcases fE.out x h with h1 | h1
  ·exact h2.1 h1
  ·omega)
 have B11:=B10.trans (q3.below (by have:=B10.size;omega) (fun x hx=>by rcases fE.out _ hx with h | h<;>omega));clear RES10;have RES11_:=RES11.g4;have Y6_:=Y6.g4;have rf:=RES11.free;go_wp2;have en1:w.heap.size+1+1∉F1':=fun hx=>by
  rcases q2 _ hx with h | h
  ·have:=(eL _ h).1;omega
  ·have:=B10.size;omega
 have en2:w.heap.size+1+1∉F2:=fun hx=>by have:=(gC _ hx).2;omega
 refine Ak (Ke (DBox.row4 RES11 rfl _ _ _ _)) rfl ⟨(⟨Ad ⟨g,o,Ac⟩,y.shelf.length,e1⟩,⟨A9,rs.length+1,c9⟩),F1' ++ F2,by rw [H.out,H2.out],⟨F1',F2,rfl,?_,?_,?_⟩,fun x hx=>?_,?_⟩
 ·rw [Ay];refine ⟨q1.nodup,oR11.nodup,fun a ha b hb e=>?_⟩;subst e;have h3:=gC a hb;have h4:=hRlt a hb;rcases q2 a ha with h | h
  ·have:=(eL a h).2;omega
  ·omega
 ·rw [H2.out];show OwL (Dt.list Ch) _ F1' (Aa (Ad ⟨g,o,Ac⟩) y.shelf.length e1) Z.shelf;exact ((((q1.set (a:=⟨_,_,Ac⟩) en1 _).set (a:=⟨_,_,Ac⟩) en1 _).set (a:=⟨_,_,Ac⟩) en1 _).set (a:=⟨_,_,Ac⟩) en1 _)
 ·rw [H2.out];show OwL Cn _ F2 (Aa A9 (rs.length+1) c9) Z.runs;rw [fB.out];exact ((((oR11.set (a:=⟨_,_,Ac⟩) en2 _).set (a:=⟨_,_,Ac⟩) en2 _).set (a:=⟨_,_,Ac⟩) en2 _).set (a:=⟨_,_,Ac⟩) en2 _)
 ·rcases Bi.1 hx with hx | hx
  ·rcases q2 x hx with h | h
   ·have:=(eL x h).1;omega
   ·have:=B10.size;omega
  ·have:=(gC x hx).2;omega
 ·repeat (first | (with_reducible exact B11) | refine Ae ?_ Bo _)
theorem Aew (y:Yard) (s:Sl×Sl) (p:Nat) (e:Entry) (w:World) (hl:Cf y<=2000000) (X:DBox p (Ev y s) w) (h:Bu.rd w w y s) :
  Calls An 275 #[Io e (),.pointer (Ad ⟨p,0,Ac⟩)] w fun e' w'=>e' = .returned (.bool (!Di y e))/\Below w w w':=by
 have CF:=Bq (fun W (hW:Below w w W)=>M3 y s e W hl (Bu.rd_more (Bu.rd_below h hW) hW.size));obtain ⟨⟨A1,n1,c1⟩,⟨A2,n2,c2⟩⟩:=s;have B0:Below w w (w.alloc (.cells #[J Ab e.prio,J Ab e.seq,J Ab e.run,J Ab e.task] 71)):=Bt;have E:=DBox.new 71 [J Ab e.prio,J Ab e.seq,J Ab e.run,J Ab e.task] w (b:=w) rfl;have CF:=Bq (CF.out _ B0);replace X:=X.below B0;clear h hl;have X_:=X.g4;have E_:=E.g4;go_enter func275,ntmps275;go_wp2_with fail
 refine CF.out.mono ?_;rintro e1 w1 ⟨rfl,b1⟩;go_wp2;go_ret;exact ⟨rfl,Bv B0 b1⟩
theorem Aex {b:Nat} {w:World} {u0 u1 u2 u3:Value} (X:DBox b [u0,u1,u2,u3] w) {v0 v1 v2 v3:Value} {rest:List Value} :
  (results Tryz.f204 (v0 :: v1 :: v2 :: v3 :: .pointer (Ad ⟨b,0,Ac⟩) :: rest).toArray).run An w = .ok (.agg #[u0,u1,u2,u3]) w:=by
 obtain ⟨c0,c1,c2,c3,-⟩:=X.g4;simp [results,results204,go_sem,c0,c1,c2,c3]
theorem Qx (y:Yard) (s:Sl×Sl) (i:Nat) (w:World) (hi:i<y.shelf.length) (hl:Cf y<=2000000) (h:Bu.rd w w y s) :
  Calls An 204 #[Dh y s,J Ab i] w (Fa Bu Dh (Cg y i) w):=by
 have HR:=Bq (show ∀ W,Below w w W->Bu.rd W W y s from fun W hW=>Bu.rd_more (Bu.rd_below h hW) hW.size);obtain ⟨⟨A1,n1,c1⟩,⟨A2,n2,c2⟩⟩:=s;obtain rfl:n1=y.shelf.length:=RdL.at1 (s:=⟨A1,n1,c1⟩) h.1;have CC:=Bq (fun W hW=>Gj y (⟨A1,y.shelf.length,c1⟩,⟨A2,n2,c2⟩) W hl (HR.out W hW));have nR:y.shelf[i].length<=2000000:=by
  have h1:=Gw (cnt:=Dp) (List.getElem_mem hi);have h2:y.shelf[i].length<=Dp y.shelf[i]:=Cv _ _;unfold Cf at hl;omega
 have hshl:y.shelf.length<=2000000:=Ai (Cv Dp _) (by unfold Cf at hl;omega);clear h;have hiI:(i:Int)<(y.shelf.length:Int):=Bl;have hi00:(0:Int)<=(i:Int):=Bl;obtain ⟨W,aG,X,RES,B0⟩:=bx2 w 31 [J Ab y.now,J Ab y.seq,Aa A1 y.shelf.length c1,Aa A2 n2 c2] 31 [J Ab 0,J Ab 0,Aa Ac 0 0,Aa Ac 0 0];go_enter func204,ntmps204;go_wp2_with fail
 rw [<-aG.out];clear aG;refine (CC.out _ B0).mono ?_;rintro e1 w1 ⟨⟨⟨B1,m1,e1⟩,⟨B2,m2,e2⟩⟩,F,rfl,oy,nF,b1⟩;have dL:=RES.lt;have b2:Below w1 w1 (w1.alloc (.cells #[J Ab y.now,J Ab y.seq,Aa B1 m1 e1,Aa B2 m2 e2] 31)):=Bt;have OB:DBox w1 (Ev y (⟨B1,m1,e1⟩,⟨B2,m2,e2⟩)) _:=DBox.new 31 [J Ab y.now,J Ab y.seq,Aa B1 m1 e1,Aa B2 m2 e2] w1 (b:=w1) rfl;have bM:=Bq (Bu.ow_lt (F:=F) (x:=y) (s:=(⟨B1,m1,e1⟩,⟨B2,m2,e2⟩)) oy);have cM:=Bq (show ∀ x∈F,w.heap.size+1<x from fun x hx=>by have:=nF x hx;omega);replace oy:Bu.ow _ F y (⟨B1,m1,e1⟩,⟨B2,m2,e2⟩):=owB oy b2;have b12:=Bv b1 b2;replace X:=X.below b12;replace RES:=RES.below b12;replace B0:=Bv B0 b12;have bG:=b1.size;clear b1 b2 b12 CC nF;go_upto_region 2 with fail
 have cR:w1.heap.size∉F:=fun h=>by have:=bM.out _ h;omega
 have hobR:w.heap.size+1<w1.heap.size:=Bl;generalize w1.heap.size=ob at *
 generalize w1.alloc (.cells #[J Ab y.now,J Ab y.seq,Aa B1 m1 e1,Aa B2 m2 e2] 31)=w2 at *
 have wr1:Ab.wrap ((y.shelf.length:Int) - 1)=(y.shelf.length:Int) - 1:=Ar _ Bl;have q:inB (i:Int) 0 ((y.shelf.length:Int) - 1)=true:=Ct.2 Bl;have X_:=X.g4;go_wp2_with (go_at_call 72;refine (Cq _ _ _ _).mono ?_;rintro e w9 ⟨rfl,rfl⟩;rw [q])
 clear X_;have eS:=Bq hl;have bd:Below w2 w2 w2.drew:=(Br _ _).drew;obtain ⟨F1,F2,rfl,bI,os,orr⟩:=oy;replace os:OwL (Dt.list Ch) w2 F1 (Aa B1 m1 e1) y.shelf:=os;replace orr:OwL Cn w2 F2 (Aa B2 m2 e2) y.runs:=orr;obtain rfl:m1=y.shelf.length:=RdL.at1 (s:=⟨B1,m1,e1⟩) os.rd;obtain ⟨g,o,_,rfl,hg,_,_⟩:=os.rd.entryS hi;obtain ⟨OB_0,OB_1,OB_2,OB_3,OB_l⟩:=OB.g4;obtain ⟨⟨A9,n9,c9⟩,Fx,kJ,bF,kK,eP,fB,bV,cP⟩:=OwL.trade (os.below bd) hi;replace kJ:OwL Ch w2.drew Fx (Aa A9 n9 c9) y.shelf[i]:=kJ;obtain rfl:n9=y.shelf[i].length:=RdL.at1 (s:=⟨A9,n9,c9⟩) kJ.rd;have ck:w2.drew.cell? ⟨g,o+i,Ac⟩=Ad (Aa A9 y.shelf[i].length c9):=by
  have:=bV 0 _ rfl
  rw [show o+i * (Dt.list Ch).enc.sz+0=o+i from by show o+i * 1+0=o+i;omega] at this;exact this
 have hXn:w.heap.size∉Fx:=fun hx=>by have:=cM.out _ (Bf _ (bF _ hx));omega
 have jR:=Bv B0 bd;have Xd:=X.below bd;have jW:∀ (W:World) (x:Entry),Below w w W->DBox w [J Ab y.now,J Ab y.seq,Aa A1 y.shelf.length c1,Aa A2 n2 c2] W->Calls An 275 #[Io x (),.pointer (Ad ⟨w,0,Ac⟩)] W fun e w'=>e = .returned (.bool (!Di y x))/\Below W W w' :=
  fun W x hW hX=>Aew y (⟨A1,y.shelf.length,c1⟩,⟨A2,n2,c2⟩) w x W eS.out hX (HR.out W hW)
 have CD:=Bq (Ua y.shelf[i] A9 y.shelf[i].length c9 Fx 275 w.heap.size (fun e=>!Di y e) (N0 func275 Bm Bm) w2.drew nR
  (fun W x hW=>jW W x (jR.trans (hW.below jR.size (fun z hz=>by have:=cM.out _ (Bf _ (bF _ hz));omega))) (Xd.chg hW hXn))
  (Q7 275 w (fun e=>!Di y e) (N0 func275 Bm Bm) y.shelf[i] A9 y.shelf[i].length c9 w2.drew nR (Se kJ).rd (fun W x hW=>jW W x (jR.trans (hW.mono jR.size)) (Xd.below hW)))
  (Se kJ))
 clear jW eS;refine Dl (fun w'=>w'.cell? ⟨ob,2,Ac⟩=Ad (Aa (Ad ⟨g,o,Ac⟩) y.shelf.length e1)/\w'.cell? ⟨g,o+i,Ac⟩=Ad (Aa A9 y.shelf[i].length c9)) 11 Bm ?_ (fun aA=>?_)
 ·exact ⟨OB_2,ck⟩
 refine aT 0 aA ?_;try simp only [pS]
 refine aT 1 aA ?_;try simp only [pS]
 refine aT 2 aA ?_;try simp only [pS]
 refine aT 3 aA ?_;try simp only [pS]
 refine aT 4 aA ?_;try simp only [pS]
 refine aT 5 aA ?_;try simp only [pS]
 refine aT 6 aA ?_;try simp only [pS]
 refine aT 7 aA ?_;try simp only [pS]
 refine aT 8 aA ?_;try simp only [pS]
 refine oT 9 (fun K hK=>?_)
 (go_simp;refine CD.out.mono ?_;rintro e7 wa ⟨k9,F',rfl,hH,cV,hC⟩)
 have fZ:g<w2.drew:=os.lt g eP;have gD:ob<w2.drew:=OB.lt;have pF:ob∉Fx:=fun hx=>cR (Bf _ (bF _ hx));have dY:ob≠g:=fun e=>cR (by rw [e];exact Bf _ eP);have hgn:=cM.out g (Bf _ eP);have sQ:=(hC.cell (p:=⟨ob,2,Ac⟩) gD pF).trans aA.1;have ck2:=(hC.cell (p:=⟨g,_,Ac⟩) fZ kK).trans ck;have hgf2:∀ j,wa.frozen? ⟨g,j,Ac⟩=false:=fun j=>(hC.frozen (p:=⟨g,_,Ac⟩) fZ kK).trans (fB j);refine hK.out _ _ (fun _=>⟨sQ,ck2⟩) ?_;clear hK K;try simp only [pS]
 refine oT 10 (fun K hK=>?_);go_simp;refine hK.out _ _ (fun _=>⟨sQ,ck2⟩) ?_;clear hK K;try simp only [pS]
 have hga:=hC.size;refine oT 11 (fun K hK=>?_);go_simp;refine hK.out _ _ (fun aE=>absurd rfl aE) ?_;clear hK K aA;try simp only [pS]
 refine Eb Bm ?_ _;obtain ⟨F3,o3,tI,sM⟩:=cP wa (y.shelf[i].filter fun x=>!!Di y x) ⟨A9,k9,c9⟩ F' hC (Zu hH) cV;have fD:Is wa g (o+i * (Dt.list Ch).enc.sz) ((Dt.list Ch).enc.cells ((y.shelf[i].filter fun x=>!!Di y x),(⟨A9,k9,c9⟩:Sl)))=wa.setCell ⟨g,o+i,Ac⟩ (Aa A9 k9 c9):=by
  show Is wa g (o+i * 1) [Aa A9 k9 c9]=_;rw [Nat.mul_one];rfl
 rw [fD] at o3;have hd12:∀ x∈F1,x∉F2:=fun x hx hx2=>(Ay.1 bI).2.2 x hx x hx2 rfl;have hS:=Chg.setCell wa g (o+i) (Aa A9 k9 c9);have bQ:=Bq (show ∀ x,x∈[g]->x=g from fun x hx=>by simpa using hx);have orr3:=((orr.below bd).chg hC (fun x hx hx2=>hd12 x (bF x hx2) hx)).chg hS (fun x hx hx2=>by have:=bQ.out x hx2;subst this;exact hd12 x eP hx);have hX3:w.heap.size+1∉Fx:=fun hx=>by have:=cM.out _ (Bf _ (bF _ hx));omega
 have RES3:=((RES.below bd).chg hC hX3).chg hS (fun hx=>by have:=bQ.out _ hx;omega);have OB3:=((OB.below bd).chg hC pF).chg hS (fun hx=>dY (bQ.out _ hx));have B3:=(jR.trans (hC.below jR.size (fun z hz=>by have:=cM.out _ (Bf _ (bF _ hz));omega))).trans (hS.below (base:=w) (by have:=jR.size;omega) (fun x hx=>by have:=bQ.out x hx;omega));have oyF:Bu.ow (wa.setCell ⟨g,o+i,Ac⟩ (Aa A9 k9 c9)) (F3 ++ F2) (Cg y i) (⟨Ad ⟨g,o,Ac⟩,y.shelf.length,e1⟩,⟨B2,m2,e2⟩):=by
  refine ⟨F3,F2,rfl,?_,?_,orr3⟩
  ·rw [Ay] at bI ⊢;exact ⟨o3.nodup,bI.2.1,fun a ha b hb e=>hd12 a (tI a ha) (by rw [e];exact hb)⟩
  ·have hE:(Cg y i).shelf=y.shelf.set i (y.shelf[i].filter fun x=>!!Di y x):=by
    show y.shelf.set i ((y.shelf.getD i []).filter fun e=>Di y e)=_;rw [List.getD_eq_getElem?_getD,List.getElem?_eq_getElem hi];simp
   show OwL (Dt.list Ch) _ F3 (Aa (Ad ⟨g,o,Ac⟩) y.shelf.length e1) (Cg y i).shelf;rw [hE];exact o3
 have mE:∀ x∈F3 ++ F2,w+1<x:=fun x hx=>by
  rcases Bi.1 hx with hx | hx
  ·exact cM.out x (Bf _ (tI x hx))
  ·exact cM.out x (List.mem_append_right _ hx)
 have mE:=Bq mE;clear o3 tI sM cP hC hH cV CD os orr orr3 kJ bV ck ck2 sQ hgf2 fB hd12 bF cM hX3 hS RES X Xd B0 jR bd;clear OB_0 OB_1 OB_2 OB_3 OB_l;clear OB;generalize wa.setCell ⟨g,o+i,Ac⟩ (Aa A9 k9 c9)=w6 at *
 have OB:=OB3;have RES:=RES3;obtain ⟨OB_0,OB_1,OB_2,OB_3,OB_l⟩:=OB.g4;have RES_:=RES.g4;have rf:=RES.free;go_wp2;have en1:w.heap.size+1∉F3 ++ F2:=fun hx=>by have:=mE.out _ hx;omega
 refine Ak (Aex (DBox.row4 RES rfl _ _ _ _)) rfl ⟨(⟨Ad ⟨g,o,Ac⟩,y.shelf.length,e1⟩,⟨B2,m2,e2⟩),F3 ++ F2,rfl,Bu.set4 (F:=F3 ++ F2) (x:=Cg y i) (s:=(⟨Ad ⟨g,o,Ac⟩,y.shelf.length,e1⟩,⟨B2,m2,e2⟩)) oyF en1,fun x hx=>by have:=mE.out x hx;omega,?_⟩;repeat (first | (with_reducible exact B3) | refine Ae ?_ Bo _)
theorem Mz {b:Nat} {w:World} {u0 u1 u2 u3:Value} (X:DBox b [u0,u1,u2,u3] w) {v0 v1 v2 v3 v5:Value} {rest:List Value} :
  (results Tryz.f136 (v0 :: v1 :: v2 :: v3 :: .pointer (Ad ⟨b,0,Ac⟩) :: v5 :: rest).toArray).run An w = .ok (.tuple #[.agg #[u0,u1,u2,u3],v5]) w:=by
 have c0:=X.cell 0 _ rfl;have c1:=X.cell 1 _ rfl;have c2:=X.cell 2 _ rfl;have c3:=X.cell 3 _ rfl;simp [results,results136,go_sem,c0,c1,c2,c3]
theorem Xq (y:Yard) (s:Sl×Sl) (id:Int) (w:World) (hl:Cf y<=2000000) (h:Bu.rd w w y s) :
  Calls An 136 #[Dh y s,J Ab id] w (I7 (Hy y id) (Il y id) w):=by
 have HR:=Bq (show ∀ W,Below w w W->Bu.rd W W y s from fun W hW=>Bu.rd_more (Bu.rd_below h hW) hW.size);obtain ⟨⟨A1,n1,c1⟩,⟨A2,n2,c2⟩⟩:=s;have CC:=Bq (fun W hW=>Gj y (⟨A1,n1,c1⟩,⟨A2,n2,c2⟩) W hl (HR.out W hW));have CY:=Bq (fun W hW=>G8 y (⟨A1,n1,c1⟩,⟨A2,n2,c2⟩) W hl (HR.out W hW));have CA:=Bq (fun W hW=>Ep y (⟨A1,n1,c1⟩,⟨A2,n2,c2⟩) id W hl (HR.out W hW));have CX:=Bq (fun W hW=>show RdL Cn W W.heap.size (Aa A2 n2 c2) y.runs from (HR.out W hW).2);clear h HR;obtain ⟨W,aG,X,RES,B0⟩:=bx2 w 31 [J Ab y.now,J Ab y.seq,Aa A1 n1 c1,Aa A2 n2 c2] 31 [J Ab 0,J Ab 0,Aa Ac 0 0,Aa Ac 0 0];go_enter func136,ntmps136;go_wp2_with fail
 rw [<-aG.out];clear aG;have dL:w.heap.size+1<W.heap.size:=RES.lt;refine (CC.out _ B0).mono ?_;rintro e1 w1 ⟨⟨⟨B1,m1,e1⟩,⟨B2,m2,e2⟩⟩,F,rfl,oy,nF,b1⟩;have bG:=b1.size;have cI:=Bu.ow_lt (F:=F) (x:=y) (s:=(⟨B1,m1,e1⟩,⟨B2,m2,e2⟩)) oy;replace X:=X.below b1;replace RES:=RES.below b1;replace B0:=Bv B0 b1;clear b1;go_upto_region 2 with fail
 have OB:=DBox.new 31 [J Ab y.now,J Ab y.seq,Aa B1 m1 e1,Aa B2 m2 e2] w1 (b:=w1) rfl;have b2:Below w1 w1 (w1.alloc (.cells #[J Ab y.now,J Ab y.seq,Aa B1 m1 e1,Aa B2 m2 e2] 31)):=Bt;replace X:=X.below b2;replace RES:=RES.below b2;replace oy:=Bu.ow_below (F:=F) (x:=y) (s:=(⟨B1,m1,e1⟩,⟨B2,m2,e2⟩)) oy b2;replace B0:=Bv B0 b2;have ow1:=OB.lt;clear b2;generalize w1.alloc (.cells #[J Ab y.now,J Ab y.seq,Aa B1 m1 e1,Aa B2 m2 e2] 31)=w2 at *
 generalize cR:w1.heap.size=ob at *
 obtain ⟨X_0,X_1,X_2,X_3,X_l⟩:=X.g4;obtain ⟨OB_0,OB_1,OB_2,OB_3,OB_l⟩:=OB.g4;go_wp2_with fail
 refine (CA.out _ B0).mono ?_;rintro e1 w3 ⟨rfl,b3⟩;clear X_0 X_1 X_2 X_3 X_l;clear OB_0 OB_1 OB_2 OB_3 OB_l;replace X:=X.below b3;replace OB:=OB.below b3;replace RES:=RES.below b3;replace oy:Bu.ow w3 F y (⟨B1,m1,e1⟩,⟨B2,m2,e2⟩):=owB oy b3;replace B0:=Bv B0 b3;clear b3;obtain ⟨X_0,X_1,X_2,X_3,X_l⟩:=X.g4;obtain ⟨OB_0,OB_1,OB_2,OB_3,OB_l⟩:=OB.g4;go_wp2_with fail
 refine (CY.out _ B0).mono ?_;rintro e1 w4 ⟨rfl,b4⟩;clear X_0 X_1 X_2 X_3 X_l;clear OB_0 OB_1 OB_2 OB_3 OB_l;replace X:=X.below b4;replace OB:=OB.below b4;replace RES:=RES.below b4;replace oy:Bu.ow w4 F y (⟨B1,m1,e1⟩,⟨B2,m2,e2⟩):=owB oy b4;replace B0:=Bv B0 b4;clear b4;obtain ⟨X_0,X_1,X_2,X_3,X_l⟩:=X.g4;obtain ⟨OB_0,OB_1,OB_2,OB_3,OB_l⟩:=OB.g4;by_cases p0:Dn y;case neg =>
  rw [Cm p0];have H:=Bq (show Il y id=8 by unfold Il;rw [if_pos p0]);have H2:=Bq (show Hy y id=y by unfold Hy;rw [H.out,if_neg Bp]);have RES_:=RES.g4;have rf:=RES.free;go_wp2;have en1:w.heap.size+1∉F:=fun hx=>by have:=nF _ hx;omega
  refine Ak (Mz (DBox.row4 RES rfl _ _ _ _)) rfl ⟨(⟨B1,m1,e1⟩,⟨B2,m2,e2⟩),F,by rw [H.out,H2.out],by rw [H2.out];exact (by (repeat (refine Dt.ow_set Bu ?_ en1 _));exact (show Bu.ow _ F y (⟨B1,m1,e1⟩,⟨B2,m2,e2⟩) from oy)),fun x hx=>by have:=nF x hx;omega,?_⟩;repeat (first | (with_reducible exact B0) | refine Ae ?_ Bo _)
 rw [Ds p0];have P0:=Bq p0;clear p0;by_cases p1:Db y id<0;case pos =>
  have H:=Bq (show Il y id=10 by unfold Il;rw [if_neg (fun h=>h P0.out),if_pos p1]);have H2:=Bq (show Hy y id=y by unfold Hy;rw [H.out,if_neg Bp]);have RES_:=RES.g4;have rf:=RES.free;go_wp2;have en1:w.heap.size+1∉F:=fun hx=>by have:=nF _ hx;omega
  refine Ak (Mz (DBox.row4 RES rfl _ _ _ _)) rfl ⟨(⟨B1,m1,e1⟩,⟨B2,m2,e2⟩),F,by rw [H.out,H2.out],by rw [H2.out];exact (by (repeat (refine Dt.ow_set Bu ?_ en1 _));exact (show Bu.ow _ F y (⟨B1,m1,e1⟩,⟨B2,m2,e2⟩) from oy)),fun x hx=>by have:=nF x hx;omega,?_⟩;repeat (first | (with_reducible exact B0) | refine Ae ?_ Bo _)
 rcases Ek y id with hr | ⟨k,hk,hr⟩
 ·exact absurd hr Bl
 have HK:=Bq (Ey hk hr);have HR2:=Bq hr;rw [hr];clear hr p1;have P1:=Bq (show ¬ Db y id<0 by have:=HR2.out;omega);have gJ:(k:Int)<(n2:Int):=by have:=RdL.at1 (s:=⟨A2,n2,c2⟩) (CX.out _ B0);dsimp only at this;omega
 have dF:(0:Int)<=(k:Int):=Bl;have hkn:¬ (k:Int)<0:=Bl;have bK:=Bq (Er P0.out hk);obtain ⟨gx,ox,sk,rfl,kK,bR,c0,c1_,c2_,c3_,c4_,c5_,c6,c7_⟩:=(CX.out _ B0).run hk;by_cases p2:y.runs[k].state=1;case neg =>
  have q2:(y.runs[k].state != 1)=true:=by simp [p2]
  have H:=Bq (show Il y id=12 by unfold Il;rw [if_neg (fun h=>h P0.out),if_neg P1.out,if_pos (by rw [HK.out];exact p2)]);clear p2;have H2:=Bq (show Hy y id=y by unfold Hy;rw [H.out,if_neg Bp]);have RES_:=RES.g4;have rf:=RES.free;go_wp2;have en1:w.heap.size+1∉F:=fun hx=>by have:=nF _ hx;omega
  refine Ak (Mz (DBox.row4 RES rfl _ _ _ _)) rfl ⟨(⟨B1,m1,e1⟩,⟨B2,m2,e2⟩),F,by rw [H.out,H2.out],by rw [H2.out];exact (by (repeat (refine Dt.ow_set Bu ?_ en1 _));exact (show Bu.ow _ F y (⟨B1,m1,e1⟩,⟨B2,m2,e2⟩) from oy)),fun x hx=>by have:=nF x hx;omega,?_⟩;repeat (first | (with_reducible exact B0) | refine Ae ?_ Bo _)
 have q2:(y.runs[k].state != 1)=false:=by simp [p2]
 have H:=Bq (show Il y id=0 by unfold Il;rw [if_neg (fun h=>h P0.out),if_neg P1.out,if_neg (by rw [HK.out];exact fun h=>h p2)]);have H2:=Bq (show Hy y id=⟨y.now,y.seq,y.shelf,y.runs.set k (C8 y.runs[k] 4)⟩ by unfold Hy;rw [if_pos H.out,HK.out,HR2.out,Ap]);have P2:=Bq p2;clear p2;go_upto_region 9 with fail
 have oyr:=(Bu.ow_rd (F:=F) (x:=y) (s:=(⟨B1,m1,e1⟩,⟨B2,m2,e2⟩)) oy).2;have dW:=Bq (show m2=y.runs.length from RdL.at1 (s:=⟨B2,m2,e2⟩) oyr);have gL:(k:Int)<(m2:Int):=by have:=dW.out;omega
 obtain ⟨gr,orr,sk2,rfl,cQ,_,d0,d1,d2,d3,d4,d5,d6,d7⟩:=RdL.run (show RdL Cn w4 w4.heap.size (Aa B2 m2 e2) y.runs from oyr) hk;have gM:∀ i,w4.frozen? ⟨gr,i,Ac⟩=false:=by
  obtain ⟨G1,G2,_,_,_,os⟩:=oy;exact OwL.free0 (show OwL Cn w4 G2 (Aa (Ad ⟨gr,orr,Ac⟩) m2 e2) y.runs from os) Bl
 clear q2;generalize mP:y.runs[k]=r at *
 have CSt:=Bq (Abd r sk w4.drew (by have:=K7 bK.out;omega) bK.out P2.out (Cn.rd_below bR (Br _ _).drew));have hobw5:ob<w4:=OB.lt;clear bR oyr mP;go_wp2;have hXb5:=X.lt;refine Dl (fun w'=>w'.cell? ⟨ob,3,Ac⟩=Ad (Aa (Ad ⟨gr,orr,Ac⟩) m2 e2)/\w'.cell? ⟨w,3,Ac⟩=Ad (Aa (Ad ⟨gx,ox,Ac⟩) n2 c2)/\w'.cell? ⟨gx,ox+k * 8,Ac⟩=Ad (J Ab r.id)/\w'.cell? ⟨gx,ox+k * 8+1,Ac⟩=Ad (J Ab r.plan.prio)/\w'.cell? ⟨gx,ox+k * 8+2,Ac⟩=Ad (J Ab r.plan.most)/\w'.cell? ⟨gx,ox+k * 8+3,Ac⟩=Ad (J Ab r.plan.wait)/\w'.cell? ⟨gx,ox+k * 8+4,Ac⟩=Ad (J Ab r.plan.tasks)/\w'.cell? ⟨gx,ox+k * 8+5,Ac⟩=Ad (Aa sk.1.a sk.1.n sk.1.c)/\w'.cell? ⟨gx,ox+k * 8+6,Ac⟩=Ad (J Ab r.state)/\w'.cell? ⟨gx,ox+k * 8+7,Ac⟩=Ad (Aa sk.2.a sk.2.n sk.2.c)) 10 Bm ?_ (fun aA=>?_)
 ·exact ⟨OB_3,X_3,c0,c1_,c2_,c3_,c4_,c5_,c6,c7_⟩
 refine aT 0 aA ?_;try simp only [pS]
 refine aT 1 aA ?_;try simp only [pS]
 refine aT 2 aA ?_;try simp only [pS]
 refine aT 3 aA ?_;try simp only [pS]
 refine aT 4 aA ?_;try simp only [pS]
 refine aT 5 aA ?_;try simp only [pS]
 refine aT 6 aA ?_;try simp only [pS]
 refine aT 7 aA ?_;try simp only [pS]
 refine oT 8 (fun K hK=>?_)
 (go_simp;refine CSt.out.mono ?_;rintro e9 w6 ⟨sr,Fr,rfl,orn,nr,b6⟩;have q0:w6.cell? ⟨gr,orr+k * 8,Ac⟩=Ad (J Ab r.id):=(b6.cell (p:=⟨_,_,Ac⟩) (by show gr<w4;omega)).trans d0;have q1:w6.cell? ⟨gr,orr+k * 8+1,Ac⟩=Ad (J Ab r.plan.prio):=(b6.cell (p:=⟨_,_,Ac⟩) (by show gr<w4;omega)).trans d1;have q2:w6.cell? ⟨gr,orr+k * 8+2,Ac⟩=Ad (J Ab r.plan.most):=(b6.cell (p:=⟨_,_,Ac⟩) (by show gr<w4;omega)).trans d2;have q3:w6.cell? ⟨gr,orr+k * 8+3,Ac⟩=Ad (J Ab r.plan.wait):=(b6.cell (p:=⟨_,_,Ac⟩) (by show gr<w4;omega)).trans d3;have q4:w6.cell? ⟨gr,orr+k * 8+4,Ac⟩=Ad (J Ab r.plan.tasks):=(b6.cell (p:=⟨_,_,Ac⟩) (by show gr<w4;omega)).trans d4;have q5:w6.cell? ⟨gr,orr+k * 8+5,Ac⟩=Ad (Aa sk2.1.a sk2.1.n sk2.1.c):=(b6.cell (p:=⟨_,_,Ac⟩) (by show gr<w4;omega)).trans d5;have q6:w6.cell? ⟨gr,orr+k * 8+6,Ac⟩=Ad (J Ab r.state):=(b6.cell (p:=⟨_,_,Ac⟩) (by show gr<w4;omega)).trans d6;have q7:w6.cell? ⟨gr,orr+k * 8+7,Ac⟩=Ad (Aa sk2.2.a sk2.2.n sk2.2.c):=(b6.cell (p:=⟨_,_,Ac⟩) (by show gr<w4;omega)).trans d7;have qf:∀ j,w6.frozen? ⟨gr,j,Ac⟩=false:=fun j=>(b6.frozen (p:=⟨_,_,Ac⟩) (by show gr<w4;omega)).trans (gM j))
 refine hK.out _ _ (fun _=>?_) ?_
 ·exact ⟨(b6.cell (p:=⟨_,_,Ac⟩) (by show ob<w4;omega)).trans OB_3,(b6.cell (p:=⟨_,_,Ac⟩) (by show w.heap.size<w4.heap.size;omega)).trans X_3,(b6.cell (p:=⟨_,_,Ac⟩) (by show gx<w4;omega)).trans c0,(b6.cell (p:=⟨_,_,Ac⟩) (by show gx<w4;omega)).trans c1_,(b6.cell (p:=⟨_,_,Ac⟩) (by show gx<w4;omega)).trans c2_,(b6.cell (p:=⟨_,_,Ac⟩) (by show gx<w4;omega)).trans c3_,(b6.cell (p:=⟨_,_,Ac⟩) (by show gx<w4;omega)).trans c4_,(b6.cell (p:=⟨_,_,Ac⟩) (by show gx<w4;omega)).trans c5_,(b6.cell (p:=⟨_,_,Ac⟩) (by show gx<w4;omega)).trans c6,(b6.cell (p:=⟨_,_,Ac⟩) (by show gx<w4;omega)).trans c7_⟩
 clear hK K;try simp only [pS]
 refine oT 9 (fun K hK=>?_);go_simp;refine hK.out _ _ (fun _=>?_) ?_
 ·exact ⟨(b6.cell (p:=⟨_,_,Ac⟩) (by show ob<w4;omega)).trans OB_3,(b6.cell (p:=⟨_,_,Ac⟩) (by show w.heap.size<w4.heap.size;omega)).trans X_3,(b6.cell (p:=⟨_,_,Ac⟩) (by show gx<w4;omega)).trans c0,(b6.cell (p:=⟨_,_,Ac⟩) (by show gx<w4;omega)).trans c1_,(b6.cell (p:=⟨_,_,Ac⟩) (by show gx<w4;omega)).trans c2_,(b6.cell (p:=⟨_,_,Ac⟩) (by show gx<w4;omega)).trans c3_,(b6.cell (p:=⟨_,_,Ac⟩) (by show gx<w4;omega)).trans c4_,(b6.cell (p:=⟨_,_,Ac⟩) (by show gx<w4;omega)).trans c5_,(b6.cell (p:=⟨_,_,Ac⟩) (by show gx<w4;omega)).trans c6,(b6.cell (p:=⟨_,_,Ac⟩) (by show gx<w4;omega)).trans c7_⟩
 clear hK K;try simp only [pS]
 refine oT 10 (fun K hK=>?_);go_simp;refine hK.out _ _ (fun aE=>absurd rfl aE) ?_;clear hK K;try simp only [pS]
 refine Eb Bm ?_ _;have b6':Below w4 w4 w6:=Bv (Br _ _).drew b6;have nY:=b6'.size;have kH:=B0.size;have nH:∀ x∈Fr,w4<=x:=nr;have jA:∀ x∈F,x<w4:=Bu.ow_lt (F:=F) (x:=y) (s:=(⟨B1,m1,e1⟩,⟨Ad ⟨gr,orr,Ac⟩,m2,e2⟩)) oy;have oy6:Bu.ow w6 F y (⟨B1,m1,e1⟩,⟨Ad ⟨gr,orr,Ac⟩,m2,e2⟩):=owB oy b6';obtain ⟨F8,oy8,kF,fH⟩:=Pe oy6 (k:=k) hk (r:=C8 r 4) (sr:=sr) orn (fun x hx bF=>by have h1:=nH x hx;have h2:=jA x bF;omega);have jF:Chg [gr] w6 ((((((((w6.setCell ⟨gr,orr+k * 8,Ac⟩ (J Ab (C8 r 4).id)).setCell ⟨gr,orr+k * 8+1,Ac⟩ (J Ab (C8 r 4).plan.prio)).setCell ⟨gr,orr+k * 8+2,Ac⟩ (J Ab (C8 r 4).plan.most)).setCell ⟨gr,orr+k * 8+3,Ac⟩ (J Ab (C8 r 4).plan.wait)).setCell ⟨gr,orr+k * 8+4,Ac⟩ (J Ab (C8 r 4).plan.tasks)).setCell ⟨gr,orr+k * 8+5,Ac⟩ (Aa sr.1.a sr.1.n sr.1.c)).setCell ⟨gr,orr+k * 8+6,Ac⟩ (J Ab (C8 r 4).state)).setCell ⟨gr,orr+k * 8+7,Ac⟩ (Aa sr.2.a sr.2.n sr.2.c)):=Fn (Cn.enc.cells (C8 r 4,sr)) w6 gr (orr+k * 8);have eU:=Bq (show ∀ x,x∈[gr]->x=gr from fun x hx=>by simpa using hx);have mY:=nF gr fH;have hgrl:=cI gr fH;clear OB_0 OB_1 OB_2 OB_3 OB_l;clear X_0 X_1 X_2 X_3 X_l;clear X c0 c1_ c2_ c3_ c4_ c5_ c6 c7_;replace OB:=(OB.below b6').chg jF (fun hx=>by have:=eU.out _ hx;omega);replace RES:=(RES.below b6').chg jF (fun hx=>by have:=eU.out _ hx;omega);replace B0:=(Bv B0 b6').trans (jF.below (by have:=(Bv B0 b6').size;omega) (fun x hx=>by have:=eU.out _ hx;omega));have en1:w.heap.size+1∉F8:=fun hx=>by
  rcases kF _ hx with h | h
  ·have:=nF _ h;omega
  ·have:=nH _ h;omega
 have mE:∀ x∈F8,w<=x:=fun x hx=>by
  rcases kF _ hx with h | h
  ·have:=nF _ h;omega
  ·have:=nH _ h;omega
 clear aA oy oy6 b6 b6' nr orn jF CSt d0 d1 d2 d3 d4 d5 d6 d7 gM q0 q1 q2 q3 q4 q5 q6 q7 qf;generalize ((((((((w6.setCell ⟨gr,orr+k * 8,Ac⟩ (J Ab (C8 r 4).id)).setCell ⟨gr,orr+k * 8+1,Ac⟩ (J Ab (C8 r 4).plan.prio)).setCell ⟨gr,orr+k * 8+2,Ac⟩ (J Ab (C8 r 4).plan.most)).setCell ⟨gr,orr+k * 8+3,Ac⟩ (J Ab (C8 r 4).plan.wait)).setCell ⟨gr,orr+k * 8+4,Ac⟩ (J Ab (C8 r 4).plan.tasks)).setCell ⟨gr,orr+k * 8+5,Ac⟩ (Aa sr.1.a sr.1.n sr.1.c)).setCell ⟨gr,orr+k * 8+6,Ac⟩ (J Ab (C8 r 4).state)).setCell ⟨gr,orr+k * 8+7,Ac⟩ (Aa sr.2.a sr.2.n sr.2.c))=w8 at *
 obtain ⟨OB_0,OB_1,OB_2,OB_3,OB_l⟩:=OB.g4;have RES_:=RES.g4;have rf:=RES.free;go_wp2;refine Ak (Mz (DBox.row4 RES rfl _ _ _ _)) rfl ⟨(⟨B1,m1,e1⟩,⟨Ad ⟨gr,orr,Ac⟩,m2,e2⟩),F8,by rw [H.out,H2.out],by rw [H2.out];exact (by (repeat (refine Dt.ow_set Bu ?_ en1 _));exact (show Bu.ow _ F8 ⟨y.now,y.seq,y.shelf,y.runs.set k (C8 r 4)⟩ (⟨B1,m1,e1⟩,⟨Ad ⟨gr,orr,Ac⟩,m2,e2⟩) from oy8)),mE,?_⟩;repeat (first | (with_reducible exact B0) | refine Ae ?_ Bo _)
end Go.Proofs.YtecnbnbopcblgaaGreat
