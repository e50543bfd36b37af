/-
  Forget of the reference. Written by program (kzc.py). RunNew of the program. Written by program (irn.py).  change of the program: a run of a yard of one's own i
-/
import Derived.Test.YtecnbnbopcblgaaGreatZVw0
import Derived.Test.YtecnbnbopcblgaaGreatZVw2
import Derived.Test.YtecnbnbopcblgaaGreatZVw8
import Derived.Test.YtecnbnbopcblgaaGreatZVw9
import Derived.Test.YtecnbnbopcblgaaGreatZVw10
import Derived.Test.YtecnbnbopcblgaaGreatZVw11
import Derived.Test.YtecnbnbopcblgaaGreatZVw12
namespace Go.Proofs.YtecnbnbopcblgaaGreat
open Go.RowKit
set_option maxRecDepth 100000
set_option maxHeartbeats 4000000
set_option linter.unusedVariables false
set_option linter.unusedSimpArgs false
open Value renaming int->J,slice->Aa
open IntKind renaming i64->Ab
open Option renaming none->Ac,some->Ad
open Below renaming setCell->Ae
open Nat renaming zero_le->Ah,le_trans->Ai
open Go renaming bodyPost_ret->Ak,wpQuiet_nil->Al
open Go.Proofs.Tryz renaming prog->An
open Int renaming toNat_natCast->Ap
open IntWalk renaming i64_in->Ar
open List renaming length_map->Au,getElem_mem->Ax,nodup_append->Ay,length_take->A0,mem_append_right->Be,mem_append_left->Bf,take_of_length_le->Bg,mem_append->Bi
open Go.Proofs.Tryz
section
theorem Ahz {y:Yard} {w:World} {F:List Nat} {s1:Sl} {g o n c:Nat} (h:Bu.ow w F y (s1,⟨Ad ⟨g,o,Ac⟩,n,c⟩)) {k:Nat} (hk:k<y.runs.length) :
  ∃ rs:List (Run×(Sl×Sl)),rs.length=n/\rs.length<=c/\n=y.runs.length/\Rd Cn.enc w w (Aa (Ad ⟨g,o,Ac⟩) n c) rs /\
   ∀ (E:TypeId) (w8:World) (A9:Option Addr) (n9 c9:Nat),Below w w w8->Ow Cn.enc E w8 w (Aa A9 n9 c9) (rs.take k ++ rs.drop (k+1)) ->
    ∃ F8,Bu.ow w8 F8 ⟨y.now,y.seq,y.shelf,y.runs.take k ++ y.runs.drop (k+1)⟩ (s1,⟨A9,n9,c9⟩) /\ ∀ x∈F8,x∈F\/w<=x:=by
 obtain ⟨F1,F2,rfl,bI,os,orr⟩:=h;replace os:OwL (Dt.list Ch) w F1 s1.v y.shelf:=os;replace orr:OwL Cn w F2 (Aa (Ad ⟨g,o,Ac⟩) n c) y.runs:=orr;have hn:n=y.runs.length:=RdL.at1 (s:=⟨Ad ⟨g,o,Ac⟩,n,c⟩) orr.rd;have cI:=orr.lt;obtain ⟨rs,Hh,G,hm,hh,hG,rfl,qN⟩:=orr;have cK:rs.length=y.runs.length:=by have:=congrArg List.length hm;rw [Au] at this;exact this
 obtain ⟨G1,G2,rfl,hGa,sE⟩:=hG.split k Bl;rw [List.drop_eq_getElem_cons (show k<rs.length by omega)] at sE;obtain ⟨Gx,G3,rfl,_,hGc⟩:=sE.head;refine ⟨rs,Bl,hh.rd.cap,hn,hh.rd,fun E w8 A9 n9 c9 hb ho=>?_⟩;obtain ⟨h5,h6⟩:=Hw.of_ow ho;have hnG2:=(Ay.1 qN).2.1;have hG13:(G1 ++ G3).Nodup:=by
  rw [Ay] at hnG2 ⊢;refine ⟨hnG2.1,(Ay.1 hnG2.2.1).2.1,fun a ha b bH=>hnG2.2.2 a ha b (Be _ bH)⟩
 have hGsub:∀ x∈G1 ++ G3,x∈Hh ++ (G1 ++ (Gx ++ G3)):=fun x hx=>by
  rcases Bi.1 hx with h | h
  ·exact Be _ (Bf _ h)
  ·exact Be _ (Be _ (Be _ h))
 refine ⟨F1 ++ (Ei (Aa A9 n9 c9) (rs.take k ++ rs.drop (k+1)).length ++ (G1 ++ G3)),⟨F1,_,rfl,?_,os.below hb,⟨rs.take k ++ rs.drop (k+1),_,G1 ++ G3,?_,h5,(hGa.append hGc).bel hb,rfl,?_⟩⟩,fun x hx=>?_⟩
 ·rw [Ay];refine ⟨os.nodup,?_,fun a ha b bH e=>?_⟩
  ·rw [Ay];refine ⟨Kh _ _,hG13,fun a ha b bH e=>?_⟩;subst e
   have:=h6 a ha
   have:=cI a (hGsub a bH)
   omega
  ·subst e;rcases Bi.1 bH with h | h
   ·have:=h6 a h;have:=os.lt a ha;omega
   ·exact (Ay.1 bI).2.2 a ha a (hGsub a h) rfl
 ·rw [List.map_append,List.map_take,List.map_drop,hm]
 ·rw [Ay];refine ⟨Kh _ _,hG13,fun a ha b bH e=>?_⟩;subst e
  have:=h6 a ha
  have:=cI a (hGsub a bH)
  omega
 ·rcases Bi.1 hx with h | h
  ·exact .inl (Bf _ h)
  ·rcases Bi.1 h with h | h
   ·exact .inr (h6 x h)
   ·exact .inl (Be _ (hGsub x h))
theorem Pi (f:List Entry->List Entry) {l:List (List Entry)} {k:Nat} (hk:k<l.length):((l.take k).map f ++ l.drop k).set k (f l[k])=(l.take (k+1)).map f ++ l.drop (k+1):=by
 rw [List.drop_eq_getElem_cons hk,List.set_append_right _ _ (by simp;omega)];rw [show k - ((l.take k).map f).length=0 by simp;omega,List.set_cons_zero,List.take_succ_eq_append_getElem hk,List.map_append,List.append_assoc];rfl
theorem Xk (f:List Entry->List Entry) {l:List (List Entry)} {k:Nat} (hk:k<l.length) (h:k<((l.take k).map f ++ l.drop k).length):((l.take k).map f ++ l.drop k)[k]=l[k]:=by
 rw [List.getElem_append_right (by simp;omega)];simp [Nat.min_eq_left (Nat.le_of_lt hk)]
open Classical in
noncomputable def Iv (y:Yard) (id:Int):Int :=
 if ¬ Dn y then 8 else if Db y id<0 then 10 else if (Ij y id).state=1 then 13 else 0
def Dg (id:Int) (l:List Entry):List Entry:=l.filter fun e=>e.run != id
noncomputable def Im (y:Yard) (id:Int):Yard:=if Iv y id=0 then ⟨y.now,y.seq,y.shelf.map (Dg id),y.runs.take (Db y id).toNat ++ y.runs.drop ((Db y id).toNat+1)⟩ else y
theorem Mp {b:Nat} {w:World} {u0 u1 u2 u3:Value} (X:DBox b [u0,u1,u2,u3] w) {v0 v1 v2 v3 v5:Value} {rest:List Value} :
  (results Tryz.f170 (v0 :: v1 :: v2 :: v3 :: .pointer (Ad ⟨b,0,Ac⟩) :: v5 :: rest).toArray).run An w = .ok (.tuple #[.agg #[u0,u1,u2,u3],v5]) w:=by
 have c0:=X.cell 0 _ rfl;have c1:=X.cell 1 _ rfl;have c2:=X.cell 2 _ rfl;have c3:=X.cell 3 _ rfl;simp [results,results170,go_sem,c0,c1,c2,c3]
theorem Xl (y:Yard) (s:Sl×Sl) (id:Int) (w:World) (hl:Cf y<=2000000) (h:Bu.rd w w y s) :
  Calls An 170 #[Dh y s,J Ab id] w (I7 (Im y id) (Iv y id) w):=by
 have HR:=Bq (show ∀ W,Below w w W->Bu.rd W W y s from fun W hW=>Bu.rd_more (Bu.rd_below h hW) hW.size);obtain ⟨⟨A1,n1,c1⟩,⟨A2,n2,c2⟩⟩:=s;have CC:=Bq (fun W hW=>Fh y (⟨A1,n1,c1⟩,⟨A2,n2,c2⟩) W hl (HR.out W hW));have CY:=Bq (fun W hW=>G9 y (⟨A1,n1,c1⟩,⟨A2,n2,c2⟩) W hl (HR.out W hW));have CA:=Bq (fun W hW=>Fo y (⟨A1,n1,c1⟩,⟨A2,n2,c2⟩) id W hl (HR.out W hW));have CX:=Bq (fun W hW=>show RdL Cn W W.heap.size (Aa A2 n2 c2) y.runs from (HR.out W hW).2);clear h HR;obtain ⟨W,aG,X,RES,B0⟩:=bx2 w 31 [J Ab y.now,J Ab y.seq,Aa A1 n1 c1,Aa A2 n2 c2] 31 [J Ab 0,J Ab 0,Aa Ac 0 0,Aa Ac 0 0];go_enter func170,ntmps170;go_wp2_with fail
 rw [<-aG.out];clear aG;have dL:w.heap.size+1<W.heap.size:=RES.lt;refine (CC.out _ B0).mono ?_;rintro e1 w1 ⟨⟨⟨B1,m1,e1⟩,⟨B2,m2,e2⟩⟩,F,rfl,oy,nF,b1⟩;have bG:=b1.size;have cI:=Bu.ow_lt (F:=F) (x:=y) (s:=(⟨B1,m1,e1⟩,⟨B2,m2,e2⟩)) oy;replace X:=X.below b1;replace RES:=RES.below b1;replace B0:=Bv B0 b1;clear b1;go_upto_region 2 with fail
 have OB:=DBox.new 31 [J Ab y.now,J Ab y.seq,Aa B1 m1 e1,Aa B2 m2 e2] w1 (b:=w1) rfl;have b2:Below w1 w1 (w1.alloc (.cells #[J Ab y.now,J Ab y.seq,Aa B1 m1 e1,Aa B2 m2 e2] 31)):=Bt;replace X:=X.below b2;replace RES:=RES.below b2;replace oy:=Bu.ow_below (F:=F) (x:=y) (s:=(⟨B1,m1,e1⟩,⟨B2,m2,e2⟩)) oy b2;replace B0:=Bv B0 b2;have ow1:=OB.lt;clear b2;generalize w1.alloc (.cells #[J Ab y.now,J Ab y.seq,Aa B1 m1 e1,Aa B2 m2 e2] 31)=w2 at *
 generalize cR:w1.heap.size=ob at *
 have X_:=X.g4;obtain ⟨OB_0,OB_1,OB_2,OB_3,OB_l⟩:=OB.g4;go_wp2_with fail
 refine (CA.out _ B0).mono ?_;rintro e1 w3 ⟨rfl,b3⟩;clear X_;clear OB_0 OB_1 OB_2 OB_3 OB_l;replace X:=X.below b3;replace OB:=OB.below b3;replace RES:=RES.below b3;replace oy:Bu.ow w3 F y (⟨B1,m1,e1⟩,⟨B2,m2,e2⟩):=owB oy b3;replace B0:=Bv B0 b3;clear b3;have X_:=X.g4;obtain ⟨OB_0,OB_1,OB_2,OB_3,OB_l⟩:=OB.g4;go_wp2_with fail
 refine (CY.out _ B0).mono ?_;rintro e1 w4 ⟨rfl,b4⟩;clear X_;clear OB_0 OB_1 OB_2 OB_3 OB_l;replace X:=X.below b4;replace OB:=OB.below b4;replace RES:=RES.below b4;replace oy:Bu.ow w4 F y (⟨B1,m1,e1⟩,⟨B2,m2,e2⟩):=owB oy b4;replace B0:=Bv B0 b4;clear b4;have X_:=X.g4;obtain ⟨OB_0,OB_1,OB_2,OB_3,OB_l⟩:=OB.g4;by_cases p0:Dn y;case neg =>
  rw [Cm p0];have H:=Bq (show Iv y id=8 by unfold Iv;rw [if_pos p0]);have H2:=Bq (show Im y id=y by unfold Im;rw [H.out,if_neg Bp]);have RES_:=RES.g4;have rf:=RES.free;go_wp2;have en1:w.heap.size+1∉F:=fun hx=>by have:=nF _ hx;omega
  refine Ak (Mp (DBox.row4 RES rfl _ _ _ _)) rfl ⟨(⟨B1,m1,e1⟩,⟨B2,m2,e2⟩),F,by rw [H.out,H2.out],by rw [H2.out];exact (by (repeat (refine Dt.ow_set Bu ?_ en1 _));exact (show Bu.ow _ F y (⟨B1,m1,e1⟩,⟨B2,m2,e2⟩) from oy)),fun x hx=>by have:=nF x hx;omega,?_⟩;repeat (first | (with_reducible exact B0) | refine Ae ?_ Bo _)
 rw [Ds p0];have P0:=Bq p0;clear p0;by_cases p1:Db y id<0;case pos =>
  have H:=Bq (show Iv y id=10 by unfold Iv;rw [if_neg (fun h=>h P0.out),if_pos p1]);have H2:=Bq (show Im y id=y by unfold Im;rw [H.out,if_neg Bp]);have RES_:=RES.g4;have rf:=RES.free;go_wp2;have en1:w.heap.size+1∉F:=fun hx=>by have:=nF _ hx;omega
  refine Ak (Mp (DBox.row4 RES rfl _ _ _ _)) rfl ⟨(⟨B1,m1,e1⟩,⟨B2,m2,e2⟩),F,by rw [H.out,H2.out],by rw [H2.out];exact (by (repeat (refine Dt.ow_set Bu ?_ en1 _));exact (show Bu.ow _ F y (⟨B1,m1,e1⟩,⟨B2,m2,e2⟩) from oy)),fun x hx=>by have:=nF x hx;omega,?_⟩;repeat (first | (with_reducible exact B0) | refine Ae ?_ Bo _)
 rcases Ek y id with hr | ⟨k,hk,hr⟩
 ·exact absurd hr Bl
 have HK:=Bq (Ey hk hr);have HR2:=Bq hr;rw [hr];clear hr p1;have P1:=Bq (show ¬ Db y id<0 by have:=HR2.out;omega);have gJ:(k:Int)<(n2:Int):=by have:=RdL.at1 (s:=⟨A2,n2,c2⟩) (CX.out _ B0);dsimp only at this;omega
 have dF:(0:Int)<=(k:Int):=Bl;have hkn:¬ (k:Int)<0:=Bl;obtain ⟨gx,ox,_,rfl,kK,_,c0,c1_,c2_,c3_,c4_,c5_,c6,c7_⟩:=(CX.out _ B0).run hk;clear c0 c1_ c2_ c3_ c4_ c5_ c7_;by_cases p2:y.runs[k].state=1;case pos =>
  have q2:(y.runs[k].state == 1)=true:=by simp [p2]
  have H:=Bq (show Iv y id=13 by unfold Iv;rw [if_neg (fun h=>h P0.out),if_neg P1.out,if_pos (by rw [HK.out];exact p2)]);clear p2;have H2:=Bq (show Im y id=y by unfold Im;rw [H.out,if_neg Bp]);have RES_:=RES.g4;have rf:=RES.free;go_wp2;have en1:w.heap.size+1∉F:=fun hx=>by have:=nF _ hx;omega
  refine Ak (Mp (DBox.row4 RES rfl _ _ _ _)) rfl ⟨(⟨B1,m1,e1⟩,⟨B2,m2,e2⟩),F,by rw [H.out,H2.out],by rw [H2.out];exact (by (repeat (refine Dt.ow_set Bu ?_ en1 _));exact (show Bu.ow _ F y (⟨B1,m1,e1⟩,⟨B2,m2,e2⟩) from oy)),fun x hx=>by have:=nF x hx;omega,?_⟩;repeat (first | (with_reducible exact B0) | refine Ae ?_ Bo _)
 have q2:(y.runs[k].state == 1)=false:=by simp [p2]
 have H:=Bq (show Iv y id=0 by unfold Iv;rw [if_neg (fun h=>h P0.out),if_neg P1.out,if_neg (by rw [HK.out];exact p2)]);have H2:=Bq (show Im y id=⟨y.now,y.seq,y.shelf.map (Dg id),y.runs.take k ++ y.runs.drop (k+1)⟩ by unfold Im;rw [if_pos H.out,HR2.out,Ap]);clear p2;go_upto_region 9 with fail
 obtain ⟨gr,orr,_,rfl,cQ,_⟩:=RdL.run (show RdL Cn w4 w4.heap.size (Aa B2 m2 e2) y.runs from (Bu.ow_rd (F:=F) (x:=y) (s:=(⟨B1,m1,e1⟩,⟨B2,m2,e2⟩)) oy).2) hk;obtain ⟨rs,cK,cA,dW,hrd0,jT⟩:=Ahz oy hk;have rE:y.runs.length<=8:=P0.out.2.2.2.2.2.2.1;clear X_;clear X c6 q2 CC CY CA CX gJ;have gJ:(k:Int)<=(m2:Int):=Bl;have hkI1:(k:Int)+1<=(m2:Int):=Bl;have qG:(0:Int)<=(k:Int)+1:=Bl;have nE:k<=e2:=Bl;have hkeI:(k:Int)<=(e2:Int):=Bl;have hk1e:k+1<=e2:=Bl;have hk1eI:(k:Int)+1<=(e2:Int):=Bl;have wr1:Ab.wrap ((k:Int)+1)=(k:Int)+1:=Ar _ Bl;have tn1:((k:Int)+1).toNat=k+1:=Bl;have hob4:ob<w4:=OB.lt;replace dW:=Bq dW;replace cK:=Bq cK;replace jT:=Bq jT;obtain ⟨j0,bZ,jz0,jz1,jz2⟩:=info_parts L9;have a0:=Bq (show ∀ W,Below w4 w4 W->Rd Cn.enc W w4 (Aa (Ad ⟨gr,orr,Ac⟩) k e2) (rs.take k) from fun W hW=>(hrd0.take (by have:=cK.out;omega) e2 nE).below hW);have a1:=Bq (show ∀ W,Below w4 w4 W->Rd Cn.enc W w4 (Aa (Ad ⟨gr,orr+(k+1) * 8,Ac⟩) (m2 - (k+1)) (e2 - (k+1))) (rs.drop (k+1)) from fun W hW=>by have h1:=(hrd0.fromL (k+1) (by have:=cK.out;omega)).below hW;rw [cK.out] at h1;exact h1);rcases (show k+1<e2\/e2=k+1 by omega) with hlast | hlast
 ·have hlast2:¬ e2=k+1:=Bl;go_wp2;have b5:Below w4 w4 w4.drew:=(Br _ _).drew;have OB5:=DBox.drew4 OB;refine Dl (fun w'=>w'.cell? ⟨ob,3,Ac⟩=Ad (Aa (Ad ⟨gr,orr,Ac⟩) m2 e2)) 13 Bm ?_ (fun aA=>?_)
  ·exact OB_3
  refine aT 1 aA ?_;try simp only [pS]
  refine aT 2 aA ?_;try simp only [pS]
  refine aT 3 aA ?_;try simp only [pS]
  refine aT 4 aA ?_;try simp only [pS]
  refine aT 6 aA ?_;try simp only [pS]
  refine aT 7 aA ?_;try simp only [pS]
  refine aT 8 aA ?_;try simp only [pS]
  refine aT 9 aA ?_;try simp only [pS]
  refine aT 10 aA ?_;try simp only [pS]
  refine oT 0 (fun K hK=>?_)
  (go_simp;have b6:Below w4.drew w4.drew (w4.drew.alloc (.cells #[] 67)):=Bt;have o6:=Ow.empty Cn.enc 67 w4.drew (g:=w4) rfl;have B6:=Bv b5 b6;have OB6:=OB5.below b6;have pD:=b6.size)
  refine hK.out _ _ (fun _=>?_) ?_
  ·exact OB6.cell 3 _ rfl
  clear hK K;try simp only [pS]
  refine oT 5 (fun K hK=>?_)
  (refine G4 _ Cn.enc Bp (by rfl) (.tmp 34) (.tmp 38) (by rfl) underlying29 bZ jz0 jz1 jz2 (by rfl) (base:=w4) (v:=Aa (Ad ⟨w4,0,Ac⟩) 0 0) (l:=[]) (by rfl) o6 (by rfl) (a0.out _ B6) Bn (by have:=cK.out;rw [A0];omega) Bp pD ?_;intro v7 w7 o7 gg7 f7;rw [List.nil_append] at o7;have B7:Below w4 w4 w7:=B6.grown gg7 B6.size (fun g hg=>by have:=Option.some.inj (show Ad w4.heap.size=Ad g from hg);omega);have OB7:=OB6.off gg7 (fun e=>by have:=Option.some.inj (show Ad ob=Ad w4.heap.size from e);omega);have hg7s:=gg7.size)
  refine hK.out _ _ (fun _=>?_) ?_
  ·exact OB7.cell 3 _ rfl
  clear hK K;try simp only [pS]
  refine oT 11 (fun K hK=>?_)
  (refine G4 _ Cn.enc Bp (by rfl) (.tmp 39) (.tmp 44) (by rfl) underlying29 bZ jz0 jz1 jz2 (by rfl) (base:=w4) (v:=v7) (l:=rs.take k) (by rfl) o7 (by rfl) (a1.out _ B7) (by have:=cK.out;have:=dW.out;rw [A0];omega) (by have:=cK.out;have:=dW.out;rw [List.length_drop];omega) Bp B7.size ?_;intro v8 w8 o8 gg8 f8;have B8:Below w4 w4 w8:=B7.grown gg8 B7.size (fun g hg=>(o7.within g hg).1);have OB8:=OB7.off gg8 (fun e=>by have:=(o7.within _ e.symm).1;omega);obtain ⟨A9,c9,rR,-⟩:=_root_.id (Rd.of_own o8);generalize sN:(rs.take k ++ rs.drop (k+1)).length=n9 at rR;subst rR;replace sN:=Bq sN;have q3:=OB8.cell 3 _ rfl;have qf:=OB8.free;have ql:=OB8.lt)
  refine hK.out _ _ (fun _=>?_) ?_
  ·exact q3
  clear hK K;try simp only [pS]
  refine oT 12 (fun K hK=>?_);go_simp;refine hK.out _ _ (fun _=>?_) ?_
  ·exact q3
  clear hK K;try simp only [pS]
  refine oT 13 (fun K hK=>?_);go_simp;refine hK.out _ _ (fun aE=>absurd rfl aE) ?_;clear hK K;try simp only [pS]
  refine Eb Bm ?_ _;obtain ⟨F8,oy8,kF⟩:=jT.out 67 w8 A9 n9 c9 B8 o8;have eT:∀ x∈F8,w+1<x/\x≠ob:=fun x hx=>by
   rcases kF x hx with h | h
   ·have h1:=nF x h;have h2:=cI x h;omega
   ·have h3:=B0.size;omega
  have OB9:DBox ob [J Ab y.now,J Ab y.seq,Aa B1 m1 e1,Aa A9 n9 c9] (w8.setCell ⟨ob,3,Ac⟩ (Aa A9 n9 c9)):=OB8.set 3 Bn _;have RES9:=(RES.below B8).setOther (a:=⟨ob,3,Ac⟩) (by show w.heap.size+1≠ob;omega) (Aa A9 n9 c9);have oy9:Bu.ow (w8.setCell ⟨ob,3,Ac⟩ (Aa A9 n9 c9)) F8 ⟨y.now,y.seq,y.shelf,y.runs.take k ++ y.runs.drop (k+1)⟩ (⟨B1,m1,e1⟩,⟨A9,n9,c9⟩):=Bu.ow_set (F:=F8) (x:=⟨y.now,y.seq,y.shelf,y.runs.take k ++ y.runs.drop (k+1)⟩) (s:=(⟨B1,m1,e1⟩,⟨A9,n9,c9⟩)) oy8 (a:=⟨ob,3,Ac⟩) (fun hx=>(eT _ hx).2 rfl) _;have B9:Below w w (w8.setCell ⟨ob,3,Ac⟩ (Aa A9 n9 c9)):=Ae (Bv B0 B8) (by show w.heap.size<=ob;omega) _;have pB:ob<(w8.setCell ⟨ob,3,Ac⟩ (Aa A9 n9 c9)):=OB9.lt;have cS:=Bq (show m1=y.shelf.length from RdL.at1 (s:=⟨B1,m1,e1⟩) (Bu.ow_rd (F:=F8) (x:=⟨y.now,y.seq,y.shelf,y.runs.take k ++ y.runs.drop (k+1)⟩) oy9).1);have pE:=Bq (show y.shelf.length=4 from P0.out.2.2.1);have gN:=Bq (fun (i:Nat) (hi:i<y.shelf.length)=>(P0.out.2.2.2.1 _ (Ax hi)).1);obtain ⟨i0,aQ,aW,aU,aR⟩:=info_parts Gi;clear OB_0 OB_1 OB_2 OB_3 OB_l;clear OB RES OB8 oy8 o8 o7 OB7 OB6 o6 OB5 b5 b6 B6 B7 aA q3 qf ql gg7 gg8 f7 f8 kF hrd0 a0 a1 jT oy B8 pD hg7s;generalize y.runs.take k ++ y.runs.drop (k+1)=RR at *
  generalize w8.setCell ⟨ob,3,Ac⟩ (Aa A9 n9 c9)=w9 at *
  have OB9_:=OB9.g4;go_wp2;go_loopw [8,9,10] (fun iv u1 u2 wr=>∃ (i:Nat) (F:List Nat),i<=y.shelf.length/\iv = J Ab i/\Hid (Bu.ow wr F ⟨y.now,y.seq,(y.shelf.take i).map (Dg id) ++ y.shelf.drop i,RR⟩ (⟨B1,m1,e1⟩,⟨A9,n9,c9⟩))/\Hid (∀ x∈F,w+1<x/\x≠ob)/\DBox ob [J Ab y.now,J Ab y.seq,Aa B1 m1 e1,Aa A9 n9 c9] wr/\DBox (w+1) [J Ab 0,J Ab 0,Aa Ac 0 0,Aa Ac 0 0] wr/\Below w w wr/\ob<wr) (fun i _ _ _=>y.shelf.length - (intOf i).toNat);case atStart=>exact ⟨0,F8,Ah _,rfl,by show Bu.ow w9 F8 ⟨y.now,y.seq,(y.shelf.take 0).map (Dg id) ++ y.shelf.drop 0,RR⟩ (⟨B1,m1,e1⟩,⟨A9,n9,c9⟩);simpa using oy9,eT,OB9,RES9,B9,pB⟩
  case round =>
   clear OB9_;clear OB9 RES9 oy9 B9 pB eT;obtain ⟨i,F,hi,rfl,oy,hF,OB,RES,hb,gD⟩:=hrel;rename World=>wo;have h4:=pE.out;replace h4:=Bq h4;have hRl9:=RES.lt;obtain ⟨OB_0,OB_1,OB_2,OB_3,OB_l⟩:=OB.g4;by_cases aB:i<y.shelf.length
   ·have aC:(i:Int)<(m1:Int):=by have:=cS.out;omega
    have hi00:(0:Int)<=(i:Int):=Bl;have pG:i<((y.shelf.take i).map (Dg id) ++ y.shelf.drop i).length:=by simp;omega
    obtain ⟨g,o,⟨xa,xn,xc⟩,rfl,fZ,eW,ch⟩:=RdL.entryS (show RdL (Dt.list Ch) wo wo.heap.size (Aa B1 m1 e1) ((y.shelf.take i).map (Dg id) ++ y.shelf.drop i) from (Bu.ow_rd (F:=F) (x:=⟨y.now,y.seq,(y.shelf.take i).map (Dg id) ++ y.shelf.drop i,RR⟩) oy.out).1) pG;rw [Xk (Dg id) aB pG] at eW;replace eW:RdL Ch wo wo (Aa xa xn xc) y.shelf[i]:=eW;have hxn:xn=y.shelf[i].length:=RdL.at1 (s:=⟨xa,xn,xc⟩) eW;subst hxn;have h80:=gN.out i aB;have hi3:i<=3:=by have:=h4.out;omega
    have kA:∀ j,wo.frozen? ⟨g,j,Ac⟩=false:=by
     obtain ⟨G1,G2,_,_,os,_⟩:=oy.out;exact OwL.free0 (show OwL (Dt.list Ch) wo G1 (Aa (Ad ⟨g,o,Ac⟩) m1 e1) _ from os) (Nat.lt_of_le_of_lt (Ah _) pG)
    have eZ:=Bq (Pi (Dg id) aB);have q0:Below wo wo (wo.alloc (.cells #[] 71)):=Bt;have o0:=Ow.empty Cw 71 wo rfl;generalize y.shelf[i]=SH at *
    go_wp2;go_loopw [9,10] (fun v j wr=>∃ m:Nat,m<=SH.length/\j = J Ab m/\Hid (Ow Cw 71 wr wo v (Dg id (SH.take m)))/\Below wo wo wr) (fun _ j _=>SH.length - (intOf j).toNat);case atStart=>exact ⟨0,Ah _,rfl,o0,q0⟩
    case round =>
     clear o0 q0;obtain ⟨m,hm_,rfl,hO,fJ⟩:=hrel;clear OB_0 OB_1 OB_2 OB_3 OB_l;have OB2:=OB.below fJ;have OB2_:=OB2.g4;have ch2:=(fJ.cell (p:=⟨g,_,Ac⟩) fZ).trans ch;have hwis:=fJ.size;by_cases aX:m<SH.length
     ·have hltI2:(m:Int)<(SH.length:Int):=Bl;have sV:(0:Int)<=(m:Int):=Bl;obtain ⟨ge,oe,_,rfl,vF,_,d0,d1,d2,d3⟩:=(eW.below fJ).entry aX;have Hl:=Bq (show (Dg id (SH.take m)).length<=3000000 by have h1:=List.length_filter_le (fun e:Entry=>e.run != id) (SH.take m);rw [A0] at h1;unfold Dg;omega);cases q:(SH[m].run != id)
      ·have S:=Bq (show Dg id (SH.take (m+1))=Dg id (SH.take m) from Iq (p:=fun e:Entry=>e.run != id) aX q);go_wp2;exact ⟨⟨m+1,Bl,by go_num,by rw [S.out];exact hO,fJ⟩,clM⟩
      ·have S:=Bq (show Dg id (SH.take (m+1))=Dg id (SH.take m) ++ [SH[m]] from H7 (p:=fun e:Entry=>e.run != id) aX q);generalize SH[m]=e9 at *
       have ha:Hid (∀ w:World,Below w w (w.alloc (.cells #[J Ab e9.prio,J Ab e9.seq,J Ab e9.run,J Ab e9.task] 71))):=fun w=>Bt;have eD:=hO.out;go_wp2_with (at_builtin;go_loud (refine Cj _ Cw Bp rfl (.tmp 76) (.tmp 85) rfl underlying74 aQ aW aU aR rfl (base:=wo) (l:=Dg id (SH.take m)) rfl (eD.below (ha.out _)) rfl (Rd.one Cw _ _ e9 rfl rfl 1 (Bs _) (Nat.lt_succ_self _)) Hl.out Bn Bp (by simp;omega) ?_);intro v5 w5 o5 g5 _)
       have dM:Below wo wo w5:=(Bv fJ (ha.out _)).grown g5 (Bv fJ (ha.out _)).size (fun g hg=>by have:=eD.within _ hg;omega);exact ⟨⟨m+1,Bl,by go_num,by rw [S.out];exact o5,dM⟩,clM⟩
     ·have hltI2:¬ (m:Int)<(SH.length:Int):=Bl;have cE:=hO.out;rw [Bg Bl] at cE;obtain ⟨⟨a8,n8,c8⟩,Ft,rfl,o9,nF9⟩:=Ib cE;have oy2:Bu.ow wr F ⟨y.now,y.seq,(y.shelf.take i).map (Dg id) ++ y.shelf.drop i,RR⟩ (⟨Ad ⟨g,o,Ac⟩,m1,e1⟩,⟨A9,n9,c9⟩):=owB oy.out fJ;have hFlt2:∀ x∈F,x<wo:=Bu.ow_lt (F:=F) (x:=⟨y.now,y.seq,(y.shelf.take i).map (Dg id) ++ y.shelf.drop i,RR⟩) (s:=(⟨Ad ⟨g,o,Ac⟩,m1,e1⟩,⟨A9,n9,c9⟩)) oy.out;obtain ⟨F',p1,p2,p3⟩:=G7 oy2 pG (l:=Dg id SH) (t:=⟨a8,n8,c8⟩) o9 (fun x hx bF=>by have h1:=nF9 x hx;have h2:=hFlt2 x bF;omega);dsimp only at p1;rw [eZ.out] at p1;have hgn:=hF.out g p3;have hfg2:∀ j,wr.frozen? ⟨g,j,Ac⟩=false:=fun j=>(fJ.frozen (p:=⟨g,j,Ac⟩) fZ).trans (kA j);have OB3:=OB2.setOther (a:=⟨g,o+i,Ac⟩) (by show ob≠g;omega) (Aa a8 n8 c8);have RES3:=(RES.below fJ).setOther (a:=⟨g,o+i,Ac⟩) (by show w.heap.size+1≠g;omega) (Aa a8 n8 c8);have bU:Below w w (wr.setCell ⟨g,o+i,Ac⟩ (Aa a8 n8 c8)):=Ae (Bv hb fJ) (by show w.heap.size<=g;omega) _;have rG:Hid (∀ x∈F',w+1<x/\x≠ob):=fun x hx=>by
       rcases p2 x hx with h | h
       ·exact hF.out x h
       ·have:=nF9 x h;omega
      have jP:=OB3.lt;clear hO cE eZ o9 kA;go_wp2;exact ⟨⟨i+1,F',Bl,by go_num,p1,rG,OB3,RES3,bU,jP⟩,clM⟩
   ·have aC:¬ (i:Int)<(m1:Int):=by have:=cS.out;omega
    have hii:i=y.shelf.length:=Bl;have oyz:=oy.out;rw [Bg Bl,List.drop_eq_nil_of_le Bl,List.append_nil] at oyz;have rf:=RES.free;have RES_:=RES.g4;clear hii oy;go_wp2;have en1:w.heap.size+1∉F:=fun hx=>by have:=hF.out _ hx;omega
    refine Ak (Mp (DBox.row4 RES rfl _ _ _ _)) rfl ⟨(⟨B1,m1,e1⟩,⟨A9,n9,c9⟩),F,by rw [H.out,H2.out],by rw [H2.out];exact (by (repeat (refine Dt.ow_set Bu ?_ en1 _));exact (show Bu.ow _ F ⟨y.now,y.seq,y.shelf.map (Dg id),RR⟩ (⟨B1,m1,e1⟩,⟨A9,n9,c9⟩) from oyz)),fun x hx=>by have:=hF.out x hx;omega,?_⟩;repeat (first | (with_reducible exact hb) | refine Ae ?_ Bo _)
 ·subst hlast;have hlast3:(k:Int)<=(k:Int)+1:=Bl;have hm2k:m2 - (k+1)=0:=by have:=cK.out;omega
  replace hm2k:=Bq hm2k;go_wp2;have b5:Below w4 w4 w4.drew:=(Br _ _).drew;have OB5:=DBox.drew4 OB;refine Dl (fun w'=>w'.cell? ⟨ob,3,Ac⟩=Ad (Aa (Ad ⟨gr,orr,Ac⟩) m2 (k+1))) 13 Bm ?_ (fun aA=>?_)
  ·exact OB_3
  refine aT 1 aA ?_;try simp only [pS]
  refine aT 2 aA ?_;try simp only [pS]
  refine aT 3 aA ?_;try simp only [pS]
  refine aT 4 aA ?_;try simp only [pS]
  refine aT 6 aA ?_;try simp only [pS]
  refine aT 7 aA ?_;try simp only [pS]
  refine aT 8 aA ?_;try simp only [pS]
  refine aT 9 aA ?_;try simp only [pS]
  refine aT 10 aA ?_;try simp only [pS]
  refine oT 0 (fun K hK=>?_)
  (go_simp;have b6:Below w4.drew w4.drew (w4.drew.alloc (.cells #[] 67)):=Bt;have o6:=Ow.empty Cn.enc 67 w4.drew (g:=w4) rfl;have B6:=Bv b5 b6;have OB6:=OB5.below b6;have pD:=b6.size)
  refine hK.out _ _ (fun _=>?_) ?_
  ·exact OB6.cell 3 _ rfl
  clear hK K;try simp only [pS]
  refine oT 5 (fun K hK=>?_)
  (refine G4 _ Cn.enc Bp (by rfl) (.tmp 34) (.tmp 38) (by rfl) underlying29 bZ jz0 jz1 jz2 (by rfl) (base:=w4) (v:=Aa (Ad ⟨w4,0,Ac⟩) 0 0) (l:=[]) (by rfl) o6 (by rfl) (a0.out _ B6) Bn (by have:=cK.out;rw [A0];omega) Bp pD ?_;intro v7 w7 o7 gg7 f7;rw [List.nil_append] at o7;have B7:Below w4 w4 w7:=B6.grown gg7 B6.size (fun g hg=>by have:=Option.some.inj (show Ad w4.heap.size=Ad g from hg);omega);have OB7:=OB6.off gg7 (fun e=>by have:=Option.some.inj (show Ad ob=Ad w4.heap.size from e);omega);have hg7s:=gg7.size)
  refine hK.out _ _ (fun _=>?_) ?_
  ·exact OB7.cell 3 _ rfl
  clear hK K;try simp only [pS]
  refine oT 11 (fun K hK=>?_)
  (refine G4 _ Cn.enc Bp (by rfl) (.tmp 39) (.tmp 44) (by rfl) underlying29 bZ jz0 jz1 jz2 (by rfl) (base:=w4) (v:=v7) (l:=rs.take k) (by rfl) o7 (by rfl) (Rd.fromNone (B:=0) (k+1) (by have:=cK.out;have:=hm2k.out;omega) hm2k.out) (by have:=cK.out;have:=dW.out;rw [A0];omega) (by have:=cK.out;have:=dW.out;rw [List.length_drop];omega) Bp B7.size ?_;intro v8 w8 o8 gg8 f8;have B8:Below w4 w4 w8:=B7.grown gg8 B7.size (fun g hg=>(o7.within g hg).1);have OB8:=OB7.off gg8 (fun e=>by have:=(o7.within _ e.symm).1;omega);obtain ⟨A9,c9,rR,-⟩:=_root_.id (Rd.of_own o8);generalize sN:(rs.take k ++ rs.drop (k+1)).length=n9 at rR;subst rR;replace sN:=Bq sN;have q3:=OB8.cell 3 _ rfl;have qf:=OB8.free;have ql:=OB8.lt)
  refine hK.out _ _ (fun _=>?_) ?_
  ·exact q3
  clear hK K;try simp only [pS]
  refine oT 12 (fun K hK=>?_);go_simp;refine hK.out _ _ (fun _=>?_) ?_
  ·exact q3
  clear hK K;try simp only [pS]
  refine oT 13 (fun K hK=>?_);go_simp;refine hK.out _ _ (fun aE=>absurd rfl aE) ?_;clear hK K;try simp only [pS]
  refine Eb Bm ?_ _;obtain ⟨F8,oy8,kF⟩:=jT.out 67 w8 A9 n9 c9 B8 o8;have eT:∀ x∈F8,w+1<x/\x≠ob:=fun x hx=>by
   rcases kF x hx with h | h
   ·have h1:=nF x h;have h2:=cI x h;omega
   ·have h3:=B0.size;omega
  have OB9:DBox ob [J Ab y.now,J Ab y.seq,Aa B1 m1 e1,Aa A9 n9 c9] (w8.setCell ⟨ob,3,Ac⟩ (Aa A9 n9 c9)):=OB8.set 3 Bn _;have RES9:=(RES.below B8).setOther (a:=⟨ob,3,Ac⟩) (by show w.heap.size+1≠ob;omega) (Aa A9 n9 c9);have oy9:Bu.ow (w8.setCell ⟨ob,3,Ac⟩ (Aa A9 n9 c9)) F8 ⟨y.now,y.seq,y.shelf,y.runs.take k ++ y.runs.drop (k+1)⟩ (⟨B1,m1,e1⟩,⟨A9,n9,c9⟩):=Bu.ow_set (F:=F8) (x:=⟨y.now,y.seq,y.shelf,y.runs.take k ++ y.runs.drop (k+1)⟩) (s:=(⟨B1,m1,e1⟩,⟨A9,n9,c9⟩)) oy8 (a:=⟨ob,3,Ac⟩) (fun hx=>(eT _ hx).2 rfl) _;have B9:Below w w (w8.setCell ⟨ob,3,Ac⟩ (Aa A9 n9 c9)):=Ae (Bv B0 B8) (by show w.heap.size<=ob;omega) _;have pB:ob<(w8.setCell ⟨ob,3,Ac⟩ (Aa A9 n9 c9)):=OB9.lt;have cS:=Bq (show m1=y.shelf.length from RdL.at1 (s:=⟨B1,m1,e1⟩) (Bu.ow_rd (F:=F8) (x:=⟨y.now,y.seq,y.shelf,y.runs.take k ++ y.runs.drop (k+1)⟩) oy9).1);have pE:=Bq (show y.shelf.length=4 from P0.out.2.2.1);have gN:=Bq (fun (i:Nat) (hi:i<y.shelf.length)=>(P0.out.2.2.2.1 _ (Ax hi)).1);obtain ⟨i0,aQ,aW,aU,aR⟩:=info_parts Gi;clear OB_0 OB_1 OB_2 OB_3 OB_l;clear OB RES OB8 oy8 o8 o7 OB7 OB6 o6 OB5 b5 b6 B6 B7 aA q3 qf ql gg7 gg8 f7 f8 kF hrd0 a0 a1 jT oy B8 pD hg7s;generalize y.runs.take k ++ y.runs.drop (k+1)=RR at *
  generalize w8.setCell ⟨ob,3,Ac⟩ (Aa A9 n9 c9)=w9 at *
  have OB9_:=OB9.g4;go_wp2;go_loopw [8,9,10] (fun iv u1 u2 wr=>∃ (i:Nat) (F:List Nat),i<=y.shelf.length/\iv = J Ab i/\Hid (Bu.ow wr F ⟨y.now,y.seq,(y.shelf.take i).map (Dg id) ++ y.shelf.drop i,RR⟩ (⟨B1,m1,e1⟩,⟨A9,n9,c9⟩))/\Hid (∀ x∈F,w+1<x/\x≠ob)/\DBox ob [J Ab y.now,J Ab y.seq,Aa B1 m1 e1,Aa A9 n9 c9] wr/\DBox (w+1) [J Ab 0,J Ab 0,Aa Ac 0 0,Aa Ac 0 0] wr/\Below w w wr/\ob<wr) (fun i _ _ _=>y.shelf.length - (intOf i).toNat);case atStart=>exact ⟨0,F8,Ah _,rfl,by show Bu.ow w9 F8 ⟨y.now,y.seq,(y.shelf.take 0).map (Dg id) ++ y.shelf.drop 0,RR⟩ (⟨B1,m1,e1⟩,⟨A9,n9,c9⟩);simpa using oy9,eT,OB9,RES9,B9,pB⟩
  case round =>
   clear OB9_;clear OB9 RES9 oy9 B9 pB eT;obtain ⟨i,F,hi,rfl,oy,hF,OB,RES,hb,gD⟩:=hrel;rename World=>wo;have h4:=pE.out;replace h4:=Bq h4;have hRl9:=RES.lt;obtain ⟨OB_0,OB_1,OB_2,OB_3,OB_l⟩:=OB.g4;by_cases aB:i<y.shelf.length
   ·have aC:(i:Int)<(m1:Int):=by have:=cS.out;omega
    have hi00:(0:Int)<=(i:Int):=Bl;have pG:i<((y.shelf.take i).map (Dg id) ++ y.shelf.drop i).length:=by simp;omega
    obtain ⟨g,o,⟨xa,xn,xc⟩,rfl,fZ,eW,ch⟩:=RdL.entryS (show RdL (Dt.list Ch) wo wo.heap.size (Aa B1 m1 e1) ((y.shelf.take i).map (Dg id) ++ y.shelf.drop i) from (Bu.ow_rd (F:=F) (x:=⟨y.now,y.seq,(y.shelf.take i).map (Dg id) ++ y.shelf.drop i,RR⟩) oy.out).1) pG;rw [Xk (Dg id) aB pG] at eW;replace eW:RdL Ch wo wo (Aa xa xn xc) y.shelf[i]:=eW;have hxn:xn=y.shelf[i].length:=RdL.at1 (s:=⟨xa,xn,xc⟩) eW;subst hxn;have h80:=gN.out i aB;have hi3:i<=3:=by have:=h4.out;omega
    have kA:∀ j,wo.frozen? ⟨g,j,Ac⟩=false:=by
     obtain ⟨G1,G2,_,_,os,_⟩:=oy.out;exact OwL.free0 (show OwL (Dt.list Ch) wo G1 (Aa (Ad ⟨g,o,Ac⟩) m1 e1) _ from os) (Nat.lt_of_le_of_lt (Ah _) pG)
    have eZ:=Bq (Pi (Dg id) aB);have q0:Below wo wo (wo.alloc (.cells #[] 71)):=Bt;have o0:=Ow.empty Cw 71 wo rfl;generalize y.shelf[i]=SH at *
    go_wp2;go_loopw [9,10] (fun v j wr=>∃ m:Nat,m<=SH.length/\j = J Ab m/\Hid (Ow Cw 71 wr wo v (Dg id (SH.take m)))/\Below wo wo wr) (fun _ j _=>SH.length - (intOf j).toNat);case atStart=>exact ⟨0,Ah _,rfl,o0,q0⟩
    case round =>
     clear o0 q0;obtain ⟨m,hm_,rfl,hO,fJ⟩:=hrel;clear OB_0 OB_1 OB_2 OB_3 OB_l;have OB2:=OB.below fJ;have OB2_:=OB2.g4;have ch2:=(fJ.cell (p:=⟨g,_,Ac⟩) fZ).trans ch;have hwis:=fJ.size;by_cases aX:m<SH.length
     ·have hltI2:(m:Int)<(SH.length:Int):=Bl;have sV:(0:Int)<=(m:Int):=Bl;obtain ⟨ge,oe,_,rfl,vF,_,d0,d1,d2,d3⟩:=(eW.below fJ).entry aX;have Hl:=Bq (show (Dg id (SH.take m)).length<=3000000 by have h1:=List.length_filter_le (fun e:Entry=>e.run != id) (SH.take m);rw [A0] at h1;unfold Dg;omega);cases q:(SH[m].run != id)
      ·have S:=Bq (show Dg id (SH.take (m+1))=Dg id (SH.take m) from Iq (p:=fun e:Entry=>e.run != id) aX q);go_wp2;exact ⟨⟨m+1,Bl,by go_num,by rw [S.out];exact hO,fJ⟩,clM⟩
      ·have S:=Bq (show Dg id (SH.take (m+1))=Dg id (SH.take m) ++ [SH[m]] from H7 (p:=fun e:Entry=>e.run != id) aX q);generalize SH[m]=e9 at *
       have ha:Hid (∀ w:World,Below w w (w.alloc (.cells #[J Ab e9.prio,J Ab e9.seq,J Ab e9.run,J Ab e9.task] 71))):=fun w=>Bt;have eD:=hO.out;go_wp2_with (at_builtin;go_loud (refine Cj _ Cw Bp rfl (.tmp 76) (.tmp 85) rfl underlying74 aQ aW aU aR rfl (base:=wo) (l:=Dg id (SH.take m)) rfl (eD.below (ha.out _)) rfl (Rd.one Cw _ _ e9 rfl rfl 1 (Bs _) (Nat.lt_succ_self _)) Hl.out Bn Bp (by simp;omega) ?_);intro v5 w5 o5 g5 _)
       have dM:Below wo wo w5:=(Bv fJ (ha.out _)).grown g5 (Bv fJ (ha.out _)).size (fun g hg=>by have:=eD.within _ hg;omega);exact ⟨⟨m+1,Bl,by go_num,by rw [S.out];exact o5,dM⟩,clM⟩
     ·have hltI2:¬ (m:Int)<(SH.length:Int):=Bl;have cE:=hO.out;rw [Bg Bl] at cE;obtain ⟨⟨a8,n8,c8⟩,Ft,rfl,o9,nF9⟩:=Ib cE;have oy2:Bu.ow wr F ⟨y.now,y.seq,(y.shelf.take i).map (Dg id) ++ y.shelf.drop i,RR⟩ (⟨Ad ⟨g,o,Ac⟩,m1,e1⟩,⟨A9,n9,c9⟩):=owB oy.out fJ;have hFlt2:∀ x∈F,x<wo:=Bu.ow_lt (F:=F) (x:=⟨y.now,y.seq,(y.shelf.take i).map (Dg id) ++ y.shelf.drop i,RR⟩) (s:=(⟨Ad ⟨g,o,Ac⟩,m1,e1⟩,⟨A9,n9,c9⟩)) oy.out;obtain ⟨F',p1,p2,p3⟩:=G7 oy2 pG (l:=Dg id SH) (t:=⟨a8,n8,c8⟩) o9 (fun x hx bF=>by have h1:=nF9 x hx;have h2:=hFlt2 x bF;omega);dsimp only at p1;rw [eZ.out] at p1;have hgn:=hF.out g p3;have hfg2:∀ j,wr.frozen? ⟨g,j,Ac⟩=false:=fun j=>(fJ.frozen (p:=⟨g,j,Ac⟩) fZ).trans (kA j);have OB3:=OB2.setOther (a:=⟨g,o+i,Ac⟩) (by show ob≠g;omega) (Aa a8 n8 c8);have RES3:=(RES.below fJ).setOther (a:=⟨g,o+i,Ac⟩) (by show w.heap.size+1≠g;omega) (Aa a8 n8 c8);have bU:Below w w (wr.setCell ⟨g,o+i,Ac⟩ (Aa a8 n8 c8)):=Ae (Bv hb fJ) (by show w.heap.size<=g;omega) _;have rG:Hid (∀ x∈F',w+1<x/\x≠ob):=fun x hx=>by
       rcases p2 x hx with h | h
       ·exact hF.out x h
       ·have:=nF9 x h;omega
      have jP:=OB3.lt;clear hO cE eZ o9 kA;go_wp2;exact ⟨⟨i+1,F',Bl,by go_num,p1,rG,OB3,RES3,bU,jP⟩,clM⟩
   ·have aC:¬ (i:Int)<(m1:Int):=by have:=cS.out;omega
    have hii:i=y.shelf.length:=Bl;have oyz:=oy.out;rw [Bg Bl,List.drop_eq_nil_of_le Bl,List.append_nil] at oyz;have rf:=RES.free;have RES_:=RES.g4;clear hii oy;go_wp2;have en1:w.heap.size+1∉F:=fun hx=>by have:=hF.out _ hx;omega
    refine Ak (Mp (DBox.row4 RES rfl _ _ _ _)) rfl ⟨(⟨B1,m1,e1⟩,⟨A9,n9,c9⟩),F,by rw [H.out,H2.out],by rw [H2.out];exact (by (repeat (refine Dt.ow_set Bu ?_ en1 _));exact (show Bu.ow _ F ⟨y.now,y.seq,y.shelf.map (Dg id),RR⟩ (⟨B1,m1,e1⟩,⟨A9,n9,c9⟩) from oyz)),fun x hx=>by have:=hF.out x hx;omega,?_⟩;repeat (first | (with_reducible exact hb) | refine Ae ?_ Bo _)
end
theorem Adc {b:Nat} {w:World} {u0 u1 u2 u3 u4 u5 u6 u7 v5:Value} (X:DBox b [u0,u1,u2,u3,u4,u5,u6,u7] w) {v0 v1 v2 v3:Value} {rest:List Value} :
  (results Tryz.f202 (v0 :: v1 :: v2 :: v3 :: .pointer (Ad ⟨b,0,Ac⟩) :: v5 :: rest).toArray).run An w = .ok (.tuple #[.agg #[u0,u1,u2,u3,u4,u5,u6,u7],v5]) w:=by
 have c0:=X.cell 0 _ rfl;have c1:=X.cell 1 _ rfl;have c2:=X.cell 2 _ rfl;have c3:=X.cell 3 _ rfl;have c4:=X.cell 4 _ rfl;have c5:=X.cell 5 _ rfl;have c6:=X.cell 6 _ rfl;have c7:=X.cell 7 _ rfl;simp [results,results202,go_sem,c0,c1,c2,c3,c4,c5,c6,c7]
theorem Xm (id:Int) (p:Plan) (s:Sl) (w:World) (hid:inB id 1 9999=true) (hf:Cr p=0) (h:Ck.rd w w p s) :
  Calls An 202 #[J Ab id,Ni p s] w (Afp (Ce id p) w):=by
 have fW:=Cs.1 hf;have hT:=Dx fW.1;have hE:=Es fW.1;obtain ⟨A,n,c⟩:=s;obtain rfl:n=p.edges.length:=RdL.at1 (s:=⟨A,n,c⟩) h;have rP:=Bq (fun W (hW:Below w w W)=>((Ja h).below hW).more hW.size);have CP:=Bq (fun W (hW:Below w w W)=>Nj p ⟨A,p.edges.length,c⟩ W (by unfold Hi;rw [Hz (cnt:=Nx) (fun _=>rfl)];omega) (Ck.rd_more (Ck.rd_below h hW) hW.size));have CF:=Bq (fun W (hW:Below w w W)=>H9 p (Aa A p.edges.length c) W Bl (rP.out W hW));have CB:=Bq (fun W (hW:Below w w W) t=>O8 p (Aa A p.edges.length c) t W hf (rP.out W hW));rw [hf] at CF;obtain ⟨i0,aQ,aW,aU,aR⟩:=info_parts P4;clear h fW hE hf;have X:=(DBox.new 43 [J Ab p.prio,J Ab p.most,J Ab p.wait,J Ab p.tasks,Aa A p.edges.length c] w (b:=w) rfl).below ((Br _ _).alloc (Bs _) (.cells #[J Ab 0,J Ab 0,J Ab 0,J Ab 0,J Ab 0,Aa Ac 0 0,J Ab 0,Aa Ac 0 0] 67));have RES:=DBox.new 67 [J Ab 0,J Ab 0,J Ab 0,J Ab 0,J Ab 0,Aa Ac 0 0,J Ab 0,Aa Ac 0 0] (w.alloc (.cells #[J Ab p.prio,J Ab p.most,J Ab p.wait,J Ab p.tasks,Aa A p.edges.length c] 43)) (b:=w+1) Bn;have B0:Below w w ((w.alloc (.cells #[J Ab p.prio,J Ab p.most,J Ab p.wait,J Ab p.tasks,Aa A p.edges.length c] 43)).alloc (.cells #[J Ab 0,J Ab 0,J Ab 0,J Ab 0,J Ab 0,Aa Ac 0 0,J Ab 0,Aa Ac 0 0] 67)):=by repeat (first | exact Br _ _ | refine Below.alloc ?_ Bo _)
 go_enter func202,ntmps202;go_wp2_with (go_at_call 72;refine (Cq _ _ _ _).mono ?_;rintro e w9 ⟨rfl,rfl⟩;rw [hid])
 generalize ((w.alloc (.cells #[J Ab p.prio,J Ab p.most,J Ab p.wait,J Ab p.tasks,Aa A p.edges.length c] 43)).alloc (.cells #[J Ab 0,J Ab 0,J Ab 0,J Ab 0,J Ab 0,Aa Ac 0 0,J Ab 0,Aa Ac 0 0] 67))=W at *
 refine (CF.out _ B0).mono ?_;rintro e1 w1 ⟨rfl,b1⟩;have dL:=RES.lt;replace X:=X.below b1;replace RES:=RES.below b1;obtain ⟨X_0,X_1,X_2,X_3,X_4,X_l⟩:=X.g5;have B1:=Bv B0 b1;have bG:=b1.size;clear B0 b1;go_wp2_with fail
 refine (CP.out _ B1).mono ?_;rintro e1 w2 ⟨⟨A3,n3,c3⟩,F,rfl,op,nF,b2⟩;clear X_0 X_1 X_2 X_3 X_4 X_l;replace X:=X.below b2;replace RES:=RES.below b2;have B2:=Bv B1 b2;have cN:=b2.size;have cI:=Ck.ow_lt op;clear B1 b2 CP CF;obtain ⟨X_0,X_1,X_2,X_3,X_4,X_l⟩:=X.g5;go_upto_region 4 with fail
 have RB:=DBox.new 67 [J Ab id,J Ab p.prio,J Ab p.most,J Ab p.wait,J Ab p.tasks,Aa A3 n3 c3,J Ab 1,Aa Ac 0 0] w2 (b:=w2) rfl;have b3:Below w2 w2 (w2.alloc (.cells #[J Ab id,J Ab p.prio,J Ab p.most,J Ab p.wait,J Ab p.tasks,Aa A3 n3 c3,J Ab 1,Aa Ac 0 0] 67)):=Bt;clear X_0 X_1 X_2 X_3 X_4 X_l;replace X:=X.below b3;replace RES:=RES.below b3;replace op:=Ck.ow_below op b3;have B3:=Bv B2 b3;have fS:=b3.size;have hRB:=RB.lt;generalize w2.alloc (.cells #[J Ab id,J Ab p.prio,J Ab p.most,J Ab p.wait,J Ab p.tasks,Aa A3 n3 c3,J Ab 1,Aa Ac 0 0] 67)=w3 at *
 generalize pM:w2.heap.size=rb at *
 have cB:∀ x∈F,w+1<x/\x<rb:=fun x hx=>⟨by have:=nF x hx;omega,cI x hx⟩
 clear cI nF B2 b3;obtain ⟨T,sI⟩:∃ T:Nat,p.tasks=T:=⟨p.tasks.toNat,Bl⟩
 have mM:=Bq sI;have mV:=Bq (show p.tasks.toNat=T by omega);have fK:T<=12:=Bl;clear sI;have hH:Hid (Ce id p=⟨id,p,1,(List.range T).map (D8 p)⟩):=by
  show Ce id p=_;unfold Ce;rw [mV.out]
 go_wp2;go_loopw [7] (fun i wr=>∃ (k:Nat) (vt:Value),k<=T/\i = J Ab k/\Hid (Ow Fz 203 wr (rb+1) vt ((List.range k).map (D8 p)))/\DBox w [J Ab p.prio,J Ab p.most,J Ab p.wait,J Ab p.tasks,Aa A p.edges.length c] wr/\DBox (w+1) [J Ab 0,J Ab 0,J Ab 0,J Ab 0,J Ab 0,Aa Ac 0 0,J Ab 0,Aa Ac 0 0] wr/\DBox rb [J Ab id,J Ab p.prio,J Ab p.most,J Ab p.wait,J Ab p.tasks,Aa A3 n3 c3,J Ab 1,vt] wr/\Hid (Ck.ow wr F p ⟨A3,n3,c3⟩)/\Below w w wr/\rb<wr) (fun i _=>T - (intOf i).toNat);case atStart=>exact ⟨0,_,Ah _,rfl,Ow.nil Fz 203 w3 (rb+1),X,RES,RB,op,B3,hRB⟩
 case round =>
  clear X RES RB op B3;obtain ⟨k,vt,hk,rfl,ho,X,RES,RB,op,hb,cK⟩:=hrel;obtain ⟨X_0,X_1,X_2,X_3,X_4,X_l⟩:=X.g5;obtain ⟨RB_0,RB_1,RB_2,RB_3,RB_4,RB_5,RB_6,RB_7,RB_l⟩:=RB.g8;by_cases aB:k<T
  ·have aC:(k:Int)<p.tasks:=by have:=mM.out;omega
   have hS:=Bq (Pf (D8 p) k);go_wp2_with fail
   refine (CB.out _ hb k).mono ?_;rintro e1 w4 ⟨vb,rfl,ob,b4⟩;obtain ⟨A9,c9,rfl,-⟩:=_root_.id (Rd.of_own ob);have mQ:(Dv (Dr p) p.tasks.toNat k).length<=12:=by have h1:=Jh (Dr p) p.tasks.toNat k;have h2:=mV.out;omega
   have hN:Hid (D8 p k=⟨if (Dv (Dr p) p.tasks.toNat k).length=0 then 2 else 1,(Dv (Dr p) p.tasks.toNat k).length,0,0⟩):=rfl;have uW:=Bq (show ((List.range k).map (D8 p)).length<=3000000 by simp;omega);generalize (Dv (Dr p) p.tasks.toNat k).length=N at *
   clear X_0 X_1 X_2 X_3 X_4 X_l;clear RB_0 RB_1 RB_2 RB_3 RB_4 RB_5 RB_6 RB_7 RB_l;have hb4s:=b4.size;have bN:=hb.size;replace X:=X.below b4;replace RES:=RES.below b4;replace RB:=RB.below b4;replace op:=Ck.ow_below op.out b4;have dH:=ho.out.below b4;have cL:=Bv hb b4;clear ho b4 ob hb;obtain ⟨RB_0,RB_1,RB_2,RB_3,RB_4,RB_5,RB_6,RB_7,RB_l⟩:=RB.g8;have rbf:=RB.free;by_cases hz:N=0
   ·subst hz;have rY:Hid (D8 p k=⟨2,0,0,0⟩):=by rw [if_pos rfl] at hN;exact hN
    clear hN;have b5:Below w4 w4 (w4.alloc (.cells #[J Ab 2,J Ab 0,J Ab 0,J Ab 0] 203)):=Bt;have XB:=DBox.new 203 [J Ab 2,J Ab 0,J Ab 0,J Ab 0] w4 (b:=w4) rfl;go_upto_region 10 with fail
    clear RB_0 RB_1 RB_2 RB_3 RB_4 RB_5 RB_6 RB_7 RB_l;clear rbf;replace X:=X.below b5;replace RES:=RES.below b5;replace RB:=RB.below b5;replace op:=Ck.ow_below op b5;replace dH:=dH.below b5;replace cL:=Bv cL b5;have hb5s:=b5.size;clear b5;generalize w4.alloc (.cells #[J Ab 2,J Ab 0,J Ab 0,J Ab 0] 203)=w5 at *
    obtain ⟨RB_0,RB_1,RB_2,RB_3,RB_4,RB_5,RB_6,RB_7,RB_l⟩:=RB.g8;obtain ⟨XB_0,XB_1,XB_2,XB_3,XB_l⟩:=XB.g4;have rbf:=RB.free;have ha:Hid (∀ w:World,Below w w (w.alloc (.cells #[J Ab 2,J Ab 0,J Ab 0,J Ab 0] 203))):=fun w=>Bt;have HL:Hid (((List.range k).map (D8 p)).length=k):=by
     show ((List.range k).map (D8 p)).length=k;simp
    go_wp2_with (at_builtin;refine Cj _ Fz Bp rfl (.tmp 38) (.tmp 40) rfl underlying65 aQ aW aU aR rfl (base:=rb+1) (l:=(List.range k).map (D8 p)) rfl (dH.below (ha.out w5)) rfl (Rd.one Fz _ _ ⟨2,0,0,0⟩ rfl rfl 1 (Bs _) (Nat.lt_succ_self _)) uW.out Bn Bp (by simp;omega) ?_;intro v5 w6 o6 g6 _;obtain ⟨⟨va,vn,vc⟩,rfl⟩:∃ s:Sl,v5 = Aa s.a s.n s.c:=(by obtain ⟨A7,c7,rfl,_⟩:=Rd.of_own o6;exact ⟨⟨A7,_,c7⟩,rfl⟩);have RB6:=(RB.below (ha.out w5)).off g6 (fun e=>by have:=dH.within _ e.symm;omega);have q7:=RB6.cell 7 _ rfl;have qf:=RB6.free;have ql:=RB6.lt)
    have aH:Below w w w6:=(Bv cL (ha.out w5)).grown g6 (Bv cL (ha.out w5)).size (fun g hg=>by have:=dH.within _ hg;omega);have X6:=(X.below (ha.out w5)).off g6 (fun e=>by have:=dH.within _ e.symm;omega);have RES6:=(RES.below (ha.out w5)).off g6 (fun e=>by have:=dH.within _ e.symm;omega);have op6:=(Ck.ow_keep (Ck.ow_below op (ha.out w5)) g6.size (fun b bT=>g6.block b (Ck.ow_lt (Ck.ow_below op (ha.out w5)) b bT) (fun e=>by have h1:=dH.within _ e.symm;have h2:=cB b bT;omega)))
    have dK:Ow Fz 203 (w6.setCell ⟨rb,7,Ac⟩ (Aa va vn vc)) (rb+1) (Aa va vn vc) ((List.range (k+1)).map (D8 p)):=by
     rw [hS.out,rY.out];exact o6.setOther (fun e=>by have h1:rb+1<=rb:=(o6.within _ e).1;omega) _
    exact ⟨⟨k+1,_,Bl,by go_num,dK,X6.setOther (by show w.heap.size≠rb;omega) _,RES6.setOther (by show w.heap.size+1≠rb;omega) _,RB6.set 7 Bn _,Ck.ow_set op6 (a:=⟨rb,7,Ac⟩) (fun hx=>by have h1:w+1<rb/\rb<rb:=cB _ hx;omega) _,aH.setCell (by show w.heap.size<=rb;omega) _,by simp [World.setCell];omega⟩,clM⟩
   ·have rY:Hid (D8 p k=⟨1,N,0,0⟩):=by rw [if_neg hz] at hN;exact hN
    have hNI:(0:Int)<(N:Int):=Bl;clear hN hz;have b5:Below w4 w4 (w4.alloc (.cells #[J Ab 1,J Ab (N:Int),J Ab 0,J Ab 0] 203)):=Bt;have XB:=DBox.new 203 [J Ab 1,J Ab (N:Int),J Ab 0,J Ab 0] w4 (b:=w4) rfl;go_upto_region 10 with fail
    clear RB_0 RB_1 RB_2 RB_3 RB_4 RB_5 RB_6 RB_7 RB_l;clear rbf;replace X:=X.below b5;replace RES:=RES.below b5;replace RB:=RB.below b5;replace op:=Ck.ow_below op b5;replace dH:=dH.below b5;replace cL:=Bv cL b5;have hb5s:=b5.size;clear b5;generalize w4.alloc (.cells #[J Ab 1,J Ab (N:Int),J Ab 0,J Ab 0] 203)=w5 at *
    obtain ⟨RB_0,RB_1,RB_2,RB_3,RB_4,RB_5,RB_6,RB_7,RB_l⟩:=RB.g8;obtain ⟨XB_0,XB_1,XB_2,XB_3,XB_l⟩:=XB.g4;have rbf:=RB.free;have ha:Hid (∀ w:World,Below w w (w.alloc (.cells #[J Ab 1,J Ab (N:Int),J Ab 0,J Ab 0] 203))):=fun w=>Bt;have HL:Hid (((List.range k).map (D8 p)).length=k):=by
     show ((List.range k).map (D8 p)).length=k;simp
    go_wp2_with (at_builtin;refine Cj _ Fz Bp rfl (.tmp 38) (.tmp 40) rfl underlying65 aQ aW aU aR rfl (base:=rb+1) (l:=(List.range k).map (D8 p)) rfl (dH.below (ha.out w5)) rfl (Rd.one Fz _ _ ⟨1,(N:Int),0,0⟩ rfl rfl 1 (Bs _) (Nat.lt_succ_self _)) uW.out Bn Bp (by simp;omega) ?_;intro v5 w6 o6 g6 _;obtain ⟨⟨va,vn,vc⟩,rfl⟩:∃ s:Sl,v5 = Aa s.a s.n s.c:=(by obtain ⟨A7,c7,rfl,_⟩:=Rd.of_own o6;exact ⟨⟨A7,_,c7⟩,rfl⟩);have RB6:=(RB.below (ha.out w5)).off g6 (fun e=>by have:=dH.within _ e.symm;omega);have q7:=RB6.cell 7 _ rfl;have qf:=RB6.free;have ql:=RB6.lt)
    have aH:Below w w w6:=(Bv cL (ha.out w5)).grown g6 (Bv cL (ha.out w5)).size (fun g hg=>by have:=dH.within _ hg;omega);have X6:=(X.below (ha.out w5)).off g6 (fun e=>by have:=dH.within _ e.symm;omega);have RES6:=(RES.below (ha.out w5)).off g6 (fun e=>by have:=dH.within _ e.symm;omega);have op6:=(Ck.ow_keep (Ck.ow_below op (ha.out w5)) g6.size (fun b bT=>g6.block b (Ck.ow_lt (Ck.ow_below op (ha.out w5)) b bT) (fun e=>by have h1:=dH.within _ e.symm;have h2:=cB b bT;omega)))
    have dK:Ow Fz 203 (w6.setCell ⟨rb,7,Ac⟩ (Aa va vn vc)) (rb+1) (Aa va vn vc) ((List.range (k+1)).map (D8 p)):=by
     rw [hS.out,rY.out];exact o6.setOther (fun e=>by have h1:rb+1<=rb:=(o6.within _ e).1;omega) _
    exact ⟨⟨k+1,_,Bl,by go_num,dK,X6.setOther (by show w.heap.size≠rb;omega) _,RES6.setOther (by show w.heap.size+1≠rb;omega) _,RB6.set 7 Bn _,Ck.ow_set op6 (a:=⟨rb,7,Ac⟩) (fun hx=>by have h1:w+1<rb/\rb<rb:=cB _ hx;omega) _,aH.setCell (by show w.heap.size<=rb;omega) _,by simp [World.setCell];omega⟩,clM⟩
  ·have aC:¬ (k:Int)<p.tasks:=by have:=mM.out;omega
   have hkT:k=T:=Bl;subst hkT;have rf:=RES.free;have RES_0:=RES.cell 0 _ rfl;have RES_1:=RES.cell 1 _ rfl;have RES_2:=RES.cell 2 _ rfl;have RES_3:=RES.cell 3 _ rfl;have RES_4:=RES.cell 4 _ rfl;have RES_5:=RES.cell 5 _ rfl;have RES_6:=RES.cell 6 _ rfl;have RES_7:=RES.cell 7 _ rfl;have sP:=ho.out;obtain ⟨⟨ta,tn,tc⟩,Ft,rfl,ot,nt⟩:=Vn sP;go_wp2;have e1:w.heap.size+1∉F:=fun hx=>by have:=cB _ hx;omega
   have e2:w.heap.size+1∉Ft:=fun hx=>by have:=nt _ hx;omega
   refine Ak (Adc (DBox.row8 RES rfl _ _ _ _ _ _ _ _)) rfl ⟨(⟨A3,n3,c3⟩,⟨ta,tn,tc⟩),F ++ Ft,by rw [hH.out],⟨F,Ft,rfl,?_,?_,?_⟩,?_,?_⟩
   ·rw [Ay];refine ⟨Ck.ow_nodup op.out,ot.nodup,fun u hu u' hu' e=>?_⟩
    have:=cB u hu
    have:=nt u' hu'
    omega
   ·rw [hH.out];show Ck.ow _ F p _;exact (by (repeat (refine Dt.ow_set Ck ?_ e1 _));exact op.out)
   ·rw [hH.out];show OwL Eu _ Ft _ ((List.range k).map (D8 p));exact ((((((((ot.set (a:=⟨w+1,_,Ac⟩) e2 _).set (a:=⟨w+1,_,Ac⟩) e2 _).set (a:=⟨w+1,_,Ac⟩) e2 _).set (a:=⟨w+1,_,Ac⟩) e2 _).set (a:=⟨w+1,_,Ac⟩) e2 _).set (a:=⟨w+1,_,Ac⟩) e2 _).set (a:=⟨w+1,_,Ac⟩) e2 _).set (a:=⟨w+1,_,Ac⟩) e2 _)
   ·intro x hx;rcases Bi.1 hx with hx | hx
    ·have:=cB x hx;omega
    ·have:=nt x hx;have:=bG;omega
   ·repeat (first | (with_reducible exact hb) | refine Ae ?_ Bo _)
theorem Ow.rdHi {α:Type} {e:Enc α} {E:TypeId} {w w':World} {base:Nat} {v:Value} {l:List α} {F:List Nat} (o:Ow e E w base v l) (hC:Chg F w w') (hF:∀ x∈F,x<base\/w<=x):Rd e w' w' v l :=
 (Rd.of_own o).keepF hC.size (fun b hb ob=>by
  have h1:=o.within b (Ho _ _ _ hb);exact hC.cell (p:=⟨b,ob,Ac⟩) h1.2 (fun hx=>by have:=hF b hx;omega))
theorem Sp (was r:Run):Gt was r r.tasks.length=(Dd r.tasks 2).filter (fun t=>!decide (t∈Dd was.tasks 2)):=by
 unfold Gt Dd Ff;rw [List.filter_filter];apply List.filter_congr;intro t ht;have hm:t∈(List.range was.tasks.length).filter (fun t=>(was.tasks.getD t ⟨0,0,0,0⟩).state == 2) ↔ (By was t).state=2:=by
  rw [List.mem_filter,List.mem_range];show (t<was.tasks.length/\((By was t).state == 2)=true) ↔ _;constructor
  ·intro h;simpa using h.2
  ·intro h;refine ⟨?_,by simpa using h⟩;apply Decidable.byContradiction;intro hn;unfold By at h;rw [List.getD_eq_getElem?_getD,List.getElem?_eq_none Bl] at h;cases h
 show ((By r t).state == 2 && !((By was t).state == 2))=(!decide _ && ((By r t).state == 2))
 rw [decide_eq_decide.2 hm,Bool.and_comm];rfl
theorem Ade (y:Yard) (k:Nat) (r:Run) (hk:k<y.runs.length):E0 y k r=Kq ⟨y.now,y.seq,y.shelf,y.runs.set k r⟩ r ((Dd r.tasks 2).filter (fun t=>!decide (t∈Dd y.runs[k].tasks 2))):=by
 rw [<-Sp];unfold E0 Ly Kq;rw [List.getD_eq_getElem?_getD,List.getElem?_eq_getElem hk];rfl
def Xn (z:Yard) (s:Sl×Sl) (b:Nat) (F:List Nat) (w:World) (e:Ending) (w':World):Prop :=
 e = .returned (.tuple #[]) /\ ∃ F',DBox b (Ev z s) w'/\Bu.ow w' F' z s/\(∀ x∈F',x∈F\/w<=x)/\Chg (b :: F) w w'
theorem Kt (FN p:Nat) (hF:∀ (args:Array Value) (w:World),(callFunc FN args).run An w = .ok (.enter FN args) w) (y:Yard) (b:Nat) (s:Sl×Sl) (F:List Nat) (k:Nat) (r:Run) (w:World) (h4:y.shelf.length=4) (hM:∀ s∈y.shelf,s.length<=90000) (hq:0<=y.seq/\y.seq<=1900000000)
  (hk:k<y.runs.length) (hT:r.tasks.length<=1000) (qA:y.runs[k].tasks.length<=1000) (hY:DBox b (Ev y s) w) (hy:Bu.ow w F y s) (bT:b∉F)
  (HOW:Hid (∀ (W:World) gr o n c rs G1 Fx G2 sr,Below w w W->Foc Cn W gr o n c rs k G1 Fx G2 y.runs[k] sr->Calls An FN #[.pointer (Ad ⟨gr,o+k * 8,Ac⟩),.pointer (Ad ⟨p,0,Ac⟩)] W (I1 gr o n c rs k G1 Fx G2 r sr W))) :
  Calls An 210 #[.pointer (Ad ⟨b,0,Ac⟩),J Ab k,.func (.func FN) #[] #[.pointer (Ad ⟨p,0,Ac⟩)]] w (Xn (E0 y k r) s b F w):=by
 have hTS:=Bq (Ade y k r hk);obtain ⟨F1,F2,rfl,bI,os,orr⟩:=hy;obtain ⟨⟨sa,sn,sc⟩,⟨ra,rn,rc⟩⟩:=s;replace os:OwL (Dt.list Ch) w F1 (Aa sa sn sc) y.shelf:=os;replace orr:OwL Cn w F2 (Aa ra rn rc) y.runs:=orr;obtain rfl:sn=y.shelf.length:=RdL.at1 (s:=⟨sa,sn,sc⟩) os.rd;obtain rfl:rn=y.runs.length:=RdL.at1 (s:=⟨ra,rn,rc⟩) orr.rd;obtain ⟨g,o',_,rfl,fZ,_,_⟩:=os.rd.entryS (k:=0) (by omega);have eP:=os.block_mem Bl;obtain ⟨gr,o,rs,sr,G1,Fx,G2,hAe,rJ,hm,F0_⟩:=orr.foc hk;obtain rfl:ra=_:=hAe;have hF2m:=Bq (show ∀ x∈gr :: Fx,x∈F2 from fun x hx=>by rw [rJ];rcases List.mem_cons.1 hx with h | h<;>simp [h]);have dX:=Bq (show ∀ x∈F1,x∉F2 from fun x h1 h2=>(Ay.1 bI).2.2 x h1 x h2 rfl);have aB:=Bq (show ∀ x∈F1 ++ F2,x<w from fun x hx=>by rcases Bi.1 hx with h | h;exact os.lt x h;exact orr.lt x h);have gJ:(k:Int)<(y.runs.length:Int):=Bl;have dF:(0:Int)<=(k:Int):=Bl;have kG:=hY.lt;have CT:=Bq (I2 y.runs[k] sr 2 w Bl (Cn.ow_rd F0_.here));obtain ⟨y0,y1,y2,y3,-⟩:=hY.g4;obtain ⟨c0,c1,c2,c3,c4,c5,c6,c7⟩:=F0_.run;have sU:=F0_.blk;generalize bR:y.runs[k]=rk at *
 go_enter func210,ntmps210;go_wp2_with fail
 refine CT.out.mono ?_;rintro e w1 ⟨v1,rfl,ov1,b1⟩;obtain ⟨A1,cv1,rfl,-⟩:=_root_.id (Rd.of_own ov1);clear y0 y1 y2 y3 c0 c1 c2 c3 c4 c5 c6 c7 CT;have F1_:Foc Cn w1 gr o y.runs.length rc rs k G1 Fx G2 rk sr:=F0_.sub (Chg.of_below _ b1) (Cn.ow_below F0_.here b1) rfl;replace os:=os.below b1;replace hY:=hY.below b1;obtain ⟨y0,y1,y2,y3,-⟩:=hY.g4;have nK:=F1_.blk;have aU:=b1.size;go_wp2_with fail
 refine (HOW.out w1 gr o y.runs.length rc rs G1 Fx G2 sr b1 F1_).mono ?_;rintro e w2 ⟨rfl,F2_,hC⟩;have rv1:=ov1.rdHi hC (fun x hx=>.inl (aB.out x (Be _ (hF2m.out x hx))));replace os:=os.chg hC (fun x hx hx2=>dX.out x hx (hF2m.out x hx2));replace hY:=hY.chg hC (fun hx=>bT (Be _ (hF2m.out _ hx)));have jD:Chg (b :: (F1 ++ F2)) w w2:=(Chg.of_below _ b1).trans (hC.mono (fun x hx=>List.mem_cons_of_mem _ (Be _ (hF2m.out x hx))));have aR:=hC.size;clear y0 y1 y2 y3 F1_ hC ov1 F0_ orr;obtain ⟨y0,y1,y2,y3,-⟩:=hY.g4;obtain ⟨c0,c1,c2,c3,c4,c5,c6,c7⟩:=F2_.run;have gS:=F2_.blk;have CT2:=Bq (I2 r sr 2 w2 Bl (Cn.ow_rd F2_.here));go_wp2_with fail
 refine CT2.out.mono ?_;rintro e w3 ⟨v3,rfl,ov3,b3⟩;obtain ⟨A3,cv3,rfl,-⟩:=_root_.id (Rd.of_own ov3);clear y0 y1 y2 y3 c0 c1 c2 c3 c4 c5 c6 c7 CT2;have F3_:Foc Cn w3 gr o y.runs.length rc rs k G1 Fx G2 r sr:=F2_.sub (Chg.of_below _ b3) (Cn.ow_below F2_.here b3) rfl;replace os:=os.below b3;replace hY:=hY.below b3;have rv3:=Rd.of_own ov3;replace rv1:=(rv1.below b3).more b3.size;have dU:=jD.trans (Chg.of_below (b :: (F1 ++ F2)) b3);have tW:=b3.size;clear F2_ jD ov3 b3;have hL2:(Dd r.tasks 2).length<=1000:=Ai (Jr _ _ _) hT;have tD:(Dd rk.tasks 2).length<=1000:=Ai (Jr _ _ _) qA;obtain ⟨j0,bZ,jz0,jz1,jz2⟩:=info_parts Qb;generalize Dd rk.tasks 2=L0 at *
 generalize Dd r.tasks 2=L2 at *
 go_wp2;go_loopw [7,9,35] (fun x u i wr=>∃ (j:Nat) (v:Value),j<=L2.length/\v=x/\i = J Ab j/\Hid (Ow En 3 wr w3 v ((L2.take j).filter fun t=>!decide (t∈L0)))/\Below w3 w3 wr) (fun _ _ i _=>L2.length - (intOf i).toNat);case atStart=>exact ⟨0,_,Ah _,rfl,rfl,Ow.nil _ _ _ _,Br _ _⟩
 case round =>
  obtain ⟨j,v,hj,rfl,rfl,hO,hb⟩:=hrel;by_cases mA:j<L2.length
  ·have gL:(j:Int)<(L2.length:Int):=Bl;obtain ⟨b9,o9,rfl,mZ,e0⟩:=(rv3.below hb).nat mA;have cJ:=hb.size;have hb9w:b9<wr:=Bl;have hS:=Bq (show (L2.take (j+1)).filter (fun t=>!decide (t∈L0))=(L2.take j).filter (fun t=>!decide (t∈L0)) ++ (if L2[j]∈L0 then [] else [L2[j]]) by
    rw [Cy L2 j mA,List.filter_append];congr 1;by_cases hx:L2[j]∈L0<;>simp [hx])
   have aK:((L2.take j).filter fun t=>!decide (t∈L0)).length<=3000000:=Ai (List.length_filter_le _ _) (by rw [A0];omega);have CC:=Bq (Lj (Aa A1 L0.length cv1) L0 L2[j] wr wr Bl ((rv1.below hb).more hb.size));generalize L2[j]=t at *
   generalize (L2.take j).filter (fun t=>!decide (t∈L0))=ML at *
   by_cases hx:t∈L0
   ·rw [decide_eq_true hx] at CC;rw [if_pos hx,List.append_nil] at hS;go_wp2_with fail
    refine CC.out.mono ?_;rintro e w5 ⟨rfl,rfl⟩;go_wp2;exact ⟨⟨j+1,v,Bl,rfl,by go_num,by rw [hS.out];exact hO,hb⟩,clM⟩
   ·rw [decide_eq_false hx] at CC;rw [if_neg hx] at hS;obtain ⟨A7,c7,sR,-⟩:=_root_.id (Rd.of_own hO.out);generalize tK:ML.length=n7 at sR;subst sR;replace tK:=Bq tK;have ha:Below wr wr (wr.alloc (.cells #[J Ab (t:Int)] 3)):=Bt;have cC:=Bq (show ∀ x,(Value.slice A7 n7 c7).ownBlock=Ad x->w3.heap.size<=x from fun x hx=>(hO.out.within x hx).1);go_wp2_with fail
    refine CC.out.mono ?_;rintro e w5 ⟨rfl,rfl⟩;go_wp2_with (at_builtin;refine Cj _ En Bp rfl (.tmp 43) (.tmp 45) rfl underlying26 bZ jz0 jz1 jz2 rfl (base:=w3) (v:=Aa A7 n7 c7) (l:=ML) rfl (hO.out.below ha) rfl (Rd.one En _ _ t rfl rfl 1 (Bs _) (Nat.lt_succ_self _)) aK Bn Bp (by simp;omega) ?_;intro v6 w6 o6 g6 _)
    have rF:Below w3 w3 w6:=(Bv hb ha).grown g6 (Bv hb ha).size (fun g hg=>by have:=cC.out g hg;omega);exact ⟨⟨j+1,v6,Bl,rfl,by go_num,by rw [hS.out];exact o6,rF⟩,clM⟩
  ·have gL:¬ (j:Int)<(L2.length:Int):=Bl;have cE:=hO.out;rw [Bg Bl] at cE;have cI:(L2.filter fun t=>!decide (t∈L0)).length<=1000:=Ai (List.length_filter_le _ _) hL2;generalize L2.filter (fun t=>!decide (t∈L0))=FL at *
   obtain ⟨A7,c7,rfl,-⟩:=_root_.id (Rd.of_own cE);have F4_:Foc Cn wr gr o y.runs.length rc rs k G1 Fx G2 r sr:=F3_.sub (Chg.of_below _ hb) (Cn.ow_below F3_.here hb) rfl;replace os:=os.below hb;replace hY:=hY.below hb;obtain ⟨y0,y1,y2,y3,-⟩:=hY.g4;obtain ⟨c0,c1,c2,c3,c4,c5,c6,c7_⟩:=F4_.run;have hgr4:=F4_.blk;have eK:=dU.trans (Chg.of_below (b :: (F1 ++ F2)) hb);have cJ:=hb.size;have hb1F:b∉F1:=fun h=>bT (Bf _ h);have CS:=Bq (Qt ⟨y.now,y.seq,y.shelf,y.runs.set k r⟩ b g o' sc ⟨Ad ⟨gr,o,Ac⟩,y.runs.length,rc⟩ r sr FL A7 FL.length c7 wr F1 h4 (fun s hs=>by have:=hM s hs;omega) (by dsimp only;omega) cI hY os hb1F (Bq fun W hW=>cE.rdHi hW (fun x hx=>by
    have hgw':g<w:=fZ;have:x=b\/x=g:=by simpa using hx
    left;rcases this with rfl | rfl<;>omega)))
   rw [<-hTS.out] at CS;unfold P8 at CS;dsimp only at CS;clear hO cE F3_ dU;have aL:=Bq (show (E0 y k r).runs=y.runs.set k r by rw [hTS.out];exact (W7 (y:=⟨y.now,y.seq,y.shelf,y.runs.set k r⟩) hM r FL).runs);generalize E0 y k r=Z at *
   go_wp2_with fail
   refine CS.out.mono ?_;rintro e w6 ⟨rfl,F1',os6,Y6,cH,tC⟩;have cL:b∉([gr] ++ (G1 ++ (Fx ++ G2))):=fun h=>bT (Be _ (by rw [rJ];exact h));have orr6:=(F4_.owl hm).chg tC (fun x hx h=>by
    have:x=b\/x=g:=by simpa using h
    rcases this with rfl | rfl
    ·exact cL hx
    ·exact dX.out _ eP (by rw [rJ];exact hx))
   rw [<-rJ] at orr6;have fL:=eK.trans (tC.mono (fun x hx=>by
    have:x=b\/x=g:=by simpa using hx
    rcases this with rfl | rfl
    ·exact List.mem_cons_self ..
    ·exact List.mem_cons_of_mem _ (Bf _ eP)))
   have HF:=Bq (show Xn Z (⟨Ad ⟨g,o',Ac⟩,y.shelf.length,sc⟩,⟨Ad ⟨gr,o,Ac⟩,y.runs.length,rc⟩) b (F1 ++ F2) w (.returned (.tuple #[])) w6 from
    ⟨rfl,F1' ++ F2,Y6,⟨F1',F2,rfl,by
     rw [Ay];refine ⟨os6.nodup,(Ay.1 bI).2.1,fun a ha c hc e=>?_⟩;subst e;rcases cH _ ha with h | h
     ·exact dX.out _ h hc
     ·have:=aB.out _ (Be _ hc);omega,os6,by show OwL Cn _ F2 _ Z.runs;rw [aL.out];exact orr6⟩,fun x hx=>by
     rcases Bi.1 hx with h | h
     ·rcases cH _ h with h | h
      ·exact .inl (Bf _ h)
      ·right;omega
     ·exact .inl (Be _ h),fL⟩)
   clear orr6 os6 Y6 cH tC fL F4_;go_wp2;exact Ak (v:=.tuple #[]) (by simp [results,results210,go_sem]) rfl HF.out
def Adf (code:List UInt8) (c:Cur):(Int×Int×Int)×Cur :=
 let a:=Bw code 5 c
 let b:=Bw code 6 a.2
 let d:=Bw code 4 b.2
 ((1+a.1,b.1 - 1,d.1),d.2)
def Rh (code:List UInt8) (r:Run) (c:Cur):(Int×Int×Int)×Cur :=
 let L:=Dd r.tasks 3
 let a:=Bw code L.length c
 let t:=L.getD a.1.toNat 0
 let ty:=(By r t).try_
 let o:=Ex code 8 a.2
 if o.1=true then
  let f:=Bw code 2 o.2
  ((r.id,(t:Int),wrap64 (wrap64 (ty - 1)+wrap64 (2 * f.1))),f.2)
 else ((r.id,(t:Int),ty),o.2)
def Fj (code:List UInt8):List Run->Cur->(Int×Int×Int)×Cur
 | [],c=>Adf code c
 | r :: rs,c =>
  if (Dd r.tasks 3).length=0 then Fj code rs c
  else if (Ex code 5 c).1=true then Fj code rs (Ex code 5 c).2
  else Rh code r (Ex code 5 c).2
theorem Adg {code:List UInt8} {r:Run} {rs:List Run} {c:Cur} (h:(Dd r.tasks 3).length=0):Fj code (r :: rs) c=Fj code rs c:=by rw [Fj,if_pos h]
theorem Adh {code:List UInt8} {r:Run} {rs:List Run} {c:Cur} (h:¬ (Dd r.tasks 3).length=0) (o:(Ex code 5 c).1=true):Fj code (r :: rs) c=Fj code rs (Ex code 5 c).2:=by rw [Fj,if_neg h,if_pos o]
theorem Adi {code:List UInt8} {r:Run} {rs:List Run} {c:Cur} (h:¬ (Dd r.tasks 3).length=0) (o:(Ex code 5 c).1=false):Fj code (r :: rs) c=Rh code r (Ex code 5 c).2:=by rw [Fj,if_neg h,if_neg (by rw [o];simp)]
theorem Aev {l:List Task} {s:Int} : ∀ x∈Dd l s,x<l.length:=fun x hx=>by
 unfold Dd Ff at hx
 exact List.mem_range.1 (List.mem_filter.1 hx).1
theorem Adj (b:Nat) (v:Value) (code:List UInt8) (c:Cur) (y:Yard) (s:Sl×Sl) (F:List Nat) (w:World) (hl:Cf y<=2000000) (h:Drw b v code c w) (hy:Bu.ow w F y s) (bT:b∉F) :
  Calls An 230 #[.pointer (Ad ⟨b,0,Ac⟩),Dh y s] w (DrP b v code (.tuple #[J Ab (Fj code y.runs c).1.1,J Ab (Fj code y.runs c).1.2.1,J Ab (Fj code y.runs c).1.2.2]) (Fj code y.runs c).2 w):=by
 obtain ⟨⟨A1,n1,c1⟩,⟨A2,n2,c2⟩⟩:=s;obtain rfl:n2=y.runs.length:=RdL.at1 (s:=⟨A2,n2,c2⟩) (Bu.ow_rd (F:=F) (x:=y) hy).2;have cK:y.runs.length<=2000000:=Ai (Cv Dc _) (by unfold Cf at hl;omega);have kQ:=Bq (show ∀ k (hk:k<y.runs.length),y.runs[k].tasks.length<=2000000 from fun k hk=>Fc hl hk);have hb:=h.box.lt;clear hl;have C0:=(Chg.refl [b] w).alloc (.cells #[J Ab y.now,J Ab y.seq,Aa A1 n1 c1,Aa A2 y.runs.length c2] 31);have X:=DBox.new 31 [J Ab y.now,J Ab y.seq,Aa A1 n1 c1,Aa A2 y.runs.length c2] w rfl;have b0:Below w w (w.alloc (.cells #[J Ab y.now,J Ab y.seq,Aa A1 n1 c1,Aa A2 y.runs.length c2] 31)):=Bt;replace h:=h.below b0;replace hy:Bu.ow _ F y (⟨A1,n1,c1⟩,⟨A2,y.runs.length,c2⟩):=owB hy b0;go_enter func230,ntmps230;go_wp2;generalize (w.alloc (.cells #[J Ab y.now,J Ab y.seq,Aa A1 n1 c1,Aa A2 y.runs.length c2] 31))=w0 at *
 clear b0;go_loopw [7,8,9,10] (fun iv u1 u2 u3 wr=>∃ (i:Nat) (c':Cur),i<=y.runs.length/\iv = J Ab i/\Hid (Fj code y.runs c=Fj code (y.runs.drop i) c')/\Drw b v code c' wr/\Hid (Bu.ow wr F y (⟨A1,n1,c1⟩,⟨A2,y.runs.length,c2⟩))/\DBox w [J Ab y.now,J Ab y.seq,Aa A1 n1 c1,Aa A2 y.runs.length c2] wr/\Chg [b] w wr) (fun i _ _ _ _=>y.runs.length - (intOf i).toNat);case atStart=>exact ⟨0,c,Ah _,rfl,rfl,h,hy,X,C0⟩
 case round =>
  clear h hy X C0;obtain ⟨i,c',hi,rfl,hG,h,hy,X,hc⟩:=hrel;have X_:=X.g4;have hwr:=hc.size;by_cases aB:i<y.runs.length
  ·have aC:(i:Int)<(y.runs.length:Int):=Bl;have aQ:(0:Int)<=(i:Int):=Bl;have hD:=Bq (List.drop_eq_getElem_cons aB);have hti:=kQ.out i aB;obtain ⟨gr,orr,sk,rfl,cQ,bR,k0,k1,k2,k3,k4,k5,k6,k7⟩:=RdL.run (show RdL Cn wr wr.heap.size (Aa A2 y.runs.length c2) y.runs from (Bu.ow_rd (F:=F) (x:=y) hy.out).2) aB;have CT:=Bq (Vg y.runs[i] sk 3 wr hti bR);go_wp2_with fail
   refine CT.out.mono ?_;rintro e1 w1 ⟨vt,rfl,ot,b1⟩;clear CT k0 k1 k2 k3 k4 k5 k6 k7 bR;obtain ⟨qL,uH⟩:=Hw.of_ow ot;obtain ⟨A9,c9,rfl,-⟩:=_root_.id (Rd.of_own ot);replace h:=h.below b1;replace hy:Hid (Bu.ow w1 F y (⟨A1,n1,c1⟩,⟨Ad ⟨gr,orr,Ac⟩,y.runs.length,c2⟩)):=Bu.ow_below (F:=F) (x:=y) (s:=(⟨A1,n1,c1⟩,⟨Ad ⟨gr,orr,Ac⟩,y.runs.length,c2⟩)) hy.out b1;clear X_;replace X:=X.below b1;have X_:=X.g4;have fX:=hc.trans (Chg.of_below [b] b1);have bG:=b1.size;have sF:=Bq (show ∀ x∈Dd y.runs[i].tasks 3,x<y.runs[i].tasks.length from Aev);have hLn:(Dd y.runs[i].tasks 3).length<=2000000:=by have:=Jr y.runs[i].tasks 3 y.runs[i].tasks.length;unfold Dd;omega
   have hO:Hid (∀ c,Rh code y.runs[i] c=Rh code y.runs[i] c):=fun _=>rfl;have Z0:=Bq (fun (hz:(Dd y.runs[i].tasks 3).length=0)=>hG.out.trans ((congrArg (fun l=>Fj code l c') hD.out).trans (Adg (code:=code) (r:=y.runs[i]) (rs:=y.runs.drop (i+1)) (c:=c') hz)));have Z1:=Bq (fun (hz:¬ (Dd y.runs[i].tasks 3).length=0) (ho:(Ex code 5 c').1=true)=>hG.out.trans ((congrArg (fun l=>Fj code l c') hD.out).trans (Adh (code:=code) (r:=y.runs[i]) (rs:=y.runs.drop (i+1)) (c:=c') hz ho)));have Z2:=Bq (fun (hz:¬ (Dd y.runs[i].tasks 3).length=0) (ho:(Ex code 5 c').1=false)=>hG.out.trans ((congrArg (fun l=>Fj code l c') hD.out).trans (Adi (code:=code) (r:=y.runs[i]) (rs:=y.runs.drop (i+1)) (c:=c') hz ho)));have dP:∀ x∈Ei (Aa A9 (Dd y.runs[i].tasks 3).length c9) (Dd y.runs[i].tasks 3).length,x≠b:=fun x hx=>by have h1:=uH x hx;have h2:b<w:=hb;omega
   by_cases q0:(Dd y.runs[i].tasks 3).length=0
   ·have S:=Bq (Z0.out q0);have qI:¬ (0:Int)<((Dd y.runs[i].tasks 3).length:Int):=Bl;clear q0 Z0 Z1 Z2 hG;go_wp2;exact ⟨⟨i+1,c',Bl,by go_num,S,h,hy,X,fX⟩,clM⟩
   replace dP:=Bq dP;have aV:=Bq (show ∀ x,x∈[b]->x=b from fun x hx=>by simpa using hx);have qI:(0:Int)<((Dd y.runs[i].tasks 3).length:Int):=Bl;replace Z1:=Bq (Z1.out q0);replace Z2:=Bq (Z2.out q0);have q0h:=Bq q0;clear Z0 hG q0;go_wp2_with fail
   refine (Ru 5 b _ code c' w1 Bp h).mono ?_;rintro e2 w2 ⟨rfl,h2,cc2⟩;replace hy:Hid (Bu.ow w2 F y (⟨A1,n1,c1⟩,⟨Ad ⟨gr,orr,Ac⟩,y.runs.length,c2⟩)):=Bu.ow_chg (F:=F) (x:=y) (s:=(⟨A1,n1,c1⟩,⟨Ad ⟨gr,orr,Ac⟩,y.runs.length,c2⟩)) hy.out cc2 (fun x hx hx2=>by have h1:=aV.out x hx2;subst h1;exact bT hx);replace qL:=qL.chg cc2 (fun x hx hx2=>dP.out x hx (aV.out x hx2));clear X_;replace X:=X.chg cc2 (fun hx=>by have h1:=aV.out _ hx;omega);have X_:=X.g4;replace fX:=fX.trans cc2;cases o5:(Ex code 5 c').1;case true =>
    have S:=Bq (Z1.out o5);clear Z1 Z2;go_wp2;exact ⟨⟨i+1,(Ex code 5 c').2,Bl,by go_num,S,h2,hy,X,fX⟩,clM⟩
   have S:=Bq (Z2.out o5);clear Z1 Z2;generalize (Ex code 5 c').2=cb at *
   go_wp2_with fail
   refine (E8 ((Dd y.runs[i].tasks 3).length:Int) b _ code cb w2 Bl h2).mono ?_;rintro e3 w3 ⟨rfl,h3,cc3⟩;replace hy:Hid (Bu.ow w3 F y (⟨A1,n1,c1⟩,⟨Ad ⟨gr,orr,Ac⟩,y.runs.length,c2⟩)):=Bu.ow_chg (F:=F) (x:=y) (s:=(⟨A1,n1,c1⟩,⟨Ad ⟨gr,orr,Ac⟩,y.runs.length,c2⟩)) hy.out cc3 (fun x hx hx2=>by have h1:=aV.out x hx2;subst h1;exact bT hx);replace qL:=qL.chg cc3 (fun x hx hx2=>dP.out x hx (aV.out x hx2));clear X_;replace X:=X.chg cc3 (fun hx=>by have h1:=aV.out _ hx;omega);have X_:=X.g4;replace fX:=fX.trans cc3;have rH:=Dz code (n:=((Dd y.runs[i].tasks 3).length:Int)) cb Bl;obtain ⟨an,ha⟩:∃ an:Nat,(Bw code ((Dd y.runs[i].tasks 3).length:Int) cb).1=an:=⟨(Bw code ((Dd y.runs[i].tasks 3).length:Int) cb).1.toNat,Bl⟩
   have gF:an<(Dd y.runs[i].tasks 3).length:=Bl;have gH:=sF.out _ (Ax gF);have HO:Hid (Rh code y.runs[i] cb=if (Ex code 8 (Bw code ((Dd y.runs[i].tasks 3).length:Int) cb).2).1=true then ((y.runs[i].id,((Dd y.runs[i].tasks 3)[an]:Int),wrap64 (wrap64 (y.runs[i].tasks[(Dd y.runs[i].tasks 3)[an]].try_ - 1)+wrap64 (2 * (Bw code 2 (Ex code 8 (Bw code ((Dd y.runs[i].tasks 3).length:Int) cb).2).2).1))),(Bw code 2 (Ex code 8 (Bw code ((Dd y.runs[i].tasks 3).length:Int) cb).2).2).2) else ((y.runs[i].id,((Dd y.runs[i].tasks 3)[an]:Int),y.runs[i].tasks[(Dd y.runs[i].tasks 3)[an]].try_),(Ex code 8 (Bw code ((Dd y.runs[i].tasks 3).length:Int) cb).2).2)):=by
    show Rh code y.runs[i] cb=_;unfold Rh;dsimp only;rw [ha,Ap,List.getD_eq_getElem?_getD,List.getElem?_eq_getElem gF,Option.getD_some,Co gH]
   rw [ha];clear ha rH;generalize (Bw code ((Dd y.runs[i].tasks 3).length:Int) cb).2=cd at *
   obtain ⟨bt,obt,rfl,hbt,t0⟩:=qL.rd.nat gF;obtain ⟨_,_,⟨sk1,⟨tka,tkn,tkc⟩⟩,cG,cQ,bR,k0,k1,k2,k3,k4,k5,k6,k7⟩:=RdL.run (show RdL Cn w3 w3.heap.size (Aa (Ad ⟨gr,orr,Ac⟩) y.runs.length c2) y.runs from (Bu.ow_rd (F:=F) (x:=y) (s:=(⟨A1,n1,c1⟩,⟨Ad ⟨gr,orr,Ac⟩,y.runs.length,c2⟩)) hy.out).2) aB;simp only [Option.some.injEq,Addr.mk.injEq,and_true] at cG;obtain ⟨rfl,rfl⟩:=cG;have gV:tkn=y.runs[i].tasks.length:=RdL.at1 (s:=⟨tka,tkn,tkc⟩) bR.2;obtain ⟨gt,ogt,_,rfl,tP,_,d0,d1,d2,d3⟩:=RdL.task (show RdL Eu w3 w3.heap.size (Aa tka tkn tkc) y.runs[i].tasks from bR.2) gH;have halI:(an:Int)<((Dd y.runs[i].tasks 3).length:Int):=Bl;have ha0:(0:Int)<=(an:Int):=Bl;have hxI:((Dd y.runs[i].tasks 3)[an]:Int)<(tkn:Int):=Bl;have qV:(0:Int)<=((Dd y.runs[i].tasks 3)[an]:Int):=Bl;generalize y.runs[i].tasks[(Dd y.runs[i].tasks 3)[an]]=xt at *
   generalize (Dd y.runs[i].tasks 3)[an]=x at *
   replace gV:=Bq gV;clear d0 d1 d3 bR k0 k1 k2 k3 k4 k5 k6;go_wp2_with fail
   refine (Ru 8 b _ code cd w3 Bp h3).mono ?_;rintro e4 w4 ⟨rfl,h4,cc4⟩;clear t0 d2 k7;replace hy:Hid (Bu.ow w4 F y (⟨A1,n1,c1⟩,⟨Ad ⟨gr,orr,Ac⟩,y.runs.length,c2⟩)):=Bu.ow_chg (F:=F) (x:=y) (s:=(⟨A1,n1,c1⟩,⟨Ad ⟨gr,orr,Ac⟩,y.runs.length,c2⟩)) hy.out cc4 (fun x hx hx2=>by have h1:=aV.out x hx2;subst h1;exact bT hx);clear X_;replace X:=X.chg cc4 (fun hx=>by have h1:=aV.out _ hx;omega);have X_:=X.g4;replace fX:=fX.trans cc4;obtain ⟨_,_,⟨sk1,⟨tka,tkn,tkc⟩⟩,cG,cQ,bR,k0,k1,k2,k3,k4,k5,k6,k7⟩:=RdL.run (show RdL Cn w4 w4.heap.size (Aa (Ad ⟨gr,orr,Ac⟩) y.runs.length c2) y.runs from (Bu.ow_rd (F:=F) (x:=y) (s:=(⟨A1,n1,c1⟩,⟨Ad ⟨gr,orr,Ac⟩,y.runs.length,c2⟩)) hy.out).2) aB;simp only [Option.some.injEq,Addr.mk.injEq,and_true] at cG;obtain ⟨rfl,rfl⟩:=cG;clear k1 k2 k3 k4 k5 k6 k7 bR;cases o8:(Ex code 8 cd).1;case false =>
    have Sf:=Bq (S.out.trans (HO.out.trans (if_neg (by rw [o8];simp))));go_wp2;refine Ak (v:=.tuple #[J Ab y.runs[i].id,J Ab (x:Int),J Ab xt.try_]) (by simp [results,results230,go_sem]) rfl ?_;exact ⟨by rw [Sf.out],by rw [Sf.out];exact h4,fX⟩
   have Sf:=Bq (S.out.trans (HO.out.trans (if_pos o8)));clear S HO k0;go_wp2_with fail
   refine (E8 2 b _ code _ w4 Bp h4).mono ?_;rintro e5 w5 ⟨rfl,h5,cc5⟩;replace hy:Hid (Bu.ow w5 F y (⟨A1,n1,c1⟩,⟨Ad ⟨gr,orr,Ac⟩,y.runs.length,c2⟩)):=Bu.ow_chg (F:=F) (x:=y) (s:=(⟨A1,n1,c1⟩,⟨Ad ⟨gr,orr,Ac⟩,y.runs.length,c2⟩)) hy.out cc5 (fun x hx hx2=>by have h1:=aV.out x hx2;subst h1;exact bT hx);clear X_;replace X:=X.chg cc5 (fun hx=>by have h1:=aV.out _ hx;omega);have X_:=X.g4;replace fX:=fX.trans cc5;obtain ⟨_,_,⟨sk1,⟨tka,tkn,tkc⟩⟩,cG,cQ,bR,k0,k1,k2,k3,k4,k5,k6,k7⟩:=RdL.run (show RdL Cn w5 w5.heap.size (Aa (Ad ⟨gr,orr,Ac⟩) y.runs.length c2) y.runs from (Bu.ow_rd (F:=F) (x:=y) (s:=(⟨A1,n1,c1⟩,⟨Ad ⟨gr,orr,Ac⟩,y.runs.length,c2⟩)) hy.out).2) aB;simp only [Option.some.injEq,Addr.mk.injEq,and_true] at cG;obtain ⟨rfl,rfl⟩:=cG;clear k1 k2 k3 k4 k5 k6 k7 bR;go_wp2;refine Ak (v:=.tuple #[J Ab y.runs[i].id,J Ab (x:Int),J Ab (wrap64 (wrap64 (xt.try_ - 1)+wrap64 (2 * (Bw code 2 (Ex code 8 cd).2).1)))]) (by simp [results,results230,go_sem]) rfl ?_;exact ⟨by rw [Sf.out],by rw [Sf.out];exact h5,fX⟩
  ·have aC:¬ (i:Int)<(y.runs.length:Int):=Bl;have S:=Bq (show Fj code y.runs c=Adf code c' by rw [hG.out,List.drop_eq_nil_of_le Bl,Fj]);have b5:=Dz code (n:=5) c' Bp;have b6:=Dz code (n:=6) (Bw code 5 c').2 Bp;have wr1:Ab.wrap (1+(Bw code 5 c').1)=1+(Bw code 5 c').1:=Ar _ Bl;have wr2:Ab.wrap ((Bw code 6 (Bw code 5 c').2).1 - 1)=(Bw code 6 (Bw code 5 c').2).1 - 1:=Ar _ Bl;clear b5 b6;go_wp2_with fail
   refine (E8 5 b _ code c' wr Bp h).mono ?_;rintro e2 w2 ⟨rfl,h2,cc2⟩;go_wp2_with fail
   refine (E8 6 b _ code _ w2 Bp h2).mono ?_;rintro e3 w3 ⟨rfl,h3,cc3⟩;go_wp2_with fail
   refine (E8 4 b _ code _ w3 Bp h3).mono ?_;rintro e4 w4 ⟨rfl,h4,cc4⟩;go_wp2;refine Ak (v:=.tuple #[J Ab (1+(Bw code 5 c').1),J Ab ((Bw code 6 (Bw code 5 c').2).1 - 1),J Ab (Bw code 4 (Bw code 6 (Bw code 5 c').2).2).1]) (by simp [results,results230,go_sem]) rfl ?_;exact ⟨by rw [S.out];rfl,by rw [S.out];exact h4,((hc.trans cc2).trans cc3).trans cc4⟩
section
open Classical in
noncomputable def Gh (z:Yard) (k t:Nat):Yard:=if (By (Gg z k) t).state=3 then E0 z k (Dm (Gg z k) t) else z
noncomputable def Ej (y:Yard) (l:List (Nat×Nat)):Yard:=l.foldl (fun z p=>Gh z p.1 p.2) y
theorem Kd {z:Yard} {k t:Nat} (h:¬ (By (Gg z k) t).state=3):Gh z k t=z:=if_neg h
theorem Jm {z:Yard} {k t:Nat} (h:(By (Gg z k) t).state=3):Gh z k t=E0 z k (Dm (Gg z k) t):=if_pos h
theorem Trn.fail {y z:Yard} {m:Nat} (h:Trn y m z) {k t:Nat} (hk:k<z.runs.length) (ht:t<z.runs[k].tasks.length):Trn y (m+1) (Gh z k t):=by
 by_cases q:(By (Gg z k) t).state=3
 ·rw [Jm q,Ee hk];rw [Ee hk] at q;exact h.step hk ⟨(h.run k hk (by rw [<-h.len];exact hk)).1,⟨Bl,Bl⟩,q⟩
 ·rw [Kd q];exact h.mono Bl
open Classical in
noncomputable def J1 (y:Yard):Int:=if ¬ Dn y then 8 else if 999999980<y.now+1 then 7 else 0
noncomputable def Adk (y:Yard):Yard:=Ej y (E7 y y.runs.length)
noncomputable def Iw (y:Yard):Yard:=if J1 y=0 then ⟨(Adk y).now+1,(Adk y).seq,(Adk y).shelf,(Adk y).runs⟩ else y
theorem Qc {y:Yard} {n:Nat} {p:Nat×Nat} (h:p∈E7 y n):p.1<n/\p.2<(Gg y p.1).tasks.length:=by
 unfold E7 at h;obtain ⟨j,hj,hp⟩:=List.mem_flatMap.1 h;unfold Jl at hp;obtain ⟨t,ht,rfl⟩:=List.mem_map.1 hp;exact ⟨List.mem_range.1 hj,List.mem_range.1 (List.mem_filter.1 ht).1⟩
theorem Of {w:World} {F:List Nat} {b o n c:Nat} {rows:List (List Int)} (h:OwL (Dt.flats Ii) w F (Aa (Ad ⟨b,o,Ac⟩) n c) rows) {i:Nat} (hi:i<rows.length) {x y z:Int} (hr:rows[i]=[x,y,z]) :
  ∃ g p cc,b∈F/\g∈F/\w.cell? ⟨b,o+i,Ac⟩=Ad (Aa (Ad ⟨g,p,Ac⟩) 3 cc)/\w.cell? ⟨g,p,Ac⟩=Ad (J Ab x)/\w.cell? ⟨g,p+1,Ac⟩=Ad (J Ab y)/\w.cell? ⟨g,p+2,Ac⟩=Ad (J Ab z):=by
 obtain ⟨s,Fx,hx,bF,_,hb,_,hc⟩:=h.elem hi;rw [hr] at hx;have eE:Hw Ii w Fx (Aa s.a s.n s.c) [x,y,z]:=hx;obtain ⟨g,p,tH,pQ,_,_⟩:=eE.at_ Bn;obtain ⟨A',c',hv,_,hA⟩:=eE.rd;simp only [Value.slice.injEq] at hv;obtain ⟨h1,h2,h3⟩:=hv;obtain ⟨g',p',bW,_,bV⟩:=hA Bn;rw [<-h1,tH] at bW;simp only [Option.some.injEq,Addr.mk.injEq,and_true] at bW;obtain ⟨rfl,rfl⟩:=bW;refine ⟨g,p,s.c,hb,bF _ (by rw [pQ];simp),?_,?_,?_,?_⟩
 ·have:=hc 0 (Aa s.a s.n s.c) rfl
  rw [show o+i * (Dt.flats Ii).enc.sz+0=o+i from by show o+i * 1+0=o+i;omega,tH,h2] at this;exact this
 ·exact bV 0 Bn 0 _ rfl
 ·exact bV 1 Bn 0 _ rfl
 ·exact bV 2 Bn 0 _ rfl
theorem Xo {b:Nat} {w:World} {u0 u1 u2 u3:Value} (X:DBox b [u0,u1,u2,u3] w) {v0 v1 v3:Value} {rest:List Value} :
  (results Tryz.f168 (v0 :: v1 :: .pointer (Ad ⟨b,0,Ac⟩) :: v3 :: rest).toArray).run An w = .ok (.tuple #[.agg #[u0,u1,u2,u3],v3]) w:=by
 have c0:=X.cell 0 _ rfl;have c1:=X.cell 1 _ rfl;have c2:=X.cell 2 _ rfl;have c3:=X.cell 3 _ rfl;simp [results,results168,go_sem,c0,c1,c2,c3]
theorem Abh (y:Yard) (s:Sl×Sl) (w:World) (hl:Cf y<=2000000) (h:Bu.rd w w y s) :
  Calls An 168 #[Dh y s] w (I7 (Iw y) (J1 y) w):=by
 have HR:=Bq (show ∀ W,Below w w W->Bu.rd W W y s from fun W hW=>Bu.rd_more (Bu.rd_below h hW) hW.size);obtain ⟨⟨A1,n1,c1⟩,⟨A2,n2,c2⟩⟩:=s;have CC:=Bq (fun W hW=>Fh y (⟨A1,n1,c1⟩,⟨A2,n2,c2⟩) W hl (HR.out W hW));have CY:=Bq (fun W hW=>G9 y (⟨A1,n1,c1⟩,⟨A2,n2,c2⟩) W hl (HR.out W hW));clear h;obtain ⟨W,aG,X,RES,B0⟩:=bx2 w 31 [J Ab y.now,J Ab y.seq,Aa A1 n1 c1,Aa A2 n2 c2] 31 [J Ab 0,J Ab 0,Aa Ac 0 0,Aa Ac 0 0];go_enter func168,ntmps168;go_wp2_with fail
 rw [<-aG.out];clear aG;have dL:w.heap.size+1<W.heap.size:=RES.lt;refine (CC.out _ B0).mono ?_;rintro e1 w1 ⟨⟨⟨B1,m1,e1⟩,⟨B2,m2,e2⟩⟩,F,rfl,oy,nF,b1⟩;have bG:=b1.size;have cI:=Bu.ow_lt (F:=F) (x:=y) (s:=(⟨B1,m1,e1⟩,⟨B2,m2,e2⟩)) oy;replace X:=X.below b1;replace RES:=RES.below b1;replace B0:=Bv B0 b1;clear b1;go_upto_region 2 with fail
 have OB:=DBox.new 31 [J Ab y.now,J Ab y.seq,Aa B1 m1 e1,Aa B2 m2 e2] w1 (b:=w1) rfl;have b2:Below w1 w1 (w1.alloc (.cells #[J Ab y.now,J Ab y.seq,Aa B1 m1 e1,Aa B2 m2 e2] 31)):=Bt;replace X:=X.below b2;replace RES:=RES.below b2;replace oy:=Bu.ow_below (F:=F) (x:=y) (s:=(⟨B1,m1,e1⟩,⟨B2,m2,e2⟩)) oy b2;replace B0:=Bv B0 b2;have ow1:=OB.lt;clear b2;generalize w1.alloc (.cells #[J Ab y.now,J Ab y.seq,Aa B1 m1 e1,Aa B2 m2 e2] 31)=w2 at *
 generalize cR:w1.heap.size=ob at *
 have X_:=X.g4;obtain ⟨OB_0,OB_1,OB_2,OB_3,OB_l⟩:=OB.g4;go_wp2_with fail
 refine (CY.out _ B0).mono ?_;rintro e1 w3 ⟨rfl,b3⟩;clear X_;clear OB_0 OB_1 OB_2 OB_3 OB_l;replace X:=X.below b3;replace OB:=OB.below b3;replace RES:=RES.below b3;replace oy:Bu.ow w3 F y (⟨B1,m1,e1⟩,⟨B2,m2,e2⟩):=owB oy b3;replace B0:=Bv B0 b3;clear b3;have X_:=X.g4;obtain ⟨OB_0,OB_1,OB_2,OB_3,OB_l⟩:=OB.g4;by_cases p0:Dn y;case neg =>
  rw [Cm p0];have H:=Bq (show J1 y=8 by unfold J1;rw [if_pos p0]);have H2:=Bq (show Iw y=y by unfold Iw;rw [H.out,if_neg Bp]);have RES_:=RES.g4;have rf:=RES.free;go_wp2;have en1:w.heap.size+1∉F:=fun hx=>by have:=nF _ hx;omega
  refine Ak (Xo (DBox.row4 RES rfl _ _ _ _)) rfl ⟨(⟨B1,m1,e1⟩,⟨B2,m2,e2⟩),F,by rw [H.out,H2.out],by rw [H2.out];exact (by (repeat (refine Dt.ow_set Bu ?_ en1 _));exact (show Bu.ow _ F y (⟨B1,m1,e1⟩,⟨B2,m2,e2⟩) from oy)),fun x hx=>by have:=nF x hx;omega,?_⟩;repeat (first | (with_reducible exact B0) | refine Ae ?_ Bo _)
 rw [Ds p0];have P0:=Bq p0;have gI:=p0.1;clear p0;have wr1:Ab.wrap (y.now+1)=y.now+1:=Ar _ Bl;by_cases p1:999999980<y.now+1;case pos =>
  have H:=Bq (show J1 y=7 by unfold J1;rw [if_neg (fun h=>h P0.out),if_pos p1]);have H2:=Bq (show Iw y=y by unfold Iw;rw [H.out,if_neg Bp]);have RES_:=RES.g4;have rf:=RES.free;go_wp2;have en1:w.heap.size+1∉F:=fun hx=>by have:=nF _ hx;omega
  refine Ak (Xo (DBox.row4 RES rfl _ _ _ _)) rfl ⟨(⟨B1,m1,e1⟩,⟨B2,m2,e2⟩),F,by rw [H.out,H2.out],by rw [H2.out];exact (by (repeat (refine Dt.ow_set Bu ?_ en1 _));exact (show Bu.ow _ F y (⟨B1,m1,e1⟩,⟨B2,m2,e2⟩) from oy)),fun x hx=>by have:=nF x hx;omega,?_⟩;repeat (first | (with_reducible exact B0) | refine Ae ?_ Bo _)
 have H:=Bq (show J1 y=0 by unfold J1;rw [if_neg (fun h=>h P0.out),if_neg p1]);have H2:=Bq (show Iw y=⟨(Ej y (E7 y y.runs.length)).now+1,(Ej y (E7 y y.runs.length)).seq,(Ej y (E7 y y.runs.length)).shelf,(Ej y (E7 y y.runs.length)).runs⟩ by unfold Iw;rw [if_pos H.out];rfl);have CL:=Bq (fun W hW=>Abg y (⟨A1,n1,c1⟩,⟨A2,n2,c2⟩) W hl P0.out (HR.out W hW));clear HR CC CY;go_wp2_with fail
 refine (CL.out _ B0).mono ?_;rintro e1 w4 ⟨⟨A9,n9,c9⟩,Fl,he,ol,nl,b4⟩;replace he:e1 = .returned (Aa A9 n9 c9):=he;subst he;clear X_;clear OB_0 OB_1 OB_2 OB_3 OB_l;clear X CL;have hB3:=B0.size;have jP:ob<w3:=OB.lt;have kR:=ol.lt;replace OB:=OB.below b4;replace RES:=RES.below b4;replace oy:Bu.ow w4 F y (⟨B1,m1,e1⟩,⟨B2,m2,e2⟩):=owB oy b4;replace B0:=Bv B0 b4;have fY:Hid ((∀ x∈F,w+1<x)/\ob∉F /\ ∀ x∈Fl,x∉F):=⟨fun x hx=>by have:=nF x hx;omega,fun hx=>by have:=cI _ hx;omega,fun x hx bF=>by have h1:w3<=x:=nl x hx;have h2:=cI x bF;omega⟩
 have hFln:∀ x∈Fl,w3<=x:=nl;have hmemL:=Bq (fun p (hp:p∈E7 y y.runs.length)=>Qc hp);have fD:w.heap.size+1<w3.heap.size:=Bl;have hw34:w3.heap.size<=w4.heap.size:=b4.size;clear nF nl b4;have hLs:=Bq (show (E7 y y.runs.length).length<=96 by have h1:=La (Nt P0.out) y.runs.length;have h2:=P0.out.2.2.2.2.2.2.1;omega);generalize E7 y y.runs.length=L at *
 obtain rfl:n9=L.length:=by have:=RdL.at1 (s:=⟨A9,n9,c9⟩) ol.rd;rw [Au] at this;exact this
 go_wp2;go_loopw [6,7] (fun iv u wr=>∃ (i:Nat) (Z:Yard) (s:Sl×Sl) (F:List Nat),i<=L.length/\iv = J Ab i/\Hid (Trn y i Z)/\Hid (Ej y (L.take i)=Z)/\Hid (Bu.ow wr F Z s)/\Hid ((∀ x∈F,w+1<x)/\ob∉F /\ ∀ x∈Fl,x∉F)/\Hid (OwL (Dt.flats Ii) wr Fl (Aa A9 L.length c9) (L.map (Jb y)))/\DBox ob (Ev Z s) wr/\DBox (w+1) [J Ab 0,J Ab 0,Aa Ac 0 0,Aa Ac 0 0] wr/\Below w w wr/\w4.heap.size<=wr.heap.size) (fun i _ _=>L.length - (intOf i).toNat);case atStart=>exact ⟨0,y,(⟨B1,m1,e1⟩,⟨B2,m2,e2⟩),F,Ah _,rfl,Trn.start P0.out,rfl,oy,fY,ol,OB,RES,B0,Bs _⟩
 case round =>
  clear oy fY ol OB RES B0 cI kR;obtain ⟨i,Z,s,F,hi,rfl,hT,hZ,oy,hF,ol,OB,RES,hb,mC⟩:=hrel;obtain ⟨⟨B1,m1,e1⟩,⟨B2,m2,e2⟩⟩:=s;replace oy:Bu.ow wr F Z (⟨B1,m1,e1⟩,⟨B2,m2,e2⟩):=oy.out;have bM:∀ x∈F,x<wr:=Bu.ow_lt (F:=F) (x:=Z) (s:=(⟨B1,m1,e1⟩,⟨B2,m2,e2⟩)) oy;have eJ:=hLs.out;obtain ⟨OB_0,OB_1,OB_2,OB_3,OB_l⟩:=OB.g4;by_cases aB:i<L.length
  ·have aC:(i:Int)<(L.length:Int):=Bl;have aQ:(0:Int)<=(i:Int):=Bl;have hp:=hmemL.out _ (Ax aB);have aF:Hid (Ej y (L.take (i+1))=Gh Z L[i].1 L[i].2):=by
    show Ej y (L.take (i+1))=_;unfold Ej;rw [K5 (fun z p=>Gh z p.1 p.2) y L i aB,<-hZ.out];rfl
   have cC:(L.map (Jb y))[i]'(by rw [Au];exact aB)=[(Gg y L[i].1).id,(L[i].2:Int),(By (Gg y L[i].1) L[i].2).try_]:=by
    rw [List.getElem_map];rfl
   generalize L[i]=p at *
   obtain ⟨k,t⟩:=p;dsimp only at hp aF cC;have mN:k<y.runs.length:=hp.1;have dV:k<Z.runs.length:=by rw [hT.out.len];exact mN
   rw [Ee mN] at hp cC;have fT:=hT.out.run k dV mN;have jM:t<Z.runs[k].tasks.length:=by rw [fT.2.2];exact hp.2
   have eB:=Bq (show Db Z y.runs[k].id=k from (hT.out.runAt _).trans (P0.out.2.2.2.2.2.2.2.1 k mN).2);have qE:=hT.out.cnt Bl;have hN:=hT.out.fail dV jM;replace cC:=Bq cC;have hbln:∀ z∈Fl,z∉F:=hF.out.2.2;obtain ⟨bl,lo,rfl⟩:∃ b o,A9=Ad ⟨b,o,Ac⟩:=by
    obtain ⟨b,o,_,hA,_⟩:=RdL.at_ ol.out.rd i (by rw [Au];exact aB);exact ⟨b,o,hA⟩
   obtain ⟨gl,pl,cl,gP,fR,l0,l1,l2,-⟩:=Of ol.out (i:=i) (by rw [Au];exact aB) cC.out;have kT:=ol.out.lt _ gP;have cD:=ol.out.lt _ fR;have oyr:=(Bu.ow_rd (F:=F) (x:=Z) (s:=(⟨B1,m1,e1⟩,⟨B2,m2,e2⟩)) oy)
   have CA:=Bq (fun W (hW:Below wr wr W)=>Fo Z (⟨B1,m1,e1⟩,⟨B2,m2,e2⟩) y.runs[k].id W qE (Bu.rd_more (Bu.rd_below (x:=Z) (s:=(⟨B1,m1,e1⟩,⟨B2,m2,e2⟩)) oyr hW) hW.size));clear oyr;have aN:=Df wr;go_wp2;refine Bz Bm Bm ?_;repeat (go_big_quiet_step ((go_at_call 153;rename_i x;have h1:=CA.out x.1 x.2;rw [eB.out] at h1;exact Fk h1)))
   refine Al ?_;rintro w5 ⟨⟨_,b5⟩,rfl⟩;clear aN CA l0 l1 l2 kT cD;clear OB_0 OB_1 OB_2 OB_3 OB_l;replace OB:=OB.below b5;replace RES:=RES.below b5;replace oy:Bu.ow w5 F Z (⟨B1,m1,e1⟩,⟨B2,m2,e2⟩):=owB oy b5;replace ol:=Bq (ol.out.below b5);replace hb:=Bv hb b5;replace mC:=Ai mC b5.size;replace bM:∀ x∈F,x<w5:=Bu.ow_lt (F:=F) (x:=Z) (s:=(⟨B1,m1,e1⟩,⟨B2,m2,e2⟩)) oy;obtain ⟨gl,pl,cl,gP,fR,l0,l1,l2,-⟩:=Of ol.out (i:=i) (by rw [Au];exact aB) cC.out;have kT:=ol.out.lt _ gP;have cD:=ol.out.lt _ fR;obtain ⟨OB_0,OB_1,OB_2,OB_3,OB_l⟩:=OB.g4;have oyr:=(Bu.ow_rd (F:=F) (x:=Z) (s:=(⟨B1,m1,e1⟩,⟨B2,m2,e2⟩)) oy).2;have dW:=Bq (show m2=Z.runs.length from RdL.at1 (s:=⟨B2,m2,e2⟩) oyr);have gJ:(k:Int)<(m2:Int):=by have:=dW.out;omega
   have dF:(0:Int)<=(k:Int):=Bl;obtain ⟨gr,orr,⟨sk1,⟨tka,tkn,tkc⟩⟩,rfl,cQ,bR,c0,c1,c2,c3,c4,c5,c6,c7⟩:=RdL.run (show RdL Cn w5 w5.heap.size (Aa B2 m2 e2) Z.runs from oyr) dV;have gV:tkn=Z.runs[k].tasks.length:=RdL.at1 (s:=⟨tka,tkn,tkc⟩) bR.2;have jX:(t:Int)<(tkn:Int):=Bl;have gK:(0:Int)<=(t:Int):=Bl;obtain ⟨gt,ot,_,rfl,tP,_,d0,d1,d2,d3⟩:=RdL.task (show RdL Eu w5 w5.heap.size (Aa tka tkn tkc) Z.runs[k].tasks from bR.2) jM;have bK:=Bq fT.1;replace gV:=Bq gV;have aN:=Df w5;clear fT oyr d1 d2 d3;have hJ:=Bq (show By (Gg Z k) t=Z.runs[k].tasks[t] by rw [Ee dV,Co jM]);have hJ2:=Bq (Ee dV);generalize mP:Z.runs[k]=r at *
   by_cases q:r.tasks[t].state=3;case neg =>
    have q1:(r.tasks[t].state == 3)=false:=by simp [q]
    have aM:=Bq (show Gh Z k t=Z from Kd (by rw [hJ.out];exact q));clear q;go_wp2;refine Bz Bm Bm ?_;repeat (go_big_quiet_step (fail))
    refine Al ?_;rintro w6 ⟨⟨_,b6⟩,rfl⟩;clear aN;go_wp2;exact ⟨⟨i+1,Z,(⟨B1,m1,e1⟩,⟨Ad ⟨gr,orr,Ac⟩,m2,e2⟩),F,Bl,by go_num,hT.out.mono Bl,aF.out.trans aM.out,Bu.ow_below (F:=F) (x:=Z) (s:=(⟨B1,m1,e1⟩,⟨Ad ⟨gr,orr,Ac⟩,m2,e2⟩)) oy b6,hF,ol.out.below b6,OB.below b6,RES.below b6,Bv hb b6,Ai mC b6.size⟩,clM⟩
   have q1:(r.tasks[t].state == 3)=true:=by simp [q]
   have aL:Hid (Iu r t):=⟨bK.out,⟨Bl,Bl⟩,by rw [Ap,Co jM];exact q⟩
   have aM:=Bq (show Gh Z k t=E0 Z k (Dm r t) by rw [Jm (by rw [hJ.out];exact q),hJ2.out]);replace hN:Hid (Trn y (i+1) (Gh Z k t)):=hN;clear q;go_wp2;refine Bz Bm Bm ?_;repeat (go_big_quiet_step (fail))
   refine Al ?_;rintro w6 ⟨⟨_,b6⟩,rfl⟩;clear aN l0 l1 l2 kT cD c0 c1 c2 c3 c4 c5 c6 c7 d0 tP;clear OB_0 OB_1 OB_2 OB_3 OB_l;replace OB:=OB.below b6;replace RES:=RES.below b6;replace oy:Bu.ow w6 F Z (⟨B1,m1,e1⟩,⟨Ad ⟨gr,orr,Ac⟩,m2,e2⟩):=owB oy b6;replace ol:=Bq (ol.out.below b6);replace hb:=Bv hb b6;replace mC:=Ai mC b6.size;replace bM:∀ x∈F,x<w6:=Bu.ow_lt (F:=F) (x:=Z) (s:=(⟨B1,m1,e1⟩,⟨Ad ⟨gr,orr,Ac⟩,m2,e2⟩)) oy;obtain ⟨gl,pl,cl,gP,fR,l0,l1,l2,-⟩:=Of ol.out (i:=i) (by rw [Au];exact aB) cC.out;have kT:=ol.out.lt _ gP;have cD:=ol.out.lt _ fR;obtain ⟨OB_0,OB_1,OB_2,OB_3,OB_l⟩:=OB.g4;obtain ⟨_,_,sk,cG,hgrw6,bR,c0,c1,c2,c3,c4,c5,c6,c7⟩:=RdL.run (show RdL Cn w6 w6.heap.size (Aa (Ad ⟨gr,orr,Ac⟩) m2 e2) Z.runs from (Bu.ow_rd (F:=F) (x:=Z) (s:=(⟨B1,m1,e1⟩,⟨Ad ⟨gr,orr,Ac⟩,m2,e2⟩)) oy).2) dV;simp only [Option.some.injEq,Addr.mk.injEq,and_true] at cG;obtain ⟨rfl,rfl⟩:=cG;rw [mP] at bR c0 c1 c2 c3 c4 c6;have CF:=Bq (M6 r sk t w6.drew (by have:=K7 bK.out;omega) aL.out (Cn.rd_below bR (Br _ _).drew));have gD:=OB.lt;clear bR;go_wp2;refine Dl (fun w'=>w'.cell? ⟨ob,0,Ac⟩=Ad (J Ab Z.now)/\w'.cell? ⟨ob,1,Ac⟩=Ad (J Ab Z.seq)/\w'.cell? ⟨ob,2,Ac⟩=Ad (Aa B1 m1 e1)/\w'.cell? ⟨ob,3,Ac⟩=Ad (Aa (Ad ⟨gr,orr,Ac⟩) m2 e2)/\w'.cell? ⟨bl,lo+i,Ac⟩=Ad (Aa (Ad ⟨gl,pl,Ac⟩) 3 cl)/\w'.cell? ⟨gl,pl,Ac⟩=Ad (J Ab y.runs[k].id)/\w'.cell? ⟨gl,pl+1,Ac⟩=Ad (J Ab (t:Int))) 15 Bm ?_ (fun aA=>?_)
   ·exact ⟨OB_0,OB_1,OB_2,OB_3,l0,l1,l2⟩
   refine aT 0 aA ?_;try simp only [pS]
   refine aT 1 aA ?_;try simp only [pS]
   refine aT 2 aA ?_;try simp only [pS]
   refine aT 3 aA ?_;try simp only [pS]
   refine aT 4 aA ?_;try simp only [pS]
   refine aT 5 aA ?_;try simp only [pS]
   refine aT 7 aA ?_;try simp only [pS]
   refine aT 8 aA ?_;try simp only [pS]
   refine aT 9 aA ?_;try simp only [pS]
   refine aT 10 aA ?_;try simp only [pS]
   refine aT 11 aA ?_;try simp only [pS]
   refine aT 12 aA ?_;try simp only [pS]
   refine oT 6 (fun K hK=>?_);go_simp;refine hK.out _ _ (fun _=>?_) ?_
   ·exact ⟨OB_0,OB_1,OB_2,OB_3,l0,l1,l2⟩
   clear hK K;try simp only [pS]
   refine oT 13 (fun K hK=>?_)
   (go_simp;refine CF.out.mono ?_;rintro e5 wa ⟨sr,Fr,rfl,orn,nFr,ba⟩;have nA:∀ x∈Fr,w6<=x:=nFr;have oya:Bu.ow wa F Z (⟨B1,m1,e1⟩,⟨Ad ⟨gr,orr,Ac⟩,m2,e2⟩):=owB oy (Bv (Br _ _).drew ba);have CT:=Bq (L7 Z (⟨B1,m1,e1⟩,⟨Ad ⟨gr,orr,Ac⟩,m2,e2⟩) k (Dm r t) sr wa F Fr hT.out.four (fun s hs=>by have:=hT.out.all s hs;omega) (by have:=hT.out.seq;omega) dV (by rw [Hd];have:=D4 bK.out;omega) (by rw [mP];have:=D4 bK.out;omega) oya orn (fun x hx bF=>by have h1:=nA x hx;have h2:=bM x bF;omega)))
   refine hK.out _ _ (fun _=>?_) ?_
   ·exact ⟨(ba.cell (p:=⟨_,_,Ac⟩) (by show ob<w6;omega)).trans OB_0,(ba.cell (p:=⟨_,_,Ac⟩) (by show ob<w6;omega)).trans OB_1,(ba.cell (p:=⟨_,_,Ac⟩) (by show ob<w6;omega)).trans OB_2,(ba.cell (p:=⟨_,_,Ac⟩) (by show ob<w6;omega)).trans OB_3,(ba.cell (p:=⟨_,_,Ac⟩) (by show bl<w6;omega)).trans l0,(ba.cell (p:=⟨_,_,Ac⟩) (by show gl<w6;omega)).trans l1,(ba.cell (p:=⟨_,_,Ac⟩) (by show gl<w6;omega)).trans l2⟩
   clear hK K;try simp only [pS]
   refine oT 14 (fun K hK=>?_)
   (go_simp;refine CT.out.mono ?_;rintro e6 wb ⟨s6,F6,rfl,oy6,n6,cb⟩;have OB6:=(OB.below (Bv (Br _ _).drew ba)).chg cb hF.out.2.1;have q0:=OB6.cell 0 _ rfl;have q1:=OB6.cell 1 _ rfl;have q2:=OB6.cell 2 _ rfl;have q3:=OB6.cell 3 _ rfl;have qf:=OB6.free;have ql:=OB6.lt;have u0:=(cb.cell (p:=⟨bl,_,Ac⟩) (by show bl<wa;have:=ba.size;have:w6.drew.heap.size=w6.heap.size:=rfl;omega) (hF.out.2.2 _ gP)).trans ((ba.cell (p:=⟨bl,_,Ac⟩) (by show bl<w6;omega)).trans l0);have u1:=(cb.cell (p:=⟨gl,_,Ac⟩) (by show gl<wa;have:=ba.size;have:w6.drew.heap.size=w6.heap.size:=rfl;omega) (hF.out.2.2 _ fR)).trans ((ba.cell (p:=⟨gl,_,Ac⟩) (by show gl<w6;omega)).trans l1);have u2:=(cb.cell (p:=⟨gl,_,Ac⟩) (by show gl<wa;have:=ba.size;have:w6.drew.heap.size=w6.heap.size:=rfl;omega) (hF.out.2.2 _ fR)).trans ((ba.cell (p:=⟨gl,_,Ac⟩) (by show gl<w6;omega)).trans l2);generalize E0 Z k (Dm r t)=Z1 at *)
   refine hK.out _ _ (fun _=>?_) ?_
   ·exact ⟨q0,q1,q2,q3,u0,u1,u2⟩
   clear hK K;try simp only [pS]
   refine oT 15 (fun K hK=>?_);go_simp;refine hK.out _ _ (fun aE=>absurd rfl aE) ?_;clear hK K;try simp only [pS]
   refine Eb Bm ?_ _;have ba':Below w6 w6 wa:=Bv (Br _ _).drew ba;have hbas:=ba'.size;have hcbs:=cb.size;have gG:=OB.lt;have hRl7:=RES.lt;have bX:=Chg.cells4 wb ob 0 1 2 3 (J Ab Z1.now) (J Ab Z1.seq) (Aa s6.1.a s6.1.n s6.1.c) (Aa s6.2.a s6.2.n s6.2.c);have dQ:=Bq (show ∀ x,x∈[ob]->x=ob from fun x hx=>by simpa using hx);have OB7:=DBox.row4 OB6 rfl (J Ab Z1.now) (J Ab Z1.seq) (Aa s6.1.a s6.1.n s6.1.c) (Aa s6.2.a s6.2.n s6.2.c);have RES7:=((RES.below ba').chg cb (fun hx=>by have:=hF.out.1 _ hx;omega)).chg bX (fun hx=>by have:=dQ.out _ hx;omega);have sL:=ol.out.lt;have ol7:=((ol.out.below ba').chg cb (fun x hx=>hF.out.2.2 x hx)).chg bX (fun x hx h2=>by have h3:=dQ.out x h2;have h4:=hFln x hx;omega);have qM:=((Bv hb ba').trans (cb.below (by have:=(Bv hb ba').size;omega) (fun x hx=>by have:=hF.out.1 x hx;omega))).trans (bX.below (by have:=hb.size;omega) (fun x hx=>by have:=dQ.out x hx;omega));have mH:∀ x∈F6,x∈F\/w6<=x:=fun x hx=>by
    rcases n6 x hx with h | h | h
    ·exact .inl h
    ·exact .inr (nA x h)
    ·exact .inr Bl
   have nX:ob∉F6:=fun hx=>by
    rcases mH _ hx with h | h
    ·exact hF.out.2.1 h
    ·omega
   have oy7:=Bu.ow_chg (F:=F6) (x:=Z1) (s:=s6) oy6 bX (fun x hx h=>by have:=dQ.out x h;subst this;exact nX hx);have kW:Hid ((∀ x∈F6,w+1<x)/\ob∉F6 /\ ∀ x∈Fl,x∉F6):=⟨fun x hx=>by
    rcases mH x hx with h | h
    ·exact hF.out.1 x h
    ·have:=hRl7;omega,nX,fun x hx hx6=>by
    rcases mH x hx6 with h | h
    ·exact hF.out.2.2 x hx h
    ·have:=sL x hx;omega⟩
   have hw7:=Ai mC (Ai (Ai hbas hcbs) bX.size);clear aA q0 q1 q2 q3 qf ql OB6 oy6 CT CF oya orn nFr n6 ba cb;clear OB_0 OB_1 OB_2 OB_3 OB_l;clear OB;generalize (((wb.setCell ⟨ob,0,Ac⟩ (J Ab Z1.now)).setCell ⟨ob,1,Ac⟩ (J Ab Z1.seq)).setCell ⟨ob,2,Ac⟩ (Aa s6.1.a s6.1.n s6.1.c)).setCell ⟨ob,3,Ac⟩ (Aa s6.2.a s6.2.n s6.2.c)=w7 at *
   go_wp2;exact ⟨⟨i+1,Z1,s6,F6,Bl,by go_num,by rw [<-aM.out];exact hN.out,aF.out.trans aM.out,oy7,kW,ol7,OB7,RES7,qM,hw7⟩,clM⟩
  ·have aC:¬ (i:Int)<(L.length:Int):=Bl;have hzn:=Bq hT.out.now;have hZ1:=Bq (show Ej y L=Z by have:=hZ.out;rw [Bg Bl] at this;exact this);have wr2:Ab.wrap (Z.now+1)=Z.now+1:=Ar _ (by have:=hzn.out;omega);have H3:=Bq (show Iw y=⟨Z.now+1,Z.seq,Z.shelf,Z.runs⟩ by rw [H2.out,hZ1.out]);have obf:=OB.free;go_upto_region 14 with fail
   clear OB_0 OB_1 OB_2 OB_3 OB_l;clear obf;have hRl3:=RES.lt;replace OB:DBox ob [J Ab (Z.now+1),J Ab Z.seq,Aa B1 m1 e1,Aa B2 m2 e2] (wr.setCell ⟨ob,0,Ac⟩ (J Ab (Z.now+1))):=OB.set 0 Bn _;replace RES:=RES.setOther (a:=⟨ob,0,Ac⟩) (by show w.heap.size+1≠ob;omega) (J Ab (Z.now+1));have nU:=hF.out.2.1;have oy8:Bu.ow (wr.setCell ⟨ob,0,Ac⟩ (J Ab (Z.now+1))) F ⟨Z.now+1,Z.seq,Z.shelf,Z.runs⟩ (⟨B1,m1,e1⟩,⟨B2,m2,e2⟩):=Bu.ow_set (F:=F) (x:=Z) (s:=(⟨B1,m1,e1⟩,⟨B2,m2,e2⟩)) oy (a:=⟨ob,0,Ac⟩) nU _;have hb8:Below w w (wr.setCell ⟨ob,0,Ac⟩ (J Ab (Z.now+1))):=Ae hb (by show w.heap.size<=ob;omega) _;generalize wr.setCell ⟨ob,0,Ac⟩ (J Ab (Z.now+1))=w8 at *
   obtain ⟨OB_0,OB_1,OB_2,OB_3,OB_l⟩:=OB.g4;have RES_:=RES.g4;have rf:=RES.free;go_wp2;have en1:w.heap.size+1∉F:=fun hx=>by have:=hF.out.1 _ hx;omega
   refine Ak (Xo (DBox.row4 RES rfl _ _ _ _)) rfl ⟨(⟨B1,m1,e1⟩,⟨B2,m2,e2⟩),F,by rw [H.out,H3.out],by rw [H3.out];exact (by (repeat (refine Dt.ow_set Bu ?_ en1 _));exact (show Bu.ow _ F ⟨Z.now+1,Z.seq,Z.shelf,Z.runs⟩ (⟨B1,m1,e1⟩,⟨B2,m2,e2⟩) from oy8)),fun x hx=>by have:=hF.out.1 x hx;omega,?_⟩;repeat (first | (with_reducible exact hb8) | refine Ae ?_ Bo _)
end
end Go.Proofs.YtecnbnbopcblgaaGreat
