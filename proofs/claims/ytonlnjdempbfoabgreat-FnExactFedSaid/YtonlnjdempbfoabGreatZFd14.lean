/-
  Forget of the reference. Written by program (kzc.py). LateOf of the reference. Written by program (kz.py). Cancel of the reference. Written by program (ky.py). 
-/
import Derived.Test.YtonlnjdempbfoabGreatZFd0
import Derived.Test.YtonlnjdempbfoabGreatZFd7
import Derived.Test.YtonlnjdempbfoabGreatZFd9
import Derived.Test.YtonlnjdempbfoabGreatZFd10
import Derived.Test.YtonlnjdempbfoabGreatZFd11
import Derived.Test.YtonlnjdempbfoabGreatZFd12
import Derived.Test.YtonlnjdempbfoabGreatZFd13
namespace Go.Proofs.YtonlnjdempbfoabGreat
open Go.RowKit
set_option maxRecDepth 100000
set_option maxHeartbeats 4000000
set_option linter.unusedVariables false
set_option linter.unusedSimpArgs false
open Value renaming int->J,slice->Aa
open IntKind renaming i64->U
open Option renaming none->Ab,some->Ac
open Below renaming setCell->Ad
open Nat renaming zero_le->Ag
open Go renaming bodyPost_ret->Aj
open Go.Proofs.Tryz renaming prog->Am
open Int renaming toNat_natCast->Ao
open IntWalk renaming i64_in->Aq
open List renaming length_map->Ar,getElem_mem->Aw,nodup_append->Ax,length_take->Az,length_append->Bd,mem_append_right->Be,mem_append_left->Bf,take_of_length_le->Bg,mem_append->Bi
open Go.Proofs.Tryz
section
theorem Agf {y:Yard} {w:World} {F:List Nat} {s1:Sl} {g o n c:Nat} (h:Bv.ow w F y (s1,⟨Ac ⟨g,o,Ab⟩,n,c⟩)) {k:Nat} (hk:k<y.runs.length) :
  ∃ rs:List (Run×(Sl×Sl)),rs.length=n/\rs.length<=c/\n=y.runs.length/\Rd Ce.enc w w (Aa (Ac ⟨g,o,Ab⟩) n c) rs /\
   ∀ (E:TypeId) (w8:World) (A9:Option Addr) (n9 c9:Nat),Below w w w8->Ow Ce.enc E w8 w (Aa A9 n9 c9) (rs.take k ++ rs.drop (k+1)) ->
    ∃ F8,Bv.ow w8 F8 ⟨y.now,y.seq,y.shelf,y.runs.take k ++ y.runs.drop (k+1)⟩ (s1,⟨A9,n9,c9⟩) /\ ∀ x∈F8,x∈F\/w<=x:=by
 obtain ⟨F1,F2,rfl,bT,os,orr⟩:=h;replace os:OwL (Dt.list Bx) w F1 s1.v y.shelf:=os;replace orr:OwL Ce w F2 (Aa (Ac ⟨g,o,Ab⟩) n c) y.runs:=orr;have hn:n=y.runs.length:=RdL.at1 (s:=⟨Ac ⟨g,o,Ab⟩,n,c⟩) orr.rd;have cE:=orr.lt;obtain ⟨rs,Hh,G,hm,hh,hG,rfl,qQ⟩:=orr;have bG:rs.length=y.runs.length:=by have:=congrArg List.length hm;rw [Ar] at this;exact this
 obtain ⟨G1,G2,rfl,hGa,eK⟩:=hG.split k Bl;rw [List.drop_eq_getElem_cons (show k<rs.length by omega)] at eK;obtain ⟨Gx,G3,rfl,_,hGc⟩:=eK.head;refine ⟨rs,Bl,hh.rd.cap,hn,hh.rd,fun E w8 A9 n9 c9 hb ho=>?_⟩;obtain ⟨h5,h6⟩:=Hw.of_ow ho;have hnG2:=(Ax.1 qQ).2.1;have hG13:(G1 ++ G3).Nodup:=by
  rw [Ax] at hnG2 ⊢;refine ⟨hnG2.1,(Ax.1 hnG2.2.1).2.1,fun a ha b aV=>hnG2.2.2 a ha b (Be _ aV)⟩
 have hGsub:∀ x∈G1 ++ G3,x∈Hh ++ (G1 ++ (Gx ++ G3)):=fun x hx=>by
  rcases Bi.1 hx with h | h
  ·exact Be _ (Bf _ h)
  ·exact Be _ (Be _ (Be _ h))
 refine ⟨F1 ++ (Ek (Aa A9 n9 c9) (rs.take k ++ rs.drop (k+1)).length ++ (G1 ++ G3)),⟨F1,_,rfl,?_,os.below hb,⟨rs.take k ++ rs.drop (k+1),_,G1 ++ G3,?_,h5,(hGa.append hGc).bel hb,rfl,?_⟩⟩,fun x hx=>?_⟩
 ·rw [Ax];refine ⟨os.nodup,?_,fun a ha b aV e=>?_⟩
  ·rw [Ax];refine ⟨Jw _ _,hG13,fun a ha b aV e=>?_⟩;subst e
   have:=h6 a ha
   have:=cE a (hGsub a aV)
   omega
  ·subst e;rcases Bi.1 aV with h | h
   ·have:=h6 a h;have:=os.lt a ha;omega
   ·exact (Ax.1 bT).2.2 a ha a (hGsub a h) rfl
 ·rw [List.map_append,List.map_take,List.map_drop,hm]
 ·rw [Ax];refine ⟨Jw _ _,hG13,fun a ha b aV e=>?_⟩;subst e
  have:=h6 a ha
  have:=cE a (hGsub a aV)
  omega
 ·rcases Bi.1 hx with h | h
  ·exact .inl (Bf _ h)
  ·rcases Bi.1 h with h | h
   ·exact .inr (h6 x h)
   ·exact .inl (Be _ (hGsub x h))
theorem Oj (f:List Entry->List Entry) {l:List (List Entry)} {k:Nat} (hk:k<l.length):((l.take k).map f ++ l.drop k).set k (f l[k])=(l.take (k+1)).map f ++ l.drop (k+1):=by
 rw [List.drop_eq_getElem_cons hk,List.set_append_right _ _ (by simp;omega)];rw [show k - ((l.take k).map f).length=0 by simp;omega,List.set_cons_zero,List.take_succ_eq_append_getElem hk,List.map_append,List.append_assoc];rfl
theorem Vv (f:List Entry->List Entry) {l:List (List Entry)} {k:Nat} (hk:k<l.length) (h:k<((l.take k).map f ++ l.drop k).length):((l.take k).map f ++ l.drop k)[k]=l[k]:=by
 rw [List.getElem_append_right (by simp;omega)];simp [Nat.min_eq_left (Nat.le_of_lt hk)]
open Classical in
noncomputable def Ik (y:Yard) (id:Int):Int :=
 if ¬ Dh y then 8 else if Dk y id<0 then 10 else if (Kh y id).state=1 then 13 else 0
def Dg (id:Int) (l:List Entry):List Entry:=l.filter fun e=>e.run != id
noncomputable def Il (y:Yard) (id:Int):Yard:=if Ik y id=0 then ⟨y.now,y.seq,y.shelf.map (Dg id),y.runs.take (Dk y id).toNat ++ y.runs.drop ((Dk y id).toNat+1)⟩ else y
theorem L8 {b:Nat} {w:World} {u0 u1 u2 u3:Value} (X:DBox b [u0,u1,u2,u3] w) {v0 v1 v2 v3 v5:Value} {rest:List Value} :
  (results Tryz.f129 (v0 :: v1 :: v2 :: v3 :: .pointer (Ac ⟨b,0,Ab⟩) :: v5 :: rest).toArray).run Am w = .ok (.tuple #[.agg #[u0,u1,u2,u3],v5]) w:=by
 have c0:=X.cell 0 _ rfl;have c1:=X.cell 1 _ rfl;have c2:=X.cell 2 _ rfl;have c3:=X.cell 3 _ rfl;simp [results,results129,go_sem,c0,c1,c2,c3]
theorem Vw (y:Yard) (s:Sl×Sl) (id:Int) (w:World) (hl:Ca y<=2000000) (h:Bv.rd w w y s) :
  Calls Am 129 #[Dm y s,J U id] w (Ij (Il y id) (Ik y id) w):=by
 have HR:=Bq (show ∀ W,Below w w W->Bv.rd W W y s from fun W hW=>Bv.rd_more (Bv.rd_below h hW) hW.size);obtain ⟨⟨A1,n1,c1⟩,⟨A2,n2,c2⟩⟩:=s;have CC:=Bq (fun W hW=>El y (⟨A1,n1,c1⟩,⟨A2,n2,c2⟩) W hl (HR.out W hW));have CY:=Bq (fun W hW=>Fz y (⟨A1,n1,c1⟩,⟨A2,n2,c2⟩) W hl (HR.out W hW));have CA:=Bq (fun W hW=>E8 y (⟨A1,n1,c1⟩,⟨A2,n2,c2⟩) id W hl (HR.out W hW));have CX:=Bq (fun W hW=>show RdL Ce W W.heap.size (Aa A2 n2 c2) y.runs from (HR.out W hW).2);clear h HR;obtain ⟨W,aH,X,RES,B0⟩:=bx2 w 27 [J U y.now,J U y.seq,Aa A1 n1 c1,Aa A2 n2 c2] 27 [J U 0,J U 0,Aa Ab 0 0,Aa Ab 0 0];go_enter func129,ntmps129;go_wp2_with fail
 rw [<-aH.out];clear aH;have dP:w.heap.size+1<W.heap.size:=RES.lt;refine (CC.out _ B0).mono ?_;rintro e1 w1 ⟨⟨⟨B1,m1,e1⟩,⟨B2,m2,e2⟩⟩,F,rfl,oy,nF,b1⟩;have bS:=b1.size;have cE:=Bv.ow_lt (F:=F) (x:=y) (s:=(⟨B1,m1,e1⟩,⟨B2,m2,e2⟩)) oy;replace X:=X.below b1;replace RES:=RES.below b1;replace B0:=Bu B0 b1;clear b1;go_upto_region 2 with fail
 have OB:=DBox.new 27 [J U y.now,J U y.seq,Aa B1 m1 e1,Aa B2 m2 e2] w1 (b:=w1) rfl;have b2:Below w1 w1 (w1.alloc (.cells #[J U y.now,J U y.seq,Aa B1 m1 e1,Aa B2 m2 e2] 27)):=Bt;replace X:=X.below b2;replace RES:=RES.below b2;replace oy:=Bv.ow_below (F:=F) (x:=y) (s:=(⟨B1,m1,e1⟩,⟨B2,m2,e2⟩)) oy b2;replace B0:=Bu B0 b2;have ow1:=OB.lt;clear b2;generalize w1.alloc (.cells #[J U y.now,J U y.seq,Aa B1 m1 e1,Aa B2 m2 e2] 27)=w2 at *
 generalize cW:w1.heap.size=ob at *
 have X_:=X.g4;obtain ⟨OB_0,OB_1,OB_2,OB_3,OB_l⟩:=OB.g4;go_wp2_with fail
 refine (CA.out _ B0).mono ?_;rintro e1 w3 ⟨rfl,b3⟩;clear X_;clear OB_0 OB_1 OB_2 OB_3 OB_l;replace X:=X.below b3;replace OB:=OB.below b3;replace RES:=RES.below b3;replace oy:Bv.ow w3 F y (⟨B1,m1,e1⟩,⟨B2,m2,e2⟩):=owB oy b3;replace B0:=Bu B0 b3;clear b3;have X_:=X.g4;obtain ⟨OB_0,OB_1,OB_2,OB_3,OB_l⟩:=OB.g4;go_wp2_with fail
 refine (CY.out _ B0).mono ?_;rintro e1 w4 ⟨rfl,b4⟩;clear X_;clear OB_0 OB_1 OB_2 OB_3 OB_l;replace X:=X.below b4;replace OB:=OB.below b4;replace RES:=RES.below b4;replace oy:Bv.ow w4 F y (⟨B1,m1,e1⟩,⟨B2,m2,e2⟩):=owB oy b4;replace B0:=Bu B0 b4;clear b4;have X_:=X.g4;obtain ⟨OB_0,OB_1,OB_2,OB_3,OB_l⟩:=OB.g4;by_cases p0:Dh y;case neg =>
  rw [Ci p0];have H:=Bq (show Ik y id=8 by unfold Ik;rw [if_pos p0]);have H2:=Bq (show Il y id=y by unfold Il;rw [H.out,if_neg Bp]);have RES_:=RES.g4;have rf:=RES.free;go_wp2;have en1:w.heap.size+1∉F:=fun hx=>by have:=nF _ hx;omega
  refine Aj (L8 (DBox.row4 RES rfl _ _ _ _)) rfl ⟨(⟨B1,m1,e1⟩,⟨B2,m2,e2⟩),F,by rw [H.out,H2.out],by rw [H2.out];exact (by (repeat (refine Dt.ow_set Bv ?_ en1 _));exact (show Bv.ow _ F y (⟨B1,m1,e1⟩,⟨B2,m2,e2⟩) from oy)),fun x hx=>by have:=nF x hx;omega,?_⟩;repeat (first | (with_reducible exact B0) | refine Ad ?_ Bo _)
 rw [Dp p0];have P0:=Bq p0;clear p0;by_cases p1:Dk y id<0;case pos =>
  have H:=Bq (show Ik y id=10 by unfold Ik;rw [if_neg (fun h=>h P0.out),if_pos p1]);have H2:=Bq (show Il y id=y by unfold Il;rw [H.out,if_neg Bp]);have RES_:=RES.g4;have rf:=RES.free;go_wp2;have en1:w.heap.size+1∉F:=fun hx=>by have:=nF _ hx;omega
  refine Aj (L8 (DBox.row4 RES rfl _ _ _ _)) rfl ⟨(⟨B1,m1,e1⟩,⟨B2,m2,e2⟩),F,by rw [H.out,H2.out],by rw [H2.out];exact (by (repeat (refine Dt.ow_set Bv ?_ en1 _));exact (show Bv.ow _ F y (⟨B1,m1,e1⟩,⟨B2,m2,e2⟩) from oy)),fun x hx=>by have:=nF x hx;omega,?_⟩;repeat (first | (with_reducible exact B0) | refine Ad ?_ Bo _)
 rcases Ez y id with hr | ⟨k,hk,hr⟩
 ·exact absurd hr Bl
 have HK:=Bq (Gy hk hr);have HR2:=Bq hr;rw [hr];clear hr p1;have P1:=Bq (show ¬ Dk y id<0 by have:=HR2.out;omega);have gL:(k:Int)<(n2:Int):=by have:=RdL.at1 (s:=⟨A2,n2,c2⟩) (CX.out _ B0);dsimp only at this;omega
 have cL:(0:Int)<=(k:Int):=Bl;have hkn:¬ (k:Int)<0:=Bl;obtain ⟨gx,ox,_,rfl,kJ,_,c0,c1_,c2_,c3_,c4_,c5_,c6,c7_⟩:=(CX.out _ B0).run hk;clear c0 c1_ c2_ c3_ c4_ c5_ c7_;by_cases p2:y.runs[k].state=1;case pos =>
  have q2:(y.runs[k].state == 1)=true:=by simp [p2]
  have H:=Bq (show Ik y id=13 by unfold Ik;rw [if_neg (fun h=>h P0.out),if_neg P1.out,if_pos (by rw [HK.out];exact p2)]);clear p2;have H2:=Bq (show Il y id=y by unfold Il;rw [H.out,if_neg Bp]);have RES_:=RES.g4;have rf:=RES.free;go_wp2;have en1:w.heap.size+1∉F:=fun hx=>by have:=nF _ hx;omega
  refine Aj (L8 (DBox.row4 RES rfl _ _ _ _)) rfl ⟨(⟨B1,m1,e1⟩,⟨B2,m2,e2⟩),F,by rw [H.out,H2.out],by rw [H2.out];exact (by (repeat (refine Dt.ow_set Bv ?_ en1 _));exact (show Bv.ow _ F y (⟨B1,m1,e1⟩,⟨B2,m2,e2⟩) from oy)),fun x hx=>by have:=nF x hx;omega,?_⟩;repeat (first | (with_reducible exact B0) | refine Ad ?_ Bo _)
 have q2:(y.runs[k].state == 1)=false:=by simp [p2]
 have H:=Bq (show Ik y id=0 by unfold Ik;rw [if_neg (fun h=>h P0.out),if_neg P1.out,if_neg (by rw [HK.out];exact p2)]);have H2:=Bq (show Il y id=⟨y.now,y.seq,y.shelf.map (Dg id),y.runs.take k ++ y.runs.drop (k+1)⟩ by unfold Il;rw [if_pos H.out,HR2.out,Ao]);clear p2;go_upto_region 9 with fail
 obtain ⟨gr,orr,_,rfl,dQ,_⟩:=RdL.run (show RdL Ce w4 w4.heap.size (Aa B2 m2 e2) y.runs from (Bv.ow_rd (F:=F) (x:=y) (s:=(⟨B1,m1,e1⟩,⟨B2,m2,e2⟩)) oy).2) hk;obtain ⟨rs,bG,cI,eQ,hrd0,mC⟩:=Agf oy hk;have rE:y.runs.length<=8:=P0.out.2.2.2.2.2.2.1;clear X_;clear X c6 q2 CC CY CA CX gL;have gL:(k:Int)<=(m2:Int):=Bl;have hkI1:(k:Int)+1<=(m2:Int):=Bl;have fJ:(0:Int)<=(k:Int)+1:=Bl;have hke:k<=e2:=Bl;have hkeI:(k:Int)<=(e2:Int):=Bl;have hk1e:k+1<=e2:=Bl;have hk1eI:(k:Int)+1<=(e2:Int):=Bl;have wr1:U.wrap ((k:Int)+1)=(k:Int)+1:=Aq _ Bl;have tn1:((k:Int)+1).toNat=k+1:=Bl;have hob4:ob<w4:=OB.lt;replace eQ:=Bq eQ;replace bG:=Bq bG;replace mC:=Bq mC;obtain ⟨j0,cJ,jz0,jz1,jz2⟩:=info_parts Kf;have a0:=Bq (show ∀ W,Below w4 w4 W->Rd Ce.enc W w4 (Aa (Ac ⟨gr,orr,Ab⟩) k e2) (rs.take k) from fun W hW=>(hrd0.take (by have:=bG.out;omega) e2 hke).below hW);have a1:=Bq (show ∀ W,Below w4 w4 W->Rd Ce.enc W w4 (Aa (Ac ⟨gr,orr+(k+1) * 8,Ab⟩) (m2 - (k+1)) (e2 - (k+1))) (rs.drop (k+1)) from fun W hW=>by have h1:=(hrd0.fromL (k+1) (by have:=bG.out;omega)).below hW;rw [bG.out] at h1;exact h1);rcases (show k+1<e2\/e2=k+1 by omega) with hlast | hlast
 ·have hlast2:¬ e2=k+1:=Bl;go_wp2;have b5:Below w4 w4 w4.drew:=(Br _ _).drew;have OB5:=DBox.drew4 OB;refine Db (fun w'=>w'.cell? ⟨ob,3,Ab⟩=Ac (Aa (Ac ⟨gr,orr,Ab⟩) m2 e2)) 13 Bm ?_ (fun hHeld=>?_)
  ·exact OB_3
  refine aT 1 hHeld ?_;try simp only [pS]
  refine aT 2 hHeld ?_;try simp only [pS]
  refine aT 3 hHeld ?_;try simp only [pS]
  refine aT 4 hHeld ?_;try simp only [pS]
  refine aT 6 hHeld ?_;try simp only [pS]
  refine aT 7 hHeld ?_;try simp only [pS]
  refine aT 8 hHeld ?_;try simp only [pS]
  refine aT 9 hHeld ?_;try simp only [pS]
  refine aT 10 hHeld ?_;try simp only [pS]
  refine oT 0 (fun K hK=>?_)
  (go_simp;have b6:Below w4.drew w4.drew (w4.drew.alloc (.cells #[] 167)):=Bt;have o6:=Ow.empty Ce.enc 167 w4.drew (g:=w4) rfl;have B6:=Bu b5 b6;have OB6:=OB5.below b6;have nC:=b6.size)
  refine hK.out _ _ (fun _=>?_) ?_
  ·exact OB6.cell 3 _ rfl
  clear hK K;try simp only [pS]
  refine oT 5 (fun K hK=>?_)
  (refine Gj _ Ce.enc Bp (by rfl) (.tmp 34) (.tmp 38) (by rfl) underlying25 cJ jz0 jz1 jz2 (by rfl) (base:=w4) (v:=Aa (Ac ⟨w4,0,Ab⟩) 0 0) (l:=[]) (by rfl) o6 (by rfl) (a0.out _ B6) Bn (by have:=bG.out;rw [Az];omega) Bp nC ?_;intro v7 w7 o7 gg7 f7;rw [List.nil_append] at o7;have B7:Below w4 w4 w7:=B6.grown gg7 B6.size (fun g hg=>by have:=Option.some.inj (show Ac w4.heap.size=Ac g from hg);omega);have OB7:=OB6.off gg7 (fun e=>by have:=Option.some.inj (show Ac ob=Ac w4.heap.size from e);omega);have hg7s:=gg7.size)
  refine hK.out _ _ (fun _=>?_) ?_
  ·exact OB7.cell 3 _ rfl
  clear hK K;try simp only [pS]
  refine oT 11 (fun K hK=>?_)
  (refine Gj _ Ce.enc Bp (by rfl) (.tmp 39) (.tmp 44) (by rfl) underlying25 cJ jz0 jz1 jz2 (by rfl) (base:=w4) (v:=v7) (l:=rs.take k) (by rfl) o7 (by rfl) (a1.out _ B7) (by have:=bG.out;have:=eQ.out;rw [Az];omega) (by have:=bG.out;have:=eQ.out;rw [List.length_drop];omega) Bp B7.size ?_;intro v8 w8 o8 gg8 f8;have B8:Below w4 w4 w8:=B7.grown gg8 B7.size (fun g hg=>(o7.within g hg).1);have OB8:=OB7.off gg8 (fun e=>by have:=(o7.within _ e.symm).1;omega);obtain ⟨A9,c9,vB,-⟩:=_root_.id (Rd.of_own o8);generalize rT:(rs.take k ++ rs.drop (k+1)).length=n9 at vB;subst vB;replace rT:=Bq rT;have q3:=OB8.cell 3 _ rfl;have qf:=OB8.free;have ql:=OB8.lt)
  refine hK.out _ _ (fun _=>?_) ?_
  ·exact q3
  clear hK K;try simp only [pS]
  refine oT 12 (fun K hK=>?_);go_simp;refine hK.out _ _ (fun _=>?_) ?_
  ·exact q3
  clear hK K;try simp only [pS]
  refine oT 13 (fun K hK=>?_);go_simp;refine hK.out _ _ (fun aC=>absurd rfl aC) ?_;clear hK K;try simp only [pS]
  refine D6 Bm ?_ _;obtain ⟨F8,oy8,kL⟩:=mC.out 167 w8 A9 n9 c9 B8 o8;have fE:∀ x∈F8,w+1<x/\x≠ob:=fun x hx=>by
   rcases kL x hx with h | h
   ·have h1:=nF x h;have h2:=cE x h;omega
   ·have h3:=B0.size;omega
  have OB9:DBox ob [J U y.now,J U y.seq,Aa B1 m1 e1,Aa A9 n9 c9] (w8.setCell ⟨ob,3,Ab⟩ (Aa A9 n9 c9)):=OB8.set 3 Bn _;have RES9:=(RES.below B8).setOther (a:=⟨ob,3,Ab⟩) (by show w.heap.size+1≠ob;omega) (Aa A9 n9 c9);have oy9:Bv.ow (w8.setCell ⟨ob,3,Ab⟩ (Aa A9 n9 c9)) F8 ⟨y.now,y.seq,y.shelf,y.runs.take k ++ y.runs.drop (k+1)⟩ (⟨B1,m1,e1⟩,⟨A9,n9,c9⟩):=Bv.ow_set (F:=F8) (x:=⟨y.now,y.seq,y.shelf,y.runs.take k ++ y.runs.drop (k+1)⟩) (s:=(⟨B1,m1,e1⟩,⟨A9,n9,c9⟩)) oy8 (a:=⟨ob,3,Ab⟩) (fun hx=>(fE _ hx).2 rfl) _;have B9:Below w w (w8.setCell ⟨ob,3,Ab⟩ (Aa A9 n9 c9)):=Ad (Bu B0 B8) (by show w.heap.size<=ob;omega) _;have pL:ob<(w8.setCell ⟨ob,3,Ab⟩ (Aa A9 n9 c9)):=OB9.lt;have bU:=Bq (show m1=y.shelf.length from RdL.at1 (s:=⟨B1,m1,e1⟩) (Bv.ow_rd (F:=F8) (x:=⟨y.now,y.seq,y.shelf,y.runs.take k ++ y.runs.drop (k+1)⟩) oy9).1);have pJ:=Bq (show y.shelf.length=4 from P0.out.2.2.1);have jD:=Bq (fun (i:Nat) (hi:i<y.shelf.length)=>(P0.out.2.2.2.1 _ (Aw hi)).1);obtain ⟨i0,aR,aX,aW,aU⟩:=info_parts Gg;clear OB_0 OB_1 OB_2 OB_3 OB_l;clear OB RES OB8 oy8 o8 o7 OB7 OB6 o6 OB5 b5 b6 B6 B7 hHeld q3 qf ql gg7 gg8 f7 f8 kL hrd0 a0 a1 mC oy B8 nC hg7s;generalize y.runs.take k ++ y.runs.drop (k+1)=RR at *
  generalize w8.setCell ⟨ob,3,Ab⟩ (Aa A9 n9 c9)=w9 at *
  have OB9_:=OB9.g4;go_wp2;go_loopw [8,9,10] (fun iv u1 u2 wr=>∃ (i:Nat) (F:List Nat),i<=y.shelf.length/\iv = J U i/\Hid (Bv.ow wr F ⟨y.now,y.seq,(y.shelf.take i).map (Dg id) ++ y.shelf.drop i,RR⟩ (⟨B1,m1,e1⟩,⟨A9,n9,c9⟩))/\Hid (∀ x∈F,w+1<x/\x≠ob)/\DBox ob [J U y.now,J U y.seq,Aa B1 m1 e1,Aa A9 n9 c9] wr/\DBox (w+1) [J U 0,J U 0,Aa Ab 0 0,Aa Ab 0 0] wr/\Below w w wr/\ob<wr) (fun i _ _ _=>y.shelf.length - (intOf i).toNat);case atStart=>exact ⟨0,F8,Ag _,rfl,by show Bv.ow w9 F8 ⟨y.now,y.seq,(y.shelf.take 0).map (Dg id) ++ y.shelf.drop 0,RR⟩ (⟨B1,m1,e1⟩,⟨A9,n9,c9⟩);simpa using oy9,fE,OB9,RES9,B9,pL⟩
  case round =>
   clear OB9_;clear OB9 RES9 oy9 B9 pL fE;obtain ⟨i,F,hi,rfl,oy,hF,OB,RES,hb,gD⟩:=hrel;rename World=>wo;have h4:=pJ.out;replace h4:=Bq h4;have hRl9:=RES.lt;obtain ⟨OB_0,OB_1,OB_2,OB_3,OB_l⟩:=OB.g4;by_cases aA:i<y.shelf.length
   ·have aB:(i:Int)<(m1:Int):=by have:=bU.out;omega
    have hi00:(0:Int)<=(i:Int):=Bl;have jB:i<((y.shelf.take i).map (Dg id) ++ y.shelf.drop i).length:=by simp;omega
    obtain ⟨g,o,⟨xa,xn,xc⟩,rfl,fX,fB,ch⟩:=RdL.entryS (show RdL (Dt.list Bx) wo wo.heap.size (Aa B1 m1 e1) ((y.shelf.take i).map (Dg id) ++ y.shelf.drop i) from (Bv.ow_rd (F:=F) (x:=⟨y.now,y.seq,(y.shelf.take i).map (Dg id) ++ y.shelf.drop i,RR⟩) oy.out).1) jB;rw [Vv (Dg id) aA jB] at fB;replace fB:RdL Bx wo wo (Aa xa xn xc) y.shelf[i]:=fB;have hxn:xn=y.shelf[i].length:=RdL.at1 (s:=⟨xa,xn,xc⟩) fB;subst hxn;have h80:=jD.out i aA;have hi3:i<=3:=by have:=h4.out;omega
    have kD:∀ j,wo.frozen? ⟨g,j,Ab⟩=false:=by
     obtain ⟨G1,G2,_,_,os,_⟩:=oy.out;exact OwL.free0 (show OwL (Dt.list Bx) wo G1 (Aa (Ac ⟨g,o,Ab⟩) m1 e1) _ from os) (Nat.lt_of_le_of_lt (Ag _) jB)
    have bX:=Bq (Oj (Dg id) aA);have q0:Below wo wo (wo.alloc (.cells #[] 163)):=Bt;have o0:=Ow.empty Cy 163 wo rfl;generalize y.shelf[i]=SH at *
    go_wp2;go_loopw [9,10] (fun v j wr=>∃ m:Nat,m<=SH.length/\j = J U m/\Hid (Ow Cy 163 wr wo v (Dg id (SH.take m)))/\Below wo wo wr) (fun _ j _=>SH.length - (intOf j).toNat);case atStart=>exact ⟨0,Ag _,rfl,o0,q0⟩
    case round =>
     clear o0 q0;obtain ⟨m,hm_,rfl,hO,fM⟩:=hrel;clear OB_0 OB_1 OB_2 OB_3 OB_l;have OB2:=OB.below fM;have OB2_:=OB2.g4;have ch2:=(fM.cell (p:=⟨g,_,Ab⟩) fX).trans ch;have hwis:=fM.size;by_cases aZ:m<SH.length
     ·have hltI2:(m:Int)<(SH.length:Int):=Bl;have eP:(0:Int)<=(m:Int):=Bl;obtain ⟨ge,oe,_,rfl,uQ,_,d0,d1,d2,d3⟩:=(fB.below fM).entry aZ;have Hl:=Bq (show (Dg id (SH.take m)).length<=3000000 by have h1:=List.length_filter_le (fun e:Entry=>e.run != id) (SH.take m);rw [Az] at h1;unfold Dg;omega);cases q:(SH[m].run != id)
      ·have S:=Bq (show Dg id (SH.take (m+1))=Dg id (SH.take m) from L7 (p:=fun e:Entry=>e.run != id) aZ q);go_wp2;exact ⟨⟨m+1,Bl,by go_num,by rw [S.out];exact hO,fM⟩,by simp [intOf];omega⟩
      ·have S:=Bq (show Dg id (SH.take (m+1))=Dg id (SH.take m) ++ [SH[m]] from K7 (p:=fun e:Entry=>e.run != id) aZ q);generalize SH[m]=e9 at *
       have ha:Hid (∀ w:World,Below w w (w.alloc (.cells #[J U e9.prio,J U e9.seq,J U e9.run,J U e9.task] 163))):=fun w=>Bt;have fW:=hO.out;go_wp2_with (at_builtin;go_loud (refine Ch _ Cy Bp rfl (.tmp 76) (.tmp 85) rfl underlying122 aR aX aW aU rfl (base:=wo) (l:=Dg id (SH.take m)) rfl (fW.below (ha.out _)) rfl (Rd.one Cy _ _ e9 rfl rfl 1 (Bs _) (Nat.lt_succ_self _)) Hl.out Bn Bp (by simp;omega) ?_);intro v5 w5 o5 g5 _)
       have eX:Below wo wo w5:=(Bu fM (ha.out _)).grown g5 (Bu fM (ha.out _)).size (fun g hg=>by have:=fW.within _ hg;omega);exact ⟨⟨m+1,Bl,by go_num,by rw [S.out];exact o5,eX⟩,by simp [intOf];omega⟩
     ·have hltI2:¬ (m:Int)<(SH.length:Int):=Bl;have cX:=hO.out;rw [Bg Bl] at cX;obtain ⟨⟨a8,n8,c8⟩,Ft,rfl,o9,nF9⟩:=Hr cX;have oy2:Bv.ow wr F ⟨y.now,y.seq,(y.shelf.take i).map (Dg id) ++ y.shelf.drop i,RR⟩ (⟨Ac ⟨g,o,Ab⟩,m1,e1⟩,⟨A9,n9,c9⟩):=owB oy.out fM;have hFlt2:∀ x∈F,x<wo:=Bv.ow_lt (F:=F) (x:=⟨y.now,y.seq,(y.shelf.take i).map (Dg id) ++ y.shelf.drop i,RR⟩) (s:=(⟨Ac ⟨g,o,Ab⟩,m1,e1⟩,⟨A9,n9,c9⟩)) oy.out;obtain ⟨F',p1,p2,p3⟩:=Gk oy2 jB (l:=Dg id SH) (t:=⟨a8,n8,c8⟩) o9 (fun x hx bJ=>by have h1:=nF9 x hx;have h2:=hFlt2 x bJ;omega);dsimp only at p1;rw [bX.out] at p1;have hgn:=hF.out g p3;have hfg2:∀ j,wr.frozen? ⟨g,j,Ab⟩=false:=fun j=>(fM.frozen (p:=⟨g,j,Ab⟩) fX).trans (kD j);have OB3:=OB2.setOther (a:=⟨g,o+i,Ab⟩) (by show ob≠g;omega) (Aa a8 n8 c8);have RES3:=(RES.below fM).setOther (a:=⟨g,o+i,Ab⟩) (by show w.heap.size+1≠g;omega) (Aa a8 n8 c8);have cD:Below w w (wr.setCell ⟨g,o+i,Ab⟩ (Aa a8 n8 c8)):=Ad (Bu hb fM) (by show w.heap.size<=g;omega) _;have qZ:Hid (∀ x∈F',w+1<x/\x≠ob):=fun x hx=>by
       rcases p2 x hx with h | h
       ·exact hF.out x h
       ·have:=nF9 x h;omega
      have jW:=OB3.lt;clear hO cX bX o9 kD;go_wp2;exact ⟨⟨i+1,F',Bl,by go_num,p1,qZ,OB3,RES3,cD,jW⟩,by simp [intOf];omega⟩
   ·have aB:¬ (i:Int)<(m1:Int):=by have:=bU.out;omega
    have hii:i=y.shelf.length:=Bl;have oyz:=oy.out;rw [Bg Bl,List.drop_eq_nil_of_le Bl,List.append_nil] at oyz;have rf:=RES.free;have RES_:=RES.g4;clear hii oy;go_wp2;have en1:w.heap.size+1∉F:=fun hx=>by have:=hF.out _ hx;omega
    refine Aj (L8 (DBox.row4 RES rfl _ _ _ _)) rfl ⟨(⟨B1,m1,e1⟩,⟨A9,n9,c9⟩),F,by rw [H.out,H2.out],by rw [H2.out];exact (by (repeat (refine Dt.ow_set Bv ?_ en1 _));exact (show Bv.ow _ F ⟨y.now,y.seq,y.shelf.map (Dg id),RR⟩ (⟨B1,m1,e1⟩,⟨A9,n9,c9⟩) from oyz)),fun x hx=>by have:=hF.out x hx;omega,?_⟩;repeat (first | (with_reducible exact hb) | refine Ad ?_ Bo _)
 ·subst hlast;have hlast3:(k:Int)<=(k:Int)+1:=Bl;have hm2k:m2 - (k+1)=0:=by have:=bG.out;omega
  replace hm2k:=Bq hm2k;go_wp2;have b5:Below w4 w4 w4.drew:=(Br _ _).drew;have OB5:=DBox.drew4 OB;refine Db (fun w'=>w'.cell? ⟨ob,3,Ab⟩=Ac (Aa (Ac ⟨gr,orr,Ab⟩) m2 (k+1))) 13 Bm ?_ (fun hHeld=>?_)
  ·exact OB_3
  refine aT 1 hHeld ?_;try simp only [pS]
  refine aT 2 hHeld ?_;try simp only [pS]
  refine aT 3 hHeld ?_;try simp only [pS]
  refine aT 4 hHeld ?_;try simp only [pS]
  refine aT 6 hHeld ?_;try simp only [pS]
  refine aT 7 hHeld ?_;try simp only [pS]
  refine aT 8 hHeld ?_;try simp only [pS]
  refine aT 9 hHeld ?_;try simp only [pS]
  refine aT 10 hHeld ?_;try simp only [pS]
  refine oT 0 (fun K hK=>?_)
  (go_simp;have b6:Below w4.drew w4.drew (w4.drew.alloc (.cells #[] 167)):=Bt;have o6:=Ow.empty Ce.enc 167 w4.drew (g:=w4) rfl;have B6:=Bu b5 b6;have OB6:=OB5.below b6;have nC:=b6.size)
  refine hK.out _ _ (fun _=>?_) ?_
  ·exact OB6.cell 3 _ rfl
  clear hK K;try simp only [pS]
  refine oT 5 (fun K hK=>?_)
  (refine Gj _ Ce.enc Bp (by rfl) (.tmp 34) (.tmp 38) (by rfl) underlying25 cJ jz0 jz1 jz2 (by rfl) (base:=w4) (v:=Aa (Ac ⟨w4,0,Ab⟩) 0 0) (l:=[]) (by rfl) o6 (by rfl) (a0.out _ B6) Bn (by have:=bG.out;rw [Az];omega) Bp nC ?_;intro v7 w7 o7 gg7 f7;rw [List.nil_append] at o7;have B7:Below w4 w4 w7:=B6.grown gg7 B6.size (fun g hg=>by have:=Option.some.inj (show Ac w4.heap.size=Ac g from hg);omega);have OB7:=OB6.off gg7 (fun e=>by have:=Option.some.inj (show Ac ob=Ac w4.heap.size from e);omega);have hg7s:=gg7.size)
  refine hK.out _ _ (fun _=>?_) ?_
  ·exact OB7.cell 3 _ rfl
  clear hK K;try simp only [pS]
  refine oT 11 (fun K hK=>?_)
  (refine Gj _ Ce.enc Bp (by rfl) (.tmp 39) (.tmp 44) (by rfl) underlying25 cJ jz0 jz1 jz2 (by rfl) (base:=w4) (v:=v7) (l:=rs.take k) (by rfl) o7 (by rfl) (Rd.fromNone (B:=0) (k+1) (by have:=bG.out;have:=hm2k.out;omega) hm2k.out) (by have:=bG.out;have:=eQ.out;rw [Az];omega) (by have:=bG.out;have:=eQ.out;rw [List.length_drop];omega) Bp B7.size ?_;intro v8 w8 o8 gg8 f8;have B8:Below w4 w4 w8:=B7.grown gg8 B7.size (fun g hg=>(o7.within g hg).1);have OB8:=OB7.off gg8 (fun e=>by have:=(o7.within _ e.symm).1;omega);obtain ⟨A9,c9,vB,-⟩:=_root_.id (Rd.of_own o8);generalize rT:(rs.take k ++ rs.drop (k+1)).length=n9 at vB;subst vB;replace rT:=Bq rT;have q3:=OB8.cell 3 _ rfl;have qf:=OB8.free;have ql:=OB8.lt)
  refine hK.out _ _ (fun _=>?_) ?_
  ·exact q3
  clear hK K;try simp only [pS]
  refine oT 12 (fun K hK=>?_);go_simp;refine hK.out _ _ (fun _=>?_) ?_
  ·exact q3
  clear hK K;try simp only [pS]
  refine oT 13 (fun K hK=>?_);go_simp;refine hK.out _ _ (fun aC=>absurd rfl aC) ?_;clear hK K;try simp only [pS]
  refine D6 Bm ?_ _;obtain ⟨F8,oy8,kL⟩:=mC.out 167 w8 A9 n9 c9 B8 o8;have fE:∀ x∈F8,w+1<x/\x≠ob:=fun x hx=>by
   rcases kL x hx with h | h
   ·have h1:=nF x h;have h2:=cE x h;omega
   ·have h3:=B0.size;omega
  have OB9:DBox ob [J U y.now,J U y.seq,Aa B1 m1 e1,Aa A9 n9 c9] (w8.setCell ⟨ob,3,Ab⟩ (Aa A9 n9 c9)):=OB8.set 3 Bn _;have RES9:=(RES.below B8).setOther (a:=⟨ob,3,Ab⟩) (by show w.heap.size+1≠ob;omega) (Aa A9 n9 c9);have oy9:Bv.ow (w8.setCell ⟨ob,3,Ab⟩ (Aa A9 n9 c9)) F8 ⟨y.now,y.seq,y.shelf,y.runs.take k ++ y.runs.drop (k+1)⟩ (⟨B1,m1,e1⟩,⟨A9,n9,c9⟩):=Bv.ow_set (F:=F8) (x:=⟨y.now,y.seq,y.shelf,y.runs.take k ++ y.runs.drop (k+1)⟩) (s:=(⟨B1,m1,e1⟩,⟨A9,n9,c9⟩)) oy8 (a:=⟨ob,3,Ab⟩) (fun hx=>(fE _ hx).2 rfl) _;have B9:Below w w (w8.setCell ⟨ob,3,Ab⟩ (Aa A9 n9 c9)):=Ad (Bu B0 B8) (by show w.heap.size<=ob;omega) _;have pL:ob<(w8.setCell ⟨ob,3,Ab⟩ (Aa A9 n9 c9)):=OB9.lt;have bU:=Bq (show m1=y.shelf.length from RdL.at1 (s:=⟨B1,m1,e1⟩) (Bv.ow_rd (F:=F8) (x:=⟨y.now,y.seq,y.shelf,y.runs.take k ++ y.runs.drop (k+1)⟩) oy9).1);have pJ:=Bq (show y.shelf.length=4 from P0.out.2.2.1);have jD:=Bq (fun (i:Nat) (hi:i<y.shelf.length)=>(P0.out.2.2.2.1 _ (Aw hi)).1);obtain ⟨i0,aR,aX,aW,aU⟩:=info_parts Gg;clear OB_0 OB_1 OB_2 OB_3 OB_l;clear OB RES OB8 oy8 o8 o7 OB7 OB6 o6 OB5 b5 b6 B6 B7 hHeld q3 qf ql gg7 gg8 f7 f8 kL hrd0 a0 a1 mC oy B8 nC hg7s;generalize y.runs.take k ++ y.runs.drop (k+1)=RR at *
  generalize w8.setCell ⟨ob,3,Ab⟩ (Aa A9 n9 c9)=w9 at *
  have OB9_:=OB9.g4;go_wp2;go_loopw [8,9,10] (fun iv u1 u2 wr=>∃ (i:Nat) (F:List Nat),i<=y.shelf.length/\iv = J U i/\Hid (Bv.ow wr F ⟨y.now,y.seq,(y.shelf.take i).map (Dg id) ++ y.shelf.drop i,RR⟩ (⟨B1,m1,e1⟩,⟨A9,n9,c9⟩))/\Hid (∀ x∈F,w+1<x/\x≠ob)/\DBox ob [J U y.now,J U y.seq,Aa B1 m1 e1,Aa A9 n9 c9] wr/\DBox (w+1) [J U 0,J U 0,Aa Ab 0 0,Aa Ab 0 0] wr/\Below w w wr/\ob<wr) (fun i _ _ _=>y.shelf.length - (intOf i).toNat);case atStart=>exact ⟨0,F8,Ag _,rfl,by show Bv.ow w9 F8 ⟨y.now,y.seq,(y.shelf.take 0).map (Dg id) ++ y.shelf.drop 0,RR⟩ (⟨B1,m1,e1⟩,⟨A9,n9,c9⟩);simpa using oy9,fE,OB9,RES9,B9,pL⟩
  case round =>
   clear OB9_;clear OB9 RES9 oy9 B9 pL fE;obtain ⟨i,F,hi,rfl,oy,hF,OB,RES,hb,gD⟩:=hrel;rename World=>wo;have h4:=pJ.out;replace h4:=Bq h4;have hRl9:=RES.lt;obtain ⟨OB_0,OB_1,OB_2,OB_3,OB_l⟩:=OB.g4;by_cases aA:i<y.shelf.length
   ·have aB:(i:Int)<(m1:Int):=by have:=bU.out;omega
    have hi00:(0:Int)<=(i:Int):=Bl;have jB:i<((y.shelf.take i).map (Dg id) ++ y.shelf.drop i).length:=by simp;omega
    obtain ⟨g,o,⟨xa,xn,xc⟩,rfl,fX,fB,ch⟩:=RdL.entryS (show RdL (Dt.list Bx) wo wo.heap.size (Aa B1 m1 e1) ((y.shelf.take i).map (Dg id) ++ y.shelf.drop i) from (Bv.ow_rd (F:=F) (x:=⟨y.now,y.seq,(y.shelf.take i).map (Dg id) ++ y.shelf.drop i,RR⟩) oy.out).1) jB;rw [Vv (Dg id) aA jB] at fB;replace fB:RdL Bx wo wo (Aa xa xn xc) y.shelf[i]:=fB;have hxn:xn=y.shelf[i].length:=RdL.at1 (s:=⟨xa,xn,xc⟩) fB;subst hxn;have h80:=jD.out i aA;have hi3:i<=3:=by have:=h4.out;omega
    have kD:∀ j,wo.frozen? ⟨g,j,Ab⟩=false:=by
     obtain ⟨G1,G2,_,_,os,_⟩:=oy.out;exact OwL.free0 (show OwL (Dt.list Bx) wo G1 (Aa (Ac ⟨g,o,Ab⟩) m1 e1) _ from os) (Nat.lt_of_le_of_lt (Ag _) jB)
    have bX:=Bq (Oj (Dg id) aA);have q0:Below wo wo (wo.alloc (.cells #[] 163)):=Bt;have o0:=Ow.empty Cy 163 wo rfl;generalize y.shelf[i]=SH at *
    go_wp2;go_loopw [9,10] (fun v j wr=>∃ m:Nat,m<=SH.length/\j = J U m/\Hid (Ow Cy 163 wr wo v (Dg id (SH.take m)))/\Below wo wo wr) (fun _ j _=>SH.length - (intOf j).toNat);case atStart=>exact ⟨0,Ag _,rfl,o0,q0⟩
    case round =>
     clear o0 q0;obtain ⟨m,hm_,rfl,hO,fM⟩:=hrel;clear OB_0 OB_1 OB_2 OB_3 OB_l;have OB2:=OB.below fM;have OB2_:=OB2.g4;have ch2:=(fM.cell (p:=⟨g,_,Ab⟩) fX).trans ch;have hwis:=fM.size;by_cases aZ:m<SH.length
     ·have hltI2:(m:Int)<(SH.length:Int):=Bl;have eP:(0:Int)<=(m:Int):=Bl;obtain ⟨ge,oe,_,rfl,uQ,_,d0,d1,d2,d3⟩:=(fB.below fM).entry aZ;have Hl:=Bq (show (Dg id (SH.take m)).length<=3000000 by have h1:=List.length_filter_le (fun e:Entry=>e.run != id) (SH.take m);rw [Az] at h1;unfold Dg;omega);cases q:(SH[m].run != id)
      ·have S:=Bq (show Dg id (SH.take (m+1))=Dg id (SH.take m) from L7 (p:=fun e:Entry=>e.run != id) aZ q);go_wp2;exact ⟨⟨m+1,Bl,by go_num,by rw [S.out];exact hO,fM⟩,by simp [intOf];omega⟩
      ·have S:=Bq (show Dg id (SH.take (m+1))=Dg id (SH.take m) ++ [SH[m]] from K7 (p:=fun e:Entry=>e.run != id) aZ q);generalize SH[m]=e9 at *
       have ha:Hid (∀ w:World,Below w w (w.alloc (.cells #[J U e9.prio,J U e9.seq,J U e9.run,J U e9.task] 163))):=fun w=>Bt;have fW:=hO.out;go_wp2_with (at_builtin;go_loud (refine Ch _ Cy Bp rfl (.tmp 76) (.tmp 85) rfl underlying122 aR aX aW aU rfl (base:=wo) (l:=Dg id (SH.take m)) rfl (fW.below (ha.out _)) rfl (Rd.one Cy _ _ e9 rfl rfl 1 (Bs _) (Nat.lt_succ_self _)) Hl.out Bn Bp (by simp;omega) ?_);intro v5 w5 o5 g5 _)
       have eX:Below wo wo w5:=(Bu fM (ha.out _)).grown g5 (Bu fM (ha.out _)).size (fun g hg=>by have:=fW.within _ hg;omega);exact ⟨⟨m+1,Bl,by go_num,by rw [S.out];exact o5,eX⟩,by simp [intOf];omega⟩
     ·have hltI2:¬ (m:Int)<(SH.length:Int):=Bl;have cX:=hO.out;rw [Bg Bl] at cX;obtain ⟨⟨a8,n8,c8⟩,Ft,rfl,o9,nF9⟩:=Hr cX;have oy2:Bv.ow wr F ⟨y.now,y.seq,(y.shelf.take i).map (Dg id) ++ y.shelf.drop i,RR⟩ (⟨Ac ⟨g,o,Ab⟩,m1,e1⟩,⟨A9,n9,c9⟩):=owB oy.out fM;have hFlt2:∀ x∈F,x<wo:=Bv.ow_lt (F:=F) (x:=⟨y.now,y.seq,(y.shelf.take i).map (Dg id) ++ y.shelf.drop i,RR⟩) (s:=(⟨Ac ⟨g,o,Ab⟩,m1,e1⟩,⟨A9,n9,c9⟩)) oy.out;obtain ⟨F',p1,p2,p3⟩:=Gk oy2 jB (l:=Dg id SH) (t:=⟨a8,n8,c8⟩) o9 (fun x hx bJ=>by have h1:=nF9 x hx;have h2:=hFlt2 x bJ;omega);dsimp only at p1;rw [bX.out] at p1;have hgn:=hF.out g p3;have hfg2:∀ j,wr.frozen? ⟨g,j,Ab⟩=false:=fun j=>(fM.frozen (p:=⟨g,j,Ab⟩) fX).trans (kD j);have OB3:=OB2.setOther (a:=⟨g,o+i,Ab⟩) (by show ob≠g;omega) (Aa a8 n8 c8);have RES3:=(RES.below fM).setOther (a:=⟨g,o+i,Ab⟩) (by show w.heap.size+1≠g;omega) (Aa a8 n8 c8);have cD:Below w w (wr.setCell ⟨g,o+i,Ab⟩ (Aa a8 n8 c8)):=Ad (Bu hb fM) (by show w.heap.size<=g;omega) _;have qZ:Hid (∀ x∈F',w+1<x/\x≠ob):=fun x hx=>by
       rcases p2 x hx with h | h
       ·exact hF.out x h
       ·have:=nF9 x h;omega
      have jW:=OB3.lt;clear hO cX bX o9 kD;go_wp2;exact ⟨⟨i+1,F',Bl,by go_num,p1,qZ,OB3,RES3,cD,jW⟩,by simp [intOf];omega⟩
   ·have aB:¬ (i:Int)<(m1:Int):=by have:=bU.out;omega
    have hii:i=y.shelf.length:=Bl;have oyz:=oy.out;rw [Bg Bl,List.drop_eq_nil_of_le Bl,List.append_nil] at oyz;have rf:=RES.free;have RES_:=RES.g4;clear hii oy;go_wp2;have en1:w.heap.size+1∉F:=fun hx=>by have:=hF.out _ hx;omega
    refine Aj (L8 (DBox.row4 RES rfl _ _ _ _)) rfl ⟨(⟨B1,m1,e1⟩,⟨A9,n9,c9⟩),F,by rw [H.out,H2.out],by rw [H2.out];exact (by (repeat (refine Dt.ow_set Bv ?_ en1 _));exact (show Bv.ow _ F ⟨y.now,y.seq,y.shelf.map (Dg id),RR⟩ (⟨B1,m1,e1⟩,⟨A9,n9,c9⟩) from oyz)),fun x hx=>by have:=hF.out x hx;omega,?_⟩;repeat (first | (with_reducible exact hb) | refine Ad ?_ Bo _)
end
theorem Ads (l:List Int):l.flatMap Ip.cells=l.map (Value.int .i64):=by
 induction l with
 | nil=>rfl
 | cons a l ih=>rw [List.flatMap_cons,ih];rfl
theorem Ow.intsK (w:World) (E:TypeId) (l:List Int) {cs:Array Value} (gN:cs=(l.map (Value.int .i64)).toArray) {n g base:Nat} (hn:n=l.length) (hg:g=w) (hb:base<=w.heap.size) (hl:l.length<=1000) :
  Ow Ip E (w.alloc (.cells cs E)) base (Aa (Ac ⟨g,0,Ab⟩) n n) l:=by
 subst hn hg gN
 have:=World.ownsRow_lit (base:=base) (e:=E) (size:=Ip.sz) w (l.map (Value.int .i64)).toArray l.length hb (by simp [maxLen];omega) (by simp [Ip])
 unfold Ow;rw [Ads];exact this
theorem Xz:(Am.info? 32).map (fun i=>(i.zero,i.size,i.bytes))=Ac (Ac (Aa Ab 0 0),1,24):=Bm
def Q5 (y:Yard) (x:Task):Bool:=(x.state == 3) && decide (x.until_ - 1<=y.now)
def Ha (y:Yard) (k:Nat):Run:=y.runs.getD k G4
theorem Ex {y:Yard} {k:Nat} (h:k<y.runs.length):Ha y k=y.runs[k]:=by unfold Ha;rw [List.getD_eq_getElem?_getD,List.getElem?_eq_getElem h];rfl
def Ja (y:Yard) (k n:Nat):List (Nat×Nat):=((List.range n).filter fun t=>Q5 y (Cv (Ha y k) t)).map fun t=>(k,t)
def Fk (y:Yard) (k:Nat):List (Nat×Nat):=(List.range k).flatMap fun j=>Ja y j (Ha y j).tasks.length
def It (y:Yard) (p:Nat×Nat):List Int:=[(Ha y p.1).id,p.2,(Cv (Ha y p.1) p.2).try_]
theorem Vx (y:Yard) (k:Nat):Ja y k 0=[]:=rfl
theorem X0 {y:Yard} {k n:Nat} (h:Q5 y (Cv (Ha y k) n)=true):Ja y k (n+1)=Ja y k n ++ [(k,n)]:=by
 unfold Ja;rw [List.range_succ,List.filter_append,List.map_append];simp [h]
theorem Q6 {y:Yard} {k n:Nat} (h:Q5 y (Cv (Ha y k) n)=false):Ja y k (n+1)=Ja y k n:=by
 unfold Ja;rw [List.range_succ,List.filter_append,List.map_append];simp [h]
theorem Qf (y:Yard) (k:Nat):Fk y (k+1)=Fk y k ++ Ja y k (Ha y k).tasks.length:=by
 unfold Fk;rw [List.range_succ,List.flatMap_append];simp
theorem Ru (y:Yard) (k n:Nat):(Ja y k n).length<=n:=by
 unfold Ja;rw [Ar];exact Nat.le_trans (List.length_filter_le _ _) Bn
theorem Lm {y:Yard} (h:∀ j,(Ha y j).tasks.length<=12):∀ k,(Fk y k).length<=12 * k
 | 0=>by simp [Fk]
 | k+1=>by
  rw [Qf,Bd];have h1:=Lm h k;have h2:=Ru y k (Ha y k).tasks.length;have h3:=h k;omega
theorem M8 {y:Yard} (h:Dh y) (j:Nat):(Ha y j).tasks.length<=12:=by
 by_cases q:j<y.runs.length
 ·rw [Ex q];exact (D7 (Eo h q)).2
 ·unfold Ha;rw [List.getD_eq_getElem?_getD,List.getElem?_eq_none Bl];simp [G4]
theorem Vy {y:Yard} (h:Dh y) {k t:Nat} (hk:k<y.runs.length) (ht:t<y.runs[k].tasks.length) (hs:y.runs[k].tasks[t].state=3):y.now+1<=y.runs[k].tasks[t].until_/\y.runs[k].tasks[t].until_<=1000000000:=by
 have h1:=h.2.2.2.2.2.2.2.2.1 y.runs[k] (Aw hk) t ht;unfold Pe at h1;rw [Cu ht] at h1;have h2:=h1.2 hs;have h3:=(Eo h hk).2.2.2.1 t ht;unfold Hk Od at h3;rw [Cu ht] at h3;have h4:=h3.2.2.2.1 hs;omega
theorem Zn (y:Yard) (s:Sl×Sl) (w:World) (hl:Ca y<=2000000) (hY:Dh y) (h:Bv.rd w w y s) :
  Calls Am 215 #[Dm y s] w (Df (Dt.list (Dt.flats Ip)) slV ((Fk y y.runs.length).map (It y)) w):=by
 obtain ⟨⟨A1,n1,c1⟩,⟨A2,n2,c2⟩⟩:=s;obtain rfl:n2=y.runs.length:=RdL.at1 (s:=⟨A2,n2,c2⟩) h.2;have CX:=Bq (fun W (hW:Below w w W)=>show RdL Ce W w.heap.size (Aa A2 y.runs.length c2) y.runs from (Bv.rd_below (x:=y) (s:=(⟨A1,n1,c1⟩,⟨A2,y.runs.length,c2⟩)) h hW).2);have nD:y.runs.length<=8:=hY.2.2.2.2.2.2.1;have HP:=Bq hY;clear h hY;obtain ⟨it,i0,z0,z1,z2⟩:=info_parts Xz;have X:=DBox.new 27 [J U y.now,J U y.seq,Aa A1 n1 c1,Aa A2 y.runs.length c2] w (b:=w) rfl;have B0:Below w w (w.alloc (.cells #[J U y.now,J U y.seq,Aa A1 n1 c1,Aa A2 y.runs.length c2] 27)):=by repeat (first | exact Br _ _ | refine Below.alloc ?_ Bo _)
 go_enter func215,ntmps215;go_wp2;have hWs:w.heap.size+1=(w.alloc (.cells #[J U y.now,J U y.seq,Aa A1 n1 c1,Aa A2 y.runs.length c2] 27)).heap.size:=Bn;have o0:=Ow.empty (Dt.flats Ip).enc 32 (w.alloc (.cells #[J U y.now,J U y.seq,Aa A1 n1 c1,Aa A2 y.runs.length c2] 27)) rfl;have b0:Below (w.alloc (.cells #[J U y.now,J U y.seq,Aa A1 n1 c1,Aa A2 y.runs.length c2] 27)) (w.alloc (.cells #[J U y.now,J U y.seq,Aa A1 n1 c1,Aa A2 y.runs.length c2] 27)) ((w.alloc (.cells #[J U y.now,J U y.seq,Aa A1 n1 c1,Aa A2 y.runs.length c2] 27)).alloc (.cells #[] 32)):=Bt;replace X:=X.below b0;replace B0:=Bu B0 b0;rw [<-hWs] at o0;go_loopw [3,4] (fun v i wr=>∃ k:Nat,k<=y.runs.length/\i = J U k/\Hid (Bls (Dt.flats Ip) 32 wr (w+1) v ((Fk y k).map (It y)))/\DBox w [J U y.now,J U y.seq,Aa A1 n1 c1,Aa A2 y.runs.length c2] wr/\Below w w wr) (fun _ i _=>y.runs.length - (intOf i).toNat);case atStart=>exact ⟨0,Ag _,rfl,⟨[],rfl,Bld.of_empty o0⟩,X,B0⟩
 case round =>
  clear X B0 o0 b0 hWs;obtain ⟨k,hk,rfl,hB,X,hb⟩:=hrel;have X_:=X.g4;by_cases aA:k<y.runs.length
  ·have aB:(k:Int)<(y.runs.length:Int):=Bl;have cL:(0:Int)<=(k:Int):=Bl;go_wp2;go_loopw [3,5,6] (fun vv i u wr=>∃ (n:Nat) (v:Value),n<=y.runs[k].tasks.length/\i = J U n/\v=vv/\Hid (Bls (Dt.flats Ip) 32 wr (w+1) v ((Fk y k ++ Ja y k n).map (It y)))/\DBox w [J U y.now,J U y.seq,Aa A1 n1 c1,Aa A2 y.runs.length c2] wr/\Below w w wr) (fun _ i _ _=>y.runs[k].tasks.length - (intOf i).toNat);case atStart=>exact ⟨0,_,Ag _,rfl,rfl,by rw [Vx,List.append_nil];exact hB,X,hb⟩
   case round =>
    clear X_;clear X hb hB;obtain ⟨n,v,hn,rfl,rfl,hB,X,hb⟩:=hrel;obtain ⟨b,o,⟨s1,⟨At,nt,ct⟩⟩,rfl,aK,cM,c0,c1_,c2_,c3_,c4_,c5_,c6_,c7⟩:=(CX.out wr hb).run aA;obtain rfl:nt=y.runs[k].tasks.length:=RdL.at1 (s:=⟨At,nt,ct⟩) cM.2;have h3:RdL C7 wr w (Aa At y.runs[k].tasks.length ct) y.runs[k].tasks:=cM.2;clear c1_ c2_ c3_ c4_ c5_ c6_ cM;have X_:=X.g4;have hwrs:=hb.size;by_cases fF:n<y.runs[k].tasks.length
    ·have fI:=(D7 (Eo HP.out aA)).2;have nI:(n:Int)<(y.runs[k].tasks.length:Int):=Bl;have uV:(0:Int)<=(n:Int):=Bl;obtain ⟨b',o',_,rfl,bI,_,d0,d1,d2,d3⟩:=h3.task fF;have hU:=Bq (fun hs=>Vy HP.out aA fF hs);have hJ:=Bq (show Cv (Ha y k) n=y.runs[k].tasks[n] by rw [Ex aA,Cu fF]);have hRow:Hid (It y (k,n)=[y.runs[k].id,(n:Int),y.runs[k].tasks[n].try_]):=by
      show It y (k,n)=_;unfold It;rw [hJ.out,Ex aA]
     have aF:=Bq (show (Fk y k ++ Ja y k n).length<=3000000 by
      have h1:=Lm (M8 HP.out) k;have h2:=Ru y k n;have h5:=(D7 (Eo HP.out aA)).2;rw [Bd];omega)
     generalize y.runs[k].tasks[n]=x at *
     generalize y.runs[k].id=rid at *
     have TB:=DBox.new 217 [J U x.state,J U x.need,J U x.try_,J U x.until_] wr (b:=wr) rfl;have b2:Below wr wr (wr.alloc (.cells #[J U x.state,J U x.need,J U x.try_,J U x.until_] 217)):=Bt;go_upto_region 9 with fail
     clear X_;replace X:=X.below b2;have aG:=Bu hb b2;have mT:=hB.out.below b2;have eW:=TB.lt;have mX:=X.lt;replace c0:=(b2.cell (p:=⟨b,_,Ab⟩) (by show b<wr;omega)).trans c0;have hvb:=Bq (show ∀ z,v.ownBlock=Ac z->w.heap.size+1<=z/\z≠wr.heap.size/\z≠b from fun z hz=>by
      obtain ⟨rs,hm,nJ⟩:=hB.out;have h1:=nJ.ow.within z hz;omega)
     have bW:b<(wr.alloc (.cells #[J U x.state,J U x.need,J U x.try_,J U x.until_] 217)):=by simp;omega
     clear b2 c7 d0 d1 d2 d3 hb hB;generalize wr.alloc (.cells #[J U x.state,J U x.need,J U x.try_,J U x.until_] 217)=w2 at *
     generalize htb:wr.heap.size=tb at *
     have X_:=X.g4;obtain ⟨TB_0,TB_1,TB_2,TB_3,TB_l⟩:=TB.g4;by_cases q:x.state=3;case neg =>
      have q1:(x.state == 3)=false:=by simp [q]
      have S:=Bq (Q6 (y:=y) (k:=k) (n:=n) (by rw [hJ.out];unfold Q5;rw [q1];rfl));clear q;go_wp2;exact ⟨⟨n+1,v,fF,by go_num,rfl,by rw [S.out];exact mT,X,aG⟩,by simp [intOf];omega⟩
     have q1:(x.state == 3)=true:=by simp [q]
     have hu:=hU.out q;have wr1:U.wrap (x.until_ - 1)=x.until_ - 1:=Aq _ (by have:=HP.out.1;omega);have q2:¬ x.until_<=y.now:=Bl;by_cases q3:x.until_ - 1<=y.now;case neg =>
      have S:=Bq (Q6 (y:=y) (k:=k) (n:=n) (by rw [hJ.out];unfold Q5;rw [q1,decide_eq_false q3];rfl));clear q hu;go_wp2;exact ⟨⟨n+1,v,fF,by go_num,rfl,by rw [S.out];exact mT,X,aG⟩,by simp [intOf];omega⟩
     have S:=Bq (X0 (y:=y) (k:=k) (n:=n) (by rw [hJ.out];unfold Q5;rw [q1,decide_eq_true q3];rfl));clear q hu;go_wp2;clear TB_0 TB_1 TB_2 TB_3 TB_l;refine Go.wp_region_noPanic ?_;refine wp_region_held_drew (S:=(fun w'=>DBox w [J U y.now,J U y.seq,Aa A1 n1 c1,Aa (Ac ⟨b,o,Ab⟩) y.runs.length c2] w'/\w'.cell? ⟨b,o+k * 8,Ab⟩=Ac (J U rid)/\DBox tb [J U x.state,J U x.need,J U x.try_,J U x.until_] w')) Bm ⟨DBox.drew4 X,c0,DBox.drew4 TB⟩ (fun hHeld=>?_);have tH:=aG.drew;have kC:=mT.below (Br _ _).drew;have hsd:w2.drew.heap.size=w2.heap.size:=rfl;clear X_;clear X c0 TB aG mT;rw [<-hsd] at bW eW mX;clear hsd;generalize w2.drew=w3 at *
     refine tV 0 ?_
     (try simp only [pS])
     refine tV 1 ?_
     (try simp only [pS])
     refine tV 2 ?_
     (try simp only [pS])
     refine tV 3 ?_
     (try simp only [pS])
     refine tV 4 ?_
     (try simp only [pS])
     refine tV 5 ?_
     (try simp only [pS])
     refine tV 6 ?_
     (try simp only [pS])
     refine tV 7 ?_
     (try simp only [pS])
     refine tV 8 ?_
     (try simp only [pS])
     refine tV 9 ?_
     (try simp only [pS])
     refine rC 10 (fun K_ hK=>?_);go_simp;have o9:=Ow.intsK w3 3 [rid,(n:Int),x.try_] (cs:=#[J U rid,J U (n:Int),J U x.try_]) rfl (n:=3) (g:=w3) (base:=w3) rfl rfl (Bs _) Bn;have b4:Below w3 w3 (w3.alloc (.cells #[J U rid,J U (n:Int),J U x.try_] 3)):=Bt;have mR:=b4.size;obtain ⟨hw9,hwB⟩:=Hw.of_ow o9;refine hK.out _ _ ⟨hHeld.1.below b4,(b4.cell (p:=⟨b,_,Ab⟩) bW).trans hHeld.2.1,hHeld.2.2.below b4⟩ (fun hHeld=>?_);clear hK K_
     (try simp only [pS])
     generalize jE:w3.heap.size=g9 at *
     generalize w3.alloc (.cells #[J U rid,J U (n:Int),J U x.try_] 3)=w4 at *
     refine rC 11 (fun K_ hK=>?_);go_simp;have b5:Below w4 w4 (w4.alloc (.cells #[Aa (Ac ⟨g9,0,Ab⟩) 3 3] 32)):=Bt;have hbw4:b<w4:=Bl;refine hK.out _ _ ⟨hHeld.1.below b5,(b5.cell (p:=⟨b,_,Ab⟩) hbw4).trans hHeld.2.1,hHeld.2.2.below b5⟩ (fun hHeld=>?_);clear hK K_
     (try simp only [pS])
     obtain ⟨rs,hm,kF⟩:=kC;have bG:rs.length<=3000000:=by
      have h1:=congrArg List.length hm;rw [Ar,Ar] at h1;rw [h1];exact aF.out
     have tZ:=Bq bG;clear bG;have b45:=Bu (by rw [jE];exact b4) b5;refine rC 12 (fun K_ hK=>?_);refine E1 _ (Dt.flats Ip).enc Bp (.tmp 53) (.tmp 64) 222 rfl (w.heap.size+1) 32 _ _ _ underlying222 i0 z0 z1 z2 rfl v rs rfl (kF.ow.below b45) _ _ _ _ [([rid,(n:Int),x.try_],(⟨Ac ⟨g9,0,Ab⟩,3,3⟩:Sl))] rfl (Rd.one (Dt.flats Ip).enc _ _ ([rid,(n:Int),x.try_],(⟨Ac ⟨g9,0,Ab⟩,3,3⟩:Sl)) rfl rfl 1 (Bs _) (Nat.lt_succ_self _)) tZ.out Bn Bp (by have:=b45.size;omega) ?_;intro v6 w6 o6 gg f6;have hP:=Bld.push1 (d:=Dt.flats Ip) (x:=[rid,(n:Int),x.try_]) (s:=(⟨Ac ⟨g9,0,Ab⟩,3,3⟩:Sl)) kF (by rw [jE];exact b4) hw9 (fun y hy=>by rw [jE];exact hwB y hy) Bl b5 o6 gg f6;have pU:∀ z,v.ownBlock=Ac z->w.heap.size+1<=z/\z≠tb/\z≠b:=fun z hz=>hvb.out z hz;have X6:=hHeld.1.off gg (fun e=>by have:=(pU _ e.symm).1;omega);have T6:=hHeld.2.2.off gg (fun e=>(pU _ e.symm).2.1 rfl);have hbw5:b<(w4.alloc (.cells #[Aa (Ac ⟨g9,0,Ab⟩) 3 3] 32)):=by have:=b5.size;omega
     have c6:=(gg.cell_far ⟨b,o+k * 8,Ab⟩ hbw5 (fun e=>(pU _ e.symm).2.2 rfl)).trans hHeld.2.1;have mW:Below w w w6:=(Bu tH b45).grown gg (Bu tH b45).size (fun g hg=>by have:=(pU g hg).1;omega);have kQ:(rs ++ [([rid,(n:Int),x.try_],(⟨Ac ⟨g9,0,Ab⟩,3,3⟩:Sl))]).map (·.1)=(Fk y k ++ Ja y k (n+1)).map (It y):=by
      simp only [List.map_append,List.map_cons,List.map_nil,hm,S.out,hRow.out,List.append_assoc]
     have hB6:Bls (Dt.flats Ip) 32 w6 (w+1) v6 ((Fk y k ++ Ja y k (n+1)).map (It y)):=⟨_,kQ,hP⟩
     refine hK.out _ _ ⟨X6,c6,T6⟩ (fun hHeld=>?_);clear hK K_
     (try simp only [pS])
     refine tV 13 ?_
     (try simp only [pS])
     refine wpAnyH_done Bm ?_ _;refine NoPanic.normal ?_;have hB7:=Bq hB6;clear hHeld hP kQ hB6 hm kF gg o6 f6 T6 c6;go_wp2;refine ⟨⟨n+1,fF,by go_num,?_⟩,by simp [intOf];omega⟩;rw [<-List.map_append];exact hB7
    ·have nI:¬ (n:Int)<(y.runs[k].tasks.length:Int):=Bl;have S:=Bq (show Fk y (k+1)=Fk y k ++ Ja y k n by
      rw [Qf,show (Ha y k).tasks.length=n by rw [Ex aA];omega])
     go_wp2;exact ⟨⟨k+1,Bl,by go_num,by rw [S.out];exact hB,X,hb⟩,by simp [intOf];omega⟩
  ·have aB:¬ (k:Int)<(y.runs.length:Int):=Bl;obtain rfl:k=y.runs.length:=Bl;obtain ⟨rs,hm,nJ⟩:=hB.out;obtain ⟨F,h1,h2⟩:=nJ.owl hm;obtain ⟨A,c,hv,_⟩:=h1.form;rw [Ar] at hv;subst hv;have eJ:Df (Dt.list (Dt.flats Ip)) slV ((Fk y y.runs.length).map (It y)) w (.returned (Aa A (Fk y y.runs.length).length c)) wr:=⟨⟨A,_,c⟩,F,rfl,h1,fun x hx=>by have:=h2 x hx;omega,hb⟩
   clear hB nJ h1;go_wp2;go_ret;exact eJ
section
open Classical in
noncomputable def Im (y:Yard) (id:Int):Int :=
 if ¬ Dh y then 8 else if Dk y id<0 then 10 else if ¬ (Kh y id).state=1 then 12 else 0
noncomputable def Io (y:Yard) (id:Int):Yard:=if Im y id=0 then ⟨y.now,y.seq,y.shelf,y.runs.set (Dk y id).toNat (Dx (Kh y id) 4)⟩ else y
theorem Nr {b:Nat} {w:World} {u0 u1 u2 u3:Value} (X:DBox b [u0,u1,u2,u3] w) {v0 v1 v2 v3 v5:Value} {rest:List Value} :
  (results Tryz.f128 (v0 :: v1 :: v2 :: v3 :: .pointer (Ac ⟨b,0,Ab⟩) :: v5 :: rest).toArray).run Am w = .ok (.tuple #[.agg #[u0,u1,u2,u3],v5]) w:=by
 have c0:=X.cell 0 _ rfl;have c1:=X.cell 1 _ rfl;have c2:=X.cell 2 _ rfl;have c3:=X.cell 3 _ rfl;simp [results,results128,go_sem,c0,c1,c2,c3]
theorem Vz (y:Yard) (s:Sl×Sl) (id:Int) (w:World) (hl:Ca y<=2000000) (h:Bv.rd w w y s) :
  Calls Am 128 #[Dm y s,J U id] w (Ij (Io y id) (Im y id) w):=by
 have HR:=Bq (show ∀ W,Below w w W->Bv.rd W W y s from fun W hW=>Bv.rd_more (Bv.rd_below h hW) hW.size);obtain ⟨⟨A1,n1,c1⟩,⟨A2,n2,c2⟩⟩:=s;have CC:=Bq (fun W hW=>El y (⟨A1,n1,c1⟩,⟨A2,n2,c2⟩) W hl (HR.out W hW));have CY:=Bq (fun W hW=>Fz y (⟨A1,n1,c1⟩,⟨A2,n2,c2⟩) W hl (HR.out W hW));have CA:=Bq (fun W hW=>E8 y (⟨A1,n1,c1⟩,⟨A2,n2,c2⟩) id W hl (HR.out W hW));have CX:=Bq (fun W hW=>show RdL Ce W W.heap.size (Aa A2 n2 c2) y.runs from (HR.out W hW).2);clear h HR;obtain ⟨W,aH,X,RES,B0⟩:=bx2 w 27 [J U y.now,J U y.seq,Aa A1 n1 c1,Aa A2 n2 c2] 27 [J U 0,J U 0,Aa Ab 0 0,Aa Ab 0 0];go_enter func128,ntmps128;go_wp2_with fail
 rw [<-aH.out];clear aH;have dP:w.heap.size+1<W.heap.size:=RES.lt;refine (CC.out _ B0).mono ?_;rintro e1 w1 ⟨⟨⟨B1,m1,e1⟩,⟨B2,m2,e2⟩⟩,F,rfl,oy,nF,b1⟩;have bS:=b1.size;have cE:=Bv.ow_lt (F:=F) (x:=y) (s:=(⟨B1,m1,e1⟩,⟨B2,m2,e2⟩)) oy;replace X:=X.below b1;replace RES:=RES.below b1;replace B0:=Bu B0 b1;clear b1;go_upto_region 2 with fail
 have OB:=DBox.new 27 [J U y.now,J U y.seq,Aa B1 m1 e1,Aa B2 m2 e2] w1 (b:=w1) rfl;have b2:Below w1 w1 (w1.alloc (.cells #[J U y.now,J U y.seq,Aa B1 m1 e1,Aa B2 m2 e2] 27)):=Bt;replace X:=X.below b2;replace RES:=RES.below b2;replace oy:=Bv.ow_below (F:=F) (x:=y) (s:=(⟨B1,m1,e1⟩,⟨B2,m2,e2⟩)) oy b2;replace B0:=Bu B0 b2;have ow1:=OB.lt;clear b2;generalize w1.alloc (.cells #[J U y.now,J U y.seq,Aa B1 m1 e1,Aa B2 m2 e2] 27)=w2 at *
 generalize cW:w1.heap.size=ob at *
 have X_:=X.g4;obtain ⟨OB_0,OB_1,OB_2,OB_3,OB_l⟩:=OB.g4;go_wp2_with fail
 refine (CA.out _ B0).mono ?_;rintro e1 w3 ⟨rfl,b3⟩;clear X_;clear OB_0 OB_1 OB_2 OB_3 OB_l;replace X:=X.below b3;replace OB:=OB.below b3;replace RES:=RES.below b3;replace oy:Bv.ow w3 F y (⟨B1,m1,e1⟩,⟨B2,m2,e2⟩):=owB oy b3;replace B0:=Bu B0 b3;clear b3;have X_:=X.g4;obtain ⟨OB_0,OB_1,OB_2,OB_3,OB_l⟩:=OB.g4;go_wp2_with fail
 refine (CY.out _ B0).mono ?_;rintro e1 w4 ⟨rfl,b4⟩;clear X_;clear OB_0 OB_1 OB_2 OB_3 OB_l;replace X:=X.below b4;replace OB:=OB.below b4;replace RES:=RES.below b4;replace oy:Bv.ow w4 F y (⟨B1,m1,e1⟩,⟨B2,m2,e2⟩):=owB oy b4;replace B0:=Bu B0 b4;clear b4;have X_:=X.g4;obtain ⟨OB_0,OB_1,OB_2,OB_3,OB_l⟩:=OB.g4;by_cases p0:Dh y;case neg =>
  rw [Ci p0];have H:=Bq (show Im y id=8 by unfold Im;rw [if_pos p0]);have H2:=Bq (show Io y id=y by unfold Io;rw [H.out,if_neg Bp]);have RES_:=RES.g4;have rf:=RES.free;go_wp2;have en1:w.heap.size+1∉F:=fun hx=>by have:=nF _ hx;omega
  refine Aj (Nr (DBox.row4 RES rfl _ _ _ _)) rfl ⟨(⟨B1,m1,e1⟩,⟨B2,m2,e2⟩),F,by rw [H.out,H2.out],by rw [H2.out];exact (by (repeat (refine Dt.ow_set Bv ?_ en1 _));exact (show Bv.ow _ F y (⟨B1,m1,e1⟩,⟨B2,m2,e2⟩) from oy)),fun x hx=>by have:=nF x hx;omega,?_⟩;repeat (first | (with_reducible exact B0) | refine Ad ?_ Bo _)
 rw [Dp p0];have P0:=Bq p0;clear p0;by_cases p1:Dk y id<0;case pos =>
  have H:=Bq (show Im y id=10 by unfold Im;rw [if_neg (fun h=>h P0.out),if_pos p1]);have H2:=Bq (show Io y id=y by unfold Io;rw [H.out,if_neg Bp]);have RES_:=RES.g4;have rf:=RES.free;go_wp2;have en1:w.heap.size+1∉F:=fun hx=>by have:=nF _ hx;omega
  refine Aj (Nr (DBox.row4 RES rfl _ _ _ _)) rfl ⟨(⟨B1,m1,e1⟩,⟨B2,m2,e2⟩),F,by rw [H.out,H2.out],by rw [H2.out];exact (by (repeat (refine Dt.ow_set Bv ?_ en1 _));exact (show Bv.ow _ F y (⟨B1,m1,e1⟩,⟨B2,m2,e2⟩) from oy)),fun x hx=>by have:=nF x hx;omega,?_⟩;repeat (first | (with_reducible exact B0) | refine Ad ?_ Bo _)
 rcases Ez y id with hr | ⟨k,hk,hr⟩
 ·exact absurd hr Bl
 have HK:=Bq (Gy hk hr);have HR2:=Bq hr;rw [hr];clear hr p1;have P1:=Bq (show ¬ Dk y id<0 by have:=HR2.out;omega);have gL:(k:Int)<(n2:Int):=by have:=RdL.at1 (s:=⟨A2,n2,c2⟩) (CX.out _ B0);dsimp only at this;omega
 have cL:(0:Int)<=(k:Int):=Bl;have hkn:¬ (k:Int)<0:=Bl;have bQ:=Bq (Eo P0.out hk);obtain ⟨gx,ox,_,rfl,kJ,_,c0,c1_,c2_,c3_,c4_,c5_,c6,c7_⟩:=(CX.out _ B0).run hk;clear c0 c1_ c2_ c3_ c4_ c5_ c7_;by_cases p2:y.runs[k].state=1;case neg =>
  have q2:(y.runs[k].state != 1)=true:=by simp [p2]
  have H:=Bq (show Im y id=12 by unfold Im;rw [if_neg (fun h=>h P0.out),if_neg P1.out,if_pos (by rw [HK.out];exact p2)]);clear p2;have H2:=Bq (show Io y id=y by unfold Io;rw [H.out,if_neg Bp]);have RES_:=RES.g4;have rf:=RES.free;go_wp2;have en1:w.heap.size+1∉F:=fun hx=>by have:=nF _ hx;omega
  refine Aj (Nr (DBox.row4 RES rfl _ _ _ _)) rfl ⟨(⟨B1,m1,e1⟩,⟨B2,m2,e2⟩),F,by rw [H.out,H2.out],by rw [H2.out];exact (by (repeat (refine Dt.ow_set Bv ?_ en1 _));exact (show Bv.ow _ F y (⟨B1,m1,e1⟩,⟨B2,m2,e2⟩) from oy)),fun x hx=>by have:=nF x hx;omega,?_⟩;repeat (first | (with_reducible exact B0) | refine Ad ?_ Bo _)
 have q2:(y.runs[k].state != 1)=false:=by simp [p2]
 have H:=Bq (show Im y id=0 by unfold Im;rw [if_neg (fun h=>h P0.out),if_neg P1.out,if_neg (by rw [HK.out];exact fun h=>h p2)]);have H2:=Bq (show Io y id=⟨y.now,y.seq,y.shelf,y.runs.set k (Dx y.runs[k] 4)⟩ by unfold Io;rw [if_pos H.out,HK.out,HR2.out,Ao]);have P2:=Bq p2;clear p2;go_upto_region 9 with fail
 have oyr:=(Bv.ow_rd (F:=F) (x:=y) (s:=(⟨B1,m1,e1⟩,⟨B2,m2,e2⟩)) oy).2;have eQ:=Bq (show m2=y.runs.length from RdL.at1 (s:=⟨B2,m2,e2⟩) oyr);have gS:(k:Int)<(m2:Int):=by have:=eQ.out;omega
 obtain ⟨gr,orr,sk,rfl,dQ,dF,d0,d1,d2,d3,d4,d5,d6,d7⟩:=RdL.run (show RdL Ce w4 w4.heap.size (Aa B2 m2 e2) y.runs from oyr) hk;have gP:∀ i,w4.frozen? ⟨gr,i,Ab⟩=false:=by
  obtain ⟨G1,G2,_,_,_,os⟩:=oy;exact OwL.free0 (show OwL Ce w4 G2 (Aa (Ac ⟨gr,orr,Ab⟩) m2 e2) y.runs from os) Bl
 clear X_;clear X c6 q2;generalize mJ:y.runs[k]=r at *
 have CSt:=Bq (Zb r sk w4.drew (by have:=Kr bQ.out;omega) bQ.out P2.out (by have:=D7 bQ.out;omega) (Ce.rd_below dF (Br _ _).drew));have hobw5:ob<w4:=OB.lt;clear dF oyr mJ;go_wp2;refine Db (fun w'=>w'.cell? ⟨ob,3,Ab⟩=Ac (Aa (Ac ⟨gr,orr,Ab⟩) m2 e2)/\w'.cell? ⟨gr,orr+k * 8,Ab⟩=Ac (J U r.id)/\w'.cell? ⟨gr,orr+k * 8+1,Ab⟩=Ac (J U r.plan.prio)/\w'.cell? ⟨gr,orr+k * 8+2,Ab⟩=Ac (J U r.plan.most)/\w'.cell? ⟨gr,orr+k * 8+3,Ab⟩=Ac (J U r.plan.wait)/\w'.cell? ⟨gr,orr+k * 8+4,Ab⟩=Ac (J U r.plan.tasks)/\w'.cell? ⟨gr,orr+k * 8+5,Ab⟩=Ac (Aa sk.1.a sk.1.n sk.1.c)/\w'.cell? ⟨gr,orr+k * 8+6,Ab⟩=Ac (J U r.state)/\w'.cell? ⟨gr,orr+k * 8+7,Ab⟩=Ac (Aa sk.2.a sk.2.n sk.2.c)) 10 Bm ?_ (fun hHeld=>?_)
 ·exact ⟨OB_3,d0,d1,d2,d3,d4,d5,d6,d7⟩
 refine aT 0 hHeld ?_;try simp only [pS]
 refine aT 1 hHeld ?_;try simp only [pS]
 refine aT 2 hHeld ?_;try simp only [pS]
 refine aT 3 hHeld ?_;try simp only [pS]
 refine aT 4 hHeld ?_;try simp only [pS]
 refine aT 5 hHeld ?_;try simp only [pS]
 refine aT 6 hHeld ?_;try simp only [pS]
 refine aT 7 hHeld ?_;try simp only [pS]
 refine oT 8 (fun K hK=>?_)
 (go_simp;refine CSt.out.mono ?_;rintro e9 w6 ⟨sr,Fr,rfl,orn,nr,b6⟩;have q0:w6.cell? ⟨gr,orr+k * 8,Ab⟩=Ac (J U r.id):=(b6.cell (p:=⟨_,_,Ab⟩) (by show gr<w4;omega)).trans d0;have q1:w6.cell? ⟨gr,orr+k * 8+1,Ab⟩=Ac (J U r.plan.prio):=(b6.cell (p:=⟨_,_,Ab⟩) (by show gr<w4;omega)).trans d1;have q2:w6.cell? ⟨gr,orr+k * 8+2,Ab⟩=Ac (J U r.plan.most):=(b6.cell (p:=⟨_,_,Ab⟩) (by show gr<w4;omega)).trans d2;have q3:w6.cell? ⟨gr,orr+k * 8+3,Ab⟩=Ac (J U r.plan.wait):=(b6.cell (p:=⟨_,_,Ab⟩) (by show gr<w4;omega)).trans d3;have q4:w6.cell? ⟨gr,orr+k * 8+4,Ab⟩=Ac (J U r.plan.tasks):=(b6.cell (p:=⟨_,_,Ab⟩) (by show gr<w4;omega)).trans d4;have q5:w6.cell? ⟨gr,orr+k * 8+5,Ab⟩=Ac (Aa sk.1.a sk.1.n sk.1.c):=(b6.cell (p:=⟨_,_,Ab⟩) (by show gr<w4;omega)).trans d5;have q6:w6.cell? ⟨gr,orr+k * 8+6,Ab⟩=Ac (J U r.state):=(b6.cell (p:=⟨_,_,Ab⟩) (by show gr<w4;omega)).trans d6;have q7:w6.cell? ⟨gr,orr+k * 8+7,Ab⟩=Ac (Aa sk.2.a sk.2.n sk.2.c):=(b6.cell (p:=⟨_,_,Ab⟩) (by show gr<w4;omega)).trans d7;have qf:∀ j,w6.frozen? ⟨gr,j,Ab⟩=false:=fun j=>(b6.frozen (p:=⟨_,_,Ab⟩) (by show gr<w4;omega)).trans (gP j))
 refine hK.out _ _ (fun _=>?_) ?_
 ·exact ⟨(b6.cell (p:=⟨_,_,Ab⟩) (by show ob<w4;omega)).trans OB_3,(b6.cell (p:=⟨_,_,Ab⟩) (by show gr<w4;omega)).trans d0,(b6.cell (p:=⟨_,_,Ab⟩) (by show gr<w4;omega)).trans d1,(b6.cell (p:=⟨_,_,Ab⟩) (by show gr<w4;omega)).trans d2,(b6.cell (p:=⟨_,_,Ab⟩) (by show gr<w4;omega)).trans d3,(b6.cell (p:=⟨_,_,Ab⟩) (by show gr<w4;omega)).trans d4,(b6.cell (p:=⟨_,_,Ab⟩) (by show gr<w4;omega)).trans d5,(b6.cell (p:=⟨_,_,Ab⟩) (by show gr<w4;omega)).trans d6,(b6.cell (p:=⟨_,_,Ab⟩) (by show gr<w4;omega)).trans d7⟩
 clear hK K;try simp only [pS]
 refine oT 9 (fun K hK=>?_);go_simp;refine hK.out _ _ (fun _=>?_) ?_
 ·exact ⟨(b6.cell (p:=⟨_,_,Ab⟩) (by show ob<w4;omega)).trans OB_3,(b6.cell (p:=⟨_,_,Ab⟩) (by show gr<w4;omega)).trans d0,(b6.cell (p:=⟨_,_,Ab⟩) (by show gr<w4;omega)).trans d1,(b6.cell (p:=⟨_,_,Ab⟩) (by show gr<w4;omega)).trans d2,(b6.cell (p:=⟨_,_,Ab⟩) (by show gr<w4;omega)).trans d3,(b6.cell (p:=⟨_,_,Ab⟩) (by show gr<w4;omega)).trans d4,(b6.cell (p:=⟨_,_,Ab⟩) (by show gr<w4;omega)).trans d5,(b6.cell (p:=⟨_,_,Ab⟩) (by show gr<w4;omega)).trans d6,(b6.cell (p:=⟨_,_,Ab⟩) (by show gr<w4;omega)).trans d7⟩
 clear hK K;try simp only [pS]
 refine oT 10 (fun K hK=>?_);go_simp;refine hK.out _ _ (fun aC=>absurd rfl aC) ?_;clear hK K;try simp only [pS]
 refine D6 Bm ?_ _;have b6':Below w4 w4 w6:=Bu (Br _ _).drew b6;have pP:=b6'.size;have mR:=B0.size;have pH:∀ x∈Fr,w4<=x:=nr;have jG:∀ x∈F,x<w4:=Bv.ow_lt (F:=F) (x:=y) (s:=(⟨B1,m1,e1⟩,⟨Ac ⟨gr,orr,Ab⟩,m2,e2⟩)) oy;have oy6:Bv.ow w6 F y (⟨B1,m1,e1⟩,⟨Ac ⟨gr,orr,Ab⟩,m2,e2⟩):=owB oy b6';obtain ⟨F8,oy8,kL,fK⟩:=Oh oy6 (k:=k) hk (r:=Dx r 4) (sr:=sr) orn (fun x hx bJ=>by have h1:=pH x hx;have h2:=jG x bJ;omega);have jH:Chg [gr] w6 ((((((((w6.setCell ⟨gr,orr+k * 8,Ab⟩ (J U (Dx r 4).id)).setCell ⟨gr,orr+k * 8+1,Ab⟩ (J U (Dx r 4).plan.prio)).setCell ⟨gr,orr+k * 8+2,Ab⟩ (J U (Dx r 4).plan.most)).setCell ⟨gr,orr+k * 8+3,Ab⟩ (J U (Dx r 4).plan.wait)).setCell ⟨gr,orr+k * 8+4,Ab⟩ (J U (Dx r 4).plan.tasks)).setCell ⟨gr,orr+k * 8+5,Ab⟩ (Aa sr.1.a sr.1.n sr.1.c)).setCell ⟨gr,orr+k * 8+6,Ab⟩ (J U (Dx r 4).state)).setCell ⟨gr,orr+k * 8+7,Ab⟩ (Aa sr.2.a sr.2.n sr.2.c)):=Iv (Ce.enc.cells (Dx r 4,sr)) w6 gr (orr+k * 8);have bR:=Bq (show ∀ x,x∈[gr]->x=gr from fun x hx=>by simpa using hx);have pF:=nF gr fK;have hgrl:=cE gr fK;clear OB_0 OB_1 OB_2 OB_3 OB_l;replace OB:=(OB.below b6').chg jH (fun hx=>by have:=bR.out _ hx;omega);replace RES:=(RES.below b6').chg jH (fun hx=>by have:=bR.out _ hx;omega);replace B0:=(Bu B0 b6').trans (jH.below (by have:=(Bu B0 b6').size;omega) (fun x hx=>by have:=bR.out _ hx;omega));have en1:w.heap.size+1∉F8:=fun hx=>by
  rcases kL _ hx with h | h
  ·have:=nF _ h;omega
  ·have:=pH _ h;omega
 have mK:∀ x∈F8,w<=x:=fun x hx=>by
  rcases kL _ hx with h | h
  ·have:=nF _ h;omega
  ·have:=pH _ h;omega
 clear hHeld oy oy6 b6 b6' nr orn jH CSt d0 d1 d2 d3 d4 d5 d6 d7 gP q0 q1 q2 q3 q4 q5 q6 q7 qf;generalize ((((((((w6.setCell ⟨gr,orr+k * 8,Ab⟩ (J U (Dx r 4).id)).setCell ⟨gr,orr+k * 8+1,Ab⟩ (J U (Dx r 4).plan.prio)).setCell ⟨gr,orr+k * 8+2,Ab⟩ (J U (Dx r 4).plan.most)).setCell ⟨gr,orr+k * 8+3,Ab⟩ (J U (Dx r 4).plan.wait)).setCell ⟨gr,orr+k * 8+4,Ab⟩ (J U (Dx r 4).plan.tasks)).setCell ⟨gr,orr+k * 8+5,Ab⟩ (Aa sr.1.a sr.1.n sr.1.c)).setCell ⟨gr,orr+k * 8+6,Ab⟩ (J U (Dx r 4).state)).setCell ⟨gr,orr+k * 8+7,Ab⟩ (Aa sr.2.a sr.2.n sr.2.c))=w8 at *
 obtain ⟨OB_0,OB_1,OB_2,OB_3,OB_l⟩:=OB.g4;have RES_:=RES.g4;have rf:=RES.free;go_wp2;refine Aj (Nr (DBox.row4 RES rfl _ _ _ _)) rfl ⟨(⟨B1,m1,e1⟩,⟨Ac ⟨gr,orr,Ab⟩,m2,e2⟩),F8,by rw [H.out,H2.out],by rw [H2.out];exact (by (repeat (refine Dt.ow_set Bv ?_ en1 _));exact (show Bv.ow _ F8 ⟨y.now,y.seq,y.shelf,y.runs.set k (Dx r 4)⟩ (⟨B1,m1,e1⟩,⟨Ac ⟨gr,orr,Ab⟩,m2,e2⟩) from oy8)),mK,?_⟩;repeat (first | (with_reducible exact B0) | refine Ad ?_ Bo _)
end
theorem Pv {b:Nat} {w:World} {u0 u1 u2 u3:Value} (X:DBox b [u0,u1,u2,u3] w) {v0 v1 v2 v3 v4 v5 v6 v7 v9:Value} {rest:List Value} :
  (results Tryz.f113 (v0 :: v1 :: v2 :: v3 :: v4 :: v5 :: v6 :: v7 :: .pointer (Ac ⟨b,0,Ab⟩) :: v9 :: rest).toArray).run Am w = .ok (.tuple #[.agg #[u0,u1,u2,u3],v9]) w:=by
 obtain ⟨c0,c1,c2,c3,-⟩:=X.g4;simp [results,results113,go_sem,c0,c1,c2,c3]
theorem X8 {b:Nat} {w:World} {u0 u1 u2 u3:Value} (X:DBox b [u0,u1,u2,u3] w) {v0 v1 v2 v3 v4 v5 v6 v7 v9:Value} {rest:List Value} :
  (results Tryz.f114 (v0 :: v1 :: v2 :: v3 :: v4 :: v5 :: v6 :: v7 :: .pointer (Ac ⟨b,0,Ab⟩) :: v9 :: rest).toArray).run Am w = .ok (.tuple #[.agg #[u0,u1,u2,u3],v9]) w:=by
 obtain ⟨c0,c1,c2,c3,-⟩:=X.g4;simp [results,results114,go_sem,c0,c1,c2,c3]
theorem W6 (gr o n c:Nat) (rs:List (Run×Ce.S)) (k:Nat) (G1 Fx G2:List Nat) (r:Run) (s:Sl×Sl) (u p:Nat) (w:World) (hp:w.cell? ⟨p,0,Ab⟩=Ac (J U u)) (hp':p<w) (hR:Is r u) (hF:Foc Ce w gr o n c rs k G1 Fx G2 r s) :
  Calls Am 188 #[.pointer (Ac ⟨gr,o+k * 8,Ab⟩),.pointer (Ac ⟨p,0,Ab⟩)] w (Ie gr o n c rs k G1 Fx G2 (Ji r u) s w):=by
 have C:=Bq (Zi gr o n c rs k G1 Fx G2 r s u w hR hF);go_enter func188,ntmps188;go_wp2_with fail
 refine C.out.mono ?_;rintro e w1 ⟨rfl,h1,h2⟩;have HF:=Bq (show Ie gr o n c rs k G1 Fx G2 (Ji r u) s w (.returned (.tuple #[])) w1 from ⟨rfl,h1,h2⟩);clear h1 h2 C;go_wp2;exact Aj (v:=.tuple #[]) (by simp [results,results188,go_sem]) rfl HF.out
theorem Afn (gr o n c:Nat) (rs:List (Run×Ce.S)) (k:Nat) (G1 Fx G2:List Nat) (r:Run) (s:Sl×Sl) (u p:Nat) (w:World) (hp:w.cell? ⟨p,0,Ab⟩=Ac (J U u)) (hp':p<w) (hR:Is r u) (hF:Foc Ce w gr o n c rs k G1 Fx G2 r s) :
  Calls Am 190 #[.pointer (Ac ⟨gr,o+k * 8,Ab⟩),.pointer (Ac ⟨p,0,Ab⟩)] w (Ie gr o n c rs k G1 Fx G2 (Dn r u) s w):=by
 have C:=Bq (Mq gr o n c rs k G1 Fx G2 r s u w (by have:=D7 hR.1;omega) hR hF);go_enter func190,ntmps190;go_wp2_with fail
 refine C.out.mono ?_;rintro e w1 ⟨rfl,h1,h2⟩;have HF:=Bq (show Ie gr o n c rs k G1 Fx G2 (Dn r u) s w (.returned (.tuple #[])) w1 from ⟨rfl,h1,h2⟩);clear h1 h2 C;go_wp2;exact Aj (v:=.tuple #[]) (by simp [results,results190,go_sem]) rfl HF.out
theorem Aee {y:Yard} {id tk tr:Int} (q:Gn y id tk tr=0):Dh y /\ ∃ k,∃ hk:k<y.runs.length,∃ u:Nat,Dk y id=(k:Int)/\Kh y id=y.runs[k]/\tk=(u:Int)/\Is y.runs[k] u:=by
 unfold Gn at q;by_cases p0:Dh y
 ·by_cases p1:Dk y id<0
  ·rw [if_neg (fun h=>h p0),if_pos p1] at q;cases q
  ·by_cases p2:Gh y id tk tr
   ·rcases Ez y id with hr | ⟨k,hk,hr⟩
    ·omega
    ·have HK:=Gy hk hr;have dC:(0<=tk/\tk<(y.runs[k].tasks.length:Int))/\(Cv y.runs[k] tk.toNat).state=3:=by
      unfold Gh at p2;rw [HK] at p2;exact ⟨p2.2.1,p2.2.2.1⟩
     obtain ⟨u,rfl⟩:=Int.eq_ofNat_of_zero_le dC.1.1;exact ⟨p0,k,hk,u,hr,HK,rfl,Eo p0 hk,⟨Bl,by have:=dC.1.2;omega⟩,dC.2⟩
   ·rw [if_neg (fun h=>h p0),if_neg p1,if_pos p2] at q;cases q
 ·rw [if_pos p0] at q;cases q
theorem Rv (y:Yard) (s:Sl×Sl) (id tk tr:Int) (w:World) (hl:Ca y<=2000000) (h:Bv.rd w w y s) :
  Calls Am 113 #[Dm y s,J U id,J U tk,J U tr] w (Ij (K3 y id tk tr) (Gn y id tk tr) w):=by
 have HR:=Bq (show ∀ W,Below w w W->Bv.rd W W y s from fun W hW=>Bv.rd_more (Bv.rd_below h hW) hW.size);obtain ⟨⟨A1,n1,c1⟩,⟨A2,n2,c2⟩⟩:=s;have CC:=Bq (fun W hW=>Ev y (⟨A1,n1,c1⟩,⟨A2,n2,c2⟩) W hl (HR.out W hW));have CK:=Bq (fun W hW=>Qz y (⟨A1,n1,c1⟩,⟨A2,n2,c2⟩) id tk tr W hl (HR.out W hW));have CA:=Bq (fun W hW=>E9 y (⟨A1,n1,c1⟩,⟨A2,n2,c2⟩) id W hl (HR.out W hW));clear h;obtain ⟨W,aH,X,T,RES,B0⟩:=bx3 w 27 [J U y.now,J U y.seq,Aa A1 n1 c1,Aa A2 n2 c2] 3 [J U tk] 27 [J U 0,J U 0,Aa Ab 0 0,Aa Ab 0 0];go_enter func113,ntmps113;go_wp2_with fail
 rw [<-aH.out];clear aH;refine (CC.out _ B0).mono ?_;rintro e1 w1 ⟨⟨⟨B1,m1,e1⟩,⟨B2,m2,e2⟩⟩,F,rfl,oy,nF,b1⟩;have dP:=RES.lt;have b2:Below w1 w1 (w1.alloc (.cells #[J U y.now,J U y.seq,Aa B1 m1 e1,Aa B2 m2 e2] 27)):=Bt;have OB:DBox w1 (Gv y (⟨B1,m1,e1⟩,⟨B2,m2,e2⟩)) _:=DBox.new 27 [J U y.now,J U y.seq,Aa B1 m1 e1,Aa B2 m2 e2] w1 (b:=w1) rfl;have bV:=Bq (Bv.ow_lt (F:=F) (x:=y) (s:=(⟨B1,m1,e1⟩,⟨B2,m2,e2⟩)) oy);have cZ:=Bq (show ∀ x∈F,w.heap.size+3<=x from fun x hx=>by have:=nF x hx;omega);replace oy:Bv.ow _ F y (⟨B1,m1,e1⟩,⟨B2,m2,e2⟩):=owB oy b2;have b12:=Bu b1 b2;replace X:=X.below b12;replace T:=T.below b12;replace RES:=RES.below b12;replace B0:=Bu B0 b12;have bS:=b1.size;clear b1 b2 b12 CC nF;go_upto_region 2 with fail
 have cW:w1.heap.size∉F:=fun h=>by have:=bV.out _ h;omega
 generalize w1.heap.size=ob at *
 generalize w1.alloc (.cells #[J U y.now,J U y.seq,Aa B1 m1 e1,Aa B2 m2 e2] 27)=w2 at *
 have X_:=X.g4;obtain ⟨T_0,T_l⟩:=T.g1;go_wp2_with fail
 refine (CK.out _ B0).mono ?_;rintro e1' w3 ⟨rfl,b3⟩;clear X_;clear T_0 T_l;replace X:=X.below b3;replace T:=T.below b3;replace RES:=RES.below b3;replace OB:=OB.below b3;replace B0:=Bu B0 b3;replace oy:Bv.ow w3 F y (⟨B1,m1,e1⟩,⟨B2,m2,e2⟩):=owB oy b3;clear b3 CK;by_cases q:Gn y id tk tr=0;case neg =>
  have q2:(Gn y id tk tr == 0)=false:=beq_eq_false_iff_ne.2 q;have H:=Bq (show K3 y id tk tr=y from if_neg q);clear q;have RES_:=RES.g4;have OB_:=OB.g4;have rf:=RES.free;go_wp2;have en1:w.heap.size+1+1∉F:=fun hx=>by have:=cZ.out _ hx;omega
  refine Aj (Pv (DBox.row4 RES rfl _ _ _ _)) rfl ⟨(⟨B1,m1,e1⟩,⟨B2,m2,e2⟩),F,by rw [H.out],by rw [H.out];exact Bv.set4 (F:=F) (x:=y) (s:=(⟨B1,m1,e1⟩,⟨B2,m2,e2⟩)) oy en1,fun x hx=>by have:=cZ.out x hx;omega,?_⟩;repeat (first | (with_reducible exact B0) | refine Ad ?_ Bo _)
 have q2:(Gn y id tk tr == 0)=true:=by simp [q]
 have H:=Bq (show K3 y id tk tr=Gd y (Dk y id).toNat (Ji (Kh y id) tk.toNat) from if_pos q);obtain ⟨pG,k,hk,u,hr,tM,rfl,aP⟩:=Aee q;have HR2:=Bq hr;have HK:=Bq tM;have pG:=Bq pG;have aP:=Bq aP;clear hr tM q;have X_:=X.g4;go_wp2_with fail
 refine (CA.out _ B0).mono ?_;rintro e2' w4 ⟨rfl,b4⟩;rw [HR2.out];clear X_;replace T:=T.below b4;replace RES:=RES.below b4;replace OB:=OB.below b4;replace B0:=Bu B0 b4;replace oy:Bv.ow w4 F y (⟨B1,m1,e1⟩,⟨B2,m2,e2⟩):=owB oy b4;clear b4 CA X;have qE:=T.lt;have CH:=Bq (J8 188 (w+1) (Nk func188 Bm Bm) y ob (⟨B1,m1,e1⟩,⟨B2,m2,e2⟩) F k (Ji y.runs[k] u) w4 pG.out.2.2.1 (fun s hs=>by have:=(pG.out.2.2.2.1 s hs).1;omega) (by have:=pG.out.2.1;omega) hk (by rw [O3];have:=D7 aP.out.1;omega) (by have:=D7 aP.out.1;omega) OB oy cW
  (Bq fun W gr o n c rs G1 Fx G2 sr hW hF=>W6 gr o n c rs k G1 Fx G2 y.runs[k] sr u (w+1) W ((T.below hW).cell 0 _ rfl) (T.below hW).lt aP.out hF))
 go_wp2_with fail
 refine CH.out.mono ?_;rintro e3 w5 ⟨rfl,F',OB',oy',nF',hc⟩;have H2:K3 y id u tr=Gd y k (Ji y.runs[k] u):=by rw [H.out,HR2.out,HK.out];rfl
 rw [<-H2] at OB' oy';clear H2;have bM:=B0.size;replace B0:=B0.trans (hc.below (base:=w) bM (fun x hx=>by
  rcases List.mem_cons.1 hx with rfl | hx
  ·omega
  ·have:=cZ.out x hx;omega))
 have tC:w.heap.size+1+1∉ob :: F:=fun hx=>by
  rcases List.mem_cons.1 hx with e | hx
  ·omega
  ·have:=cZ.out _ hx;omega
 have RL:=RES.lt;replace RES:=RES.chg hc tC;clear OB CH T hc;have OB:=OB';have RES_:=RES.g4;have OB_:=OB.g4;have rf:=RES.free;go_wp2;have en1:w.heap.size+1+1∉F':=fun hx=>by rcases nF' _ hx with h | h;exact tC (List.mem_cons_of_mem _ h);omega
 refine Aj (Pv (DBox.row4 RES rfl _ _ _ _)) rfl ⟨(⟨B1,m1,e1⟩,⟨B2,m2,e2⟩),F',rfl,Bv.set4 (F:=F') (x:=K3 y id u tr) (s:=(⟨B1,m1,e1⟩,⟨B2,m2,e2⟩)) oy' en1,fun x hx=>by rcases nF' x hx with h | h;(have:=cZ.out x h;omega);omega,?_⟩;repeat (first | (with_reducible exact B0) | refine Ad ?_ Bo _)
theorem Zo (y:Yard) (s:Sl×Sl) (id tk tr:Int) (w:World) (hl:Ca y<=2000000) (h:Bv.rd w w y s) :
  Calls Am 114 #[Dm y s,J U id,J U tk,J U tr] w (Ij (K2 y id tk tr) (Gn y id tk tr) w):=by
 have HR:=Bq (show ∀ W,Below w w W->Bv.rd W W y s from fun W hW=>Bv.rd_more (Bv.rd_below h hW) hW.size);obtain ⟨⟨A1,n1,c1⟩,⟨A2,n2,c2⟩⟩:=s;have CC:=Bq (fun W hW=>Ev y (⟨A1,n1,c1⟩,⟨A2,n2,c2⟩) W hl (HR.out W hW));have CK:=Bq (fun W hW=>Qz y (⟨A1,n1,c1⟩,⟨A2,n2,c2⟩) id tk tr W hl (HR.out W hW));have CA:=Bq (fun W hW=>E9 y (⟨A1,n1,c1⟩,⟨A2,n2,c2⟩) id W hl (HR.out W hW));clear h;obtain ⟨W,aH,X,T,RES,B0⟩:=bx3 w 27 [J U y.now,J U y.seq,Aa A1 n1 c1,Aa A2 n2 c2] 3 [J U tk] 27 [J U 0,J U 0,Aa Ab 0 0,Aa Ab 0 0];go_enter func114,ntmps114;go_wp2_with fail
 rw [<-aH.out];clear aH;refine (CC.out _ B0).mono ?_;rintro e1 w1 ⟨⟨⟨B1,m1,e1⟩,⟨B2,m2,e2⟩⟩,F,rfl,oy,nF,b1⟩;have dP:=RES.lt;have b2:Below w1 w1 (w1.alloc (.cells #[J U y.now,J U y.seq,Aa B1 m1 e1,Aa B2 m2 e2] 27)):=Bt;have OB:DBox w1 (Gv y (⟨B1,m1,e1⟩,⟨B2,m2,e2⟩)) _:=DBox.new 27 [J U y.now,J U y.seq,Aa B1 m1 e1,Aa B2 m2 e2] w1 (b:=w1) rfl;have bV:=Bq (Bv.ow_lt (F:=F) (x:=y) (s:=(⟨B1,m1,e1⟩,⟨B2,m2,e2⟩)) oy);have cZ:=Bq (show ∀ x∈F,w.heap.size+3<=x from fun x hx=>by have:=nF x hx;omega);replace oy:Bv.ow _ F y (⟨B1,m1,e1⟩,⟨B2,m2,e2⟩):=owB oy b2;have b12:=Bu b1 b2;replace X:=X.below b12;replace T:=T.below b12;replace RES:=RES.below b12;replace B0:=Bu B0 b12;have bS:=b1.size;clear b1 b2 b12 CC nF;go_upto_region 2 with fail
 have cW:w1.heap.size∉F:=fun h=>by have:=bV.out _ h;omega
 generalize w1.heap.size=ob at *
 generalize w1.alloc (.cells #[J U y.now,J U y.seq,Aa B1 m1 e1,Aa B2 m2 e2] 27)=w2 at *
 have X_:=X.g4;obtain ⟨T_0,T_l⟩:=T.g1;go_wp2_with fail
 refine (CK.out _ B0).mono ?_;rintro e1' w3 ⟨rfl,b3⟩;clear X_;clear T_0 T_l;replace X:=X.below b3;replace T:=T.below b3;replace RES:=RES.below b3;replace OB:=OB.below b3;replace B0:=Bu B0 b3;replace oy:Bv.ow w3 F y (⟨B1,m1,e1⟩,⟨B2,m2,e2⟩):=owB oy b3;clear b3 CK;by_cases q:Gn y id tk tr=0;case neg =>
  have q2:(Gn y id tk tr == 0)=false:=beq_eq_false_iff_ne.2 q;have H:=Bq (show K2 y id tk tr=y from if_neg q);clear q;have RES_:=RES.g4;have OB_:=OB.g4;have rf:=RES.free;go_wp2;have en1:w.heap.size+1+1∉F:=fun hx=>by have:=cZ.out _ hx;omega
  refine Aj (X8 (DBox.row4 RES rfl _ _ _ _)) rfl ⟨(⟨B1,m1,e1⟩,⟨B2,m2,e2⟩),F,by rw [H.out],by rw [H.out];exact Bv.set4 (F:=F) (x:=y) (s:=(⟨B1,m1,e1⟩,⟨B2,m2,e2⟩)) oy en1,fun x hx=>by have:=cZ.out x hx;omega,?_⟩;repeat (first | (with_reducible exact B0) | refine Ad ?_ Bo _)
 have q2:(Gn y id tk tr == 0)=true:=by simp [q]
 have H:=Bq (show K2 y id tk tr=Gd y (Dk y id).toNat (Dn (Kh y id) tk.toNat) from if_pos q);obtain ⟨pG,k,hk,u,hr,tM,rfl,aP⟩:=Aee q;have HR2:=Bq hr;have HK:=Bq tM;have pG:=Bq pG;have aP:=Bq aP;clear hr tM q;have X_:=X.g4;go_wp2_with fail
 refine (CA.out _ B0).mono ?_;rintro e2' w4 ⟨rfl,b4⟩;rw [HR2.out];clear X_;replace T:=T.below b4;replace RES:=RES.below b4;replace OB:=OB.below b4;replace B0:=Bu B0 b4;replace oy:Bv.ow w4 F y (⟨B1,m1,e1⟩,⟨B2,m2,e2⟩):=owB oy b4;clear b4 CA X;have qE:=T.lt;have CH:=Bq (J8 190 (w+1) (Nk func190 Bm Bm) y ob (⟨B1,m1,e1⟩,⟨B2,m2,e2⟩) F k (Dn y.runs[k] u) w4 pG.out.2.2.1 (fun s hs=>by have:=(pG.out.2.2.2.1 s hs).1;omega) (by have:=pG.out.2.1;omega) hk (by rw [Ic];have:=D7 aP.out.1;omega) (by have:=D7 aP.out.1;omega) OB oy cW
  (Bq fun W gr o n c rs G1 Fx G2 sr hW hF=>Afn gr o n c rs k G1 Fx G2 y.runs[k] sr u (w+1) W ((T.below hW).cell 0 _ rfl) (T.below hW).lt aP.out hF))
 go_wp2_with fail
 refine CH.out.mono ?_;rintro e3 w5 ⟨rfl,F',OB',oy',nF',hc⟩;have H2:K2 y id u tr=Gd y k (Dn y.runs[k] u):=by rw [H.out,HR2.out,HK.out];rfl
 rw [<-H2] at OB' oy';clear H2;have bM:=B0.size;replace B0:=B0.trans (hc.below (base:=w) bM (fun x hx=>by
  rcases List.mem_cons.1 hx with rfl | hx
  ·omega
  ·have:=cZ.out x hx;omega))
 have tC:w.heap.size+1+1∉ob :: F:=fun hx=>by
  rcases List.mem_cons.1 hx with e | hx
  ·omega
  ·have:=cZ.out _ hx;omega
 have RL:=RES.lt;replace RES:=RES.chg hc tC;clear OB CH T hc;have OB:=OB';have RES_:=RES.g4;have OB_:=OB.g4;have rf:=RES.free;go_wp2;have en1:w.heap.size+1+1∉F':=fun hx=>by rcases nF' _ hx with h | h;exact tC (List.mem_cons_of_mem _ h);omega
 refine Aj (X8 (DBox.row4 RES rfl _ _ _ _)) rfl ⟨(⟨B1,m1,e1⟩,⟨B2,m2,e2⟩),F',rfl,Bv.set4 (F:=F') (x:=K2 y id u tr) (s:=(⟨B1,m1,e1⟩,⟨B2,m2,e2⟩)) oy' en1,fun x hx=>by rcases nF' x hx with h | h;(have:=cZ.out x h;omega);omega,?_⟩;repeat (first | (with_reducible exact B0) | refine Ad ?_ Bo _)
theorem Enc.flat_take {α:Type} (e:Enc α) (l:List α) (k:Nat) (hk:k<=l.length):(l.take k).flatMap e.cells=(l.flatMap e.cells).take (k * e.sz):=by
 have h:l.flatMap e.cells=(l.take k).flatMap e.cells ++ (l.drop k).flatMap e.cells:=by rw [<-List.flatMap_append,List.take_append_drop]
 rw [h,List.take_left' (by rw [e.flat_length,Az,Nat.min_eq_left hk])]
theorem Enc.flat_drop {α:Type} (e:Enc α) (l:List α) (k:Nat) (hk:k<=l.length):(l.drop k).flatMap e.cells=(l.flatMap e.cells).drop (k * e.sz):=by
 have h:l.flatMap e.cells=(l.take k).flatMap e.cells ++ (l.drop k).flatMap e.cells:=by rw [<-List.flatMap_append,List.take_append_drop]
 rw [h,List.drop_left' (by rw [e.flat_length,Az,Nat.min_eq_left hk])]
theorem Tj {α:Type} {P:Program} (w:World) (t ty E:TypeId) (i:TypeInfo) (ht:P.underlying t=Ac (.slice E)) (hi:P.info? E=Ac i) {e:Enc α} (cH:i.size=e.sz) (bM:0<e.sz) {base g n cap B:Nat} {l:List α}
  (h:Ow e E w base (Aa (Ac ⟨g,0,Ab⟩) n cap) l) (k:Nat) (ad:Addr) (m c:Nat) (ys:List α) (hr:Rd e w B (Aa (Ac ad) m c) ys) (gY:k+m<=l.length) :
  ∃ w',(Builtin.append_ #[t,t] ty #[Aa (Ac ⟨g,0,Ab⟩) k cap,Aa (Ac ad) m c]).run P w = .ok (Aa (Ac ⟨g,0,Ab⟩) (k+m) cap) w' /\
   Ow e E w' base (Aa (Ac ⟨g,0,Ab⟩) n cap) (l.take k ++ ys ++ l.drop (k+m))/\w.grownBy w' (Ac g):=by
 obtain ⟨rfl,hA⟩:=Ad3 bM hr;have hnews:∀ j u,(ys.flatMap e.cells)[j]? = Ac u->w.cell? (ad.add j)=Ac u:=by
  intro j u hu;rcases Nat.eq_zero_or_pos ys.length with h0 | h0
  ·rw [List.eq_nil_of_length_eq_zero h0] at hu;simp at hu
  ·obtain ⟨a',ha,hc⟩:=hA h0;injection ha with ha
   subst ha;exact hc j u hu
 have h1:∀ u∈ys.flatMap e.cells,u.oneCell'=true:=by
  intro u hu;obtain ⟨y,_,hy⟩:=List.mem_flatMap.1 hu;exact e.one y u hy
 obtain ⟨jX,h2⟩:=h;rcases h2 with ⟨hv,_⟩ | ⟨g',cap',cur,hv,hb,hg,hc,hm,hs,dC⟩
 ·simp at hv
 simp only [Value.slice.injEq,Option.some.injEq,Addr.mk.injEq,and_true] at hv;obtain ⟨rfl,rfl,rfl⟩:=hv;have hkm:(k+ys.length) * e.sz<=l.length * e.sz:=Nat.mul_le_mul_right _ gY;have qI:l.length * e.sz<=cap * e.sz:=Nat.mul_le_mul_right _ hc;rw [Nat.add_mul] at hkm;have hX:(l.flatMap e.cells).length=l.length * e.sz:=e.flat_length l;have hY:(ys.flatMap e.cells).length=ys.length * e.sz:=e.flat_length ys;have eU:=run_append_room (P:=P) w t ty E i ht hi g k cap cur hg ad ys.length c (ys.flatMap e.cells) (by rw [e.flat_length,cH]) hnews h1 Bl (by rw [e.flat_length,cH,hs];omega);have hL:(l.take k ++ ys ++ l.drop (k+ys.length)).length=l.length:=by simp;omega
 refine ⟨_,eU,⟨by rw [e.flat_length],.inr ⟨g,cap,_,by rw [hL],hb,setRow_heap w g cur _ E _ hg,by rw [hL];exact hc,hm,?_,?_⟩⟩,⟨rfl,rfl,rfl,Bn,fun j _ hj=>setRow_other w g j _ (fun e=>hj (by rw [e]))⟩⟩
 ·simp only [List.size_toArray,Bd,Az,List.length_drop,Array.length_toList,hY,cH,hs];omega
 ·rw [hL,List.flatMap_append,List.flatMap_append,e.flat_take l k Bl,e.flat_drop l _ gY,cH,hY];obtain ⟨R,hT⟩:∃ R,cur.toList=l.flatMap e.cells ++ R:=⟨cur.toList.drop (l.length * e.sz),by rw [<-dC,List.take_append_drop]⟩
  simp only [hT];have e1:(l.flatMap e.cells ++ R).take (k * e.sz)=(l.flatMap e.cells).take (k * e.sz):=List.take_append_of_le_length (by rw [hX];omega);have e2:(l.flatMap e.cells ++ R).drop (k * e.sz+ys.length * e.sz)=(l.flatMap e.cells).drop (k * e.sz+ys.length * e.sz) ++ R:=List.drop_append_of_le_length (by rw [hX];omega);rw [e1,e2,<-List.append_assoc,List.take_left' (by simp only [Bd,Az,List.length_drop,hX,hY];omega),Nat.add_mul]
theorem Ow.clear {α:Type} {e:Enc α} {E:TypeId} {w:World} {base g n cap:Nat} {l:List α} (h:Ow e E w base (Aa (Ac ⟨g,0,Ab⟩) n cap) l) (k:Nat) (us:List Value) (hk:k * e.sz+us.length<=l.length * e.sz) (kU:k<=l.length) :
  Ow e E (Hz w g (k * e.sz) us) base (Aa (Ac ⟨g,0,Ab⟩) k cap) (l.take k)/\w.grownBy (Hz w g (k * e.sz) us) (Ac g):=by
 have hn:n=l.length:=by
  rcases h.form with ⟨h1,_⟩ | ⟨_,_,h1,_⟩
  ·simp at h1
  ·simp only [Value.slice.injEq] at h1;exact h1.2.1
 subst hn;obtain ⟨⟨h1,h2⟩,h3⟩:=Tt (cap:=cap) l.length us _ w (k * e.sz) h;refine ⟨?_,h3⟩;rcases h2 with ⟨hv,_⟩ | ⟨g',cap',cur,hv,hb,hg,hc,hm,hs,ht⟩
 ·simp at hv
 ·simp only [Value.slice.injEq,Option.some.injEq,Addr.mk.injEq,and_true] at hv;obtain ⟨rfl,-,rfl⟩:=hv;refine ⟨by rw [e.flat_length],.inr ⟨_,_,cur,by rw [Az,Nat.min_eq_left kU],hb,hg,by rw [Az];omega,hm,hs,?_⟩⟩;rw [Az,Nat.min_eq_left kU,e.flat_take _ _ kU];have h5:cur.toList.take (k * e.sz)=(cur.toList.take (l.length * e.sz)).take (k * e.sz):=by rw [List.take_take,Nat.min_eq_left (Nat.mul_le_mul_right _ kU)]
  rw [h5,ht,Rb _ _ _ (by rw [e.flat_length];omega),List.append_assoc,List.take_left' (by rw [Az,e.flat_length];omega)]
theorem W7 {P:Program} {o:Oper} {a:Act} {K:Act->World->Prop} {Q:Exit->Act->World->Prop} (w:World) (s x:Operand) {t:TypeId} (ho:o.op = .call { callee:=.builtin .append,args:=#[s,x],argTypes:=#[t,t] })
  {v u v':Value} {w':World} (hs:a.eval s=v) (hx:a.eval x=u) (eU:(Builtin.append_ #[t,t] o.type #[v,u]).run P w = .ok v' w') (h:K (a.put o.dst v') w'):o.wp P a w K Q:=by
 unfold Oper.wp execOp;simp only [ho,resolve,invoke,builtin,Sem.run_bind,Sem.run_pure,Result.andThen_ok,List.map_toArray,List.map_cons,List.map_nil,hs,hx,eU];exact h
theorem Chg.of_grown {w w':World} {g:Nat} (h:w.grownBy w' (Ac g)):Chg [g] w w':=⟨h.os,h.tape,h.output,h.size,fun k hk hn=>h.block k hk (fun e=>hn (by injection e with e;simp [e]))⟩
theorem Ab0 (rs:List (Run×(Sl×Sl))) (g c base i:Nat) (w:World) (hi:i<rs.length) (hl:rs.length<=2000000) (h:Ow Ce.enc 167 w base (Aa (Ac ⟨g,0,Ab⟩) rs.length c) rs) :
  Calls Am 196 #[Aa (Ac ⟨g,0,Ab⟩) rs.length c,J U (i:Int),J U ((i:Int)+1)] w fun e w'=>e = .returned (Aa (Ac ⟨g,0,Ab⟩) (rs.length - 1) c)/\Ow Ce.enc 167 w' base (Aa (Ac ⟨g,0,Ab⟩) (rs.length - 1) c) (rs.take i ++ rs.drop (i+1))/\w.grownBy w' (Ac g):=by
 obtain ⟨j0,cJ,jz0,jz1,jz2⟩:=info_parts Kf;have hR:=Rd.of_own h;have cI:rs.length<=c:=hR.cap;have h1:(0:Int)<=(i:Int):=Bl;have h2:(0:Int)<=(i:Int)+1:=Bl;have h3:(i:Int)<=(i:Int)+1:=Bl;have h4:(i:Int)+1<=(rs.length:Int):=Bl;have h5:(rs.length:Int)<=(c:Int):=Bl;have h6:(i:Int)<=(c:Int):=Bl;have h7:((i:Int) == (i:Int)+1)=false:=by simp;omega
 have h8:((i:Int)+1).toNat=i+1:=Bl;go_enter func196,ntmps196;go_upto_region 5 with fail
 refine Go.wp_region_noPanic ?_;refine wp_region_held_drew (S:=fun _=>True) Bm trivial (fun hHeld=>?_);have hd:Ow Ce.enc 167 w.drew base (Aa (Ac ⟨g,0,Ab⟩) rs.length c) rs:=h.below (Br _ _).drew;have gd:w.grownBy w.drew (Ac g):=(Chg.of_below [g] (Br w w).drew).toGrown;generalize w.drew=w1 at *
 have hR1:=Rd.of_own hd;have hc0:¬ c=0:=Bl;refine tY 0 ?_
 (try simp only [pS])
 refine tY 1 ?_
 (try simp only [pS])
 refine tY 2 ?_
 (try simp only [pS])
 refine tY 3 ?_
 (try simp only [pS])
 refine tY 4 ?_
 (try simp only [pS])
 obtain ⟨ad,hadv,gR⟩:∃ ad:Addr,((if c=i+1 then Ac (⟨g,0,Ab⟩:Addr) else Ac ⟨g,(i+1) * 8,Ab⟩)=Ac ad)/\Rd Ce.enc w1 w1 (Aa (Ac ad) (rs.length - (i+1)) (c - (i+1))) (rs.drop (i+1)):=by
  by_cases hc:c=i+1
  ·refine ⟨⟨g,0,Ab⟩,by rw [if_pos hc],?_⟩;rw [List.drop_eq_nil_of_le Bl,show rs.length - (i+1)=0 by omega];exact ⟨_,_,rfl,Ag _,fun h=>absurd h Bn⟩
  ·refine ⟨⟨g,(i+1) * 8,Ab⟩,by rw [if_neg hc],?_⟩;have h9:=hR1.dropM (i+1) Bl;have e:(Ac (⟨g,0,Ab⟩:Addr)).map (fun x=>x.add ((i+1) * Ce.enc.sz))=Ac ⟨g,(i+1) * 8,Ab⟩:=by
    show Ac ((⟨g,0,Ab⟩:Addr).add ((i+1) * 8))=_;rw [Addr.add_lit,Nat.zero_add]
   rw [e] at h9;exact h9
 obtain ⟨w2,hka,jQ,kT⟩:=Tj (P:=Am) w1 25 25 167 j0 underlying25 cJ jz1 (e:=Ce.enc) Bp hd i ad _ _ _ gR Bl;obtain ⟨q,hq⟩:∃ q,q+1=rs.length:=⟨rs.length - 1,Bl⟩
 rw [show i+(rs.length - (i+1))=q by omega] at hka jQ;have hL:(rs.take i ++ rs.drop (i+1) ++ rs.drop q).length=rs.length:=by simp;omega
 refine tY 5 ?_
 (try simp only [pS])
 refine rC 6 (fun K_ hK=>?_);refine W7 w1 (.tmp 22) (.tmp 25) rfl rfl rfl hka ?_;refine hK.out _ _ trivial (fun hHeld=>?_);clear hK K_
 (try simp only [pS])
 refine rC 7 (fun K_ hK=>?_);go_simp;refine hK.out _ _ trivial (fun hHeld=>?_);clear hK K_
 (try simp only [pS])
 refine wpAnyH_done Bm ?_ _;refine NoPanic.normal ?_;clear hka hHeld hadv gR hR1;have hR2:=Rd.of_own jQ;have hf2:=fun j=>jQ.free j;have kz:∀ w,(zeroValue 167).run Am w = .ok (.agg #[J U 0,J U 0,J U 0,J U 0,J U 0,Aa Ab 0 0,J U 0,Aa Ab 0 0]) w:=fun w=>by
  simp [zeroValue,typeInfo,cJ,jz0]
 have kc:=Ny (P:=Am) w2 25 167 0 (.agg #[J U 0,J U 0,J U 0,J U 0,J U 0,Aa Ab 0 0,J U 0,Aa Ab 0 0]) underlying25 kz g (q * 8) (rs.length - q) (c - q) Bl (fun v hv=>by
   simp [Value.cells] at hv;first | (rcases hv with rfl | rfl<;>rfl) | (rcases hv with rfl | rfl | rfl<;>rfl) | (rcases hv with rfl | rfl | rfl | rfl<;>rfl) | (rcases hv with (rfl | rfl) | rfl<;>rfl)) (fun x hx=>by
   have dV:x<(rs.length - q) * 8:=hx
   have:=hR2.some_ Bp (q * 8+x) (by
    show _<_ * 8;rw [hL];omega)
   rw [Nat.zero_add] at this;exact this) hf2
 have hq0:(0:Int)<=(q:Int):=Bl;have hq1:(q:Int)<=(rs.length:Int):=Bl;have hcq:¬ c=q:=Bl;obtain ⟨uX,rV⟩:=jQ.clear q (Builtin.zeroCells #[J U 0,J U 0,J U 0,J U 0,J U 0,Aa Ab 0 0,J U 0,Aa Ab 0 0] (rs.length - q)).toList (by
  have e:(Builtin.zeroCells #[J U 0,J U 0,J U 0,J U 0,J U 0,Aa Ab 0 0,J U 0,Aa Ab 0 0] (rs.length - q)).toList.length=(rs.length - q) * 8:=by simp [Builtin.zeroCells]
  rw [e,hL];show q * 8+_<=_ * 8;omega) (by rw [hL];omega)
 rw [List.take_left' (by simp;omega)] at uX;have HF:=Bq (show Ow Ce.enc 167 _ base (Aa (Ac ⟨g,0,Ab⟩) (rs.length - 1) c) (rs.take i ++ rs.drop (i+1))/\w.grownBy _ (Ac g) from ⟨by rw [show rs.length - 1=q by omega];exact uX,(gd.trans kT).trans rV⟩);have hq':=Bq hq;clear uX rV gd kT hR2 jQ hq hd;go_wp2;go_ret;exact ⟨by rw [show rs.length - 1=q by have:=hq'.out;omega];rfl,HF.out⟩
theorem Zp (y:Yard) (s:Sl×Sl) (w:World) (hl:Ca y<=2000000) (hY:Dh y) (h:Bv.rd w w y s) :
  Calls Am 192 #[Dm y s] w (Df (Dt.list (Dt.flats Ip)) slV ((Fk y y.runs.length).map (It y)) w):=by
 obtain ⟨⟨A1,n1,c1⟩,⟨A2,n2,c2⟩⟩:=s;obtain rfl:n2=y.runs.length:=RdL.at1 (s:=⟨A2,n2,c2⟩) h.2;have CX:=Bq (fun W (hW:Below w w W)=>show RdL Ce W w.heap.size (Aa A2 y.runs.length c2) y.runs from (Bv.rd_below (x:=y) (s:=(⟨A1,n1,c1⟩,⟨A2,y.runs.length,c2⟩)) h hW).2);have nD:y.runs.length<=8:=hY.2.2.2.2.2.2.1;have HP:=Bq hY;clear h hY;obtain ⟨it,i0,z0,z1,z2⟩:=info_parts Xz;obtain ⟨W,aH,X,B0⟩:=bx1 w 27 [J U y.now,J U y.seq,Aa A1 n1 c1,Aa A2 y.runs.length c2];go_enter func192,ntmps192;go_wp2;rw [<-aH.out];clear aH;go_loopw [3,11] (fun v i wr=>∃ k:Nat,k<=y.runs.length/\i = J U k/\Hid (Bls (Dt.flats Ip) 32 wr (w+1) v ((Fk y k).map (It y)))/\DBox w [J U y.now,J U y.seq,Aa A1 n1 c1,Aa A2 y.runs.length c2] wr/\Below w w wr) (fun _ i _=>y.runs.length - (intOf i).toNat);case atStart=>exact ⟨0,Ag _,rfl,⟨[],rfl,Bld.nil _ _ _ _⟩,X,B0⟩
 case round =>
  clear X B0;obtain ⟨k,hk,rfl,hB,X,hb⟩:=hrel;have mX:=X.lt;by_cases aA:k<y.runs.length
  ·have aB:(k:Int)<(y.runs.length:Int):=Bl;have cL:(0:Int)<=(k:Int):=Bl;obtain ⟨b,o,⟨⟨A8,n8,c8⟩,⟨At,nt,ct⟩⟩,rfl,aK,cM,e0,e1,e2,e3,e4,e5,e6,e7⟩:=(CX.out w (Br _ _)).run aA;obtain rfl:nt=y.runs[k].tasks.length:=RdL.at1 (s:=⟨At,nt,ct⟩) cM.2;have HT:=Bq (fun W (hW:Below w w W)=>show RdL C7 W w.heap.size (Aa At y.runs[k].tasks.length ct) y.runs[k].tasks from RdL.below cM.2 hW);clear cM;replace e0:=(hb.cell (p:=⟨b,_,Ab⟩) aK).trans e0;replace e1:=(hb.cell (p:=⟨b,_,Ab⟩) aK).trans e1;replace e2:=(hb.cell (p:=⟨b,_,Ab⟩) aK).trans e2;replace e3:=(hb.cell (p:=⟨b,_,Ab⟩) aK).trans e3;replace e4:=(hb.cell (p:=⟨b,_,Ab⟩) aK).trans e4;replace e5:=(hb.cell (p:=⟨b,_,Ab⟩) aK).trans e5;replace e6:=(hb.cell (p:=⟨b,_,Ab⟩) aK).trans e6;replace e7:=(hb.cell (p:=⟨b,_,Ab⟩) aK).trans e7;have R:=DBox.new 167 [J U y.runs[k].id,J U y.runs[k].plan.prio,J U y.runs[k].plan.most,J U y.runs[k].plan.wait,J U y.runs[k].plan.tasks,Aa A8 n8 c8,J U y.runs[k].state,Aa At y.runs[k].tasks.length ct] wr (b:=wr) rfl;have ha:Below wr wr (wr.alloc (.cells #[J U y.runs[k].id,J U y.runs[k].plan.prio,J U y.runs[k].plan.most,J U y.runs[k].plan.wait,J U y.runs[k].plan.tasks,Aa A8 n8 c8,J U y.runs[k].state,Aa At y.runs[k].tasks.length ct] 167)):=Bt;have X_:=X.g4;go_upto_region 5 with fail
   clear X_;have hvr:=Bq (show ∀ v z,Bls (Dt.flats Ip) 32 wr (w+1) v ((Fk y k).map (It y))->v.ownBlock=Ac z->z≠wr.heap.size from fun v z ⟨rs,hm,nJ⟩ hz=>by have h1:=nJ.ow.within z hz;omega);have hvr2:=fun z=>hvr.out _ z hB.out;replace X:=X.below ha;replace hb:=Bu hb ha;have mT:=Bq (hB.out.below ha);have dP:=R.lt;have tC:w.heap.size+1<=wr.heap.size:=mX;clear e0 e1 e2 e3 e4 e5 e6 e7 aK ha hB hvr;generalize wr.alloc (.cells #[J U y.runs[k].id,J U y.runs[k].plan.prio,J U y.runs[k].plan.most,J U y.runs[k].plan.wait,J U y.runs[k].plan.tasks,Aa A8 n8 c8,J U y.runs[k].state,Aa At y.runs[k].tasks.length ct] 167)=w1 at *
   generalize wr.heap.size=rb at *
   have R_:=R.g8;go_wp2;clear R_;go_loopw [3,18] (fun vv i wr=>∃ (n:Nat) (v:Value),n<=y.runs[k].tasks.length/\i = J U n/\v=vv/\Hid (Bls (Dt.flats Ip) 32 wr (w+1) v ((Fk y k ++ Ja y k n).map (It y)))/\Hid (∀ z,v.ownBlock=Ac z->z≠rb)/\DBox w [J U y.now,J U y.seq,Aa A1 n1 c1,Aa (Ac ⟨b,o,Ab⟩) y.runs.length c2] wr/\DBox rb [J U y.runs[k].id,J U y.runs[k].plan.prio,J U y.runs[k].plan.most,J U y.runs[k].plan.wait,J U y.runs[k].plan.tasks,Aa A8 n8 c8,J U y.runs[k].state,Aa At y.runs[k].tasks.length ct] wr/\Below w w wr) (fun _ i _=>y.runs[k].tasks.length - (intOf i).toNat);case atStart=>exact ⟨0,_,Ag _,rfl,rfl,by rw [Vx,List.append_nil];exact mT,Bq hvr2,X,R,hb⟩
   case round =>
    clear X R hb mT hvr2 dP;obtain ⟨n,v,hn,rfl,rfl,hB,jP,X,R,hb⟩:=hrel;by_cases fF:n<y.runs[k].tasks.length
    ·have fI:=(D7 (Eo HP.out aA)).2;have nI:(n:Int)<(y.runs[k].tasks.length:Int):=Bl;have uV:(0:Int)<=(n:Int):=Bl;obtain ⟨b',o',_,rfl,bI,_,d0,d1,d2,d3⟩:=(HT.out wr hb).task fF;have hU:=Bq (fun hs=>Vy HP.out aA fF hs);have hJ:=Bq (show Cv (Ha y k) n=y.runs[k].tasks[n] by rw [Ex aA,Cu fF]);have hRow:Hid (It y (k,n)=[y.runs[k].id,(n:Int),y.runs[k].tasks[n].try_]):=by
      show It y (k,n)=_;unfold It;rw [hJ.out,Ex aA]
     have aF:=Bq (show (Fk y k ++ Ja y k n).length<=3000000 by
      have h1:=Lm (M8 HP.out) k;have h2:=Ru y k n;have h5:=(D7 (Eo HP.out aA)).2;rw [Bd];omega)
     have hlT:=Bq (rfl:y.runs[k].tasks.length=y.runs[k].tasks.length);generalize y.runs[k].tasks[n]=x at *
     have TB:=DBox.new 217 [J U x.state,J U x.need,J U x.try_,J U x.until_] wr (b:=wr) rfl;have b2:Below wr wr (wr.alloc (.cells #[J U x.state,J U x.need,J U x.try_,J U x.until_] 217)):=Bt;go_upto_region 8 with fail
     have dP:=R.lt;have hvt:=Bq (show ∀ z,v.ownBlock=Ac z->w.heap.size+1<=z/\z<wr.heap.size from fun z hz=>by
      obtain ⟨rs,hm,nJ⟩:=hB.out;exact nJ.ow.within z hz)
     replace X:=X.below b2;replace R:=R.below b2;have aG:=Bu hb b2;have mT:=Bq (hB.out.below b2);clear b2 d0 d1 d2 d3 hb hB bI;generalize wr.alloc (.cells #[J U x.state,J U x.need,J U x.try_,J U x.until_] 217)=w2 at *
     generalize wr.heap.size=tb at *
     have X_:=X.g4;have TB_:=TB.g4;by_cases q:x.state=3;case neg =>
      have q1:(x.state == 3)=false:=by simp [q]
      have S:=Bq (Q6 (y:=y) (k:=k) (n:=n) (by rw [hJ.out];unfold Q5;rw [q1];rfl));clear q;go_wp2;exact ⟨⟨n+1,v,fF,by go_num,rfl,by rw [S.out];exact mT,jP,X,R,aG⟩,by simp [intOf];omega⟩
     have q1:(x.state == 3)=true:=by simp [q]
     have hu:=hU.out q;have wr1:U.wrap (x.until_ - 1)=x.until_ - 1:=Aq _ (by have:=HP.out.1;omega);have q2:¬ x.until_<=y.now:=Bl;by_cases q3:x.until_ - 1=y.now;case neg =>
      have q4:(x.until_ - 1 == y.now)=false:=by simp [q3]
      have S:=Bq (Q6 (y:=y) (k:=k) (n:=n) (by rw [hJ.out];unfold Q5;rw [q1,decide_eq_false Bl];rfl));clear q hu;go_wp2;exact ⟨⟨n+1,v,fF,by go_num,rfl,by rw [S.out];exact mT,jP,X,R,aG⟩,by simp [intOf];omega⟩
     have wr2:U.wrap y.now=y.now:=Aq _ (by have:=HP.out.1;omega);have S:=Bq (X0 (y:=y) (k:=k) (n:=n) (by rw [hJ.out];unfold Q5;rw [q1,decide_eq_true Bl];rfl));clear q hu;have R_:=R.g8;go_upto_region 9 with fail
     generalize hrid:y.runs[k].id=rid at *
     have o9:=Ow.intsK w2 3 [rid,(n:Int),x.try_] (cs:=#[J U rid,J U (n:Int),J U x.try_]) rfl (n:=3) (g:=w2) (base:=w2) rfl rfl (Bs _) Bn;have b4:Below w2 w2 (w2.alloc (.cells #[J U rid,J U (n:Int),J U x.try_] 3)):=Bt;obtain ⟨hw9,hwB⟩:=Hw.of_ow o9;have b5:Below (w2.alloc (.cells #[J U rid,J U (n:Int),J U x.try_] 3)) (w2.alloc (.cells #[J U rid,J U (n:Int),J U x.try_] 3)) ((w2.alloc (.cells #[J U rid,J U (n:Int),J U x.try_] 3)).alloc (.cells #[Aa (Ac ⟨w2,0,Ab⟩) 3 3] 32)):=Bt;have b45:=Bu b4 b5;obtain ⟨rs,hm,kF⟩:=mT.out;have tZ:rs.length<=3000000:=by
      have h1:=congrArg List.length hm;rw [Ar,Ar] at h1;rw [h1];exact aF.out
     have tZ:=Bq tZ;have cD:=Bu aG b45;have X3:=X.below b45;have R3:=R.below b45;have eV:=aG.size;go_wp2_with (at_builtin;refine Ch _ (Dt.flats Ip).enc Bp rfl (.tmp 41) (.tmp 48) rfl underlying222 i0 z0 z1 z2 rfl (v:=v) (l:=rs) rfl (kF.ow.below b45) (A:=Ac ⟨w2+1,0,Ab⟩) (m:=1) (c:=1) (ys:=[([rid,(n:Int),x.try_],(⟨Ac ⟨w2,0,Ab⟩,3,3⟩:Sl))]) rfl (Rd.one (Dt.flats Ip).enc _ _ ([rid,(n:Int),x.try_],(⟨Ac ⟨w2,0,Ab⟩,3,3⟩:Sl)) Bn rfl 1 (Bs _) (Nat.lt_succ_self _)) tZ.out Bn Bp (by have:=b45.size;omega) ?_;intro v6 w6 o6 gg f6)
     have pU:∀ z,v.ownBlock=Ac z->w.heap.size+1<=z/\z<tb/\z≠rb:=fun z hz=>⟨(hvt.out z hz).1,(hvt.out z hz).2,jP.out z hz⟩
     have X6:=X3.off gg (fun e=>by have:=(pU _ e.symm).1;omega);have R6:=R3.off gg (fun e=>(pU _ e.symm).2.2 rfl);have mW:Below w w w6:=cD.grown gg cD.size (fun g hg=>by have:=(pU g hg).1;omega);have hP:=Bld.push1 (d:=Dt.flats Ip) (x:=[rid,(n:Int),x.try_]) (s:=(⟨Ac ⟨w2,0,Ab⟩,3,3⟩:Sl)) kF b4 hw9 (fun y hy=>hwB y hy) Bl b5 o6 gg f6;have kQ:(rs ++ [([rid,(n:Int),x.try_],(⟨Ac ⟨w2,0,Ab⟩,3,3⟩:Sl))]).map (·.1)=(Fk y k ++ Ja y k (n+1)).map (It y):=by
      simp only [List.map_append,List.map_cons,List.map_nil,hm,S.out,hRow.out,List.append_assoc]
     have hvn6:=Bq (show ∀ z,v6.ownBlock=Ac z->z≠rb from fun z hz=>by
      rcases f6 with f6 | f6
      ·exact jP.out z (f6.symm.trans hz)
      ·have h1:Ac _=Ac z:=f6.symm.trans hz;have h2:=Option.some.inj h1;have h3:=b45.size;have h4:=R.lt;omega)
     have hB7:=Bq (show Bls (Dt.flats Ip) 32 w6 (w.heap.size+1) v6 ((Fk y k).map (It y) ++ (Ja y k (n+1)).map (It y)) by rw [<-List.map_append];exact ⟨_,kQ,hP⟩);clear hP kQ kF o6 gg f6 X3 R3 cD hm;refine ⟨⟨v6,J U (n:Int),.pointer (Ac ⟨tb,0,Ab⟩),J U ((n+1:Nat):Int),⟨n+1,fF,rfl,hB7,hvn6,X6,R6,mW⟩,rfl,rfl,rfl,Bn⟩,by simp [intOf];omega⟩
    ·have nI:¬ (n:Int)<(y.runs[k].tasks.length:Int):=Bl;have S:=Bq (show Fk y (k+1)=Fk y k ++ Ja y k n by
      rw [Qf,show (Ha y k).tasks.length=n by rw [Ex aA];omega])
     go_wp2;exact ⟨⟨k+1,Bl,by go_num,by rw [S.out];exact hB,X,hb⟩,by simp [intOf];omega⟩
  ·have aB:¬ (k:Int)<(y.runs.length:Int):=Bl;obtain rfl:k=y.runs.length:=Bl;obtain ⟨rs,hm,nJ⟩:=hB.out;obtain ⟨F,h1,h2⟩:=nJ.owl hm;obtain ⟨A,c,hv,_⟩:=h1.form;rw [Ar] at hv;subst hv;have eJ:Df (Dt.list (Dt.flats Ip)) slV ((Fk y y.runs.length).map (It y)) w (.returned (Aa A (Fk y y.runs.length).length c)) wr:=⟨⟨A,_,c⟩,F,rfl,h1,fun x hx=>by have:=h2 x hx;omega,hb⟩
   clear hB nJ h1;go_wp2;go_ret;exact eJ
end Go.Proofs.YtonlnjdempbfoabGreat
