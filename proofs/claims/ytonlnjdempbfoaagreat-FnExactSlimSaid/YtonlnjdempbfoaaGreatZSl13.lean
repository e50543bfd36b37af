/-
  Forget of the reference. Written by program (kzc.py). LateOf of the reference. Written by program (kz.py). Cancel of the reference. Written by program (ky.py). 
-/
import Derived.Test.YtonlnjdempbfoaaGreatZSl0
import Derived.Test.YtonlnjdempbfoaaGreatZSl6
import Derived.Test.YtonlnjdempbfoaaGreatZSl8
import Derived.Test.YtonlnjdempbfoaaGreatZSl9
import Derived.Test.YtonlnjdempbfoaaGreatZSl10
import Derived.Test.YtonlnjdempbfoaaGreatZSl11
import Derived.Test.YtonlnjdempbfoaaGreatZSl12
namespace Go.Proofs.YtonlnjdempbfoaaGreat
open Go.RowKit
set_option maxRecDepth 100000
set_option maxHeartbeats 4000000
set_option linter.unusedVariables false
set_option linter.unusedSimpArgs false
open Value renaming int->J,slice->Aa
open IntKind renaming i64->U
open Option renaming none->Ab,some->Ac
open Below renaming setCell->Ad
open Nat renaming zero_le->Ag
open Go renaming bodyPost_ret->Aj
open Go.Proofs.Tryz renaming prog->Am
open Int renaming toNat_natCast->Ao
open IntWalk renaming i64_in->Aq
open List renaming length_map->Ar,getElem_mem->Aw,nodup_append->Ax,length_take->Az,length_append->Bd,mem_append_right->Be,mem_append_left->Bf,take_of_length_le->Bg,mem_append->Bi
section
theorem Ad3 {y:Yard} {w:World} {F:List Nat} {s1:Sl} {g o n c:Nat} (h:Bu.ow w F y (s1,⟨Ac ⟨g,o,Ab⟩,n,c⟩)) {k:Nat} (hk:k<y.runs.length) :
  ∃ rs:List (Run×(Sl×Sl)),rs.length=n/\rs.length<=c/\n=y.runs.length/\Rd Ch.enc w w (.slice (Ac ⟨g,o,Ab⟩) n c) rs /\
   ∀ (E:TypeId) (w8:World) (A9:Option Addr) (n9 c9:Nat),Below w w w8->Ow Ch.enc E w8 w (.slice A9 n9 c9) (rs.take k ++ rs.drop (k+1)) ->
    ∃ F8,Bu.ow w8 F8 ⟨y.now,y.seq,y.shelf,y.runs.take k ++ y.runs.drop (k+1)⟩ (s1,⟨A9,n9,c9⟩) /\ ∀ x∈F8,x∈F\/w<=x:=by
 obtain ⟨F1,F2,rfl,bN,os,orr⟩:=h;replace os:OwL (Dt.list Bx) w F1 s1.v y.shelf:=os;replace orr:OwL Ch w F2 (.slice (Ac ⟨g,o,Ab⟩) n c) y.runs:=orr;have hn:n=y.runs.length:=RdL.at1 (s:=⟨Ac ⟨g,o,Ab⟩,n,c⟩) orr.rd;have cH:=orr.lt;obtain ⟨rs,Hh,G,hm,hh,hG,rfl,qM⟩:=orr;have bK:rs.length=y.runs.length:=by have:=congrArg List.length hm;rw [Ar] at this;exact this
 obtain ⟨G1,G2,rfl,hGa,kW⟩:=hG.split k Bl;rw [List.drop_eq_getElem_cons (show k<rs.length by omega)] at kW;obtain ⟨Gx,G3,rfl,_,hGc⟩:=kW.head;refine ⟨rs,Bl,hh.rd.cap,hn,hh.rd,fun E w8 A9 n9 c9 hb ho=>?_⟩;obtain ⟨h5,h6⟩:=Hw.of_ow ho;have hnG2:=(Ax.1 qM).2.1;have hG13:(G1 ++ G3).Nodup:=by
  rw [Ax] at hnG2 ⊢;refine ⟨hnG2.1,(Ax.1 hnG2.2.1).2.1,fun a ha b aU=>hnG2.2.2 a ha b (Be _ aU)⟩
 have hGsub:∀ x∈G1 ++ G3,x∈Hh ++ (G1 ++ (Gx ++ G3)):=fun x hx=>by
  rcases Bi.1 hx with h | h
  ·exact Be _ (Bf _ h)
  ·exact Be _ (Be _ (Be _ h))
 refine ⟨F1 ++ (Dz (.slice A9 n9 c9) (rs.take k ++ rs.drop (k+1)).length ++ (G1 ++ G3)),⟨F1,_,rfl,?_,os.below hb,⟨rs.take k ++ rs.drop (k+1),_,G1 ++ G3,?_,h5,(hGa.append hGc).bel hb,rfl,?_⟩⟩,fun x hx=>?_⟩
 ·rw [Ax];refine ⟨os.nodup,?_,fun a ha b aU e=>?_⟩
  ·rw [Ax];refine ⟨Jf _ _,hG13,fun a ha b aU e=>?_⟩;subst e
   have:=h6 a ha
   have:=cH a (hGsub a aU)
   omega
  ·subst e;rcases Bi.1 aU with h | h
   ·have:=h6 a h;have:=os.lt a ha;omega
   ·exact (Ax.1 bN).2.2 a ha a (hGsub a h) rfl
 ·rw [List.map_append,List.map_take,List.map_drop,hm]
 ·rw [Ax];refine ⟨Jf _ _,hG13,fun a ha b aU e=>?_⟩;subst e
  have:=h6 a ha
  have:=cH a (hGsub a aU)
  omega
 ·rcases Bi.1 hx with h | h
  ·exact .inl (Bf _ h)
  ·rcases Bi.1 h with h | h
   ·exact .inr (h6 x h)
   ·exact .inl (Be _ (hGsub x h))
theorem Np (f:List Entry->List Entry) {l:List (List Entry)} {k:Nat} (hk:k<l.length):((l.take k).map f ++ l.drop k).set k (f l[k])=(l.take (k+1)).map f ++ l.drop (k+1):=by
 rw [List.drop_eq_getElem_cons hk,List.set_append_right _ _ (by simp;omega)];rw [show k - ((l.take k).map f).length=0 by simp;omega,List.set_cons_zero,List.take_succ_eq_append_getElem hk,List.map_append,List.append_assoc];rfl
theorem Us (f:List Entry->List Entry) {l:List (List Entry)} {k:Nat} (hk:k<l.length) (h:k<((l.take k).map f ++ l.drop k).length):((l.take k).map f ++ l.drop k)[k]=l[k]:=by
 rw [List.getElem_append_right (by simp;omega)];simp [Nat.min_eq_left (Nat.le_of_lt hk)]
open Classical in
noncomputable def Hu (y:Yard) (id:Int):Int :=
 if ¬ Dd y then 8 else if Da y id<0 then 10 else if (Js y id).state=1 then 13 else 0
def C6 (id:Int) (l:List Entry):List Entry:=l.filter fun e=>e.run != id
noncomputable def Hv (y:Yard) (id:Int):Yard:=if Hu y id=0 then ⟨y.now,y.seq,y.shelf.map (C6 id),y.runs.take (Da y id).toNat ++ y.runs.drop ((Da y id).toNat+1)⟩ else y
theorem Ld {b:Nat} {w:World} {u0 u1 u2 u3:Value} (X:DBox b [u0,u1,u2,u3] w) {v0 v1 v2 v3 v5:Value} {rest:List Value} :
  (results Tryz.f149 (v0 :: v1 :: v2 :: v3 :: .pointer (Ac ⟨b,0,Ab⟩) :: v5 :: rest).toArray).run Am w = .ok (.tuple #[.agg #[u0,u1,u2,u3],v5]) w:=by
 have c0:=X.cell 0 _ rfl;have c1:=X.cell 1 _ rfl;have c2:=X.cell 2 _ rfl;have c3:=X.cell 3 _ rfl;simp [results,Tryz.results149,go_sem,c0,c1,c2,c3]
theorem Ut (y:Yard) (s:Sl×Sl) (id:Int) (w:World) (hl:Cb y<=2000000) (h:Bu.rd w w y s) :
  Calls Am 149 #[Dg y s,.int .i64 id] w (Ht (Hv y id) (Hu y id) w):=by
 have HR:=Bq (show ∀ W,Below w w W->Bu.rd W W y s from fun W hW=>Bu.rd_more (Bu.rd_below h hW) hW.size);obtain ⟨⟨A1,n1,c1⟩,⟨A2,n2,c2⟩⟩:=s;have CC:=Bq (fun W hW=>Ed y (⟨A1,n1,c1⟩,⟨A2,n2,c2⟩) W hl (HR.out W hW));have CY:=Bq (fun W hW=>Fj y (⟨A1,n1,c1⟩,⟨A2,n2,c2⟩) W hl (HR.out W hW));have CA:=Bq (fun W hW=>Es y (⟨A1,n1,c1⟩,⟨A2,n2,c2⟩) id W hl (HR.out W hW));have CX:=Bq (fun W hW=>show RdL Ch W W.heap.size (.slice A2 n2 c2) y.runs from (HR.out W hW).2);clear h HR;obtain ⟨W,aG,X,RES,B0⟩:=bx2 w 31 [.int .i64 y.now,.int .i64 y.seq,.slice A1 n1 c1,.slice A2 n2 c2] 31 [.int .i64 0,.int .i64 0,.slice Ab 0 0,.slice Ab 0 0];go_enter Tryz.func149,Tryz.ntmps149;go_wp2_with fail
 rw [<-aG.out];clear aG;have dK:w.heap.size+1<W.heap.size:=RES.lt;refine (CC.out _ B0).mono ?_;rintro e1 w1 ⟨⟨⟨B1,m1,e1⟩,⟨B2,m2,e2⟩⟩,F,rfl,oy,nF,b1⟩;have bL:=b1.size;have cH:=Bu.ow_lt (F:=F) (x:=y) (s:=(⟨B1,m1,e1⟩,⟨B2,m2,e2⟩)) oy;replace X:=X.below b1;replace RES:=RES.below b1;replace B0:=Bt B0 b1;clear b1;go_upto_region 2 with fail
 have OB:=DBox.new 31 [.int .i64 y.now,.int .i64 y.seq,.slice B1 m1 e1,.slice B2 m2 e2] w1 (b:=w1.heap.size) rfl;have b2:Below w1 w1 (w1.alloc (.cells #[.int .i64 y.now,.int .i64 y.seq,.slice B1 m1 e1,.slice B2 m2 e2] 31)):=(Br _ _).alloc (Bs _) _;replace X:=X.below b2;replace RES:=RES.below b2;replace oy:=Bu.ow_below (F:=F) (x:=y) (s:=(⟨B1,m1,e1⟩,⟨B2,m2,e2⟩)) oy b2;replace B0:=Bt B0 b2;have ow1:=OB.lt;clear b2;generalize w1.alloc (.cells #[.int .i64 y.now,.int .i64 y.seq,.slice B1 m1 e1,.slice B2 m2 e2] 31)=w2 at *
 generalize cJ:w1.heap.size=ob at *
 have X_:=X.g4;obtain ⟨OB_0,OB_1,OB_2,OB_3,OB_l⟩:=OB.g4;go_wp2_with fail
 refine (CA.out _ B0).mono ?_;rintro e1 w3 ⟨rfl,b3⟩;clear X_;clear OB_0 OB_1 OB_2 OB_3 OB_l;replace X:=X.below b3;replace OB:=OB.below b3;replace RES:=RES.below b3;replace oy:Bu.ow w3 F y (⟨B1,m1,e1⟩,⟨B2,m2,e2⟩):=owB oy b3;replace B0:=Bt B0 b3;clear b3;have X_:=X.g4;obtain ⟨OB_0,OB_1,OB_2,OB_3,OB_l⟩:=OB.g4;go_wp2_with fail
 refine (CY.out _ B0).mono ?_;rintro e1 w4 ⟨rfl,b4⟩;clear X_;clear OB_0 OB_1 OB_2 OB_3 OB_l;replace X:=X.below b4;replace OB:=OB.below b4;replace RES:=RES.below b4;replace oy:Bu.ow w4 F y (⟨B1,m1,e1⟩,⟨B2,m2,e2⟩):=owB oy b4;replace B0:=Bt B0 b4;clear b4;have X_:=X.g4;obtain ⟨OB_0,OB_1,OB_2,OB_3,OB_l⟩:=OB.g4;by_cases p0:Dd y;case neg =>
  rw [Cf p0];have H:=Bq (show Hu y id=8 by unfold Hu;rw [if_pos p0]);have H2:=Bq (show Hv y id=y by unfold Hv;rw [H.out,if_neg Bp]);have RES_:=RES.g4;have rf:=RES.free;go_wp2;have en1:w.heap.size+1∉F:=fun hx=>by have:=nF _ hx;omega
  refine Aj (Ld (DBox.row4 RES rfl _ _ _ _)) rfl ⟨(⟨B1,m1,e1⟩,⟨B2,m2,e2⟩),F,by rw [H.out,H2.out],by rw [H2.out];exact (by (repeat (refine Dt.ow_set Bu ?_ en1 _));exact (show Bu.ow _ F y (⟨B1,m1,e1⟩,⟨B2,m2,e2⟩) from oy)),fun x hx=>by have:=nF x hx;omega,?_⟩;repeat (first | (with_reducible exact B0) | refine Ad ?_ Bo _)
 rw [Dj p0];have P0:=Bq p0;clear p0;by_cases p1:Da y id<0;case pos =>
  have H:=Bq (show Hu y id=10 by unfold Hu;rw [if_neg (fun h=>h P0.out),if_pos p1]);have H2:=Bq (show Hv y id=y by unfold Hv;rw [H.out,if_neg Bp]);have RES_:=RES.g4;have rf:=RES.free;go_wp2;have en1:w.heap.size+1∉F:=fun hx=>by have:=nF _ hx;omega
  refine Aj (Ld (DBox.row4 RES rfl _ _ _ _)) rfl ⟨(⟨B1,m1,e1⟩,⟨B2,m2,e2⟩),F,by rw [H.out,H2.out],by rw [H2.out];exact (by (repeat (refine Dt.ow_set Bu ?_ en1 _));exact (show Bu.ow _ F y (⟨B1,m1,e1⟩,⟨B2,m2,e2⟩) from oy)),fun x hx=>by have:=nF x hx;omega,?_⟩;repeat (first | (with_reducible exact B0) | refine Ad ?_ Bo _)
 rcases Ek y id with hr | ⟨k,hk,hr⟩
 ·exact absurd hr Bl
 have HK:=Bq (Gf hk hr);have HR2:=Bq hr;rw [hr];clear hr p1;have P1:=Bq (show ¬ Da y id<0 by have:=HR2.out;omega);have gG:(k:Int)<(n2:Int):=by have:=RdL.at1 (s:=⟨A2,n2,c2⟩) (CX.out _ B0);dsimp only at this;omega
 have dB:(0:Int)<=(k:Int):=Bl;have hkn:¬ (k:Int)<0:=Bl;obtain ⟨gx,ox,_,rfl,kK,_,c0,c1_,c2_,c3_,c4_,c5_,c6,c7_⟩:=(CX.out _ B0).run hk;clear c0 c1_ c2_ c3_ c4_ c5_ c7_;by_cases p2:y.runs[k].state=1;case pos =>
  have q2:(y.runs[k].state == 1)=true:=by simp [p2]
  have H:=Bq (show Hu y id=13 by unfold Hu;rw [if_neg (fun h=>h P0.out),if_neg P1.out,if_pos (by rw [HK.out];exact p2)]);clear p2;have H2:=Bq (show Hv y id=y by unfold Hv;rw [H.out,if_neg Bp]);have RES_:=RES.g4;have rf:=RES.free;go_wp2;have en1:w.heap.size+1∉F:=fun hx=>by have:=nF _ hx;omega
  refine Aj (Ld (DBox.row4 RES rfl _ _ _ _)) rfl ⟨(⟨B1,m1,e1⟩,⟨B2,m2,e2⟩),F,by rw [H.out,H2.out],by rw [H2.out];exact (by (repeat (refine Dt.ow_set Bu ?_ en1 _));exact (show Bu.ow _ F y (⟨B1,m1,e1⟩,⟨B2,m2,e2⟩) from oy)),fun x hx=>by have:=nF x hx;omega,?_⟩;repeat (first | (with_reducible exact B0) | refine Ad ?_ Bo _)
 have q2:(y.runs[k].state == 1)=false:=by simp [p2]
 have H:=Bq (show Hu y id=0 by unfold Hu;rw [if_neg (fun h=>h P0.out),if_neg P1.out,if_neg (by rw [HK.out];exact p2)]);have H2:=Bq (show Hv y id=⟨y.now,y.seq,y.shelf.map (C6 id),y.runs.take k ++ y.runs.drop (k+1)⟩ by unfold Hv;rw [if_pos H.out,HR2.out,Ao]);clear p2;go_upto_region 9 with fail
 obtain ⟨gr,orr,_,rfl,dD,_⟩:=RdL.run (show RdL Ch w4 w4.heap.size (.slice B2 m2 e2) y.runs from (Bu.ow_rd (F:=F) (x:=y) (s:=(⟨B1,m1,e1⟩,⟨B2,m2,e2⟩)) oy).2) hk;obtain ⟨rs,bK,bZ,dJ,hrd0,mA⟩:=Ad3 oy hk;have qZ:y.runs.length<=8:=P0.out.2.2.2.2.2.2.1;clear X_;clear X c6 q2 CC CY CA CX gG;have gG:(k:Int)<=(m2:Int):=Bl;have hkI1:(k:Int)+1<=(m2:Int):=Bl;have kJ:(0:Int)<=(k:Int)+1:=Bl;have hke:k<=e2:=Bl;have hkeI:(k:Int)<=(e2:Int):=Bl;have hk1e:k+1<=e2:=Bl;have hk1eI:(k:Int)+1<=(e2:Int):=Bl;have wr1:U.wrap ((k:Int)+1)=(k:Int)+1:=Aq _ Bl;have tn1:((k:Int)+1).toNat=k+1:=Bl;have hob4:ob<w4:=OB.lt;replace dJ:=Bq dJ;replace bK:=Bq bK;replace mA:=Bq mA;obtain ⟨j0,cB,jz0,jz1,jz2⟩:=info_parts Kv;have a0:=Bq (show ∀ W,Below w4 w4 W->Rd Ch.enc W w4 (.slice (Ac ⟨gr,orr,Ab⟩) k e2) (rs.take k) from fun W hW=>(hrd0.take (by have:=bK.out;omega) e2 hke).below hW);have a1:=Bq (show ∀ W,Below w4 w4 W->Rd Ch.enc W w4 (.slice (Ac ⟨gr,orr+(k+1) * 8,Ab⟩) (m2 - (k+1)) (e2 - (k+1))) (rs.drop (k+1)) from fun W hW=>by have h1:=(hrd0.fromL (k+1) (by have:=bK.out;omega)).below hW;rw [bK.out] at h1;exact h1);rcases (show k+1<e2\/e2=k+1 by omega) with hlast | hlast
 ·have hlast2:¬ e2=k+1:=Bl;go_wp2;have b5:Below w4 w4 w4.drew:=(Br _ _).drew;have OB5:=DBox.drew4 OB;refine Cz (fun w'=>w'.cell? ⟨ob,3,Ab⟩=Ac (.slice (Ac ⟨gr,orr,Ab⟩) m2 e2)) 13 Bm ?_ (fun hHeld=>?_)
  ·exact OB_3
  refine aT 1 hHeld ?_;try simp only [pS]
  refine aT 2 hHeld ?_;try simp only [pS]
  refine aT 3 hHeld ?_;try simp only [pS]
  refine aT 4 hHeld ?_;try simp only [pS]
  refine aT 6 hHeld ?_;try simp only [pS]
  refine aT 7 hHeld ?_;try simp only [pS]
  refine aT 8 hHeld ?_;try simp only [pS]
  refine aT 9 hHeld ?_;try simp only [pS]
  refine aT 10 hHeld ?_;try simp only [pS]
  refine oT 0 (fun K hK=>?_)
  (go_simp;have b6:Below w4.drew w4.drew (w4.drew.alloc (.cells #[] 89)):=(Br _ _).alloc (Bs _) _;have o6:=Ow.empty Ch.enc 89 w4.drew (g:=w4.heap.size) rfl;have B6:=Bt b5 b6;have OB6:=OB5.below b6;have nL:=b6.size)
  refine hK.out _ _ (fun _=>?_) ?_
  ·exact OB6.cell 3 _ rfl
  clear hK K;try simp only [pS]
  refine oT 5 (fun K hK=>?_)
  (refine Ff _ Ch.enc Bp (by rfl) (.tmp 34) (.tmp 38) (by rfl) Tryz.underlying29 cB jz0 jz1 jz2 (by rfl) (base:=w4.heap.size) (v:=.slice (Ac ⟨w4,0,Ab⟩) 0 0) (l:=[]) (by rfl) o6 (by rfl) (a0.out _ B6) Bn (by have:=bK.out;rw [Az];omega) Bp nL ?_;intro v7 w7 o7 gg7 f7;rw [List.nil_append] at o7;have B7:Below w4 w4 w7:=B6.grown gg7 B6.size (fun g hg=>by have:=Option.some.inj (show Ac w4.heap.size=Ac g from hg);omega);have OB7:=OB6.off gg7 (fun e=>by have:=Option.some.inj (show Ac ob=Ac w4.heap.size from e);omega);have hg7s:=gg7.size)
  refine hK.out _ _ (fun _=>?_) ?_
  ·exact OB7.cell 3 _ rfl
  clear hK K;try simp only [pS]
  refine oT 11 (fun K hK=>?_)
  (refine Ff _ Ch.enc Bp (by rfl) (.tmp 39) (.tmp 44) (by rfl) Tryz.underlying29 cB jz0 jz1 jz2 (by rfl) (base:=w4.heap.size) (v:=v7) (l:=rs.take k) (by rfl) o7 (by rfl) (a1.out _ B7) (by have:=bK.out;have:=dJ.out;rw [Az];omega) (by have:=bK.out;have:=dJ.out;rw [List.length_drop];omega) Bp B7.size ?_;intro v8 w8 o8 gg8 f8;have B8:Below w4 w4 w8:=B7.grown gg8 B7.size (fun g hg=>(o7.within g hg).1);have OB8:=OB7.off gg8 (fun e=>by have:=(o7.within _ e.symm).1;omega);obtain ⟨A9,c9,tN,-⟩:=_root_.id (Rd.of_own o8);generalize sG:(rs.take k ++ rs.drop (k+1)).length=n9 at tN;subst tN;replace sG:=Bq sG;have q3:=OB8.cell 3 _ rfl;have qf:=OB8.free;have ql:=OB8.lt)
  refine hK.out _ _ (fun _=>?_) ?_
  ·exact q3
  clear hK K;try simp only [pS]
  refine oT 12 (fun K hK=>?_);go_simp;refine hK.out _ _ (fun _=>?_) ?_
  ·exact q3
  clear hK K;try simp only [pS]
  refine oT 13 (fun K hK=>?_);go_simp;refine hK.out _ _ (fun aC=>absurd rfl aC) ?_;clear hK K;try simp only [pS]
  refine Dr Bm ?_ _;obtain ⟨F8,oy8,kI⟩:=mA.out 89 w8 A9 n9 c9 B8 o8;have eU:∀ x∈F8,w.heap.size+1<x/\x≠ob:=fun x hx=>by
   rcases kI x hx with h | h
   ·have h1:=nF x h;have h2:=cH x h;omega
   ·have h3:=B0.size;omega
  have OB9:DBox ob [.int .i64 y.now,.int .i64 y.seq,.slice B1 m1 e1,.slice A9 n9 c9] (w8.setCell ⟨ob,3,Ab⟩ (.slice A9 n9 c9)):=OB8.set 3 Bn _;have RES9:=(RES.below B8).setOther (a:=⟨ob,3,Ab⟩) (by show w.heap.size+1≠ob;omega) (.slice A9 n9 c9);have oy9:Bu.ow (w8.setCell ⟨ob,3,Ab⟩ (.slice A9 n9 c9)) F8 ⟨y.now,y.seq,y.shelf,y.runs.take k ++ y.runs.drop (k+1)⟩ (⟨B1,m1,e1⟩,⟨A9,n9,c9⟩):=Bu.ow_set (F:=F8) (x:=⟨y.now,y.seq,y.shelf,y.runs.take k ++ y.runs.drop (k+1)⟩) (s:=(⟨B1,m1,e1⟩,⟨A9,n9,c9⟩)) oy8 (a:=⟨ob,3,Ab⟩) (fun hx=>(eU _ hx).2 rfl) _;have B9:Below w w (w8.setCell ⟨ob,3,Ab⟩ (.slice A9 n9 c9)):=Ad (Bt B0 B8) (by show w.heap.size<=ob;omega) _;have nN:ob<(w8.setCell ⟨ob,3,Ab⟩ (.slice A9 n9 c9)):=OB9.lt;have cG:=Bq (show m1=y.shelf.length from RdL.at1 (s:=⟨B1,m1,e1⟩) (Bu.ow_rd (F:=F8) (x:=⟨y.now,y.seq,y.shelf,y.runs.take k ++ y.runs.drop (k+1)⟩) oy9).1);have pC:=Bq (show y.shelf.length=4 from P0.out.2.2.1);have gX:=Bq (fun (i:Nat) (hi:i<y.shelf.length)=>(P0.out.2.2.2.1 _ (Aw hi)).1);obtain ⟨i0,aL,aS,aP,aQ⟩:=info_parts Fc;clear OB_0 OB_1 OB_2 OB_3 OB_l;clear OB RES OB8 oy8 o8 o7 OB7 OB6 o6 OB5 b5 b6 B6 B7 hHeld q3 qf ql gg7 gg8 f7 f8 kI hrd0 a0 a1 mA oy B8 nL hg7s;generalize y.runs.take k ++ y.runs.drop (k+1)=RR at *
  generalize w8.setCell ⟨ob,3,Ab⟩ (.slice A9 n9 c9)=w9 at *
  have OB9_:=OB9.g4;go_wp2;go_loopw [8,9,10] (fun iv u1 u2 wr=>∃ (i:Nat) (F:List Nat),i<=y.shelf.length/\iv = .int .i64 i/\Hid (Bu.ow wr F ⟨y.now,y.seq,(y.shelf.take i).map (C6 id) ++ y.shelf.drop i,RR⟩ (⟨B1,m1,e1⟩,⟨A9,n9,c9⟩))/\Hid (∀ x∈F,w.heap.size+1<x/\x≠ob)/\DBox ob [.int .i64 y.now,.int .i64 y.seq,.slice B1 m1 e1,.slice A9 n9 c9] wr/\DBox (w.heap.size+1) [.int .i64 0,.int .i64 0,.slice Ab 0 0,.slice Ab 0 0] wr/\Below w w wr/\ob<wr) (fun i _ _ _=>y.shelf.length - (intOf i).toNat);case atStart=>exact ⟨0,F8,Ag _,rfl,by show Bu.ow w9 F8 ⟨y.now,y.seq,(y.shelf.take 0).map (C6 id) ++ y.shelf.drop 0,RR⟩ (⟨B1,m1,e1⟩,⟨A9,n9,c9⟩);simpa using oy9,eU,OB9,RES9,B9,nN⟩
  case round =>
   clear OB9_;clear OB9 RES9 oy9 B9 nN eU;obtain ⟨i,F,hi,rfl,oy,hF,OB,RES,hb,gC⟩:=hrel;rename World=>wo;have h4:=pC.out;replace h4:=Bq h4;have hRl9:=RES.lt;obtain ⟨OB_0,OB_1,OB_2,OB_3,OB_l⟩:=OB.g4;by_cases aA:i<y.shelf.length
   ·have aB:(i:Int)<(m1:Int):=by have:=cG.out;omega
    have hi00:(0:Int)<=(i:Int):=Bl;have gK:i<((y.shelf.take i).map (C6 id) ++ y.shelf.drop i).length:=by simp;omega
    obtain ⟨g,o,⟨xa,xn,xc⟩,rfl,fS,eV,ch⟩:=RdL.entryS (show RdL (Dt.list Bx) wo wo.heap.size (.slice B1 m1 e1) ((y.shelf.take i).map (C6 id) ++ y.shelf.drop i) from (Bu.ow_rd (F:=F) (x:=⟨y.now,y.seq,(y.shelf.take i).map (C6 id) ++ y.shelf.drop i,RR⟩) oy.out).1) gK;rw [Us (C6 id) aA gK] at eV;replace eV:RdL Bx wo wo (.slice xa xn xc) y.shelf[i]:=eV;have hxn:xn=y.shelf[i].length:=RdL.at1 (s:=⟨xa,xn,xc⟩) eV;subst hxn;have h80:=gX.out i aA;have hi3:i<=3:=by have:=h4.out;omega
    have jY:∀ j,wo.frozen? ⟨g,j,Ab⟩=false:=by
     obtain ⟨G1,G2,_,_,os,_⟩:=oy.out;exact OwL.free0 (show OwL (Dt.list Bx) wo G1 (.slice (Ac ⟨g,o,Ab⟩) m1 e1) _ from os) (Nat.lt_of_le_of_lt (Ag _) gK)
    have dA:=Bq (Np (C6 id) aA);have q0:Below wo wo (wo.alloc (.cells #[] 93)):=(Br _ _).alloc (Bs _) _;have o0:=Ow.empty Ct 93 wo rfl;generalize y.shelf[i]=SH at *
    go_wp2;go_loopw [9,10] (fun v j wr=>∃ m:Nat,m<=SH.length/\j = .int .i64 m/\Hid (Ow Ct 93 wr wo v (C6 id (SH.take m)))/\Below wo wo wr) (fun _ j _=>SH.length - (intOf j).toNat);case atStart=>exact ⟨0,Ag _,rfl,o0,q0⟩
    case round =>
     clear o0 q0;obtain ⟨m,hm_,rfl,hO,fG⟩:=hrel;clear OB_0 OB_1 OB_2 OB_3 OB_l;have OB2:=OB.below fG;have OB2_:=OB2.g4;have ch2:=(fG.cell (p:=⟨g,_,Ab⟩) fS).trans ch;have hwis:=fG.size;by_cases aW:m<SH.length
     ·have hltI2:(m:Int)<(SH.length:Int):=Bl;have fR:(0:Int)<=(m:Int):=Bl;obtain ⟨ge,oe,_,rfl,tQ,_,d0,d1,d2,d3⟩:=(eV.below fG).entry aW;have Hl:=Bq (show (C6 id (SH.take m)).length<=3000000 by have h1:=List.length_filter_le (fun e:Entry=>e.run != id) (SH.take m);rw [Az] at h1;unfold C6;omega);cases q:(SH[m].run != id)
      ·have S:=Bq (show C6 id (SH.take (m+1))=C6 id (SH.take m) from Lc (p:=fun e:Entry=>e.run != id) aW q);go_wp2;exact ⟨⟨m+1,Bl,by go_num,by rw [S.out];exact hO,fG⟩,by simp [intOf];omega⟩
      ·have S:=Bq (show C6 id (SH.take (m+1))=C6 id (SH.take m) ++ [SH[m]] from Ki (p:=fun e:Entry=>e.run != id) aW q);generalize SH[m]=e9 at *
       have ha:Hid (∀ w:World,Below w w (w.alloc (.cells #[.int .i64 e9.prio,.int .i64 e9.seq,.int .i64 e9.run,.int .i64 e9.task] 93))):=fun w=>(Br _ _).alloc (Bs _) _;have fX:=hO.out;go_wp2_with (at_builtin;go_loud (refine By _ Ct Bp rfl (.tmp 76) (.tmp 85) rfl Tryz.underlying96 aL aS aP aQ rfl (base:=wo.heap.size) (l:=C6 id (SH.take m)) rfl (fX.below (ha.out _)) rfl (Rd.one Ct _ _ e9 rfl rfl 1 (Bs _) (Nat.lt_succ_self _)) Hl.out Bn Bp (by simp;omega) ?_);intro v5 w5 o5 g5 _)
       have eK:Below wo wo w5:=(Bt fG (ha.out _)).grown g5 (Bt fG (ha.out _)).size (fun g hg=>by have:=fX.within _ hg;omega);exact ⟨⟨m+1,Bl,by go_num,by rw [S.out];exact o5,eK⟩,by simp [intOf];omega⟩
     ·have hltI2:¬ (m:Int)<(SH.length:Int):=Bl;have cN:=hO.out;rw [Bg Bl] at cN;obtain ⟨⟨a8,n8,c8⟩,Ft,rfl,o9,nF9⟩:=Gy cN;have oy2:Bu.ow wr F ⟨y.now,y.seq,(y.shelf.take i).map (C6 id) ++ y.shelf.drop i,RR⟩ (⟨Ac ⟨g,o,Ab⟩,m1,e1⟩,⟨A9,n9,c9⟩):=owB oy.out fG;have hFlt2:∀ x∈F,x<wo:=Bu.ow_lt (F:=F) (x:=⟨y.now,y.seq,(y.shelf.take i).map (C6 id) ++ y.shelf.drop i,RR⟩) (s:=(⟨Ac ⟨g,o,Ab⟩,m1,e1⟩,⟨A9,n9,c9⟩)) oy.out;obtain ⟨F',p1,p2,p3⟩:=Fg oy2 gK (l:=C6 id SH) (t:=⟨a8,n8,c8⟩) o9 (fun x hx bF=>by have h1:=nF9 x hx;have h2:=hFlt2 x bF;omega);dsimp only at p1;rw [dA.out] at p1;have hgn:=hF.out g p3;have hfg2:∀ j,wr.frozen? ⟨g,j,Ab⟩=false:=fun j=>(fG.frozen (p:=⟨g,j,Ab⟩) fS).trans (jY j);have OB3:=OB2.setOther (a:=⟨g,o+i,Ab⟩) (by show ob≠g;omega) (.slice a8 n8 c8);have RES3:=(RES.below fG).setOther (a:=⟨g,o+i,Ab⟩) (by show w.heap.size+1≠g;omega) (.slice a8 n8 c8);have cA:Below w w (wr.setCell ⟨g,o+i,Ab⟩ (.slice a8 n8 c8)):=Ad (Bt hb fG) (by show w.heap.size<=g;omega) _;have qV:Hid (∀ x∈F',w.heap.size+1<x/\x≠ob):=fun x hx=>by
       rcases p2 x hx with h | h
       ·exact hF.out x h
       ·have:=nF9 x h;omega
      have jK:=OB3.lt;clear hO cN dA o9 jY;go_wp2;exact ⟨⟨i+1,F',Bl,by go_num,p1,qV,OB3,RES3,cA,jK⟩,by simp [intOf];omega⟩
   ·have aB:¬ (i:Int)<(m1:Int):=by have:=cG.out;omega
    have hii:i=y.shelf.length:=Bl;have oyz:=oy.out;rw [Bg Bl,List.drop_eq_nil_of_le Bl,List.append_nil] at oyz;have rf:=RES.free;have RES_:=RES.g4;clear hii oy;go_wp2;have en1:w.heap.size+1∉F:=fun hx=>by have:=hF.out _ hx;omega
    refine Aj (Ld (DBox.row4 RES rfl _ _ _ _)) rfl ⟨(⟨B1,m1,e1⟩,⟨A9,n9,c9⟩),F,by rw [H.out,H2.out],by rw [H2.out];exact (by (repeat (refine Dt.ow_set Bu ?_ en1 _));exact (show Bu.ow _ F ⟨y.now,y.seq,y.shelf.map (C6 id),RR⟩ (⟨B1,m1,e1⟩,⟨A9,n9,c9⟩) from oyz)),fun x hx=>by have:=hF.out x hx;omega,?_⟩;repeat (first | (with_reducible exact hb) | refine Ad ?_ Bo _)
 ·subst hlast;have hlast3:(k:Int)<=(k:Int)+1:=Bl;have hm2k:m2 - (k+1)=0:=by have:=bK.out;omega
  replace hm2k:=Bq hm2k;go_wp2;have b5:Below w4 w4 w4.drew:=(Br _ _).drew;have OB5:=DBox.drew4 OB;refine Cz (fun w'=>w'.cell? ⟨ob,3,Ab⟩=Ac (.slice (Ac ⟨gr,orr,Ab⟩) m2 (k+1))) 13 Bm ?_ (fun hHeld=>?_)
  ·exact OB_3
  refine aT 1 hHeld ?_;try simp only [pS]
  refine aT 2 hHeld ?_;try simp only [pS]
  refine aT 3 hHeld ?_;try simp only [pS]
  refine aT 4 hHeld ?_;try simp only [pS]
  refine aT 6 hHeld ?_;try simp only [pS]
  refine aT 7 hHeld ?_;try simp only [pS]
  refine aT 8 hHeld ?_;try simp only [pS]
  refine aT 9 hHeld ?_;try simp only [pS]
  refine aT 10 hHeld ?_;try simp only [pS]
  refine oT 0 (fun K hK=>?_)
  (go_simp;have b6:Below w4.drew w4.drew (w4.drew.alloc (.cells #[] 89)):=(Br _ _).alloc (Bs _) _;have o6:=Ow.empty Ch.enc 89 w4.drew (g:=w4.heap.size) rfl;have B6:=Bt b5 b6;have OB6:=OB5.below b6;have nL:=b6.size)
  refine hK.out _ _ (fun _=>?_) ?_
  ·exact OB6.cell 3 _ rfl
  clear hK K;try simp only [pS]
  refine oT 5 (fun K hK=>?_)
  (refine Ff _ Ch.enc Bp (by rfl) (.tmp 34) (.tmp 38) (by rfl) Tryz.underlying29 cB jz0 jz1 jz2 (by rfl) (base:=w4.heap.size) (v:=.slice (Ac ⟨w4,0,Ab⟩) 0 0) (l:=[]) (by rfl) o6 (by rfl) (a0.out _ B6) Bn (by have:=bK.out;rw [Az];omega) Bp nL ?_;intro v7 w7 o7 gg7 f7;rw [List.nil_append] at o7;have B7:Below w4 w4 w7:=B6.grown gg7 B6.size (fun g hg=>by have:=Option.some.inj (show Ac w4.heap.size=Ac g from hg);omega);have OB7:=OB6.off gg7 (fun e=>by have:=Option.some.inj (show Ac ob=Ac w4.heap.size from e);omega);have hg7s:=gg7.size)
  refine hK.out _ _ (fun _=>?_) ?_
  ·exact OB7.cell 3 _ rfl
  clear hK K;try simp only [pS]
  refine oT 11 (fun K hK=>?_)
  (refine Ff _ Ch.enc Bp (by rfl) (.tmp 39) (.tmp 44) (by rfl) Tryz.underlying29 cB jz0 jz1 jz2 (by rfl) (base:=w4.heap.size) (v:=v7) (l:=rs.take k) (by rfl) o7 (by rfl) (Rd.fromNone (B:=0) (k+1) (by have:=bK.out;have:=hm2k.out;omega) hm2k.out) (by have:=bK.out;have:=dJ.out;rw [Az];omega) (by have:=bK.out;have:=dJ.out;rw [List.length_drop];omega) Bp B7.size ?_;intro v8 w8 o8 gg8 f8;have B8:Below w4 w4 w8:=B7.grown gg8 B7.size (fun g hg=>(o7.within g hg).1);have OB8:=OB7.off gg8 (fun e=>by have:=(o7.within _ e.symm).1;omega);obtain ⟨A9,c9,tN,-⟩:=_root_.id (Rd.of_own o8);generalize sG:(rs.take k ++ rs.drop (k+1)).length=n9 at tN;subst tN;replace sG:=Bq sG;have q3:=OB8.cell 3 _ rfl;have qf:=OB8.free;have ql:=OB8.lt)
  refine hK.out _ _ (fun _=>?_) ?_
  ·exact q3
  clear hK K;try simp only [pS]
  refine oT 12 (fun K hK=>?_);go_simp;refine hK.out _ _ (fun _=>?_) ?_
  ·exact q3
  clear hK K;try simp only [pS]
  refine oT 13 (fun K hK=>?_);go_simp;refine hK.out _ _ (fun aC=>absurd rfl aC) ?_;clear hK K;try simp only [pS]
  refine Dr Bm ?_ _;obtain ⟨F8,oy8,kI⟩:=mA.out 89 w8 A9 n9 c9 B8 o8;have eU:∀ x∈F8,w.heap.size+1<x/\x≠ob:=fun x hx=>by
   rcases kI x hx with h | h
   ·have h1:=nF x h;have h2:=cH x h;omega
   ·have h3:=B0.size;omega
  have OB9:DBox ob [.int .i64 y.now,.int .i64 y.seq,.slice B1 m1 e1,.slice A9 n9 c9] (w8.setCell ⟨ob,3,Ab⟩ (.slice A9 n9 c9)):=OB8.set 3 Bn _;have RES9:=(RES.below B8).setOther (a:=⟨ob,3,Ab⟩) (by show w.heap.size+1≠ob;omega) (.slice A9 n9 c9);have oy9:Bu.ow (w8.setCell ⟨ob,3,Ab⟩ (.slice A9 n9 c9)) F8 ⟨y.now,y.seq,y.shelf,y.runs.take k ++ y.runs.drop (k+1)⟩ (⟨B1,m1,e1⟩,⟨A9,n9,c9⟩):=Bu.ow_set (F:=F8) (x:=⟨y.now,y.seq,y.shelf,y.runs.take k ++ y.runs.drop (k+1)⟩) (s:=(⟨B1,m1,e1⟩,⟨A9,n9,c9⟩)) oy8 (a:=⟨ob,3,Ab⟩) (fun hx=>(eU _ hx).2 rfl) _;have B9:Below w w (w8.setCell ⟨ob,3,Ab⟩ (.slice A9 n9 c9)):=Ad (Bt B0 B8) (by show w.heap.size<=ob;omega) _;have nN:ob<(w8.setCell ⟨ob,3,Ab⟩ (.slice A9 n9 c9)):=OB9.lt;have cG:=Bq (show m1=y.shelf.length from RdL.at1 (s:=⟨B1,m1,e1⟩) (Bu.ow_rd (F:=F8) (x:=⟨y.now,y.seq,y.shelf,y.runs.take k ++ y.runs.drop (k+1)⟩) oy9).1);have pC:=Bq (show y.shelf.length=4 from P0.out.2.2.1);have gX:=Bq (fun (i:Nat) (hi:i<y.shelf.length)=>(P0.out.2.2.2.1 _ (Aw hi)).1);obtain ⟨i0,aL,aS,aP,aQ⟩:=info_parts Fc;clear OB_0 OB_1 OB_2 OB_3 OB_l;clear OB RES OB8 oy8 o8 o7 OB7 OB6 o6 OB5 b5 b6 B6 B7 hHeld q3 qf ql gg7 gg8 f7 f8 kI hrd0 a0 a1 mA oy B8 nL hg7s;generalize y.runs.take k ++ y.runs.drop (k+1)=RR at *
  generalize w8.setCell ⟨ob,3,Ab⟩ (.slice A9 n9 c9)=w9 at *
  have OB9_:=OB9.g4;go_wp2;go_loopw [8,9,10] (fun iv u1 u2 wr=>∃ (i:Nat) (F:List Nat),i<=y.shelf.length/\iv = .int .i64 i/\Hid (Bu.ow wr F ⟨y.now,y.seq,(y.shelf.take i).map (C6 id) ++ y.shelf.drop i,RR⟩ (⟨B1,m1,e1⟩,⟨A9,n9,c9⟩))/\Hid (∀ x∈F,w.heap.size+1<x/\x≠ob)/\DBox ob [.int .i64 y.now,.int .i64 y.seq,.slice B1 m1 e1,.slice A9 n9 c9] wr/\DBox (w.heap.size+1) [.int .i64 0,.int .i64 0,.slice Ab 0 0,.slice Ab 0 0] wr/\Below w w wr/\ob<wr) (fun i _ _ _=>y.shelf.length - (intOf i).toNat);case atStart=>exact ⟨0,F8,Ag _,rfl,by show Bu.ow w9 F8 ⟨y.now,y.seq,(y.shelf.take 0).map (C6 id) ++ y.shelf.drop 0,RR⟩ (⟨B1,m1,e1⟩,⟨A9,n9,c9⟩);simpa using oy9,eU,OB9,RES9,B9,nN⟩
  case round =>
   clear OB9_;clear OB9 RES9 oy9 B9 nN eU;obtain ⟨i,F,hi,rfl,oy,hF,OB,RES,hb,gC⟩:=hrel;rename World=>wo;have h4:=pC.out;replace h4:=Bq h4;have hRl9:=RES.lt;obtain ⟨OB_0,OB_1,OB_2,OB_3,OB_l⟩:=OB.g4;by_cases aA:i<y.shelf.length
   ·have aB:(i:Int)<(m1:Int):=by have:=cG.out;omega
    have hi00:(0:Int)<=(i:Int):=Bl;have gK:i<((y.shelf.take i).map (C6 id) ++ y.shelf.drop i).length:=by simp;omega
    obtain ⟨g,o,⟨xa,xn,xc⟩,rfl,fS,eV,ch⟩:=RdL.entryS (show RdL (Dt.list Bx) wo wo.heap.size (.slice B1 m1 e1) ((y.shelf.take i).map (C6 id) ++ y.shelf.drop i) from (Bu.ow_rd (F:=F) (x:=⟨y.now,y.seq,(y.shelf.take i).map (C6 id) ++ y.shelf.drop i,RR⟩) oy.out).1) gK;rw [Us (C6 id) aA gK] at eV;replace eV:RdL Bx wo wo (.slice xa xn xc) y.shelf[i]:=eV;have hxn:xn=y.shelf[i].length:=RdL.at1 (s:=⟨xa,xn,xc⟩) eV;subst hxn;have h80:=gX.out i aA;have hi3:i<=3:=by have:=h4.out;omega
    have jY:∀ j,wo.frozen? ⟨g,j,Ab⟩=false:=by
     obtain ⟨G1,G2,_,_,os,_⟩:=oy.out;exact OwL.free0 (show OwL (Dt.list Bx) wo G1 (.slice (Ac ⟨g,o,Ab⟩) m1 e1) _ from os) (Nat.lt_of_le_of_lt (Ag _) gK)
    have dA:=Bq (Np (C6 id) aA);have q0:Below wo wo (wo.alloc (.cells #[] 93)):=(Br _ _).alloc (Bs _) _;have o0:=Ow.empty Ct 93 wo rfl;generalize y.shelf[i]=SH at *
    go_wp2;go_loopw [9,10] (fun v j wr=>∃ m:Nat,m<=SH.length/\j = .int .i64 m/\Hid (Ow Ct 93 wr wo v (C6 id (SH.take m)))/\Below wo wo wr) (fun _ j _=>SH.length - (intOf j).toNat);case atStart=>exact ⟨0,Ag _,rfl,o0,q0⟩
    case round =>
     clear o0 q0;obtain ⟨m,hm_,rfl,hO,fG⟩:=hrel;clear OB_0 OB_1 OB_2 OB_3 OB_l;have OB2:=OB.below fG;have OB2_:=OB2.g4;have ch2:=(fG.cell (p:=⟨g,_,Ab⟩) fS).trans ch;have hwis:=fG.size;by_cases aW:m<SH.length
     ·have hltI2:(m:Int)<(SH.length:Int):=Bl;have fR:(0:Int)<=(m:Int):=Bl;obtain ⟨ge,oe,_,rfl,tQ,_,d0,d1,d2,d3⟩:=(eV.below fG).entry aW;have Hl:=Bq (show (C6 id (SH.take m)).length<=3000000 by have h1:=List.length_filter_le (fun e:Entry=>e.run != id) (SH.take m);rw [Az] at h1;unfold C6;omega);cases q:(SH[m].run != id)
      ·have S:=Bq (show C6 id (SH.take (m+1))=C6 id (SH.take m) from Lc (p:=fun e:Entry=>e.run != id) aW q);go_wp2;exact ⟨⟨m+1,Bl,by go_num,by rw [S.out];exact hO,fG⟩,by simp [intOf];omega⟩
      ·have S:=Bq (show C6 id (SH.take (m+1))=C6 id (SH.take m) ++ [SH[m]] from Ki (p:=fun e:Entry=>e.run != id) aW q);generalize SH[m]=e9 at *
       have ha:Hid (∀ w:World,Below w w (w.alloc (.cells #[.int .i64 e9.prio,.int .i64 e9.seq,.int .i64 e9.run,.int .i64 e9.task] 93))):=fun w=>(Br _ _).alloc (Bs _) _;have fX:=hO.out;go_wp2_with (at_builtin;go_loud (refine By _ Ct Bp rfl (.tmp 76) (.tmp 85) rfl Tryz.underlying96 aL aS aP aQ rfl (base:=wo.heap.size) (l:=C6 id (SH.take m)) rfl (fX.below (ha.out _)) rfl (Rd.one Ct _ _ e9 rfl rfl 1 (Bs _) (Nat.lt_succ_self _)) Hl.out Bn Bp (by simp;omega) ?_);intro v5 w5 o5 g5 _)
       have eK:Below wo wo w5:=(Bt fG (ha.out _)).grown g5 (Bt fG (ha.out _)).size (fun g hg=>by have:=fX.within _ hg;omega);exact ⟨⟨m+1,Bl,by go_num,by rw [S.out];exact o5,eK⟩,by simp [intOf];omega⟩
     ·have hltI2:¬ (m:Int)<(SH.length:Int):=Bl;have cN:=hO.out;rw [Bg Bl] at cN;obtain ⟨⟨a8,n8,c8⟩,Ft,rfl,o9,nF9⟩:=Gy cN;have oy2:Bu.ow wr F ⟨y.now,y.seq,(y.shelf.take i).map (C6 id) ++ y.shelf.drop i,RR⟩ (⟨Ac ⟨g,o,Ab⟩,m1,e1⟩,⟨A9,n9,c9⟩):=owB oy.out fG;have hFlt2:∀ x∈F,x<wo:=Bu.ow_lt (F:=F) (x:=⟨y.now,y.seq,(y.shelf.take i).map (C6 id) ++ y.shelf.drop i,RR⟩) (s:=(⟨Ac ⟨g,o,Ab⟩,m1,e1⟩,⟨A9,n9,c9⟩)) oy.out;obtain ⟨F',p1,p2,p3⟩:=Fg oy2 gK (l:=C6 id SH) (t:=⟨a8,n8,c8⟩) o9 (fun x hx bF=>by have h1:=nF9 x hx;have h2:=hFlt2 x bF;omega);dsimp only at p1;rw [dA.out] at p1;have hgn:=hF.out g p3;have hfg2:∀ j,wr.frozen? ⟨g,j,Ab⟩=false:=fun j=>(fG.frozen (p:=⟨g,j,Ab⟩) fS).trans (jY j);have OB3:=OB2.setOther (a:=⟨g,o+i,Ab⟩) (by show ob≠g;omega) (.slice a8 n8 c8);have RES3:=(RES.below fG).setOther (a:=⟨g,o+i,Ab⟩) (by show w.heap.size+1≠g;omega) (.slice a8 n8 c8);have cA:Below w w (wr.setCell ⟨g,o+i,Ab⟩ (.slice a8 n8 c8)):=Ad (Bt hb fG) (by show w.heap.size<=g;omega) _;have qV:Hid (∀ x∈F',w.heap.size+1<x/\x≠ob):=fun x hx=>by
       rcases p2 x hx with h | h
       ·exact hF.out x h
       ·have:=nF9 x h;omega
      have jK:=OB3.lt;clear hO cN dA o9 jY;go_wp2;exact ⟨⟨i+1,F',Bl,by go_num,p1,qV,OB3,RES3,cA,jK⟩,by simp [intOf];omega⟩
   ·have aB:¬ (i:Int)<(m1:Int):=by have:=cG.out;omega
    have hii:i=y.shelf.length:=Bl;have oyz:=oy.out;rw [Bg Bl,List.drop_eq_nil_of_le Bl,List.append_nil] at oyz;have rf:=RES.free;have RES_:=RES.g4;clear hii oy;go_wp2;have en1:w.heap.size+1∉F:=fun hx=>by have:=hF.out _ hx;omega
    refine Aj (Ld (DBox.row4 RES rfl _ _ _ _)) rfl ⟨(⟨B1,m1,e1⟩,⟨A9,n9,c9⟩),F,by rw [H.out,H2.out],by rw [H2.out];exact (by (repeat (refine Dt.ow_set Bu ?_ en1 _));exact (show Bu.ow _ F ⟨y.now,y.seq,y.shelf.map (C6 id),RR⟩ (⟨B1,m1,e1⟩,⟨A9,n9,c9⟩) from oyz)),fun x hx=>by have:=hF.out x hx;omega,?_⟩;repeat (first | (with_reducible exact hb) | refine Ad ?_ Bo _)
end
theorem Abe (l:List Int):l.flatMap Hn.cells=l.map (Value.int .i64):=by
 induction l with
 | nil=>rfl
 | cons a l ih=>rw [List.flatMap_cons,ih];rfl
theorem Ow.intsK (w:World) (E:TypeId) (l:List Int) {cs:Array Value} (sB:cs=(l.map (Value.int .i64)).toArray) {n g base:Nat} (hn:n=l.length) (hg:g=w) (hb:base<=w.heap.size) (hl:l.length<=1000) :
  Ow Hn E (w.alloc (.cells cs E)) base (Aa (Ac ⟨g,0,Ab⟩) n n) l:=by
 subst hn hg sB
 have:=World.ownsRow_lit (base:=base) (e:=E) (size:=Hn.sz) w (l.map (Value.int .i64)).toArray l.length hb (by simp [maxLen];omega) (by simp [Hn])
 unfold Ow;rw [Abe];exact this
theorem We:(Am.info? 26).map (fun i=>(i.zero,i.size,i.bytes))=Ac (Ac (Aa Ab 0 0),1,24):=Bm
def P6 (y:Yard) (x:Task):Bool:=(x.state == 3) && decide (x.until_ - 1<=y.now)
def Gl (y:Yard) (k:Nat):Run:=y.runs.getD k Gh
theorem Ei {y:Yard} {k:Nat} (h:k<y.runs.length):Gl y k=y.runs[k]:=by unfold Gl;rw [List.getD_eq_getElem?_getD,List.getElem?_eq_getElem h];rfl
def It (y:Yard) (k n:Nat):List (Nat×Nat):=((List.range n).filter fun t=>P6 y (Cs (Gl y k) t)).map fun t=>(k,t)
def E8 (y:Yard) (k:Nat):List (Nat×Nat):=(List.range k).flatMap fun j=>It y j (Gl y j).tasks.length
def Ia (y:Yard) (p:Nat×Nat):List Int:=[(Gl y p.1).id,p.2,(Cs (Gl y p.1) p.2).try_]
theorem Uu (y:Yard) (k:Nat):It y k 0=[]:=rfl
theorem Wg {y:Yard} {k n:Nat} (h:P6 y (Cs (Gl y k) n)=true):It y k (n+1)=It y k n ++ [(k,n)]:=by
 unfold It;rw [List.range_succ,List.filter_append,List.map_append];simp [h]
theorem P7 {y:Yard} {k n:Nat} (h:P6 y (Cs (Gl y k) n)=false):It y k (n+1)=It y k n:=by
 unfold It;rw [List.range_succ,List.filter_append,List.map_append];simp [h]
theorem O9 (y:Yard) (k:Nat):E8 y (k+1)=E8 y k ++ It y k (Gl y k).tasks.length:=by
 unfold E8;rw [List.range_succ,List.flatMap_append];simp
theorem Qw (y:Yard) (k n:Nat):(It y k n).length<=n:=by
 unfold It;rw [Ar];exact Nat.le_trans (List.length_filter_le _ _) Bn
theorem Kz {y:Yard} (h:∀ j,(Gl y j).tasks.length<=12):∀ k,(E8 y k).length<=12 * k
 | 0=>by simp [E8]
 | k+1=>by
  rw [O9,Bd];have h1:=Kz h k;have h2:=Qw y k (Gl y k).tasks.length;have h3:=h k;omega
theorem Mg {y:Yard} (h:Dd y) (j:Nat):(Gl y j).tasks.length<=12:=by
 by_cases q:j<y.runs.length
 ·rw [Ei q];exact (Dp (D7 h q)).2
 ·unfold Gl;rw [List.getD_eq_getElem?_getD,List.getElem?_eq_none Bl];simp [Gh]
theorem Uv {y:Yard} (h:Dd y) {k t:Nat} (hk:k<y.runs.length) (ht:t<y.runs[k].tasks.length) (hs:y.runs[k].tasks[t].state=3):y.now+1<=y.runs[k].tasks[t].until_/\y.runs[k].tasks[t].until_<=1000000000:=by
 have h1:=h.2.2.2.2.2.2.2.2.1 y.runs[k] (Aw hk) t ht;unfold Oa at h1;rw [Cr ht] at h1;have h2:=h1.2 hs;have h3:=(D7 h hk).2.2.2.1 t ht;unfold Gt Ni at h3;rw [Cr ht] at h3;have h4:=h3.2.2.2.1 hs;omega
theorem Xp (y:Yard) (s:Sl×Sl) (w:World) (hl:Cb y<=2000000) (hY:Dd y) (h:Bu.rd w w y s) :
  Calls Am 213 #[Dg y s] w (Di (Dt.list (Dt.flats Hn)) slV ((E8 y y.runs.length).map (Ia y)) w):=by
 obtain ⟨⟨A1,n1,c1⟩,⟨A2,n2,c2⟩⟩:=s;obtain rfl:n2=y.runs.length:=RdL.at1 (s:=⟨A2,n2,c2⟩) h.2;have CX:=Bq (fun W (hW:Below w w W)=>show RdL Ch W w.heap.size (.slice A2 y.runs.length c2) y.runs from (Bu.rd_below (x:=y) (s:=(⟨A1,n1,c1⟩,⟨A2,y.runs.length,c2⟩)) h hW).2);have mU:y.runs.length<=8:=hY.2.2.2.2.2.2.1;have HP:=Bq hY;clear h hY;obtain ⟨it,i0,z0,z1,z2⟩:=info_parts We;have X:=DBox.new 31 [.int .i64 y.now,.int .i64 y.seq,.slice A1 n1 c1,.slice A2 y.runs.length c2] w (b:=w.heap.size) rfl;have B0:Below w w (w.alloc (.cells #[.int .i64 y.now,.int .i64 y.seq,.slice A1 n1 c1,.slice A2 y.runs.length c2] 31)):=by repeat (first | exact Br _ _ | refine Below.alloc ?_ Bo _)
 go_enter Tryz.func213,Tryz.ntmps213;go_wp2;have hWs:w.heap.size+1=(w.alloc (.cells #[.int .i64 y.now,.int .i64 y.seq,.slice A1 n1 c1,.slice A2 y.runs.length c2] 31)).heap.size:=Bn;have o0:=Ow.empty (Dt.flats Hn).enc 26 (w.alloc (.cells #[.int .i64 y.now,.int .i64 y.seq,.slice A1 n1 c1,.slice A2 y.runs.length c2] 31)) rfl;have b0:Below (w.alloc (.cells #[.int .i64 y.now,.int .i64 y.seq,.slice A1 n1 c1,.slice A2 y.runs.length c2] 31)) (w.alloc (.cells #[.int .i64 y.now,.int .i64 y.seq,.slice A1 n1 c1,.slice A2 y.runs.length c2] 31)) ((w.alloc (.cells #[.int .i64 y.now,.int .i64 y.seq,.slice A1 n1 c1,.slice A2 y.runs.length c2] 31)).alloc (.cells #[] 26)):=(Br _ _).alloc (Bs _) _;replace X:=X.below b0;replace B0:=Bt B0 b0;rw [<-hWs] at o0;go_loopw [3,4] (fun v i wr=>∃ k:Nat,k<=y.runs.length/\i = .int .i64 k/\Hid (Bls (Dt.flats Hn) 26 wr (w.heap.size+1) v ((E8 y k).map (Ia y)))/\DBox w [.int .i64 y.now,.int .i64 y.seq,.slice A1 n1 c1,.slice A2 y.runs.length c2] wr/\Below w w wr) (fun _ i _=>y.runs.length - (intOf i).toNat);case atStart=>exact ⟨0,Ag _,rfl,⟨[],rfl,Bld.of_empty o0⟩,X,B0⟩
 case round =>
  clear X B0 o0 b0 hWs;obtain ⟨k,hk,rfl,hB,X,hb⟩:=hrel;have X_:=X.g4;by_cases aA:k<y.runs.length
  ·have aB:(k:Int)<(y.runs.length:Int):=Bl;have dB:(0:Int)<=(k:Int):=Bl;go_wp2;go_loopw [3,5,6] (fun vv i u wr=>∃ (n:Nat) (v:Value),n<=y.runs[k].tasks.length/\i = .int .i64 n/\v=vv/\Hid (Bls (Dt.flats Hn) 26 wr (w.heap.size+1) v ((E8 y k ++ It y k n).map (Ia y)))/\DBox w [.int .i64 y.now,.int .i64 y.seq,.slice A1 n1 c1,.slice A2 y.runs.length c2] wr/\Below w w wr) (fun _ i _ _=>y.runs[k].tasks.length - (intOf i).toNat);case atStart=>exact ⟨0,_,Ag _,rfl,rfl,by rw [Uu,List.append_nil];exact hB,X,hb⟩
   case round =>
    clear X_;clear X hb hB;obtain ⟨n,v,hn,rfl,rfl,hB,X,hb⟩:=hrel;obtain ⟨b,o,⟨s1,⟨At,nt,ct⟩⟩,rfl,aH,cD,c0,c1_,c2_,c3_,c4_,c5_,c6_,c7⟩:=(CX.out wr hb).run aA;obtain rfl:nt=y.runs[k].tasks.length:=RdL.at1 (s:=⟨At,nt,ct⟩) cD.2;have h3:RdL Ee wr w (.slice At y.runs[k].tasks.length ct) y.runs[k].tasks:=cD.2;clear c1_ c2_ c3_ c4_ c5_ c6_ cD;have X_:=X.g4;have hwrs:=hb.size;by_cases eT:n<y.runs[k].tasks.length
    ·have fH:=(Dp (D7 HP.out aA)).2;have nU:(n:Int)<(y.runs[k].tasks.length:Int):=Bl;have uU:(0:Int)<=(n:Int):=Bl;obtain ⟨b',o',_,rfl,bI,_,d0,d1,d2,d3⟩:=h3.task eT;have hU:=Bq (fun hs=>Uv HP.out aA eT hs);have hJ:=Bq (show Cs (Gl y k) n=y.runs[k].tasks[n] by rw [Ei aA,Cr eT]);have hRow:Hid (Ia y (k,n)=[y.runs[k].id,(n:Int),y.runs[k].tasks[n].try_]):=by
      show Ia y (k,n)=_;unfold Ia;rw [hJ.out,Ei aA]
     have aJ:=Bq (show (E8 y k ++ It y k n).length<=3000000 by
      have h1:=Kz (Mg HP.out) k;have h2:=Qw y k n;have h5:=(Dp (D7 HP.out aA)).2;rw [Bd];omega)
     generalize y.runs[k].tasks[n]=x at *
     generalize y.runs[k].id=rid at *
     have TB:=DBox.new 138 [.int .i64 x.state,.int .i64 x.need,.int .i64 x.try_,.int .i64 x.until_] wr (b:=wr.heap.size) rfl;have b2:Below wr wr (wr.alloc (.cells #[.int .i64 x.state,.int .i64 x.need,.int .i64 x.try_,.int .i64 x.until_] 138)):=(Br _ _).alloc (Bs _) _;go_upto_region 9 with fail
     clear X_;replace X:=X.below b2;have aF:=Bt hb b2;have mH:=hB.out.below b2;have eN:=TB.lt;have mQ:=X.lt;replace c0:=(b2.cell (p:=⟨b,_,Ab⟩) (by show b<wr;omega)).trans c0;have hvb:=Bq (show ∀ z,v.ownBlock=Ac z->w.heap.size+1<=z/\z≠wr.heap.size/\z≠b from fun z hz=>by
      obtain ⟨rs,hm,mZ⟩:=hB.out;have h1:=mZ.ow.within z hz;omega)
     have bQ:b<(wr.alloc (.cells #[.int .i64 x.state,.int .i64 x.need,.int .i64 x.try_,.int .i64 x.until_] 138)):=by simp;omega
     clear b2 c7 d0 d1 d2 d3 hb hB;generalize wr.alloc (.cells #[.int .i64 x.state,.int .i64 x.need,.int .i64 x.try_,.int .i64 x.until_] 138)=w2 at *
     generalize htb:wr.heap.size=tb at *
     have X_:=X.g4;obtain ⟨TB_0,TB_1,TB_2,TB_3,TB_l⟩:=TB.g4;by_cases q:x.state=3;case neg =>
      have q1:(x.state == 3)=false:=by simp [q]
      have S:=Bq (P7 (y:=y) (k:=k) (n:=n) (by rw [hJ.out];unfold P6;rw [q1];rfl));clear q;go_wp2;exact ⟨⟨n+1,v,eT,by go_num,rfl,by rw [S.out];exact mH,X,aF⟩,by simp [intOf];omega⟩
     have q1:(x.state == 3)=true:=by simp [q]
     have hu:=hU.out q;have wr1:U.wrap (x.until_ - 1)=x.until_ - 1:=Aq _ (by have:=HP.out.1;omega);have q2:¬ x.until_<=y.now:=Bl;by_cases q3:x.until_ - 1<=y.now;case neg =>
      have S:=Bq (P7 (y:=y) (k:=k) (n:=n) (by rw [hJ.out];unfold P6;rw [q1,decide_eq_false q3];rfl));clear q hu;go_wp2;exact ⟨⟨n+1,v,eT,by go_num,rfl,by rw [S.out];exact mH,X,aF⟩,by simp [intOf];omega⟩
     have S:=Bq (Wg (y:=y) (k:=k) (n:=n) (by rw [hJ.out];unfold P6;rw [q1,decide_eq_true q3];rfl));clear q hu;go_wp2;clear TB_0 TB_1 TB_2 TB_3 TB_l;refine Go.wp_region_noPanic ?_;refine wp_region_held_drew (S:=(fun w'=>DBox w [.int .i64 y.now,.int .i64 y.seq,.slice A1 n1 c1,.slice (Ac ⟨b,o,Ab⟩) y.runs.length c2] w'/\w'.cell? ⟨b,o+k * 8,Ab⟩=Ac (.int .i64 rid)/\DBox tb [.int .i64 x.state,.int .i64 x.need,.int .i64 x.try_,.int .i64 x.until_] w')) Bm ⟨DBox.drew4 X,c0,DBox.drew4 TB⟩ (fun hHeld=>?_);have tE:=aF.drew;have jX:=mH.below (Br _ _).drew;have hsd:w2.drew.heap.size=w2.heap.size:=rfl;clear X_;clear X c0 TB aF mH;rw [<-hsd] at bQ eN mQ;clear hsd;generalize w2.drew=w3 at *
     refine tV 0 ?_
     (try simp only [pS])
     refine tV 1 ?_
     (try simp only [pS])
     refine tV 2 ?_
     (try simp only [pS])
     refine tV 3 ?_
     (try simp only [pS])
     refine tV 4 ?_
     (try simp only [pS])
     refine tV 5 ?_
     (try simp only [pS])
     refine tV 6 ?_
     (try simp only [pS])
     refine tV 7 ?_
     (try simp only [pS])
     refine tV 8 ?_
     (try simp only [pS])
     refine tV 9 ?_
     (try simp only [pS])
     refine rC 10 (fun K_ hK=>?_);go_simp;have o9:=Ow.intsK w3 3 [rid,(n:Int),x.try_] (cs:=#[.int .i64 rid,.int .i64 (n:Int),.int .i64 x.try_]) rfl (n:=3) (g:=w3.heap.size) (base:=w3.heap.size) rfl rfl (Bs _) Bn;have b4:Below w3 w3 (w3.alloc (.cells #[.int .i64 rid,.int .i64 (n:Int),.int .i64 x.try_] 3)):=(Br _ _).alloc (Bs _) _;have kY:=b4.size;obtain ⟨hw9,hwB⟩:=Hw.of_ow o9;refine hK.out _ _ ⟨hHeld.1.below b4,(b4.cell (p:=⟨b,_,Ab⟩) bQ).trans hHeld.2.1,hHeld.2.2.below b4⟩ (fun hHeld=>?_);clear hK K_
     (try simp only [pS])
     generalize gP:w3.heap.size=g9 at *
     generalize w3.alloc (.cells #[.int .i64 rid,.int .i64 (n:Int),.int .i64 x.try_] 3)=w4 at *
     refine rC 11 (fun K_ hK=>?_);go_simp;have b5:Below w4 w4 (w4.alloc (.cells #[.slice (Ac ⟨g9,0,Ab⟩) 3 3] 26)):=(Br _ _).alloc (Bs _) _;have hbw4:b<w4:=Bl;refine hK.out _ _ ⟨hHeld.1.below b5,(b5.cell (p:=⟨b,_,Ab⟩) hbw4).trans hHeld.2.1,hHeld.2.2.below b5⟩ (fun hHeld=>?_);clear hK K_
     (try simp only [pS])
     obtain ⟨rs,hm,jT⟩:=jX;have bK:rs.length<=3000000:=by
      have h1:=congrArg List.length hm;rw [Ar,Ar] at h1;rw [h1];exact aJ.out
     have uV:=Bq bK;clear bK;have b45:=Bt (by rw [gP];exact b4) b5;refine rC 12 (fun K_ hK=>?_);refine Em _ (Dt.flats Hn).enc Bp (.tmp 53) (.tmp 64) 215 rfl (w.heap.size+1) 26 _ _ _ Tryz.underlying215 i0 z0 z1 z2 rfl v rs rfl (jT.ow.below b45) _ _ _ _ [([rid,(n:Int),x.try_],(⟨Ac ⟨g9,0,Ab⟩,3,3⟩:Sl))] rfl (Rd.one (Dt.flats Hn).enc _ _ ([rid,(n:Int),x.try_],(⟨Ac ⟨g9,0,Ab⟩,3,3⟩:Sl)) rfl rfl 1 (Bs _) (Nat.lt_succ_self _)) uV.out Bn Bp (by have:=b45.size;omega) ?_;intro v6 w6 o6 gg f6;have hP:=Bld.push1 (d:=Dt.flats Hn) (x:=[rid,(n:Int),x.try_]) (s:=(⟨Ac ⟨g9,0,Ab⟩,3,3⟩:Sl)) jT (by rw [gP];exact b4) hw9 (fun y hy=>by rw [gP];exact hwB y hy) Bl b5 o6 gg f6;have pU:∀ z,v.ownBlock=Ac z->w.heap.size+1<=z/\z≠tb/\z≠b:=fun z hz=>hvb.out z hz;have X6:=hHeld.1.off gg (fun e=>by have:=(pU _ e.symm).1;omega);have T6:=hHeld.2.2.off gg (fun e=>(pU _ e.symm).2.1 rfl);have hbw5:b<(w4.alloc (.cells #[.slice (Ac ⟨g9,0,Ab⟩) 3 3] 26)):=by have:=b5.size;omega
     have c6:=(gg.cell_far ⟨b,o+k * 8,Ab⟩ hbw5 (fun e=>(pU _ e.symm).2.2 rfl)).trans hHeld.2.1;have tC:Below w w w6:=(Bt tE b45).grown gg (Bt tE b45).size (fun g hg=>by have:=(pU g hg).1;omega);have kF:(rs ++ [([rid,(n:Int),x.try_],(⟨Ac ⟨g9,0,Ab⟩,3,3⟩:Sl))]).map (·.1)=(E8 y k ++ It y k (n+1)).map (Ia y):=by
      simp only [List.map_append,List.map_cons,List.map_nil,hm,S.out,hRow.out,List.append_assoc]
     have hB6:Bls (Dt.flats Hn) 26 w6 (w.heap.size+1) v6 ((E8 y k ++ It y k (n+1)).map (Ia y)):=⟨_,kF,hP⟩
     refine hK.out _ _ ⟨X6,c6,T6⟩ (fun hHeld=>?_);clear hK K_
     (try simp only [pS])
     refine tV 13 ?_
     (try simp only [pS])
     refine wpAnyH_done Bm ?_ _;refine NoPanic.normal ?_;have hB7:=Bq hB6;clear hHeld hP kF hB6 hm jT gg o6 f6 T6 c6;go_wp2;refine ⟨⟨n+1,eT,by go_num,?_⟩,by simp [intOf];omega⟩;rw [<-List.map_append];exact hB7
    ·have nU:¬ (n:Int)<(y.runs[k].tasks.length:Int):=Bl;have S:=Bq (show E8 y (k+1)=E8 y k ++ It y k n by
      rw [O9,show (Gl y k).tasks.length=n by rw [Ei aA];omega])
     go_wp2;exact ⟨⟨k+1,Bl,by go_num,by rw [S.out];exact hB,X,hb⟩,by simp [intOf];omega⟩
  ·have aB:¬ (k:Int)<(y.runs.length:Int):=Bl;obtain rfl:k=y.runs.length:=Bl;obtain ⟨rs,hm,mZ⟩:=hB.out;obtain ⟨F,h1,h2⟩:=mZ.owl hm;obtain ⟨A,c,hv,_⟩:=h1.form;rw [Ar] at hv;subst hv;have eA:Di (Dt.list (Dt.flats Hn)) slV ((E8 y y.runs.length).map (Ia y)) w (.returned (.slice A (E8 y y.runs.length).length c)) wr:=⟨⟨A,_,c⟩,F,rfl,h1,fun x hx=>by have:=h2 x hx;omega,hb⟩
   clear hB mZ h1;go_wp2;go_ret;exact eA
section
open Classical in
noncomputable def Hx (y:Yard) (id:Int):Int :=
 if ¬ Dd y then 8 else if Da y id<0 then 10 else if ¬ (Js y id).state=1 then 12 else 0
noncomputable def Hy (y:Yard) (id:Int):Yard:=if Hx y id=0 then ⟨y.now,y.seq,y.shelf,y.runs.set (Da y id).toNat (Dm (Js y id) 4)⟩ else y
theorem Mt {b:Nat} {w:World} {u0 u1 u2 u3:Value} (X:DBox b [u0,u1,u2,u3] w) {v0 v1 v2 v3 v5:Value} {rest:List Value} :
  (results Tryz.f148 (v0 :: v1 :: v2 :: v3 :: .pointer (Ac ⟨b,0,Ab⟩) :: v5 :: rest).toArray).run Am w = .ok (.tuple #[.agg #[u0,u1,u2,u3],v5]) w:=by
 have c0:=X.cell 0 _ rfl;have c1:=X.cell 1 _ rfl;have c2:=X.cell 2 _ rfl;have c3:=X.cell 3 _ rfl;simp [results,Tryz.results148,go_sem,c0,c1,c2,c3]
theorem Uw (y:Yard) (s:Sl×Sl) (id:Int) (w:World) (hl:Cb y<=2000000) (h:Bu.rd w w y s) :
  Calls Am 148 #[Dg y s,J U id] w (Ht (Hy y id) (Hx y id) w):=by
 have HR:=Bq (show ∀ W,Below w w W->Bu.rd W W y s from fun W hW=>Bu.rd_more (Bu.rd_below h hW) hW.size);obtain ⟨⟨A1,n1,c1⟩,⟨A2,n2,c2⟩⟩:=s;have CC:=Bq (fun W hW=>Ed y (⟨A1,n1,c1⟩,⟨A2,n2,c2⟩) W hl (HR.out W hW));have CY:=Bq (fun W hW=>Fj y (⟨A1,n1,c1⟩,⟨A2,n2,c2⟩) W hl (HR.out W hW));have CA:=Bq (fun W hW=>Es y (⟨A1,n1,c1⟩,⟨A2,n2,c2⟩) id W hl (HR.out W hW));have CX:=Bq (fun W hW=>show RdL Ch W W.heap.size (Aa A2 n2 c2) y.runs from (HR.out W hW).2);clear h HR;obtain ⟨W,aG,X,RES,B0⟩:=bx2 w 31 [J U y.now,J U y.seq,Aa A1 n1 c1,Aa A2 n2 c2] 31 [J U 0,J U 0,Aa Ab 0 0,Aa Ab 0 0];go_enter Tryz.func148,Tryz.ntmps148;go_wp2_with fail
 rw [<-aG.out];clear aG;have dK:w.heap.size+1<W.heap.size:=RES.lt;refine (CC.out _ B0).mono ?_;rintro e1 w1 ⟨⟨⟨B1,m1,e1⟩,⟨B2,m2,e2⟩⟩,F,rfl,oy,nF,b1⟩;have bL:=b1.size;have cH:=Bu.ow_lt (F:=F) (x:=y) (s:=(⟨B1,m1,e1⟩,⟨B2,m2,e2⟩)) oy;replace X:=X.below b1;replace RES:=RES.below b1;replace B0:=Bt B0 b1;clear b1;go_upto_region 2 with fail
 have OB:=DBox.new 31 [J U y.now,J U y.seq,Aa B1 m1 e1,Aa B2 m2 e2] w1 (b:=w1.heap.size) rfl;have b2:Below w1 w1 (w1.alloc (.cells #[J U y.now,J U y.seq,Aa B1 m1 e1,Aa B2 m2 e2] 31)):=(Br _ _).alloc (Bs _) _;replace X:=X.below b2;replace RES:=RES.below b2;replace oy:=Bu.ow_below (F:=F) (x:=y) (s:=(⟨B1,m1,e1⟩,⟨B2,m2,e2⟩)) oy b2;replace B0:=Bt B0 b2;have ow1:=OB.lt;clear b2;generalize w1.alloc (.cells #[J U y.now,J U y.seq,Aa B1 m1 e1,Aa B2 m2 e2] 31)=w2 at *
 generalize cJ:w1.heap.size=ob at *
 have X_:=X.g4;obtain ⟨OB_0,OB_1,OB_2,OB_3,OB_l⟩:=OB.g4;go_wp2_with fail
 refine (CA.out _ B0).mono ?_;rintro e1 w3 ⟨rfl,b3⟩;clear X_;clear OB_0 OB_1 OB_2 OB_3 OB_l;replace X:=X.below b3;replace OB:=OB.below b3;replace RES:=RES.below b3;replace oy:Bu.ow w3 F y (⟨B1,m1,e1⟩,⟨B2,m2,e2⟩):=owB oy b3;replace B0:=Bt B0 b3;clear b3;have X_:=X.g4;obtain ⟨OB_0,OB_1,OB_2,OB_3,OB_l⟩:=OB.g4;go_wp2_with fail
 refine (CY.out _ B0).mono ?_;rintro e1 w4 ⟨rfl,b4⟩;clear X_;clear OB_0 OB_1 OB_2 OB_3 OB_l;replace X:=X.below b4;replace OB:=OB.below b4;replace RES:=RES.below b4;replace oy:Bu.ow w4 F y (⟨B1,m1,e1⟩,⟨B2,m2,e2⟩):=owB oy b4;replace B0:=Bt B0 b4;clear b4;have X_:=X.g4;obtain ⟨OB_0,OB_1,OB_2,OB_3,OB_l⟩:=OB.g4;by_cases p0:Dd y;case neg =>
  rw [Cf p0];have H:=Bq (show Hx y id=8 by unfold Hx;rw [if_pos p0]);have H2:=Bq (show Hy y id=y by unfold Hy;rw [H.out,if_neg Bp]);have RES_:=RES.g4;have rf:=RES.free;go_wp2;have en1:w.heap.size+1∉F:=fun hx=>by have:=nF _ hx;omega
  refine Aj (Mt (DBox.row4 RES rfl _ _ _ _)) rfl ⟨(⟨B1,m1,e1⟩,⟨B2,m2,e2⟩),F,by rw [H.out,H2.out],by rw [H2.out];exact (by (repeat (refine Dt.ow_set Bu ?_ en1 _));exact (show Bu.ow _ F y (⟨B1,m1,e1⟩,⟨B2,m2,e2⟩) from oy)),fun x hx=>by have:=nF x hx;omega,?_⟩;repeat (first | (with_reducible exact B0) | refine Ad ?_ Bo _)
 rw [Dj p0];have P0:=Bq p0;clear p0;by_cases p1:Da y id<0;case pos =>
  have H:=Bq (show Hx y id=10 by unfold Hx;rw [if_neg (fun h=>h P0.out),if_pos p1]);have H2:=Bq (show Hy y id=y by unfold Hy;rw [H.out,if_neg Bp]);have RES_:=RES.g4;have rf:=RES.free;go_wp2;have en1:w.heap.size+1∉F:=fun hx=>by have:=nF _ hx;omega
  refine Aj (Mt (DBox.row4 RES rfl _ _ _ _)) rfl ⟨(⟨B1,m1,e1⟩,⟨B2,m2,e2⟩),F,by rw [H.out,H2.out],by rw [H2.out];exact (by (repeat (refine Dt.ow_set Bu ?_ en1 _));exact (show Bu.ow _ F y (⟨B1,m1,e1⟩,⟨B2,m2,e2⟩) from oy)),fun x hx=>by have:=nF x hx;omega,?_⟩;repeat (first | (with_reducible exact B0) | refine Ad ?_ Bo _)
 rcases Ek y id with hr | ⟨k,hk,hr⟩
 ·exact absurd hr Bl
 have HK:=Bq (Gf hk hr);have HR2:=Bq hr;rw [hr];clear hr p1;have P1:=Bq (show ¬ Da y id<0 by have:=HR2.out;omega);have gG:(k:Int)<(n2:Int):=by have:=RdL.at1 (s:=⟨A2,n2,c2⟩) (CX.out _ B0);dsimp only at this;omega
 have dB:(0:Int)<=(k:Int):=Bl;have hkn:¬ (k:Int)<0:=Bl;have bH:=Bq (D7 P0.out hk);obtain ⟨gx,ox,_,rfl,kK,_,c0,c1_,c2_,c3_,c4_,c5_,c6,c7_⟩:=(CX.out _ B0).run hk;clear c0 c1_ c2_ c3_ c4_ c5_ c7_;by_cases p2:y.runs[k].state=1;case neg =>
  have q2:(y.runs[k].state != 1)=true:=by simp [p2]
  have H:=Bq (show Hx y id=12 by unfold Hx;rw [if_neg (fun h=>h P0.out),if_neg P1.out,if_pos (by rw [HK.out];exact p2)]);clear p2;have H2:=Bq (show Hy y id=y by unfold Hy;rw [H.out,if_neg Bp]);have RES_:=RES.g4;have rf:=RES.free;go_wp2;have en1:w.heap.size+1∉F:=fun hx=>by have:=nF _ hx;omega
  refine Aj (Mt (DBox.row4 RES rfl _ _ _ _)) rfl ⟨(⟨B1,m1,e1⟩,⟨B2,m2,e2⟩),F,by rw [H.out,H2.out],by rw [H2.out];exact (by (repeat (refine Dt.ow_set Bu ?_ en1 _));exact (show Bu.ow _ F y (⟨B1,m1,e1⟩,⟨B2,m2,e2⟩) from oy)),fun x hx=>by have:=nF x hx;omega,?_⟩;repeat (first | (with_reducible exact B0) | refine Ad ?_ Bo _)
 have q2:(y.runs[k].state != 1)=false:=by simp [p2]
 have H:=Bq (show Hx y id=0 by unfold Hx;rw [if_neg (fun h=>h P0.out),if_neg P1.out,if_neg (by rw [HK.out];exact fun h=>h p2)]);have H2:=Bq (show Hy y id=⟨y.now,y.seq,y.shelf,y.runs.set k (Dm y.runs[k] 4)⟩ by unfold Hy;rw [if_pos H.out,HK.out,HR2.out,Ao]);have P2:=Bq p2;clear p2;go_upto_region 9 with fail
 have oyr:=(Bu.ow_rd (F:=F) (x:=y) (s:=(⟨B1,m1,e1⟩,⟨B2,m2,e2⟩)) oy).2;have dJ:=Bq (show m2=y.runs.length from RdL.at1 (s:=⟨B2,m2,e2⟩) oyr);have gU:(k:Int)<(m2:Int):=by have:=dJ.out;omega
 obtain ⟨gr,orr,sk,rfl,dD,cX,d0,d1,d2,d3,d4,d5,d6,d7⟩:=RdL.run (show RdL Ch w4 w4.heap.size (Aa B2 m2 e2) y.runs from oyr) hk;have gV:∀ i,w4.frozen? ⟨gr,i,Ab⟩=false:=by
  obtain ⟨G1,G2,_,_,_,os⟩:=oy;exact OwL.free0 (show OwL Ch w4 G2 (Aa (Ac ⟨gr,orr,Ab⟩) m2 e2) y.runs from os) Bl
 clear X_;clear X c6 q2;generalize mM:y.runs[k]=r at *
 have CSt:=Bq (Xe r sk w4.drew (by have:=J3 bH.out;omega) bH.out P2.out (by have:=Dp bH.out;omega) (Ch.rd_below cX (Br _ _).drew));have hobw5:ob<w4:=OB.lt;clear cX oyr mM;go_wp2;refine Cz (fun w'=>w'.cell? ⟨ob,3,Ab⟩=Ac (Aa (Ac ⟨gr,orr,Ab⟩) m2 e2)/\w'.cell? ⟨gr,orr+k * 8,Ab⟩=Ac (J U r.id)/\w'.cell? ⟨gr,orr+k * 8+1,Ab⟩=Ac (J U r.plan.prio)/\w'.cell? ⟨gr,orr+k * 8+2,Ab⟩=Ac (J U r.plan.most)/\w'.cell? ⟨gr,orr+k * 8+3,Ab⟩=Ac (J U r.plan.wait)/\w'.cell? ⟨gr,orr+k * 8+4,Ab⟩=Ac (J U r.plan.tasks)/\w'.cell? ⟨gr,orr+k * 8+5,Ab⟩=Ac (Aa sk.1.a sk.1.n sk.1.c)/\w'.cell? ⟨gr,orr+k * 8+6,Ab⟩=Ac (J U r.state)/\w'.cell? ⟨gr,orr+k * 8+7,Ab⟩=Ac (Aa sk.2.a sk.2.n sk.2.c)) 10 Bm ?_ (fun hHeld=>?_)
 ·exact ⟨OB_3,d0,d1,d2,d3,d4,d5,d6,d7⟩
 refine aT 0 hHeld ?_;try simp only [pS]
 refine aT 1 hHeld ?_;try simp only [pS]
 refine aT 2 hHeld ?_;try simp only [pS]
 refine aT 3 hHeld ?_;try simp only [pS]
 refine aT 4 hHeld ?_;try simp only [pS]
 refine aT 5 hHeld ?_;try simp only [pS]
 refine aT 6 hHeld ?_;try simp only [pS]
 refine aT 7 hHeld ?_;try simp only [pS]
 refine oT 8 (fun K hK=>?_)
 (go_simp;refine CSt.out.mono ?_;rintro e9 w6 ⟨sr,Fr,rfl,orn,nr,b6⟩;have q0:w6.cell? ⟨gr,orr+k * 8,Ab⟩=Ac (J U r.id):=(b6.cell (p:=⟨_,_,Ab⟩) (by show gr<w4;omega)).trans d0;have q1:w6.cell? ⟨gr,orr+k * 8+1,Ab⟩=Ac (J U r.plan.prio):=(b6.cell (p:=⟨_,_,Ab⟩) (by show gr<w4;omega)).trans d1;have q2:w6.cell? ⟨gr,orr+k * 8+2,Ab⟩=Ac (J U r.plan.most):=(b6.cell (p:=⟨_,_,Ab⟩) (by show gr<w4;omega)).trans d2;have q3:w6.cell? ⟨gr,orr+k * 8+3,Ab⟩=Ac (J U r.plan.wait):=(b6.cell (p:=⟨_,_,Ab⟩) (by show gr<w4;omega)).trans d3;have q4:w6.cell? ⟨gr,orr+k * 8+4,Ab⟩=Ac (J U r.plan.tasks):=(b6.cell (p:=⟨_,_,Ab⟩) (by show gr<w4;omega)).trans d4;have q5:w6.cell? ⟨gr,orr+k * 8+5,Ab⟩=Ac (Aa sk.1.a sk.1.n sk.1.c):=(b6.cell (p:=⟨_,_,Ab⟩) (by show gr<w4;omega)).trans d5;have q6:w6.cell? ⟨gr,orr+k * 8+6,Ab⟩=Ac (J U r.state):=(b6.cell (p:=⟨_,_,Ab⟩) (by show gr<w4;omega)).trans d6;have q7:w6.cell? ⟨gr,orr+k * 8+7,Ab⟩=Ac (Aa sk.2.a sk.2.n sk.2.c):=(b6.cell (p:=⟨_,_,Ab⟩) (by show gr<w4;omega)).trans d7;have qf:∀ j,w6.frozen? ⟨gr,j,Ab⟩=false:=fun j=>(b6.frozen (p:=⟨_,_,Ab⟩) (by show gr<w4;omega)).trans (gV j))
 refine hK.out _ _ (fun _=>?_) ?_
 ·exact ⟨(b6.cell (p:=⟨_,_,Ab⟩) (by show ob<w4;omega)).trans OB_3,(b6.cell (p:=⟨_,_,Ab⟩) (by show gr<w4;omega)).trans d0,(b6.cell (p:=⟨_,_,Ab⟩) (by show gr<w4;omega)).trans d1,(b6.cell (p:=⟨_,_,Ab⟩) (by show gr<w4;omega)).trans d2,(b6.cell (p:=⟨_,_,Ab⟩) (by show gr<w4;omega)).trans d3,(b6.cell (p:=⟨_,_,Ab⟩) (by show gr<w4;omega)).trans d4,(b6.cell (p:=⟨_,_,Ab⟩) (by show gr<w4;omega)).trans d5,(b6.cell (p:=⟨_,_,Ab⟩) (by show gr<w4;omega)).trans d6,(b6.cell (p:=⟨_,_,Ab⟩) (by show gr<w4;omega)).trans d7⟩
 clear hK K;try simp only [pS]
 refine oT 9 (fun K hK=>?_);go_simp;refine hK.out _ _ (fun _=>?_) ?_
 ·exact ⟨(b6.cell (p:=⟨_,_,Ab⟩) (by show ob<w4;omega)).trans OB_3,(b6.cell (p:=⟨_,_,Ab⟩) (by show gr<w4;omega)).trans d0,(b6.cell (p:=⟨_,_,Ab⟩) (by show gr<w4;omega)).trans d1,(b6.cell (p:=⟨_,_,Ab⟩) (by show gr<w4;omega)).trans d2,(b6.cell (p:=⟨_,_,Ab⟩) (by show gr<w4;omega)).trans d3,(b6.cell (p:=⟨_,_,Ab⟩) (by show gr<w4;omega)).trans d4,(b6.cell (p:=⟨_,_,Ab⟩) (by show gr<w4;omega)).trans d5,(b6.cell (p:=⟨_,_,Ab⟩) (by show gr<w4;omega)).trans d6,(b6.cell (p:=⟨_,_,Ab⟩) (by show gr<w4;omega)).trans d7⟩
 clear hK K;try simp only [pS]
 refine oT 10 (fun K hK=>?_);go_simp;refine hK.out _ _ (fun aC=>absurd rfl aC) ?_;clear hK K;try simp only [pS]
 refine Dr Bm ?_ _;have b6':Below w4 w4 w6:=Bt (Br _ _).drew b6;have nP:=b6'.size;have kY:=B0.size;have nK:∀ x∈Fr,w4<=x:=nr;have gR:∀ x∈F,x<w4:=Bu.ow_lt (F:=F) (x:=y) (s:=(⟨B1,m1,e1⟩,⟨Ac ⟨gr,orr,Ab⟩,m2,e2⟩)) oy;have oy6:Bu.ow w6 F y (⟨B1,m1,e1⟩,⟨Ac ⟨gr,orr,Ab⟩,m2,e2⟩):=owB oy b6';obtain ⟨F8,oy8,kI,eX⟩:=Nm oy6 (k:=k) hk (r:=Dm r 4) (sr:=sr) orn (fun x hx bF=>by have h1:=nK x hx;have h2:=gR x bF;omega);have jG:Chg [gr] w6 ((((((((w6.setCell ⟨gr,orr+k * 8,Ab⟩ (J U (Dm r 4).id)).setCell ⟨gr,orr+k * 8+1,Ab⟩ (J U (Dm r 4).plan.prio)).setCell ⟨gr,orr+k * 8+2,Ab⟩ (J U (Dm r 4).plan.most)).setCell ⟨gr,orr+k * 8+3,Ab⟩ (J U (Dm r 4).plan.wait)).setCell ⟨gr,orr+k * 8+4,Ab⟩ (J U (Dm r 4).plan.tasks)).setCell ⟨gr,orr+k * 8+5,Ab⟩ (Aa sr.1.a sr.1.n sr.1.c)).setCell ⟨gr,orr+k * 8+6,Ab⟩ (J U (Dm r 4).state)).setCell ⟨gr,orr+k * 8+7,Ab⟩ (Aa sr.2.a sr.2.n sr.2.c)):=Ie (Ch.enc.cells (Dm r 4,sr)) w6 gr (orr+k * 8);have cI:=Bq (show ∀ x,x∈[gr]->x=gr from fun x hx=>by simpa using hx);have nV:=nF gr eX;have hgrl:=cH gr eX;clear OB_0 OB_1 OB_2 OB_3 OB_l;replace OB:=(OB.below b6').chg jG (fun hx=>by have:=cI.out _ hx;omega);replace RES:=(RES.below b6').chg jG (fun hx=>by have:=cI.out _ hx;omega);replace B0:=(Bt B0 b6').trans (jG.below (by have:=(Bt B0 b6').size;omega) (fun x hx=>by have:=cI.out _ hx;omega));have en1:w.heap.size+1∉F8:=fun hx=>by
  rcases kI _ hx with h | h
  ·have:=nF _ h;omega
  ·have:=nK _ h;omega
 have jD:∀ x∈F8,w<=x:=fun x hx=>by
  rcases kI _ hx with h | h
  ·have:=nF _ h;omega
  ·have:=nK _ h;omega
 clear hHeld oy oy6 b6 b6' nr orn jG CSt d0 d1 d2 d3 d4 d5 d6 d7 gV q0 q1 q2 q3 q4 q5 q6 q7 qf;generalize ((((((((w6.setCell ⟨gr,orr+k * 8,Ab⟩ (J U (Dm r 4).id)).setCell ⟨gr,orr+k * 8+1,Ab⟩ (J U (Dm r 4).plan.prio)).setCell ⟨gr,orr+k * 8+2,Ab⟩ (J U (Dm r 4).plan.most)).setCell ⟨gr,orr+k * 8+3,Ab⟩ (J U (Dm r 4).plan.wait)).setCell ⟨gr,orr+k * 8+4,Ab⟩ (J U (Dm r 4).plan.tasks)).setCell ⟨gr,orr+k * 8+5,Ab⟩ (Aa sr.1.a sr.1.n sr.1.c)).setCell ⟨gr,orr+k * 8+6,Ab⟩ (J U (Dm r 4).state)).setCell ⟨gr,orr+k * 8+7,Ab⟩ (Aa sr.2.a sr.2.n sr.2.c))=w8 at *
 obtain ⟨OB_0,OB_1,OB_2,OB_3,OB_l⟩:=OB.g4;have RES_:=RES.g4;have rf:=RES.free;go_wp2;refine Aj (Mt (DBox.row4 RES rfl _ _ _ _)) rfl ⟨(⟨B1,m1,e1⟩,⟨Ac ⟨gr,orr,Ab⟩,m2,e2⟩),F8,by rw [H.out,H2.out],by rw [H2.out];exact (by (repeat (refine Dt.ow_set Bu ?_ en1 _));exact (show Bu.ow _ F8 ⟨y.now,y.seq,y.shelf,y.runs.set k (Dm r 4)⟩ (⟨B1,m1,e1⟩,⟨Ac ⟨gr,orr,Ab⟩,m2,e2⟩) from oy8)),jD,?_⟩;repeat (first | (with_reducible exact B0) | refine Ad ?_ Bo _)
end
theorem Oo {b:Nat} {w:World} {u0 u1 u2 u3:Value} (X:DBox b [u0,u1,u2,u3] w) {v0 v1 v2 v3 v4 v5 v6 v7 v9:Value} {rest:List Value} :
  (results Tryz.f110 (v0 :: v1 :: v2 :: v3 :: v4 :: v5 :: v6 :: v7 :: .pointer (Ac ⟨b,0,Ab⟩) :: v9 :: rest).toArray).run Am w = .ok (.tuple #[.agg #[u0,u1,u2,u3],v9]) w:=by
 obtain ⟨c0,c1,c2,c3,-⟩:=X.g4;simp [results,Tryz.results110,go_sem,c0,c1,c2,c3]
theorem Wh {b:Nat} {w:World} {u0 u1 u2 u3:Value} (X:DBox b [u0,u1,u2,u3] w) {v0 v1 v2 v3 v4 v5 v6 v7 v9:Value} {rest:List Value} :
  (results Tryz.f111 (v0 :: v1 :: v2 :: v3 :: v4 :: v5 :: v6 :: v7 :: .pointer (Ac ⟨b,0,Ab⟩) :: v9 :: rest).toArray).run Am w = .ok (.tuple #[.agg #[u0,u1,u2,u3],v9]) w:=by
 obtain ⟨c0,c1,c2,c3,-⟩:=X.g4;simp [results,Tryz.results111,go_sem,c0,c1,c2,c3]
theorem Vm (gr o n c:Nat) (rs:List (Run×Ch.S)) (k:Nat) (G1 Fx G2:List Nat) (r:Run) (s:Sl×Sl) (u p:Nat) (w:World) (hp:w.cell? ⟨p,0,Ab⟩=Ac (J U u)) (hp':p<w) (hR:H9 r u) (hF:Foc Ch w gr o n c rs k G1 Fx G2 r s) :
  Calls Am 170 #[.pointer (Ac ⟨gr,o+k * 8,Ab⟩),.pointer (Ac ⟨p,0,Ab⟩)] w (Hk gr o n c rs k G1 Fx G2 (I1 r u) s w):=by
 have C:=Bq (Xl gr o n c rs k G1 Fx G2 r s u w hR hF);go_enter Tryz.func170,Tryz.ntmps170;go_wp2_with fail
 refine C.out.mono ?_;rintro e w1 ⟨rfl,h1,h2⟩;have HF:=Bq (show Hk gr o n c rs k G1 Fx G2 (I1 r u) s w (.returned (.tuple #[])) w1 from ⟨rfl,h1,h2⟩);clear h1 h2 C;go_wp2;exact Aj (v:=.tuple #[]) (by simp [results,Tryz.results170,go_sem]) rfl HF.out
theorem Ac6 (gr o n c:Nat) (rs:List (Run×Ch.S)) (k:Nat) (G1 Fx G2:List Nat) (r:Run) (s:Sl×Sl) (u p:Nat) (w:World) (hp:w.cell? ⟨p,0,Ab⟩=Ac (J U u)) (hp':p<w) (hR:H9 r u) (hF:Foc Ch w gr o n c rs k G1 Fx G2 r s) :
  Calls Am 172 #[.pointer (Ac ⟨gr,o+k * 8,Ab⟩),.pointer (Ac ⟨p,0,Ab⟩)] w (Hk gr o n c rs k G1 Fx G2 (De r u) s w):=by
 have C:=Bq (Ly gr o n c rs k G1 Fx G2 r s u w (by have:=Dp hR.1;omega) hR hF);go_enter Tryz.func172,Tryz.ntmps172;go_wp2_with fail
 refine C.out.mono ?_;rintro e w1 ⟨rfl,h1,h2⟩;have HF:=Bq (show Hk gr o n c rs k G1 Fx G2 (De r u) s w (.returned (.tuple #[])) w1 from ⟨rfl,h1,h2⟩);clear h1 h2 C;go_wp2;exact Aj (v:=.tuple #[]) (by simp [results,Tryz.results172,go_sem]) rfl HF.out
theorem Ab3 {y:Yard} {id tk tr:Int} (q:Fk y id tk tr=0):Dd y /\ ∃ k,∃ hk:k<y.runs.length,∃ u:Nat,Da y id=(k:Int)/\Js y id=y.runs[k]/\tk=(u:Int)/\H9 y.runs[k] u:=by
 unfold Fk at q;by_cases p0:Dd y
 ·by_cases p1:Da y id<0
  ·rw [if_neg (fun h=>h p0),if_pos p1] at q;cases q
  ·by_cases p2:Fd y id tk tr
   ·rcases Ek y id with hr | ⟨k,hk,hr⟩
    ·omega
    ·have HK:=Gf hk hr;have cQ:(0<=tk/\tk<(y.runs[k].tasks.length:Int))/\(Cs y.runs[k] tk.toNat).state=3:=by
      unfold Fd at p2;rw [HK] at p2;exact ⟨p2.2.1,p2.2.2.1⟩
     obtain ⟨u,rfl⟩:=Int.eq_ofNat_of_zero_le cQ.1.1;exact ⟨p0,k,hk,u,hr,HK,rfl,D7 p0 hk,⟨Bl,by have:=cQ.1.2;omega⟩,cQ.2⟩
   ·rw [if_neg (fun h=>h p0),if_neg p1,if_pos p2] at q;cases q
 ·rw [if_pos p0] at q;cases q
theorem Qx (y:Yard) (s:Sl×Sl) (id tk tr:Int) (w:World) (hl:Cb y<=2000000) (h:Bu.rd w w y s) :
  Calls Am 110 #[Dg y s,J U id,J U tk,J U tr] w (Ht (Ke y id tk tr) (Fk y id tk tr) w):=by
 have HR:=Bq (show ∀ W,Below w w W->Bu.rd W W y s from fun W hW=>Bu.rd_more (Bu.rd_below h hW) hW.size);obtain ⟨⟨A1,n1,c1⟩,⟨A2,n2,c2⟩⟩:=s;have CC:=Bq (fun W hW=>Eo y (⟨A1,n1,c1⟩,⟨A2,n2,c2⟩) W hl (HR.out W hW));have CK:=Bq (fun W hW=>Pw y (⟨A1,n1,c1⟩,⟨A2,n2,c2⟩) id tk tr W hl (HR.out W hW));have CA:=Bq (fun W hW=>Et y (⟨A1,n1,c1⟩,⟨A2,n2,c2⟩) id W hl (HR.out W hW));clear h;obtain ⟨W,aG,X,T,RES,B0⟩:=bx3 w 31 [J U y.now,J U y.seq,Aa A1 n1 c1,Aa A2 n2 c2] 3 [J U tk] 31 [J U 0,J U 0,Aa Ab 0 0,Aa Ab 0 0];go_enter Tryz.func110,Tryz.ntmps110;go_wp2_with fail
 rw [<-aG.out];clear aG;refine (CC.out _ B0).mono ?_;rintro e1 w1 ⟨⟨⟨B1,m1,e1⟩,⟨B2,m2,e2⟩⟩,F,rfl,oy,nF,b1⟩;have dK:=RES.lt;have b2:Below w1 w1 (w1.alloc (.cells #[J U y.now,J U y.seq,Aa B1 m1 e1,Aa B2 m2 e2] 31)):=(Br _ _).alloc (Bs _) _;have OB:DBox w1 (Eh y (⟨B1,m1,e1⟩,⟨B2,m2,e2⟩)) _:=DBox.new 31 [J U y.now,J U y.seq,Aa B1 m1 e1,Aa B2 m2 e2] w1 (b:=w1.heap.size) rfl;have bP:=Bq (Bu.ow_lt (F:=F) (x:=y) (s:=(⟨B1,m1,e1⟩,⟨B2,m2,e2⟩)) oy);have cL:=Bq (show ∀ x∈F,w.heap.size+3<=x from fun x hx=>by have:=nF x hx;omega);replace oy:Bu.ow _ F y (⟨B1,m1,e1⟩,⟨B2,m2,e2⟩):=owB oy b2;have b12:=Bt b1 b2;replace X:=X.below b12;replace T:=T.below b12;replace RES:=RES.below b12;replace B0:=Bt B0 b12;have bL:=b1.size;clear b1 b2 b12 CC nF;go_upto_region 2 with fail
 have cJ:w1.heap.size∉F:=fun h=>by have:=bP.out _ h;omega
 generalize w1.heap.size=ob at *
 generalize w1.alloc (.cells #[J U y.now,J U y.seq,Aa B1 m1 e1,Aa B2 m2 e2] 31)=w2 at *
 have X_:=X.g4;obtain ⟨T_0,T_l⟩:=T.g1;go_wp2_with fail
 refine (CK.out _ B0).mono ?_;rintro e1' w3 ⟨rfl,b3⟩;clear X_;clear T_0 T_l;replace X:=X.below b3;replace T:=T.below b3;replace RES:=RES.below b3;replace OB:=OB.below b3;replace B0:=Bt B0 b3;replace oy:Bu.ow w3 F y (⟨B1,m1,e1⟩,⟨B2,m2,e2⟩):=owB oy b3;clear b3 CK;by_cases q:Fk y id tk tr=0;case neg =>
  have q2:(Fk y id tk tr == 0)=false:=beq_eq_false_iff_ne.2 q;have H:=Bq (show Ke y id tk tr=y from if_neg q);clear q;have RES_:=RES.g4;have OB_:=OB.g4;have rf:=RES.free;go_wp2;have en1:w.heap.size+1+1∉F:=fun hx=>by have:=cL.out _ hx;omega
  refine Aj (Oo (DBox.row4 RES rfl _ _ _ _)) rfl ⟨(⟨B1,m1,e1⟩,⟨B2,m2,e2⟩),F,by rw [H.out],by rw [H.out];exact Bu.set4 (F:=F) (x:=y) (s:=(⟨B1,m1,e1⟩,⟨B2,m2,e2⟩)) oy en1,fun x hx=>by have:=cL.out x hx;omega,?_⟩;repeat (first | (with_reducible exact B0) | refine Ad ?_ Bo _)
 have q2:(Fk y id tk tr == 0)=true:=by simp [q]
 have H:=Bq (show Ke y id tk tr=Fb y (Da y id).toNat (I1 (Js y id) tk.toNat) from if_pos q);obtain ⟨nA,k,hk,u,hr,tP,rfl,aK⟩:=Ab3 q;have HR2:=Bq hr;have HK:=Bq tP;have nA:=Bq nA;have aK:=Bq aK;clear hr tP q;have X_:=X.g4;go_wp2_with fail
 refine (CA.out _ B0).mono ?_;rintro e2' w4 ⟨rfl,b4⟩;rw [HR2.out];clear X_;replace T:=T.below b4;replace RES:=RES.below b4;replace OB:=OB.below b4;replace B0:=Bt B0 b4;replace oy:Bu.ow w4 F y (⟨B1,m1,e1⟩,⟨B2,m2,e2⟩):=owB oy b4;clear b4 CA X;have qS:=T.lt;have CH:=Bq (Jm 170 (w.heap.size+1) (Mn Tryz.func170 Bm Bm) y ob (⟨B1,m1,e1⟩,⟨B2,m2,e2⟩) F k (I1 y.runs[k] u) w4 nA.out.2.2.1 (fun s hs=>by have:=(nA.out.2.2.2.1 s hs).1;omega) (by have:=nA.out.2.1;omega) hk (by rw [N2];have:=Dp aK.out.1;omega) (by have:=Dp aK.out.1;omega) OB oy cJ
  (Bq fun W gr o n c rs G1 Fx G2 sr hW hF=>Vm gr o n c rs k G1 Fx G2 y.runs[k] sr u (w.heap.size+1) W ((T.below hW).cell 0 _ rfl) (T.below hW).lt aK.out hF))
 go_wp2_with fail
 refine CH.out.mono ?_;rintro e3 w5 ⟨rfl,F',OB',oy',nF',hc⟩;have H2:Ke y id u tr=Fb y k (I1 y.runs[k] u):=by rw [H.out,HR2.out,HK.out];rfl
 rw [<-H2] at OB' oy';clear H2;have aV:=B0.size;replace B0:=B0.trans (hc.below (base:=w.heap.size) aV (fun x hx=>by
  rcases List.mem_cons.1 hx with rfl | hx
  ·omega
  ·have:=cL.out x hx;omega))
 have sR:w.heap.size+1+1∉ob :: F:=fun hx=>by
  rcases List.mem_cons.1 hx with e | hx
  ·omega
  ·have:=cL.out _ hx;omega
 have RL:=RES.lt;replace RES:=RES.chg hc sR;clear OB CH T hc;have OB:=OB';have RES_:=RES.g4;have OB_:=OB.g4;have rf:=RES.free;go_wp2;have en1:w.heap.size+1+1∉F':=fun hx=>by rcases nF' _ hx with h | h;exact sR (List.mem_cons_of_mem _ h);omega
 refine Aj (Oo (DBox.row4 RES rfl _ _ _ _)) rfl ⟨(⟨B1,m1,e1⟩,⟨B2,m2,e2⟩),F',rfl,Bu.set4 (F:=F') (x:=Ke y id u tr) (s:=(⟨B1,m1,e1⟩,⟨B2,m2,e2⟩)) oy' en1,fun x hx=>by rcases nF' x hx with h | h;(have:=cL.out x h;omega);omega,?_⟩;repeat (first | (with_reducible exact B0) | refine Ad ?_ Bo _)
theorem Xq (y:Yard) (s:Sl×Sl) (id tk tr:Int) (w:World) (hl:Cb y<=2000000) (h:Bu.rd w w y s) :
  Calls Am 111 #[Dg y s,J U id,J U tk,J U tr] w (Ht (Kd y id tk tr) (Fk y id tk tr) w):=by
 have HR:=Bq (show ∀ W,Below w w W->Bu.rd W W y s from fun W hW=>Bu.rd_more (Bu.rd_below h hW) hW.size);obtain ⟨⟨A1,n1,c1⟩,⟨A2,n2,c2⟩⟩:=s;have CC:=Bq (fun W hW=>Eo y (⟨A1,n1,c1⟩,⟨A2,n2,c2⟩) W hl (HR.out W hW));have CK:=Bq (fun W hW=>Pw y (⟨A1,n1,c1⟩,⟨A2,n2,c2⟩) id tk tr W hl (HR.out W hW));have CA:=Bq (fun W hW=>Et y (⟨A1,n1,c1⟩,⟨A2,n2,c2⟩) id W hl (HR.out W hW));clear h;obtain ⟨W,aG,X,T,RES,B0⟩:=bx3 w 31 [J U y.now,J U y.seq,Aa A1 n1 c1,Aa A2 n2 c2] 3 [J U tk] 31 [J U 0,J U 0,Aa Ab 0 0,Aa Ab 0 0];go_enter Tryz.func111,Tryz.ntmps111;go_wp2_with fail
 rw [<-aG.out];clear aG;refine (CC.out _ B0).mono ?_;rintro e1 w1 ⟨⟨⟨B1,m1,e1⟩,⟨B2,m2,e2⟩⟩,F,rfl,oy,nF,b1⟩;have dK:=RES.lt;have b2:Below w1 w1 (w1.alloc (.cells #[J U y.now,J U y.seq,Aa B1 m1 e1,Aa B2 m2 e2] 31)):=(Br _ _).alloc (Bs _) _;have OB:DBox w1 (Eh y (⟨B1,m1,e1⟩,⟨B2,m2,e2⟩)) _:=DBox.new 31 [J U y.now,J U y.seq,Aa B1 m1 e1,Aa B2 m2 e2] w1 (b:=w1.heap.size) rfl;have bP:=Bq (Bu.ow_lt (F:=F) (x:=y) (s:=(⟨B1,m1,e1⟩,⟨B2,m2,e2⟩)) oy);have cL:=Bq (show ∀ x∈F,w.heap.size+3<=x from fun x hx=>by have:=nF x hx;omega);replace oy:Bu.ow _ F y (⟨B1,m1,e1⟩,⟨B2,m2,e2⟩):=owB oy b2;have b12:=Bt b1 b2;replace X:=X.below b12;replace T:=T.below b12;replace RES:=RES.below b12;replace B0:=Bt B0 b12;have bL:=b1.size;clear b1 b2 b12 CC nF;go_upto_region 2 with fail
 have cJ:w1.heap.size∉F:=fun h=>by have:=bP.out _ h;omega
 generalize w1.heap.size=ob at *
 generalize w1.alloc (.cells #[J U y.now,J U y.seq,Aa B1 m1 e1,Aa B2 m2 e2] 31)=w2 at *
 have X_:=X.g4;obtain ⟨T_0,T_l⟩:=T.g1;go_wp2_with fail
 refine (CK.out _ B0).mono ?_;rintro e1' w3 ⟨rfl,b3⟩;clear X_;clear T_0 T_l;replace X:=X.below b3;replace T:=T.below b3;replace RES:=RES.below b3;replace OB:=OB.below b3;replace B0:=Bt B0 b3;replace oy:Bu.ow w3 F y (⟨B1,m1,e1⟩,⟨B2,m2,e2⟩):=owB oy b3;clear b3 CK;by_cases q:Fk y id tk tr=0;case neg =>
  have q2:(Fk y id tk tr == 0)=false:=beq_eq_false_iff_ne.2 q;have H:=Bq (show Kd y id tk tr=y from if_neg q);clear q;have RES_:=RES.g4;have OB_:=OB.g4;have rf:=RES.free;go_wp2;have en1:w.heap.size+1+1∉F:=fun hx=>by have:=cL.out _ hx;omega
  refine Aj (Wh (DBox.row4 RES rfl _ _ _ _)) rfl ⟨(⟨B1,m1,e1⟩,⟨B2,m2,e2⟩),F,by rw [H.out],by rw [H.out];exact Bu.set4 (F:=F) (x:=y) (s:=(⟨B1,m1,e1⟩,⟨B2,m2,e2⟩)) oy en1,fun x hx=>by have:=cL.out x hx;omega,?_⟩;repeat (first | (with_reducible exact B0) | refine Ad ?_ Bo _)
 have q2:(Fk y id tk tr == 0)=true:=by simp [q]
 have H:=Bq (show Kd y id tk tr=Fb y (Da y id).toNat (De (Js y id) tk.toNat) from if_pos q);obtain ⟨nA,k,hk,u,hr,tP,rfl,aK⟩:=Ab3 q;have HR2:=Bq hr;have HK:=Bq tP;have nA:=Bq nA;have aK:=Bq aK;clear hr tP q;have X_:=X.g4;go_wp2_with fail
 refine (CA.out _ B0).mono ?_;rintro e2' w4 ⟨rfl,b4⟩;rw [HR2.out];clear X_;replace T:=T.below b4;replace RES:=RES.below b4;replace OB:=OB.below b4;replace B0:=Bt B0 b4;replace oy:Bu.ow w4 F y (⟨B1,m1,e1⟩,⟨B2,m2,e2⟩):=owB oy b4;clear b4 CA X;have qS:=T.lt;have CH:=Bq (Jm 172 (w.heap.size+1) (Mn Tryz.func172 Bm Bm) y ob (⟨B1,m1,e1⟩,⟨B2,m2,e2⟩) F k (De y.runs[k] u) w4 nA.out.2.2.1 (fun s hs=>by have:=(nA.out.2.2.2.1 s hs).1;omega) (by have:=nA.out.2.1;omega) hk (by rw [Hj];have:=Dp aK.out.1;omega) (by have:=Dp aK.out.1;omega) OB oy cJ
  (Bq fun W gr o n c rs G1 Fx G2 sr hW hF=>Ac6 gr o n c rs k G1 Fx G2 y.runs[k] sr u (w.heap.size+1) W ((T.below hW).cell 0 _ rfl) (T.below hW).lt aK.out hF))
 go_wp2_with fail
 refine CH.out.mono ?_;rintro e3 w5 ⟨rfl,F',OB',oy',nF',hc⟩;have H2:Kd y id u tr=Fb y k (De y.runs[k] u):=by rw [H.out,HR2.out,HK.out];rfl
 rw [<-H2] at OB' oy';clear H2;have aV:=B0.size;replace B0:=B0.trans (hc.below (base:=w.heap.size) aV (fun x hx=>by
  rcases List.mem_cons.1 hx with rfl | hx
  ·omega
  ·have:=cL.out x hx;omega))
 have sR:w.heap.size+1+1∉ob :: F:=fun hx=>by
  rcases List.mem_cons.1 hx with e | hx
  ·omega
  ·have:=cL.out _ hx;omega
 have RL:=RES.lt;replace RES:=RES.chg hc sR;clear OB CH T hc;have OB:=OB';have RES_:=RES.g4;have OB_:=OB.g4;have rf:=RES.free;go_wp2;have en1:w.heap.size+1+1∉F':=fun hx=>by rcases nF' _ hx with h | h;exact sR (List.mem_cons_of_mem _ h);omega
 refine Aj (Wh (DBox.row4 RES rfl _ _ _ _)) rfl ⟨(⟨B1,m1,e1⟩,⟨B2,m2,e2⟩),F',rfl,Bu.set4 (F:=F') (x:=Kd y id u tr) (s:=(⟨B1,m1,e1⟩,⟨B2,m2,e2⟩)) oy' en1,fun x hx=>by rcases nF' x hx with h | h;(have:=cL.out x h;omega);omega,?_⟩;repeat (first | (with_reducible exact B0) | refine Ad ?_ Bo _)
theorem Enc.flat_take {α:Type} (e:Enc α) (l:List α) (k:Nat) (hk:k<=l.length):(l.take k).flatMap e.cells=(l.flatMap e.cells).take (k * e.sz):=by
 have h:l.flatMap e.cells=(l.take k).flatMap e.cells ++ (l.drop k).flatMap e.cells:=by rw [<-List.flatMap_append,List.take_append_drop]
 rw [h,List.take_left' (by rw [e.flat_length,Az,Nat.min_eq_left hk])]
theorem Enc.flat_drop {α:Type} (e:Enc α) (l:List α) (k:Nat) (hk:k<=l.length):(l.drop k).flatMap e.cells=(l.flatMap e.cells).drop (k * e.sz):=by
 have h:l.flatMap e.cells=(l.take k).flatMap e.cells ++ (l.drop k).flatMap e.cells:=by rw [<-List.flatMap_append,List.take_append_drop]
 rw [h,List.drop_left' (by rw [e.flat_length,Az,Nat.min_eq_left hk])]
theorem Si {α:Type} {P:Program} (w:World) (t ty E:TypeId) (i:TypeInfo) (ht:P.underlying t=Ac (.slice E)) (hi:P.info? E=Ac i) {e:Enc α} (bY:i.size=e.sz) (aV:0<e.sz) {base g n cap B:Nat} {l:List α}
  (h:Ow e E w base (.slice (Ac ⟨g,0,Ab⟩) n cap) l) (k:Nat) (ad:Addr) (m c:Nat) (ys:List α) (hr:Rd e w B (.slice (Ac ad) m c) ys) (gJ:k+m<=l.length) :
  ∃ w',(Builtin.append_ #[t,t] ty #[.slice (Ac ⟨g,0,Ab⟩) k cap,.slice (Ac ad) m c]).run P w = .ok (.slice (Ac ⟨g,0,Ab⟩) (k+m) cap) w' /\
   Ow e E w' base (.slice (Ac ⟨g,0,Ab⟩) n cap) (l.take k ++ ys ++ l.drop (k+m))/\w.grownBy w' (Ac g):=by
 obtain ⟨rfl,hA⟩:=Abr aV hr;have hnews:∀ j u,(ys.flatMap e.cells)[j]? = Ac u->w.cell? (ad.add j)=Ac u:=by
  intro j u hu;rcases Nat.eq_zero_or_pos ys.length with h0 | h0
  ·rw [List.eq_nil_of_length_eq_zero h0] at hu;simp at hu
  ·obtain ⟨a',ha,hc⟩:=hA h0;injection ha with ha
   subst ha;exact hc j u hu
 have h1:∀ u∈ys.flatMap e.cells,u.oneCell'=true:=by
  intro u hu;obtain ⟨y,_,hy⟩:=List.mem_flatMap.1 hu;exact e.one y u hy
 obtain ⟨fQ,h2⟩:=h;rcases h2 with ⟨hv,_⟩ | ⟨g',cap',cur,hv,hb,hg,hc,hm,hs,cQ⟩
 ·simp at hv
 simp only [Value.slice.injEq,Option.some.injEq,Addr.mk.injEq,and_true] at hv;obtain ⟨rfl,rfl,rfl⟩:=hv;have hkm:(k+ys.length) * e.sz<=l.length * e.sz:=Nat.mul_le_mul_right _ gJ;have qB:l.length * e.sz<=cap * e.sz:=Nat.mul_le_mul_right _ hc;rw [Nat.add_mul] at hkm;have hX:(l.flatMap e.cells).length=l.length * e.sz:=e.flat_length l;have hY:(ys.flatMap e.cells).length=ys.length * e.sz:=e.flat_length ys;have eF:=run_append_room (P:=P) w t ty E i ht hi g k cap cur hg ad ys.length c (ys.flatMap e.cells) (by rw [e.flat_length,bY]) hnews h1 Bl (by rw [e.flat_length,bY,hs];omega);have hL:(l.take k ++ ys ++ l.drop (k+ys.length)).length=l.length:=by simp;omega
 refine ⟨_,eF,⟨by rw [e.flat_length],.inr ⟨g,cap,_,by rw [hL],hb,setRow_heap w g cur _ E _ hg,by rw [hL];exact hc,hm,?_,?_⟩⟩,⟨rfl,rfl,rfl,Bn,fun j _ hj=>setRow_other w g j _ (fun e=>hj (by rw [e]))⟩⟩
 ·simp only [List.size_toArray,Bd,Az,List.length_drop,Array.length_toList,hY,bY,hs];omega
 ·rw [hL,List.flatMap_append,List.flatMap_append,e.flat_take l k Bl,e.flat_drop l _ gJ,bY,hY];obtain ⟨R,hT⟩:∃ R,cur.toList=l.flatMap e.cells ++ R:=⟨cur.toList.drop (l.length * e.sz),by rw [<-cQ,List.take_append_drop]⟩
  simp only [hT];have e1:(l.flatMap e.cells ++ R).take (k * e.sz)=(l.flatMap e.cells).take (k * e.sz):=List.take_append_of_le_length (by rw [hX];omega);have e2:(l.flatMap e.cells ++ R).drop (k * e.sz+ys.length * e.sz)=(l.flatMap e.cells).drop (k * e.sz+ys.length * e.sz) ++ R:=List.drop_append_of_le_length (by rw [hX];omega);rw [e1,e2,<-List.append_assoc,List.take_left' (by simp only [Bd,Az,List.length_drop,hX,hY];omega),Nat.add_mul]
theorem Ow.clear {α:Type} {e:Enc α} {E:TypeId} {w:World} {base g n cap:Nat} {l:List α} (h:Ow e E w base (Aa (Ac ⟨g,0,Ab⟩) n cap) l) (k:Nat) (us:List Value) (hk:k * e.sz+us.length<=l.length * e.sz) (kH:k<=l.length) :
  Ow e E (G9 w g (k * e.sz) us) base (Aa (Ac ⟨g,0,Ab⟩) k cap) (l.take k)/\w.grownBy (G9 w g (k * e.sz) us) (Ac g):=by
 have hn:n=l.length:=by
  rcases h.form with ⟨h1,_⟩ | ⟨_,_,h1,_⟩
  ·simp at h1
  ·simp only [Value.slice.injEq] at h1;exact h1.2.1
 subst hn;obtain ⟨⟨h1,h2⟩,h3⟩:=Sr (cap:=cap) l.length us _ w (k * e.sz) h;refine ⟨?_,h3⟩;rcases h2 with ⟨hv,_⟩ | ⟨g',cap',cur,hv,hb,hg,hc,hm,hs,ht⟩
 ·simp at hv
 ·simp only [Value.slice.injEq,Option.some.injEq,Addr.mk.injEq,and_true] at hv;obtain ⟨rfl,-,rfl⟩:=hv;refine ⟨by rw [e.flat_length],.inr ⟨_,_,cur,by rw [Az,Nat.min_eq_left kH],hb,hg,by rw [Az];omega,hm,hs,?_⟩⟩;rw [Az,Nat.min_eq_left kH,e.flat_take _ _ kH];have h5:cur.toList.take (k * e.sz)=(cur.toList.take (l.length * e.sz)).take (k * e.sz):=by rw [List.take_take,Nat.min_eq_left (Nat.mul_le_mul_right _ kH)]
  rw [h5,ht,Qd _ _ _ (by rw [e.flat_length];omega),List.append_assoc,List.take_left' (by rw [Az,e.flat_length];omega)]
theorem Vn {P:Program} {o:Oper} {a:Act} {K:Act->World->Prop} {Q:Exit->Act->World->Prop} (w:World) (s x:Operand) {t:TypeId} (ho:o.op = .call { callee:=.builtin .append,args:=#[s,x],argTypes:=#[t,t] })
  {v u v':Value} {w':World} (hs:a.eval s=v) (hx:a.eval x=u) (eF:(Builtin.append_ #[t,t] o.type #[v,u]).run P w = .ok v' w') (h:K (a.put o.dst v') w'):o.wp P a w K Q:=by
 unfold Oper.wp execOp;simp only [ho,resolve,invoke,builtin,Sem.run_bind,Sem.run_pure,Result.andThen_ok,List.map_toArray,List.map_cons,List.map_nil,hs,hx,eF];exact h
theorem Chg.of_grown {w w':World} {g:Nat} (h:w.grownBy w' (Ac g)):Chg [g] w w':=⟨h.os,h.tape,h.output,h.size,fun k hk hn=>h.block k hk (fun e=>hn (by injection e with e;simp [e]))⟩
theorem Z9 (rs:List (Run×(Sl×Sl))) (g c base i:Nat) (w:World) (hi:i<rs.length) (hl:rs.length<=2000000) (h:Ow Ch.enc 89 w base (.slice (Ac ⟨g,0,Ab⟩) rs.length c) rs) :
  Calls Am 178 #[.slice (Ac ⟨g,0,Ab⟩) rs.length c,.int .i64 (i:Int),.int .i64 ((i:Int)+1)] w fun e w'=>e = .returned (.slice (Ac ⟨g,0,Ab⟩) (rs.length - 1) c)/\Ow Ch.enc 89 w' base (.slice (Ac ⟨g,0,Ab⟩) (rs.length - 1) c) (rs.take i ++ rs.drop (i+1))/\w.grownBy w' (Ac g):=by
 obtain ⟨j0,cB,jz0,jz1,jz2⟩:=info_parts Kv;have hR:=Rd.of_own h;have bZ:rs.length<=c:=hR.cap;have h1:(0:Int)<=(i:Int):=Bl;have h2:(0:Int)<=(i:Int)+1:=Bl;have h3:(i:Int)<=(i:Int)+1:=Bl;have h4:(i:Int)+1<=(rs.length:Int):=Bl;have h5:(rs.length:Int)<=(c:Int):=Bl;have h6:(i:Int)<=(c:Int):=Bl;have h7:((i:Int) == (i:Int)+1)=false:=by simp;omega
 have h8:((i:Int)+1).toNat=i+1:=Bl;go_enter Tryz.func178,Tryz.ntmps178;go_upto_region 5 with fail
 refine Go.wp_region_noPanic ?_;refine wp_region_held_drew (S:=fun _=>True) Bm trivial (fun hHeld=>?_);have hd:Ow Ch.enc 89 w.drew base (.slice (Ac ⟨g,0,Ab⟩) rs.length c) rs:=h.below (Br _ _).drew;have gd:w.grownBy w.drew (Ac g):=(Chg.of_below [g] (Br w w).drew).toGrown;generalize w.drew=w1 at *
 have hR1:=Rd.of_own hd;have hc0:¬ c=0:=Bl;refine tY 0 ?_
 (try simp only [pS])
 refine tY 1 ?_
 (try simp only [pS])
 refine tY 2 ?_
 (try simp only [pS])
 refine tY 3 ?_
 (try simp only [pS])
 refine tY 4 ?_
 (try simp only [pS])
 obtain ⟨ad,hadv,gB⟩:∃ ad:Addr,((if c=i+1 then Ac (⟨g,0,Ab⟩:Addr) else Ac ⟨g,(i+1) * 8,Ab⟩)=Ac ad)/\Rd Ch.enc w1 w1 (.slice (Ac ad) (rs.length - (i+1)) (c - (i+1))) (rs.drop (i+1)):=by
  by_cases hc:c=i+1
  ·refine ⟨⟨g,0,Ab⟩,by rw [if_pos hc],?_⟩;rw [List.drop_eq_nil_of_le Bl,show rs.length - (i+1)=0 by omega];exact ⟨_,_,rfl,Ag _,fun h=>absurd h Bn⟩
  ·refine ⟨⟨g,(i+1) * 8,Ab⟩,by rw [if_neg hc],?_⟩;have h9:=hR1.dropM (i+1) Bl;have e:(Ac (⟨g,0,Ab⟩:Addr)).map (fun x=>x.add ((i+1) * Ch.enc.sz))=Ac ⟨g,(i+1) * 8,Ab⟩:=by
    show Ac ((⟨g,0,Ab⟩:Addr).add ((i+1) * 8))=_;rw [Addr.add_lit,Nat.zero_add]
   rw [e] at h9;exact h9
 obtain ⟨w2,hka,jC,kN⟩:=Si (P:=Am) w1 29 29 89 j0 Tryz.underlying29 cB jz1 (e:=Ch.enc) Bp hd i ad _ _ _ gB Bl;obtain ⟨q,hq⟩:∃ q,q+1=rs.length:=⟨rs.length - 1,Bl⟩
 rw [show i+(rs.length - (i+1))=q by omega] at hka jC;have hL:(rs.take i ++ rs.drop (i+1) ++ rs.drop q).length=rs.length:=by simp;omega
 refine tY 5 ?_
 (try simp only [pS])
 refine rC 6 (fun K_ hK=>?_);refine Vn w1 (.tmp 22) (.tmp 25) rfl rfl rfl hka ?_;refine hK.out _ _ trivial (fun hHeld=>?_);clear hK K_
 (try simp only [pS])
 refine rC 7 (fun K_ hK=>?_);go_simp;refine hK.out _ _ trivial (fun hHeld=>?_);clear hK K_
 (try simp only [pS])
 refine wpAnyH_done Bm ?_ _;refine NoPanic.normal ?_;clear hka hHeld hadv gB hR1;have hR2:=Rd.of_own jC;have hf2:=fun j=>jC.free j;have kz:∀ w,(zeroValue 89).run Am w = .ok (.agg #[.int .i64 0,.int .i64 0,.int .i64 0,.int .i64 0,.int .i64 0,.slice Ab 0 0,.int .i64 0,.slice Ab 0 0]) w:=fun w=>by
  simp [zeroValue,typeInfo,cB,jz0]
 have kc:=M3 (P:=Am) w2 29 89 0 (.agg #[.int .i64 0,.int .i64 0,.int .i64 0,.int .i64 0,.int .i64 0,.slice Ab 0 0,.int .i64 0,.slice Ab 0 0]) Tryz.underlying29 kz g (q * 8) (rs.length - q) (c - q) Bl (fun v hv=>by
   simp [Value.cells] at hv;first | (rcases hv with rfl | rfl<;>rfl) | (rcases hv with rfl | rfl | rfl<;>rfl) | (rcases hv with rfl | rfl | rfl | rfl<;>rfl) | (rcases hv with (rfl | rfl) | rfl<;>rfl)) (fun x hx=>by
   have eH:x<(rs.length - q) * 8:=hx
   have:=hR2.some_ Bp (q * 8+x) (by
    show _<_ * 8;rw [hL];omega)
   rw [Nat.zero_add] at this;exact this) hf2
 have hq0:(0:Int)<=(q:Int):=Bl;have hq1:(q:Int)<=(rs.length:Int):=Bl;have hcq:¬ c=q:=Bl;obtain ⟨uB,rS⟩:=jC.clear q (Builtin.zeroCells #[.int .i64 0,.int .i64 0,.int .i64 0,.int .i64 0,.int .i64 0,.slice Ab 0 0,.int .i64 0,.slice Ab 0 0] (rs.length - q)).toList (by
  have e:(Builtin.zeroCells #[.int .i64 0,.int .i64 0,.int .i64 0,.int .i64 0,.int .i64 0,.slice Ab 0 0,.int .i64 0,.slice Ab 0 0] (rs.length - q)).toList.length=(rs.length - q) * 8:=by simp [Builtin.zeroCells]
  rw [e,hL];show q * 8+_<=_ * 8;omega) (by rw [hL];omega)
 rw [List.take_left' (by simp;omega)] at uB;have HF:=Bq (show Ow Ch.enc 89 _ base (.slice (Ac ⟨g,0,Ab⟩) (rs.length - 1) c) (rs.take i ++ rs.drop (i+1))/\w.grownBy _ (Ac g) from ⟨by rw [show rs.length - 1=q by omega];exact uB,(gd.trans kN).trans rS⟩);have hq':=Bq hq;clear uB rS gd kN hR2 jC hq hd;go_wp2;go_ret;exact ⟨by rw [show rs.length - 1=q by have:=hq'.out;omega];rfl,HF.out⟩
theorem Xr (y:Yard) (s:Sl×Sl) (w:World) (hl:Cb y<=2000000) (hY:Dd y) (h:Bu.rd w w y s) :
  Calls Am 174 #[Dg y s] w (Di (Dt.list (Dt.flats Hn)) slV ((E8 y y.runs.length).map (Ia y)) w):=by
 obtain ⟨⟨A1,n1,c1⟩,⟨A2,n2,c2⟩⟩:=s;obtain rfl:n2=y.runs.length:=RdL.at1 (s:=⟨A2,n2,c2⟩) h.2;have CX:=Bq (fun W (hW:Below w w W)=>show RdL Ch W w.heap.size (.slice A2 y.runs.length c2) y.runs from (Bu.rd_below (x:=y) (s:=(⟨A1,n1,c1⟩,⟨A2,y.runs.length,c2⟩)) h hW).2);have mU:y.runs.length<=8:=hY.2.2.2.2.2.2.1;have HP:=Bq hY;clear h hY;obtain ⟨it,i0,z0,z1,z2⟩:=info_parts We;obtain ⟨W,aG,X,B0⟩:=bx1 w 31 [.int .i64 y.now,.int .i64 y.seq,.slice A1 n1 c1,.slice A2 y.runs.length c2];go_enter Tryz.func174,Tryz.ntmps174;go_wp2;rw [<-aG.out];clear aG;go_loopw [3,11] (fun v i wr=>∃ k:Nat,k<=y.runs.length/\i = .int .i64 k/\Hid (Bls (Dt.flats Hn) 26 wr (w.heap.size+1) v ((E8 y k).map (Ia y)))/\DBox w [.int .i64 y.now,.int .i64 y.seq,.slice A1 n1 c1,.slice A2 y.runs.length c2] wr/\Below w w wr) (fun _ i _=>y.runs.length - (intOf i).toNat);case atStart=>exact ⟨0,Ag _,rfl,⟨[],rfl,Bld.nil _ _ _ _⟩,X,B0⟩
 case round =>
  clear X B0;obtain ⟨k,hk,rfl,hB,X,hb⟩:=hrel;have mQ:=X.lt;by_cases aA:k<y.runs.length
  ·have aB:(k:Int)<(y.runs.length:Int):=Bl;have dB:(0:Int)<=(k:Int):=Bl;obtain ⟨b,o,⟨⟨A8,n8,c8⟩,⟨At,nt,ct⟩⟩,rfl,aH,cD,e0,e1,e2,e3,e4,e5,e6,e7⟩:=(CX.out w (Br _ _)).run aA;obtain rfl:nt=y.runs[k].tasks.length:=RdL.at1 (s:=⟨At,nt,ct⟩) cD.2;have HT:=Bq (fun W (hW:Below w w W)=>show RdL Ee W w.heap.size (.slice At y.runs[k].tasks.length ct) y.runs[k].tasks from RdL.below cD.2 hW);clear cD;replace e0:=(hb.cell (p:=⟨b,_,Ab⟩) aH).trans e0;replace e1:=(hb.cell (p:=⟨b,_,Ab⟩) aH).trans e1;replace e2:=(hb.cell (p:=⟨b,_,Ab⟩) aH).trans e2;replace e3:=(hb.cell (p:=⟨b,_,Ab⟩) aH).trans e3;replace e4:=(hb.cell (p:=⟨b,_,Ab⟩) aH).trans e4;replace e5:=(hb.cell (p:=⟨b,_,Ab⟩) aH).trans e5;replace e6:=(hb.cell (p:=⟨b,_,Ab⟩) aH).trans e6;replace e7:=(hb.cell (p:=⟨b,_,Ab⟩) aH).trans e7;have R:=DBox.new 89 [.int .i64 y.runs[k].id,.int .i64 y.runs[k].plan.prio,.int .i64 y.runs[k].plan.most,.int .i64 y.runs[k].plan.wait,.int .i64 y.runs[k].plan.tasks,.slice A8 n8 c8,.int .i64 y.runs[k].state,.slice At y.runs[k].tasks.length ct] wr (b:=wr.heap.size) rfl;have ha:Below wr wr (wr.alloc (.cells #[.int .i64 y.runs[k].id,.int .i64 y.runs[k].plan.prio,.int .i64 y.runs[k].plan.most,.int .i64 y.runs[k].plan.wait,.int .i64 y.runs[k].plan.tasks,.slice A8 n8 c8,.int .i64 y.runs[k].state,.slice At y.runs[k].tasks.length ct] 89)):=(Br _ _).alloc (Bs _) _;have X_:=X.g4;go_upto_region 5 with fail
   clear X_;have hvr:=Bq (show ∀ v z,Bls (Dt.flats Hn) 26 wr (w.heap.size+1) v ((E8 y k).map (Ia y))->v.ownBlock=Ac z->z≠wr.heap.size from fun v z ⟨rs,hm,mZ⟩ hz=>by have h1:=mZ.ow.within z hz;omega);have hvr2:=fun z=>hvr.out _ z hB.out;replace X:=X.below ha;replace hb:=Bt hb ha;have mH:=Bq (hB.out.below ha);have dK:=R.lt;have sR:w.heap.size+1<=wr.heap.size:=mQ;clear e0 e1 e2 e3 e4 e5 e6 e7 aH ha hB hvr;generalize wr.alloc (.cells #[.int .i64 y.runs[k].id,.int .i64 y.runs[k].plan.prio,.int .i64 y.runs[k].plan.most,.int .i64 y.runs[k].plan.wait,.int .i64 y.runs[k].plan.tasks,.slice A8 n8 c8,.int .i64 y.runs[k].state,.slice At y.runs[k].tasks.length ct] 89)=w1 at *
   generalize wr.heap.size=rb at *
   have R_:=R.g8;go_wp2;clear R_;go_loopw [3,18] (fun vv i wr=>∃ (n:Nat) (v:Value),n<=y.runs[k].tasks.length/\i = .int .i64 n/\v=vv/\Hid (Bls (Dt.flats Hn) 26 wr (w.heap.size+1) v ((E8 y k ++ It y k n).map (Ia y)))/\Hid (∀ z,v.ownBlock=Ac z->z≠rb)/\DBox w [.int .i64 y.now,.int .i64 y.seq,.slice A1 n1 c1,.slice (Ac ⟨b,o,Ab⟩) y.runs.length c2] wr/\DBox rb [.int .i64 y.runs[k].id,.int .i64 y.runs[k].plan.prio,.int .i64 y.runs[k].plan.most,.int .i64 y.runs[k].plan.wait,.int .i64 y.runs[k].plan.tasks,.slice A8 n8 c8,.int .i64 y.runs[k].state,.slice At y.runs[k].tasks.length ct] wr/\Below w w wr) (fun _ i _=>y.runs[k].tasks.length - (intOf i).toNat);case atStart=>exact ⟨0,_,Ag _,rfl,rfl,by rw [Uu,List.append_nil];exact mH,Bq hvr2,X,R,hb⟩
   case round =>
    clear X R hb mH hvr2 dK;obtain ⟨n,v,hn,rfl,rfl,hB,jF,X,R,hb⟩:=hrel;by_cases eT:n<y.runs[k].tasks.length
    ·have fH:=(Dp (D7 HP.out aA)).2;have nU:(n:Int)<(y.runs[k].tasks.length:Int):=Bl;have uU:(0:Int)<=(n:Int):=Bl;obtain ⟨b',o',_,rfl,bI,_,d0,d1,d2,d3⟩:=(HT.out wr hb).task eT;have hU:=Bq (fun hs=>Uv HP.out aA eT hs);have hJ:=Bq (show Cs (Gl y k) n=y.runs[k].tasks[n] by rw [Ei aA,Cr eT]);have hRow:Hid (Ia y (k,n)=[y.runs[k].id,(n:Int),y.runs[k].tasks[n].try_]):=by
      show Ia y (k,n)=_;unfold Ia;rw [hJ.out,Ei aA]
     have aJ:=Bq (show (E8 y k ++ It y k n).length<=3000000 by
      have h1:=Kz (Mg HP.out) k;have h2:=Qw y k n;have h5:=(Dp (D7 HP.out aA)).2;rw [Bd];omega)
     have hlT:=Bq (rfl:y.runs[k].tasks.length=y.runs[k].tasks.length);generalize y.runs[k].tasks[n]=x at *
     have TB:=DBox.new 138 [.int .i64 x.state,.int .i64 x.need,.int .i64 x.try_,.int .i64 x.until_] wr (b:=wr.heap.size) rfl;have b2:Below wr wr (wr.alloc (.cells #[.int .i64 x.state,.int .i64 x.need,.int .i64 x.try_,.int .i64 x.until_] 138)):=(Br _ _).alloc (Bs _) _;go_upto_region 8 with fail
     have dK:=R.lt;have hvt:=Bq (show ∀ z,v.ownBlock=Ac z->w.heap.size+1<=z/\z<wr.heap.size from fun z hz=>by
      obtain ⟨rs,hm,mZ⟩:=hB.out;exact mZ.ow.within z hz)
     replace X:=X.below b2;replace R:=R.below b2;have aF:=Bt hb b2;have mH:=Bq (hB.out.below b2);clear b2 d0 d1 d2 d3 hb hB bI;generalize wr.alloc (.cells #[.int .i64 x.state,.int .i64 x.need,.int .i64 x.try_,.int .i64 x.until_] 138)=w2 at *
     generalize wr.heap.size=tb at *
     have X_:=X.g4;have TB_:=TB.g4;by_cases q:x.state=3;case neg =>
      have q1:(x.state == 3)=false:=by simp [q]
      have S:=Bq (P7 (y:=y) (k:=k) (n:=n) (by rw [hJ.out];unfold P6;rw [q1];rfl));clear q;go_wp2;exact ⟨⟨n+1,v,eT,by go_num,rfl,by rw [S.out];exact mH,jF,X,R,aF⟩,by simp [intOf];omega⟩
     have q1:(x.state == 3)=true:=by simp [q]
     have hu:=hU.out q;have wr1:U.wrap (x.until_ - 1)=x.until_ - 1:=Aq _ (by have:=HP.out.1;omega);have q2:¬ x.until_<=y.now:=Bl;by_cases q3:x.until_ - 1=y.now;case neg =>
      have q4:(x.until_ - 1 == y.now)=false:=by simp [q3]
      have S:=Bq (P7 (y:=y) (k:=k) (n:=n) (by rw [hJ.out];unfold P6;rw [q1,decide_eq_false Bl];rfl));clear q hu;go_wp2;exact ⟨⟨n+1,v,eT,by go_num,rfl,by rw [S.out];exact mH,jF,X,R,aF⟩,by simp [intOf];omega⟩
     have wr2:U.wrap y.now=y.now:=Aq _ (by have:=HP.out.1;omega);have S:=Bq (Wg (y:=y) (k:=k) (n:=n) (by rw [hJ.out];unfold P6;rw [q1,decide_eq_true Bl];rfl));clear q hu;have R_:=R.g8;go_upto_region 9 with fail
     generalize hrid:y.runs[k].id=rid at *
     have o9:=Ow.intsK w2 3 [rid,(n:Int),x.try_] (cs:=#[.int .i64 rid,.int .i64 (n:Int),.int .i64 x.try_]) rfl (n:=3) (g:=w2.heap.size) (base:=w2.heap.size) rfl rfl (Bs _) Bn;have b4:Below w2 w2 (w2.alloc (.cells #[.int .i64 rid,.int .i64 (n:Int),.int .i64 x.try_] 3)):=(Br _ _).alloc (Bs _) _;obtain ⟨hw9,hwB⟩:=Hw.of_ow o9;have b5:Below (w2.alloc (.cells #[.int .i64 rid,.int .i64 (n:Int),.int .i64 x.try_] 3)) (w2.alloc (.cells #[.int .i64 rid,.int .i64 (n:Int),.int .i64 x.try_] 3)) ((w2.alloc (.cells #[.int .i64 rid,.int .i64 (n:Int),.int .i64 x.try_] 3)).alloc (.cells #[.slice (Ac ⟨w2,0,Ab⟩) 3 3] 26)):=(Br _ _).alloc (Bs _) _;have b45:=Bt b4 b5;obtain ⟨rs,hm,jT⟩:=mH.out;have uV:rs.length<=3000000:=by
      have h1:=congrArg List.length hm;rw [Ar,Ar] at h1;rw [h1];exact aJ.out
     have uV:=Bq uV;have cA:=Bt aF b45;have X3:=X.below b45;have R3:=R.below b45;have eL:=aF.size;go_wp2_with (at_builtin;refine By _ (Dt.flats Hn).enc Bp rfl (.tmp 41) (.tmp 48) rfl Tryz.underlying215 i0 z0 z1 z2 rfl (v:=v) (l:=rs) rfl (jT.ow.below b45) (A:=Ac ⟨w2.heap.size+1,0,Ab⟩) (m:=1) (c:=1) (ys:=[([rid,(n:Int),x.try_],(⟨Ac ⟨w2,0,Ab⟩,3,3⟩:Sl))]) rfl (Rd.one (Dt.flats Hn).enc _ _ ([rid,(n:Int),x.try_],(⟨Ac ⟨w2,0,Ab⟩,3,3⟩:Sl)) Bn rfl 1 (Bs _) (Nat.lt_succ_self _)) uV.out Bn Bp (by have:=b45.size;omega) ?_;intro v6 w6 o6 gg f6)
     have pU:∀ z,v.ownBlock=Ac z->w.heap.size+1<=z/\z<tb/\z≠rb:=fun z hz=>⟨(hvt.out z hz).1,(hvt.out z hz).2,jF.out z hz⟩
     have X6:=X3.off gg (fun e=>by have:=(pU _ e.symm).1;omega);have R6:=R3.off gg (fun e=>(pU _ e.symm).2.2 rfl);have tC:Below w w w6:=cA.grown gg cA.size (fun g hg=>by have:=(pU g hg).1;omega);have hP:=Bld.push1 (d:=Dt.flats Hn) (x:=[rid,(n:Int),x.try_]) (s:=(⟨Ac ⟨w2,0,Ab⟩,3,3⟩:Sl)) jT b4 hw9 (fun y hy=>hwB y hy) Bl b5 o6 gg f6;have kF:(rs ++ [([rid,(n:Int),x.try_],(⟨Ac ⟨w2,0,Ab⟩,3,3⟩:Sl))]).map (·.1)=(E8 y k ++ It y k (n+1)).map (Ia y):=by
      simp only [List.map_append,List.map_cons,List.map_nil,hm,S.out,hRow.out,List.append_assoc]
     have hvn6:=Bq (show ∀ z,v6.ownBlock=Ac z->z≠rb from fun z hz=>by
      rcases f6 with f6 | f6
      ·exact jF.out z (f6.symm.trans hz)
      ·have h1:Ac _=Ac z:=f6.symm.trans hz;have h2:=Option.some.inj h1;have h3:=b45.size;have h4:=R.lt;omega)
     have hB7:=Bq (show Bls (Dt.flats Hn) 26 w6 (w.heap.size+1) v6 ((E8 y k).map (Ia y) ++ (It y k (n+1)).map (Ia y)) by rw [<-List.map_append];exact ⟨_,kF,hP⟩);clear hP kF jT o6 gg f6 X3 R3 cA hm;refine ⟨⟨v6,.int .i64 (n:Int),.pointer (Ac ⟨tb,0,Ab⟩),.int .i64 ((n+1:Nat):Int),⟨n+1,eT,rfl,hB7,hvn6,X6,R6,tC⟩,rfl,rfl,rfl,Bn⟩,by simp [intOf];omega⟩
    ·have nU:¬ (n:Int)<(y.runs[k].tasks.length:Int):=Bl;have S:=Bq (show E8 y (k+1)=E8 y k ++ It y k n by
      rw [O9,show (Gl y k).tasks.length=n by rw [Ei aA];omega])
     go_wp2;exact ⟨⟨k+1,Bl,by go_num,by rw [S.out];exact hB,X,hb⟩,by simp [intOf];omega⟩
  ·have aB:¬ (k:Int)<(y.runs.length:Int):=Bl;obtain rfl:k=y.runs.length:=Bl;obtain ⟨rs,hm,mZ⟩:=hB.out;obtain ⟨F,h1,h2⟩:=mZ.owl hm;obtain ⟨A,c,hv,_⟩:=h1.form;rw [Ar] at hv;subst hv;have eA:Di (Dt.list (Dt.flats Hn)) slV ((E8 y y.runs.length).map (Ia y)) w (.returned (.slice A (E8 y y.runs.length).length c)) wr:=⟨⟨A,_,c⟩,F,rfl,h1,fun x hx=>by have:=h2 x hx;omega,hb⟩
   clear hB mZ h1;go_wp2;go_ret;exact eA
end Go.Proofs.YtonlnjdempbfoaaGreat
