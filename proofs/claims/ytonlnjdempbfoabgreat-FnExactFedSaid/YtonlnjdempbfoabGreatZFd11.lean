/-
  Fail of the reference. RoomFor of the reference. Holds and told of the program. RunFails: a right run stays right; what a yard keeps where runs of it are turned
-/
import Derived.Test.YtonlnjdempbfoabGreatZFd0
import Derived.Test.YtonlnjdempbfoabGreatZFd3
import Derived.Test.YtonlnjdempbfoabGreatZFd5
import Derived.Test.YtonlnjdempbfoabGreatZFd6
import Derived.Test.YtonlnjdempbfoabGreatZFd7
import Derived.Test.YtonlnjdempbfoabGreatZFd10
namespace Go.Proofs.YtonlnjdempbfoabGreat
open Go.RowKit
set_option maxRecDepth 100000
set_option maxHeartbeats 4000000
set_option linter.unusedVariables false
set_option linter.unusedSimpArgs false
open Value renaming int->J,slice->Aa
open IntKind renaming i64->U
open Option renaming none->Ab,some->Ac
open Below renaming setCell->Ad
open Nat renaming zero_le->Ag,le_trans->Ah,lt_of_lt_of_le->Ai
open Go renaming bodyPost_ret->Aj,wpQuiet_nil->Ak,wpAnyH_done->Al
open Go.Proofs.Tryz renaming prog->Am
open Int renaming toNat_natCast->Ao,eq_ofNat_of_zero_le->Ap
open IntWalk renaming i64_in->Aq
open List renaming mem_singleton->Au,getElem_mem->Aw,nodup_append->Ax,length_take->Az,mem_append_right->Be,mem_append_left->Bf,take_of_length_le->Bg,length_set->Bh,mem_append->Bi
open Go.Proofs.Tryz
section
def Ij (z:Yard) (c:Int) (w:World) (e:Ending) (w':World):Prop :=
 ∃ s F,e = .returned (.tuple #[Dm z s,J U c])/\Bv.ow w' F z s/\(∀ b∈F,w<=b)/\Below w w w'
theorem Abo {b:Nat} {w:World} {u0 u1 u2 u3:Value} (X:DBox b [u0,u1,u2,u3] w) {v0 v1 v2 v3 v4 v5 v6 v7 v9:Value} {rest:List Value} :
  (results Tryz.f126 (v0 :: v1 :: v2 :: v3 :: v4 :: v5 :: v6 :: v7 :: .pointer (Ac ⟨b,0,Ab⟩) :: v9 :: rest).toArray).run Am w = .ok (.tuple #[.agg #[u0,u1,u2,u3],v9]) w:=by
 have c0:=X.cell 0 _ rfl;have c1:=X.cell 1 _ rfl;have c2:=X.cell 2 _ rfl;have c3:=X.cell 3 _ rfl;simp [results,results126,go_sem,c0,c1,c2,c3]
theorem Eo {y:Yard} (h:Dh y) {k:Nat} (hk:k<y.runs.length):Hd y.runs[k]:=(h.2.2.2.2.2.2.2.1 k hk).1
theorem D7 {r:Run} (h:Hd r):1<=r.tasks.length/\r.tasks.length<=12:=by
 have h1:=Eh (Dj.1 h.2.1).1;have h2:=h.2.2.1;omega
theorem Ic (r:Run) (t:Nat):(Dn r t).tasks.length=r.tasks.length:=by
 unfold Dn;split<;>simp [Dx,Of]
open Classical in
noncomputable def K2 (y:Yard) (id tk tr:Int):Yard:=if Gn y id tk tr=0 then Gd y (Dk y id).toNat (Dn (Kh y id) tk.toNat) else y
theorem Zc (y:Yard) (s:Sl×Sl) (id tk tr:Int) (w:World) (hl:Ca y<=2000000) (h:Bv.rd w w y s) :
  Calls Am 126 #[Dm y s,J U id,J U tk,J U tr] w (Ij (K2 y id tk tr) (Gn y id tk tr) w):=by
 have HR:=Bq (show ∀ W,Below w w W->Bv.rd W W y s from fun W hW=>Bv.rd_more (Bv.rd_below h hW) hW.size);obtain ⟨⟨A1,n1,c1⟩,⟨A2,n2,c2⟩⟩:=s;have CC:=Bq (fun W hW=>El y (⟨A1,n1,c1⟩,⟨A2,n2,c2⟩) W hl (HR.out W hW));have CK:=Bq (fun W hW=>Si y (⟨A1,n1,c1⟩,⟨A2,n2,c2⟩) id tk tr W hl (HR.out W hW));have CA:=Bq (fun W hW=>E8 y (⟨A1,n1,c1⟩,⟨A2,n2,c2⟩) id W hl (HR.out W hW));clear h;obtain ⟨W,aH,X,RES,B0⟩:=bx2 w 27 [J U y.now,J U y.seq,Aa A1 n1 c1,Aa A2 n2 c2] 27 [J U 0,J U 0,Aa Ab 0 0,Aa Ab 0 0];go_enter func126,ntmps126;go_wp2_with fail
 rw [<-aH.out];clear aH;refine (CC.out _ B0).mono ?_;rintro e1 w1 ⟨⟨⟨B1,m1,e1⟩,⟨B2,m2,e2⟩⟩,F,rfl,oy,nF,b1⟩;have mX:=X.lt;have dP:=RES.lt;replace X:=X.below b1;replace RES:=RES.below b1;replace B0:=Bu B0 b1;have bV:=Bv.ow_lt (F:=F) (x:=y) (s:=(⟨B1,m1,e1⟩,⟨B2,m2,e2⟩)) oy;have bS:=b1.size;clear b1;go_upto_region 2 with fail
 have OB:=DBox.new 27 [J U y.now,J U y.seq,Aa B1 m1 e1,Aa B2 m2 e2] w1 (b:=w1) rfl;have b2:Below w1 w1 (w1.alloc (.cells #[J U y.now,J U y.seq,Aa B1 m1 e1,Aa B2 m2 e2] 27)):=Bt;replace B0:=Bu B0 b2;replace X:=X.below b2;replace RES:=RES.below b2;replace oy:=Bv.ow_below (F:=F) (x:=y) (s:=(⟨B1,m1,e1⟩,⟨B2,m2,e2⟩)) oy b2;have eV:=b2.size;have ow1:=OB.lt;generalize w1.alloc (.cells #[J U y.now,J U y.seq,Aa B1 m1 e1,Aa B2 m2 e2] 27)=w2 at *
 have X_:=X.g4;go_wp2_with fail
 refine (CK.out _ B0).mono ?_;rintro e1 w3 ⟨rfl,b3⟩;replace B0:=Bu B0 b3;clear X_;replace X:=X.below b3;replace RES:=RES.below b3;replace OB:=OB.below b3;replace oy:=Bv.ow_below (F:=F) (x:=y) (s:=(⟨B1,m1,e1⟩,⟨B2,m2,e2⟩)) oy b3;have kI:=b3.size;clear b3 b2 CC CK;have X_:=X.g4;have OB_:=OB.g4;by_cases q:Gn y id tk tr=0;case neg =>
  have q2:(Gn y id tk tr != 0)=true:=by simp [q]
  have H:=Bq (show K2 y id tk tr=y from if_neg q);clear q;have RES_:=RES.g4;have rf:=RES.free;go_wp2;have en1:w.heap.size+1∉F:=fun hx=>by have:=nF _ hx;omega
  refine Aj (Abo (DBox.row4 RES rfl _ _ _ _)) rfl ⟨(⟨B1,m1,e1⟩,⟨B2,m2,e2⟩),F,by rw [H.out],by rw [H.out];exact (Bv.set4 (F:=F) (x:=y) (s:=(⟨B1,m1,e1⟩,⟨B2,m2,e2⟩)) oy en1),fun x hx=>by have:=nF x hx;omega,?_⟩;repeat (first | (with_reducible exact B0) | refine Ad ?_ Bo _)
 have q2:(Gn y id tk tr != 0)=false:=by simp [q]
 have H:=Bq (show K2 y id tk tr=Gd y (Dk y id).toNat (Dn (Kh y id) tk.toNat) from if_pos q);have HP:Hid (Dh y/\0<=Dk y id/\Gh y id tk tr):=by
  unfold Gn at q;by_cases p0:Dh y
  ·by_cases p1:Dk y id<0
   ·rw [if_neg (fun h=>h p0),if_pos p1] at q;cases q
   ·by_cases p2:Gh y id tk tr
    ·exact ⟨p0,Bl,p2⟩
    ·rw [if_neg (fun h=>h p0),if_neg p1,if_pos p2] at q;cases q
  ·rw [if_pos p0] at q;cases q
 have Hq:=Bq q;clear q;rcases Ez y id with hr | ⟨k,hk,hr⟩
 ·exact absurd HP.out.2.1 Bl
 have HK:=Bq (Gy hk hr);have HR2:=Bq hr;clear hr;have bQ:=Bq (Eo HP.out.1 hk);have hth:=Bq HP.out.2.2;have dC:Hid ((0<=tk/\tk<(y.runs[k].tasks.length:Int))/\(Cv y.runs[k] tk.toNat).state=3):=by
  have:=hth.out
  unfold Gh at this;rw [HK.out] at this;exact ⟨this.2.1,this.2.2.1⟩
 obtain ⟨u,rfl⟩:=Ap dC.out.1.1;have hu:u<y.runs[k].tasks.length:=by have:=dC.out.1.2;omega
 have aP:Hid (Is y.runs[k] u):=⟨bQ.out,⟨Bl,Bl⟩,dC.out.2⟩
 go_wp2_with fail
 refine (CA.out _ B0).mono ?_;rintro e2' w4 ⟨rfl,b4⟩;rw [HR2.out];replace B0:=Bu B0 b4;clear X_;clear OB_;clear X;replace RES:=RES.below b4;replace OB:=OB.below b4;replace oy:Bv.ow w4 F y (⟨B1,m1,e1⟩,⟨B2,m2,e2⟩):=owB oy b4;have mR:=b4.size;clear b4 CA;have oy2:=oy;obtain ⟨F1,F2,rfl,bT,os,orr⟩:=oy2;replace orr:OwL Ce w4 F2 (Aa B2 m2 e2) y.runs:=orr;obtain rfl:m2=y.runs.length:=RdL.at1 (s:=⟨B2,m2,e2⟩) orr.rd;obtain ⟨gr,o2,sk,rfl,dQ,dF,c0,c1_,c2_,c3,c4,c5,c6,c7⟩:=orr.rd.run hk;have gL:(k:Int)<(y.runs.length:Int):=Bl;have cL:(0:Int)<=(k:Int):=Bl;go_wp2;refine Go.wp_region_noPanic ?_;refine wp_region_held_drew (S:=(fun w'=>DBox w1 [J U y.now,J U y.seq,Aa B1 m1 e1,Aa (Ac ⟨gr,o2,Ab⟩) y.runs.length e2] w')) Bm (DBox.drew4 OB) (fun hHeld=>?_);refine tY 0 ?_
 (try simp only [pS])
 refine tY 1 ?_
 (try simp only [pS])
 refine tY 2 ?_
 (try simp only [pS])
 refine tY 3 ?_
 (try simp only [pS])
 refine tY 4 ?_
 (try simp only [pS])
 refine tY 5 ?_
 (try simp only [pS])
 refine tY 7 ?_
 (try simp only [pS])
 have bd:Below w4 w4 w4.drew:=(Br _ _).drew;replace B0:=Bu B0 bd;replace RES:=RES.below bd;replace OB:=OB.below bd;replace oy:Bv.ow w4.drew (F1 ++ F2) y (⟨B1,m1,e1⟩,⟨Ac ⟨gr,o2,Ab⟩,y.runs.length,e2⟩):=Bv.ow_below (F:=F1 ++ F2) (x:=y) (s:=(⟨B1,m1,e1⟩,⟨Ac ⟨gr,o2,Ab⟩,y.runs.length,e2⟩)) oy bd;refine rC 6 (fun K_ hK=>?_);go_simp;refine hK.out _ _ OB (fun hHeld=>?_);clear hK K_
 (try simp only [pS])
 have mY:=G8 hl hk;have hrk2:Ce.rd w4.drew w4.drew y.runs[k] sk:=Ce.rd_below dF bd;have hcrun:Cn y.runs[k]<=2000000:=by
  have h1:=C9 (cnt:=Cn) (Aw hk);unfold Ca at hl;omega
 have CF:=Bq (Mm y.runs[k] sk u w4.drew hcrun aP.out hrk2);clear c0 c1_ c2_ c3 c4 c5 c6 c7;refine rC 8 (fun K_ hK=>?_);go_simp;refine CF.out.mono ?_;rintro e3 w5 ⟨sr,Fr,rfl,orn,nFr,b5⟩;refine hK.out _ _ (OB.below b5) (fun hHeld=>?_);clear hK K_
 (try simp only [pS])
 have qC:w4.drew.heap.size=w4.heap.size:=rfl;have pT:=b5.size;have rI:=D7 bQ.out;have CT:=Bq (Le y (⟨B1,m1,e1⟩,⟨Ac ⟨gr,o2,Ab⟩,y.runs.length,e2⟩) k (Dn y.runs[k] u) sr w5 (F1 ++ F2) Fr HP.out.1.2.2.1 (fun s hs=>by have:=(HP.out.1.2.2.2.1 s hs).1;omega) (by have:=HP.out.1.2.1;omega) hk (by rw [Ic];omega) Bl (Bv.ow_below (F:=F1 ++ F2) (x:=y) (s:=(⟨B1,m1,e1⟩,⟨Ac ⟨gr,o2,Ab⟩,y.runs.length,e2⟩)) oy b5) orn (fun x hx bJ=>by have h1:=nFr x hx;have h2:=bV x bJ;omega));have HF:=Bq (show K2 y id u tr=Gd y k (Dn y.runs[k] u) by rw [H.out,HR2.out,HK.out,Ao,Ao]);clear H;refine rC 9 (fun K_ hK=>?_);go_simp;refine CT.out.mono ?_;rintro e4 w6 ⟨s5,F5,rfl,oy7,n5,c6⟩;have aC:w1.heap.size∉F1 ++ F2:=fun h=>by have:=bV _ h;omega
 have nZ:w.heap.size+1∉F1 ++ F2:=fun h=>by have:=nF _ h;omega
 have OB6:=(OB.below b5).chg c6 aC;have RES6:=(RES.below b5).chg c6 nZ;have B6:Below w w w6:=(Bu B0 b5).trans (c6.below (by have:=(Bu B0 b5).size;omega) (fun x hx=>by have:=nF _ hx;omega));generalize Gd y k (Dn y.runs[k] u)=Z at *
 refine hK.out _ _ OB6 (fun hHeld=>?_);clear hK K_
 (try simp only [pS])
 have r0:=RES6.cell 0 _ rfl;have r1:=RES6.cell 1 _ rfl;have r2:=RES6.cell 2 _ rfl;have r3:=RES6.cell 3 _ rfl;have rl:=RES6.lt;have rf:=RES6.free;refine rC 10 (fun K_ hK=>?_);go_simp;have cW:w1.heap.size≠w.heap.size+1:=Bl;refine hK.out _ _ ((((OB6.setOther (a:=⟨w+1,_,Ab⟩) cW _).setOther (a:=⟨w+1,_,Ab⟩) cW _).setOther (a:=⟨w+1,_,Ab⟩) cW _).setOther (a:=⟨w+1,_,Ab⟩) cW _) (fun hHeld=>?_);clear hK K_
 (try simp only [pS])
 refine rC 11 (fun K_ hK=>?_);go_simp;refine hK.out _ _ hHeld (fun hHeld=>?_);clear hK K_
 (try simp only [pS])
 refine Al Bm ?_ _;refine NoPanic.normal ?_;clear hHeld r0 r1 r2 r3 rf;have en5:w.heap.size+1∉F5:=fun hx=>by
  rcases n5 _ hx with h | h | h
  ·exact nZ h
  ·have:=nFr _ h;omega
  ·omega
 have hZ:K2 y id u tr=Z:=HF.out;have H2:=Bq hZ;clear hZ;have Hq2:=Bq (show Gn y id u tr=0 from Hq.out);go_wp2;refine Aj (Abo (DBox.row4 RES6 rfl _ _ _ _)) rfl ⟨s5,F5,by rw [H2.out,Hq2.out],by rw [H2.out];exact (Bv.set4 (F:=F5) (x:=Z) (s:=s5) oy7 en5),fun x hx=>?_,?_⟩
 ·rcases n5 x hx with h | h | h
  ·have:=nF x h;omega
  ·have:=nFr x h;omega
  ·omega
 ·repeat (first | (with_reducible exact B6) | refine Ad ?_ Bo _)
end
noncomputable def Mf (y:Yard) (p:Plan):Bool:=decide (y.runs.length<8) && (inB p.tasks 0 12 && (decide ((Gp y:Int)+p.tasks<=40) && decide (y.seq<=999999000 - p.tasks)))
theorem Zd (y:Yard) (s:Sl×Sl) (p:Plan) (ve:Value) (w:World) (hl:Ca y<=2000000) (hS:Gp y<=40) (hq:0<=y.seq/\y.seq<=2000000000) (h:Bv.rd w w y s) :
  Calls Am 202 #[Dm y s,Gw p ve] w fun e' w'=>e' = .returned (.bool (Mf y p))/\Below w w w':=by
 have HR:=Bq (show ∀ W,Below w w W->Bv.rd W W y s from fun W hW=>Bv.rd_more (Bv.rd_below h hW) hW.size);obtain ⟨⟨A1,n1,c1⟩,⟨A2,n2,c2⟩⟩:=s;obtain rfl:n2=y.runs.length:=RdL.at1 (s:=⟨A2,n2,c2⟩) h.2;have CS:=Bq (fun W hW=>Pp y (⟨A1,n1,c1⟩,⟨A2,y.runs.length,c2⟩) W hl (HR.out W hW));clear h HR;have HD:=Bq (show Mf y p=(decide (y.runs.length<8) && (inB p.tasks 0 12 && (decide ((Gp y:Int)+p.tasks<=40) && decide (y.seq<=999999000 - p.tasks)))) from rfl);generalize Mf y p=D at *
 generalize Gp y=sn at *
 obtain ⟨W,aH,X,P,B0⟩:=bx2 w 27 [J U y.now,J U y.seq,Aa A1 n1 c1,Aa A2 y.runs.length c2] 36 [J U p.prio,J U p.most,J U p.wait,J U p.tasks,ve];go_enter func202,ntmps202;go_wp2;rw [<-aH.out];clear aH;have X_:=X.g4;have P_:=P.g5;have aQ:=Di W;by_cases a:y.runs.length<8;case neg =>
  have aI:¬ (y.runs.length:Int)<8:=Bl;have aD:decide ((y.runs.length:Int)<8)=false:=decide_eq_false aI;have H:=Bq (show D=false by rw [HD.out,decide_eq_false a,Bool.false_and]);clear HD a;refine Bz Bm Bm ?_;repeat (go_big_quiet_step ((first | (go_at_call 63;exact Ds (fun u=>Cg _ _ _ u.1)) | (go_at_call 156;rename_i x;have h1:=CS.out x.1 (Bu B0 x.2);exact Fg h1))))
  refine Ak ?_;rintro _ ⟨⟨w3,b3⟩,rfl⟩;clear aQ;go_wp2;go_ret;exact ⟨Bw H.out.symm,Bu B0 b3⟩
 have aI:(y.runs.length:Int)<8:=Bl;have aD:decide ((y.runs.length:Int)<8)=true:=decide_eq_true aI;have HD:=Bq (HD.out.trans (by rw [decide_eq_true a,Bool.true_and]));clear a;cases c:inB p.tasks 0 12;case false =>
  have H:=Bq (show D=false by rw [HD.out,c,Bool.false_and]);clear HD;refine Bz Bm Bm ?_;repeat (go_big_quiet_step ((first | (go_at_call 63;exact Ds (fun u=>Cg _ _ _ u.1)) | (go_at_call 156;rename_i x;have h1:=CS.out x.1 (Bu B0 x.2);exact Fg h1))))
  refine Ak ?_;rintro _ ⟨⟨w3,b3⟩,rfl⟩;clear aQ;go_wp2;go_ret;exact ⟨Bw H.out.symm,Bu B0 b3⟩
 have cc:=Cw.1 c;have HD:=Bq (HD.out.trans (by rw [c,Bool.true_and]));have wr1:U.wrap ((sn:Int)+p.tasks)=(sn:Int)+p.tasks:=Aq _ Bl;have wr2:U.wrap (999999000 - p.tasks)=999999000 - p.tasks:=Aq _ Bl;cases d:decide ((sn:Int)+p.tasks<=40);case false =>
  have H:=Bq (show D=false by rw [HD.out,d,Bool.false_and]);clear HD cc;refine Bz Bm Bm ?_;repeat (go_big_quiet_step ((first | (go_at_call 63;exact Ds (fun u=>Cg _ _ _ u.1)) | (go_at_call 156;rename_i x;have h1:=CS.out x.1 (Bu B0 x.2);exact Fg h1))))
  refine Ak ?_;rintro _ ⟨⟨w3,b3⟩,rfl⟩;clear aQ;go_wp2;go_ret;exact ⟨Bw H.out.symm,Bu B0 b3⟩
 have H:=Bq (show D=decide (y.seq<=999999000 - p.tasks) by rw [HD.out,d,Bool.true_and]);clear HD cc;cases e:decide (y.seq<=999999000 - p.tasks);all_goals
  rw [e] at H;refine Bz Bm Bm ?_;repeat (go_big_quiet_step ((first | (go_at_call 63;exact Ds (fun u=>Cg _ _ _ u.1)) | (go_at_call 156;rename_i x;have h1:=CS.out x.1 (Bu B0 x.2);exact Fg h1))))
  refine Ak ?_;rintro _ ⟨⟨w3,b3⟩,rfl⟩;clear aQ;go_wp2;go_ret;exact ⟨Bw H.out.symm,Bu B0 b3⟩
theorem Mn (y:Yard) (s:Sl×Sl) (id tk tr:Int) (w:World) (hl:Ca y<=2000000) (h:Bv.rd w w y s) :
  Calls Am 193 #[Dm y s,J U id,J U tk,J U tr] w fun e' w'=>e' = .returned (.bool (tf (Gh y id tk tr)))/\Below w w w':=by
 have HR:=Bq (show ∀ W,Below w w W->Bv.rd W W y s from fun W hW=>Bv.rd_more (Bv.rd_below h hW) hW.size);obtain ⟨⟨A1,n1,c1⟩,⟨A2,n2,c2⟩⟩:=s;obtain rfl:n2=y.runs.length:=RdL.at1 (s:=⟨A2,n2,c2⟩) h.2;have h2:RdL Ce w w (Aa A2 y.runs.length c2) y.runs:=h.2;have bZ:y.runs.length<=2000000:=Ah (Cj Cn _) (by unfold Ca at hl;omega);have X:=DBox.new 27 [J U y.now,J U y.seq,Aa A1 n1 c1,Aa A2 y.runs.length c2] w (b:=w) rfl;have B0:Below w w (w.alloc (.cells #[J U y.now,J U y.seq,Aa A1 n1 c1,Aa A2 y.runs.length c2] 27)):=by repeat (first | exact Br _ _ | refine Below.alloc ?_ Bo _)
 have C:=E9 y (⟨A1,n1,c1⟩,⟨A2,y.runs.length,c2⟩) id (w.alloc (.cells #[J U y.now,J U y.seq,Aa A1 n1 c1,Aa A2 y.runs.length c2] 27)) hl (HR.out _ B0);clear h;rcases Ez y id with hr | ⟨k,hk,hr⟩
 ·have H:=Bq (show tf (Gh y id tk tr)=false from Ci (fun hh=>by have:=hh.1;omega));rw [hr] at C;clear hr;go_enter func193,ntmps193;go_wp2_with fail
  generalize (w.alloc (.cells #[J U y.now,J U y.seq,Aa A1 n1 c1,Aa A2 y.runs.length c2] 27))=W at *
  refine C.mono ?_;rintro e1 w1 ⟨rfl,b1⟩;go_wp2;go_ret;exact ⟨Bw H.out.symm,Bu B0 b1⟩
 ·have tS:=G8 hl hk;have HR2:=Bq hr;rw [hr] at C;clear hr;have HK:=Bq (Gy hk HR2.out);go_enter func193,ntmps193;go_wp2_with fail
  generalize (w.alloc (.cells #[J U y.now,J U y.seq,Aa A1 n1 c1,Aa A2 y.runs.length c2] 27))=W at *
  refine C.mono ?_;rintro e1 w1 ⟨rfl,b1⟩;replace X:=X.below b1;have X_:=X.g4;replace B0:=Bu B0 b1;obtain ⟨b,o,⟨s1,⟨At,nt,ct⟩⟩,eN,aK,cM,c0_,c1_,c2_,c3_,c4_,c5_,c6_,c7_⟩:=(h2.below B0).run hk;subst eN;obtain rfl:nt=y.runs[k].tasks.length:=RdL.at1 (s:=⟨At,nt,ct⟩) cM.2;have h3:RdL C7 w1 w (Aa At y.runs[k].tasks.length ct) y.runs[k].tasks:=cM.2;have gL:(k:Int)<(y.runs.length:Int):=Bl;have hk00:(0:Int)<=(k:Int):=Bl;have cL:¬ (k:Int)<0:=Bl;have bS:b<w1:=Ai aK B0.size;have wr1:U.wrap ((y.runs[k].tasks.length:Int) - 1)=(y.runs[k].tasks.length:Int) - 1:=Aq _ Bl;cases q:inB tk 0 ((y.runs[k].tasks.length:Int) - 1)
  ·have H:=Bq (show tf (Gh y id tk tr)=false from Ci (fun hh=>by
    have h5:=hh.2.1;rw [HK.out] at h5
    have:=Cw.2 (show 0<=tk/\tk<=(y.runs[k].tasks.length:Int) - 1 by omega)
    rw [q] at this;cases this))
   go_wp2_with (go_at_call 56;refine (Co _ _ _ _).mono ?_;rintro e w9 ⟨rfl,rfl⟩;rw [q])
   go_ret;exact ⟨Bw H.out.symm,B0⟩
  ·have qq:=Cw.1 q;obtain ⟨t,rfl⟩:=Ap qq.1;have ht:t<y.runs[k].tasks.length:=Bl;obtain ⟨b',o',_,sR,bI,_,d0,d1,d2,d3⟩:=h3.task ht;subst sR;have eV:b'<w1:=Ai bI B0.size;have jR:(t:Int)<(y.runs[k].tasks.length:Int):=Bl;have gM:(0:Int)<=(t:Int):=Bl;have H:=Bq (show tf (Gh y id t tr)=((y.runs[k].tasks[t].state == 3) && (y.runs[k].tasks[t].try_ == tr)) by
    rw [Bool.eq_iff_iff,Mj,Bool.and_eq_true,beq_iff_eq,beq_iff_eq];unfold Gh;rw [HK.out,Ao,Cu ht,HR2.out];constructor
    ·intro hh;exact hh.2.2
    ·intro hh;exact ⟨Bl,⟨Bl,Bl⟩,hh⟩)
   clear qq;generalize y.runs[k].tasks[t].state=st at *
   generalize y.runs[k].tasks[t].try_=ty at *
   cases q2:(st == 3)
   ·go_wp2_with (go_at_call 56;refine (Co _ _ _ _).mono ?_;rintro e w9 ⟨rfl,rfl⟩;rw [q])
    go_ret;exact ⟨Bw (by rw [H.out,q2];rfl),B0.alloc B0.size _⟩
   ·go_wp2_with (go_at_call 56;refine (Co _ _ _ _).mono ?_;rintro e w9 ⟨rfl,rfl⟩;rw [q])
    go_ret;exact ⟨Bw (by rw [H.out,q2];rfl),B0.alloc B0.size _⟩
theorem Qz (y:Yard) (s:Sl×Sl) (id tk tr:Int) (w:World) (hl:Ca y<=2000000) (h:Bv.rd w w y s) :
  Calls Am 186 #[Dm y s,J U id,J U tk,J U tr] w fun e' w'=>e' = .returned (J U (Gn y id tk tr))/\Below w w w':=by
 have HR:=Bq (show ∀ W,Below w w W->Bv.rd W W y s from fun W hW=>Bv.rd_more (Bv.rd_below h hW) hW.size);obtain ⟨⟨A1,n1,c1⟩,⟨A2,n2,c2⟩⟩:=s;have CY:=Bq (fun W hW=>Fw y (⟨A1,n1,c1⟩,⟨A2,n2,c2⟩) W hl (HR.out W hW));have CA:=Bq (fun W hW=>E9 y (⟨A1,n1,c1⟩,⟨A2,n2,c2⟩) id W hl (HR.out W hW));have CH:=Bq (fun W hW=>Mn y (⟨A1,n1,c1⟩,⟨A2,n2,c2⟩) id tk tr W hl (HR.out W hW));clear h;obtain ⟨W,aH,X,B0⟩:=bx1 w 27 [J U y.now,J U y.seq,Aa A1 n1 c1,Aa A2 n2 c2];go_enter func186,ntmps186;go_wp2_with fail
 rw [<-aH.out];clear aH;refine (CY.out _ B0).mono ?_;rintro e1 w1 ⟨rfl,b1⟩;replace X:=X.below b1;have X_:=X.g4;replace B0:=Bu B0 b1;by_cases p0:Dh y;case neg =>
  have H:=Bq (show Gn y id tk tr=8 from if_pos p0);rw [Ci p0];clear p0;go_wp2;go_ret;exact ⟨by rw [H.out];rfl,B0⟩
 rw [Dp p0];go_wp2_with fail
 refine (CA.out _ B0).mono ?_;rintro e1 w2 ⟨rfl,b2⟩;clear X_;replace X:=X.below b2;have X_:=X.g4;replace B0:=Bu B0 b2;by_cases p1:Dk y id<0
 ·have H:=Bq (show Gn y id tk tr=10 by unfold Gn;rw [if_neg (fun h=>h p0),if_pos p1]);clear p0;go_wp2;go_ret;exact ⟨by rw [H.out];rfl,B0⟩
 go_wp2_with fail
 refine (CH.out _ B0).mono ?_;rintro e1 w3 ⟨rfl,b3⟩;replace B0:=Bu B0 b3;by_cases p2:Gh y id tk tr
 ·have H:=Bq (show Gn y id tk tr=0 by unfold Gn;rw [if_neg (fun h=>h p0),if_neg Bl,if_neg (fun h=>h p2)]);rw [Dp p2];clear p0 p2;go_wp2;go_ret;exact ⟨by rw [H.out];rfl,B0⟩
 ·have H:=Bq (show Gn y id tk tr=11 by unfold Gn;rw [if_neg (fun h=>h p0),if_neg Bl,if_pos p2]);rw [Ci p2];clear p0 p2;go_wp2;go_ret;exact ⟨by rw [H.out];rfl,B0⟩
theorem Vo (s:Int) (y:Task):∀ (l:List Task) (k:Nat) (hk:k<l.length),Dv (l.set k y) s+(if l[k].state=s then 1 else 0)=Dv l s+(if y.state=s then 1 else 0)
 | x :: l,0,_=>by
  unfold Dv;by_cases h1:x.state=s<;>by_cases h2:y.state=s<;>simp [h1,h2]
 | x :: l,k+1,hk=>by
  have ih:=Vo s y l k (by simpa using hk);unfold Dv at *
  by_cases h1:x.state=s
  ·simp only [List.set_cons_succ,List.getElem_cons_succ,List.filter_cons,beq_iff_eq,h1,if_true,List.length_cons];omega
  ·simp only [List.set_cons_succ,List.getElem_cons_succ,List.filter_cons,beq_iff_eq,h1,if_false];exact ih
theorem Lf {l:List Task} {t:Nat} (h:t<l.length) (f:Task->Task):Hn l t f=l.set t (f l[t]):=by
 unfold Hn;rw [List.getD_eq_getElem?_getD,List.getElem?_eq_getElem h];rfl
theorem Q0 {r r':Run} {l:List Nat} (h:∀ b,(Cv r b).state=4 ↔ (Cv r' b).state=4):Ia r l=Ia r' l:=by
 unfold Ia;congr 1;apply List.filter_congr;intro b _;by_cases q:(Cv r b).state=4
 ·simp [q,(h b).1 q]
 ·have q':¬ (Cv r' b).state=4:=fun hh=>q ((h b).2 hh);rw [show ((Cv r b).state != 4)=true from bne_iff_ne.2 q,show ((Cv r' b).state != 4)=true from bne_iff_ne.2 q']
theorem Xu (x:Task):(Dq x).state=4/\x.state=4\/(Dq x).state=5/\x.state=5\/(Dq x).state=6/\x.state≠4/\x.state≠5:=by
 unfold Dq;by_cases h4:x.state=4
 ·simp [h4]
 ·by_cases h5:x.state=5
  ·simp [h5]
  ·simp [h4,h5]
theorem Afk (l:List Task):Dv (l.map Dq) 4=Dv l 4/\Dv (l.map Dq) 5=Dv l 5/\K6 (l.map Dq)=0:=by
 induction l with
 | nil=>exact ⟨rfl,rfl,rfl⟩
 | cons x l ih =>
  have hc:∀ (y:Task) (l:List Task) s,Dv (y :: l) s=(if y.state=s then 1 else 0)+Dv l s:=by
   intro y l s;unfold Dv;by_cases h:y.state=s<;>simp [h];omega
  obtain ⟨h1,h2,h3⟩:=ih;unfold K6 at *
  simp only [List.map_cons,hc];rcases Xu x with ⟨a,b⟩ | ⟨a,b⟩ | ⟨a,b,c⟩
  ·simp [a,b,h1,h2];omega
  ·simp [a,b,h1,h2];omega
  ·simp [a,b,c,h1,h2];omega
theorem Rp (i:Int) (p:Plan) (s:Int) (l:List Task) (k:Nat):Cv ⟨i,p,s,l⟩ k=l.getD k ⟨0,0,0,0⟩:=rfl
theorem Abp {l:List Task} {s:Int} {k:Nat} (hk:k<l.length) (h:l[k].state=s):1<=Dv l s:=by
 unfold Dv;apply List.length_pos_of_mem (a:=l[k]);rw [List.mem_filter];exact ⟨Aw hk,by simp [h]⟩
theorem Agv {l:List Task} {s:Int} {k:Nat} (hk:k<l.length) (h:¬ l[k].state=s):Dv l s<l.length:=by
 unfold Dv;rcases Nat.lt_or_ge (l.filter fun x=>x.state == s).length l.length with h1 | h1
 ·exact h1
 ·have h2:=List.filter_sublist (p:=fun x:Task=>x.state == s) (l:=l);have h3:=h2.eq_of_length_le h1;have h4:l[k]∈(l.filter fun x=>x.state == s):=by rw [h3];exact Aw hk
  rw [List.mem_filter] at h4;exact absurd (by simpa using h4.2) h
theorem Qc {r:Run} {u:Nat} (h:Is r u):Dv r.tasks 5=0/\Dv r.tasks 6=0/\Dv r.tasks 4<r.tasks.length/\r.state=1:=by
 obtain ⟨hr,⟨_,hu⟩,hs⟩:=h;have kV:u<r.tasks.length:=Bl;rw [Ao,Cu kV] at hs;have h3:=Abp kV hs;have h4:=Agv (s:=4) kV Bl;have h5:=hr.2.2.2.2.1;have h6:=hr.2.2.2.2.2;have hR:¬ K6 r.tasks=0:=by unfold K6;omega
 unfold stL at h5;rw [if_neg Bl,if_neg (fun hh=>hR hh.2),if_neg (fun hh=>hR hh.2.2)] at h5;by_cases q:Dv r.tasks 5=0/\Dv r.tasks 6=0
 ·rw [if_pos q] at h5;exact ⟨q.1,q.2,h4,h5⟩
 ·rw [if_neg q] at h5;exact absurd h5 h6
theorem Xv (r:Run) (u:Nat):(Dn r u).id=r.id/\(Dn r u).plan=r.plan:=by
 unfold Dn;split<;>exact ⟨rfl,rfl⟩
theorem Abq {r:Run} {u:Nat} (h:Is r u):Hd (Dn r u):=by
 obtain ⟨l5,l6,l4,ls⟩:=Qc h;obtain ⟨hr,⟨_,hu⟩,hs⟩:=h;have kV:u<r.tasks.length:=Bl;rw [Ao] at hs;have hsu:=hs;rw [Cu kV] at hs;obtain ⟨a1,a2,a3,a4,a5,a6⟩:=hr;have hq:=a4 u kV;unfold Hk at hq;rw [Cu kV] at hq;obtain ⟨q1,q2,q3,q4,q5,q6,q7,q8⟩:=hq;have hgetS:∀ (y:Task) b,(r.tasks.set u y).getD b ⟨0,0,0,0⟩=if b=u then y else Cv r b:=by
  intro y b;unfold Cv;rw [List.getD_eq_getElem?_getD,List.getD_eq_getElem?_getD,List.getElem?_set];by_cases e:u=b
  ·subst e;simp [kV]
  ·rw [if_neg e,if_neg (fun hh=>e hh.symm)]
 unfold Dn;split
 ·next ht =>
  rw [Cu kV] at ht;rw [Lf kV];refine ⟨a1,a2,by simpa using a3,?_,?_,a6⟩
  ·intro t eW;have htl':t<r.tasks.length:=by simpa using eW
   have hN:Iq ⟨r.id,r.plan,r.state,r.tasks.set u ⟨2,r.tasks[u].need,r.tasks[u].try_,0⟩⟩ t=Iq r t:=by
    unfold Iq;apply Q0;intro b;rw [Rp,hgetS];by_cases e:b=u
    ·subst e;rw [if_pos rfl];simp [hsu]
    ·rw [if_neg e]
   unfold Hk;rw [hN,Rp,hgetS];by_cases e:t=u
   ·subst e;rw [if_pos rfl]
    have:=q8 (.inl hs)
    refine ⟨Bn,q2,q3,Bn,Bn,Bn,?_,Bn⟩;intro _;exact ⟨this.1,ht⟩
   ·rw [if_neg e];exact a4 t htl'
  ·have c:=fun s=>Vo s ⟨2,r.tasks[u].need,r.tasks[u].try_,0⟩ r.tasks u kV;have c1:=c 1;have c2:=c 2;have c3:=c 3;have c4:=c 4;have c5:=c 5;have c6:=c 6;simp only [hs] at c1 c2 c3 c4 c5 c6;simp at c1 c2 c3 c4 c5 c6;show r.state=stL (r.tasks.set u ⟨2,r.tasks[u].need,r.tasks[u].try_,0⟩);rw [ls];unfold stL;have hR:¬ K6 (r.tasks.set u ⟨2,r.tasks[u].need,r.tasks[u].try_,0⟩)=0:=by unfold K6;omega
   rw [if_neg (by rw [Bh];omega),if_neg (fun hh=>hR hh.2),if_neg (fun hh=>hR hh.2.2),if_pos Bl]
 ·next ht =>
  rw [Cu kV] at ht;rw [Lf kV];have hX:∀ b,Cv (Dx ⟨r.id,r.plan,r.state,r.tasks.set u ⟨5,r.tasks[u].need,r.tasks[u].try_,0⟩⟩ 3) b=if b<r.tasks.length then Dq (if b=u then ⟨5,r.tasks[u].need,r.tasks[u].try_,0⟩ else Cv r b) else ⟨0,0,0,0⟩:=by
   intro b;unfold Dx;rw [Rp,List.getD_eq_getElem?_getD,List.getElem?_map];by_cases e:b<r.tasks.length
   ·rw [if_pos e,<-hgetS,List.getD_eq_getElem?_getD,List.getElem?_eq_getElem (by rw [Bh];exact e)];rfl
   ·rw [if_neg e,List.getElem?_eq_none (by rw [Bh];omega)];rfl
  refine ⟨a1,a2,by simpa [Dx] using a3,?_,?_,by simp [Dx]⟩
  ·intro t eW;have htl':t<r.tasks.length:=by simpa [Dx] using eW
   have hN:Iq (Dx ⟨r.id,r.plan,r.state,r.tasks.set u ⟨5,r.tasks[u].need,r.tasks[u].try_,0⟩⟩ 3) t=Iq r t:=by
    show Ia _ _=Ia _ _;apply Q0;intro b;rw [hX];by_cases e:b<r.tasks.length
    ·rw [if_pos e];by_cases e2:b=u
     ·subst e2;rw [if_pos rfl];simp [hsu,Dq]
     ·rw [if_neg e2];rcases Xu (Cv r b) with ⟨a,b⟩ | ⟨a,b⟩ | ⟨a,b,c⟩
      ·simp [a,b]
      ·simp [a,b]
      ·simp [a,b]
    ·rw [if_neg e];unfold Cv;rw [List.getD_eq_getElem?_getD,List.getElem?_eq_none Bl];simp
   unfold Hk;rw [hN,hX,if_pos htl'];show Od _ _ r.plan.most;by_cases e:t=u
   ·subst e;rw [if_pos rfl]
    have:=q8 (.inl hs)
    unfold Dq;rw [if_neg Bn];refine ⟨Bn,q2,q3,Bn,Bn,Bn,Bn,?_⟩;intro _;exact this
   ·rw [if_neg e];obtain ⟨p1,p2,p3,p4,p5,p6,p7,p8⟩:=a4 t htl';unfold Dq;split
    ·refine ⟨Bn,p2,p3,Bn,Bn,Bn,Bn,Bn⟩
    ·exact ⟨p1,p2,p3,p4,p5,p6,p7,p8⟩
  ·have c:=fun s=>Vo s ⟨5,r.tasks[u].need,r.tasks[u].try_,0⟩ r.tasks u kV;have c4:=c 4;have c5:=c 5;simp only [hs] at c4 c5;simp at c4 c5;obtain ⟨m1,m2,m3⟩:=Afk (r.tasks.set u ⟨5,r.tasks[u].need,r.tasks[u].try_,0⟩);show (3:Int)=stL ((r.tasks.set u ⟨5,r.tasks[u].need,r.tasks[u].try_,0⟩).map Dq);unfold stL;rw [if_neg (by rw [List.length_map,Bh];omega),if_pos Bl]
theorem Q1 {α:Type} {cnt:α->Nat} {K:Nat} : ∀ {l:List α},(∀ x∈l,cnt x<=K)->D8 cnt l<=l.length * (K+1)
 | [],_=>by simp [D8]
 | x :: l,h=>by
  have ih:=Q1 (cnt:=cnt) (K:=K) (l:=l) (fun y hy=>h y (List.mem_cons_of_mem _ hy))
  have:=h x (List.mem_cons_self ..)
  unfold D8 at *
  rw [List.map_cons,List.sum_cons,List.length_cons,Nat.succ_mul];omega
theorem Kr {r:Run} (h:Hd r):Cn r<=42:=by
 have h1:=Fh (Dj.1 h.2.1).1;have h2:=D7 h;have e1:Ed r.plan=r.plan.edges.length:=Ge (fun _=>rfl) _;have e2:D8 Dz r.tasks=r.tasks.length:=Ge (fun _=>rfl) _;unfold Cn;omega
theorem Oy {y:Yard} {M:Nat} (h4:y.shelf.length=4) (hM:∀ s∈y.shelf,s.length<=M) (h8:y.runs.length<=8) (hr:∀ k (h:k<y.runs.length),Hd y.runs[k]):Ca y<=4 * (M+1)+344:=by
 have h1:D8 Cl y.shelf<=y.shelf.length * (M+1):=Q1 (fun s hs=>by
  have e:Cl s=s.length:=Ge (fun _=>rfl) _;rw [e];exact hM s hs)
 have h2:D8 Cn y.runs<=y.runs.length * (42+1):=Q1 (fun r gH=>by
  obtain ⟨k,hk,rfl⟩:=List.getElem_of_mem gH;exact Kr (hr k hk))
 rw [h4] at h1;have h3:y.runs.length * (42+1)<=8 * 43:=Nat.mul_le_mul_right _ h8;unfold Ca;omega
structure Trn (y:Yard) (m:Nat) (z:Yard):Prop where
 now:z.now=y.now
 four:z.shelf.length=4
 all:∀ s∈z.shelf,s.length<=80+12 * m
 seq:1<=z.seq/\z.seq<=1000000000+12 * m
 len:z.runs.length=y.runs.length
 le8:z.runs.length<=8
 run:∀ k (h:k<z.runs.length) (h':k<y.runs.length),Hd z.runs[k]/\z.runs[k].id=y.runs[k].id/\z.runs[k].tasks.length=y.runs[k].tasks.length
theorem Trn.start {y:Yard} (h:Dh y):Trn y 0 y :=
 ⟨rfl,h.2.2.1,fun s hs=>by have:=(h.2.2.2.1 s hs).1;omega,by have:=h.2.1;omega,rfl,h.2.2.2.2.2.2.1,fun k hk _=>⟨Eo h hk,rfl,rfl⟩⟩
theorem Trn.mono {y z:Yard} {m n:Nat} (h:Trn y m z) (hm:m<=n):Trn y n z :=
 ⟨h.now,h.four,fun s hs=>by have:=h.all s hs;omega,by have:=h.seq;omega,h.len,h.le8,h.run⟩
theorem Xw (y:Yard) (k:Nat) (r:Run) (hk:k<y.runs.length):Gd y k r=Ii ⟨y.now,y.seq,y.shelf,y.runs.set k r⟩ y.runs[k] r r.tasks.length:=by
 unfold Gd;rw [List.getD_eq_getElem?_getD,List.getElem?_eq_getElem hk];rfl
theorem Trn.step {y z:Yard} {m:Nat} (h:Trn y m z) {k u:Nat} (hk:k<z.runs.length) (hr:Is z.runs[k] u):Trn y (m+1) (Gd z k (Dn z.runs[k] u)):=by
 have hR:=Abq hr;have hL:=D7 hR;rw [Xw _ _ _ hk];have hF:=Qb (y:=⟨z.now,z.seq,z.shelf,z.runs.set k (Dn z.runs[k] u)⟩) (was:=z.runs[k]) (r:=Dn z.runs[k] u) h.all (Dn z.runs[k] u).tasks.length;generalize Ii ⟨z.now,z.seq,z.shelf,z.runs.set k (Dn z.runs[k] u)⟩ z.runs[k] (Dn z.runs[k] u) (Dn z.runs[k] u).tasks.length=Z at *
 have e:Z.runs=z.runs.set k (Dn z.runs[k] u):=hF.runs;refine ⟨hF.now.trans h.now,hF.len.trans h.four,fun s hs=>by have:=hF.all s hs;omega,?_,by rw [e,Bh];exact h.len,by rw [e,Bh];exact h.le8,fun j hj hj'=>?_⟩
 ·have h1:=hF.seq;have h2:=h.seq;dsimp only at h1;omega
 ·have hjz:j<z.runs.length:=by rw [h.len];exact hj'
  have e2:Z.runs[j]=if k=j then Dn z.runs[k] u else z.runs[j]:=by
   rw [show Z.runs[j]=(z.runs.set k (Dn z.runs[k] u))[j]'(by rw [Bh];exact hjz) by simp only [e],List.getElem_set]
  rw [e2];have h1:=h.run j hjz hj';split
  ·next hkj =>
   subst hkj;exact ⟨hR,(Xv _ _).1.trans h1.2.1,(Ic _ _).trans h1.2.2⟩
  ·exact h1
theorem Trn.cnt {y z:Yard} {m:Nat} (h:Trn y m z) (hm:m<=1000):Ca z<=2000000:=by
 have:=Oy h.four h.all h.le8 (fun k hk=>(h.run k hk (by rw [<-h.len];exact hk)).1)
 omega
theorem Abr {α:Type} {p:α->Bool} {l l':List α} (hl:l.length=l'.length) (h:∀ k (h1:k<l.length) (h2:k<l'.length),p l[k]=p l'[k]):Hj p l=Hj p l':=by
 rcases Me p l' with e | ⟨k,hk,e⟩
 ·rw [e];refine Kd (fun j hj=>?_);rw [h j hj Bl];unfold Hj at e;cases q:l'.findIdx? p with
  | none =>
   rw [List.findIdx?_eq_none_iff] at q;exact q _ (Aw _)
  | some i=>rw [q] at e;exact absurd e Bn
 ·rw [e];unfold Hj at e;cases q:l'.findIdx? p with
  | none=>rw [q] at e;exact absurd e Bn
  | some i =>
   rw [q] at e;have e':i=k:=Int.ofNat.inj e;subst e';obtain ⟨h1,h2,h3⟩:=List.findIdx?_eq_some_iff_getElem.1 q;exact Jp Bl (fun j hj=>by rw [h j Bl Bl];simpa using h3 j hj) (by rw [h i Bl hk];exact h2)
theorem Trn.runAt {y z:Yard} {m:Nat} (h:Trn y m z) (id:Int):Dk z id=Dk y id:=by
 rw [Lh h.le8,Lh (by rw [<-h.len];exact h.le8)];exact Abr h.len (fun k h1 h2=>by unfold Mz;rw [(h.run k h1 h2).2.1])
theorem Ze (y:Yard) (s:Sl×Sl) (p:Plan) (ve:Value) (w:World) (hl:Ca y<=2000000) (hS:Gp y<=40) (hq:0<=y.seq/\y.seq<=2000000000) (h:Bv.rd w w y s) :
  Calls Am 177 #[Dm y s,Gw p ve] w fun e' w'=>e' = .returned (.bool (Mf y p))/\Below w w w':=by
 have HR:=Bq (show ∀ W,Below w w W->Bv.rd W W y s from fun W hW=>Bv.rd_more (Bv.rd_below h hW) hW.size);obtain ⟨⟨A1,n1,c1⟩,⟨A2,n2,c2⟩⟩:=s;obtain rfl:n2=y.runs.length:=RdL.at1 (s:=⟨A2,n2,c2⟩) h.2;have CS:=Bq (fun W hW=>Po y (⟨A1,n1,c1⟩,⟨A2,y.runs.length,c2⟩) W hl (HR.out W hW));clear h HR;have HD:=Bq (show Mf y p=(decide (y.runs.length<8) && (inB p.tasks 0 12 && (decide ((Gp y:Int)+p.tasks<=40) && decide (y.seq<=999999000 - p.tasks)))) from rfl);generalize Mf y p=D at *
 generalize Gp y=sn at *
 obtain ⟨W,aH,X,P,B0⟩:=bx2 w 27 [J U y.now,J U y.seq,Aa A1 n1 c1,Aa A2 y.runs.length c2] 36 [J U p.prio,J U p.most,J U p.wait,J U p.tasks,ve];go_enter func177,ntmps177;go_wp2;rw [<-aH.out];clear aH;have X_:=X.g4;have P_:=P.g5;have aQ:=Di W;by_cases a:y.runs.length<8;case neg =>
  have aI:¬ (y.runs.length:Int)<8:=Bl;have aD:decide ((y.runs.length:Int)<8)=false:=decide_eq_false aI;have H:=Bq (show D=false by rw [HD.out,decide_eq_false a,Bool.false_and]);clear HD a;refine Bz Bm Bm ?_;repeat (go_big_quiet_step ((first | (go_at_call 56;exact Ds (fun u=>Co _ _ _ u.1)) | (go_at_call 138;rename_i x;have h1:=CS.out x.1 (Bu B0 x.2);exact Fg h1))))
  refine Ak ?_;rintro _ ⟨⟨w3,b3⟩,rfl⟩;clear aQ;go_wp2;go_ret;exact ⟨Bw H.out.symm,Bu B0 b3⟩
 have aI:(y.runs.length:Int)<8:=Bl;have aD:decide ((y.runs.length:Int)<8)=true:=decide_eq_true aI;have HD:=Bq (HD.out.trans (by rw [decide_eq_true a,Bool.true_and]));clear a;cases c:inB p.tasks 0 12;case false =>
  have H:=Bq (show D=false by rw [HD.out,c,Bool.false_and]);clear HD;refine Bz Bm Bm ?_;repeat (go_big_quiet_step ((first | (go_at_call 56;exact Ds (fun u=>Co _ _ _ u.1)) | (go_at_call 138;rename_i x;have h1:=CS.out x.1 (Bu B0 x.2);exact Fg h1))))
  refine Ak ?_;rintro _ ⟨⟨w3,b3⟩,rfl⟩;clear aQ;go_wp2;go_ret;exact ⟨Bw H.out.symm,Bu B0 b3⟩
 have cc:=Cw.1 c;have HD:=Bq (HD.out.trans (by rw [c,Bool.true_and]));have wr1:U.wrap ((sn:Int)+p.tasks)=(sn:Int)+p.tasks:=Aq _ Bl;have wr2:U.wrap (999999000 - p.tasks)=999999000 - p.tasks:=Aq _ Bl;cases d:decide ((sn:Int)+p.tasks<=40);case false =>
  have H:=Bq (show D=false by rw [HD.out,d,Bool.false_and]);clear HD cc;refine Bz Bm Bm ?_;repeat (go_big_quiet_step ((first | (go_at_call 56;exact Ds (fun u=>Co _ _ _ u.1)) | (go_at_call 138;rename_i x;have h1:=CS.out x.1 (Bu B0 x.2);exact Fg h1))))
  refine Ak ?_;rintro _ ⟨⟨w3,b3⟩,rfl⟩;clear aQ;go_wp2;go_ret;exact ⟨Bw H.out.symm,Bu B0 b3⟩
 have H:=Bq (show D=decide (y.seq<=999999000 - p.tasks) by rw [HD.out,d,Bool.true_and]);clear HD cc;cases e:decide (y.seq<=999999000 - p.tasks);all_goals
  rw [e] at H;refine Bz Bm Bm ?_;repeat (go_big_quiet_step ((first | (go_at_call 56;exact Ds (fun u=>Co _ _ _ u.1)) | (go_at_call 138;rename_i x;have h1:=CS.out x.1 (Bu B0 x.2);exact Fg h1))))
  refine Ak ?_;rintro _ ⟨⟨w3,b3⟩,rfl⟩;clear aQ;go_wp2;go_ret;exact ⟨Bw H.out.symm,Bu B0 b3⟩
theorem Vp (es:List (Nat×Nat)) (T t:Nat):∀ x∈Fq es T t,x<T:=by
 induction T with
 | zero =>
  intro x hx
  have:=Mc es 0 t
  have h0:Fq es 0 t=[]:=List.eq_nil_of_length_eq_zero Bl;rw [h0] at hx;cases hx
 | succ T ih =>
  intro x hx;rw [Qo] at hx;rcases Bi.1 hx with h | h
  ·have:=ih x h;omega
  ·unfold Iy at h;split at h
   ·simp at h;omega
   ·cases h
def Agc (r:Run) (u:Nat) (L:List Nat):List Task:=L.foldl (fun l b=>Hn l b Dr) (Hn r.tasks u fun x=>⟨4,x.need,x.try_,0⟩)
theorem Ll (r:Run) (u:Nat):∀ (L:List Nat) (l:List Task),(L.foldl (fun l b=>Hn l b Dr) l).length=l.length
 | [],l=>rfl
 | b :: L,l=>by rw [List.foldl_cons,Ll r u L,Of]
theorem Rq (L:List Nat):∀ (l:List Task) (m:Int),(∀ x∈l,-m<=x.need/\x.need<=1000/\1<=x.state/\x.state<=6)->(0<=m) -> ∀ x∈L.foldl (fun l b=>Hn l b Dr) l,-(m+L.length)<=x.need/\x.need<=1000/\1<=x.state/\x.state<=6:=by
 induction L with
 | nil=>intro l m h _ x hx;have:=h x hx;simp;exact this
 | cons b L ih =>
  intro l m h hm x hx;rw [List.foldl_cons] at hx;have h1:∀ x∈Hn l b Dr,-(m+1)<=x.need/\x.need<=1000/\1<=x.state/\x.state<=6:=by
   intro x hx;unfold Hn at hx;rcases List.mem_or_eq_of_mem_set hx with h2 | h2
   ·have:=h x h2;omega
   ·subst h2;by_cases hb:b<l.length
    ·rw [List.getD_eq_getElem?_getD,List.getElem?_eq_getElem hb]
     have:=h _ (Aw hb)
     simp only [Option.getD_some,Dr];split<;>omega
    ·rw [List.set_eq_of_length_le Bl] at hx
     have:=h _ hx
     omega
  have:=ih _ (m+1) h1 Bl x hx
  rw [List.length_cons];omega
section
theorem Agd {l:List Entry} {e x:Entry} (h:x∈Jd l e):x∈l\/x=e:=by
 unfold Jd at h;rcases Bi.1 h with h | h
 ·exact .inl ((List.takeWhile_prefix _).sublist.subset h)
 ·rcases List.mem_cons.1 h with h | h
  ·exact .inr h
  ·exact .inl ((List.dropWhile_suffix _).sublist.subset h)
theorem Vq (b:List Entry):∀ (a:List Entry) {x:Entry},x∈b.foldl Jd a->x∈a\/x∈b:=by
 induction b with
 | nil=>intro a x h;exact .inl h
 | cons e b ih =>
  intro a x h;rw [List.foldl_cons] at h;rcases ih _ h with h | h
  ·rcases Agd h with h | h
   ·exact .inl h
   ·exact .inr (by rw [h];exact List.mem_cons_self ..)
  ·exact .inr (List.mem_cons_of_mem _ h)
theorem Abs {a b:List Entry} {x:Entry} (h:x∈Gq a b):x∈a\/x∈b:=by
 unfold Gq at h;split at h
 ·exact .inl h
 ·exact Vq b a h
theorem Np {y z:Yard} (h:z.runs=y.runs) (id:Int):Dk z id=Dk y id:=by unfold Dk;rw [h]
theorem Og {y z:Yard} (h:z.runs=y.runs) (e:Entry):E0 z e=E0 y e:=by
 unfold E0;apply Af1;have hk:Kh z e.run=Kh y e.run:=by unfold Kh;rw [h,Np h]
 unfold Uw;rw [hk,Np h]
theorem Gu {y:Yard} {i:Nat} (h:i<y.shelf.length):y.shelf.getD i []=y.shelf[i]:=by
 rw [List.getD_eq_getElem?_getD,List.getElem?_eq_getElem h];rfl
structure Pol (y:Yard) (home:Nat) (z:Yard):Prop where
 now:z.now=y.now
 seq:z.seq=y.seq
 runs:z.runs=y.runs
 four:z.shelf.length=4
 all:∀ s∈z.shelf,s.length<=80
 fresh:∀ e∈z.shelf.getD home [],E0 y e=true
theorem M6 (y:Yard) (i:Nat):(Cb y i).shelf.length=y.shelf.length:=by unfold Cb;simp
theorem Oz {y:Yard} {i M:Nat} (h:∀ s∈y.shelf,s.length<=M):∀ s∈(Cb y i).shelf,s.length<=M:=by
 intro s hs;unfold Cb at hs;rcases List.mem_or_eq_of_mem_set hs with h1 | h1
 ·exact h s h1
 ·subst h1;refine Ah (List.length_filter_le _ _) ?_;rw [List.getD_eq_getElem?_getD];cases q:y.shelf[i]? with
  | none=>simp
  | some s=>exact h s (List.mem_of_getElem? q)
theorem Abt {y:Yard} {i:Nat} (h:i<y.shelf.length):(Cb y i).shelf.getD i []=(y.shelf[i]).filter fun e=>E0 y e:=by
 rw [Gu (by rw [M6];exact h)];unfold Cb;simp only [List.getElem_set_self];rw [Gu h]
theorem Rr {y:Yard} {i j:Nat} (h:i≠j):(Cb y i).shelf.getD j []=y.shelf.getD j []:=by
 unfold Cb;simp only [List.getD_eq_getElem?_getD,List.getElem?_set_ne h]
theorem Pol.start {y:Yard} (h:Dh y) {home:Nat} (hh:home<4):Pol y home (Cb y home):=by
 have h4:=h.2.2.1;refine ⟨rfl,rfl,rfl,by rw [M6];exact h4,Oz (fun s hs=>(h.2.2.2.1 s hs).1),fun e he=>?_⟩;rw [Abt Bl] at he;exact (List.mem_filter.1 he).2
theorem Mo (l:List Entry) (h:l.length<=80):(l.take (Dd l)).length<=80:=by rw [Az];omega
noncomputable def Ks (home:Nat) (y:Yard) (v:Nat):Yard :=
 ⟨y.now,y.seq,((Cb y v).shelf.set v (((Cb y v).shelf.getD v []).drop (Dd ((Cb y v).shelf.getD v [])))).set home (Gq [] (((Cb y v).shelf.getD v []).take (Dd ((Cb y v).shelf.getD v [])))),y.runs⟩
theorem Abu {home:Nat} {y:Yard} {v:Nat} (h:¬ (y.shelf.getD home []).length=0):Es home y v=y:=by unfold Es;rw [if_neg h]
theorem M7 {home:Nat} {y:Yard} {v:Nat} (h:(y.shelf.getD home []).length=0) (hv:v≠home):Es home y v=Ks home y v:=by
 unfold Es;rw [if_pos h];unfold Ks;have e:((Cb y v).shelf.set v (((Cb y v).shelf.getD v []).drop (Dd ((Cb y v).shelf.getD v [])))).getD home []=[]:=by
  rw [List.getD_eq_getElem?_getD,List.getElem?_set_ne hv,<-List.getD_eq_getElem?_getD,Rr hv];exact List.eq_nil_of_length_eq_zero h
 simp only [e];rfl
theorem Zf {home:Nat} {y:Yard} {v:Nat} (h4:y.shelf.length=4) (hh:home<4):(Ks home y v).shelf.getD home []=Gq [] (((Cb y v).shelf.getD v []).take (Dd ((Cb y v).shelf.getD v []))):=by
 rw [Gu (by unfold Ks;simp [Cb];omega)];unfold Ks;simp only [List.getElem_set_self]
theorem Pol.step {y z:Yard} {home v:Nat} (h:Pol y home z) (hh:home<4) (hv:v<4) (aC:v≠home):Pol y home (Es home z v):=by
 by_cases q:(z.shelf.getD home []).length=0
 ·rw [M7 q aC];have kH:∀ e∈(Cb z v).shelf.getD v [],E0 y e=true:=by
   intro e he;rw [Abt (by rw [h.four];exact hv)] at he;rw [<-Og h.runs];exact (List.mem_filter.1 he).2
  have sZ:=Oz (i:=v) h.all;have hlv:((Cb z v).shelf.getD v []).length<=80:=by
   rw [Gu (by rw [M6,h.four];exact hv)];exact sZ _ (Aw _)
  refine ⟨h.now,h.seq,h.runs,by unfold Ks;simp [Cb];exact h.four,fun s hs=>?_,fun e he=>?_⟩
  ·unfold Ks at hs;rcases List.mem_or_eq_of_mem_set hs with h1 | h1
   ·rcases List.mem_or_eq_of_mem_set h1 with h2 | h2
    ·exact sZ s h2
    ·subst h2;rw [List.length_drop];omega
   ·subst h1;refine Ah (Aa8 _ _) ?_
    have:=Mo _ hlv
    simp only [List.length_nil,Nat.zero_add];exact this
  ·rw [Zf h.four hh] at he;rcases Abs he with h1 | h1
   ·cases h1
   ·exact kH e (List.mem_of_mem_take h1)
 ·rw [Abu q];exact h
theorem Pol.cnt {y z:Yard} {home:Nat} (h:Pol y home z) (hy:Dh y):Ca z<=2000000:=by
 have:=Oy h.four h.all (by rw [h.runs];exact hy.2.2.2.2.2.2.1) (fun k hk=>by
  have bF:k<y.runs.length:=by rw [<-h.runs];exact hk
  have e:z.runs[k]=y.runs[k]:=by simp only [h.runs]
  rw [e];exact Eo hy bF)
 omega
theorem Qd {home draw:Int} : ∀ v∈Er home draw,v<4:=by
 intro v hv;unfold Er at hv;obtain ⟨i,_,rfl⟩:=List.mem_map.1 hv;exact Nat.mod_lt _ Bp
theorem Qe {home draw:Int} (h0:0<=home) (h:home<4):∀ v∈Er home draw,v≠home.toNat:=by
 intro v hv;unfold Er at hv;obtain ⟨i,_,rfl⟩:=List.mem_map.1 hv
 have:=Nat.mod_lt ((max draw 0 % 3).toNat+i) (show 0<3 by decide)
 omega
theorem Sj (home draw:Int):(Er home draw).length=3:=by unfold Er;simp
noncomputable def Lz (y:Yard) (home draw:Int):Yard:=(Er home draw).foldl (Es home.toNat) (Cb y home.toNat)
theorem Pol.fold {y:Yard} {home:Nat} (hh:home<4):∀ (l:List Nat) (z:Yard),Pol y home z->(∀ v∈l,v<4/\v≠home)->Pol y home (l.foldl (Es home) z)
 | [],_,h,_=>h
 | v :: l,z,h,hl=>Pol.fold hh l _ (h.step hh (hl v (List.mem_cons_self ..)).1 (hl v (List.mem_cons_self ..)).2) (fun x hx=>hl x (List.mem_cons_of_mem _ hx))
theorem Mp {home:Nat} : ∀ (l:List Nat) (z:Yard),¬ (z.shelf.getD home []).length=0->l.foldl (Es home) z=z
 | [],_,_=>rfl
 | v :: l,z,h=>by rw [List.foldl_cons,Abu h];exact Mp l z h
noncomputable def Sk (z:Yard) (home:Nat):List Entry->Yard×Reply
 | []=>(z,⟨9,0,0,0⟩)
 | e :: rest=>(⟨z.now,z.seq,z.shelf.set home rest,z.runs.set (Dk z e.run).toNat (Ee (Kh z e.run) e.task.toNat z.now)⟩,⟨0,e.run,e.task,(Cv (Kh z e.run) e.task.toNat).try_+1⟩)
noncomputable def N1 (z:Yard) (home:Nat):Yard×Reply:=Sk z home (z.shelf.getD home [])
open Classical in
noncomputable def I5 (y:Yard) (worker draw:Int):Yard×Reply :=
 if ¬ Dh y then (y,⟨8,0,0,0⟩) else if inB worker 0 99=false then (y,⟨5,0,0,0⟩) else N1 (Lz y (worker % 4) draw) (worker % 4).toNat
end
theorem Abv {α:Type} {l:List α} {k:Nat} (h:k<l.length) {x:α} (hx:l[k]=x):l.set k x=l:=by subst hx;exact List.set_getElem_self h
def Xx (l:List Task) (b o c n:Nat) (w:World) (e:Ending) (w':World):Prop :=
 e = .returned (.tuple #[])/\Hw Fj w' [b] (Aa (Ac ⟨b,o,Ab⟩) n c) l/\Chg [b] w w'
theorem Pt (gr off b o c:Nat) (l:List Task) (but:Int) (w:World) (h7:w.cell? ⟨gr,off+7,Ab⟩=Ac (Aa (Ac ⟨b,o,Ab⟩) l.length c)) (qB:gr<w) (aC:gr≠b) (hl:l.length<=1000) (hp:0<l.length)
  (hw:Hw Fj w [b] (Aa (Ac ⟨b,o,Ab⟩) l.length c) l) (eX:∀ k (h:k<l.length),l[k].state=5 ↔ (k:Int)=but) :
  Calls Am 255 #[.pointer (Ac ⟨gr,off,Ab⟩),J U but] w (Xx (l.map Dq) b o c l.length w):=by
 have aL:=(hw.block hp).2.1;have H5:=Bq eX;clear eX;go_enter func255,ntmps255;go_wp2;go_loopw [4,11] (fun v i wr=>∃ k:Nat,k<=l.length/\i = J U k/\Hid (Hw Fj wr [b] (Aa (Ac ⟨b,o,Ab⟩) l.length c) ((l.take k).map Dq ++ l.drop k))/\Chg [b] w wr) (fun _ i _=>l.length - (intOf i).toNat);case atStart=>exact ⟨0,Ag _,rfl,by simpa using Bq hw,Chg.refl _ _⟩
 case round =>
  obtain ⟨k,hk,rfl,hO,hC⟩:=hrel;have g7:wr.cell? ⟨gr,off+7,Ab⟩=Ac (Aa (Ac ⟨b,o,Ab⟩) l.length c):=(hC.cell (p:=⟨gr,off+7,Ab⟩) qB (by simpa using aC)).trans h7;have fX:gr<wr:=Ai qB hC.size;by_cases aA:k<l.length;case neg =>
   have aB:¬ (k:Int)<(l.length:Int):=Bl;have HO:=hO.out;rw [Bg Bl,List.drop_eq_nil_of_le Bl,List.append_nil] at HO;have HF:=Bq (show Xx (l.map Dq) b o c l.length w (.returned (.tuple #[])) wr from ⟨rfl,HO,hC⟩);clear HO hO;go_wp2;exact Aj (v:=.tuple #[]) (by simp [results,results255,go_sem]) rfl HF.out
  have aB:(k:Int)<(l.length:Int):=Bl;have cL:(0:Int)<=(k:Int):=Bl;have jM:k<((l.take k).map Dq ++ l.drop k).length:=by simp;omega
  have tD:((l.take k).map Dq ++ l.drop k)[k]=l[k]:=by
   rw [List.getElem_append_right (by simp;omega)];simp [Az,Nat.min_eq_left (Nat.le_of_lt aA)]
  obtain ⟨_,_,hA,aK,d0,d1,d2,d3⟩:=hO.out.rd.tsk jM;simp only [Option.some.injEq,Addr.mk.injEq,and_true] at hA;obtain ⟨rfl,rfl⟩:=hA;rw [tD] at d0 d1 d2 d3;have eB:=Bq (Nn aA Dq);have h5:=H5.out k aA;have jL:=(hO.out.block Bl).2.2;by_cases qT:(k:Int)=but
  ·subst qT;have hx:Dq l[k]=l[k]:=by unfold Dq;rw [if_neg (by have:=h5.2 rfl;omega)]
   have HN:=Bq (show Hw Fj wr [b] (Aa (Ac ⟨b,o,Ab⟩) l.length c) ((l.take (k+1)).map Dq ++ l.drop (k+1)) from by
    rw [<-eB.out,hx];rw [Abv jM tD];exact hO.out)
   clear hx h5;go_wp2;exact ⟨⟨k+1,Bl,by go_num,HN,hC⟩,by simp [intOf];omega⟩
  have hbq:((k:Int) != but)=true:=by simp [qT]
  by_cases h4:l[k].state=4
  ·have hx:Dq l[k]=l[k]:=by unfold Dq;rw [if_neg Bl]
   have HN:=Bq (show Hw Fj wr [b] (Aa (Ac ⟨b,o,Ab⟩) l.length c) ((l.take (k+1)).map Dq ++ l.drop (k+1)) from by
    rw [<-eB.out,hx];rw [Abv jM tD];exact hO.out)
   rw [h4] at d0;clear hx h5 h4;go_wp2;exact ⟨⟨k+1,Bl,by go_num,HN,hC⟩,by simp [intOf];omega⟩
  have hq4:(l[k].state != 4)=true:=by simp [h4]
  have hx:Dq l[k]=⟨6,l[k].need,l[k].try_,0⟩:=by unfold Dq;rw [if_pos ⟨h4,fun h=>qT (h5.1 h)⟩]
  have h1:=hO.out.taskState jM 6;have h2:=h1.taskUntil (j:=k) (by rw [Bh];exact jM) 0;simp only [List.getElem_set_self,List.set_set,tD] at h2;have jI:Chg [b] w ((wr.setCell ⟨b,o+k * 4,Ab⟩ (J U 6)).setCell ⟨b,o+k * 4+3,Ab⟩ (J U 0)):=(hC.trans (Chg.setCell wr b _ _)).trans (Chg.setCell _ b _ _);have HN:=Bq (show Hw Fj ((wr.setCell ⟨b,o+k * 4,Ab⟩ (J U 6)).setCell ⟨b,o+k * 4+3,Ab⟩ (J U 0)) [b] (Aa (Ac ⟨b,o,Ab⟩) l.length c) ((l.take (k+1)).map Dq ++ l.drop (k+1)) from by
   rw [<-eB.out,hx];exact h2)
  clear hx h5 h4 h1 h2 qT;go_wp2;exact ⟨⟨k+1,Bl,by go_num,HN,jI⟩,by simp [intOf];omega⟩
theorem Abw {b:Nat} {w:World} {u0 u1 u2 u3 u4 u5 u6 u7:Value} (X:DBox b [u0,u1,u2,u3,u4,u5,u6,u7] w) {v0 v1 v2 v3:Value} {rest:List Value} :
  (results Tryz.f213 (v0 :: v1 :: v2 :: v3 :: .pointer (Ac ⟨b,0,Ab⟩) :: rest).toArray).run Am w = .ok (.agg #[u0,u1,u2,u3,u4,u5,u6,u7]) w:=by
 have c0:=X.cell 0 _ rfl;have c1:=X.cell 1 _ rfl;have c2:=X.cell 2 _ rfl;have c3:=X.cell 3 _ rfl;have c4:=X.cell 4 _ rfl;have c5:=X.cell 5 _ rfl;have c6:=X.cell 6 _ rfl;have c7:=X.cell 7 _ rfl;simp [results,results213,go_sem,c0,c1,c2,c3,c4,c5,c6,c7]
theorem Hw.taskUn' {w:World} {F:List Nat} {b o n c:Nat} {l:List Task} {j:Nat} {y:Task} (h:Hw Fj w F (Aa (Ac ⟨b,o,Ab⟩) n c) (l.set j y)) (hj:j<l.length) (st:Int) :
  Hw Fj (w.setCell ⟨b,o+j * 4+3,Ab⟩ (J U st)) F (Aa (Ac ⟨b,o,Ab⟩) n c) (l.set j ⟨y.state,y.need,y.try_,st⟩):=by
 have:=h.taskUntil (j:=j) (by rw [Bh];exact hj) st
 rw [List.getElem_set_self,List.set_set] at this;exact this
theorem Zg (r:Run) (s:Sl×Sl) (u:Nat) (w:World) (hl:Cn r<=2000000) (hR:Is r u) (h:Ce.rd w w r s) :
  Calls Am 213 #[Gt r s,J U u] w (Df Ce Gt (Ji r u) w):=by
 have CP:=Bq (fun W (hW:Below w w W)=>Ih r s W hl (Ce.rd_more (Ce.rd_below h hW) hW.size));have CR:=Bq (fun W (hW:Below w w W)=>Qx r s u W hl (Ce.rd_more (Ce.rd_below h hW) hW.size));rw [Dp hR] at CR;have ht:u<r.tasks.length:=by have:=hR.2.1.2;omega
 have aF:r.tasks.length<=2000000:=Ah (Cj Dz _) (by unfold Cn at hl;omega);have dC:=Bq (Cu ht);obtain ⟨⟨A1,n1,c1⟩,⟨A2,n2,c2⟩⟩:=s;obtain rfl:n2=r.tasks.length:=RdL.at1 (s:=⟨A2,n2,c2⟩) h.2;obtain rfl:n1=r.plan.edges.length:=RdL.at1 (s:=⟨A1,n1,c1⟩) h.1;have tT:=Bq hR.1;have qX:=Bq (fun W (hW:Below w w W)=>(Ir h.1).below hW);clear h hl hR;have jR:(u:Int)<(r.tasks.length:Int):=Bl;have gM:(0:Int)<=(u:Int):=Bl;have X:=(DBox.new 167 [J U r.id,J U r.plan.prio,J U r.plan.most,J U r.plan.wait,J U r.plan.tasks,Aa A1 r.plan.edges.length c1,J U r.state,Aa A2 r.tasks.length c2] w (b:=w) rfl).below ((Br _ _).alloc (Bs _) (.cells #[J U 0,J U 0,J U 0,J U 0,J U 0,Aa Ab 0 0,J U 0,Aa Ab 0 0] 167));have RES:=DBox.new 167 [J U 0,J U 0,J U 0,J U 0,J U 0,Aa Ab 0 0,J U 0,Aa Ab 0 0] (w.alloc (.cells #[J U r.id,J U r.plan.prio,J U r.plan.most,J U r.plan.wait,J U r.plan.tasks,Aa A1 r.plan.edges.length c1,J U r.state,Aa A2 r.tasks.length c2] 167)) (b:=w+1) Bn;have B0:Below w w ((w.alloc (.cells #[J U r.id,J U r.plan.prio,J U r.plan.most,J U r.plan.wait,J U r.plan.tasks,Aa A1 r.plan.edges.length c1,J U r.state,Aa A2 r.tasks.length c2] 167)).alloc (.cells #[J U 0,J U 0,J U 0,J U 0,J U 0,Aa Ab 0 0,J U 0,Aa Ab 0 0] 167)):=by repeat (first | exact Br _ _ | refine Below.alloc ?_ Bo _)
 go_enter func213,ntmps213;go_wp2_with fail
 refine (CP.out _ B0).mono ?_;rintro e w1 ⟨⟨⟨A3,n3,c3⟩,⟨A4,n4,c4⟩⟩,F,rfl,o1,nF,b1⟩;obtain ⟨F1,F2,rfl,bT,op,ot⟩:=o1;replace ot:OwL C7 w1 F2 (Aa A4 n4 c4) r.tasks:=ot;have bV:=Bq (Cd.ow_lt op);obtain rfl:n4=r.tasks.length:=RdL.at1 (s:=⟨A4,n4,c4⟩) ot.rd;have oh:=Nm ot;clear ot CP;obtain ⟨b,o,rfl,aK,d0,d1,d2,d3⟩:=oh.rd.tsk ht;clear d0 d1 d2 d3;have hBw:=B0.size;obtain ⟨rfl,bW,pV⟩:=oh.block Bl;have gK:=nF b Bn;have mX:=X.lt;have dP:=RES.lt;replace B0:=Bu B0 b1;replace X:=X.below b1;replace RES:=RES.below b1;clear b1;go_upto_region 2 with fail
 have OB:=DBox.new 167 [J U r.id,J U r.plan.prio,J U r.plan.most,J U r.plan.wait,J U r.plan.tasks,Aa A3 n3 c3,J U r.state,Aa (Ac ⟨b,o,Ab⟩) r.tasks.length c4] w1 (b:=w1) rfl;have b2:Below w1 w1 (w1.alloc (.cells #[J U r.id,J U r.plan.prio,J U r.plan.most,J U r.plan.wait,J U r.plan.tasks,Aa A3 n3 c3,J U r.state,Aa (Ac ⟨b,o,Ab⟩) r.tasks.length c4] 167)):=Bt;have B2:=Bu B0 b2;replace X:=X.below b2;replace RES:=RES.below b2;replace oh:=oh.below b2;have op2:=Cd.ow_below op b2;have eV:=b2.size;have ow1:=OB.lt;clear op;generalize w1.alloc (.cells #[J U r.id,J U r.plan.prio,J U r.plan.most,J U r.plan.wait,J U r.plan.tasks,Aa A3 n3 c3,J U r.state,Aa (Ac ⟨b,o,Ab⟩) r.tasks.length c4] 167)=w2 at *
 have X_:=X.g8;go_wp2_with fail
 refine (CR.out _ B2).mono ?_;rintro e w3 ⟨rfl,b3⟩;have B3:=Bu B2 b3;clear X_;replace X:=X.below b3;replace RES:=RES.below b3;replace OB:=OB.below b3;replace oh:=oh.below b3;have op3:=Cd.ow_below op2 b3;have kI:=b3.size;clear op2 CR b3;have X_:=X.g8;have OB_:=OB.g8;obtain ⟨b',o',cC,bI,d0,d1,d2,d3⟩:=oh.rd.tsk ht;simp only [Option.some.injEq,Addr.mk.injEq,and_true] at cC;obtain ⟨rfl,rfl⟩:=cC;have jL:=(oh.block Bl).2.2;have fA:b∉F1:=fun hx=>(Ax.1 bT).2.2 b hx b Bn rfl;go_upto_region 6 with fail
 have oh4:Hw Fj ((w3.setCell ⟨b,o+u * 4,Ab⟩ (J U 4)).setCell ⟨b,o+u * 4+3,Ab⟩ (J U 0)) [b] (Aa (Ac ⟨b,o,Ab⟩) r.tasks.length c4) (r.tasks.set u ⟨4,r.tasks[u].need,r.tasks[u].try_,0⟩):=(oh.taskState ht 4).taskUn' ht 0;have hC:Chg [b] w3 ((w3.setCell ⟨b,o+u * 4,Ab⟩ (J U 4)).setCell ⟨b,o+u * 4+3,Ab⟩ (J U 0)):=(Chg.setCell w3 b _ _).trans (Chg.setCell _ b _ _);have op4:=Cd.ow_chg op3 hC (fun x hx h=>by simp only [Au] at h;subst h;exact fA hx);have B4:Below w w ((w3.setCell ⟨b,o+u * 4,Ab⟩ (J U 4)).setCell ⟨b,o+u * 4+3,Ab⟩ (J U 0)):=by
  repeat (first | (with_reducible exact B3) | refine Ad ?_ Bo _)
 clear OB_;clear X_;clear d0 d1 d2 d3 bI jL;replace OB:=OB.chg hC (by simp only [Au];omega);replace X:=X.chg hC (by simp only [Au];omega);replace RES:=RES.chg hC (by simp only [Au];omega);have mR:=hC.size;clear hC oh op3;generalize ((w3.setCell ⟨b,o+u * 4,Ab⟩ (J U 4)).setCell ⟨b,o+u * 4+3,Ab⟩ (J U 0))=w4 at *
 have X_:=X.g8;have dG:=Dj.1 tT.out.2.1;have CB:=Bq (Ui r.plan (Aa A1 r.plan.edges.length c1) u w4 dG.1 dG.2.1 dG.2.2.1 ((qX.out w4 B4).more B4.size));have hBL:=Bq (Vp (D4 r.plan) r.plan.tasks.toNat u);have gI:=Bq (Mc (D4 r.plan) r.plan.tasks.toNat u);have hD0:Hid (Ji r u=⟨r.id,r.plan,stL (Agc r u (Fq (D4 r.plan) r.plan.tasks.toNat u)),Agc r u (Fq (D4 r.plan) r.plan.tasks.toNat u)⟩):=rfl;clear dG;generalize Fq (D4 r.plan) r.plan.tasks.toNat u=BL at *
 go_wp2_with fail
 refine CB.out.mono ?_;rintro e w5 ⟨vb,rfl,ob,b5⟩;obtain ⟨A9,c9,rfl,-⟩:=id (Rd.of_own ob);have B5:=Bu B4 b5;have pT:=b5.size;have oh5:=oh4.below b5;have op5:=Cd.ow_below op4 b5;clear X_;replace OB:=OB.below b5;replace RES:=RES.below b5;have bY:b<w4:=Bl;obtain ⟨cW,hobB⟩:=Hw.of_ow ob;have HB:=Bq (fun W (hW:Chg [b] w5 W)=>(cW.chg hW (fun x hx h=>by simp only [Au] at h;subst h;have:=hobB _ hx;omega)).rd);have dB:Hid (∀ g o,A9=Ac ⟨g,o,Ab⟩->0<BL.length->w4.heap.size<=g):=fun g o h hp=>hobB g (by
  subst h;unfold Ek;rw [if_neg Bl];exact Au.2 rfl)
 have tA:Hid (Hn r.tasks u (fun x=>⟨4,x.need,x.try_,0⟩)=r.tasks.set u ⟨4,r.tasks[u].need,r.tasks[u].try_,0⟩):=Qw ht _;have dK:∀ x∈r.tasks,0<=x.need/\x.need<=1000/\1<=x.state/\x.state<=6:=by
  intro x hx;obtain ⟨j,hj,rfl⟩:=List.getElem_of_mem hx;have h1:=tT.out.2.2.2.1 j hj;unfold Hk Od at h1;rw [Cu hj] at h1;have h2:=Oo r (D9 (D4 r.plan) r.plan.tasks.toNat j);have h3:=Iz (D4 r.plan) r.plan.tasks.toNat j;have h4:=(D7 tT.out).2;have h5:=tT.out.2.2.1;have h6:Iq r j<=12:=by unfold Iq;omega
  omega
 have hbnd:Hid (∀ x∈r.tasks.set u ⟨4,r.tasks[u].need,r.tasks[u].try_,0⟩,-0<=x.need/\x.need<=1000/\1<=x.state/\x.state<=6):=by
  intro x hx;rcases List.mem_or_eq_of_mem_set hx with h | h
  ·have:=dK x h;omega
  ·subst h
   have:=dK _ (Aw ht)
   refine ⟨?_,?_,?_,?_⟩<;>dsimp only<;>omega
 clear dK;have rH:=Bq (show r.plan.tasks.toNat=r.tasks.length by have:=tT.out.2.2.1;omega);generalize hL:r.tasks.set u ⟨4,r.tasks[u].need,r.tasks[u].try_,0⟩=L0 at *
 have nA:=Bq (show L0.length=r.tasks.length by rw [<-hL,Bh]);clear hL ob cW hobB X CB qX;go_wp2;generalize Gt r (⟨A1,r.plan.edges.length,c1⟩,⟨A2,r.tasks.length,c2⟩)=rv;go_loopw [7] (fun i wr=>∃ k:Nat,k<=BL.length/\i = J U k/\Hid (Hw Fj wr [b] (Aa (Ac ⟨b,o,Ab⟩) r.tasks.length c4) ((BL.take k).foldl (fun l b=>Hn l b Dr) L0))/\DBox w1 [J U r.id,J U r.plan.prio,J U r.plan.most,J U r.plan.wait,J U r.plan.tasks,Aa A3 n3 c3,J U r.state,Aa (Ac ⟨b,o,Ab⟩) r.tasks.length c4] wr/\DBox (w+1) [J U 0,J U 0,J U 0,J U 0,J U 0,Aa Ab 0 0,J U 0,Aa Ab 0 0] wr/\Chg [b] w5 wr) (fun i _=>BL.length - (intOf i).toNat);case atStart=>exact ⟨0,Ag _,rfl,oh5,OB,RES,Chg.refl _ _⟩
 case round =>
  clear OB RES oh5;obtain ⟨k,hk,rfl,hO,OB,RES,hb⟩:=hrel;by_cases aA:k<BL.length
  ·have aB:(k:Int)<(BL.length:Int):=Bl;have hx:=Bq (hBL.out _ (Aw aA));have uD:=Bq (show ((BL.take k).foldl (fun l b=>Hn l b Dr) L0).length=r.tasks.length by rw [Ll r u,nA.out]);have qT:=Bq (Rq (BL.take k) L0 0 hbnd.out (Int.le_refl 0));have aE:=Bq (show (BL.take (k+1)).foldl (fun l b=>Hn l b Dr) L0=Hn ((BL.take k).foldl (fun l b=>Hn l b Dr) L0) BL[k] Dr from Kq (fun l b=>Hn l b Dr) L0 BL k aA);have kU:(BL.take k).length<=r.tasks.length:=by have:=gI.out;have:=rH.out;rw [Az];omega
   obtain ⟨b9,o9,rfl,hb9,e0⟩:=(HB.out wr hb).nat aA;generalize BL[k]=x at *
   generalize (BL.take k).foldl (fun l b=>Hn l b Dr) L0=Lk at *
   have dW:x<Lk.length:=by have:=hx.out;have:=rH.out;have:=uD.out;omega
   have hxI:(x:Int)<(r.tasks.length:Int):=by have:=hx.out;have:=rH.out;omega
   have rW:(0:Int)<=(x:Int):=Bl;have hBs:BL.length<=2000000:=by have:=gI.out;have:=rH.out;omega
   have hb9w:=dB.out b9 o9 rfl Bl;have cL:(0:Int)<=(k:Int):=Bl;have hyb:=qT.out _ (Aw dW);have eJ:=Bq (aE.out.trans (Qw dW Dr));clear aE;have OB_:=OB.g8;have RES_:=RES.g8;obtain ⟨b',o',cC,bI,d0,d1,d2,d3⟩:=hO.out.rd.tsk dW;simp only [Option.some.injEq,Addr.mk.injEq,and_true] at cC;obtain ⟨rfl,rfl⟩:=cC;generalize Lk[x]=tx at *
   go_wp2;have tL:b9<wr:=by have:=hb.size;omega
   have rP:b<wr:=by have:=hb.size;omega
   have hSS:=Bq (show ∀ W',Below wr wr W'->(fun w'=>DBox w1 [J U r.id,J U r.plan.prio,J U r.plan.most,J U r.plan.wait,J U r.plan.tasks,Aa A3 n3 c3,J U r.state,Aa (Ac ⟨b,o,Ab⟩) r.tasks.length c4] w'/\w'.cell? ⟨b9,o9+k,Ab⟩=Ac (J U (x:Int))/\w'.cell? ⟨b,o+x * 4,Ab⟩=Ac (J U tx.state)/\w'.cell? ⟨b,o+x * 4+1,Ab⟩=Ac (J U tx.need)/\w'.cell? ⟨b,o+x * 4+2,Ab⟩=Ac (J U tx.try_)/\w'.cell? ⟨b,o+x * 4+3,Ab⟩=Ac (J U tx.until_)) W' from fun W' kX=>⟨OB.below kX,(kX.cell (p:=⟨b9,_,Ab⟩) tL).trans e0,(kX.cell (p:=⟨b,_,Ab⟩) rP).trans d0,(kX.cell (p:=⟨b,_,Ab⟩) rP).trans d1,(kX.cell (p:=⟨b,_,Ab⟩) rP).trans d2,(kX.cell (p:=⟨b,_,Ab⟩) rP).trans d3⟩);refine Go.wp_region_noPanic ?_;refine wp_region_held_drew (S:=(fun w'=>DBox w1 [J U r.id,J U r.plan.prio,J U r.plan.most,J U r.plan.wait,J U r.plan.tasks,Aa A3 n3 c3,J U r.state,Aa (Ac ⟨b,o,Ab⟩) r.tasks.length c4] w'/\w'.cell? ⟨b9,o9+k,Ab⟩=Ac (J U (x:Int))/\w'.cell? ⟨b,o+x * 4,Ab⟩=Ac (J U tx.state)/\w'.cell? ⟨b,o+x * 4+1,Ab⟩=Ac (J U tx.need)/\w'.cell? ⟨b,o+x * 4+2,Ab⟩=Ac (J U tx.try_)/\w'.cell? ⟨b,o+x * 4+3,Ab⟩=Ac (J U tx.until_))) Bm (hSS.out _ (Br _ _).drew) (fun hHeld=>?_);refine tV 0 ?_
   (try simp only [pS])
   refine tV 1 ?_
   (try simp only [pS])
   refine tV 2 ?_
   (try simp only [pS])
   refine tV 3 ?_
   (try simp only [pS])
   refine tV 4 ?_
   (try simp only [pS])
   refine tV 5 ?_
   (try simp only [pS])
   refine tV 6 ?_
   (try simp only [pS])
   refine tV 7 ?_
   (try simp only [pS])
   refine rC 8 (fun K_ hK=>?_);go_simp;have bA:Below wr wr ((wr.alloc (.cells #[J U 0,J U 0,J U 0,J U 0] 217)).drew):=(Bt).drew;have XB:=DBox.drew4 (DBox.new 217 [J U 0,J U 0,J U 0,J U 0] wr (b:=wr) rfl);generalize (wr.alloc (.cells #[J U 0,J U 0,J U 0,J U 0] 217)).drew=W1 at *
   refine hK.out _ _ (hSS.out _ bA) (fun hHeld=>?_);clear hK K_
   (try simp only [pS])
   have y0:=XB.cell 0 _ rfl;have y1:=XB.cell 1 _ rfl;have y2:=XB.cell 2 _ rfl;have y3:=XB.cell 3 _ rfl;have yf:=XB.free;have yl:=XB.lt;refine rC 9 (fun K_ hK=>?_);go_simp;have bB:Below wr wr ((((W1.setCell ⟨wr,0,Ab⟩ (J U tx.state)).setCell ⟨wr,1,Ab⟩ (J U tx.need)).setCell ⟨wr,2,Ab⟩ (J U tx.try_)).setCell ⟨wr,3,Ab⟩ (J U tx.until_)):=by
    repeat (first | (with_reducible exact bA) | refine Ad ?_ Bo _)
   have XB2:=DBox.row4 XB rfl (J U tx.state) (J U tx.need) (J U tx.try_) (J U tx.until_);generalize ((((W1.setCell ⟨wr,0,Ab⟩ (J U tx.state)).setCell ⟨wr,1,Ab⟩ (J U tx.need)).setCell ⟨wr,2,Ab⟩ (J U tx.try_)).setCell ⟨wr,3,Ab⟩ (J U tx.until_))=W2 at *
   clear y0 y1 y2 y3 yf yl XB;refine hK.out _ _ (hSS.out _ bB) (fun hHeld=>?_);clear hK K_
   (try simp only [pS])
   refine Al Bm ?_ _;refine NoPanic.normal ?_;clear hHeld;have OB2:=OB.below bB;have RES2:=RES.below bB;have hO2:=hO.out.below bB;have e2:=(bB.cell (p:=⟨b9,o9+k,Ab⟩) tL).trans e0;have aG:=hb.trans (Chg.of_below [b] bB);have hs22:=bB.size;have hsr:=hb.size;clear d0 d1 d2 d3;clear OB_;clear RES_;have y0:=XB2.cell 0 _ rfl;have y1:=XB2.cell 1 _ rfl;have y2:=XB2.cell 2 _ rfl;have y3:=XB2.cell 3 _ rfl;have yf:=XB2.free;have yl:=XB2.lt;have vA:wr≠b:=Bl;by_cases q:tx.need - 1=0
   ·have q2:(tx.need - 1 == 0)=true:=by simp [q]
    have cS:=Bq (show Dr tx=⟨2,tx.need - 1,tx.try_,tx.until_⟩ by unfold Dr;rw [if_pos q]);clear q;go_wp2;have bC:Below wr wr ((W2.setCell ⟨wr,1,Ab⟩ (J U (tx.need - 1))).setCell ⟨wr,0,Ab⟩ (J U 2)):=by
     repeat (first | (with_reducible exact bB) | refine Ad ?_ Bo _)
    have XB3:DBox wr [J U 2,J U (tx.need - 1),J U tx.try_,J U tx.until_] ((W2.setCell ⟨wr,1,Ab⟩ (J U (tx.need - 1))).setCell ⟨wr,0,Ab⟩ (J U 2)):=((XB2.set 1 Bn (J U (tx.need - 1))).set 0 Bn (J U 2))
    have OB3:=OB.below bC;have RES3:=RES.below bC;have fW:=hO.out.below bC;have e3:=(bC.cell (p:=⟨b9,o9+k,Ab⟩) tL).trans e0;have cD:=hb.trans (Chg.of_below [b] bC);have nL:=bC.size;clear y0 y1 y2 y3 yf yl XB2 OB2 RES2 hO2 e2 aG;generalize ((W2.setCell ⟨wr,1,Ab⟩ (J U (tx.need - 1))).setCell ⟨wr,0,Ab⟩ (J U 2))=W3 at *
    refine Go.wp_region_noPanic ?_;refine wp_region_held_drew (S:=(fun w'=>DBox w1 [J U r.id,J U r.plan.prio,J U r.plan.most,J U r.plan.wait,J U r.plan.tasks,Aa A3 n3 c3,J U r.state,Aa (Ac ⟨b,o,Ab⟩) r.tasks.length c4] w'/\w'.cell? ⟨b9,o9+k,Ab⟩=Ac (J U (x:Int))/\DBox wr [J U 2,J U (tx.need - 1),J U tx.try_,J U tx.until_] w')) Bm ⟨DBox.drew4 OB3,e3,DBox.drew4 XB3⟩ (fun hHeld=>?_);have bD:Below W3 W3 W3.drew:=(Br _ _).drew;replace OB3:=OB3.below bD;replace RES3:=RES3.below bD;replace XB3:=XB3.below bD;replace fW:=fW.below bD;replace cD:=cD.drew;replace nL:=Ah nL bD.size;clear bD;generalize W3.drew=W4 at *
    refine tV 0 ?_
    (try simp only [pS])
    refine tV 1 ?_
    (try simp only [pS])
    refine tV 2 ?_
    (try simp only [pS])
    refine tV 3 ?_
    (try simp only [pS])
    refine tV 4 ?_
    (try simp only [pS])
    refine tV 5 ?_
    (try simp only [pS])
    refine tV 6 ?_
    (try simp only [pS])
    refine tV 7 ?_
    (try simp only [pS])
    obtain ⟨b',o',cC,bI,d0,d1,d2,d3⟩:=fW.rd.tsk dW;simp only [Option.some.injEq,Addr.mk.injEq,and_true] at cC;obtain ⟨rfl,rfl⟩:=cC;have jL:=(fW.block Bl).2.2;have hO5:Hw Fj ((((W4.setCell ⟨b,o+x * 4,Ab⟩ (J U 2)).setCell ⟨b,o+x * 4+1,Ab⟩ (J U (tx.need - 1))).setCell ⟨b,o+x * 4+2,Ab⟩ (J U tx.try_)).setCell ⟨b,o+x * 4+3,Ab⟩ (J U tx.until_)) [b] (Aa (Ac ⟨b,o,Ab⟩) r.tasks.length c4) _:=fW.task4 dW ⟨2,tx.need - 1,tx.try_,tx.until_⟩;have cN:Chg [b] W4 ((((W4.setCell ⟨b,o+x * 4,Ab⟩ (J U 2)).setCell ⟨b,o+x * 4+1,Ab⟩ (J U (tx.need - 1))).setCell ⟨b,o+x * 4+2,Ab⟩ (J U tx.try_)).setCell ⟨b,o+x * 4+3,Ab⟩ (J U tx.until_)):=(((Chg.setCell W4 b _ _).trans (Chg.setCell _ b _ _)).trans (Chg.setCell _ b _ _)).trans (Chg.setCell _ b _ _);refine rC 8 (fun K_ hK=>?_);go_simp;clear d0 d1 d2 d3 jL bI;have cW:w1.heap.size∉[b]:=by simp only [Au];omega
    have uT:w.heap.size+1∉[b]:=by simp only [Au];omega
    have fG:wr.heap.size∉[b]:=by simp only [Au];omega
    have OB5:=OB3.chg cN cW;have RES5:=RES3.chg cN uT;have XB5:=XB3.chg cN fG;have e5:=(cN.cell (p:=⟨b9,o9+k,Ab⟩) (by show b9<W4;omega) (by simp only [Au];omega)).trans hHeld.2.1;have eX:=cD.trans cN;generalize ((((W4.setCell ⟨b,o+x * 4,Ab⟩ (J U 2)).setCell ⟨b,o+x * 4+1,Ab⟩ (J U (tx.need - 1))).setCell ⟨b,o+x * 4+2,Ab⟩ (J U tx.try_)).setCell ⟨b,o+x * 4+3,Ab⟩ (J U tx.until_))=W5 at *
    refine hK.out _ _ ⟨OB5,e5,XB5⟩ (fun hHeld=>?_);clear hK K_
    (try simp only [pS])
    refine Al Bm ?_ _;refine NoPanic.normal ?_;clear hHeld;go_wp2;exact ⟨⟨k+1,Bl,by go_num,by rw [eJ.out,cS.out];exact hO5,OB5,RES5,eX⟩,by simp [intOf];omega⟩
   ·have q2:(tx.need - 1 == 0)=false:=by simp [q]
    have cS:=Bq (show Dr tx=⟨tx.state,tx.need - 1,tx.try_,tx.until_⟩ by unfold Dr;rw [if_neg q]);clear q;go_wp2;have bC:Below wr wr (W2.setCell ⟨wr,1,Ab⟩ (J U (tx.need - 1))):=by
     repeat (first | (with_reducible exact bB) | refine Ad ?_ Bo _)
    have XB3:DBox wr [J U tx.state,J U (tx.need - 1),J U tx.try_,J U tx.until_] (W2.setCell ⟨wr,1,Ab⟩ (J U (tx.need - 1))):=(XB2.set 1 Bn (J U (tx.need - 1)))
    have OB3:=OB.below bC;have RES3:=RES.below bC;have fW:=hO.out.below bC;have e3:=(bC.cell (p:=⟨b9,o9+k,Ab⟩) tL).trans e0;have cD:=hb.trans (Chg.of_below [b] bC);have nL:=bC.size;clear y0 y1 y2 y3 yf yl XB2 OB2 RES2 hO2 e2 aG;generalize (W2.setCell ⟨wr,1,Ab⟩ (J U (tx.need - 1)))=W3 at *
    refine Go.wp_region_noPanic ?_;refine wp_region_held_drew (S:=(fun w'=>DBox w1 [J U r.id,J U r.plan.prio,J U r.plan.most,J U r.plan.wait,J U r.plan.tasks,Aa A3 n3 c3,J U r.state,Aa (Ac ⟨b,o,Ab⟩) r.tasks.length c4] w'/\w'.cell? ⟨b9,o9+k,Ab⟩=Ac (J U (x:Int))/\DBox wr [J U tx.state,J U (tx.need - 1),J U tx.try_,J U tx.until_] w')) Bm ⟨DBox.drew4 OB3,e3,DBox.drew4 XB3⟩ (fun hHeld=>?_);have bD:Below W3 W3 W3.drew:=(Br _ _).drew;replace OB3:=OB3.below bD;replace RES3:=RES3.below bD;replace XB3:=XB3.below bD;replace fW:=fW.below bD;replace cD:=cD.drew;replace nL:=Ah nL bD.size;clear bD;generalize W3.drew=W4 at *
    refine tV 0 ?_
    (try simp only [pS])
    refine tV 1 ?_
    (try simp only [pS])
    refine tV 2 ?_
    (try simp only [pS])
    refine tV 3 ?_
    (try simp only [pS])
    refine tV 4 ?_
    (try simp only [pS])
    refine tV 5 ?_
    (try simp only [pS])
    refine tV 6 ?_
    (try simp only [pS])
    refine tV 7 ?_
    (try simp only [pS])
    obtain ⟨b',o',cC,bI,d0,d1,d2,d3⟩:=fW.rd.tsk dW;simp only [Option.some.injEq,Addr.mk.injEq,and_true] at cC;obtain ⟨rfl,rfl⟩:=cC;have jL:=(fW.block Bl).2.2;have hO5:Hw Fj ((((W4.setCell ⟨b,o+x * 4,Ab⟩ (J U tx.state)).setCell ⟨b,o+x * 4+1,Ab⟩ (J U (tx.need - 1))).setCell ⟨b,o+x * 4+2,Ab⟩ (J U tx.try_)).setCell ⟨b,o+x * 4+3,Ab⟩ (J U tx.until_)) [b] (Aa (Ac ⟨b,o,Ab⟩) r.tasks.length c4) _:=fW.task4 dW ⟨tx.state,tx.need - 1,tx.try_,tx.until_⟩;have cN:Chg [b] W4 ((((W4.setCell ⟨b,o+x * 4,Ab⟩ (J U tx.state)).setCell ⟨b,o+x * 4+1,Ab⟩ (J U (tx.need - 1))).setCell ⟨b,o+x * 4+2,Ab⟩ (J U tx.try_)).setCell ⟨b,o+x * 4+3,Ab⟩ (J U tx.until_)):=(((Chg.setCell W4 b _ _).trans (Chg.setCell _ b _ _)).trans (Chg.setCell _ b _ _)).trans (Chg.setCell _ b _ _);refine rC 8 (fun K_ hK=>?_);go_simp;clear d0 d1 d2 d3 jL bI;have cW:w1.heap.size∉[b]:=by simp only [Au];omega
    have uT:w.heap.size+1∉[b]:=by simp only [Au];omega
    have fG:wr.heap.size∉[b]:=by simp only [Au];omega
    have OB5:=OB3.chg cN cW;have RES5:=RES3.chg cN uT;have XB5:=XB3.chg cN fG;have e5:=(cN.cell (p:=⟨b9,o9+k,Ab⟩) (by show b9<W4;omega) (by simp only [Au];omega)).trans hHeld.2.1;have eX:=cD.trans cN;generalize ((((W4.setCell ⟨b,o+x * 4,Ab⟩ (J U tx.state)).setCell ⟨b,o+x * 4+1,Ab⟩ (J U (tx.need - 1))).setCell ⟨b,o+x * 4+2,Ab⟩ (J U tx.try_)).setCell ⟨b,o+x * 4+3,Ab⟩ (J U tx.until_))=W5 at *
    refine hK.out _ _ ⟨OB5,e5,XB5⟩ (fun hHeld=>?_);clear hK K_
    (try simp only [pS])
    refine Al Bm ?_ _;refine NoPanic.normal ?_;clear hHeld;go_wp2;exact ⟨⟨k+1,Bl,by go_num,by rw [eJ.out,cS.out];exact hO5,OB5,RES5,eX⟩,by simp [intOf];omega⟩
  ·have aB:¬ (k:Int)<(BL.length:Int):=Bl;have cX:=hO.out;rw [Bg Bl] at cX;have hD:=Bq (show Ji r u=⟨r.id,r.plan,stL (BL.foldl (fun l b=>Hn l b Dr) L0),BL.foldl (fun l b=>Hn l b Dr) L0⟩ by rw [hD0.out];unfold Agc;rw [tA.out]);have eB:=Bq (Rq BL L0 0 hbnd.out (Int.le_refl 0));have hln:=Bq (show (BL.foldl (fun l b=>Hn l b Dr) L0).length=r.tasks.length by rw [Ll r u,nA.out]);generalize BL.foldl (fun l b=>Hn l b Dr) L0=DL at *
   clear hO;have opr:=Cd.ow_chg op5 hb (fun x hx h=>by simp only [Au] at h;subst h;exact fA hx);have CS:=Bq (Pm ⟨r.id,r.plan,r.state,DL⟩ (⟨A3,n3,c3⟩,⟨Ac ⟨b,o,Ab⟩,r.tasks.length,c4⟩) wr (by show DL.length<=2000000;rw [hln.out];omega) (fun x hx=>(eB.out x hx).2.2) ⟨Cd.ow_rd opr,(Gz cX).rd⟩);have OB_:=OB.g8;have hsr:=hb.size;go_wp2_with fail
   refine CS.out.mono ?_;rintro e w6 ⟨rfl,b6⟩;have hO2:=cX.below b6;have op6:=Cd.ow_below opr b6;have B6:Below w w w6:=Bu (B5.trans (hb.below Bl (fun x hx=>by simp only [Au] at hx;omega))) b6;have hs66:=b6.size;clear OB_;replace OB:=OB.below b6;replace RES:=RES.below b6;have OB_:=OB.g8;have RES_:=RES.g8;have obf:=OB.free;have rf:=RES.free;go_wp2;have hor:w.heap.size+1≠w1.heap.size:=Bl;refine Aj (Abw (DBox.row8 (RES.setOther (a:=⟨w1,6,Ab⟩) hor (J U (stL DL))) rfl _ _ _ _ _ _ _ _)) rfl ⟨(⟨A3,n3,c3⟩,⟨Ac ⟨b,o,Ab⟩,r.tasks.length,c4⟩),F1 ++ [b],by rw [hD.out],⟨F1,[b],rfl,bT,?_,?_⟩,?_,?_⟩
   ·have e2:w.heap.size+1∉F1:=fun hx=>by have:=nF _ (Bf _ hx);omega
    have e3:w1.heap.size∉F1:=fun hx=>by have:=bV.out _ hx;omega
    rw [hD.out];show Cd.ow _ F1 r.plan _;exact (by (repeat (refine Dt.ow_set Cd ?_ (by first | exact e3 | exact e2) _));exact op6)
   ·have e1:w.heap.size+1∉[b]:=by simp only [Au];omega
    have e0:w1.heap.size∉[b]:=by simp only [Au];omega
    rw [hD.out];show OwL C7 _ [b] _ DL;exact Gz (((((((((hO2.set (a:=⟨w1,_,Ab⟩) e0 _).set (a:=⟨w+1,_,Ab⟩) e1 _).set (a:=⟨w+1,_,Ab⟩) e1 _).set (a:=⟨w+1,_,Ab⟩) e1 _).set (a:=⟨w+1,_,Ab⟩) e1 _).set (a:=⟨w+1,_,Ab⟩) e1 _).set (a:=⟨w+1,_,Ab⟩) e1 _).set (a:=⟨w+1,_,Ab⟩) e1 _).set (a:=⟨w+1,_,Ab⟩) e1 _)
   ·intro x hx
    have:=nF x hx
    omega
   ·repeat (first | (with_reducible exact B6) | refine Ad ?_ Bo _)
theorem Gk {y:Yard} {w:World} {F Fy:List Nat} {g o n c:Nat} {R:Sl} (h:Bv.ow w F y (⟨Ac ⟨g,o,Ab⟩,n,c⟩,R)) {i:Nat} (hi:i<y.shelf.length) {l:List Entry} {t:Sl} (hl:OwL Bx w Fy t.v l) (hd:∀ x∈Fy,x∉F) :
  ∃ F',Bv.ow (w.setCell ⟨g,o+i,Ab⟩ (Aa t.a t.n t.c)) F' ⟨y.now,y.seq,y.shelf.set i l,y.runs⟩ (⟨Ac ⟨g,o,Ab⟩,n,c⟩,R)/\(∀ x∈F',x∈F\/x∈Fy)/\g∈F:=by
 obtain ⟨F1,F2,rfl,bT,os,orr⟩:=h;replace os:OwL (Dt.list Bx) w F1 (Aa (Ac ⟨g,o,Ab⟩) n c) y.shelf:=os;replace orr:OwL Ce w F2 R.v y.runs:=orr;obtain ⟨F',p1,p2,p3,p4⟩:=OwL.swap os hi (y:=l) (s:=t) (Fy:=Fy) hl (fun x hx bJ=>hd x hx (Bf _ bJ));have fP:Hz w g (o+i * (Dt.list Bx).enc.sz) ((Dt.list Bx).enc.cells (l,t))=w.setCell ⟨g,o+i,Ab⟩ (Aa t.a t.n t.c):=by
  rw [show (Dt.list Bx).enc.sz=1 from rfl,Nat.mul_one];rfl
 rw [fP] at p1;have eI:=(Ax.1 bT).2.2;refine ⟨F' ++ F2,⟨F',F2,rfl,?_,p1,?_⟩,fun x hx=>?_,Bf _ p3⟩
 ·rw [Ax];refine ⟨p1.nodup,(Ax.1 bT).2.1,fun a ha b hb e=>?_⟩;subst e;rcases p2 a ha with h1 | h1
  ·exact eI a h1 a hb rfl
  ·exact hd a h1 (Be _ hb)
 ·exact orr.chg (Chg.setCell w g _ _) (fun x hx hg=>by simp only [Au] at hg;subst hg;exact eI x p3 x hx rfl)
 ·rcases Bi.1 hx with h1 | h1
  ·rcases p2 x h1 with h2 | h2
   ·exact .inl (Bf _ h2)
   ·exact .inr h2
  ·exact .inl (Be _ h1)
theorem Oh {y:Yard} {w:World} {F Fy:List Nat} {g o n c:Nat} {R:Sl} (h:Bv.ow w F y (R,⟨Ac ⟨g,o,Ab⟩,n,c⟩)) {k:Nat} (hk:k<y.runs.length) {r:Run} {sr:Sl×Sl} (hr:Ce.ow w Fy r sr) (hd:∀ x∈Fy,x∉F) :
  ∃ F',Bv.ow ((((((((w.setCell ⟨g,o+k * 8,Ab⟩ (J U r.id)).setCell ⟨g,o+k * 8+1,Ab⟩ (J U r.plan.prio)).setCell ⟨g,o+k * 8+2,Ab⟩ (J U r.plan.most)).setCell ⟨g,o+k * 8+3,Ab⟩ (J U r.plan.wait)).setCell ⟨g,o+k * 8+4,Ab⟩ (J U r.plan.tasks)).setCell ⟨g,o+k * 8+5,Ab⟩ (Aa sr.1.a sr.1.n sr.1.c)).setCell ⟨g,o+k * 8+6,Ab⟩ (J U r.state)).setCell ⟨g,o+k * 8+7,Ab⟩ (Aa sr.2.a sr.2.n sr.2.c)) F' ⟨y.now,y.seq,y.shelf,y.runs.set k r⟩ (R,⟨Ac ⟨g,o,Ab⟩,n,c⟩)/\(∀ x∈F',x∈F\/x∈Fy)/\g∈F:=by
 obtain ⟨F1,F2,rfl,bT,os,orr⟩:=h;replace os:OwL (Dt.list Bx) w F1 R.v y.shelf:=os;replace orr:OwL Ce w F2 (Aa (Ac ⟨g,o,Ab⟩) n c) y.runs:=orr;obtain ⟨F',p1,p2,p3,p4⟩:=OwL.swap orr hk (y:=r) (s:=sr) (Fy:=Fy) hr (fun x hx bJ=>hd x hx (Be _ bJ));have hC:=Iv (Ce.enc.cells (r,sr)) w g (o+k * Ce.enc.sz);have fP:Hz w g (o+k * Ce.enc.sz) (Ce.enc.cells (r,sr))=((((((((w.setCell ⟨g,o+k * 8,Ab⟩ (J U r.id)).setCell ⟨g,o+k * 8+1,Ab⟩ (J U r.plan.prio)).setCell ⟨g,o+k * 8+2,Ab⟩ (J U r.plan.most)).setCell ⟨g,o+k * 8+3,Ab⟩ (J U r.plan.wait)).setCell ⟨g,o+k * 8+4,Ab⟩ (J U r.plan.tasks)).setCell ⟨g,o+k * 8+5,Ab⟩ (Aa sr.1.a sr.1.n sr.1.c)).setCell ⟨g,o+k * 8+6,Ab⟩ (J U r.state)).setCell ⟨g,o+k * 8+7,Ab⟩ (Aa sr.2.a sr.2.n sr.2.c)):=rfl;rw [fP] at p1 hC;have eI:=(Ax.1 bT).2.2;refine ⟨F1 ++ F',⟨F1,F',rfl,?_,?_,p1⟩,fun x hx=>?_,Be _ p3⟩
 ·rw [Ax];refine ⟨(Ax.1 bT).1,p1.nodup,fun a ha b hb e=>?_⟩;subst e;rcases p2 a hb with h1 | h1
  ·exact eI a ha a h1 rfl
  ·exact hd a h1 (Bf _ ha)
 ·exact os.chg hC (fun x hx hg=>by simp only [Au] at hg;subst hg;exact eI x hx x p3 rfl)
 ·rcases Bi.1 hx with h1 | h1
  ·exact .inl (Bf _ h1)
  ·rcases p2 x h1 with h2 | h2
   ·exact .inl (Be _ h2)
   ·exact .inr h2
theorem K7 {α:Type} {p:α->Bool} {l:List α} {k:Nat} (hk:k<l.length) (h:p l[k]=true):(l.take (k+1)).filter p=(l.take k).filter p ++ [l[k]]:=by
 rw [Cp l k hk,List.filter_append];simp [h]
theorem L7 {α:Type} {p:α->Bool} {l:List α} {k:Nat} (hk:k<l.length) (h:p l[k]=false):(l.take (k+1)).filter p=(l.take k).filter p:=by
 rw [Cp l k hk,List.filter_append];simp [h]
theorem Afl {b:Nat} {w:World} {u0 u1 u2 u3:Value} (X:DBox b [u0,u1,u2,u3] w) {v0 v1 v2 v3:Value} {rest:List Value} :
  (results Tryz.f205 (v0 :: v1 :: v2 :: v3 :: .pointer (Ac ⟨b,0,Ab⟩) :: rest).toArray).run Am w = .ok (.agg #[u0,u1,u2,u3]) w:=by
 have c0:=X.cell 0 _ rfl;have c1:=X.cell 1 _ rfl;have c2:=X.cell 2 _ rfl;have c3:=X.cell 3 _ rfl;simp [results,results205,go_sem,c0,c1,c2,c3]
theorem Pu (y:Yard) (s:Sl×Sl) (i:Nat) (w:World) (hi:i<y.shelf.length) (hl:Ca y<=2000000) (h:Bv.rd w w y s) :
  Calls Am 205 #[Dm y s,J U i] w (Df Bv Dm (Cb y i) w):=by
 have HR:=Bq (show ∀ W,Below w w W->Bv.rd W W y s from fun W hW=>Bv.rd_more (Bv.rd_below h hW) hW.size);obtain ⟨⟨A1,n1,c1⟩,⟨A2,n2,c2⟩⟩:=s;obtain rfl:n1=y.shelf.length:=RdL.at1 (s:=⟨A1,n1,c1⟩) h.1;have CC:=Bq (fun W hW=>El y (⟨A1,y.shelf.length,c1⟩,⟨A2,n2,c2⟩) W hl (HR.out W hW));have CF:=Bq (fun W hW e=>Pk y (⟨A1,y.shelf.length,c1⟩,⟨A2,n2,c2⟩) e W hl (HR.out W hW));have hS:=Bq (show ∀ W,Below w w W->RdL (Dt.list Bx) W W (Aa A1 y.shelf.length c1) y.shelf from fun W hW=>(HR.out W hW).1);have kR:y.shelf[i].length<=2000000:=by
  have h1:=C9 (cnt:=Cl) (Aw hi);have h2:y.shelf[i].length<=Cl y.shelf[i]:=Cj _ _;unfold Ca at hl;omega
 have hshl:y.shelf.length<=2000000:=Ah (Cj Cl _) (by unfold Ca at hl;omega);obtain ⟨i0,aR,aX,aW,aU⟩:=info_parts Gg;clear h hl HR;have hiI:(i:Int)<(y.shelf.length:Int):=Bl;have hi00:(0:Int)<=(i:Int):=Bl;obtain ⟨W,aH,X,RES,B0⟩:=bx2 w 27 [J U y.now,J U y.seq,Aa A1 y.shelf.length c1,Aa A2 n2 c2] 27 [J U 0,J U 0,Aa Ab 0 0,Aa Ab 0 0];go_enter func205,ntmps205;go_wp2_with fail
 rw [<-aH.out];clear aH;refine (CC.out _ B0).mono ?_;rintro e1 w1 ⟨⟨⟨B1,m1,e1⟩,⟨B2,m2,e2⟩⟩,F,rfl,oy,nF,b1⟩;have mX:=X.lt;have dP:=RES.lt;replace X:=X.below b1;replace RES:=RES.below b1;replace B0:=Bu B0 b1;have bV:=Bv.ow_lt (F:=F) (x:=y) (s:=(⟨B1,m1,e1⟩,⟨B2,m2,e2⟩)) oy;have bS:=b1.size;clear b1;go_upto_region 2 with fail
 have OB:=DBox.new 27 [J U y.now,J U y.seq,Aa B1 m1 e1,Aa B2 m2 e2] w1 (b:=w1) rfl;have b2:Below w1 w1 (w1.alloc (.cells #[J U y.now,J U y.seq,Aa B1 m1 e1,Aa B2 m2 e2] 27)):=Bt;replace B0:=Bu B0 b2;replace X:=X.below b2;replace RES:=RES.below b2;replace oy:=Bv.ow_below (F:=F) (x:=y) (s:=(⟨B1,m1,e1⟩,⟨B2,m2,e2⟩)) oy b2;have eV:=b2.size;have ow1:=OB.lt;generalize w1.alloc (.cells #[J U y.now,J U y.seq,Aa B1 m1 e1,Aa B2 m2 e2] 27)=w2 at *
 have X_:=X.g4;have wr1:U.wrap ((y.shelf.length:Int) - 1)=(y.shelf.length:Int) - 1:=Aq _ Bl;have q:inB (i:Int) 0 ((y.shelf.length:Int) - 1)=true:=Cw.2 Bl;clear b2 CC;have q0:Below w2 w2 (w2.alloc (.cells #[] 163)):=Bt;go_wp2_with (go_at_call 63;refine (Cg _ _ _ _).mono ?_;rintro e w9 ⟨rfl,rfl⟩;rw [q])
 clear X_;have mT:=B0.size;have o0:=Ow.empty Cy 163 w2 rfl;go_loopw [6,7] (fun v j wr=>∃ k:Nat,k<=y.shelf[i].length/\j = J U k/\Hid (Ow Cy 163 wr w2 v ((y.shelf[i].take k).filter fun e=>E0 y e))/\Below w2 w2 wr) (fun _ j _=>y.shelf[i].length - (intOf j).toNat);case atStart=>exact ⟨0,Ag _,rfl,o0,q0⟩
 case round =>
  clear o0 q0;obtain ⟨k,hk,rfl,hO,hb⟩:=hrel;replace X:=X.below hb;have hB:=Bu B0 hb;have cQ:=hb.size;obtain ⟨g,o,⟨a9,n9,c9⟩,rfl,jE,hr9,ck⟩:=(hS.out w2 B0).entryS hi;replace hr9:RdL Bx w2 w2 (Aa a9 n9 c9) y.shelf[i]:=hr9;obtain rfl:n9=y.shelf[i].length:=RdL.at1 (s:=⟨a9,n9,c9⟩) hr9;replace ck:=(hb.cell (p:=⟨g,_,Ab⟩) jE).trans ck;have fX:g<wr:=Bl;have X_:=X.g4;by_cases aA:k<y.shelf[i].length
  ·have aB:(k:Int)<(y.shelf[i].length:Int):=Bl;have cL:(0:Int)<=(k:Int):=Bl;obtain ⟨g2,o2,_,rfl,kT,_,d0,d1,d2,d3⟩:=hr9.entry aA;replace d0:=(hb.cell (p:=⟨g2,_,Ab⟩) kT).trans d0;replace d1:=(hb.cell (p:=⟨g2,_,Ab⟩) kT).trans d1;replace d2:=(hb.cell (p:=⟨g2,_,Ab⟩) kT).trans d2;replace d3:=(hb.cell (p:=⟨g2,_,Ab⟩) kT).trans d3;have kZ:g2<wr:=Bl;have aQ:=Di wr;have Hl:=Bq (show ((y.shelf[i].take k).filter fun e=>E0 y e).length<=3000000 by have h1:=List.length_filter_le (fun e=>E0 y e) (y.shelf[i].take k);rw [Az] at h1;omega);cases qf:E0 y y.shelf[i][k]
   ·have S:=Bq (L7 (p:=fun e=>E0 y e) aA qf);have qF:=Bq qf;clear qf;go_wp2;refine Bz Bm Bm ?_;repeat (go_big_quiet_step ((go_at_call 232;rename_i x;have h1:=CF.out x.1 (Bu hB x.2) y.shelf[i][k];rw [qF.out] at h1;exact Fg h1)))
    refine Ak ?_;rintro w3 ⟨⟨_,b3⟩,rfl⟩;clear aQ;go_wp2;exact ⟨⟨k+1,Bl,by go_num,by rw [S.out];exact hO.out.below b3,Bu hb b3⟩,by simp [intOf];omega⟩
   ·have S:=Bq (K7 (p:=fun e=>E0 y e) aA qf);have qF:=Bq qf;clear qf;go_wp2;refine Bz Bm Bm ?_;repeat (go_big_quiet_step ((go_at_call 232;rename_i x;have h1:=CF.out x.1 (Bu hB x.2) y.shelf[i][k];rw [qF.out] at h1;exact Fg h1)))
    refine Ak ?_;rintro w3 ⟨⟨_,b3⟩,rfl⟩;clear aQ;have cD:=Bu hb b3;have fW:=hO.out.below b3;clear X_;replace X:=X.below b3;have X_:=X.g4;replace ck:=(b3.cell (p:=⟨g,_,Ab⟩) fX).trans ck;replace d0:=(b3.cell (p:=⟨g2,_,Ab⟩) kZ).trans d0;replace d1:=(b3.cell (p:=⟨g2,_,Ab⟩) kZ).trans d1;replace d2:=(b3.cell (p:=⟨g2,_,Ab⟩) kZ).trans d2;replace d3:=(b3.cell (p:=⟨g2,_,Ab⟩) kZ).trans d3;have kI:=b3.size;have hgw3:g<w3:=Bl;have hg2w3:g2<w3:=Bl;generalize y.shelf[i][k]=e9 at *
    have ha:Hid (∀ w:World,Below w w (w.alloc (.cells #[J U e9.prio,J U e9.seq,J U e9.run,J U e9.task] 163))):=fun w=>Bt;go_wp2_with (at_builtin;go_loud (refine Ch _ Cy Bp rfl (.tmp 39) (.tmp 48) rfl underlying122 aR aX aW aU rfl (base:=w2) (l:=(y.shelf[i].take k).filter fun e=>E0 y e) rfl (fW.below (ha.out w3)) rfl (Rd.one Cy _ _ e9 rfl rfl 1 (Bs _) (Nat.lt_succ_self _)) Hl.out Bn Bp (by simp;omega) ?_);intro v5 w5 o5 g5 _)
    have eX:Below w2 w2 w5:=(Bu cD (ha.out w3)).grown g5 (Bu cD (ha.out w3)).size (fun g hg=>by have:=fW.within _ hg;omega);exact ⟨⟨k+1,Bl,by go_num,by rw [S.out];exact o5,eX⟩,by simp [intOf];omega⟩
  ·have aB:¬ (k:Int)<(y.shelf[i].length:Int):=Bl;have cX:=hO.out;rw [Bg Bl] at cX;obtain ⟨⟨a8,n8,c8⟩,F9,rfl,o9,nF9⟩:=Hr cX;have oy3:=Bv.ow_below (F:=F) (x:=y) (s:=(⟨B1,m1,e1⟩,⟨B2,m2,e2⟩)) oy hb;replace OB:=OB.below hb;replace RES:=RES.below hb;have H:Hid (Cb y i=⟨y.now,y.seq,y.shelf.set i (y.shelf[i].filter fun e=>E0 y e),y.runs⟩):=by
    show Cb y i=_;unfold Cb;rw [Gu hi]
   generalize (y.shelf[i].filter fun e=>E0 y e)=L at *
   clear hO cX;obtain ⟨g1,o1,s1,rfl,tB,_,_⟩:=(RdL.entryS (show RdL (Dt.list Bx) wr wr.heap.size (Aa B1 m1 e1) y.shelf from (Bv.ow_rd oy3).1) hi)
   obtain rfl:m1=y.shelf.length:=RdL.at1 (s:=⟨Ac ⟨g1,o1,Ab⟩,m1,e1⟩) (Bv.ow_rd oy3).1;obtain ⟨F',p1,p2,p3⟩:=Gk oy3 hi (l:=L) (t:=⟨a8,n8,c8⟩) o9 (fun x hx bJ=>by have h1:=nF9 x hx;have h2:=bV x bJ;omega);obtain ⟨F1,F2,gB,_,os,_⟩:=oy3;have pZ:=OwL.free0 (show OwL (Dt.list Bx) wr F1 (Aa (Ac ⟨g1,o1,Ab⟩) y.shelf.length e1) y.shelf from os) Bl;have hg1F:=bV g1 p3;have hg1n:=nF g1 p3;have OB_:=OB.g4;have RES_:=RES.g4;have rf:=RES.free;obtain ⟨_,_,_,dB,_,_,ckk⟩:=(RdL.entryS (show RdL (Dt.list Bx) wr wr.heap.size (Aa (Ac ⟨g1,o1,Ab⟩) y.shelf.length e1) y.shelf from os.rd) hi)
   simp only [Option.some.injEq,Addr.mk.injEq,and_true] at dB;obtain ⟨rfl,rfl⟩:=dB;have B8:Below w w (wr.setCell ⟨g1,o1+i,Ab⟩ (Aa a8 n8 c8)):=by
    repeat (first | (with_reducible exact hB) | refine Ad ?_ Bo _)
   go_upto_region 11 with fail
   clear X_;clear OB_;clear RES_;clear X ck;replace OB:=OB.setOther (a:=⟨g1,o1+i,Ab⟩) (by show w1.heap.size≠g1;omega) (Aa a8 n8 c8);replace RES:=RES.setOther (a:=⟨g1,o1+i,Ab⟩) (by show w.heap.size+1≠g1;omega) (Aa a8 n8 c8);generalize wr.setCell ⟨g1,o1+i,Ab⟩ (Aa a8 n8 c8)=w8 at *
   have OB_:=OB.g4;have RES_:=RES.g4;have rf:=RES.free;go_wp2;have en1:w.heap.size+1∉F':=fun hx=>by
    rcases p2 _ hx with h | h
    ·have:=nF _ h;omega
    ·have:=nF9 _ h;omega
   refine Aj (Afl (DBox.row4 RES rfl _ _ _ _)) rfl ⟨(⟨Ac ⟨g1,o1,Ab⟩,y.shelf.length,e1⟩,⟨B2,m2,e2⟩),F',by rw [H.out],by rw [H.out];exact (by (repeat (refine Dt.ow_set Bv ?_ en1 _));exact p1),fun x hx=>?_,?_⟩
   ·rcases p2 x hx with h | h
    ·have:=nF x h;omega
    ·have:=nF9 x h;omega
   ·repeat (first | (with_reducible exact B8) | refine Ad ?_ Bo _)
def Ie (gr o n c:Nat) (rs:List (Run×Ce.S)) (k:Nat) (G1 Fx G2:List Nat) (r:Run) (s:Sl×Sl) (w:World) (e:Ending) (w':World):Prop :=
 e = .returned (.tuple #[])/\Foc Ce w' gr o n c rs k G1 Fx G2 r s/\Chg (gr :: Fx) w w'
theorem Foc.atRun {w:World} {gr o n c k:Nat} {rs:List (Run×Ce.S)} {G1 Fx G2:List Nat} {r:Run} {s:Sl×Sl} (h:Foc Ce w gr o n c rs k G1 Fx G2 r s) (hp:0<r.tasks.length) :
  ∃ F1 b o2 c2,Fx=F1 ++ [b]/\Fx.Nodup/\s.2=⟨Ac ⟨b,o2,Ab⟩,r.tasks.length,c2⟩/\Cd.ow w F1 r.plan s.1/\Hw Fj w [b] (Aa (Ac ⟨b,o2,Ab⟩) r.tasks.length c2) r.tasks/\gr≠b/\b∉F1:=by
 obtain ⟨F1,F2,jN,bT,op,ot⟩:=h.here;obtain ⟨s1,⟨A,m,c2⟩⟩:=s;have ot:OwL C7 w F2 (Aa A m c2) r.tasks:=ot;obtain rfl:m=r.tasks.length:=RdL.at1 (s:=⟨A,m,c2⟩) ot.rd;have oh:=Nm ot;obtain ⟨b,o2,rfl,_⟩:=oh.rd.tsk hp;obtain ⟨rfl,_,_⟩:=oh.block hp;refine ⟨F1,b,o2,c2,jN,bT,rfl,op,oh,fun e=>h.apart.1.2.1 (by rw [jN,e];simp),fun hx=>?_⟩;rw [jN] at bT;exact (Ax.1 bT).2.2 b hx b Bn rfl
theorem Chg.blk {g:Nat} {F:List Nat} {w w':World} (h:Chg [g] w w') (hg:g∈F):Chg F w w':=h.mono (fun x hx=>by rw [Au.1 hx];exact hg)
theorem Mq (gr o n c:Nat) (rs:List (Run×Ce.S)) (k:Nat) (G1 Fx G2:List Nat) (r:Run) (s:Sl×Sl) (u:Nat) (w:World) (hl:r.tasks.length<=1000) (hR:Is r u) (hF:Foc Ce w gr o n c rs k G1 Fx G2 r s) :
  Calls Am 191 #[.pointer (Ac ⟨gr,o+k * 8,Ab⟩),J U u] w (Ie gr o n c rs k G1 Fx G2 (Dn r u) s w):=by
 have hu:u<r.tasks.length:=by have:=hR.2.1.2;omega
 obtain ⟨l5,l6,l4,ls⟩:=Qc hR;obtain ⟨F1,b,o2,c2,rfl,bT,eV,op,oh,rM,dA⟩:=hF.atRun Bl;obtain ⟨s1,s2⟩:=s;obtain rfl:s2=_:=eV;have qB:=hF.blk;have mP:=(oh.block Bl).2.1;have pV:=(oh.block Bl).2.2;have g2:w.cell? ⟨gr,o+k * 8+2,Ab⟩=Ac (J U r.plan.most):=hF.cells 2 _ rfl;have g6:w.cell? ⟨gr,o+k * 8+6,Ab⟩=Ac (J U r.state):=hF.cells 6 _ rfl;have g7:w.cell? ⟨gr,o+k * 8+7,Ab⟩=Ac (Aa (Ac ⟨b,o2,Ab⟩) r.tasks.length c2):=hF.cells 7 _ rfl;have gf:=hF.free;obtain ⟨_,_,hA,_,d0,d1,d2,d3⟩:=oh.rd.tsk hu;simp only [Option.some.injEq,Addr.mk.injEq,and_true] at hA;obtain ⟨rfl,rfl⟩:=hA;have jR:(u:Int)<(r.tasks.length:Int):=Bl;have gM:(0:Int)<=(u:Int):=Bl;have dC:=Bq (Cu hu);have kI:=Bq (show r.tasks[u].state=3 by have:=hR.2.2;rw [Ao,Cu hu] at this;exact this);have h1:=oh.taskUntil hu 0;have dI:=Chg.setCell w b (o2+u * 4+3) (J U 0);have op1:=Cd.ow_chg op dI (fun x hx h=>by rw [Au.1 h] at hx;exact dA hx);have F1_:Foc Ce (w.setCell ⟨b,o2+u * 4+3,Ab⟩ (J U 0)) gr o n c rs k G1 (F1 ++ [b]) G2 ⟨r.id,r.plan,r.state,r.tasks.set u ⟨r.tasks[u].state,r.tasks[u].need,r.tasks[u].try_,0⟩⟩ (s1,⟨Ac ⟨b,o2,Ab⟩,r.tasks.length,c2⟩) :=
  hF.sub (dI.blk Bn) ⟨F1,[b],rfl,bT,op1,Gz h1⟩ rfl
 have hC1':Chg (gr :: (F1 ++ [b])) w (w.setCell ⟨b,o2+u * 4+3,Ab⟩ (J U 0)):=dI.blk Bn;have aW:=dI.size;go_enter func191,ntmps191;go_upto_region 2 with fail
 generalize w.setCell ⟨b,o2+u * 4+3,Ab⟩ (J U 0)=w1 at *
 clear d0 d1 d2 d3 g2 g6 g7 gf hF op oh pV dI;have nR:=F1_.blk;have hbl1:=(h1.block (by rw [Bh];omega)).2.1;have g2:w1.cell? ⟨gr,o+k * 8+2,Ab⟩=Ac (J U r.plan.most):=F1_.cells 2 _ rfl;have uM:u<(r.tasks.set u ⟨r.tasks[u].state,r.tasks[u].need,r.tasks[u].try_,0⟩).length:=by rw [Bh];exact hu
 obtain ⟨_,_,hA,_,d0,d1,d2,d3⟩:=h1.rd.tsk uM;simp only [Option.some.injEq,Addr.mk.injEq,and_true] at hA;obtain ⟨rfl,rfl⟩:=hA;rw [List.getElem_set_self] at d0 d1 d2 d3;have aQ:=Di w1;refine Bz Bm Bm ?_;repeat (go_big_quiet_step (fail))
 refine Ak ?_;rintro w2 ⟨⟨_,b2⟩,rfl⟩;clear aQ d0 d1 d2 d3 g2;have jI:=hC1'.trans (Chg.of_below (gr :: (F1 ++ [b])) b2);have h2:=h1.below b2;have op2:=Cd.ow_below op1 b2;have F2_:=F1_.sub (w':=w2) (y:=⟨r.id,r.plan,r.state,r.tasks.set u ⟨r.tasks[u].state,r.tasks[u].need,r.tasks[u].try_,0⟩⟩) (Chg.of_below _ b2) ⟨F1,[b],rfl,bT,op2,Gz h2⟩ rfl;have aU:=b2.size;clear h1 op1 F1_ hC1' b2;have gX:=F2_.blk;have hbl2:=(h2.block (by rw [Bh];omega)).2;have g6:w2.cell? ⟨gr,o+k * 8+6,Ab⟩=Ac (J U r.state):=F2_.cells 6 _ rfl;have g7:w2.cell? ⟨gr,o+k * 8+7,Ab⟩=Ac (Aa (Ac ⟨b,o2,Ab⟩) r.tasks.length c2):=F2_.cells 7 _ rfl;have gf:=F2_.free;obtain ⟨_,_,hA,_,d0,d1,d2,d3⟩:=h2.rd.tsk uM;simp only [Option.some.injEq,Addr.mk.injEq,and_true] at hA;obtain ⟨rfl,rfl⟩:=hA;rw [List.getElem_set_self] at d0 d1 d2 d3;by_cases q:r.tasks[u].try_<r.plan.most
 ·have H:=Bq (show Dn r u=⟨r.id,r.plan,r.state,r.tasks.set u ⟨2,r.tasks[u].need,r.tasks[u].try_,0⟩⟩ by unfold Dn;rw [if_pos (by rw [dC.out];exact q),Lf hu]);have h3:=h2.taskSt' hu 2;have eA:=Chg.setCell w2 b (o2+u * 4) (J U 2);have op3:=Cd.ow_chg op2 eA (fun x hx h=>by rw [Au.1 h] at hx;exact dA hx);have HF:=Bq (show Ie gr o n c rs k G1 (F1 ++ [b]) G2 (Dn r u) (s1,⟨Ac ⟨b,o2,Ab⟩,r.tasks.length,c2⟩) w (.returned (.tuple #[])) (w2.setCell ⟨b,o2+u * 4,Ab⟩ (J U 2)) from
   ⟨rfl,by rw [H.out];exact F2_.sub (eA.blk Bn) ⟨F1,[b],rfl,bT,op3,Gz h3⟩ rfl,jI.trans (eA.blk Bn)⟩)
  go_wp2;exact Aj (v:=.tuple #[]) (by simp [results,results191,go_sem]) rfl HF.out
 ·have H:=Bq (show Dn r u=Dx ⟨r.id,r.plan,r.state,r.tasks.set u ⟨5,r.tasks[u].need,r.tasks[u].try_,0⟩⟩ 3 by unfold Dn;rw [if_neg (by rw [dC.out];exact q),Lf hu]);have h3:=h2.taskSt' hu 5;have eA:=Chg.setCell w2 b (o2+u * 4) (J U 5);have op3:=Cd.ow_chg op2 eA (fun x hx h=>by rw [Au.1 h] at hx;exact dA hx);have F3_:=F2_.sub (w':=w2.setCell ⟨b,o2+u * 4,Ab⟩ (J U 5)) (y:=⟨r.id,r.plan,r.state,r.tasks.set u ⟨5,r.tasks[u].need,r.tasks[u].try_,0⟩⟩) (eA.blk Bn) ⟨F1,[b],rfl,bT,op3,Gz h3⟩ rfl;have hC3':=jI.trans (eA.blk (F:=gr :: (F1 ++ [b])) Bn);have g73:=(eA.cell (p:=⟨gr,o+k * 8+7,Ab⟩) gX (by simpa using rM)).trans g7;go_upto_region 5 with fail
  generalize w2.setCell ⟨b,o2+u * 4,Ab⟩ (J U 5)=w3 at *
  clear d0 d1 d2 d3 g6 g7 gf hbl2 h2 op2 F2_ eA;have hgr3:=F3_.blk;have hL5:(r.tasks.set u ⟨5,r.tasks[u].need,r.tasks[u].try_,0⟩).length=r.tasks.length:=Bh;have CL:=Bq (Pt gr (o+k * 8) b o2 c2 (r.tasks.set u ⟨5,r.tasks[u].need,r.tasks[u].try_,0⟩) u w3 (by rw [hL5];exact g73) hgr3 rM Bl Bl (by rw [hL5];exact h3) (fun j hj=>by
   rw [List.getElem_set];by_cases e:u=j
   ·simp [e]
   ·rw [if_neg e];constructor
    ·intro h
     have:=Abp (s:=5) (by rw [hL5] at hj;exact hj) h
     omega
    ·intro h;omega))
  rw [hL5] at CL;go_wp2_with fail
  refine CL.out.mono ?_;rintro e w4 ⟨rfl,h4,dD⟩;have op4:=Cd.ow_chg op3 dD (fun x hx h=>by rw [Au.1 h] at hx;exact dA hx);have F4_:=F3_.sub (w':=w4) (y:=⟨r.id,r.plan,r.state,(r.tasks.set u ⟨5,r.tasks[u].need,r.tasks[u].try_,0⟩).map Dq⟩) (dD.blk Bn) ⟨F1,[b],rfl,bT,op4,Gz h4⟩ rfl;have hC4':=hC3'.trans (dD.blk (F:=gr :: (F1 ++ [b])) Bn);have g6:w4.cell? ⟨gr,o+k * 8+6,Ab⟩=Ac (J U r.state):=F4_.cells 6 _ rfl;have gf:=F4_.free;have hgr4:=F4_.blk;obtain ⟨F5_,cN⟩:=F4_.put (y:=Dx ⟨r.id,r.plan,r.state,r.tasks.set u ⟨5,r.tasks[u].need,r.tasks[u].try_,0⟩⟩ 3) 6 [J U 3] (show 6+1<=8 by omega) (fun i hi=>by simp at hi;subst hi;rfl) (fun i hi ho=>by
   have:i<8:=hi;rcases (show i=0\/i=1\/i=2\/i=3\/i=4\/i=5\/i=7 by simp at ho;omega) with rfl | rfl | rfl | rfl | rfl | rfl | rfl<;>rfl) (fun W h=>h)
  have HF:=Bq (show Ie gr o n c rs k G1 (F1 ++ [b]) G2 (Dn r u) (s1,⟨Ac ⟨b,o2,Ab⟩,r.tasks.length,c2⟩) w (.returned (.tuple #[])) (w4.setCell ⟨gr,o+k * 8+6,Ab⟩ (J U 3)) from
   ⟨rfl,by rw [H.out];exact F5_,hC4'.trans (cN.blk Bn)⟩)
  clear F5_ cN F4_ dD h4;go_wp2;exact Aj (v:=.tuple #[]) (by simp [results,results191,go_sem]) rfl HF.out
end Go.Proofs.YtonlnjdempbfoabGreat
