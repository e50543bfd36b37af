/-
  Fail of the reference. RoomFor of the reference. Holds and told of the program. RunFails: a right run stays right; what a yard keeps where runs of it are turned
-/
import Derived.Test.YtonlnjdempbfoaaGreatZSl0
import Derived.Test.YtonlnjdempbfoaaGreatZSl2
import Derived.Test.YtonlnjdempbfoaaGreatZSl4
import Derived.Test.YtonlnjdempbfoaaGreatZSl5
import Derived.Test.YtonlnjdempbfoaaGreatZSl6
import Derived.Test.YtonlnjdempbfoaaGreatZSl9
namespace Go.Proofs.YtonlnjdempbfoaaGreat
open Go.RowKit
set_option maxRecDepth 100000
set_option maxHeartbeats 4000000
set_option linter.unusedVariables false
set_option linter.unusedSimpArgs false
open Value renaming int->J,slice->Aa
open IntKind renaming i64->U
open Option renaming none->Ab,some->Ac
open Below renaming setCell->Ad
open Nat renaming zero_le->Ag,le_trans->Ah,lt_of_lt_of_le->Ai
open Go renaming bodyPost_ret->Aj,wpQuiet_nil->Ak,wpAnyH_done->Al
open Go.Proofs.Tryz renaming prog->Am
open Int renaming toNat_natCast->Ao,eq_ofNat_of_zero_le->Ap
open IntWalk renaming i64_in->Aq
open List renaming mem_singleton->Au,getElem_mem->Aw,nodup_append->Ax,length_take->Az,mem_append_right->Be,mem_append_left->Bf,take_of_length_le->Bg,length_set->Bh,mem_append->Bi
section
def Ht (z:Yard) (c:Int) (w:World) (e:Ending) (w':World):Prop :=
 ∃ s F,e = .returned (.tuple #[Dg z s,J U c])/\Bu.ow w' F z s/\(∀ b∈F,w<=b)/\Below w w w'
theorem Zs {b:Nat} {w:World} {u0 u1 u2 u3:Value} (X:DBox b [u0,u1,u2,u3] w) {v0 v1 v2 v3 v4 v5 v6 v7 v9:Value} {rest:List Value} :
  (results Tryz.f146 (v0 :: v1 :: v2 :: v3 :: v4 :: v5 :: v6 :: v7 :: .pointer (Ac ⟨b,0,Ab⟩) :: v9 :: rest).toArray).run Am w = .ok (.tuple #[.agg #[u0,u1,u2,u3],v9]) w:=by
 have c0:=X.cell 0 _ rfl;have c1:=X.cell 1 _ rfl;have c2:=X.cell 2 _ rfl;have c3:=X.cell 3 _ rfl;simp [results,Tryz.results146,go_sem,c0,c1,c2,c3]
theorem D7 {y:Yard} (h:Dd y) {k:Nat} (hk:k<y.runs.length):Gn y.runs[k]:=(h.2.2.2.2.2.2.2.1 k hk).1
theorem Dp {r:Run} (h:Gn r):1<=r.tasks.length/\r.tasks.length<=12:=by
 have h1:=Dw (C9.1 h.2.1).1;have h2:=h.2.2.1;omega
theorem Hj (r:Run) (t:Nat):(De r t).tasks.length=r.tasks.length:=by
 unfold De;split<;>simp [Dm,Nk]
open Classical in
noncomputable def Kd (y:Yard) (id tk tr:Int):Yard:=if Fk y id tk tr=0 then Fb y (Da y id).toNat (De (Js y id) tk.toNat) else y
theorem Xf (y:Yard) (s:Sl×Sl) (id tk tr:Int) (w:World) (hl:Cb y<=2000000) (h:Bu.rd w w y s) :
  Calls Am 146 #[Dg y s,J U id,J U tk,J U tr] w (Ht (Kd y id tk tr) (Fk y id tk tr) w):=by
 have HR:=Bq (show ∀ W,Below w w W->Bu.rd W W y s from fun W hW=>Bu.rd_more (Bu.rd_below h hW) hW.size);obtain ⟨⟨A1,n1,c1⟩,⟨A2,n2,c2⟩⟩:=s;have CC:=Bq (fun W hW=>Ed y (⟨A1,n1,c1⟩,⟨A2,n2,c2⟩) W hl (HR.out W hW));have CK:=Bq (fun W hW=>Ri y (⟨A1,n1,c1⟩,⟨A2,n2,c2⟩) id tk tr W hl (HR.out W hW));have CA:=Bq (fun W hW=>Es y (⟨A1,n1,c1⟩,⟨A2,n2,c2⟩) id W hl (HR.out W hW));clear h;obtain ⟨W,aG,X,RES,B0⟩:=bx2 w 31 [J U y.now,J U y.seq,Aa A1 n1 c1,Aa A2 n2 c2] 31 [J U 0,J U 0,Aa Ab 0 0,Aa Ab 0 0];go_enter Tryz.func146,Tryz.ntmps146;go_wp2_with fail
 rw [<-aG.out];clear aG;refine (CC.out _ B0).mono ?_;rintro e1 w1 ⟨⟨⟨B1,m1,e1⟩,⟨B2,m2,e2⟩⟩,F,rfl,oy,nF,b1⟩;have mQ:=X.lt;have dK:=RES.lt;replace X:=X.below b1;replace RES:=RES.below b1;replace B0:=Bt B0 b1;have bP:=Bu.ow_lt (F:=F) (x:=y) (s:=(⟨B1,m1,e1⟩,⟨B2,m2,e2⟩)) oy;have bL:=b1.size;clear b1;go_upto_region 2 with fail
 have OB:=DBox.new 31 [J U y.now,J U y.seq,Aa B1 m1 e1,Aa B2 m2 e2] w1 (b:=w1.heap.size) rfl;have b2:Below w1 w1 (w1.alloc (.cells #[J U y.now,J U y.seq,Aa B1 m1 e1,Aa B2 m2 e2] 31)):=(Br _ _).alloc (Bs _) _;replace B0:=Bt B0 b2;replace X:=X.below b2;replace RES:=RES.below b2;replace oy:=Bu.ow_below (F:=F) (x:=y) (s:=(⟨B1,m1,e1⟩,⟨B2,m2,e2⟩)) oy b2;have eL:=b2.size;have ow1:=OB.lt;generalize w1.alloc (.cells #[J U y.now,J U y.seq,Aa B1 m1 e1,Aa B2 m2 e2] 31)=w2 at *
 have X_:=X.g4;go_wp2_with fail
 refine (CK.out _ B0).mono ?_;rintro e1 w3 ⟨rfl,b3⟩;replace B0:=Bt B0 b3;clear X_;replace X:=X.below b3;replace RES:=RES.below b3;replace OB:=OB.below b3;replace oy:=Bu.ow_below (F:=F) (x:=y) (s:=(⟨B1,m1,e1⟩,⟨B2,m2,e2⟩)) oy b3;have jP:=b3.size;clear b3 b2 CC CK;have X_:=X.g4;have OB_:=OB.g4;by_cases q:Fk y id tk tr=0;case neg =>
  have q2:(Fk y id tk tr != 0)=true:=by simp [q]
  have H:=Bq (show Kd y id tk tr=y from if_neg q);clear q;have RES_:=RES.g4;have rf:=RES.free;go_wp2;have en1:w.heap.size+1∉F:=fun hx=>by have:=nF _ hx;omega
  refine Aj (Zs (DBox.row4 RES rfl _ _ _ _)) rfl ⟨(⟨B1,m1,e1⟩,⟨B2,m2,e2⟩),F,by rw [H.out],by rw [H.out];exact (Bu.set4 (F:=F) (x:=y) (s:=(⟨B1,m1,e1⟩,⟨B2,m2,e2⟩)) oy en1),fun x hx=>by have:=nF x hx;omega,?_⟩;repeat (first | (with_reducible exact B0) | refine Ad ?_ Bo _)
 have q2:(Fk y id tk tr != 0)=false:=by simp [q]
 have H:=Bq (show Kd y id tk tr=Fb y (Da y id).toNat (De (Js y id) tk.toNat) from if_pos q);have HP:Hid (Dd y/\0<=Da y id/\Fd y id tk tr):=by
  unfold Fk at q;by_cases p0:Dd y
  ·by_cases p1:Da y id<0
   ·rw [if_neg (fun h=>h p0),if_pos p1] at q;cases q
   ·by_cases p2:Fd y id tk tr
    ·exact ⟨p0,Bl,p2⟩
    ·rw [if_neg (fun h=>h p0),if_neg p1,if_pos p2] at q;cases q
  ·rw [if_pos p0] at q;cases q
 have Hq:=Bq q;clear q;rcases Ek y id with hr | ⟨k,hk,hr⟩
 ·exact absurd HP.out.2.1 Bl
 have HK:=Bq (Gf hk hr);have HR2:=Bq hr;clear hr;have bH:=Bq (D7 HP.out.1 hk);have hth:=Bq HP.out.2.2;have cQ:Hid ((0<=tk/\tk<(y.runs[k].tasks.length:Int))/\(Cs y.runs[k] tk.toNat).state=3):=by
  have:=hth.out
  unfold Fd at this;rw [HK.out] at this;exact ⟨this.2.1,this.2.2.1⟩
 obtain ⟨u,rfl⟩:=Ap cQ.out.1.1;have hu:u<y.runs[k].tasks.length:=by have:=cQ.out.1.2;omega
 have aK:Hid (H9 y.runs[k] u):=⟨bH.out,⟨Bl,Bl⟩,cQ.out.2⟩
 go_wp2_with fail
 refine (CA.out _ B0).mono ?_;rintro e2' w4 ⟨rfl,b4⟩;rw [HR2.out];replace B0:=Bt B0 b4;clear X_;clear OB_;clear X;replace RES:=RES.below b4;replace OB:=OB.below b4;replace oy:Bu.ow w4 F y (⟨B1,m1,e1⟩,⟨B2,m2,e2⟩):=owB oy b4;have kY:=b4.size;clear b4 CA;have oy2:=oy;obtain ⟨F1,F2,rfl,bN,os,orr⟩:=oy2;replace orr:OwL Ch w4 F2 (Aa B2 m2 e2) y.runs:=orr;obtain rfl:m2=y.runs.length:=RdL.at1 (s:=⟨B2,m2,e2⟩) orr.rd;obtain ⟨gr,o2,sk,rfl,dD,cX,c0,c1_,c2_,c3,c4,c5,c6,c7⟩:=orr.rd.run hk;have gG:(k:Int)<(y.runs.length:Int):=Bl;have dB:(0:Int)<=(k:Int):=Bl;go_wp2;refine Go.wp_region_noPanic ?_;refine wp_region_held_drew (S:=(fun w'=>DBox w1 [J U y.now,J U y.seq,Aa B1 m1 e1,Aa (Ac ⟨gr,o2,Ab⟩) y.runs.length e2] w')) Bm (DBox.drew4 OB) (fun hHeld=>?_);refine tY 0 ?_
 (try simp only [pS])
 refine tY 1 ?_
 (try simp only [pS])
 refine tY 2 ?_
 (try simp only [pS])
 refine tY 3 ?_
 (try simp only [pS])
 refine tY 4 ?_
 (try simp only [pS])
 refine tY 5 ?_
 (try simp only [pS])
 refine tY 7 ?_
 (try simp only [pS])
 have bd:Below w4 w4 w4.drew:=(Br _ _).drew;replace B0:=Bt B0 bd;replace RES:=RES.below bd;replace OB:=OB.below bd;replace oy:Bu.ow w4.drew (F1 ++ F2) y (⟨B1,m1,e1⟩,⟨Ac ⟨gr,o2,Ab⟩,y.runs.length,e2⟩):=Bu.ow_below (F:=F1 ++ F2) (x:=y) (s:=(⟨B1,m1,e1⟩,⟨Ac ⟨gr,o2,Ab⟩,y.runs.length,e2⟩)) oy bd;refine rC 6 (fun K_ hK=>?_);go_simp;refine hK.out _ _ OB (fun hHeld=>?_);clear hK K_
 (try simp only [pS])
 have mK:=Gj hl hk;have hrk2:Ch.rd w4.drew w4.drew y.runs[k] sk:=Ch.rd_below cX bd;have hcrun:Cw y.runs[k]<=2000000:=by
  have h1:=Ds (cnt:=Cw) (Aw hk);unfold Cb at hl;omega
 have CF:=Bq (Lu y.runs[k] sk u w4.drew hcrun aK.out hrk2);clear c0 c1_ c2_ c3 c4 c5 c6 c7;refine rC 8 (fun K_ hK=>?_);go_simp;refine CF.out.mono ?_;rintro e3 w5 ⟨sr,Fr,rfl,orn,nFr,b5⟩;refine hK.out _ _ (OB.below b5) (fun hHeld=>?_);clear hK K_
 (try simp only [pS])
 have qJ:w4.drew.heap.size=w4.heap.size:=rfl;have pP:=b5.size;have qX:=Dp bH.out;have CT:=Bq (Ks y (⟨B1,m1,e1⟩,⟨Ac ⟨gr,o2,Ab⟩,y.runs.length,e2⟩) k (De y.runs[k] u) sr w5 (F1 ++ F2) Fr HP.out.1.2.2.1 (fun s hs=>by have:=(HP.out.1.2.2.2.1 s hs).1;omega) (by have:=HP.out.1.2.1;omega) hk (by rw [Hj];omega) Bl (Bu.ow_below (F:=F1 ++ F2) (x:=y) (s:=(⟨B1,m1,e1⟩,⟨Ac ⟨gr,o2,Ab⟩,y.runs.length,e2⟩)) oy b5) orn (fun x hx bF=>by have h1:=nFr x hx;have h2:=bP x bF;omega));have HF:=Bq (show Kd y id u tr=Fb y k (De y.runs[k] u) by rw [H.out,HR2.out,HK.out,Ao,Ao]);clear H;refine rC 9 (fun K_ hK=>?_);go_simp;refine CT.out.mono ?_;rintro e4 w6 ⟨s5,F5,rfl,oy7,n5,c6⟩;have aC:w1.heap.size∉F1 ++ F2:=fun h=>by have:=bP _ h;omega
 have kB:w.heap.size+1∉F1 ++ F2:=fun h=>by have:=nF _ h;omega
 have OB6:=(OB.below b5).chg c6 aC;have RES6:=(RES.below b5).chg c6 kB;have B6:Below w w w6:=(Bt B0 b5).trans (c6.below (by have:=(Bt B0 b5).size;omega) (fun x hx=>by have:=nF _ hx;omega));generalize Fb y k (De y.runs[k] u)=Z at *
 refine hK.out _ _ OB6 (fun hHeld=>?_);clear hK K_
 (try simp only [pS])
 have r0:=RES6.cell 0 _ rfl;have r1:=RES6.cell 1 _ rfl;have r2:=RES6.cell 2 _ rfl;have r3:=RES6.cell 3 _ rfl;have rl:=RES6.lt;have rf:=RES6.free;refine rC 10 (fun K_ hK=>?_);go_simp;have cJ:w1.heap.size≠w.heap.size+1:=Bl;refine hK.out _ _ ((((OB6.setOther (a:=⟨w.heap.size+1,_,Ab⟩) cJ _).setOther (a:=⟨w.heap.size+1,_,Ab⟩) cJ _).setOther (a:=⟨w.heap.size+1,_,Ab⟩) cJ _).setOther (a:=⟨w.heap.size+1,_,Ab⟩) cJ _) (fun hHeld=>?_);clear hK K_
 (try simp only [pS])
 refine rC 11 (fun K_ hK=>?_);go_simp;refine hK.out _ _ hHeld (fun hHeld=>?_);clear hK K_
 (try simp only [pS])
 refine Al Bm ?_ _;refine NoPanic.normal ?_;clear hHeld r0 r1 r2 r3 rf;have en5:w.heap.size+1∉F5:=fun hx=>by
  rcases n5 _ hx with h | h | h
  ·exact kB h
  ·have:=nFr _ h;omega
  ·omega
 have hZ:Kd y id u tr=Z:=HF.out;have H2:=Bq hZ;clear hZ;have Hq2:=Bq (show Fk y id u tr=0 from Hq.out);go_wp2;refine Aj (Zs (DBox.row4 RES6 rfl _ _ _ _)) rfl ⟨s5,F5,by rw [H2.out,Hq2.out],by rw [H2.out];exact (Bu.set4 (F:=F5) (x:=Z) (s:=s5) oy7 en5),fun x hx=>?_,?_⟩
 ·rcases n5 x hx with h | h | h
  ·have:=nF x h;omega
  ·have:=nFr x h;omega
  ·omega
 ·repeat (first | (with_reducible exact B6) | refine Ad ?_ Bo _)
end
noncomputable def Ln (y:Yard) (p:Plan):Bool:=decide (y.runs.length<8) && (inB p.tasks 0 12 && (decide ((Fo y:Int)+p.tasks<=40) && decide (y.seq<=999999000 - p.tasks)))
theorem Xg (y:Yard) (s:Sl×Sl) (p:Plan) (ve:Value) (w:World) (hl:Cb y<=2000000) (hS:Fo y<=40) (hq:0<=y.seq/\y.seq<=2000000000) (h:Bu.rd w w y s) :
  Calls Am 200 #[Dg y s,Ge p ve] w fun e' w'=>e' = .returned (.bool (Ln y p))/\Below w w w':=by
 have HR:=Bq (show ∀ W,Below w w W->Bu.rd W W y s from fun W hW=>Bu.rd_more (Bu.rd_below h hW) hW.size);obtain ⟨⟨A1,n1,c1⟩,⟨A2,n2,c2⟩⟩:=s;obtain rfl:n2=y.runs.length:=RdL.at1 (s:=⟨A2,n2,c2⟩) h.2;have CS:=Bq (fun W hW=>Oi y (⟨A1,n1,c1⟩,⟨A2,y.runs.length,c2⟩) W hl (HR.out W hW));clear h HR;have HD:=Bq (show Ln y p=(decide (y.runs.length<8) && (inB p.tasks 0 12 && (decide ((Fo y:Int)+p.tasks<=40) && decide (y.seq<=999999000 - p.tasks)))) from rfl);generalize Ln y p=D at *
 generalize Fo y=sn at *
 obtain ⟨W,aG,X,P,B0⟩:=bx2 w 31 [J U y.now,J U y.seq,Aa A1 n1 c1,Aa A2 y.runs.length c2] 43 [J U p.prio,J U p.most,J U p.wait,J U p.tasks,ve];go_enter Tryz.func200,Tryz.ntmps200;go_wp2;rw [<-aG.out];clear aG;have X_:=X.g4;have P_:=P.g5;have aR:=C7 W;by_cases a:y.runs.length<8;case neg =>
  have aI:¬ (y.runs.length:Int)<8:=Bl;have aD:decide ((y.runs.length:Int)<8)=false:=decide_eq_false aI;have H:=Bq (show D=false by rw [HD.out,decide_eq_false a,Bool.false_and]);clear HD a;refine Bw Bm Bm ?_;repeat (go_big_quiet_step ((first | (go_at_call 155;exact Dk (fun u=>Ce _ _ _ u.1)) | (go_at_call 218;rename_i x;have h1:=CS.out x.1 (Bt B0 x.2);exact Ey h1))))
  refine Ak ?_;rintro _ ⟨⟨w3,b3⟩,rfl⟩;clear aR;go_wp2;go_ret;exact ⟨Bv H.out.symm,Bt B0 b3⟩
 have aI:(y.runs.length:Int)<8:=Bl;have aD:decide ((y.runs.length:Int)<8)=true:=decide_eq_true aI;have HD:=Bq (HD.out.trans (by rw [decide_eq_true a,Bool.true_and]));clear a;cases c:inB p.tasks 0 12;case false =>
  have H:=Bq (show D=false by rw [HD.out,c,Bool.false_and]);clear HD;refine Bw Bm Bm ?_;repeat (go_big_quiet_step ((first | (go_at_call 155;exact Dk (fun u=>Ce _ _ _ u.1)) | (go_at_call 218;rename_i x;have h1:=CS.out x.1 (Bt B0 x.2);exact Ey h1))))
  refine Ak ?_;rintro _ ⟨⟨w3,b3⟩,rfl⟩;clear aR;go_wp2;go_ret;exact ⟨Bv H.out.symm,Bt B0 b3⟩
 have cc:=Cv.1 c;have HD:=Bq (HD.out.trans (by rw [c,Bool.true_and]));have wr1:U.wrap ((sn:Int)+p.tasks)=(sn:Int)+p.tasks:=Aq _ Bl;have wr2:U.wrap (999999000 - p.tasks)=999999000 - p.tasks:=Aq _ Bl;cases d:decide ((sn:Int)+p.tasks<=40);case false =>
  have H:=Bq (show D=false by rw [HD.out,d,Bool.false_and]);clear HD cc;refine Bw Bm Bm ?_;repeat (go_big_quiet_step ((first | (go_at_call 155;exact Dk (fun u=>Ce _ _ _ u.1)) | (go_at_call 218;rename_i x;have h1:=CS.out x.1 (Bt B0 x.2);exact Ey h1))))
  refine Ak ?_;rintro _ ⟨⟨w3,b3⟩,rfl⟩;clear aR;go_wp2;go_ret;exact ⟨Bv H.out.symm,Bt B0 b3⟩
 have H:=Bq (show D=decide (y.seq<=999999000 - p.tasks) by rw [HD.out,d,Bool.true_and]);clear HD cc;cases e:decide (y.seq<=999999000 - p.tasks);all_goals
  rw [e] at H;refine Bw Bm Bm ?_;repeat (go_big_quiet_step ((first | (go_at_call 155;exact Dk (fun u=>Ce _ _ _ u.1)) | (go_at_call 218;rename_i x;have h1:=CS.out x.1 (Bt B0 x.2);exact Ey h1))))
  refine Ak ?_;rintro _ ⟨⟨w3,b3⟩,rfl⟩;clear aR;go_wp2;go_ret;exact ⟨Bv H.out.symm,Bt B0 b3⟩
theorem Lv (y:Yard) (s:Sl×Sl) (id tk tr:Int) (w:World) (hl:Cb y<=2000000) (h:Bu.rd w w y s) :
  Calls Am 175 #[Dg y s,J U id,J U tk,J U tr] w fun e' w'=>e' = .returned (.bool (tf (Fd y id tk tr)))/\Below w w w':=by
 have HR:=Bq (show ∀ W,Below w w W->Bu.rd W W y s from fun W hW=>Bu.rd_more (Bu.rd_below h hW) hW.size);obtain ⟨⟨A1,n1,c1⟩,⟨A2,n2,c2⟩⟩:=s;obtain rfl:n2=y.runs.length:=RdL.at1 (s:=⟨A2,n2,c2⟩) h.2;have h2:RdL Ch w w (Aa A2 y.runs.length c2) y.runs:=h.2;have cR:y.runs.length<=2000000:=Ah (Ck Cw _) (by unfold Cb at hl;omega);have X:=DBox.new 31 [J U y.now,J U y.seq,Aa A1 n1 c1,Aa A2 y.runs.length c2] w (b:=w.heap.size) rfl;have B0:Below w w (w.alloc (.cells #[J U y.now,J U y.seq,Aa A1 n1 c1,Aa A2 y.runs.length c2] 31)):=by repeat (first | exact Br _ _ | refine Below.alloc ?_ Bo _)
 have C:=Et y (⟨A1,n1,c1⟩,⟨A2,y.runs.length,c2⟩) id (w.alloc (.cells #[J U y.now,J U y.seq,Aa A1 n1 c1,Aa A2 y.runs.length c2] 31)) hl (HR.out _ B0);clear h;rcases Ek y id with hr | ⟨k,hk,hr⟩
 ·have H:=Bq (show tf (Fd y id tk tr)=false from Cf (fun hh=>by have:=hh.1;omega));rw [hr] at C;clear hr;go_enter Tryz.func175,Tryz.ntmps175;go_wp2_with fail
  generalize (w.alloc (.cells #[J U y.now,J U y.seq,Aa A1 n1 c1,Aa A2 y.runs.length c2] 31))=W at *
  refine C.mono ?_;rintro e1 w1 ⟨rfl,b1⟩;go_wp2;go_ret;exact ⟨Bv H.out.symm,Bt B0 b1⟩
 ·have uA:=Gj hl hk;have HR2:=Bq hr;rw [hr] at C;clear hr;have HK:=Bq (Gf hk HR2.out);go_enter Tryz.func175,Tryz.ntmps175;go_wp2_with fail
  generalize (w.alloc (.cells #[J U y.now,J U y.seq,Aa A1 n1 c1,Aa A2 y.runs.length c2] 31))=W at *
  refine C.mono ?_;rintro e1 w1 ⟨rfl,b1⟩;replace X:=X.below b1;have X_:=X.g4;replace B0:=Bt B0 b1;obtain ⟨b,o,⟨s1,⟨At,nt,ct⟩⟩,dZ,aH,cD,c0_,c1_,c2_,c3_,c4_,c5_,c6_,c7_⟩:=(h2.below B0).run hk;subst dZ;obtain rfl:nt=y.runs[k].tasks.length:=RdL.at1 (s:=⟨At,nt,ct⟩) cD.2;have h3:RdL Ee w1 w (Aa At y.runs[k].tasks.length ct) y.runs[k].tasks:=cD.2;have gG:(k:Int)<(y.runs.length:Int):=Bl;have hk00:(0:Int)<=(k:Int):=Bl;have dB:¬ (k:Int)<0:=Bl;have bL:b<w1:=Ai aH B0.size;have wr1:U.wrap ((y.runs[k].tasks.length:Int) - 1)=(y.runs[k].tasks.length:Int) - 1:=Aq _ Bl;cases q:inB tk 0 ((y.runs[k].tasks.length:Int) - 1)
  ·have H:=Bq (show tf (Fd y id tk tr)=false from Cf (fun hh=>by
    have h5:=hh.2.1;rw [HK.out] at h5
    have:=Cv.2 (show 0<=tk/\tk<=(y.runs[k].tasks.length:Int) - 1 by omega)
    rw [q] at this;cases this))
   go_wp2_with (go_at_call 58;refine (Cl _ _ _ _).mono ?_;rintro e w9 ⟨rfl,rfl⟩;rw [q])
   go_ret;exact ⟨Bv H.out.symm,B0⟩
  ·have qq:=Cv.1 q;obtain ⟨t,rfl⟩:=Ap qq.1;have ht:t<y.runs[k].tasks.length:=Bl;obtain ⟨b',o',_,rQ,bI,_,d0,d1,d2,d3⟩:=h3.task ht;subst rQ;have eL:b'<w1:=Ai bI B0.size;have jS:(t:Int)<(y.runs[k].tasks.length:Int):=Bl;have gD:(0:Int)<=(t:Int):=Bl;have H:=Bq (show tf (Fd y id t tr)=((y.runs[k].tasks[t].state == 3) && (y.runs[k].tasks[t].try_ == tr)) by
    rw [Bool.eq_iff_iff,Lq,Bool.and_eq_true,beq_iff_eq,beq_iff_eq];unfold Fd;rw [HK.out,Ao,Cr ht,HR2.out];constructor
    ·intro hh;exact hh.2.2
    ·intro hh;exact ⟨Bl,⟨Bl,Bl⟩,hh⟩)
   clear qq;generalize y.runs[k].tasks[t].state=st at *
   generalize y.runs[k].tasks[t].try_=ty at *
   cases q2:(st == 3)
   ·go_wp2_with (go_at_call 58;refine (Cl _ _ _ _).mono ?_;rintro e w9 ⟨rfl,rfl⟩;rw [q])
    go_ret;exact ⟨Bv (by rw [H.out,q2];rfl),B0.alloc B0.size _⟩
   ·go_wp2_with (go_at_call 58;refine (Cl _ _ _ _).mono ?_;rintro e w9 ⟨rfl,rfl⟩;rw [q])
    go_ret;exact ⟨Bv (by rw [H.out,q2];rfl),B0.alloc B0.size _⟩
theorem Pw (y:Yard) (s:Sl×Sl) (id tk tr:Int) (w:World) (hl:Cb y<=2000000) (h:Bu.rd w w y s) :
  Calls Am 168 #[Dg y s,J U id,J U tk,J U tr] w fun e' w'=>e' = .returned (J U (Fk y id tk tr))/\Below w w w':=by
 have HR:=Bq (show ∀ W,Below w w W->Bu.rd W W y s from fun W hW=>Bu.rd_more (Bu.rd_below h hW) hW.size);obtain ⟨⟨A1,n1,c1⟩,⟨A2,n2,c2⟩⟩:=s;have CY:=Bq (fun W hW=>Fi y (⟨A1,n1,c1⟩,⟨A2,n2,c2⟩) W hl (HR.out W hW));have CA:=Bq (fun W hW=>Et y (⟨A1,n1,c1⟩,⟨A2,n2,c2⟩) id W hl (HR.out W hW));have CH:=Bq (fun W hW=>Lv y (⟨A1,n1,c1⟩,⟨A2,n2,c2⟩) id tk tr W hl (HR.out W hW));clear h;obtain ⟨W,aG,X,B0⟩:=bx1 w 31 [J U y.now,J U y.seq,Aa A1 n1 c1,Aa A2 n2 c2];go_enter Tryz.func168,Tryz.ntmps168;go_wp2_with fail
 rw [<-aG.out];clear aG;refine (CY.out _ B0).mono ?_;rintro e1 w1 ⟨rfl,b1⟩;replace X:=X.below b1;have X_:=X.g4;replace B0:=Bt B0 b1;by_cases p0:Dd y;case neg =>
  have H:=Bq (show Fk y id tk tr=8 from if_pos p0);rw [Cf p0];clear p0;go_wp2;go_ret;exact ⟨by rw [H.out];rfl,B0⟩
 rw [Dj p0];go_wp2_with fail
 refine (CA.out _ B0).mono ?_;rintro e1 w2 ⟨rfl,b2⟩;clear X_;replace X:=X.below b2;have X_:=X.g4;replace B0:=Bt B0 b2;by_cases p1:Da y id<0
 ·have H:=Bq (show Fk y id tk tr=10 by unfold Fk;rw [if_neg (fun h=>h p0),if_pos p1]);clear p0;go_wp2;go_ret;exact ⟨by rw [H.out];rfl,B0⟩
 go_wp2_with fail
 refine (CH.out _ B0).mono ?_;rintro e1 w3 ⟨rfl,b3⟩;replace B0:=Bt B0 b3;by_cases p2:Fd y id tk tr
 ·have H:=Bq (show Fk y id tk tr=0 by unfold Fk;rw [if_neg (fun h=>h p0),if_neg Bl,if_neg (fun h=>h p2)]);rw [Dj p2];clear p0 p2;go_wp2;go_ret;exact ⟨by rw [H.out];rfl,B0⟩
 ·have H:=Bq (show Fk y id tk tr=11 by unfold Fk;rw [if_neg (fun h=>h p0),if_neg Bl,if_pos p2]);rw [Cf p2];clear p0 p2;go_wp2;go_ret;exact ⟨by rw [H.out];rfl,B0⟩
theorem Ul (s:Int) (y:Task):∀ (l:List Task) (k:Nat) (hk:k<l.length),Dl (l.set k y) s+(if l[k].state=s then 1 else 0)=Dl l s+(if y.state=s then 1 else 0)
 | x :: l,0,_=>by
  unfold Dl;by_cases h1:x.state=s<;>by_cases h2:y.state=s<;>simp [h1,h2]
 | x :: l,k+1,hk=>by
  have ih:=Ul s y l k (by simpa using hk);unfold Dl at *
  by_cases h1:x.state=s
  ·simp only [List.set_cons_succ,List.getElem_cons_succ,List.filter_cons,beq_iff_eq,h1,if_true,List.length_cons];omega
  ·simp only [List.set_cons_succ,List.getElem_cons_succ,List.filter_cons,beq_iff_eq,h1,if_false];exact ih
theorem Kt {l:List Task} {t:Nat} (h:t<l.length) (f:Task->Task):Gu l t f=l.set t (f l[t]):=by
 unfold Gu;rw [List.getD_eq_getElem?_getD,List.getElem?_eq_getElem h];rfl
theorem Px {r r':Run} {l:List Nat} (h:∀ b,(Cs r b).state=4 ↔ (Cs r' b).state=4):Hg r l=Hg r' l:=by
 unfold Hg;congr 1;apply List.filter_congr;intro b _;by_cases q:(Cs r b).state=4
 ·simp [q,(h b).1 q]
 ·have q':¬ (Cs r' b).state=4:=fun hh=>q ((h b).2 hh);rw [show ((Cs r b).state != 4)=true from bne_iff_ne.2 q,show ((Cs r' b).state != 4)=true from bne_iff_ne.2 q']
theorem V9 (x:Task):(Df x).state=4/\x.state=4\/(Df x).state=5/\x.state=5\/(Df x).state=6/\x.state≠4/\x.state≠5:=by
 unfold Df;by_cases h4:x.state=4
 ·simp [h4]
 ·by_cases h5:x.state=5
  ·simp [h5]
  ·simp [h4,h5]
theorem Ac3 (l:List Task):Dl (l.map Df) 4=Dl l 4/\Dl (l.map Df) 5=Dl l 5/\Kh (l.map Df)=0:=by
 induction l with
 | nil=>exact ⟨rfl,rfl,rfl⟩
 | cons x l ih =>
  have hc:∀ (y:Task) (l:List Task) s,Dl (y :: l) s=(if y.state=s then 1 else 0)+Dl l s:=by
   intro y l s;unfold Dl;by_cases h:y.state=s<;>simp [h];omega
  obtain ⟨h1,h2,h3⟩:=ih;unfold Kh at *
  simp only [List.map_cons,hc];rcases V9 x with ⟨a,b⟩ | ⟨a,b⟩ | ⟨a,b,c⟩
  ·simp [a,b,h1,h2];omega
  ·simp [a,b,h1,h2];omega
  ·simp [a,b,c,h1,h2];omega
theorem Qr (i:Int) (p:Plan) (s:Int) (l:List Task) (k:Nat):Cs ⟨i,p,s,l⟩ k=l.getD k ⟨0,0,0,0⟩:=rfl
theorem Zt {l:List Task} {s:Int} {k:Nat} (hk:k<l.length) (h:l[k].state=s):1<=Dl l s:=by
 unfold Dl;apply List.length_pos_of_mem (a:=l[k]);rw [List.mem_filter];exact ⟨Aw hk,by simp [h]⟩
theorem Aei {l:List Task} {s:Int} {k:Nat} (hk:k<l.length) (h:¬ l[k].state=s):Dl l s<l.length:=by
 unfold Dl;rcases Nat.lt_or_ge (l.filter fun x=>x.state == s).length l.length with h1 | h1
 ·exact h1
 ·have h2:=List.filter_sublist (p:=fun x:Task=>x.state == s) (l:=l);have h3:=h2.eq_of_length_le h1;have h4:l[k]∈(l.filter fun x=>x.state == s):=by rw [h3];exact Aw hk
  rw [List.mem_filter] at h4;exact absurd (by simpa using h4.2) h
theorem O6 {r:Run} {u:Nat} (h:H9 r u):Dl r.tasks 5=0/\Dl r.tasks 6=0/\Dl r.tasks 4<r.tasks.length/\r.state=1:=by
 obtain ⟨hr,⟨_,hu⟩,hs⟩:=h;have kE:u<r.tasks.length:=Bl;rw [Ao,Cr kE] at hs;have h3:=Zt kE hs;have h4:=Aei (s:=4) kE Bl;have h5:=hr.2.2.2.2.1;have h6:=hr.2.2.2.2.2;have hR:¬ Kh r.tasks=0:=by unfold Kh;omega
 unfold stL at h5;rw [if_neg Bl,if_neg (fun hh=>hR hh.2),if_neg (fun hh=>hR hh.2.2)] at h5;by_cases q:Dl r.tasks 5=0/\Dl r.tasks 6=0
 ·rw [if_pos q] at h5;exact ⟨q.1,q.2,h4,h5⟩
 ·rw [if_neg q] at h5;exact absurd h5 h6
theorem Wa (r:Run) (u:Nat):(De r u).id=r.id/\(De r u).plan=r.plan:=by
 unfold De;split<;>exact ⟨rfl,rfl⟩
theorem Zu {r:Run} {u:Nat} (h:H9 r u):Gn (De r u):=by
 obtain ⟨l5,l6,l4,ls⟩:=O6 h;obtain ⟨hr,⟨_,hu⟩,hs⟩:=h;have kE:u<r.tasks.length:=Bl;rw [Ao] at hs;have hsu:=hs;rw [Cr kE] at hs;obtain ⟨a1,a2,a3,a4,a5,a6⟩:=hr;have hq:=a4 u kE;unfold Gt at hq;rw [Cr kE] at hq;obtain ⟨q1,q2,q3,q4,q5,q6,q7,q8⟩:=hq;have hgetS:∀ (y:Task) b,(r.tasks.set u y).getD b ⟨0,0,0,0⟩=if b=u then y else Cs r b:=by
  intro y b;unfold Cs;rw [List.getD_eq_getElem?_getD,List.getD_eq_getElem?_getD,List.getElem?_set];by_cases e:u=b
  ·subst e;simp [kE]
  ·rw [if_neg e,if_neg (fun hh=>e hh.symm)]
 unfold De;split
 ·next ht =>
  rw [Cr kE] at ht;rw [Kt kE];refine ⟨a1,a2,by simpa using a3,?_,?_,a6⟩
  ·intro t eN;have htl':t<r.tasks.length:=by simpa using eN
   have hN:H7 ⟨r.id,r.plan,r.state,r.tasks.set u ⟨2,r.tasks[u].need,r.tasks[u].try_,0⟩⟩ t=H7 r t:=by
    unfold H7;apply Px;intro b;rw [Qr,hgetS];by_cases e:b=u
    ·subst e;rw [if_pos rfl];simp [hsu]
    ·rw [if_neg e]
   unfold Gt;rw [hN,Qr,hgetS];by_cases e:t=u
   ·subst e;rw [if_pos rfl]
    have:=q8 (.inl hs)
    refine ⟨Bn,q2,q3,Bn,Bn,Bn,?_,Bn⟩;intro _;exact ⟨this.1,ht⟩
   ·rw [if_neg e];exact a4 t htl'
  ·have c:=fun s=>Ul s ⟨2,r.tasks[u].need,r.tasks[u].try_,0⟩ r.tasks u kE;have c1:=c 1;have c2:=c 2;have c3:=c 3;have c4:=c 4;have c5:=c 5;have c6:=c 6;simp only [hs] at c1 c2 c3 c4 c5 c6;simp at c1 c2 c3 c4 c5 c6;show r.state=stL (r.tasks.set u ⟨2,r.tasks[u].need,r.tasks[u].try_,0⟩);rw [ls];unfold stL;have hR:¬ Kh (r.tasks.set u ⟨2,r.tasks[u].need,r.tasks[u].try_,0⟩)=0:=by unfold Kh;omega
   rw [if_neg (by rw [Bh];omega),if_neg (fun hh=>hR hh.2),if_neg (fun hh=>hR hh.2.2),if_pos Bl]
 ·next ht =>
  rw [Cr kE] at ht;rw [Kt kE];have hX:∀ b,Cs (Dm ⟨r.id,r.plan,r.state,r.tasks.set u ⟨5,r.tasks[u].need,r.tasks[u].try_,0⟩⟩ 3) b=if b<r.tasks.length then Df (if b=u then ⟨5,r.tasks[u].need,r.tasks[u].try_,0⟩ else Cs r b) else ⟨0,0,0,0⟩:=by
   intro b;unfold Dm;rw [Qr,List.getD_eq_getElem?_getD,List.getElem?_map];by_cases e:b<r.tasks.length
   ·rw [if_pos e,<-hgetS,List.getD_eq_getElem?_getD,List.getElem?_eq_getElem (by rw [Bh];exact e)];rfl
   ·rw [if_neg e,List.getElem?_eq_none (by rw [Bh];omega)];rfl
  refine ⟨a1,a2,by simpa [Dm] using a3,?_,?_,by simp [Dm]⟩
  ·intro t eN;have htl':t<r.tasks.length:=by simpa [Dm] using eN
   have hN:H7 (Dm ⟨r.id,r.plan,r.state,r.tasks.set u ⟨5,r.tasks[u].need,r.tasks[u].try_,0⟩⟩ 3) t=H7 r t:=by
    show Hg _ _=Hg _ _;apply Px;intro b;rw [hX];by_cases e:b<r.tasks.length
    ·rw [if_pos e];by_cases e2:b=u
     ·subst e2;rw [if_pos rfl];simp [hsu,Df]
     ·rw [if_neg e2];rcases V9 (Cs r b) with ⟨a,b⟩ | ⟨a,b⟩ | ⟨a,b,c⟩
      ·simp [a,b]
      ·simp [a,b]
      ·simp [a,b]
    ·rw [if_neg e];unfold Cs;rw [List.getD_eq_getElem?_getD,List.getElem?_eq_none Bl];simp
   unfold Gt;rw [hN,hX,if_pos htl'];show Ni _ _ r.plan.most;by_cases e:t=u
   ·subst e;rw [if_pos rfl]
    have:=q8 (.inl hs)
    unfold Df;rw [if_neg Bn];refine ⟨Bn,q2,q3,Bn,Bn,Bn,Bn,?_⟩;intro _;exact this
   ·rw [if_neg e];obtain ⟨p1,p2,p3,p4,p5,p6,p7,p8⟩:=a4 t htl';unfold Df;split
    ·refine ⟨Bn,p2,p3,Bn,Bn,Bn,Bn,Bn⟩
    ·exact ⟨p1,p2,p3,p4,p5,p6,p7,p8⟩
  ·have c:=fun s=>Ul s ⟨5,r.tasks[u].need,r.tasks[u].try_,0⟩ r.tasks u kE;have c4:=c 4;have c5:=c 5;simp only [hs] at c4 c5;simp at c4 c5;obtain ⟨m1,m2,m3⟩:=Ac3 (r.tasks.set u ⟨5,r.tasks[u].need,r.tasks[u].try_,0⟩);show (3:Int)=stL ((r.tasks.set u ⟨5,r.tasks[u].need,r.tasks[u].try_,0⟩).map Df);unfold stL;rw [if_neg (by rw [List.length_map,Bh];omega),if_pos Bl]
theorem Py {α:Type} {cnt:α->Nat} {K:Nat} : ∀ {l:List α},(∀ x∈l,cnt x<=K)->E6 cnt l<=l.length * (K+1)
 | [],_=>by simp [E6]
 | x :: l,h=>by
  have ih:=Py (cnt:=cnt) (K:=K) (l:=l) (fun y hy=>h y (List.mem_cons_of_mem _ hy))
  have:=h x (List.mem_cons_self ..)
  unfold E6 at *
  rw [List.map_cons,List.sum_cons,List.length_cons,Nat.succ_mul];omega
theorem J3 {r:Run} (h:Gn r):Cw r<=42:=by
 have h1:=Ez (C9.1 h.2.1).1;have h2:=Dp h;have e1:Eb r.plan=r.plan.edges.length:=Fn (fun _=>rfl) _;have e2:E6 He r.tasks=r.tasks.length:=Fn (fun _=>rfl) _;unfold Cw;omega
theorem N0 {y:Yard} {M:Nat} (h4:y.shelf.length=4) (hM:∀ s∈y.shelf,s.length<=M) (h8:y.runs.length<=8) (hr:∀ k (h:k<y.runs.length),Gn y.runs[k]):Cb y<=4 * (M+1)+344:=by
 have h1:E6 C8 y.shelf<=y.shelf.length * (M+1):=Py (fun s hs=>by
  have e:C8 s=s.length:=Fn (fun _=>rfl) _;rw [e];exact hM s hs)
 have h2:E6 Cw y.runs<=y.runs.length * (42+1):=Py (fun r nX=>by
  obtain ⟨k,hk,rfl⟩:=List.getElem_of_mem nX;exact J3 (hr k hk))
 rw [h4] at h1;have h3:y.runs.length * (42+1)<=8 * 43:=Nat.mul_le_mul_right _ h8;unfold Cb;omega
structure Trn (y:Yard) (m:Nat) (z:Yard):Prop where
 now:z.now=y.now
 four:z.shelf.length=4
 all:∀ s∈z.shelf,s.length<=80+12 * m
 seq:1<=z.seq/\z.seq<=1000000000+12 * m
 len:z.runs.length=y.runs.length
 le8:z.runs.length<=8
 run:∀ k (h:k<z.runs.length) (h':k<y.runs.length),Gn z.runs[k]/\z.runs[k].id=y.runs[k].id/\z.runs[k].tasks.length=y.runs[k].tasks.length
theorem Trn.start {y:Yard} (h:Dd y):Trn y 0 y :=
 ⟨rfl,h.2.2.1,fun s hs=>by have:=(h.2.2.2.1 s hs).1;omega,by have:=h.2.1;omega,rfl,h.2.2.2.2.2.2.1,fun k hk _=>⟨D7 h hk,rfl,rfl⟩⟩
theorem Trn.mono {y z:Yard} {m n:Nat} (h:Trn y m z) (hm:m<=n):Trn y n z :=
 ⟨h.now,h.four,fun s hs=>by have:=h.all s hs;omega,by have:=h.seq;omega,h.len,h.le8,h.run⟩
theorem Wb (y:Yard) (k:Nat) (r:Run) (hk:k<y.runs.length):Fb y k r=Hs ⟨y.now,y.seq,y.shelf,y.runs.set k r⟩ y.runs[k] r r.tasks.length:=by
 unfold Fb;rw [List.getD_eq_getElem?_getD,List.getElem?_eq_getElem hk];rfl
theorem Trn.step {y z:Yard} {m:Nat} (h:Trn y m z) {k u:Nat} (hk:k<z.runs.length) (hr:H9 z.runs[k] u):Trn y (m+1) (Fb z k (De z.runs[k] u)):=by
 have hR:=Zu hr;have hL:=Dp hR;rw [Wb _ _ _ hk];have hF:=O4 (y:=⟨z.now,z.seq,z.shelf,z.runs.set k (De z.runs[k] u)⟩) (was:=z.runs[k]) (r:=De z.runs[k] u) h.all (De z.runs[k] u).tasks.length;generalize Hs ⟨z.now,z.seq,z.shelf,z.runs.set k (De z.runs[k] u)⟩ z.runs[k] (De z.runs[k] u) (De z.runs[k] u).tasks.length=Z at *
 have e:Z.runs=z.runs.set k (De z.runs[k] u):=hF.runs;refine ⟨hF.now.trans h.now,hF.len.trans h.four,fun s hs=>by have:=hF.all s hs;omega,?_,by rw [e,Bh];exact h.len,by rw [e,Bh];exact h.le8,fun j hj hj'=>?_⟩
 ·have h1:=hF.seq;have h2:=h.seq;dsimp only at h1;omega
 ·have hjz:j<z.runs.length:=by rw [h.len];exact hj'
  have e2:Z.runs[j]=if k=j then De z.runs[k] u else z.runs[j]:=by
   rw [show Z.runs[j]=(z.runs.set k (De z.runs[k] u))[j]'(by rw [Bh];exact hjz) by simp only [e],List.getElem_set]
  rw [e2];have h1:=h.run j hjz hj';split
  ·next hkj =>
   subst hkj;exact ⟨hR,(Wa _ _).1.trans h1.2.1,(Hj _ _).trans h1.2.2⟩
  ·exact h1
theorem Trn.cnt {y z:Yard} {m:Nat} (h:Trn y m z) (hm:m<=1000):Cb z<=2000000:=by
 have:=N0 h.four h.all h.le8 (fun k hk=>(h.run k hk (by rw [<-h.len];exact hk)).1)
 omega
theorem Zv {α:Type} {p:α->Bool} {l l':List α} (hl:l.length=l'.length) (h:∀ k (h1:k<l.length) (h2:k<l'.length),p l[k]=p l'[k]):Gs p l=Gs p l':=by
 rcases Lm p l' with e | ⟨k,hk,e⟩
 ·rw [e];refine Jq (fun j hj=>?_);rw [h j hj Bl];unfold Gs at e;cases q:l'.findIdx? p with
  | none =>
   rw [List.findIdx?_eq_none_iff] at q;exact q _ (Aw _)
  | some i=>rw [q] at e;exact absurd e Bn
 ·rw [e];unfold Gs at e;cases q:l'.findIdx? p with
  | none=>rw [q] at e;exact absurd e Bn
  | some i =>
   rw [q] at e;have e':i=k:=Int.ofNat.inj e;subst e';obtain ⟨h1,h2,h3⟩:=List.findIdx?_eq_some_iff_getElem.1 q;exact I8 Bl (fun j hj=>by rw [h j Bl Bl];simpa using h3 j hj) (by rw [h i Bl hk];exact h2)
theorem Trn.runAt {y z:Yard} {m:Nat} (h:Trn y m z) (id:Int):Da z id=Da y id:=by
 rw [Kw h.le8,Kw (by rw [<-h.len];exact h.le8)];exact Zv h.len (fun k h1 h2=>by unfold Mb;rw [(h.run k h1 h2).2.1])
theorem Xh (y:Yard) (s:Sl×Sl) (p:Plan) (ve:Value) (w:World) (hl:Cb y<=2000000) (hS:Fo y<=40) (hq:0<=y.seq/\y.seq<=2000000000) (h:Bu.rd w w y s) :
  Calls Am 165 #[Dg y s,Ge p ve] w fun e' w'=>e' = .returned (.bool (Ln y p))/\Below w w w':=by
 have HR:=Bq (show ∀ W,Below w w W->Bu.rd W W y s from fun W hW=>Bu.rd_more (Bu.rd_below h hW) hW.size);obtain ⟨⟨A1,n1,c1⟩,⟨A2,n2,c2⟩⟩:=s;obtain rfl:n2=y.runs.length:=RdL.at1 (s:=⟨A2,n2,c2⟩) h.2;have CS:=Bq (fun W hW=>Oh y (⟨A1,n1,c1⟩,⟨A2,y.runs.length,c2⟩) W hl (HR.out W hW));clear h HR;have HD:=Bq (show Ln y p=(decide (y.runs.length<8) && (inB p.tasks 0 12 && (decide ((Fo y:Int)+p.tasks<=40) && decide (y.seq<=999999000 - p.tasks)))) from rfl);generalize Ln y p=D at *
 generalize Fo y=sn at *
 obtain ⟨W,aG,X,P,B0⟩:=bx2 w 31 [J U y.now,J U y.seq,Aa A1 n1 c1,Aa A2 y.runs.length c2] 43 [J U p.prio,J U p.most,J U p.wait,J U p.tasks,ve];go_enter Tryz.func165,Tryz.ntmps165;go_wp2;rw [<-aG.out];clear aG;have X_:=X.g4;have P_:=P.g5;have aR:=C7 W;by_cases a:y.runs.length<8;case neg =>
  have aI:¬ (y.runs.length:Int)<8:=Bl;have aD:decide ((y.runs.length:Int)<8)=false:=decide_eq_false aI;have H:=Bq (show D=false by rw [HD.out,decide_eq_false a,Bool.false_and]);clear HD a;refine Bw Bm Bm ?_;repeat (go_big_quiet_step ((first | (go_at_call 58;exact Dk (fun u=>Cl _ _ _ u.1)) | (go_at_call 121;rename_i x;have h1:=CS.out x.1 (Bt B0 x.2);exact Ey h1))))
  refine Ak ?_;rintro _ ⟨⟨w3,b3⟩,rfl⟩;clear aR;go_wp2;go_ret;exact ⟨Bv H.out.symm,Bt B0 b3⟩
 have aI:(y.runs.length:Int)<8:=Bl;have aD:decide ((y.runs.length:Int)<8)=true:=decide_eq_true aI;have HD:=Bq (HD.out.trans (by rw [decide_eq_true a,Bool.true_and]));clear a;cases c:inB p.tasks 0 12;case false =>
  have H:=Bq (show D=false by rw [HD.out,c,Bool.false_and]);clear HD;refine Bw Bm Bm ?_;repeat (go_big_quiet_step ((first | (go_at_call 58;exact Dk (fun u=>Cl _ _ _ u.1)) | (go_at_call 121;rename_i x;have h1:=CS.out x.1 (Bt B0 x.2);exact Ey h1))))
  refine Ak ?_;rintro _ ⟨⟨w3,b3⟩,rfl⟩;clear aR;go_wp2;go_ret;exact ⟨Bv H.out.symm,Bt B0 b3⟩
 have cc:=Cv.1 c;have HD:=Bq (HD.out.trans (by rw [c,Bool.true_and]));have wr1:U.wrap ((sn:Int)+p.tasks)=(sn:Int)+p.tasks:=Aq _ Bl;have wr2:U.wrap (999999000 - p.tasks)=999999000 - p.tasks:=Aq _ Bl;cases d:decide ((sn:Int)+p.tasks<=40);case false =>
  have H:=Bq (show D=false by rw [HD.out,d,Bool.false_and]);clear HD cc;refine Bw Bm Bm ?_;repeat (go_big_quiet_step ((first | (go_at_call 58;exact Dk (fun u=>Cl _ _ _ u.1)) | (go_at_call 121;rename_i x;have h1:=CS.out x.1 (Bt B0 x.2);exact Ey h1))))
  refine Ak ?_;rintro _ ⟨⟨w3,b3⟩,rfl⟩;clear aR;go_wp2;go_ret;exact ⟨Bv H.out.symm,Bt B0 b3⟩
 have H:=Bq (show D=decide (y.seq<=999999000 - p.tasks) by rw [HD.out,d,Bool.true_and]);clear HD cc;cases e:decide (y.seq<=999999000 - p.tasks);all_goals
  rw [e] at H;refine Bw Bm Bm ?_;repeat (go_big_quiet_step ((first | (go_at_call 58;exact Dk (fun u=>Cl _ _ _ u.1)) | (go_at_call 121;rename_i x;have h1:=CS.out x.1 (Bt B0 x.2);exact Ey h1))))
  refine Ak ?_;rintro _ ⟨⟨w3,b3⟩,rfl⟩;clear aR;go_wp2;go_ret;exact ⟨Bv H.out.symm,Bt B0 b3⟩
theorem Um (es:List (Nat×Nat)) (T t:Nat):∀ x∈Fa es T t,x<T:=by
 induction T with
 | zero =>
  intro x hx
  have:=Li es 0 t
  have h0:Fa es 0 t=[]:=List.eq_nil_of_length_eq_zero Bl;rw [h0] at hx;cases hx
 | succ T ih =>
  intro x hx;rw [Pj] at hx;rcases Bi.1 hx with h | h
  ·have:=ih x h;omega
  ·unfold Ii at h;split at h
   ·simp at h;omega
   ·cases h
def Ad0 (r:Run) (u:Nat) (L:List Nat):List Task:=L.foldl (fun l b=>Gu l b Dh) (Gu r.tasks u fun x=>⟨4,x.need,x.try_,0⟩)
theorem Ky (r:Run) (u:Nat):∀ (L:List Nat) (l:List Task),(L.foldl (fun l b=>Gu l b Dh) l).length=l.length
 | [],l=>rfl
 | b :: L,l=>by rw [List.foldl_cons,Ky r u L,Nk]
theorem Qs (L:List Nat):∀ (l:List Task) (m:Int),(∀ x∈l,-m<=x.need/\x.need<=1000/\1<=x.state/\x.state<=6)->(0<=m) -> ∀ x∈L.foldl (fun l b=>Gu l b Dh) l,-(m+L.length)<=x.need/\x.need<=1000/\1<=x.state/\x.state<=6:=by
 induction L with
 | nil=>intro l m h _ x hx;have:=h x hx;simp;exact this
 | cons b L ih =>
  intro l m h hm x hx;rw [List.foldl_cons] at hx;have h1:∀ x∈Gu l b Dh,-(m+1)<=x.need/\x.need<=1000/\1<=x.state/\x.state<=6:=by
   intro x hx;unfold Gu at hx;rcases List.mem_or_eq_of_mem_set hx with h2 | h2
   ·have:=h x h2;omega
   ·subst h2;by_cases hb:b<l.length
    ·rw [List.getD_eq_getElem?_getD,List.getElem?_eq_getElem hb]
     have:=h _ (Aw hb)
     simp only [Option.getD_some,Dh];split<;>omega
    ·rw [List.set_eq_of_length_le Bl] at hx
     have:=h _ hx
     omega
  have:=ih _ (m+1) h1 Bl x hx
  rw [List.length_cons];omega
section
theorem Ad1 {l:List Entry} {e x:Entry} (h:x∈Iw l e):x∈l\/x=e:=by
 unfold Iw at h;rcases Bi.1 h with h | h
 ·exact .inl ((List.takeWhile_prefix _).sublist.subset h)
 ·rcases List.mem_cons.1 h with h | h
  ·exact .inr h
  ·exact .inl ((List.dropWhile_suffix _).sublist.subset h)
theorem Un (b:List Entry):∀ (a:List Entry) {x:Entry},x∈b.foldl Iw a->x∈a\/x∈b:=by
 induction b with
 | nil=>intro a x h;exact .inl h
 | cons e b ih =>
  intro a x h;rw [List.foldl_cons] at h;rcases ih _ h with h | h
  ·rcases Ad1 h with h | h
   ·exact .inl h
   ·exact .inr (by rw [h];exact List.mem_cons_self ..)
  ·exact .inr (List.mem_cons_of_mem _ h)
theorem Zw {a b:List Entry} {x:Entry} (h:x∈Fu a b):x∈a\/x∈b:=by
 unfold Fu at h;split at h
 ·exact .inl h
 ·exact Un b a h
theorem Mr {y z:Yard} (h:z.runs=y.runs) (id:Int):Da z id=Da y id:=by unfold Da;rw [h]
theorem Nl {y z:Yard} (h:z.runs=y.runs) (e:Entry):El z e=El y e:=by
 unfold El;apply Adp;have hk:Js z e.run=Js y e.run:=by unfold Js;rw [h,Mr h]
 unfold Tn;rw [hk,Mr h]
theorem Fz {y:Yard} {i:Nat} (h:i<y.shelf.length):y.shelf.getD i []=y.shelf[i]:=by
 rw [List.getD_eq_getElem?_getD,List.getElem?_eq_getElem h];rfl
structure Pol (y:Yard) (home:Nat) (z:Yard):Prop where
 now:z.now=y.now
 seq:z.seq=y.seq
 runs:z.runs=y.runs
 four:z.shelf.length=4
 all:∀ s∈z.shelf,s.length<=80
 fresh:∀ e∈z.shelf.getD home [],El y e=true
theorem Me (y:Yard) (i:Nat):(Bz y i).shelf.length=y.shelf.length:=by unfold Bz;simp
theorem N1 {y:Yard} {i M:Nat} (h:∀ s∈y.shelf,s.length<=M):∀ s∈(Bz y i).shelf,s.length<=M:=by
 intro s hs;unfold Bz at hs;rcases List.mem_or_eq_of_mem_set hs with h1 | h1
 ·exact h s h1
 ·subst h1;refine Ah (List.length_filter_le _ _) ?_;rw [List.getD_eq_getElem?_getD];cases q:y.shelf[i]? with
  | none=>simp
  | some s=>exact h s (List.mem_of_getElem? q)
theorem Zx {y:Yard} {i:Nat} (h:i<y.shelf.length):(Bz y i).shelf.getD i []=(y.shelf[i]).filter fun e=>El y e:=by
 rw [Fz (by rw [Me];exact h)];unfold Bz;simp only [List.getElem_set_self];rw [Fz h]
theorem Qt {y:Yard} {i j:Nat} (h:i≠j):(Bz y i).shelf.getD j []=y.shelf.getD j []:=by
 unfold Bz;simp only [List.getD_eq_getElem?_getD,List.getElem?_set_ne h]
theorem Pol.start {y:Yard} (h:Dd y) {home:Nat} (hh:home<4):Pol y home (Bz y home):=by
 have h4:=h.2.2.1;refine ⟨rfl,rfl,rfl,by rw [Me];exact h4,N1 (fun s hs=>(h.2.2.2.1 s hs).1),fun e he=>?_⟩;rw [Zx Bl] at he;exact (List.mem_filter.1 he).2
theorem Lw (l:List Entry) (h:l.length<=80):(l.take (Cx l)).length<=80:=by rw [Az];omega
noncomputable def J4 (home:Nat) (y:Yard) (v:Nat):Yard :=
 ⟨y.now,y.seq,((Bz y v).shelf.set v (((Bz y v).shelf.getD v []).drop (Cx ((Bz y v).shelf.getD v [])))).set home (Fu [] (((Bz y v).shelf.getD v []).take (Cx ((Bz y v).shelf.getD v [])))),y.runs⟩
theorem Zy {home:Nat} {y:Yard} {v:Nat} (h:¬ (y.shelf.getD home []).length=0):Ea home y v=y:=by unfold Ea;rw [if_neg h]
theorem Mf {home:Nat} {y:Yard} {v:Nat} (h:(y.shelf.getD home []).length=0) (hv:v≠home):Ea home y v=J4 home y v:=by
 unfold Ea;rw [if_pos h];unfold J4;have e:((Bz y v).shelf.set v (((Bz y v).shelf.getD v []).drop (Cx ((Bz y v).shelf.getD v [])))).getD home []=[]:=by
  rw [List.getD_eq_getElem?_getD,List.getElem?_set_ne hv,<-List.getD_eq_getElem?_getD,Qt hv];exact List.eq_nil_of_length_eq_zero h
 simp only [e];rfl
theorem Xi {home:Nat} {y:Yard} {v:Nat} (h4:y.shelf.length=4) (hh:home<4):(J4 home y v).shelf.getD home []=Fu [] (((Bz y v).shelf.getD v []).take (Cx ((Bz y v).shelf.getD v []))):=by
 rw [Fz (by unfold J4;simp [Bz];omega)];unfold J4;simp only [List.getElem_set_self]
theorem Pol.step {y z:Yard} {home v:Nat} (h:Pol y home z) (hh:home<4) (hv:v<4) (aC:v≠home):Pol y home (Ea home z v):=by
 by_cases q:(z.shelf.getD home []).length=0
 ·rw [Mf q aC];have jR:∀ e∈(Bz z v).shelf.getD v [],El y e=true:=by
   intro e he;rw [Zx (by rw [h.four];exact hv)] at he;rw [<-Nl h.runs];exact (List.mem_filter.1 he).2
  have sU:=N1 (i:=v) h.all;have hlv:((Bz z v).shelf.getD v []).length<=80:=by
   rw [Fz (by rw [Me,h.four];exact hv)];exact sU _ (Aw _)
  refine ⟨h.now,h.seq,h.runs,by unfold J4;simp [Bz];exact h.four,fun s hs=>?_,fun e he=>?_⟩
  ·unfold J4 at hs;rcases List.mem_or_eq_of_mem_set hs with h1 | h1
   ·rcases List.mem_or_eq_of_mem_set h1 with h2 | h2
    ·exact sU s h2
    ·subst h2;rw [List.length_drop];omega
   ·subst h1;refine Ah (Zb _ _) ?_
    have:=Lw _ hlv
    simp only [List.length_nil,Nat.zero_add];exact this
  ·rw [Xi h.four hh] at he;rcases Zw he with h1 | h1
   ·cases h1
   ·exact jR e (List.mem_of_mem_take h1)
 ·rw [Zy q];exact h
theorem Pol.cnt {y z:Yard} {home:Nat} (h:Pol y home z) (hy:Dd y):Cb z<=2000000:=by
 have:=N0 h.four h.all (by rw [h.runs];exact hy.2.2.2.2.2.2.1) (fun k hk=>by
  have bJ:k<y.runs.length:=by rw [<-h.runs];exact hk
  have e:z.runs[k]=y.runs[k]:=by simp only [h.runs]
  rw [e];exact D7 hy bJ)
 omega
theorem O7 {home draw:Int} : ∀ v∈D9 home draw,v<4:=by
 intro v hv;unfold D9 at hv;obtain ⟨i,_,rfl⟩:=List.mem_map.1 hv;exact Nat.mod_lt _ Bp
theorem O8 {home draw:Int} (h0:0<=home) (h:home<4):∀ v∈D9 home draw,v≠home.toNat:=by
 intro v hv;unfold D9 at hv;obtain ⟨i,_,rfl⟩:=List.mem_map.1 hv
 have:=Nat.mod_lt ((max draw 0 % 3).toNat+i) (show 0<3 by decide)
 omega
theorem Rj (home draw:Int):(D9 home draw).length=3:=by unfold D9;simp
noncomputable def Lb (y:Yard) (home draw:Int):Yard:=(D9 home draw).foldl (Ea home.toNat) (Bz y home.toNat)
theorem Pol.fold {y:Yard} {home:Nat} (hh:home<4):∀ (l:List Nat) (z:Yard),Pol y home z->(∀ v∈l,v<4/\v≠home)->Pol y home (l.foldl (Ea home) z)
 | [],_,h,_=>h
 | v :: l,z,h,hl=>Pol.fold hh l _ (h.step hh (hl v (List.mem_cons_self ..)).1 (hl v (List.mem_cons_self ..)).2) (fun x hx=>hl x (List.mem_cons_of_mem _ hx))
theorem Lx {home:Nat} : ∀ (l:List Nat) (z:Yard),¬ (z.shelf.getD home []).length=0->l.foldl (Ea home) z=z
 | [],_,_=>rfl
 | v :: l,z,h=>by rw [List.foldl_cons,Zy h];exact Lx l z h
noncomputable def Rk (z:Yard) (home:Nat):List Entry->Yard×Reply
 | []=>(z,⟨9,0,0,0⟩)
 | e :: rest=>(⟨z.now,z.seq,z.shelf.set home rest,z.runs.set (Da z e.run).toNat (Du (Js z e.run) e.task.toNat z.now)⟩,⟨0,e.run,e.task,(Cs (Js z e.run) e.task.toNat).try_+1⟩)
noncomputable def M6 (z:Yard) (home:Nat):Yard×Reply:=Rk z home (z.shelf.getD home [])
open Classical in
noncomputable def Io (y:Yard) (worker draw:Int):Yard×Reply :=
 if ¬ Dd y then (y,⟨8,0,0,0⟩) else if inB worker 0 99=false then (y,⟨5,0,0,0⟩) else M6 (Lb y (worker % 4) draw) (worker % 4).toNat
end
theorem Zz {α:Type} {l:List α} {k:Nat} (h:k<l.length) {x:α} (hx:l[k]=x):l.set k x=l:=by subst hx;exact List.set_getElem_self h
def Wc (l:List Task) (b o c n:Nat) (w:World) (e:Ending) (w':World):Prop :=
 e = .returned (.tuple #[])/\Hw E7 w' [b] (Aa (Ac ⟨b,o,Ab⟩) n c) l/\Chg [b] w w'
theorem Om (gr off b o c:Nat) (l:List Task) (but:Int) (w:World) (h7:w.cell? ⟨gr,off+7,Ab⟩=Ac (Aa (Ac ⟨b,o,Ab⟩) l.length c)) (pL:gr<w) (aC:gr≠b) (hl:l.length<=1000) (hp:0<l.length)
  (hw:Hw E7 w [b] (Aa (Ac ⟨b,o,Ab⟩) l.length c) l) (eK:∀ k (h:k<l.length),l[k].state=5 ↔ (k:Int)=but) :
  Calls Am 229 #[.pointer (Ac ⟨gr,off,Ab⟩),J U but] w (Wc (l.map Df) b o c l.length w):=by
 have bS:=(hw.block hp).2.1;have H5:=Bq eK;clear eK;go_enter Tryz.func229,Tryz.ntmps229;go_wp2;go_loopw [4,11] (fun v i wr=>∃ k:Nat,k<=l.length/\i = J U k/\Hid (Hw E7 wr [b] (Aa (Ac ⟨b,o,Ab⟩) l.length c) ((l.take k).map Df ++ l.drop k))/\Chg [b] w wr) (fun _ i _=>l.length - (intOf i).toNat);case atStart=>exact ⟨0,Ag _,rfl,by simpa using Bq hw,Chg.refl _ _⟩
 case round =>
  obtain ⟨k,hk,rfl,hO,hC⟩:=hrel;have g7:wr.cell? ⟨gr,off+7,Ab⟩=Ac (Aa (Ac ⟨b,o,Ab⟩) l.length c):=(hC.cell (p:=⟨gr,off+7,Ab⟩) pL (by simpa using aC)).trans h7;have fS:gr<wr:=Ai pL hC.size;by_cases aA:k<l.length;case neg =>
   have aB:¬ (k:Int)<(l.length:Int):=Bl;have HO:=hO.out;rw [Bg Bl,List.drop_eq_nil_of_le Bl,List.append_nil] at HO;have HF:=Bq (show Wc (l.map Df) b o c l.length w (.returned (.tuple #[])) wr from ⟨rfl,HO,hC⟩);clear HO hO;go_wp2;exact Aj (v:=.tuple #[]) (by simp [results,Tryz.results229,go_sem]) rfl HF.out
  have aB:(k:Int)<(l.length:Int):=Bl;have dB:(0:Int)<=(k:Int):=Bl;have jH:k<((l.take k).map Df ++ l.drop k).length:=by simp;omega
  have sV:((l.take k).map Df ++ l.drop k)[k]=l[k]:=by
   rw [List.getElem_append_right (by simp;omega)];simp [Az,Nat.min_eq_left (Nat.le_of_lt aA)]
  obtain ⟨_,_,hA,aH,d0,d1,d2,d3⟩:=hO.out.rd.tsk jH;simp only [Option.some.injEq,Addr.mk.injEq,and_true] at hA;obtain ⟨rfl,rfl⟩:=hA;rw [sV] at d0 d1 d2 d3;have dM:=Bq (Mq aA Df);have h5:=H5.out k aA;have jE:=(hO.out.block Bl).2.2;by_cases qK:(k:Int)=but
  ·subst qK;have hx:Df l[k]=l[k]:=by unfold Df;rw [if_neg (by have:=h5.2 rfl;omega)]
   have HN:=Bq (show Hw E7 wr [b] (Aa (Ac ⟨b,o,Ab⟩) l.length c) ((l.take (k+1)).map Df ++ l.drop (k+1)) from by
    rw [<-dM.out,hx];rw [Zz jH sV];exact hO.out)
   clear hx h5;go_wp2;exact ⟨⟨k+1,Bl,by go_num,HN,hC⟩,by simp [intOf];omega⟩
  have hbq:((k:Int) != but)=true:=by simp [qK]
  by_cases h4:l[k].state=4
  ·have hx:Df l[k]=l[k]:=by unfold Df;rw [if_neg Bl]
   have HN:=Bq (show Hw E7 wr [b] (Aa (Ac ⟨b,o,Ab⟩) l.length c) ((l.take (k+1)).map Df ++ l.drop (k+1)) from by
    rw [<-dM.out,hx];rw [Zz jH sV];exact hO.out)
   rw [h4] at d0;clear hx h5 h4;go_wp2;exact ⟨⟨k+1,Bl,by go_num,HN,hC⟩,by simp [intOf];omega⟩
  have hq4:(l[k].state != 4)=true:=by simp [h4]
  have hx:Df l[k]=⟨6,l[k].need,l[k].try_,0⟩:=by unfold Df;rw [if_pos ⟨h4,fun h=>qK (h5.1 h)⟩]
  have h1:=hO.out.taskState jH 6;have h2:=h1.taskUntil (j:=k) (by rw [Bh];exact jH) 0;simp only [List.getElem_set_self,List.set_set,sV] at h2;have jB:Chg [b] w ((wr.setCell ⟨b,o+k * 4,Ab⟩ (J U 6)).setCell ⟨b,o+k * 4+3,Ab⟩ (J U 0)):=(hC.trans (Chg.setCell wr b _ _)).trans (Chg.setCell _ b _ _);have HN:=Bq (show Hw E7 ((wr.setCell ⟨b,o+k * 4,Ab⟩ (J U 6)).setCell ⟨b,o+k * 4+3,Ab⟩ (J U 0)) [b] (Aa (Ac ⟨b,o,Ab⟩) l.length c) ((l.take (k+1)).map Df ++ l.drop (k+1)) from by
   rw [<-dM.out,hx];exact h2)
  clear hx h5 h4 h1 h2 qK;go_wp2;exact ⟨⟨k+1,Bl,by go_num,HN,jB⟩,by simp [intOf];omega⟩
theorem Z2 {b:Nat} {w:World} {u0 u1 u2 u3 u4 u5 u6 u7:Value} (X:DBox b [u0,u1,u2,u3,u4,u5,u6,u7] w) {v0 v1 v2 v3:Value} {rest:List Value} :
  (results Tryz.f211 (v0 :: v1 :: v2 :: v3 :: .pointer (Ac ⟨b,0,Ab⟩) :: rest).toArray).run Am w = .ok (.agg #[u0,u1,u2,u3,u4,u5,u6,u7]) w:=by
 have c0:=X.cell 0 _ rfl;have c1:=X.cell 1 _ rfl;have c2:=X.cell 2 _ rfl;have c3:=X.cell 3 _ rfl;have c4:=X.cell 4 _ rfl;have c5:=X.cell 5 _ rfl;have c6:=X.cell 6 _ rfl;have c7:=X.cell 7 _ rfl;simp [results,Tryz.results211,go_sem,c0,c1,c2,c3,c4,c5,c6,c7]
theorem Hw.taskUn' {w:World} {F:List Nat} {b o n c:Nat} {l:List Task} {j:Nat} {y:Task} (h:Hw E7 w F (Aa (Ac ⟨b,o,Ab⟩) n c) (l.set j y)) (hj:j<l.length) (st:Int) :
  Hw E7 (w.setCell ⟨b,o+j * 4+3,Ab⟩ (J U st)) F (Aa (Ac ⟨b,o,Ab⟩) n c) (l.set j ⟨y.state,y.need,y.try_,st⟩):=by
 have:=h.taskUntil (j:=j) (by rw [Bh];exact hj) st
 rw [List.getElem_set_self,List.set_set] at this;exact this
theorem Xj (r:Run) (s:Sl×Sl) (u:Nat) (w:World) (hl:Cw r<=2000000) (hR:H9 r u) (h:Ch.rd w w r s) :
  Calls Am 211 #[Gw r s,J U u] w (Di Ch Gw (I1 r u) w):=by
 have CP:=Bq (fun W (hW:Below w w W)=>Hr r s W hl (Ch.rd_more (Ch.rd_below h hW) hW.size));have CR:=Bq (fun W (hW:Below w w W)=>Pu r s u W hl (Ch.rd_more (Ch.rd_below h hW) hW.size));rw [Dj hR] at CR;have ht:u<r.tasks.length:=by have:=hR.2.1.2;omega
 have aJ:r.tasks.length<=2000000:=Ah (Ck He _) (by unfold Cw at hl;omega);have cQ:=Bq (Cr ht);obtain ⟨⟨A1,n1,c1⟩,⟨A2,n2,c2⟩⟩:=s;obtain rfl:n2=r.tasks.length:=RdL.at1 (s:=⟨A2,n2,c2⟩) h.2;obtain rfl:n1=r.plan.edges.length:=RdL.at1 (s:=⟨A1,n1,c1⟩) h.1;have uG:=Bq hR.1;have rE:=Bq (fun W (hW:Below w w W)=>(H8 h.1).below hW);clear h hl hR;have jS:(u:Int)<(r.tasks.length:Int):=Bl;have gD:(0:Int)<=(u:Int):=Bl;have X:=(DBox.new 89 [J U r.id,J U r.plan.prio,J U r.plan.most,J U r.plan.wait,J U r.plan.tasks,Aa A1 r.plan.edges.length c1,J U r.state,Aa A2 r.tasks.length c2] w (b:=w.heap.size) rfl).below ((Br _ _).alloc (Bs _) (.cells #[J U 0,J U 0,J U 0,J U 0,J U 0,Aa Ab 0 0,J U 0,Aa Ab 0 0] 89));have RES:=DBox.new 89 [J U 0,J U 0,J U 0,J U 0,J U 0,Aa Ab 0 0,J U 0,Aa Ab 0 0] (w.alloc (.cells #[J U r.id,J U r.plan.prio,J U r.plan.most,J U r.plan.wait,J U r.plan.tasks,Aa A1 r.plan.edges.length c1,J U r.state,Aa A2 r.tasks.length c2] 89)) (b:=w.heap.size+1) Bn;have B0:Below w w ((w.alloc (.cells #[J U r.id,J U r.plan.prio,J U r.plan.most,J U r.plan.wait,J U r.plan.tasks,Aa A1 r.plan.edges.length c1,J U r.state,Aa A2 r.tasks.length c2] 89)).alloc (.cells #[J U 0,J U 0,J U 0,J U 0,J U 0,Aa Ab 0 0,J U 0,Aa Ab 0 0] 89)):=by repeat (first | exact Br _ _ | refine Below.alloc ?_ Bo _)
 go_enter Tryz.func211,Tryz.ntmps211;go_wp2_with fail
 refine (CP.out _ B0).mono ?_;rintro e w1 ⟨⟨⟨A3,n3,c3⟩,⟨A4,n4,c4⟩⟩,F,rfl,o1,nF,b1⟩;obtain ⟨F1,F2,rfl,bN,op,ot⟩:=o1;replace ot:OwL Ee w1 F2 (Aa A4 n4 c4) r.tasks:=ot;have bP:=Bq (Ca.ow_lt op);obtain rfl:n4=r.tasks.length:=RdL.at1 (s:=⟨A4,n4,c4⟩) ot.rd;have oh:=Mp ot;clear ot CP;obtain ⟨b,o,rfl,aH,d0,d1,d2,d3⟩:=oh.rd.tsk ht;clear d0 d1 d2 d3;have hBw:=B0.size;obtain ⟨rfl,bQ,pV⟩:=oh.block Bl;have gI:=nF b Bn;have mQ:=X.lt;have dK:=RES.lt;replace B0:=Bt B0 b1;replace X:=X.below b1;replace RES:=RES.below b1;clear b1;go_upto_region 2 with fail
 have OB:=DBox.new 89 [J U r.id,J U r.plan.prio,J U r.plan.most,J U r.plan.wait,J U r.plan.tasks,Aa A3 n3 c3,J U r.state,Aa (Ac ⟨b,o,Ab⟩) r.tasks.length c4] w1 (b:=w1.heap.size) rfl;have b2:Below w1 w1 (w1.alloc (.cells #[J U r.id,J U r.plan.prio,J U r.plan.most,J U r.plan.wait,J U r.plan.tasks,Aa A3 n3 c3,J U r.state,Aa (Ac ⟨b,o,Ab⟩) r.tasks.length c4] 89)):=(Br _ _).alloc (Bs _) _;have B2:=Bt B0 b2;replace X:=X.below b2;replace RES:=RES.below b2;replace oh:=oh.below b2;have op2:=Ca.ow_below op b2;have eL:=b2.size;have ow1:=OB.lt;clear op;generalize w1.alloc (.cells #[J U r.id,J U r.plan.prio,J U r.plan.most,J U r.plan.wait,J U r.plan.tasks,Aa A3 n3 c3,J U r.state,Aa (Ac ⟨b,o,Ab⟩) r.tasks.length c4] 89)=w2 at *
 have X_:=X.g8;go_wp2_with fail
 refine (CR.out _ B2).mono ?_;rintro e w3 ⟨rfl,b3⟩;have B3:=Bt B2 b3;clear X_;replace X:=X.below b3;replace RES:=RES.below b3;replace OB:=OB.below b3;replace oh:=oh.below b3;have op3:=Ca.ow_below op2 b3;have jP:=b3.size;clear op2 CR b3;have X_:=X.g8;have OB_:=OB.g8;obtain ⟨b',o',bT,bI,d0,d1,d2,d3⟩:=oh.rd.tsk ht;simp only [Option.some.injEq,Addr.mk.injEq,and_true] at bT;obtain ⟨rfl,rfl⟩:=bT;have jE:=(oh.block Bl).2.2;have eS:b∉F1:=fun hx=>(Ax.1 bN).2.2 b hx b Bn rfl;go_upto_region 6 with fail
 have oh4:Hw E7 ((w3.setCell ⟨b,o+u * 4,Ab⟩ (J U 4)).setCell ⟨b,o+u * 4+3,Ab⟩ (J U 0)) [b] (Aa (Ac ⟨b,o,Ab⟩) r.tasks.length c4) (r.tasks.set u ⟨4,r.tasks[u].need,r.tasks[u].try_,0⟩):=(oh.taskState ht 4).taskUn' ht 0;have hC:Chg [b] w3 ((w3.setCell ⟨b,o+u * 4,Ab⟩ (J U 4)).setCell ⟨b,o+u * 4+3,Ab⟩ (J U 0)):=(Chg.setCell w3 b _ _).trans (Chg.setCell _ b _ _);have op4:=Ca.ow_chg op3 hC (fun x hx h=>by simp only [Au] at h;subst h;exact eS hx);have B4:Below w w ((w3.setCell ⟨b,o+u * 4,Ab⟩ (J U 4)).setCell ⟨b,o+u * 4+3,Ab⟩ (J U 0)):=by
  repeat (first | (with_reducible exact B3) | refine Ad ?_ Bo _)
 clear OB_;clear X_;clear d0 d1 d2 d3 bI jE;replace OB:=OB.chg hC (by simp only [Au];omega);replace X:=X.chg hC (by simp only [Au];omega);replace RES:=RES.chg hC (by simp only [Au];omega);have kY:=hC.size;clear hC oh op3;generalize ((w3.setCell ⟨b,o+u * 4,Ab⟩ (J U 4)).setCell ⟨b,o+u * 4+3,Ab⟩ (J U 0))=w4 at *
 have X_:=X.g8;have fM:=C9.1 uG.out.2.1;have CB:=Bq (Te r.plan (Aa A1 r.plan.edges.length c1) u w4 fM.1 fM.2.1 fM.2.2.1 ((rE.out w4 B4).more B4.size));have hBL:=Bq (Um (Dn r.plan) r.plan.tasks.toNat u);have fZ:=Bq (Li (Dn r.plan) r.plan.tasks.toNat u);have hD0:Hid (I1 r u=⟨r.id,r.plan,stL (Ad0 r u (Fa (Dn r.plan) r.plan.tasks.toNat u)),Ad0 r u (Fa (Dn r.plan) r.plan.tasks.toNat u)⟩):=rfl;clear fM;generalize Fa (Dn r.plan) r.plan.tasks.toNat u=BL at *
 go_wp2_with fail
 refine CB.out.mono ?_;rintro e w5 ⟨vb,rfl,ob,b5⟩;obtain ⟨A9,c9,rfl,-⟩:=id (Rd.of_own ob);have B5:=Bt B4 b5;have pP:=b5.size;have oh5:=oh4.below b5;have op5:=Ca.ow_below op4 b5;clear X_;replace OB:=OB.below b5;replace RES:=RES.below b5;have bR:b<w4:=Bl;obtain ⟨cJ,hobB⟩:=Hw.of_ow ob;have HB:=Bq (fun W (hW:Chg [b] w5 W)=>(cJ.chg hW (fun x hx h=>by simp only [Au] at h;subst h;have:=hobB _ hx;omega)).rd);have cP:Hid (∀ g o,A9=Ac ⟨g,o,Ab⟩->0<BL.length->w4.heap.size<=g):=fun g o h hp=>hobB g (by
  subst h;unfold Dz;rw [if_neg Bl];exact Au.2 rfl)
 have tF:Hid (Gu r.tasks u (fun x=>⟨4,x.need,x.try_,0⟩)=r.tasks.set u ⟨4,r.tasks[u].need,r.tasks[u].try_,0⟩):=Pt ht _;have cV:∀ x∈r.tasks,0<=x.need/\x.need<=1000/\1<=x.state/\x.state<=6:=by
  intro x hx;obtain ⟨j,hj,rfl⟩:=List.getElem_of_mem hx;have h1:=uG.out.2.2.2.1 j hj;unfold Gt Ni at h1;rw [Cr hj] at h1;have h2:=Nt r (Dq (Dn r.plan) r.plan.tasks.toNat j);have h3:=Ij (Dn r.plan) r.plan.tasks.toNat j;have h4:=(Dp uG.out).2;have h5:=uG.out.2.2.1;have h6:H7 r j<=12:=by unfold H7;omega
  omega
 have hbnd:Hid (∀ x∈r.tasks.set u ⟨4,r.tasks[u].need,r.tasks[u].try_,0⟩,-0<=x.need/\x.need<=1000/\1<=x.state/\x.state<=6):=by
  intro x hx;rcases List.mem_or_eq_of_mem_set hx with h | h
  ·have:=cV x h;omega
  ·subst h
   have:=cV _ (Aw ht)
   refine ⟨?_,?_,?_,?_⟩<;>dsimp only<;>omega
 clear cV;have rB:=Bq (show r.plan.tasks.toNat=r.tasks.length by have:=uG.out.2.2.1;omega);generalize hL:r.tasks.set u ⟨4,r.tasks[u].need,r.tasks[u].try_,0⟩=L0 at *
 have pD:=Bq (show L0.length=r.tasks.length by rw [<-hL,Bh]);clear hL ob cJ hobB X CB rE;go_wp2;generalize Gw r (⟨A1,r.plan.edges.length,c1⟩,⟨A2,r.tasks.length,c2⟩)=rv;go_loopw [7] (fun i wr=>∃ k:Nat,k<=BL.length/\i = J U k/\Hid (Hw E7 wr [b] (Aa (Ac ⟨b,o,Ab⟩) r.tasks.length c4) ((BL.take k).foldl (fun l b=>Gu l b Dh) L0))/\DBox w1 [J U r.id,J U r.plan.prio,J U r.plan.most,J U r.plan.wait,J U r.plan.tasks,Aa A3 n3 c3,J U r.state,Aa (Ac ⟨b,o,Ab⟩) r.tasks.length c4] wr/\DBox (w.heap.size+1) [J U 0,J U 0,J U 0,J U 0,J U 0,Aa Ab 0 0,J U 0,Aa Ab 0 0] wr/\Chg [b] w5 wr) (fun i _=>BL.length - (intOf i).toNat);case atStart=>exact ⟨0,Ag _,rfl,oh5,OB,RES,Chg.refl _ _⟩
 case round =>
  clear OB RES oh5;obtain ⟨k,hk,rfl,hO,OB,RES,hb⟩:=hrel;by_cases aA:k<BL.length
  ·have aB:(k:Int)<(BL.length:Int):=Bl;have hx:=Bq (hBL.out _ (Aw aA));have tS:=Bq (show ((BL.take k).foldl (fun l b=>Gu l b Dh) L0).length=r.tasks.length by rw [Ky r u,pD.out]);have qK:=Bq (Qs (BL.take k) L0 0 hbnd.out (Int.le_refl 0));have aE:=Bq (show (BL.take (k+1)).foldl (fun l b=>Gu l b Dh) L0=Gu ((BL.take k).foldl (fun l b=>Gu l b Dh) L0) BL[k] Dh from J2 (fun l b=>Gu l b Dh) L0 BL k aA);have kH:(BL.take k).length<=r.tasks.length:=by have:=fZ.out;have:=rB.out;rw [Az];omega
   obtain ⟨b9,o9,rfl,tI,e0⟩:=(HB.out wr hb).nat aA;generalize BL[k]=x at *
   generalize (BL.take k).foldl (fun l b=>Gu l b Dh) L0=Lk at *
   have fJ:x<Lk.length:=by have:=hx.out;have:=rB.out;have:=tS.out;omega
   have hxI:(x:Int)<(r.tasks.length:Int):=by have:=hx.out;have:=rB.out;omega
   have sD:(0:Int)<=(x:Int):=Bl;have hBs:BL.length<=2000000:=by have:=fZ.out;have:=rB.out;omega
   have hb9w:=cP.out b9 o9 rfl Bl;have dB:(0:Int)<=(k:Int):=Bl;have hyb:=qK.out _ (Aw fJ);have eA:=Bq (aE.out.trans (Pt fJ Dh));clear aE;have OB_:=OB.g8;have RES_:=RES.g8;obtain ⟨b',o',bT,bI,d0,d1,d2,d3⟩:=hO.out.rd.tsk fJ;simp only [Option.some.injEq,Addr.mk.injEq,and_true] at bT;obtain ⟨rfl,rfl⟩:=bT;generalize Lk[x]=tx at *
   go_wp2;have tH:b9<wr:=by have:=hb.size;omega
   have hs0:b<wr:=by have:=hb.size;omega
   have hSS:=Bq (show ∀ W',Below wr wr W'->(fun w'=>DBox w1 [J U r.id,J U r.plan.prio,J U r.plan.most,J U r.plan.wait,J U r.plan.tasks,Aa A3 n3 c3,J U r.state,Aa (Ac ⟨b,o,Ab⟩) r.tasks.length c4] w'/\w'.cell? ⟨b9,o9+k,Ab⟩=Ac (J U (x:Int))/\w'.cell? ⟨b,o+x * 4,Ab⟩=Ac (J U tx.state)/\w'.cell? ⟨b,o+x * 4+1,Ab⟩=Ac (J U tx.need)/\w'.cell? ⟨b,o+x * 4+2,Ab⟩=Ac (J U tx.try_)/\w'.cell? ⟨b,o+x * 4+3,Ab⟩=Ac (J U tx.until_)) W' from fun W' kZ=>⟨OB.below kZ,(kZ.cell (p:=⟨b9,_,Ab⟩) tH).trans e0,(kZ.cell (p:=⟨b,_,Ab⟩) hs0).trans d0,(kZ.cell (p:=⟨b,_,Ab⟩) hs0).trans d1,(kZ.cell (p:=⟨b,_,Ab⟩) hs0).trans d2,(kZ.cell (p:=⟨b,_,Ab⟩) hs0).trans d3⟩);refine Go.wp_region_noPanic ?_;refine wp_region_held_drew (S:=(fun w'=>DBox w1 [J U r.id,J U r.plan.prio,J U r.plan.most,J U r.plan.wait,J U r.plan.tasks,Aa A3 n3 c3,J U r.state,Aa (Ac ⟨b,o,Ab⟩) r.tasks.length c4] w'/\w'.cell? ⟨b9,o9+k,Ab⟩=Ac (J U (x:Int))/\w'.cell? ⟨b,o+x * 4,Ab⟩=Ac (J U tx.state)/\w'.cell? ⟨b,o+x * 4+1,Ab⟩=Ac (J U tx.need)/\w'.cell? ⟨b,o+x * 4+2,Ab⟩=Ac (J U tx.try_)/\w'.cell? ⟨b,o+x * 4+3,Ab⟩=Ac (J U tx.until_))) Bm (hSS.out _ (Br _ _).drew) (fun hHeld=>?_);refine tV 0 ?_
   (try simp only [pS])
   refine tV 1 ?_
   (try simp only [pS])
   refine tV 2 ?_
   (try simp only [pS])
   refine tV 3 ?_
   (try simp only [pS])
   refine tV 4 ?_
   (try simp only [pS])
   refine tV 5 ?_
   (try simp only [pS])
   refine tV 6 ?_
   (try simp only [pS])
   refine tV 7 ?_
   (try simp only [pS])
   refine rC 8 (fun K_ hK=>?_);go_simp;have bA:Below wr wr ((wr.alloc (.cells #[J U 0,J U 0,J U 0,J U 0] 138)).drew):=((Br _ _).alloc (Bs _) _).drew;have XB:=DBox.drew4 (DBox.new 138 [J U 0,J U 0,J U 0,J U 0] wr (b:=wr.heap.size) rfl);generalize (wr.alloc (.cells #[J U 0,J U 0,J U 0,J U 0] 138)).drew=W1 at *
   refine hK.out _ _ (hSS.out _ bA) (fun hHeld=>?_);clear hK K_
   (try simp only [pS])
   have y0:=XB.cell 0 _ rfl;have y1:=XB.cell 1 _ rfl;have y2:=XB.cell 2 _ rfl;have y3:=XB.cell 3 _ rfl;have yf:=XB.free;have yl:=XB.lt;refine rC 9 (fun K_ hK=>?_);go_simp;have bB:Below wr wr ((((W1.setCell ⟨wr,0,Ab⟩ (J U tx.state)).setCell ⟨wr,1,Ab⟩ (J U tx.need)).setCell ⟨wr,2,Ab⟩ (J U tx.try_)).setCell ⟨wr,3,Ab⟩ (J U tx.until_)):=by
    repeat (first | (with_reducible exact bA) | refine Ad ?_ Bo _)
   have XB2:=DBox.row4 XB rfl (J U tx.state) (J U tx.need) (J U tx.try_) (J U tx.until_);generalize ((((W1.setCell ⟨wr,0,Ab⟩ (J U tx.state)).setCell ⟨wr,1,Ab⟩ (J U tx.need)).setCell ⟨wr,2,Ab⟩ (J U tx.try_)).setCell ⟨wr,3,Ab⟩ (J U tx.until_))=W2 at *
   clear y0 y1 y2 y3 yf yl XB;refine hK.out _ _ (hSS.out _ bB) (fun hHeld=>?_);clear hK K_
   (try simp only [pS])
   refine Al Bm ?_ _;refine NoPanic.normal ?_;clear hHeld;have OB2:=OB.below bB;have RES2:=RES.below bB;have hO2:=hO.out.below bB;have e2:=(bB.cell (p:=⟨b9,o9+k,Ab⟩) tH).trans e0;have aF:=hb.trans (Chg.of_below [b] bB);have hs22:=bB.size;have hsr:=hb.size;clear d0 d1 d2 d3;clear OB_;clear RES_;have y0:=XB2.cell 0 _ rfl;have y1:=XB2.cell 1 _ rfl;have y2:=XB2.cell 2 _ rfl;have y3:=XB2.cell 3 _ rfl;have yf:=XB2.free;have yl:=XB2.lt;have sF:wr≠b:=Bl;by_cases q:tx.need - 1=0
   ·have q2:(tx.need - 1 == 0)=true:=by simp [q]
    have eM:=Bq (show Dh tx=⟨2,tx.need - 1,tx.try_,tx.until_⟩ by unfold Dh;rw [if_pos q]);clear q;go_wp2;have bC:Below wr wr ((W2.setCell ⟨wr,1,Ab⟩ (J U (tx.need - 1))).setCell ⟨wr,0,Ab⟩ (J U 2)):=by
     repeat (first | (with_reducible exact bB) | refine Ad ?_ Bo _)
    have XB3:DBox wr [J U 2,J U (tx.need - 1),J U tx.try_,J U tx.until_] ((W2.setCell ⟨wr,1,Ab⟩ (J U (tx.need - 1))).setCell ⟨wr,0,Ab⟩ (J U 2)):=((XB2.set 1 Bn (J U (tx.need - 1))).set 0 Bn (J U 2))
    have OB3:=OB.below bC;have RES3:=RES.below bC;have fX:=hO.out.below bC;have e3:=(bC.cell (p:=⟨b9,o9+k,Ab⟩) tH).trans e0;have cA:=hb.trans (Chg.of_below [b] bC);have pE:=bC.size;clear y0 y1 y2 y3 yf yl XB2 OB2 RES2 hO2 e2 aF;generalize ((W2.setCell ⟨wr,1,Ab⟩ (J U (tx.need - 1))).setCell ⟨wr,0,Ab⟩ (J U 2))=W3 at *
    refine Go.wp_region_noPanic ?_;refine wp_region_held_drew (S:=(fun w'=>DBox w1 [J U r.id,J U r.plan.prio,J U r.plan.most,J U r.plan.wait,J U r.plan.tasks,Aa A3 n3 c3,J U r.state,Aa (Ac ⟨b,o,Ab⟩) r.tasks.length c4] w'/\w'.cell? ⟨b9,o9+k,Ab⟩=Ac (J U (x:Int))/\DBox wr [J U 2,J U (tx.need - 1),J U tx.try_,J U tx.until_] w')) Bm ⟨DBox.drew4 OB3,e3,DBox.drew4 XB3⟩ (fun hHeld=>?_);have bD:Below W3 W3 W3.drew:=(Br _ _).drew;replace OB3:=OB3.below bD;replace RES3:=RES3.below bD;replace XB3:=XB3.below bD;replace fX:=fX.below bD;replace cA:=cA.drew;replace pE:=Ah pE bD.size;clear bD;generalize W3.drew=W4 at *
    refine tV 0 ?_
    (try simp only [pS])
    refine tV 1 ?_
    (try simp only [pS])
    refine tV 2 ?_
    (try simp only [pS])
    refine tV 3 ?_
    (try simp only [pS])
    refine tV 4 ?_
    (try simp only [pS])
    refine tV 5 ?_
    (try simp only [pS])
    refine tV 6 ?_
    (try simp only [pS])
    refine tV 7 ?_
    (try simp only [pS])
    obtain ⟨b',o',bT,bI,d0,d1,d2,d3⟩:=fX.rd.tsk fJ;simp only [Option.some.injEq,Addr.mk.injEq,and_true] at bT;obtain ⟨rfl,rfl⟩:=bT;have jE:=(fX.block Bl).2.2;have hO5:Hw E7 ((((W4.setCell ⟨b,o+x * 4,Ab⟩ (J U 2)).setCell ⟨b,o+x * 4+1,Ab⟩ (J U (tx.need - 1))).setCell ⟨b,o+x * 4+2,Ab⟩ (J U tx.try_)).setCell ⟨b,o+x * 4+3,Ab⟩ (J U tx.until_)) [b] (Aa (Ac ⟨b,o,Ab⟩) r.tasks.length c4) _:=fX.task4 fJ ⟨2,tx.need - 1,tx.try_,tx.until_⟩;have dG:Chg [b] W4 ((((W4.setCell ⟨b,o+x * 4,Ab⟩ (J U 2)).setCell ⟨b,o+x * 4+1,Ab⟩ (J U (tx.need - 1))).setCell ⟨b,o+x * 4+2,Ab⟩ (J U tx.try_)).setCell ⟨b,o+x * 4+3,Ab⟩ (J U tx.until_)):=(((Chg.setCell W4 b _ _).trans (Chg.setCell _ b _ _)).trans (Chg.setCell _ b _ _)).trans (Chg.setCell _ b _ _);refine rC 8 (fun K_ hK=>?_);go_simp;clear d0 d1 d2 d3 jE bI;have cJ:w1.heap.size∉[b]:=by simp only [Au];omega
    have uN:w.heap.size+1∉[b]:=by simp only [Au];omega
    have eW:wr.heap.size∉[b]:=by simp only [Au];omega
    have OB5:=OB3.chg dG cJ;have RES5:=RES3.chg dG uN;have XB5:=XB3.chg dG eW;have e5:=(dG.cell (p:=⟨b9,o9+k,Ab⟩) (by show b9<W4;omega) (by simp only [Au];omega)).trans hHeld.2.1;have eK:=cA.trans dG;generalize ((((W4.setCell ⟨b,o+x * 4,Ab⟩ (J U 2)).setCell ⟨b,o+x * 4+1,Ab⟩ (J U (tx.need - 1))).setCell ⟨b,o+x * 4+2,Ab⟩ (J U tx.try_)).setCell ⟨b,o+x * 4+3,Ab⟩ (J U tx.until_))=W5 at *
    refine hK.out _ _ ⟨OB5,e5,XB5⟩ (fun hHeld=>?_);clear hK K_
    (try simp only [pS])
    refine Al Bm ?_ _;refine NoPanic.normal ?_;clear hHeld;go_wp2;exact ⟨⟨k+1,Bl,by go_num,by rw [eA.out,eM.out];exact hO5,OB5,RES5,eK⟩,by simp [intOf];omega⟩
   ·have q2:(tx.need - 1 == 0)=false:=by simp [q]
    have eM:=Bq (show Dh tx=⟨tx.state,tx.need - 1,tx.try_,tx.until_⟩ by unfold Dh;rw [if_neg q]);clear q;go_wp2;have bC:Below wr wr (W2.setCell ⟨wr,1,Ab⟩ (J U (tx.need - 1))):=by
     repeat (first | (with_reducible exact bB) | refine Ad ?_ Bo _)
    have XB3:DBox wr [J U tx.state,J U (tx.need - 1),J U tx.try_,J U tx.until_] (W2.setCell ⟨wr,1,Ab⟩ (J U (tx.need - 1))):=(XB2.set 1 Bn (J U (tx.need - 1)))
    have OB3:=OB.below bC;have RES3:=RES.below bC;have fX:=hO.out.below bC;have e3:=(bC.cell (p:=⟨b9,o9+k,Ab⟩) tH).trans e0;have cA:=hb.trans (Chg.of_below [b] bC);have pE:=bC.size;clear y0 y1 y2 y3 yf yl XB2 OB2 RES2 hO2 e2 aF;generalize (W2.setCell ⟨wr,1,Ab⟩ (J U (tx.need - 1)))=W3 at *
    refine Go.wp_region_noPanic ?_;refine wp_region_held_drew (S:=(fun w'=>DBox w1 [J U r.id,J U r.plan.prio,J U r.plan.most,J U r.plan.wait,J U r.plan.tasks,Aa A3 n3 c3,J U r.state,Aa (Ac ⟨b,o,Ab⟩) r.tasks.length c4] w'/\w'.cell? ⟨b9,o9+k,Ab⟩=Ac (J U (x:Int))/\DBox wr [J U tx.state,J U (tx.need - 1),J U tx.try_,J U tx.until_] w')) Bm ⟨DBox.drew4 OB3,e3,DBox.drew4 XB3⟩ (fun hHeld=>?_);have bD:Below W3 W3 W3.drew:=(Br _ _).drew;replace OB3:=OB3.below bD;replace RES3:=RES3.below bD;replace XB3:=XB3.below bD;replace fX:=fX.below bD;replace cA:=cA.drew;replace pE:=Ah pE bD.size;clear bD;generalize W3.drew=W4 at *
    refine tV 0 ?_
    (try simp only [pS])
    refine tV 1 ?_
    (try simp only [pS])
    refine tV 2 ?_
    (try simp only [pS])
    refine tV 3 ?_
    (try simp only [pS])
    refine tV 4 ?_
    (try simp only [pS])
    refine tV 5 ?_
    (try simp only [pS])
    refine tV 6 ?_
    (try simp only [pS])
    refine tV 7 ?_
    (try simp only [pS])
    obtain ⟨b',o',bT,bI,d0,d1,d2,d3⟩:=fX.rd.tsk fJ;simp only [Option.some.injEq,Addr.mk.injEq,and_true] at bT;obtain ⟨rfl,rfl⟩:=bT;have jE:=(fX.block Bl).2.2;have hO5:Hw E7 ((((W4.setCell ⟨b,o+x * 4,Ab⟩ (J U tx.state)).setCell ⟨b,o+x * 4+1,Ab⟩ (J U (tx.need - 1))).setCell ⟨b,o+x * 4+2,Ab⟩ (J U tx.try_)).setCell ⟨b,o+x * 4+3,Ab⟩ (J U tx.until_)) [b] (Aa (Ac ⟨b,o,Ab⟩) r.tasks.length c4) _:=fX.task4 fJ ⟨tx.state,tx.need - 1,tx.try_,tx.until_⟩;have dG:Chg [b] W4 ((((W4.setCell ⟨b,o+x * 4,Ab⟩ (J U tx.state)).setCell ⟨b,o+x * 4+1,Ab⟩ (J U (tx.need - 1))).setCell ⟨b,o+x * 4+2,Ab⟩ (J U tx.try_)).setCell ⟨b,o+x * 4+3,Ab⟩ (J U tx.until_)):=(((Chg.setCell W4 b _ _).trans (Chg.setCell _ b _ _)).trans (Chg.setCell _ b _ _)).trans (Chg.setCell _ b _ _);refine rC 8 (fun K_ hK=>?_);go_simp;clear d0 d1 d2 d3 jE bI;have cJ:w1.heap.size∉[b]:=by simp only [Au];omega
    have uN:w.heap.size+1∉[b]:=by simp only [Au];omega
    have eW:wr.heap.size∉[b]:=by simp only [Au];omega
    have OB5:=OB3.chg dG cJ;have RES5:=RES3.chg dG uN;have XB5:=XB3.chg dG eW;have e5:=(dG.cell (p:=⟨b9,o9+k,Ab⟩) (by show b9<W4;omega) (by simp only [Au];omega)).trans hHeld.2.1;have eK:=cA.trans dG;generalize ((((W4.setCell ⟨b,o+x * 4,Ab⟩ (J U tx.state)).setCell ⟨b,o+x * 4+1,Ab⟩ (J U (tx.need - 1))).setCell ⟨b,o+x * 4+2,Ab⟩ (J U tx.try_)).setCell ⟨b,o+x * 4+3,Ab⟩ (J U tx.until_))=W5 at *
    refine hK.out _ _ ⟨OB5,e5,XB5⟩ (fun hHeld=>?_);clear hK K_
    (try simp only [pS])
    refine Al Bm ?_ _;refine NoPanic.normal ?_;clear hHeld;go_wp2;exact ⟨⟨k+1,Bl,by go_num,by rw [eA.out,eM.out];exact hO5,OB5,RES5,eK⟩,by simp [intOf];omega⟩
  ·have aB:¬ (k:Int)<(BL.length:Int):=Bl;have cN:=hO.out;rw [Bg Bl] at cN;have hD:=Bq (show I1 r u=⟨r.id,r.plan,stL (BL.foldl (fun l b=>Gu l b Dh) L0),BL.foldl (fun l b=>Gu l b Dh) L0⟩ by rw [hD0.out];unfold Ad0;rw [tF.out]);have dM:=Bq (Qs BL L0 0 hbnd.out (Int.le_refl 0));have uH:=Bq (show (BL.foldl (fun l b=>Gu l b Dh) L0).length=r.tasks.length by rw [Ky r u,pD.out]);generalize BL.foldl (fun l b=>Gu l b Dh) L0=DL at *
   clear hO;have opr:=Ca.ow_chg op5 hb (fun x hx h=>by simp only [Au] at h;subst h;exact eS hx);have CS:=Bq (Of ⟨r.id,r.plan,r.state,DL⟩ (⟨A3,n3,c3⟩,⟨Ac ⟨b,o,Ab⟩,r.tasks.length,c4⟩) wr (by show DL.length<=2000000;rw [uH.out];omega) (fun x hx=>(dM.out x hx).2.2) ⟨Ca.ow_rd opr,(Gg cN).rd⟩);have OB_:=OB.g8;have hsr:=hb.size;go_wp2_with fail
   refine CS.out.mono ?_;rintro e w6 ⟨rfl,b6⟩;have hO2:=cN.below b6;have op6:=Ca.ow_below opr b6;have B6:Below w w w6:=Bt (B5.trans (hb.below Bl (fun x hx=>by simp only [Au] at hx;omega))) b6;have hs66:=b6.size;clear OB_;replace OB:=OB.below b6;replace RES:=RES.below b6;have OB_:=OB.g8;have RES_:=RES.g8;have obf:=OB.free;have rf:=RES.free;go_wp2;have hor:w.heap.size+1≠w1.heap.size:=Bl;refine Aj (Z2 (DBox.row8 (RES.setOther (a:=⟨w1,6,Ab⟩) hor (J U (stL DL))) rfl _ _ _ _ _ _ _ _)) rfl ⟨(⟨A3,n3,c3⟩,⟨Ac ⟨b,o,Ab⟩,r.tasks.length,c4⟩),F1 ++ [b],by rw [hD.out],⟨F1,[b],rfl,bN,?_,?_⟩,?_,?_⟩
   ·have e2:w.heap.size+1∉F1:=fun hx=>by have:=nF _ (Bf _ hx);omega
    have e3:w1.heap.size∉F1:=fun hx=>by have:=bP.out _ hx;omega
    rw [hD.out];show Ca.ow _ F1 r.plan _;exact (by (repeat (refine Dt.ow_set Ca ?_ (by first | exact e3 | exact e2) _));exact op6)
   ·have e1:w.heap.size+1∉[b]:=by simp only [Au];omega
    have e0:w1.heap.size∉[b]:=by simp only [Au];omega
    rw [hD.out];show OwL Ee _ [b] _ DL;exact Gg (((((((((hO2.set (a:=⟨w1,_,Ab⟩) e0 _).set (a:=⟨w.heap.size+1,_,Ab⟩) e1 _).set (a:=⟨w.heap.size+1,_,Ab⟩) e1 _).set (a:=⟨w.heap.size+1,_,Ab⟩) e1 _).set (a:=⟨w.heap.size+1,_,Ab⟩) e1 _).set (a:=⟨w.heap.size+1,_,Ab⟩) e1 _).set (a:=⟨w.heap.size+1,_,Ab⟩) e1 _).set (a:=⟨w.heap.size+1,_,Ab⟩) e1 _).set (a:=⟨w.heap.size+1,_,Ab⟩) e1 _)
   ·intro x hx
    have:=nF x hx
    omega
   ·repeat (first | (with_reducible exact B6) | refine Ad ?_ Bo _)
theorem Fg {y:Yard} {w:World} {F Fy:List Nat} {g o n c:Nat} {R:Sl} (h:Bu.ow w F y (⟨Ac ⟨g,o,Ab⟩,n,c⟩,R)) {i:Nat} (hi:i<y.shelf.length) {l:List Entry} {t:Sl} (hl:OwL Bx w Fy t.v l) (hd:∀ x∈Fy,x∉F) :
  ∃ F',Bu.ow (w.setCell ⟨g,o+i,Ab⟩ (Aa t.a t.n t.c)) F' ⟨y.now,y.seq,y.shelf.set i l,y.runs⟩ (⟨Ac ⟨g,o,Ab⟩,n,c⟩,R)/\(∀ x∈F',x∈F\/x∈Fy)/\g∈F:=by
 obtain ⟨F1,F2,rfl,bN,os,orr⟩:=h;replace os:OwL (Dt.list Bx) w F1 (Aa (Ac ⟨g,o,Ab⟩) n c) y.shelf:=os;replace orr:OwL Ch w F2 R.v y.runs:=orr;obtain ⟨F',p1,p2,p3,p4⟩:=OwL.swap os hi (y:=l) (s:=t) (Fy:=Fy) hl (fun x hx bF=>hd x hx (Bf _ bF));have fB:G9 w g (o+i * (Dt.list Bx).enc.sz) ((Dt.list Bx).enc.cells (l,t))=w.setCell ⟨g,o+i,Ab⟩ (Aa t.a t.n t.c):=by
  rw [show (Dt.list Bx).enc.sz=1 from rfl,Nat.mul_one];rfl
 rw [fB] at p1;have dW:=(Ax.1 bN).2.2;refine ⟨F' ++ F2,⟨F',F2,rfl,?_,p1,?_⟩,fun x hx=>?_,Bf _ p3⟩
 ·rw [Ax];refine ⟨p1.nodup,(Ax.1 bN).2.1,fun a ha b hb e=>?_⟩;subst e;rcases p2 a ha with h1 | h1
  ·exact dW a h1 a hb rfl
  ·exact hd a h1 (Be _ hb)
 ·exact orr.chg (Chg.setCell w g _ _) (fun x hx hg=>by simp only [Au] at hg;subst hg;exact dW x p3 x hx rfl)
 ·rcases Bi.1 hx with h1 | h1
  ·rcases p2 x h1 with h2 | h2
   ·exact .inl (Bf _ h2)
   ·exact .inr h2
  ·exact .inl (Be _ h1)
theorem Nm {y:Yard} {w:World} {F Fy:List Nat} {g o n c:Nat} {R:Sl} (h:Bu.ow w F y (R,⟨Ac ⟨g,o,Ab⟩,n,c⟩)) {k:Nat} (hk:k<y.runs.length) {r:Run} {sr:Sl×Sl} (hr:Ch.ow w Fy r sr) (hd:∀ x∈Fy,x∉F) :
  ∃ F',Bu.ow ((((((((w.setCell ⟨g,o+k * 8,Ab⟩ (J U r.id)).setCell ⟨g,o+k * 8+1,Ab⟩ (J U r.plan.prio)).setCell ⟨g,o+k * 8+2,Ab⟩ (J U r.plan.most)).setCell ⟨g,o+k * 8+3,Ab⟩ (J U r.plan.wait)).setCell ⟨g,o+k * 8+4,Ab⟩ (J U r.plan.tasks)).setCell ⟨g,o+k * 8+5,Ab⟩ (Aa sr.1.a sr.1.n sr.1.c)).setCell ⟨g,o+k * 8+6,Ab⟩ (J U r.state)).setCell ⟨g,o+k * 8+7,Ab⟩ (Aa sr.2.a sr.2.n sr.2.c)) F' ⟨y.now,y.seq,y.shelf,y.runs.set k r⟩ (R,⟨Ac ⟨g,o,Ab⟩,n,c⟩)/\(∀ x∈F',x∈F\/x∈Fy)/\g∈F:=by
 obtain ⟨F1,F2,rfl,bN,os,orr⟩:=h;replace os:OwL (Dt.list Bx) w F1 R.v y.shelf:=os;replace orr:OwL Ch w F2 (Aa (Ac ⟨g,o,Ab⟩) n c) y.runs:=orr;obtain ⟨F',p1,p2,p3,p4⟩:=OwL.swap orr hk (y:=r) (s:=sr) (Fy:=Fy) hr (fun x hx bF=>hd x hx (Be _ bF));have hC:=Ie (Ch.enc.cells (r,sr)) w g (o+k * Ch.enc.sz);have fB:G9 w g (o+k * Ch.enc.sz) (Ch.enc.cells (r,sr))=((((((((w.setCell ⟨g,o+k * 8,Ab⟩ (J U r.id)).setCell ⟨g,o+k * 8+1,Ab⟩ (J U r.plan.prio)).setCell ⟨g,o+k * 8+2,Ab⟩ (J U r.plan.most)).setCell ⟨g,o+k * 8+3,Ab⟩ (J U r.plan.wait)).setCell ⟨g,o+k * 8+4,Ab⟩ (J U r.plan.tasks)).setCell ⟨g,o+k * 8+5,Ab⟩ (Aa sr.1.a sr.1.n sr.1.c)).setCell ⟨g,o+k * 8+6,Ab⟩ (J U r.state)).setCell ⟨g,o+k * 8+7,Ab⟩ (Aa sr.2.a sr.2.n sr.2.c)):=rfl;rw [fB] at p1 hC;have dW:=(Ax.1 bN).2.2;refine ⟨F1 ++ F',⟨F1,F',rfl,?_,?_,p1⟩,fun x hx=>?_,Be _ p3⟩
 ·rw [Ax];refine ⟨(Ax.1 bN).1,p1.nodup,fun a ha b hb e=>?_⟩;subst e;rcases p2 a hb with h1 | h1
  ·exact dW a ha a h1 rfl
  ·exact hd a h1 (Bf _ ha)
 ·exact os.chg hC (fun x hx hg=>by simp only [Au] at hg;subst hg;exact dW x hx x p3 rfl)
 ·rcases Bi.1 hx with h1 | h1
  ·exact .inl (Bf _ h1)
  ·rcases p2 x h1 with h2 | h2
   ·exact .inl (Be _ h2)
   ·exact .inr h2
theorem Ki {α:Type} {p:α->Bool} {l:List α} {k:Nat} (hk:k<l.length) (h:p l[k]=true):(l.take (k+1)).filter p=(l.take k).filter p ++ [l[k]]:=by
 rw [Cn l k hk,List.filter_append];simp [h]
theorem Lc {α:Type} {p:α->Bool} {l:List α} {k:Nat} (hk:k<l.length) (h:p l[k]=false):(l.take (k+1)).filter p=(l.take k).filter p:=by
 rw [Cn l k hk,List.filter_append];simp [h]
theorem Ac4 {b:Nat} {w:World} {u0 u1 u2 u3:Value} (X:DBox b [u0,u1,u2,u3] w) {v0 v1 v2 v3:Value} {rest:List Value} :
  (results Tryz.f203 (v0 :: v1 :: v2 :: v3 :: .pointer (Ac ⟨b,0,Ab⟩) :: rest).toArray).run Am w = .ok (.agg #[u0,u1,u2,u3]) w:=by
 have c0:=X.cell 0 _ rfl;have c1:=X.cell 1 _ rfl;have c2:=X.cell 2 _ rfl;have c3:=X.cell 3 _ rfl;simp [results,Tryz.results203,go_sem,c0,c1,c2,c3]
theorem On (y:Yard) (s:Sl×Sl) (i:Nat) (w:World) (hi:i<y.shelf.length) (hl:Cb y<=2000000) (h:Bu.rd w w y s) :
  Calls Am 203 #[Dg y s,.int .i64 i] w (Di Bu Dg (Bz y i) w):=by
 have HR:=Bq (show ∀ W,Below w w W->Bu.rd W W y s from fun W hW=>Bu.rd_more (Bu.rd_below h hW) hW.size);obtain ⟨⟨A1,n1,c1⟩,⟨A2,n2,c2⟩⟩:=s;obtain rfl:n1=y.shelf.length:=RdL.at1 (s:=⟨A1,n1,c1⟩) h.1;have CC:=Bq (fun W hW=>Ed y (⟨A1,y.shelf.length,c1⟩,⟨A2,n2,c2⟩) W hl (HR.out W hW));have CF:=Bq (fun W hW e=>Oe y (⟨A1,y.shelf.length,c1⟩,⟨A2,n2,c2⟩) e W hl (HR.out W hW));have hS:=Bq (show ∀ W,Below w w W->RdL (Dt.list Bx) W W (.slice A1 y.shelf.length c1) y.shelf from fun W hW=>(HR.out W hW).1);have pW:y.shelf[i].length<=2000000:=by
  have h1:=Ds (cnt:=C8) (Aw hi);have h2:y.shelf[i].length<=C8 y.shelf[i]:=Ck _ _;unfold Cb at hl;omega
 have hshl:y.shelf.length<=2000000:=Ah (Ck C8 _) (by unfold Cb at hl;omega);obtain ⟨i0,aL,aS,aP,aQ⟩:=info_parts Fc;clear h hl HR;have hiI:(i:Int)<(y.shelf.length:Int):=Bl;have hi00:(0:Int)<=(i:Int):=Bl;obtain ⟨W,aG,X,RES,B0⟩:=bx2 w 31 [.int .i64 y.now,.int .i64 y.seq,.slice A1 y.shelf.length c1,.slice A2 n2 c2] 31 [.int .i64 0,.int .i64 0,.slice Ab 0 0,.slice Ab 0 0];go_enter Tryz.func203,Tryz.ntmps203;go_wp2_with fail
 rw [<-aG.out];clear aG;refine (CC.out _ B0).mono ?_;rintro e1 w1 ⟨⟨⟨B1,m1,e1⟩,⟨B2,m2,e2⟩⟩,F,rfl,oy,nF,b1⟩;have mQ:=X.lt;have dK:=RES.lt;replace X:=X.below b1;replace RES:=RES.below b1;replace B0:=Bt B0 b1;have bP:=Bu.ow_lt (F:=F) (x:=y) (s:=(⟨B1,m1,e1⟩,⟨B2,m2,e2⟩)) oy;have bL:=b1.size;clear b1;go_upto_region 2 with fail
 have OB:=DBox.new 31 [.int .i64 y.now,.int .i64 y.seq,.slice B1 m1 e1,.slice B2 m2 e2] w1 (b:=w1.heap.size) rfl;have b2:Below w1 w1 (w1.alloc (.cells #[.int .i64 y.now,.int .i64 y.seq,.slice B1 m1 e1,.slice B2 m2 e2] 31)):=(Br _ _).alloc (Bs _) _;replace B0:=Bt B0 b2;replace X:=X.below b2;replace RES:=RES.below b2;replace oy:=Bu.ow_below (F:=F) (x:=y) (s:=(⟨B1,m1,e1⟩,⟨B2,m2,e2⟩)) oy b2;have eL:=b2.size;have ow1:=OB.lt;generalize w1.alloc (.cells #[.int .i64 y.now,.int .i64 y.seq,.slice B1 m1 e1,.slice B2 m2 e2] 31)=w2 at *
 have X_:=X.g4;have wr1:U.wrap ((y.shelf.length:Int) - 1)=(y.shelf.length:Int) - 1:=Aq _ Bl;have q:inB (i:Int) 0 ((y.shelf.length:Int) - 1)=true:=Cv.2 Bl;clear b2 CC;have q0:Below w2 w2 (w2.alloc (.cells #[] 93)):=(Br _ _).alloc (Bs _) _;go_wp2_with (go_at_call 155;refine (Ce _ _ _ _).mono ?_;rintro e w9 ⟨rfl,rfl⟩;rw [q])
 clear X_;have mH:=B0.size;have o0:=Ow.empty Ct 93 w2 rfl;go_loopw [6,7] (fun v j wr=>∃ k:Nat,k<=y.shelf[i].length/\j = .int .i64 k/\Hid (Ow Ct 93 wr w2 v ((y.shelf[i].take k).filter fun e=>El y e))/\Below w2 w2 wr) (fun _ j _=>y.shelf[i].length - (intOf j).toNat);case atStart=>exact ⟨0,Ag _,rfl,o0,q0⟩
 case round =>
  clear o0 q0;obtain ⟨k,hk,rfl,hO,hb⟩:=hrel;replace X:=X.below hb;have hB:=Bt B0 hb;have cC:=hb.size;obtain ⟨g,o,⟨a9,n9,c9⟩,rfl,gP,tB,ck⟩:=(hS.out w2 B0).entryS hi;replace tB:RdL Bx w2 w2 (.slice a9 n9 c9) y.shelf[i]:=tB;obtain rfl:n9=y.shelf[i].length:=RdL.at1 (s:=⟨a9,n9,c9⟩) tB;replace ck:=(hb.cell (p:=⟨g,_,Ab⟩) gP).trans ck;have fS:g<wr:=Bl;have X_:=X.g4;by_cases aA:k<y.shelf[i].length
  ·have aB:(k:Int)<(y.shelf[i].length:Int):=Bl;have dB:(0:Int)<=(k:Int):=Bl;obtain ⟨g2,o2,_,rfl,kN,_,d0,d1,d2,d3⟩:=tB.entry aA;replace d0:=(hb.cell (p:=⟨g2,_,Ab⟩) kN).trans d0;replace d1:=(hb.cell (p:=⟨g2,_,Ab⟩) kN).trans d1;replace d2:=(hb.cell (p:=⟨g2,_,Ab⟩) kN).trans d2;replace d3:=(hb.cell (p:=⟨g2,_,Ab⟩) kN).trans d3;have mD:g2<wr:=Bl;have aR:=C7 wr;have Hl:=Bq (show ((y.shelf[i].take k).filter fun e=>El y e).length<=3000000 by have h1:=List.length_filter_le (fun e=>El y e) (y.shelf[i].take k);rw [Az] at h1;omega);cases qf:El y y.shelf[i][k]
   ·have S:=Bq (Lc (p:=fun e=>El y e) aA qf);have qF:=Bq qf;clear qf;go_wp2;refine Bw Bm Bm ?_;repeat (go_big_quiet_step ((go_at_call 87;rename_i x;have h1:=CF.out x.1 (Bt hB x.2) y.shelf[i][k];rw [qF.out] at h1;exact Ey h1)))
    refine Ak ?_;rintro w3 ⟨⟨_,b3⟩,rfl⟩;clear aR;go_wp2;exact ⟨⟨k+1,Bl,by go_num,by rw [S.out];exact hO.out.below b3,Bt hb b3⟩,by simp [intOf];omega⟩
   ·have S:=Bq (Ki (p:=fun e=>El y e) aA qf);have qF:=Bq qf;clear qf;go_wp2;refine Bw Bm Bm ?_;repeat (go_big_quiet_step ((go_at_call 87;rename_i x;have h1:=CF.out x.1 (Bt hB x.2) y.shelf[i][k];rw [qF.out] at h1;exact Ey h1)))
    refine Ak ?_;rintro w3 ⟨⟨_,b3⟩,rfl⟩;clear aR;have cA:=Bt hb b3;have fX:=hO.out.below b3;clear X_;replace X:=X.below b3;have X_:=X.g4;replace ck:=(b3.cell (p:=⟨g,_,Ab⟩) fS).trans ck;replace d0:=(b3.cell (p:=⟨g2,_,Ab⟩) mD).trans d0;replace d1:=(b3.cell (p:=⟨g2,_,Ab⟩) mD).trans d1;replace d2:=(b3.cell (p:=⟨g2,_,Ab⟩) mD).trans d2;replace d3:=(b3.cell (p:=⟨g2,_,Ab⟩) mD).trans d3;have jP:=b3.size;have hgw3:g<w3:=Bl;have hg2w3:g2<w3:=Bl;generalize y.shelf[i][k]=e9 at *
    have ha:Hid (∀ w:World,Below w w (w.alloc (.cells #[.int .i64 e9.prio,.int .i64 e9.seq,.int .i64 e9.run,.int .i64 e9.task] 93))):=fun w=>(Br _ _).alloc (Bs _) _;go_wp2_with (at_builtin;go_loud (refine By _ Ct Bp rfl (.tmp 39) (.tmp 48) rfl Tryz.underlying96 aL aS aP aQ rfl (base:=w2.heap.size) (l:=(y.shelf[i].take k).filter fun e=>El y e) rfl (fX.below (ha.out w3)) rfl (Rd.one Ct _ _ e9 rfl rfl 1 (Bs _) (Nat.lt_succ_self _)) Hl.out Bn Bp (by simp;omega) ?_);intro v5 w5 o5 g5 _)
    have eK:Below w2 w2 w5:=(Bt cA (ha.out w3)).grown g5 (Bt cA (ha.out w3)).size (fun g hg=>by have:=fX.within _ hg;omega);exact ⟨⟨k+1,Bl,by go_num,by rw [S.out];exact o5,eK⟩,by simp [intOf];omega⟩
  ·have aB:¬ (k:Int)<(y.shelf[i].length:Int):=Bl;have cN:=hO.out;rw [Bg Bl] at cN;obtain ⟨⟨a8,n8,c8⟩,F9,rfl,o9,nF9⟩:=Gy cN;have oy3:=Bu.ow_below (F:=F) (x:=y) (s:=(⟨B1,m1,e1⟩,⟨B2,m2,e2⟩)) oy hb;replace OB:=OB.below hb;replace RES:=RES.below hb;have H:Hid (Bz y i=⟨y.now,y.seq,y.shelf.set i (y.shelf[i].filter fun e=>El y e),y.runs⟩):=by
    show Bz y i=_;unfold Bz;rw [Fz hi]
   generalize (y.shelf[i].filter fun e=>El y e)=L at *
   clear hO cN;obtain ⟨g1,o1,s1,rfl,hg1,_,_⟩:=(RdL.entryS (show RdL (Dt.list Bx) wr wr.heap.size (.slice B1 m1 e1) y.shelf from (Bu.ow_rd oy3).1) hi)
   obtain rfl:m1=y.shelf.length:=RdL.at1 (s:=⟨Ac ⟨g1,o1,Ab⟩,m1,e1⟩) (Bu.ow_rd oy3).1;obtain ⟨F',p1,p2,p3⟩:=Fg oy3 hi (l:=L) (t:=⟨a8,n8,c8⟩) o9 (fun x hx bF=>by have h1:=nF9 x hx;have h2:=bP x bF;omega);obtain ⟨F1,F2,fV,_,os,_⟩:=oy3;have pR:=OwL.free0 (show OwL (Dt.list Bx) wr F1 (.slice (Ac ⟨g1,o1,Ab⟩) y.shelf.length e1) y.shelf from os) Bl;have hg1F:=bP g1 p3;have hg1n:=nF g1 p3;have OB_:=OB.g4;have RES_:=RES.g4;have rf:=RES.free;obtain ⟨_,_,_,cP,_,_,ckk⟩:=(RdL.entryS (show RdL (Dt.list Bx) wr wr.heap.size (.slice (Ac ⟨g1,o1,Ab⟩) y.shelf.length e1) y.shelf from os.rd) hi)
   simp only [Option.some.injEq,Addr.mk.injEq,and_true] at cP;obtain ⟨rfl,rfl⟩:=cP;have B8:Below w w (wr.setCell ⟨g1,o1+i,Ab⟩ (.slice a8 n8 c8)):=by
    repeat (first | (with_reducible exact hB) | refine Ad ?_ Bo _)
   go_upto_region 11 with fail
   clear X_;clear OB_;clear RES_;clear X ck;replace OB:=OB.setOther (a:=⟨g1,o1+i,Ab⟩) (by show w1.heap.size≠g1;omega) (.slice a8 n8 c8);replace RES:=RES.setOther (a:=⟨g1,o1+i,Ab⟩) (by show w.heap.size+1≠g1;omega) (.slice a8 n8 c8);generalize wr.setCell ⟨g1,o1+i,Ab⟩ (.slice a8 n8 c8)=w8 at *
   have OB_:=OB.g4;have RES_:=RES.g4;have rf:=RES.free;go_wp2;have en1:w.heap.size+1∉F':=fun hx=>by
    rcases p2 _ hx with h | h
    ·have:=nF _ h;omega
    ·have:=nF9 _ h;omega
   refine Aj (Ac4 (DBox.row4 RES rfl _ _ _ _)) rfl ⟨(⟨Ac ⟨g1,o1,Ab⟩,y.shelf.length,e1⟩,⟨B2,m2,e2⟩),F',by rw [H.out],by rw [H.out];exact (by (repeat (refine Dt.ow_set Bu ?_ en1 _));exact p1),fun x hx=>?_,?_⟩
   ·rcases p2 x hx with h | h
    ·have:=nF x h;omega
    ·have:=nF9 x h;omega
   ·repeat (first | (with_reducible exact B8) | refine Ad ?_ Bo _)
def Hk (gr o n c:Nat) (rs:List (Run×Ch.S)) (k:Nat) (G1 Fx G2:List Nat) (r:Run) (s:Sl×Sl) (w:World) (e:Ending) (w':World):Prop :=
 e = .returned (.tuple #[])/\Foc Ch w' gr o n c rs k G1 Fx G2 r s/\Chg (gr :: Fx) w w'
theorem Foc.atRun {w:World} {gr o n c k:Nat} {rs:List (Run×Ch.S)} {G1 Fx G2:List Nat} {r:Run} {s:Sl×Sl} (h:Foc Ch w gr o n c rs k G1 Fx G2 r s) (hp:0<r.tasks.length) :
  ∃ F1 b o2 c2,Fx=F1 ++ [b]/\Fx.Nodup/\s.2=⟨Ac ⟨b,o2,Ab⟩,r.tasks.length,c2⟩/\Ca.ow w F1 r.plan s.1/\Hw E7 w [b] (Aa (Ac ⟨b,o2,Ab⟩) r.tasks.length c2) r.tasks/\gr≠b/\b∉F1:=by
 obtain ⟨F1,F2,pN,bN,op,ot⟩:=h.here;obtain ⟨s1,⟨A,m,c2⟩⟩:=s;have ot:OwL Ee w F2 (Aa A m c2) r.tasks:=ot;obtain rfl:m=r.tasks.length:=RdL.at1 (s:=⟨A,m,c2⟩) ot.rd;have oh:=Mp ot;obtain ⟨b,o2,rfl,_⟩:=oh.rd.tsk hp;obtain ⟨rfl,_,_⟩:=oh.block hp;refine ⟨F1,b,o2,c2,pN,bN,rfl,op,oh,fun e=>h.apart.1.2.1 (by rw [pN,e];simp),fun hx=>?_⟩;rw [pN] at bN;exact (Ax.1 bN).2.2 b hx b Bn rfl
theorem Chg.blk {g:Nat} {F:List Nat} {w w':World} (h:Chg [g] w w') (hg:g∈F):Chg F w w':=h.mono (fun x hx=>by rw [Au.1 hx];exact hg)
theorem Ly (gr o n c:Nat) (rs:List (Run×Ch.S)) (k:Nat) (G1 Fx G2:List Nat) (r:Run) (s:Sl×Sl) (u:Nat) (w:World) (hl:r.tasks.length<=1000) (hR:H9 r u) (hF:Foc Ch w gr o n c rs k G1 Fx G2 r s) :
  Calls Am 173 #[.pointer (Ac ⟨gr,o+k * 8,Ab⟩),J U u] w (Hk gr o n c rs k G1 Fx G2 (De r u) s w):=by
 have hu:u<r.tasks.length:=by have:=hR.2.1.2;omega
 obtain ⟨l5,l6,l4,ls⟩:=O6 hR;obtain ⟨F1,b,o2,c2,rfl,bN,eL,op,oh,rH,cK⟩:=hF.atRun Bl;obtain ⟨s1,s2⟩:=s;obtain rfl:s2=_:=eL;have pL:=hF.blk;have mI:=(oh.block Bl).2.1;have pV:=(oh.block Bl).2.2;have g2:w.cell? ⟨gr,o+k * 8+2,Ab⟩=Ac (J U r.plan.most):=hF.cells 2 _ rfl;have g6:w.cell? ⟨gr,o+k * 8+6,Ab⟩=Ac (J U r.state):=hF.cells 6 _ rfl;have g7:w.cell? ⟨gr,o+k * 8+7,Ab⟩=Ac (Aa (Ac ⟨b,o2,Ab⟩) r.tasks.length c2):=hF.cells 7 _ rfl;have gf:=hF.free;obtain ⟨_,_,hA,_,d0,d1,d2,d3⟩:=oh.rd.tsk hu;simp only [Option.some.injEq,Addr.mk.injEq,and_true] at hA;obtain ⟨rfl,rfl⟩:=hA;have jS:(u:Int)<(r.tasks.length:Int):=Bl;have gD:(0:Int)<=(u:Int):=Bl;have cQ:=Bq (Cr hu);have jP:=Bq (show r.tasks[u].state=3 by have:=hR.2.2;rw [Ao,Cr hu] at this;exact this);have h1:=oh.taskUntil hu 0;have eC:=Chg.setCell w b (o2+u * 4+3) (J U 0);have op1:=Ca.ow_chg op eC (fun x hx h=>by rw [Au.1 h] at hx;exact cK hx);have F1_:Foc Ch (w.setCell ⟨b,o2+u * 4+3,Ab⟩ (J U 0)) gr o n c rs k G1 (F1 ++ [b]) G2 ⟨r.id,r.plan,r.state,r.tasks.set u ⟨r.tasks[u].state,r.tasks[u].need,r.tasks[u].try_,0⟩⟩ (s1,⟨Ac ⟨b,o2,Ab⟩,r.tasks.length,c2⟩) :=
  hF.sub (eC.blk Bn) ⟨F1,[b],rfl,bN,op1,Gg h1⟩ rfl
 have hC1':Chg (gr :: (F1 ++ [b])) w (w.setCell ⟨b,o2+u * 4+3,Ab⟩ (J U 0)):=eC.blk Bn;have aP:=eC.size;go_enter Tryz.func173,Tryz.ntmps173;go_upto_region 2 with fail
 generalize w.setCell ⟨b,o2+u * 4+3,Ab⟩ (J U 0)=w1 at *
 clear d0 d1 d2 d3 g2 g6 g7 gf hF op oh pV eC;have pH:=F1_.blk;have hbl1:=(h1.block (by rw [Bh];omega)).2.1;have g2:w1.cell? ⟨gr,o+k * 8+2,Ab⟩=Ac (J U r.plan.most):=F1_.cells 2 _ rfl;have tZ:u<(r.tasks.set u ⟨r.tasks[u].state,r.tasks[u].need,r.tasks[u].try_,0⟩).length:=by rw [Bh];exact hu
 obtain ⟨_,_,hA,_,d0,d1,d2,d3⟩:=h1.rd.tsk tZ;simp only [Option.some.injEq,Addr.mk.injEq,and_true] at hA;obtain ⟨rfl,rfl⟩:=hA;rw [List.getElem_set_self] at d0 d1 d2 d3;have aR:=C7 w1;refine Bw Bm Bm ?_;repeat (go_big_quiet_step (fail))
 refine Ak ?_;rintro w2 ⟨⟨_,b2⟩,rfl⟩;clear aR d0 d1 d2 d3 g2;have jB:=hC1'.trans (Chg.of_below (gr :: (F1 ++ [b])) b2);have h2:=h1.below b2;have op2:=Ca.ow_below op1 b2;have F2_:=F1_.sub (w':=w2) (y:=⟨r.id,r.plan,r.state,r.tasks.set u ⟨r.tasks[u].state,r.tasks[u].need,r.tasks[u].try_,0⟩⟩) (Chg.of_below _ b2) ⟨F1,[b],rfl,bN,op2,Gg h2⟩ rfl;have aQ:=b2.size;clear h1 op1 F1_ hC1' b2;have gM:=F2_.blk;have hbl2:=(h2.block (by rw [Bh];omega)).2;have g6:w2.cell? ⟨gr,o+k * 8+6,Ab⟩=Ac (J U r.state):=F2_.cells 6 _ rfl;have g7:w2.cell? ⟨gr,o+k * 8+7,Ab⟩=Ac (Aa (Ac ⟨b,o2,Ab⟩) r.tasks.length c2):=F2_.cells 7 _ rfl;have gf:=F2_.free;obtain ⟨_,_,hA,_,d0,d1,d2,d3⟩:=h2.rd.tsk tZ;simp only [Option.some.injEq,Addr.mk.injEq,and_true] at hA;obtain ⟨rfl,rfl⟩:=hA;rw [List.getElem_set_self] at d0 d1 d2 d3;by_cases q:r.tasks[u].try_<r.plan.most
 ·have H:=Bq (show De r u=⟨r.id,r.plan,r.state,r.tasks.set u ⟨2,r.tasks[u].need,r.tasks[u].try_,0⟩⟩ by unfold De;rw [if_pos (by rw [cQ.out];exact q),Kt hu]);have h3:=h2.taskSt' hu 2;have dP:=Chg.setCell w2 b (o2+u * 4) (J U 2);have op3:=Ca.ow_chg op2 dP (fun x hx h=>by rw [Au.1 h] at hx;exact cK hx);have HF:=Bq (show Hk gr o n c rs k G1 (F1 ++ [b]) G2 (De r u) (s1,⟨Ac ⟨b,o2,Ab⟩,r.tasks.length,c2⟩) w (.returned (.tuple #[])) (w2.setCell ⟨b,o2+u * 4,Ab⟩ (J U 2)) from
   ⟨rfl,by rw [H.out];exact F2_.sub (dP.blk Bn) ⟨F1,[b],rfl,bN,op3,Gg h3⟩ rfl,jB.trans (dP.blk Bn)⟩)
  go_wp2;exact Aj (v:=.tuple #[]) (by simp [results,Tryz.results173,go_sem]) rfl HF.out
 ·have H:=Bq (show De r u=Dm ⟨r.id,r.plan,r.state,r.tasks.set u ⟨5,r.tasks[u].need,r.tasks[u].try_,0⟩⟩ 3 by unfold De;rw [if_neg (by rw [cQ.out];exact q),Kt hu]);have h3:=h2.taskSt' hu 5;have dP:=Chg.setCell w2 b (o2+u * 4) (J U 5);have op3:=Ca.ow_chg op2 dP (fun x hx h=>by rw [Au.1 h] at hx;exact cK hx);have F3_:=F2_.sub (w':=w2.setCell ⟨b,o2+u * 4,Ab⟩ (J U 5)) (y:=⟨r.id,r.plan,r.state,r.tasks.set u ⟨5,r.tasks[u].need,r.tasks[u].try_,0⟩⟩) (dP.blk Bn) ⟨F1,[b],rfl,bN,op3,Gg h3⟩ rfl;have hC3':=jB.trans (dP.blk (F:=gr :: (F1 ++ [b])) Bn);have g73:=(dP.cell (p:=⟨gr,o+k * 8+7,Ab⟩) gM (by simpa using rH)).trans g7;go_upto_region 5 with fail
  generalize w2.setCell ⟨b,o2+u * 4,Ab⟩ (J U 5)=w3 at *
  clear d0 d1 d2 d3 g6 g7 gf hbl2 h2 op2 F2_ dP;have hgr3:=F3_.blk;have hL5:(r.tasks.set u ⟨5,r.tasks[u].need,r.tasks[u].try_,0⟩).length=r.tasks.length:=Bh;have CL:=Bq (Om gr (o+k * 8) b o2 c2 (r.tasks.set u ⟨5,r.tasks[u].need,r.tasks[u].try_,0⟩) u w3 (by rw [hL5];exact g73) hgr3 rH Bl Bl (by rw [hL5];exact h3) (fun j hj=>by
   rw [List.getElem_set];by_cases e:u=j
   ·simp [e]
   ·rw [if_neg e];constructor
    ·intro h
     have:=Zt (s:=5) (by rw [hL5] at hj;exact hj) h
     omega
    ·intro h;omega))
  rw [hL5] at CL;go_wp2_with fail
  refine CL.out.mono ?_;rintro e w4 ⟨rfl,h4,eE⟩;have op4:=Ca.ow_chg op3 eE (fun x hx h=>by rw [Au.1 h] at hx;exact cK hx);have F4_:=F3_.sub (w':=w4) (y:=⟨r.id,r.plan,r.state,(r.tasks.set u ⟨5,r.tasks[u].need,r.tasks[u].try_,0⟩).map Df⟩) (eE.blk Bn) ⟨F1,[b],rfl,bN,op4,Gg h4⟩ rfl;have hC4':=hC3'.trans (eE.blk (F:=gr :: (F1 ++ [b])) Bn);have g6:w4.cell? ⟨gr,o+k * 8+6,Ab⟩=Ac (J U r.state):=F4_.cells 6 _ rfl;have gf:=F4_.free;have hgr4:=F4_.blk;obtain ⟨F5_,dG⟩:=F4_.put (y:=Dm ⟨r.id,r.plan,r.state,r.tasks.set u ⟨5,r.tasks[u].need,r.tasks[u].try_,0⟩⟩ 3) 6 [J U 3] (show 6+1<=8 by omega) (fun i hi=>by simp at hi;subst hi;rfl) (fun i hi ho=>by
   have:i<8:=hi;rcases (show i=0\/i=1\/i=2\/i=3\/i=4\/i=5\/i=7 by simp at ho;omega) with rfl | rfl | rfl | rfl | rfl | rfl | rfl<;>rfl) (fun W h=>h)
  have HF:=Bq (show Hk gr o n c rs k G1 (F1 ++ [b]) G2 (De r u) (s1,⟨Ac ⟨b,o2,Ab⟩,r.tasks.length,c2⟩) w (.returned (.tuple #[])) (w4.setCell ⟨gr,o+k * 8+6,Ab⟩ (J U 3)) from
   ⟨rfl,by rw [H.out];exact F5_,hC4'.trans (dG.blk Bn)⟩)
  clear F5_ dG F4_ eE h4;go_wp2;exact Aj (v:=.tuple #[]) (by simp [results,Tryz.results173,go_sem]) rfl HF.out
end Go.Proofs.YtonlnjdempbfoaaGreat
