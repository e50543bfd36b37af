/-
  Fail of the reference. RoomFor of the reference. Holds and told of the program. RunDone: its plain facts. RunFails: a right run stays right; what a yard keeps w
-/
import Derived.Test.YtecnbnbopcblgaaGreatZAk0
import Derived.Test.YtecnbnbopcblgaaGreatZAk2
import Derived.Test.YtecnbnbopcblgaaGreatZAk5
import Derived.Test.YtecnbnbopcblgaaGreatZAk6
import Derived.Test.YtecnbnbopcblgaaGreatZAk7
import Derived.Test.YtecnbnbopcblgaaGreatZAk10
namespace Go.Proofs.YtecnbnbopcblgaaGreat
open Go.RowKit
set_option maxRecDepth 100000
set_option maxHeartbeats 4000000
set_option linter.unusedVariables false
set_option linter.unusedSimpArgs false
open Value renaming int->J,slice->Aa
open IntKind renaming i64->U
open Option renaming none->Ab,some->Ac
open Below renaming setCell->Ad
open Nat renaming zero_le->Ag,le_trans->Ah,lt_of_lt_of_le->Ai
open Go renaming bodyPost_ret->Aj,wpQuiet_nil->Ak,wpAnyH_done->Al
open Go.Proofs.Tryz renaming prog->Am
open Int renaming toNat_natCast->Ao,eq_ofNat_of_zero_le->Ap
open IntWalk renaming i64_in->Aq
open List renaming mem_singleton->Au,getElem_mem->Aw,nodup_append->Ax,length_take->Az,mem_append_right->Be,mem_append_left->Bf,take_of_length_le->Bg,length_set->Bh,mem_append->Bi
open Go.Proofs.Tryz
theorem Aim {p:Prop} (h:p:=by
 refine Bz Bm Bm ?_;repeat (go_big_quiet_step ((first | (go_at_call 90;exact Da (fun u=>Cd _ _ _ u.1)) | (go_at_call 236;rename_i x;have h1:=CS.out x.1 (Bv B0 x.2);exact Fu h1))))
 refine Ak ?_;rintro _ ⟨⟨w3,b3⟩,rfl⟩;clear aM;go_wp2;go_ret;exact ⟨Bx H.out.symm,Bv B0 b3⟩):p:=h
theorem Ain {p:Prop} (h:p:=by
 refine Bz Bm Bm ?_;repeat (go_big_quiet_step ((first | (go_at_call 72;exact Da (fun u=>Cm _ _ _ u.1)) | (go_at_call 144;rename_i x;have h1:=CS.out x.1 (Bv B0 x.2);exact Fu h1))))
 refine Ak ?_;rintro _ ⟨⟨w3,b3⟩,rfl⟩;clear aM;go_wp2;go_ret;exact ⟨Bx H.out.symm,Bv B0 b3⟩):p:=h
theorem Ajt {p:Prop} (h:p:=by
 unfold Gv at q;by_cases p0:Dk y
 ·by_cases p1:Dn y id<0
  ·rw [if_neg (fun h=>h p0),if_pos p1] at q;cases q
  ·by_cases p2:Gq y id tk tr
   ·exact ⟨p0,Bl,p2⟩
   ·rw [if_neg (fun h=>h p0),if_neg p1,if_pos p2] at q;cases q
 ·rw [if_pos p0] at q;cases q):p:=h
theorem Akb {p:Prop} (h:p:=by
 have:=Ls h.four h.all (by rw [h.runs];exact hy.2.2.2.2.2.2.1) (fun k hk=>by
  have aZ:k<y.runs.length:=by rw [<-h.runs];exact hk
  have e:z.runs[k]=y.runs[k]:=by simp only [h.runs]
  rw [e];exact Ev hy aZ)
 omega):p:=h
theorem Akx {p:Prop} (h:p:=by
 go_wp2_with (go_at_call 72;refine (Cm _ _ _ _).mono ?_;rintro e w9 ⟨rfl,rfl⟩;rw [q])
 go_ret;exact ⟨Bx (by rw [H.out,q2];rfl),B0.alloc B0.size _⟩):p:=h
theorem Alg {p:Prop} (h:p:=by have e1:Ec r.plan=r.plan.edges.length:=Fh (fun _=>rfl) _;have e2:Ek D7 r.tasks=r.tasks.length:=Fh (fun _=>rfl) _;unfold Co;omega):p:=h
theorem Alp {p:Prop} (h:p:=by repeat (first | (with_reducible exact B6) | refine Ad ?_ Bp _)):p:=h
theorem Al3 {p:Prop} (h:p:=by rw [h4] at h1;have h3:y.runs.length * (42+1)<=8 * 43:=Nat.mul_le_mul_right _ h8;unfold Ca;omega):p:=h
theorem Amc {p:Prop} (h:p:=by
 have:=Ls h.four h.all h.le8 (fun k hk=>(h.run k hk (by rw [<-h.len];exact hk)).1)
 omega):p:=h
theorem Amj {p:Prop} (h:p:=by
 have:=hth.out
 unfold Gq at this;rw [HK.out] at this;exact ⟨this.2.1,this.2.2.1⟩):p:=h
theorem Amn {p:Prop} (h:p:=by
 rcases n5 x hx with h | h | h
 ·have:=nF x h;omega
 ·have:=nFr x h;omega
 ·omega):p:=h
theorem Am6 {p:Prop} (h:p:=by
 rcases n5 _ hx with h | h | h
 ·exact pT h
 ·have:=nFr _ h;omega
 ·omega):p:=h
theorem Anb {p:Prop} (h:p:=by have h2:y.shelf[i].length<=Cn y.shelf[i]:=Ck _ _;unfold Ca at hl;omega):p:=h
section
def Is (z:Yard) (c:Int) (w:World) (e:Ending) (w':World):Prop :=
 ∃ s F,e = .returned (.tuple #[Ds z s,J U c])/\Bw.ow w' F z s/\(∀ b∈F,w<=b)/\Below w w w'
theorem Acc {b:Nat} {w:World} {u0 u1 u2 u3:Value} (X:DBox b [u0,u1,u2,u3] w) {v0 v1 v2 v3 v4 v5 v6 v7 v9:Value} {rest:List Value} :
  (results Tryz.f167 (v0 :: v1 :: v2 :: v3 :: v4 :: v5 :: v6 :: v7 :: .pointer (Ac ⟨b,0,Ab⟩) :: v9 :: rest).toArray).run Am w = .ok (.tuple #[.agg #[u0,u1,u2,u3],v9]) w:=by
 have c0:=X.cell 0 _ rfl;have c1:=X.cell 1 _ rfl;have c2:=X.cell 2 _ rfl;have c3:=X.cell 3 _ rfl;simp [results,results167,go_sem,c0,c1,c2,c3]
theorem Ev {y:Yard} (h:Dk y) {k:Nat} (hk:k<y.runs.length):Hn y.runs[k]:=(h.2.2.2.2.2.2.2.1 k hk).1
theorem Eb {r:Run} (h:Hn r):1<=r.tasks.length/\r.tasks.length<=12:=by
 have h1:=Er (Dl.1 h.2.1).1;have h2:=h.2.2.1;omega
theorem Il (r:Run) (t:Nat):(Dp r t).tasks.length=r.tasks.length:=by
 unfold Dp;split<;>simp [D6,Ot]
open Classical in
noncomputable def K6 (y:Yard) (id tk tr:Int):Yard:=if Gv y id tk tr=0 then Gn y (Dn y id).toNat (Dp (Ko y id) tk.toNat) else y
theorem Zz (y:Yard) (s:Sl×Sl) (id tk tr:Int) (w:World) (hl:Ca y<=2000000) (h:Bw.rd w w y s) :
  Calls Am 167 #[Ds y s,J U id,J U tk,J U tr] w (Is (K6 y id tk tr) (Gv y id tk tr) w):=by
 have HR:=Br (show ∀ W,Below w w W->Bw.rd W W y s from fun W hW=>Bw.rd_more (Bw.rd_below h hW) hW.size);obtain ⟨⟨A1,n1,c1⟩,⟨A2,n2,c2⟩⟩:=s;have CC:=Br (fun W hW=>E1 y (⟨A1,n1,c1⟩,⟨A2,n2,c2⟩) W hl (HR.out W hW));have CK:=Br (fun W hW=>S7 y (⟨A1,n1,c1⟩,⟨A2,n2,c2⟩) id tk tr W hl (HR.out W hW));have CA:=Br (fun W hW=>Fi y (⟨A1,n1,c1⟩,⟨A2,n2,c2⟩) id W hl (HR.out W hW));clear h;obtain ⟨W,aH,X,RES,B0⟩:=bx2 w 31 [J U y.now,J U y.seq,Aa A1 n1 c1,Aa A2 n2 c2] 31 [J U 0,J U 0,Aa Ab 0 0,Aa Ab 0 0];go_enter func167,ntmps167;go_wp2_with fail
 rw [<-aH.out];clear aH;refine (CC.out _ B0).mono ?_;rintro e1 w1 ⟨⟨⟨B1,m1,e1⟩,⟨B2,m2,e2⟩⟩,F,rfl,oy,nF,b1⟩;have mU:=X.lt;have eC:=RES.lt;replace X:=X.below b1;replace RES:=RES.below b1;replace B0:=Bv B0 b1;have bR:=Bw.ow_lt (F:=F) (x:=y) (s:=(⟨B1,m1,e1⟩,⟨B2,m2,e2⟩)) oy;have bE:=b1.size;clear b1;go_upto_region 2 with fail
 have OB:=DBox.new 31 [J U y.now,J U y.seq,Aa B1 m1 e1,Aa B2 m2 e2] w1 (b:=w1) rfl;have b2:Below w1 w1 (w1.alloc (.cells #[J U y.now,J U y.seq,Aa B1 m1 e1,Aa B2 m2 e2] 31)):=Bu;replace B0:=Bv B0 b2;replace X:=X.below b2;replace RES:=RES.below b2;replace oy:=Bw.ow_below (F:=F) (x:=y) (s:=(⟨B1,m1,e1⟩,⟨B2,m2,e2⟩)) oy b2;have eB:=b2.size;have ow1:=OB.lt;generalize w1.alloc (.cells #[J U y.now,J U y.seq,Aa B1 m1 e1,Aa B2 m2 e2] 31)=w2 at *
 have X_:=X.g4;go_wp2_with fail
 refine (CK.out _ B0).mono ?_;rintro e1 w3 ⟨rfl,b3⟩;replace B0:=Bv B0 b3;clear X_;replace X:=X.below b3;replace RES:=RES.below b3;replace OB:=OB.below b3;replace oy:=Bw.ow_below (F:=F) (x:=y) (s:=(⟨B1,m1,e1⟩,⟨B2,m2,e2⟩)) oy b3;have kT:=b3.size;clear b3 b2 CC CK;have X_:=X.g4;have OB_:=OB.g4;by_cases q:Gv y id tk tr=0;case neg =>
  have q2:(Gv y id tk tr != 0)=true:=by simp [q]
  have H:=Br (show K6 y id tk tr=y from if_neg q);clear q;have RES_:=RES.g4;have rf:=RES.free;go_wp2;have en1:w.heap.size+1∉F:=fun hx=>by have:=nF _ hx;omega
  refine Aj (Acc (DBox.row4 RES rfl _ _ _ _)) rfl ⟨(⟨B1,m1,e1⟩,⟨B2,m2,e2⟩),F,by rw [H.out],by rw [H.out];exact (Bw.set4 (F:=F) (x:=y) (s:=(⟨B1,m1,e1⟩,⟨B2,m2,e2⟩)) oy en1),fun x hx=>by have:=nF x hx;omega,?_⟩;repeat (first | (with_reducible exact B0) | refine Ad ?_ Bp _)
 have q2:(Gv y id tk tr != 0)=false:=by simp [q]
 have H:=Br (show K6 y id tk tr=Gn y (Dn y id).toNat (Dp (Ko y id) tk.toNat) from if_pos q);have HP:Hid (Dk y/\0<=Dn y id/\Gq y id tk tr):=Ajt
 have Hq:=Br q;clear q;rcases E9 y id with hr | ⟨k,hk,hr⟩
 ·exact absurd HP.out.2.1 Bl
 have HK:=Br (Ha hk hr);have HR2:=Br hr;clear hr;have bN:=Br (Ev HP.out.1 hk);have hth:=Br HP.out.2.2;have dE:Hid ((0<=tk/\tk<(y.runs[k].tasks.length:Int))/\(Cv y.runs[k] tk.toNat).state=3):=Amj
 obtain ⟨u,rfl⟩:=Ap dE.out.1.1;have hu:u<y.runs[k].tasks.length:=by have:=dE.out.1.2;omega
 have aP:Hid (I4 y.runs[k] u):=⟨bN.out,⟨Bl,Bl⟩,dE.out.2⟩
 go_wp2_with fail
 refine (CA.out _ B0).mono ?_;rintro e2' w4 ⟨rfl,b4⟩;rw [HR2.out];replace B0:=Bv B0 b4;clear X_;clear OB_;clear X;replace RES:=RES.below b4;replace OB:=OB.below b4;replace oy:Bw.ow w4 F y (⟨B1,m1,e1⟩,⟨B2,m2,e2⟩):=owB oy b4;have pV:=b4.size;clear b4 CA;have oy2:=oy;obtain ⟨F1,F2,rfl,bP,os,orr⟩:=oy2;replace orr:OwL Cf w4 F2 (Aa B2 m2 e2) y.runs:=orr;obtain rfl:m2=y.runs.length:=RdL.at1 (s:=⟨B2,m2,e2⟩) orr.rd;obtain ⟨gr,o2,sk,rfl,dN,dI,c0,c1_,c2_,c3,c4,c5,c6,c7⟩:=orr.rd.run hk;have gJ:(k:Int)<(y.runs.length:Int):=Bl;have cE:(0:Int)<=(k:Int):=Bl;go_wp2;refine Go.wp_region_noPanic ?_;refine wp_region_held_drew (S:=(fun w'=>DBox w1 [J U y.now,J U y.seq,Aa B1 m1 e1,Aa (Ac ⟨gr,o2,Ab⟩) y.runs.length e2] w')) Bm (DBox.drew4 OB) (fun hHeld=>?_);refine tY 0 ?_
 (try simp only [pS])
 refine tY 1 ?_
 (try simp only [pS])
 refine tY 2 ?_
 (try simp only [pS])
 refine tY 3 ?_
 (try simp only [pS])
 refine tY 4 ?_
 (try simp only [pS])
 refine tY 5 ?_
 (try simp only [pS])
 refine tY 7 ?_
 (try simp only [pS])
 have bd:Below w4 w4 w4.drew:=(Bs _ _).drew;replace B0:=Bv B0 bd;replace RES:=RES.below bd;replace OB:=OB.below bd;replace oy:Bw.ow w4.drew (F1 ++ F2) y (⟨B1,m1,e1⟩,⟨Ac ⟨gr,o2,Ab⟩,y.runs.length,e2⟩):=Bw.ow_below (F:=F1 ++ F2) (x:=y) (s:=(⟨B1,m1,e1⟩,⟨Ac ⟨gr,o2,Ab⟩,y.runs.length,e2⟩)) oy bd;refine rC 6 (fun K_ hK=>?_);go_simp;refine hK.out _ _ OB (fun hHeld=>?_);clear hK K_
 (try simp only [pS])
 have mT:=Hf hl hk;have hrk2:Cf.rd w4.drew w4.drew y.runs[k] sk:=Cf.rd_below dI bd;have hcrun:Co y.runs[k]<=2000000:=by
  have h1:=Dm (cnt:=Co) (Aw hk);unfold Ca at hl;omega
 have CF:=Br (My y.runs[k] sk u w4.drew hcrun aP.out hrk2);clear c0 c1_ c2_ c3 c4 c5 c6 c7;refine rC 8 (fun K_ hK=>?_);go_simp;refine CF.out.mono ?_;rintro e3 w5 ⟨sr,Fr,rfl,orn,nFr,b5⟩;refine hK.out _ _ (OB.below b5) (fun hHeld=>?_);clear hK K_
 (try simp only [pS])
 have pI:w4.drew.heap.size=w4.heap.size:=rfl;have qD:=b5.size;have rV:=Eb bN.out;have CT:=Br (Lm y (⟨B1,m1,e1⟩,⟨Ac ⟨gr,o2,Ab⟩,y.runs.length,e2⟩) k (Dp y.runs[k] u) sr w5 (F1 ++ F2) Fr HP.out.1.2.2.1 (fun s hs=>by have:=(HP.out.1.2.2.2.1 s hs).1;omega) (by have:=HP.out.1.2.1;omega) hk (by rw [Il];omega) Bl (Bw.ow_below (F:=F1 ++ F2) (x:=y) (s:=(⟨B1,m1,e1⟩,⟨Ac ⟨gr,o2,Ab⟩,y.runs.length,e2⟩)) oy b5) orn (fun x hx bI=>by have h1:=nFr x hx;have h2:=bR x bI;omega));have HF:=Br (show K6 y id u tr=Gn y k (Dp y.runs[k] u) by rw [H.out,HR2.out,HK.out,Ao,Ao]);clear H;refine rC 9 (fun K_ hK=>?_);go_simp;refine CT.out.mono ?_;rintro e4 w6 ⟨s5,F5,rfl,oy7,n5,c6⟩;have aC:w1.heap.size∉F1 ++ F2:=fun h=>by have:=bR _ h;omega
 have pT:w.heap.size+1∉F1 ++ F2:=fun h=>by have:=nF _ h;omega
 have OB6:=(OB.below b5).chg c6 aC;have RES6:=(RES.below b5).chg c6 pT;have B6:Below w w w6:=(Bv B0 b5).trans (c6.below (by have:=(Bv B0 b5).size;omega) (fun x hx=>by have:=nF _ hx;omega));generalize Gn y k (Dp y.runs[k] u)=Z at *
 refine hK.out _ _ OB6 (fun hHeld=>?_);clear hK K_
 (try simp only [pS])
 have r0:=RES6.cell 0 _ rfl;have r1:=RES6.cell 1 _ rfl;have r2:=RES6.cell 2 _ rfl;have r3:=RES6.cell 3 _ rfl;have rl:=RES6.lt;have rf:=RES6.free;refine rC 10 (fun K_ hK=>?_);go_simp;have cR:w1.heap.size≠w.heap.size+1:=Bl;refine hK.out _ _ ((((OB6.setOther (a:=⟨w+1,_,Ab⟩) cR _).setOther (a:=⟨w+1,_,Ab⟩) cR _).setOther (a:=⟨w+1,_,Ab⟩) cR _).setOther (a:=⟨w+1,_,Ab⟩) cR _) (fun hHeld=>?_);clear hK K_
 (try simp only [pS])
 refine rC 11 (fun K_ hK=>?_);go_simp;refine hK.out _ _ hHeld (fun hHeld=>?_);clear hK K_
 (try simp only [pS])
 refine Al Bm ?_ _;refine NoPanic.normal ?_;clear hHeld r0 r1 r2 r3 rf;have en5:w.heap.size+1∉F5:=fun hx=>by
  exact Am6
 have hZ:K6 y id u tr=Z:=HF.out;have H2:=Br hZ;clear hZ;have Hq2:=Br (show Gv y id u tr=0 from Hq.out);go_wp2;refine Aj (Acc (DBox.row4 RES6 rfl _ _ _ _)) rfl ⟨s5,F5,by rw [H2.out,Hq2.out],by rw [H2.out];exact (Bw.set4 (F:=F5) (x:=Z) (s:=s5) oy7 en5),fun x hx=>?_,?_⟩
 ·exact Amn
 ·exact Alp
end
noncomputable def Mr (y:Yard) (p:Plan):Bool:=decide (y.runs.length<8) && (inB p.tasks 0 12 && (decide ((Gw y:Int)+p.tasks<=40) && decide (y.seq<=999999000 - p.tasks)))
theorem Z3 (y:Yard) (s:Sl×Sl) (p:Plan) (ve:Value) (w:World) (hl:Ca y<=2000000) (hS:Gw y<=40) (hq:0<=y.seq/\y.seq<=2000000000) (h:Bw.rd w w y s) :
  Calls Am 238 #[Ds y s,G9 p ve] w fun e' w'=>e' = .returned (.bool (Mr y p))/\Below w w w':=by
 have HR:=Br (show ∀ W,Below w w W->Bw.rd W W y s from fun W hW=>Bw.rd_more (Bw.rd_below h hW) hW.size);obtain ⟨⟨A1,n1,c1⟩,⟨A2,n2,c2⟩⟩:=s;obtain rfl:n2=y.runs.length:=RdL.at1 (s:=⟨A2,n2,c2⟩) h.2;have CS:=Br (fun W hW=>P8 y (⟨A1,n1,c1⟩,⟨A2,y.runs.length,c2⟩) W hl (HR.out W hW));clear h HR;have HD:=Br (show Mr y p=(decide (y.runs.length<8) && (inB p.tasks 0 12 && (decide ((Gw y:Int)+p.tasks<=40) && decide (y.seq<=999999000 - p.tasks)))) from rfl);generalize Mr y p=D at *
 generalize Gw y=sn at *
 obtain ⟨W,aH,X,P,B0⟩:=bx2 w 31 [J U y.now,J U y.seq,Aa A1 n1 c1,Aa A2 y.runs.length c2] 43 [J U p.prio,J U p.most,J U p.wait,J U p.tasks,ve];go_enter func238,ntmps238;go_wp2;rw [<-aH.out];clear aH;have X_:=X.g4;have P_:=P.g5;have aM:=Cw W;by_cases a:y.runs.length<8;case neg =>
  have aI:¬ (y.runs.length:Int)<8:=Bl;have aD:decide ((y.runs.length:Int)<8)=false:=decide_eq_false aI;have H:=Br (show D=false by rw [HD.out,decide_eq_false a,Bool.false_and]);clear HD a;exact Aim
 have aI:(y.runs.length:Int)<8:=Bl;have aD:decide ((y.runs.length:Int)<8)=true:=decide_eq_true aI;have HD:=Br (HD.out.trans (by rw [decide_eq_true a,Bool.true_and]));clear a;cases c:inB p.tasks 0 12;case false =>
  have H:=Br (show D=false by rw [HD.out,c,Bool.false_and]);clear HD;exact Aim
 have cc:=Ct.1 c;have HD:=Br (HD.out.trans (by rw [c,Bool.true_and]));have wr1:U.wrap ((sn:Int)+p.tasks)=(sn:Int)+p.tasks:=Aq _ Bl;have wr2:U.wrap (999999000 - p.tasks)=999999000 - p.tasks:=Aq _ Bl;cases d:decide ((sn:Int)+p.tasks<=40);case false =>
  have H:=Br (show D=false by rw [HD.out,d,Bool.false_and]);clear HD cc;exact Aim
 have H:=Br (show D=decide (y.seq<=999999000 - p.tasks) by rw [HD.out,d,Bool.true_and]);clear HD cc;cases e:decide (y.seq<=999999000 - p.tasks);all_goals
  rw [e] at H;exact Aim
theorem Mz (y:Yard) (s:Sl×Sl) (id tk tr:Int) (w:World) (hl:Ca y<=2000000) (h:Bw.rd w w y s) :
  Calls Am 216 #[Ds y s,J U id,J U tk,J U tr] w fun e' w'=>e' = .returned (.bool (tf (Gq y id tk tr)))/\Below w w w':=by
 have HR:=Br (show ∀ W,Below w w W->Bw.rd W W y s from fun W hW=>Bw.rd_more (Bw.rd_below h hW) hW.size);obtain ⟨⟨A1,n1,c1⟩,⟨A2,n2,c2⟩⟩:=s;obtain rfl:n2=y.runs.length:=RdL.at1 (s:=⟨A2,n2,c2⟩) h.2;have h2:RdL Cf w w (Aa A2 y.runs.length c2) y.runs:=h.2;have bS:y.runs.length<=2000000:=Ah (Ck Co _) (by unfold Ca at hl;omega);have X:=DBox.new 31 [J U y.now,J U y.seq,Aa A1 n1 c1,Aa A2 y.runs.length c2] w (b:=w) rfl;have B0:Below w w (w.alloc (.cells #[J U y.now,J U y.seq,Aa A1 n1 c1,Aa A2 y.runs.length c2] 31)):=by repeat (first | exact Bs _ _ | refine Below.alloc ?_ Bp _)
 have C:=Fj y (⟨A1,n1,c1⟩,⟨A2,y.runs.length,c2⟩) id (w.alloc (.cells #[J U y.now,J U y.seq,Aa A1 n1 c1,Aa A2 y.runs.length c2] 31)) hl (HR.out _ B0);clear h;rcases E9 y id with hr | ⟨k,hk,hr⟩
 ·have H:=Br (show tf (Gq y id tk tr)=false from Cg (fun hh=>by have:=hh.1;omega));rw [hr] at C;clear hr;go_enter func216,ntmps216;exact Ake
 ·have uR:=Hf hl hk;have HR2:=Br hr;rw [hr] at C;clear hr;have HK:=Br (Ha hk HR2.out);go_enter func216,ntmps216;go_wp2_with fail
  generalize (w.alloc (.cells #[J U y.now,J U y.seq,Aa A1 n1 c1,Aa A2 y.runs.length c2] 31))=W at *
  refine C.mono ?_;rintro e1 w1 ⟨rfl,b1⟩;replace X:=X.below b1;have X_:=X.g4;replace B0:=Bv B0 b1;obtain ⟨b,o,⟨s1,⟨At,nt,ct⟩⟩,eJ,aJ,cP,c0_,c1_,c2_,c3_,c4_,c5_,c6_,c7_⟩:=(h2.below B0).run hk;subst eJ;obtain rfl:nt=y.runs[k].tasks.length:=RdL.at1 (s:=⟨At,nt,ct⟩) cP.2;have h3:RdL C8 w1 w (Aa At y.runs[k].tasks.length ct) y.runs[k].tasks:=cP.2;have gJ:(k:Int)<(y.runs.length:Int):=Bl;have hk00:(0:Int)<=(k:Int):=Bl;have cE:¬ (k:Int)<0:=Bl;have bE:b<w1:=Ai aJ B0.size;have wr1:U.wrap ((y.runs[k].tasks.length:Int) - 1)=(y.runs[k].tasks.length:Int) - 1:=Aq _ Bl;cases q:inB tk 0 ((y.runs[k].tasks.length:Int) - 1)
  ·have H:=Br (show tf (Gq y id tk tr)=false from Cg (fun hh=>by
    have h5:=hh.2.1;rw [HK.out] at h5
    have:=Ct.2 (show 0<=tk/\tk<=(y.runs[k].tasks.length:Int) - 1 by omega)
    rw [q] at this;cases this))
   go_wp2_with (go_at_call 72;refine (Cm _ _ _ _).mono ?_;rintro e w9 ⟨rfl,rfl⟩;rw [q])
   go_ret;exact ⟨Bx H.out.symm,B0⟩
  ·have qq:=Ct.1 q;obtain ⟨t,rfl⟩:=Ap qq.1;have ht:t<y.runs[k].tasks.length:=Bl;obtain ⟨b',o',_,sG,bF,_,d0,d1,d2,d3⟩:=h3.task ht;subst sG;have eB:b'<w1:=Ai bF B0.size;have kF:(t:Int)<(y.runs[k].tasks.length:Int):=Bl;have gW:(0:Int)<=(t:Int):=Bl;have H:=Br (show tf (Gq y id t tr)=((y.runs[k].tasks[t].state == 3) && (y.runs[k].tasks[t].try_ == tr)) by
    rw [Bool.eq_iff_iff,Mv,Bool.and_eq_true,beq_iff_eq,beq_iff_eq];unfold Gq;rw [HK.out,Ao,Cu ht,HR2.out];constructor
    ·intro hh;exact hh.2.2
    ·intro hh;exact ⟨Bl,⟨Bl,Bl⟩,hh⟩)
   clear qq;generalize y.runs[k].tasks[t].state=st at *
   generalize y.runs[k].tasks[t].try_=ty at *
   cases q2:(st == 3)
   ·exact Akx
   ·exact Akx
theorem Rg (y:Yard) (s:Sl×Sl) (id tk tr:Int) (w:World) (hl:Ca y<=2000000) (h:Bw.rd w w y s) :
  Calls Am 209 #[Ds y s,J U id,J U tk,J U tr] w fun e' w'=>e' = .returned (J U (Gv y id tk tr))/\Below w w w':=by
 have HR:=Br (show ∀ W,Below w w W->Bw.rd W W y s from fun W hW=>Bw.rd_more (Bw.rd_below h hW) hW.size);obtain ⟨⟨A1,n1,c1⟩,⟨A2,n2,c2⟩⟩:=s;have CY:=Br (fun W hW=>Gk y (⟨A1,n1,c1⟩,⟨A2,n2,c2⟩) W hl (HR.out W hW));have CA:=Br (fun W hW=>Fj y (⟨A1,n1,c1⟩,⟨A2,n2,c2⟩) id W hl (HR.out W hW));have CH:=Br (fun W hW=>Mz y (⟨A1,n1,c1⟩,⟨A2,n2,c2⟩) id tk tr W hl (HR.out W hW));clear h;obtain ⟨W,aH,X,B0⟩:=bx1 w 31 [J U y.now,J U y.seq,Aa A1 n1 c1,Aa A2 n2 c2];go_enter func209,ntmps209;exact Aid
theorem V7 (es:List (Nat×Nat)) (T t:Nat):∀ x∈Gj es T t,x<T:=by
 induction T with
 | zero =>
  intro x hx
  have:=Mo es 0 t
  have h0:Gj es 0 t=[]:=List.eq_nil_of_length_eq_zero Bl;rw [h0] at hx;cases hx
 | succ T ih =>
  intro x hx;rw [Qz] at hx;rcases Bi.1 hx with h | h
  ·have:=ih x h;omega
  ·unfold I8 at h;split at h
   ·simp at h;omega
   ·cases h
def Ag0 (r:Run) (u:Nat) (L:List Nat):List Task:=L.foldl (fun l b=>Hy l b Du) (Hy r.tasks u fun x=>⟨4,x.need,x.try_,0⟩)
theorem Lr (r:Run) (u:Nat):∀ (L:List Nat) (l:List Task),(L.foldl (fun l b=>Hy l b Du) l).length=l.length
 | [],l=>rfl
 | b :: L,l=>by rw [List.foldl_cons,Lr r u L,Ot]
theorem Sc (L:List Nat):∀ (l:List Task) (m:Int),(∀ x∈l,-m<=x.need/\x.need<=1000/\1<=x.state/\x.state<=6)->(0<=m) -> ∀ x∈L.foldl (fun l b=>Hy l b Du) l,-(m+L.length)<=x.need/\x.need<=1000/\1<=x.state/\x.state<=6:=by
 induction L with
 | nil=>intro l m h _ x hx;have:=h x hx;simp;exact this
 | cons b L ih =>
  intro l m h hm x hx;rw [List.foldl_cons] at hx;have h1:∀ x∈Hy l b Du,-(m+1)<=x.need/\x.need<=1000/\1<=x.state/\x.state<=6:=by
   intro x hx;unfold Hy at hx;rcases List.mem_or_eq_of_mem_set hx with h2 | h2
   ·have:=h x h2;omega
   ·subst h2;by_cases hb:b<l.length
    ·rw [List.getD_eq_getElem?_getD,List.getElem?_eq_getElem hb]
     have:=h _ (Aw hb)
     simp only [Option.getD_some,Du];split<;>omega
    ·rw [List.set_eq_of_length_le Bl] at hx
     have:=h _ hx
     omega
  have:=ih _ (m+1) h1 Bl x hx
  rw [List.length_cons];omega
theorem V8 (s:Int) (y:Task):∀ (l:List Task) (k:Nat) (hk:k<l.length),Dx (l.set k y) s+(if l[k].state=s then 1 else 0)=Dx l s+(if y.state=s then 1 else 0)
 | x :: l,0,_=>by
  unfold Dx;by_cases h1:x.state=s<;>by_cases h2:y.state=s<;>simp [h1,h2]
 | x :: l,k+1,hk=>by
  have ih:=V8 s y l k (by simpa using hk);unfold Dx at *
  by_cases h1:x.state=s
  ·simp only [List.set_cons_succ,List.getElem_cons_succ,List.filter_cons,beq_iff_eq,h1,if_true,List.length_cons];omega
  ·simp only [List.set_cons_succ,List.getElem_cons_succ,List.filter_cons,beq_iff_eq,h1,if_false];exact ih
theorem Ln {l:List Task} {t:Nat} (h:t<l.length) (f:Task->Task):Hy l t f=l.set t (f l[t]):=by
 unfold Hy;exact Alo
theorem Rh {r r':Run} {l:List Nat} (h:∀ b,(Cv r b).state=4 ↔ (Cv r' b).state=4):Ij r l=Ij r' l:=by
 unfold Ij;congr 1;apply List.filter_congr;intro b _;by_cases q:(Cv r b).state=4
 ·simp [q,(h b).1 q]
 ·have q':¬ (Cv r' b).state=4:=fun hh=>q ((h b).2 hh);rw [show ((Cv r b).state != 4)=true from bne_iff_ne.2 q,show ((Cv r' b).state != 4)=true from bne_iff_ne.2 q']
theorem Yi (x:Task):(Dr x).state=4/\x.state=4\/(Dr x).state=5/\x.state=5\/(Dr x).state=6/\x.state≠4/\x.state≠5:=by
 unfold Dr;by_cases h4:x.state=4
 ·simp [h4]
 ·by_cases h5:x.state=5
  ·simp [h5]
  ·simp [h4,h5]
theorem Af6 (l:List Task):Dx (l.map Dr) 4=Dx l 4/\Dx (l.map Dr) 5=Dx l 5/\La (l.map Dr)=0:=by
 induction l with
 | nil=>exact ⟨rfl,rfl,rfl⟩
 | cons x l ih =>
  have hc:∀ (y:Task) (l:List Task) s,Dx (y :: l) s=(if y.state=s then 1 else 0)+Dx l s:=by
   intro y l s;unfold Dx;by_cases h:y.state=s<;>simp [h];omega
  obtain ⟨h1,h2,h3⟩:=ih;unfold La at *
  simp only [List.map_cons,hc];rcases Yi x with ⟨a,b⟩ | ⟨a,b⟩ | ⟨a,b,c⟩
  ·simp [a,b,h1,h2];omega
  ·simp [a,b,h1,h2];omega
  ·simp [a,b,c,h1,h2];omega
theorem Sd (i:Int) (p:Plan) (s:Int) (l:List Task) (k:Nat):Cv ⟨i,p,s,l⟩ k=l.getD k ⟨0,0,0,0⟩:=rfl
theorem Acd {l:List Task} {s:Int} {k:Nat} (hk:k<l.length) (h:l[k].state=s):1<=Dx l s:=by
 unfold Dx;apply List.length_pos_of_mem (a:=l[k]);rw [List.mem_filter];exact ⟨Aw hk,by simp [h]⟩
theorem Ahl {l:List Task} {s:Int} {k:Nat} (hk:k<l.length) (h:¬ l[k].state=s):Dx l s<l.length:=by
 unfold Dx;rcases Nat.lt_or_ge (l.filter fun x=>x.state == s).length l.length with h1 | h1
 ·exact h1
 ·have h2:=List.filter_sublist (p:=fun x:Task=>x.state == s) (l:=l);have h3:=h2.eq_of_length_le h1;have h4:l[k]∈(l.filter fun x=>x.state == s):=by rw [h3];exact Aw hk
  rw [List.mem_filter] at h4;exact absurd (by simpa using h4.2) h
theorem Qp {r:Run} {u:Nat} (h:I4 r u):Dx r.tasks 5=0/\Dx r.tasks 6=0/\Dx r.tasks 4<r.tasks.length/\r.state=1:=by
 obtain ⟨hr,⟨_,hu⟩,hs⟩:=h;have kY:u<r.tasks.length:=Bl;rw [Ao,Cu kY] at hs;have h3:=Acd kY hs;have h4:=Ahl (s:=4) kY Bl;have h5:=hr.2.2.2.2.1;have h6:=hr.2.2.2.2.2;have hR:¬ La r.tasks=0:=by unfold La;omega
 unfold stL at h5;rw [if_neg Bl,if_neg (fun hh=>hR hh.2),if_neg (fun hh=>hR hh.2.2)] at h5;by_cases q:Dx r.tasks 5=0/\Dx r.tasks 6=0
 ·rw [if_pos q] at h5;exact ⟨q.1,q.2,h4,h5⟩
 ·rw [if_neg q] at h5;exact absurd h5 h6
theorem Yj (r:Run) (u:Nat):(Dp r u).id=r.id/\(Dp r u).plan=r.plan:=by
 unfold Dp;split<;>exact ⟨rfl,rfl⟩
theorem Ace {r:Run} {u:Nat} (h:I4 r u):Hn (Dp r u):=by
 obtain ⟨l5,l6,l4,ls⟩:=Qp h;obtain ⟨hr,⟨_,hu⟩,hs⟩:=h;have kY:u<r.tasks.length:=Bl;rw [Ao] at hs;have hsu:=hs;rw [Cu kY] at hs;obtain ⟨a1,a2,a3,a4,a5,a6⟩:=hr;have hq:=a4 u kY;unfold Hx at hq;rw [Cu kY] at hq;obtain ⟨q1,q2,q3,q4,q5,q6,q7,q8⟩:=hq;have hgetS:∀ (y:Task) b,(r.tasks.set u y).getD b ⟨0,0,0,0⟩=if b=u then y else Cv r b:=by
  intro y b;unfold Cv;rw [List.getD_eq_getElem?_getD,List.getD_eq_getElem?_getD,List.getElem?_set];by_cases e:u=b
  ·subst e;simp [kY]
  ·rw [if_neg e,if_neg (fun hh=>e hh.symm)]
 unfold Dp;split
 ·next ht =>
  rw [Cu kY] at ht;rw [Ln kY];refine ⟨a1,a2,by simpa using a3,?_,?_,a6⟩
  ·intro t fA;have htl':t<r.tasks.length:=by simpa using fA
   have hN:I1 ⟨r.id,r.plan,r.state,r.tasks.set u ⟨2,r.tasks[u].need,r.tasks[u].try_,0⟩⟩ t=I1 r t:=by
    unfold I1;apply Rh;intro b;rw [Sd,hgetS];by_cases e:b=u
    ·subst e;rw [if_pos rfl];simp [hsu]
    ·rw [if_neg e]
   unfold Hx;rw [hN,Sd,hgetS];by_cases e:t=u
   ·subst e;rw [if_pos rfl]
    have:=q8 (.inl hs)
    refine ⟨Bo,q2,q3,Bo,Bo,Bo,?_,Bo⟩;intro _;exact ⟨this.1,ht⟩
   ·rw [if_neg e];exact a4 t htl'
  ·have c:=fun s=>V8 s ⟨2,r.tasks[u].need,r.tasks[u].try_,0⟩ r.tasks u kY;have c1:=c 1;have c2:=c 2;have c3:=c 3;have c4:=c 4;have c5:=c 5;have c6:=c 6;simp only [hs] at c1 c2 c3 c4 c5 c6;simp at c1 c2 c3 c4 c5 c6;show r.state=stL (r.tasks.set u ⟨2,r.tasks[u].need,r.tasks[u].try_,0⟩);rw [ls];unfold stL;have hR:¬ La (r.tasks.set u ⟨2,r.tasks[u].need,r.tasks[u].try_,0⟩)=0:=by unfold La;omega
   rw [if_neg (by rw [Bh];omega),if_neg (fun hh=>hR hh.2),if_neg (fun hh=>hR hh.2.2),if_pos Bl]
 ·next ht =>
  rw [Cu kY] at ht;rw [Ln kY];have hX:∀ b,Cv (D6 ⟨r.id,r.plan,r.state,r.tasks.set u ⟨5,r.tasks[u].need,r.tasks[u].try_,0⟩⟩ 3) b=if b<r.tasks.length then Dr (if b=u then ⟨5,r.tasks[u].need,r.tasks[u].try_,0⟩ else Cv r b) else ⟨0,0,0,0⟩:=by
   intro b;unfold D6;rw [Sd,List.getD_eq_getElem?_getD,List.getElem?_map];by_cases e:b<r.tasks.length
   ·rw [if_pos e,<-hgetS,List.getD_eq_getElem?_getD,List.getElem?_eq_getElem (by rw [Bh];exact e)];rfl
   ·rw [if_neg e,List.getElem?_eq_none (by rw [Bh];omega)];rfl
  refine ⟨a1,a2,by simpa [D6] using a3,?_,?_,by simp [D6]⟩
  ·intro t fA;have htl':t<r.tasks.length:=by simpa [D6] using fA
   have hN:I1 (D6 ⟨r.id,r.plan,r.state,r.tasks.set u ⟨5,r.tasks[u].need,r.tasks[u].try_,0⟩⟩ 3) t=I1 r t:=by
    show Ij _ _=Ij _ _;apply Rh;intro b;rw [hX];by_cases e:b<r.tasks.length
    ·rw [if_pos e];by_cases e2:b=u
     ·subst e2;rw [if_pos rfl];simp [hsu,Dr]
     ·rw [if_neg e2];rcases Yi (Cv r b) with ⟨a,b⟩ | ⟨a,b⟩ | ⟨a,b,c⟩
      ·simp [a,b]
      ·simp [a,b]
      ·simp [a,b]
    ·rw [if_neg e];unfold Cv;rw [List.getD_eq_getElem?_getD,List.getElem?_eq_none Bl];simp
   unfold Hx;rw [hN,hX,if_pos htl'];show Oo _ _ r.plan.most;by_cases e:t=u
   ·subst e;rw [if_pos rfl]
    have:=q8 (.inl hs)
    unfold Dr;rw [if_neg Bo];refine ⟨Bo,q2,q3,Bo,Bo,Bo,Bo,?_⟩;intro _;exact this
   ·rw [if_neg e];obtain ⟨p1,p2,p3,p4,p5,p6,p7,p8⟩:=a4 t htl';unfold Dr;split
    ·refine ⟨Bo,p2,p3,Bo,Bo,Bo,Bo,Bo⟩
    ·exact ⟨p1,p2,p3,p4,p5,p6,p7,p8⟩
  ·have c:=fun s=>V8 s ⟨5,r.tasks[u].need,r.tasks[u].try_,0⟩ r.tasks u kY;have c4:=c 4;have c5:=c 5;simp only [hs] at c4 c5;simp at c4 c5;obtain ⟨m1,m2,m3⟩:=Af6 (r.tasks.set u ⟨5,r.tasks[u].need,r.tasks[u].try_,0⟩);show (3:Int)=stL ((r.tasks.set u ⟨5,r.tasks[u].need,r.tasks[u].try_,0⟩).map Dr);unfold stL;rw [if_neg (by rw [List.length_map,Bh];omega),if_pos Bl]
theorem Ri {α:Type} {cnt:α->Nat} {K:Nat} : ∀ {l:List α},(∀ x∈l,cnt x<=K)->Ek cnt l<=l.length * (K+1)
 | [],_=>by simp [Ek]
 | x :: l,h=>by
  have ih:=Ri (cnt:=cnt) (K:=K) (l:=l) (fun y hy=>h y (List.mem_cons_of_mem _ hy))
  have:=h x (List.mem_cons_self ..)
  unfold Ek at *
  rw [List.map_cons,List.sum_cons,List.length_cons,Nat.succ_mul];omega
theorem Kw {r:Run} (h:Hn r):Co r<=42:=by
 have h1:=Fw (Dl.1 h.2.1).1;have h2:=Eb h;exact Alg
theorem Ls {y:Yard} {M:Nat} (h4:y.shelf.length=4) (hM:∀ s∈y.shelf,s.length<=M) (h8:y.runs.length<=8) (hr:∀ k (h:k<y.runs.length),Hn y.runs[k]):Ca y<=4 * (M+1)+344:=by
 have h1:Ek Cn y.shelf<=y.shelf.length * (M+1):=Ri (fun s hs=>by
  have e:Cn s=s.length:=Fh (fun _=>rfl) _;rw [e];exact hM s hs)
 have h2:Ek Co y.runs<=y.runs.length * (42+1):=Ri (fun r gK=>by
  obtain ⟨k,hk,rfl⟩:=List.getElem_of_mem gK;exact Kw (hr k hk))
 exact Al3
structure Trn (y:Yard) (m:Nat) (z:Yard):Prop where
 now:z.now=y.now
 four:z.shelf.length=4
 all:∀ s∈z.shelf,s.length<=80+12 * m
 seq:1<=z.seq/\z.seq<=1000000000+12 * m
 len:z.runs.length=y.runs.length
 le8:z.runs.length<=8
 run:∀ k (h:k<z.runs.length) (h':k<y.runs.length),Hn z.runs[k]/\z.runs[k].id=y.runs[k].id/\z.runs[k].tasks.length=y.runs[k].tasks.length
theorem Trn.start {y:Yard} (h:Dk y):Trn y 0 y :=
 ⟨rfl,h.2.2.1,fun s hs=>by have:=(h.2.2.2.1 s hs).1;omega,by have:=h.2.1;omega,rfl,h.2.2.2.2.2.2.1,fun k hk _=>⟨Ev h hk,rfl,rfl⟩⟩
theorem Trn.mono {y z:Yard} {m n:Nat} (h:Trn y m z) (hm:m<=n):Trn y n z :=
 ⟨h.now,h.four,fun s hs=>by have:=h.all s hs;omega,by have:=h.seq;omega,h.len,h.le8,h.run⟩
theorem Yk (y:Yard) (k:Nat) (r:Run) (hk:k<y.runs.length):Gn y k r=Ir ⟨y.now,y.seq,y.shelf,y.runs.set k r⟩ y.runs[k] r r.tasks.length:=by
 unfold Gn;rw [List.getD_eq_getElem?_getD,List.getElem?_eq_getElem hk];rfl
theorem Trn.step {y z:Yard} {m:Nat} (h:Trn y m z) {k u:Nat} (hk:k<z.runs.length) (hr:I4 z.runs[k] u):Trn y (m+1) (Gn z k (Dp z.runs[k] u)):=by
 have hR:=Ace hr;have hL:=Eb hR;rw [Yk _ _ _ hk];have hF:=Qo (y:=⟨z.now,z.seq,z.shelf,z.runs.set k (Dp z.runs[k] u)⟩) (was:=z.runs[k]) (r:=Dp z.runs[k] u) h.all (Dp z.runs[k] u).tasks.length;generalize Ir ⟨z.now,z.seq,z.shelf,z.runs.set k (Dp z.runs[k] u)⟩ z.runs[k] (Dp z.runs[k] u) (Dp z.runs[k] u).tasks.length=Z at *
 have e:Z.runs=z.runs.set k (Dp z.runs[k] u):=hF.runs;refine ⟨hF.now.trans h.now,hF.len.trans h.four,fun s hs=>by have:=hF.all s hs;omega,?_,by rw [e,Bh];exact h.len,by rw [e,Bh];exact h.le8,fun j hj hj'=>?_⟩
 ·have h1:=hF.seq;have h2:=h.seq;dsimp only at h1;omega
 ·have hjz:j<z.runs.length:=by rw [h.len];exact hj'
  have e2:Z.runs[j]=if k=j then Dp z.runs[k] u else z.runs[j]:=by
   rw [show Z.runs[j]=(z.runs.set k (Dp z.runs[k] u))[j]'(by rw [Bh];exact hjz) by simp only [e],List.getElem_set]
  rw [e2];have h1:=h.run j hjz hj';split
  ·next hkj =>
   subst hkj;exact ⟨hR,(Yj _ _).1.trans h1.2.1,(Il _ _).trans h1.2.2⟩
  ·exact h1
theorem Trn.cnt {y z:Yard} {m:Nat} (h:Trn y m z) (hm:m<=1000):Ca z<=2000000:=Amc
theorem Acf {α:Type} {p:α->Bool} {l l':List α} (hl:l.length=l'.length) (h:∀ k (h1:k<l.length) (h2:k<l'.length),p l[k]=p l'[k]):Hv p l=Hv p l':=by
 rcases Mq p l' with e | ⟨k,hk,e⟩
 ·rw [e];refine Km (fun j hj=>?_);rw [h j hj Bl];unfold Hv at e;cases q:l'.findIdx? p with
  | none =>
   rw [List.findIdx?_eq_none_iff] at q;exact q _ (Aw _)
  | some i=>rw [q] at e;exact absurd e Bo
 ·rw [e];unfold Hv at e;cases q:l'.findIdx? p with
  | none=>rw [q] at e;exact absurd e Bo
  | some i =>
   rw [q] at e;have e':i=k:=Int.ofNat.inj e;subst e';obtain ⟨h1,h2,h3⟩:=List.findIdx?_eq_some_iff_getElem.1 q;exact Jy Bl (fun j hj=>by rw [h j Bl Bl];simpa using h3 j hj) (by rw [h i Bl hk];exact h2)
theorem Trn.runAt {y z:Yard} {m:Nat} (h:Trn y m z) (id:Int):Dn z id=Dn y id:=by
 rw [Lp h.le8,Lp (by rw [<-h.len];exact h.le8)];exact Acf h.len (fun k h1 h2=>by unfold Nc;rw [(h.run k h1 h2).2.1])
theorem Z6 (y:Yard) (s:Sl×Sl) (p:Plan) (ve:Value) (w:World) (hl:Ca y<=2000000) (hS:Gw y<=40) (hq:0<=y.seq/\y.seq<=2000000000) (h:Bw.rd w w y s) :
  Calls Am 201 #[Ds y s,G9 p ve] w fun e' w'=>e' = .returned (.bool (Mr y p))/\Below w w w':=by
 have HR:=Br (show ∀ W,Below w w W->Bw.rd W W y s from fun W hW=>Bw.rd_more (Bw.rd_below h hW) hW.size);obtain ⟨⟨A1,n1,c1⟩,⟨A2,n2,c2⟩⟩:=s;obtain rfl:n2=y.runs.length:=RdL.at1 (s:=⟨A2,n2,c2⟩) h.2;have CS:=Br (fun W hW=>P7 y (⟨A1,n1,c1⟩,⟨A2,y.runs.length,c2⟩) W hl (HR.out W hW));clear h HR;have HD:=Br (show Mr y p=(decide (y.runs.length<8) && (inB p.tasks 0 12 && (decide ((Gw y:Int)+p.tasks<=40) && decide (y.seq<=999999000 - p.tasks)))) from rfl);generalize Mr y p=D at *
 generalize Gw y=sn at *
 obtain ⟨W,aH,X,P,B0⟩:=bx2 w 31 [J U y.now,J U y.seq,Aa A1 n1 c1,Aa A2 y.runs.length c2] 43 [J U p.prio,J U p.most,J U p.wait,J U p.tasks,ve];go_enter func201,ntmps201;go_wp2;rw [<-aH.out];clear aH;have X_:=X.g4;have P_:=P.g5;have aM:=Cw W;by_cases a:y.runs.length<8;case neg =>
  have aI:¬ (y.runs.length:Int)<8:=Bl;have aD:decide ((y.runs.length:Int)<8)=false:=decide_eq_false aI;have H:=Br (show D=false by rw [HD.out,decide_eq_false a,Bool.false_and]);clear HD a;exact Ain
 have aI:(y.runs.length:Int)<8:=Bl;have aD:decide ((y.runs.length:Int)<8)=true:=decide_eq_true aI;have HD:=Br (HD.out.trans (by rw [decide_eq_true a,Bool.true_and]));clear a;cases c:inB p.tasks 0 12;case false =>
  have H:=Br (show D=false by rw [HD.out,c,Bool.false_and]);clear HD;exact Ain
 have cc:=Ct.1 c;have HD:=Br (HD.out.trans (by rw [c,Bool.true_and]));have wr1:U.wrap ((sn:Int)+p.tasks)=(sn:Int)+p.tasks:=Aq _ Bl;have wr2:U.wrap (999999000 - p.tasks)=999999000 - p.tasks:=Aq _ Bl;cases d:decide ((sn:Int)+p.tasks<=40);case false =>
  have H:=Br (show D=false by rw [HD.out,d,Bool.false_and]);clear HD cc;exact Ain
 have H:=Br (show D=decide (y.seq<=999999000 - p.tasks) by rw [HD.out,d,Bool.true_and]);clear HD cc;cases e:decide (y.seq<=999999000 - p.tasks);all_goals
  rw [e] at H;exact Ain
theorem Acg {b:Nat} {w:World} {u0 u1 u2 u3 u4 u5 u6 u7:Value} (X:DBox b [u0,u1,u2,u3,u4,u5,u6,u7] w) {v0 v1 v2 v3:Value} {rest:List Value} :
  (results Tryz.f249 (v0 :: v1 :: v2 :: v3 :: .pointer (Ac ⟨b,0,Ab⟩) :: rest).toArray).run Am w = .ok (.agg #[u0,u1,u2,u3,u4,u5,u6,u7]) w:=by
 have c0:=X.cell 0 _ rfl;have c1:=X.cell 1 _ rfl;have c2:=X.cell 2 _ rfl;have c3:=X.cell 3 _ rfl;have c4:=X.cell 4 _ rfl;have c5:=X.cell 5 _ rfl;have c6:=X.cell 6 _ rfl;have c7:=X.cell 7 _ rfl;simp [results,results249,go_sem,c0,c1,c2,c3,c4,c5,c6,c7]
theorem Hw.taskUn' {w:World} {F:List Nat} {b o n c:Nat} {l:List Task} {j:Nat} {y:Task} (h:Hw Ge w F (Aa (Ac ⟨b,o,Ab⟩) n c) (l.set j y)) (hj:j<l.length) (st:Int) :
  Hw Ge (w.setCell ⟨b,o+j * 4+3,Ab⟩ (J U st)) F (Aa (Ac ⟨b,o,Ab⟩) n c) (l.set j ⟨y.state,y.need,y.try_,st⟩):=by
 have:=h.taskUntil (j:=j) (by rw [Bh];exact hj) st
 rw [List.getElem_set_self,List.set_set] at this;exact this
theorem Z7 (r:Run) (s:Sl×Sl) (u:Nat) (w:World) (hl:Co r<=2000000) (hR:I4 r u) (h:Cf.rd w w r s) :
  Calls Am 249 #[G7 r s,J U u] w (Dv Cf G7 (Jq r u) w):=by
 have CP:=Br (fun W (hW:Below w w W)=>Iq r s W hl (Cf.rd_more (Cf.rd_below h hW) hW.size));have CR:=Br (fun W (hW:Below w w W)=>Re r s u W hl (Cf.rd_more (Cf.rd_below h hW) hW.size));rw [Di hR] at CR;have ht:u<r.tasks.length:=by have:=hR.2.1.2;omega
 have aE:r.tasks.length<=2000000:=Ah (Ck D7 _) (by unfold Co at hl;omega);have dE:=Br (Cu ht);obtain ⟨⟨A1,n1,c1⟩,⟨A2,n2,c2⟩⟩:=s;obtain rfl:n2=r.tasks.length:=RdL.at1 (s:=⟨A2,n2,c2⟩) h.2;obtain rfl:n1=r.plan.edges.length:=RdL.at1 (s:=⟨A1,n1,c1⟩) h.1;have uI:=Br hR.1;have rP:=Br (fun W (hW:Below w w W)=>(I2 h.1).below hW);clear h hl hR;have kF:(u:Int)<(r.tasks.length:Int):=Bl;have gW:(0:Int)<=(u:Int):=Bl;have X:=(DBox.new 67 [J U r.id,J U r.plan.prio,J U r.plan.most,J U r.plan.wait,J U r.plan.tasks,Aa A1 r.plan.edges.length c1,J U r.state,Aa A2 r.tasks.length c2] w (b:=w) rfl).below ((Bs _ _).alloc (Bt _) (.cells #[J U 0,J U 0,J U 0,J U 0,J U 0,Aa Ab 0 0,J U 0,Aa Ab 0 0] 67));have RES:=DBox.new 67 [J U 0,J U 0,J U 0,J U 0,J U 0,Aa Ab 0 0,J U 0,Aa Ab 0 0] (w.alloc (.cells #[J U r.id,J U r.plan.prio,J U r.plan.most,J U r.plan.wait,J U r.plan.tasks,Aa A1 r.plan.edges.length c1,J U r.state,Aa A2 r.tasks.length c2] 67)) (b:=w+1) Bo;have B0:Below w w ((w.alloc (.cells #[J U r.id,J U r.plan.prio,J U r.plan.most,J U r.plan.wait,J U r.plan.tasks,Aa A1 r.plan.edges.length c1,J U r.state,Aa A2 r.tasks.length c2] 67)).alloc (.cells #[J U 0,J U 0,J U 0,J U 0,J U 0,Aa Ab 0 0,J U 0,Aa Ab 0 0] 67)):=by repeat (first | exact Bs _ _ | refine Below.alloc ?_ Bp _)
 go_enter func249,ntmps249;go_wp2_with fail
 refine (CP.out _ B0).mono ?_;rintro e w1 ⟨⟨⟨A3,n3,c3⟩,⟨A4,n4,c4⟩⟩,F,rfl,o1,nF,b1⟩;obtain ⟨F1,F2,rfl,bP,op,ot⟩:=o1;replace ot:OwL C8 w1 F2 (Aa A4 n4 c4) r.tasks:=ot;have bR:=Br (Ce.ow_lt op);obtain rfl:n4=r.tasks.length:=RdL.at1 (s:=⟨A4,n4,c4⟩) ot.rd;have oh:=N1 ot;clear ot CP;obtain ⟨b,o,rfl,aJ,d0,d1,d2,d3⟩:=oh.rd.tsk ht;clear d0 d1 d2 d3;have hBw:=B0.size;obtain ⟨rfl,bV,qE⟩:=oh.block Bl;have gU:=nF b Bo;have mU:=X.lt;have eC:=RES.lt;replace B0:=Bv B0 b1;replace X:=X.below b1;replace RES:=RES.below b1;clear b1;go_upto_region 2 with fail
 have OB:=DBox.new 67 [J U r.id,J U r.plan.prio,J U r.plan.most,J U r.plan.wait,J U r.plan.tasks,Aa A3 n3 c3,J U r.state,Aa (Ac ⟨b,o,Ab⟩) r.tasks.length c4] w1 (b:=w1) rfl;have b2:Below w1 w1 (w1.alloc (.cells #[J U r.id,J U r.plan.prio,J U r.plan.most,J U r.plan.wait,J U r.plan.tasks,Aa A3 n3 c3,J U r.state,Aa (Ac ⟨b,o,Ab⟩) r.tasks.length c4] 67)):=Bu;have B2:=Bv B0 b2;replace X:=X.below b2;replace RES:=RES.below b2;replace oh:=oh.below b2;have op2:=Ce.ow_below op b2;have eB:=b2.size;have ow1:=OB.lt;clear op;generalize w1.alloc (.cells #[J U r.id,J U r.plan.prio,J U r.plan.most,J U r.plan.wait,J U r.plan.tasks,Aa A3 n3 c3,J U r.state,Aa (Ac ⟨b,o,Ab⟩) r.tasks.length c4] 67)=w2 at *
 have X_:=X.g8;go_wp2_with fail
 refine (CR.out _ B2).mono ?_;rintro e w3 ⟨rfl,b3⟩;have B3:=Bv B2 b3;clear X_;replace X:=X.below b3;replace RES:=RES.below b3;replace OB:=OB.below b3;replace oh:=oh.below b3;have op3:=Ce.ow_below op2 b3;have kT:=b3.size;clear op2 CR b3;have X_:=X.g8;have OB_:=OB.g8;obtain ⟨b',o',bU,bF,d0,d1,d2,d3⟩:=oh.rd.tsk ht;simp only [Option.some.injEq,Addr.mk.injEq,and_true] at bU;obtain ⟨rfl,rfl⟩:=bU;have jV:=(oh.block Bl).2.2;have fG:b∉F1:=fun hx=>(Ax.1 bP).2.2 b hx b Bo rfl;go_upto_region 6 with fail
 have oh4:Hw Ge ((w3.setCell ⟨b,o+u * 4,Ab⟩ (J U 4)).setCell ⟨b,o+u * 4+3,Ab⟩ (J U 0)) [b] (Aa (Ac ⟨b,o,Ab⟩) r.tasks.length c4) (r.tasks.set u ⟨4,r.tasks[u].need,r.tasks[u].try_,0⟩):=(oh.taskState ht 4).taskUn' ht 0;have hC:Chg [b] w3 ((w3.setCell ⟨b,o+u * 4,Ab⟩ (J U 4)).setCell ⟨b,o+u * 4+3,Ab⟩ (J U 0)):=(Chg.setCell w3 b _ _).trans (Chg.setCell _ b _ _);have op4:=Ce.ow_chg op3 hC (fun x hx h=>by simp only [Au] at h;subst h;exact fG hx);have B4:Below w w ((w3.setCell ⟨b,o+u * 4,Ab⟩ (J U 4)).setCell ⟨b,o+u * 4+3,Ab⟩ (J U 0)):=Ajq
 clear OB_;clear X_;clear d0 d1 d2 d3 bF jV;replace OB:=OB.chg hC (by simp only [Au];omega);replace X:=X.chg hC (by simp only [Au];omega);replace RES:=RES.chg hC (by simp only [Au];omega);have pV:=hC.size;clear hC oh op3;generalize ((w3.setCell ⟨b,o+u * 4,Ab⟩ (J U 4)).setCell ⟨b,o+u * 4+3,Ab⟩ (J U 0))=w4 at *
 have X_:=X.g8;have kA:=Dl.1 uI.out.2.1;have CB:=Br (Uz r.plan (Aa A1 r.plan.edges.length c1) u w4 kA.1 kA.2.1 kA.2.2.1 ((rP.out w4 B4).more B4.size));have hBL:=Br (V7 (Ea r.plan) r.plan.tasks.toNat u);have gL:=Br (Mo (Ea r.plan) r.plan.tasks.toNat u);have hD0:Hid (Jq r u=⟨r.id,r.plan,stL (Ag0 r u (Gj (Ea r.plan) r.plan.tasks.toNat u)),Ag0 r u (Gj (Ea r.plan) r.plan.tasks.toNat u)⟩):=rfl;clear kA;generalize Gj (Ea r.plan) r.plan.tasks.toNat u=BL at *
 go_wp2_with fail
 refine CB.out.mono ?_;rintro e w5 ⟨vb,rfl,ob,b5⟩;obtain ⟨A9,c9,rfl,-⟩:=id (Rd.of_own ob);have B5:=Bv B4 b5;have qD:=b5.size;have oh5:=oh4.below b5;have op5:=Ce.ow_below op4 b5;clear X_;replace OB:=OB.below b5;replace RES:=RES.below b5;have cX:b<w4:=Bl;obtain ⟨cR,hobB⟩:=Hw.of_ow ob;have HB:=Br (fun W (hW:Chg [b] w5 W)=>(cR.chg hW (fun x hx h=>by simp only [Au] at h;subst h;have:=hobB _ hx;omega)).rd);have dD:Hid (∀ g o,A9=Ac ⟨g,o,Ab⟩->0<BL.length->w4.heap.size<=g):=fun g o h hp=>hobB g (by
  subst h;unfold El;rw [if_neg Bl];exact Au.2 rfl)
 have tT:Hid (Hy r.tasks u (fun x=>⟨4,x.need,x.try_,0⟩)=r.tasks.set u ⟨4,r.tasks[u].need,r.tasks[u].try_,0⟩):=Rb ht _;have dQ:∀ x∈r.tasks,0<=x.need/\x.need<=1000/\1<=x.state/\x.state<=6:=by
  intro x hx;obtain ⟨j,hj,rfl⟩:=List.getElem_of_mem hx;have h1:=uI.out.2.2.2.1 j hj;unfold Hx Oo at h1;rw [Cu hj] at h1;have h2:=Pc r (Eg (Ea r.plan) r.plan.tasks.toNat j);have h3:=I9 (Ea r.plan) r.plan.tasks.toNat j;have h4:=(Eb uI.out).2;have h5:=uI.out.2.2.1;have h6:I1 r j<=12:=by unfold I1;omega
  omega
 have hbnd:Hid (∀ x∈r.tasks.set u ⟨4,r.tasks[u].need,r.tasks[u].try_,0⟩,-0<=x.need/\x.need<=1000/\1<=x.state/\x.state<=6):=by
  intro x hx;rcases List.mem_or_eq_of_mem_set hx with h | h
  ·have:=dQ x h;omega
  ·subst h
   have:=dQ _ (Aw ht)
   refine ⟨?_,?_,?_,?_⟩<;>dsimp only<;>omega
 clear dQ;have rL:=Br (show r.plan.tasks.toNat=r.tasks.length by have:=uI.out.2.2.1;omega);generalize hL:r.tasks.set u ⟨4,r.tasks[u].need,r.tasks[u].try_,0⟩=L0 at *
 have pN:=Br (show L0.length=r.tasks.length by rw [<-hL,Bh]);clear hL ob cR hobB X CB rP;go_wp2;generalize G7 r (⟨A1,r.plan.edges.length,c1⟩,⟨A2,r.tasks.length,c2⟩)=rv;go_loopw [7] (fun i wr=>∃ k:Nat,k<=BL.length/\i = J U k/\Hid (Hw Ge wr [b] (Aa (Ac ⟨b,o,Ab⟩) r.tasks.length c4) ((BL.take k).foldl (fun l b=>Hy l b Du) L0))/\DBox w1 [J U r.id,J U r.plan.prio,J U r.plan.most,J U r.plan.wait,J U r.plan.tasks,Aa A3 n3 c3,J U r.state,Aa (Ac ⟨b,o,Ab⟩) r.tasks.length c4] wr/\DBox (w+1) [J U 0,J U 0,J U 0,J U 0,J U 0,Aa Ab 0 0,J U 0,Aa Ab 0 0] wr/\Chg [b] w5 wr) (fun i _=>BL.length - (intOf i).toNat);case atStart=>exact ⟨0,Ag _,rfl,oh5,OB,RES,Chg.refl _ _⟩
 case round =>
  clear OB RES oh5;obtain ⟨k,hk,rfl,hO,OB,RES,hb⟩:=hrel;by_cases aA:k<BL.length
  ·have aB:(k:Int)<(BL.length:Int):=Bl;have hx:=Br (hBL.out _ (Aw aA));have qZ:=Br (show ((BL.take k).foldl (fun l b=>Hy l b Du) L0).length=r.tasks.length by rw [Lr r u,pN.out]);have rH:=Br (Sc (BL.take k) L0 0 hbnd.out (Int.le_refl 0));have aF:=Br (show (BL.take (k+1)).foldl (fun l b=>Hy l b Du) L0=Hy ((BL.take k).foldl (fun l b=>Hy l b Du) L0) BL[k] Du from Kv (fun l b=>Hy l b Du) L0 BL k aA);have mA:(BL.take k).length<=r.tasks.length:=by have:=gL.out;have:=rL.out;rw [Az];omega
   obtain ⟨b9,o9,rfl,hb9,e0⟩:=(HB.out wr hb).nat aA;generalize BL[k]=x at *
   generalize (BL.take k).foldl (fun l b=>Hy l b Du) L0=Lk at *
   have dG:x<Lk.length:=by have:=hx.out;have:=rL.out;have:=qZ.out;omega
   have hxI:(x:Int)<(r.tasks.length:Int):=by have:=hx.out;have:=rL.out;omega
   have sZ:(0:Int)<=(x:Int):=Bl;have hBs:BL.length<=2000000:=by have:=gL.out;have:=rL.out;omega
   have hb9w:=dD.out b9 o9 rfl Bl;have cE:(0:Int)<=(k:Int):=Bl;have hyb:=rH.out _ (Aw dG);have eG:=Br (aF.out.trans (Rb dG Du));clear aF;have OB_:=OB.g8;have RES_:=RES.g8;obtain ⟨b',o',bU,bF,d0,d1,d2,d3⟩:=hO.out.rd.tsk dG;simp only [Option.some.injEq,Addr.mk.injEq,and_true] at bU;obtain ⟨rfl,rfl⟩:=bU;generalize Lk[x]=tx at *
   go_wp2;have uL:b9<wr:=by have:=hb.size;omega
   have hs0:b<wr:=by have:=hb.size;omega
   have hSS:=Br (show ∀ W',Below wr wr W'->(fun w'=>DBox w1 [J U r.id,J U r.plan.prio,J U r.plan.most,J U r.plan.wait,J U r.plan.tasks,Aa A3 n3 c3,J U r.state,Aa (Ac ⟨b,o,Ab⟩) r.tasks.length c4] w'/\w'.cell? ⟨b9,o9+k,Ab⟩=Ac (J U (x:Int))/\w'.cell? ⟨b,o+x * 4,Ab⟩=Ac (J U tx.state)/\w'.cell? ⟨b,o+x * 4+1,Ab⟩=Ac (J U tx.need)/\w'.cell? ⟨b,o+x * 4+2,Ab⟩=Ac (J U tx.try_)/\w'.cell? ⟨b,o+x * 4+3,Ab⟩=Ac (J U tx.until_)) W' from fun W' mP=>⟨OB.below mP,(mP.cell (p:=⟨b9,_,Ab⟩) uL).trans e0,(mP.cell (p:=⟨b,_,Ab⟩) hs0).trans d0,(mP.cell (p:=⟨b,_,Ab⟩) hs0).trans d1,(mP.cell (p:=⟨b,_,Ab⟩) hs0).trans d2,(mP.cell (p:=⟨b,_,Ab⟩) hs0).trans d3⟩);refine Go.wp_region_noPanic ?_;refine wp_region_held_drew (S:=(fun w'=>DBox w1 [J U r.id,J U r.plan.prio,J U r.plan.most,J U r.plan.wait,J U r.plan.tasks,Aa A3 n3 c3,J U r.state,Aa (Ac ⟨b,o,Ab⟩) r.tasks.length c4] w'/\w'.cell? ⟨b9,o9+k,Ab⟩=Ac (J U (x:Int))/\w'.cell? ⟨b,o+x * 4,Ab⟩=Ac (J U tx.state)/\w'.cell? ⟨b,o+x * 4+1,Ab⟩=Ac (J U tx.need)/\w'.cell? ⟨b,o+x * 4+2,Ab⟩=Ac (J U tx.try_)/\w'.cell? ⟨b,o+x * 4+3,Ab⟩=Ac (J U tx.until_))) Bm (hSS.out _ (Bs _ _).drew) (fun hHeld=>?_);refine tV 0 ?_
   (try simp only [pS])
   refine tV 1 ?_
   (try simp only [pS])
   refine tV 2 ?_
   (try simp only [pS])
   refine tV 3 ?_
   (try simp only [pS])
   refine tV 4 ?_
   (try simp only [pS])
   refine tV 5 ?_
   (try simp only [pS])
   refine tV 6 ?_
   (try simp only [pS])
   refine tV 7 ?_
   (try simp only [pS])
   refine rC 8 (fun K_ hK=>?_);go_simp;have bA:Below wr wr ((wr.alloc (.cells #[J U 0,J U 0,J U 0,J U 0] 203)).drew):=(Bu).drew;have XB:=DBox.drew4 (DBox.new 203 [J U 0,J U 0,J U 0,J U 0] wr (b:=wr) rfl);generalize (wr.alloc (.cells #[J U 0,J U 0,J U 0,J U 0] 203)).drew=W1 at *
   refine hK.out _ _ (hSS.out _ bA) (fun hHeld=>?_);clear hK K_
   (try simp only [pS])
   have y0:=XB.cell 0 _ rfl;have y1:=XB.cell 1 _ rfl;have y2:=XB.cell 2 _ rfl;have y3:=XB.cell 3 _ rfl;have yf:=XB.free;have yl:=XB.lt;refine rC 9 (fun K_ hK=>?_);go_simp;have bB:Below wr wr ((((W1.setCell ⟨wr,0,Ab⟩ (J U tx.state)).setCell ⟨wr,1,Ab⟩ (J U tx.need)).setCell ⟨wr,2,Ab⟩ (J U tx.try_)).setCell ⟨wr,3,Ab⟩ (J U tx.until_)):=by
    repeat (first | (with_reducible exact bA) | refine Ad ?_ Bp _)
   have XB2:=DBox.row4 XB rfl (J U tx.state) (J U tx.need) (J U tx.try_) (J U tx.until_);generalize ((((W1.setCell ⟨wr,0,Ab⟩ (J U tx.state)).setCell ⟨wr,1,Ab⟩ (J U tx.need)).setCell ⟨wr,2,Ab⟩ (J U tx.try_)).setCell ⟨wr,3,Ab⟩ (J U tx.until_))=W2 at *
   clear y0 y1 y2 y3 yf yl XB;refine hK.out _ _ (hSS.out _ bB) (fun hHeld=>?_);clear hK K_
   (try simp only [pS])
   refine Al Bm ?_ _;refine NoPanic.normal ?_;clear hHeld;have OB2:=OB.below bB;have RES2:=RES.below bB;have hO2:=hO.out.below bB;have e2:=(bB.cell (p:=⟨b9,o9+k,Ab⟩) uL).trans e0;have aK:=hb.trans (Chg.of_below [b] bB);have hs22:=bB.size;have hsr:=hb.size;clear d0 d1 d2 d3;clear OB_;clear RES_;have y0:=XB2.cell 0 _ rfl;have y1:=XB2.cell 1 _ rfl;have y2:=XB2.cell 2 _ rfl;have y3:=XB2.cell 3 _ rfl;have yf:=XB2.free;have yl:=XB2.lt;have tS:wr≠b:=Bl;by_cases q:tx.need - 1=0
   ·have q2:(tx.need - 1 == 0)=true:=by simp [q]
    have cG:=Br (show Du tx=⟨2,tx.need - 1,tx.try_,tx.until_⟩ by unfold Du;rw [if_pos q]);clear q;go_wp2;have bC:Below wr wr ((W2.setCell ⟨wr,1,Ab⟩ (J U (tx.need - 1))).setCell ⟨wr,0,Ab⟩ (J U 2)):=by
     repeat (first | (with_reducible exact bB) | refine Ad ?_ Bp _)
    have XB3:DBox wr [J U 2,J U (tx.need - 1),J U tx.try_,J U tx.until_] ((W2.setCell ⟨wr,1,Ab⟩ (J U (tx.need - 1))).setCell ⟨wr,0,Ab⟩ (J U 2)):=((XB2.set 1 Bo (J U (tx.need - 1))).set 0 Bo (J U 2))
    have OB3:=OB.below bC;have RES3:=RES.below bC;have gH:=hO.out.below bC;have e3:=(bC.cell (p:=⟨b9,o9+k,Ab⟩) uL).trans e0;have cB:=hb.trans (Chg.of_below [b] bC);have pR:=bC.size;clear y0 y1 y2 y3 yf yl XB2 OB2 RES2 hO2 e2 aK;generalize ((W2.setCell ⟨wr,1,Ab⟩ (J U (tx.need - 1))).setCell ⟨wr,0,Ab⟩ (J U 2))=W3 at *
    refine Go.wp_region_noPanic ?_;refine wp_region_held_drew (S:=(fun w'=>DBox w1 [J U r.id,J U r.plan.prio,J U r.plan.most,J U r.plan.wait,J U r.plan.tasks,Aa A3 n3 c3,J U r.state,Aa (Ac ⟨b,o,Ab⟩) r.tasks.length c4] w'/\w'.cell? ⟨b9,o9+k,Ab⟩=Ac (J U (x:Int))/\DBox wr [J U 2,J U (tx.need - 1),J U tx.try_,J U tx.until_] w')) Bm ⟨DBox.drew4 OB3,e3,DBox.drew4 XB3⟩ (fun hHeld=>?_);have bD:Below W3 W3 W3.drew:=(Bs _ _).drew;replace OB3:=OB3.below bD;replace RES3:=RES3.below bD;replace XB3:=XB3.below bD;replace gH:=gH.below bD;replace cB:=cB.drew;replace pR:=Ah pR bD.size;clear bD;generalize W3.drew=W4 at *
    refine tV 0 ?_
    (try simp only [pS])
    refine tV 1 ?_
    (try simp only [pS])
    refine tV 2 ?_
    (try simp only [pS])
    refine tV 3 ?_
    (try simp only [pS])
    refine tV 4 ?_
    (try simp only [pS])
    refine tV 5 ?_
    (try simp only [pS])
    refine tV 6 ?_
    (try simp only [pS])
    refine tV 7 ?_
    (try simp only [pS])
    obtain ⟨b',o',bU,bF,d0,d1,d2,d3⟩:=gH.rd.tsk dG;simp only [Option.some.injEq,Addr.mk.injEq,and_true] at bU;obtain ⟨rfl,rfl⟩:=bU;have jV:=(gH.block Bl).2.2;have hO5:Hw Ge ((((W4.setCell ⟨b,o+x * 4,Ab⟩ (J U 2)).setCell ⟨b,o+x * 4+1,Ab⟩ (J U (tx.need - 1))).setCell ⟨b,o+x * 4+2,Ab⟩ (J U tx.try_)).setCell ⟨b,o+x * 4+3,Ab⟩ (J U tx.until_)) [b] (Aa (Ac ⟨b,o,Ab⟩) r.tasks.length c4) _:=gH.task4 dG ⟨2,tx.need - 1,tx.try_,tx.until_⟩;have dP:Chg [b] W4 ((((W4.setCell ⟨b,o+x * 4,Ab⟩ (J U 2)).setCell ⟨b,o+x * 4+1,Ab⟩ (J U (tx.need - 1))).setCell ⟨b,o+x * 4+2,Ab⟩ (J U tx.try_)).setCell ⟨b,o+x * 4+3,Ab⟩ (J U tx.until_)):=(((Chg.setCell W4 b _ _).trans (Chg.setCell _ b _ _)).trans (Chg.setCell _ b _ _)).trans (Chg.setCell _ b _ _);refine rC 8 (fun K_ hK=>?_);go_simp;clear d0 d1 d2 d3 jV bF;have cR:w1.heap.size∉[b]:=by simp only [Au];omega
    have vQ:w.heap.size+1∉[b]:=by simp only [Au];omega
    have fB:wr.heap.size∉[b]:=by simp only [Au];omega
    have OB5:=OB3.chg dP cR;have RES5:=RES3.chg dP vQ;have XB5:=XB3.chg dP fB;have e5:=(dP.cell (p:=⟨b9,o9+k,Ab⟩) (by show b9<W4;omega) (by simp only [Au];omega)).trans hHeld.2.1;have eZ:=cB.trans dP;generalize ((((W4.setCell ⟨b,o+x * 4,Ab⟩ (J U 2)).setCell ⟨b,o+x * 4+1,Ab⟩ (J U (tx.need - 1))).setCell ⟨b,o+x * 4+2,Ab⟩ (J U tx.try_)).setCell ⟨b,o+x * 4+3,Ab⟩ (J U tx.until_))=W5 at *
    refine hK.out _ _ ⟨OB5,e5,XB5⟩ (fun hHeld=>?_);clear hK K_
    (try simp only [pS])
    refine Al Bm ?_ _;refine NoPanic.normal ?_;clear hHeld;go_wp2;exact ⟨⟨k+1,Bl,by go_num,by rw [eG.out,cG.out];exact hO5,OB5,RES5,eZ⟩,clM⟩
   ·have q2:(tx.need - 1 == 0)=false:=by simp [q]
    have cG:=Br (show Du tx=⟨tx.state,tx.need - 1,tx.try_,tx.until_⟩ by unfold Du;rw [if_neg q]);clear q;go_wp2;have bC:Below wr wr (W2.setCell ⟨wr,1,Ab⟩ (J U (tx.need - 1))):=by
     repeat (first | (with_reducible exact bB) | refine Ad ?_ Bp _)
    have XB3:DBox wr [J U tx.state,J U (tx.need - 1),J U tx.try_,J U tx.until_] (W2.setCell ⟨wr,1,Ab⟩ (J U (tx.need - 1))):=(XB2.set 1 Bo (J U (tx.need - 1)))
    have OB3:=OB.below bC;have RES3:=RES.below bC;have gH:=hO.out.below bC;have e3:=(bC.cell (p:=⟨b9,o9+k,Ab⟩) uL).trans e0;have cB:=hb.trans (Chg.of_below [b] bC);have pR:=bC.size;clear y0 y1 y2 y3 yf yl XB2 OB2 RES2 hO2 e2 aK;generalize (W2.setCell ⟨wr,1,Ab⟩ (J U (tx.need - 1)))=W3 at *
    refine Go.wp_region_noPanic ?_;refine wp_region_held_drew (S:=(fun w'=>DBox w1 [J U r.id,J U r.plan.prio,J U r.plan.most,J U r.plan.wait,J U r.plan.tasks,Aa A3 n3 c3,J U r.state,Aa (Ac ⟨b,o,Ab⟩) r.tasks.length c4] w'/\w'.cell? ⟨b9,o9+k,Ab⟩=Ac (J U (x:Int))/\DBox wr [J U tx.state,J U (tx.need - 1),J U tx.try_,J U tx.until_] w')) Bm ⟨DBox.drew4 OB3,e3,DBox.drew4 XB3⟩ (fun hHeld=>?_);have bD:Below W3 W3 W3.drew:=(Bs _ _).drew;replace OB3:=OB3.below bD;replace RES3:=RES3.below bD;replace XB3:=XB3.below bD;replace gH:=gH.below bD;replace cB:=cB.drew;replace pR:=Ah pR bD.size;clear bD;generalize W3.drew=W4 at *
    refine tV 0 ?_
    (try simp only [pS])
    refine tV 1 ?_
    (try simp only [pS])
    refine tV 2 ?_
    (try simp only [pS])
    refine tV 3 ?_
    (try simp only [pS])
    refine tV 4 ?_
    (try simp only [pS])
    refine tV 5 ?_
    (try simp only [pS])
    refine tV 6 ?_
    (try simp only [pS])
    refine tV 7 ?_
    (try simp only [pS])
    obtain ⟨b',o',bU,bF,d0,d1,d2,d3⟩:=gH.rd.tsk dG;simp only [Option.some.injEq,Addr.mk.injEq,and_true] at bU;obtain ⟨rfl,rfl⟩:=bU;have jV:=(gH.block Bl).2.2;have hO5:Hw Ge ((((W4.setCell ⟨b,o+x * 4,Ab⟩ (J U tx.state)).setCell ⟨b,o+x * 4+1,Ab⟩ (J U (tx.need - 1))).setCell ⟨b,o+x * 4+2,Ab⟩ (J U tx.try_)).setCell ⟨b,o+x * 4+3,Ab⟩ (J U tx.until_)) [b] (Aa (Ac ⟨b,o,Ab⟩) r.tasks.length c4) _:=gH.task4 dG ⟨tx.state,tx.need - 1,tx.try_,tx.until_⟩;have dP:Chg [b] W4 ((((W4.setCell ⟨b,o+x * 4,Ab⟩ (J U tx.state)).setCell ⟨b,o+x * 4+1,Ab⟩ (J U (tx.need - 1))).setCell ⟨b,o+x * 4+2,Ab⟩ (J U tx.try_)).setCell ⟨b,o+x * 4+3,Ab⟩ (J U tx.until_)):=(((Chg.setCell W4 b _ _).trans (Chg.setCell _ b _ _)).trans (Chg.setCell _ b _ _)).trans (Chg.setCell _ b _ _);refine rC 8 (fun K_ hK=>?_);go_simp;clear d0 d1 d2 d3 jV bF;have cR:w1.heap.size∉[b]:=by simp only [Au];omega
    have vQ:w.heap.size+1∉[b]:=by simp only [Au];omega
    have fB:wr.heap.size∉[b]:=by simp only [Au];omega
    have OB5:=OB3.chg dP cR;have RES5:=RES3.chg dP vQ;have XB5:=XB3.chg dP fB;have e5:=(dP.cell (p:=⟨b9,o9+k,Ab⟩) (by show b9<W4;omega) (by simp only [Au];omega)).trans hHeld.2.1;have eZ:=cB.trans dP;generalize ((((W4.setCell ⟨b,o+x * 4,Ab⟩ (J U tx.state)).setCell ⟨b,o+x * 4+1,Ab⟩ (J U (tx.need - 1))).setCell ⟨b,o+x * 4+2,Ab⟩ (J U tx.try_)).setCell ⟨b,o+x * 4+3,Ab⟩ (J U tx.until_))=W5 at *
    refine hK.out _ _ ⟨OB5,e5,XB5⟩ (fun hHeld=>?_);clear hK K_
    (try simp only [pS])
    refine Al Bm ?_ _;refine NoPanic.normal ?_;clear hHeld;go_wp2;exact ⟨⟨k+1,Bl,by go_num,by rw [eG.out,cG.out];exact hO5,OB5,RES5,eZ⟩,clM⟩
  ·have aB:¬ (k:Int)<(BL.length:Int):=Bl;have dC:=hO.out;rw [Bg Bl] at dC;have hD:=Br (show Jq r u=⟨r.id,r.plan,stL (BL.foldl (fun l b=>Hy l b Du) L0),BL.foldl (fun l b=>Hy l b Du) L0⟩ by rw [hD0.out];unfold Ag0;rw [tT.out]);have dX:=Br (Sc BL L0 0 hbnd.out (Int.le_refl 0));have hln:=Br (show (BL.foldl (fun l b=>Hy l b Du) L0).length=r.tasks.length by rw [Lr r u,pN.out]);generalize BL.foldl (fun l b=>Hy l b Du) L0=DL at *
   clear hO;have opr:=Ce.ow_chg op5 hb (fun x hx h=>by simp only [Au] at h;subst h;exact fG hx);have CS:=Br (Pz ⟨r.id,r.plan,r.state,DL⟩ (⟨A3,n3,c3⟩,⟨Ac ⟨b,o,Ab⟩,r.tasks.length,c4⟩) wr (by show DL.length<=2000000;rw [hln.out];omega) (fun x hx=>(dX.out x hx).2.2) ⟨Ce.ow_rd opr,(Hb dC).rd⟩);have OB_:=OB.g8;have hsr:=hb.size;go_wp2_with fail
   refine CS.out.mono ?_;rintro e w6 ⟨rfl,b6⟩;have hO2:=dC.below b6;have op6:=Ce.ow_below opr b6;have B6:Below w w w6:=Bv (B5.trans (hb.below Bl (fun x hx=>by simp only [Au] at hx;omega))) b6;have hs66:=b6.size;clear OB_;replace OB:=OB.below b6;replace RES:=RES.below b6;have OB_:=OB.g8;have RES_:=RES.g8;have obf:=OB.free;have rf:=RES.free;go_wp2;have hor:w.heap.size+1≠w1.heap.size:=Bl;refine Aj (Acg (DBox.row8 (RES.setOther (a:=⟨w1,6,Ab⟩) hor (J U (stL DL))) rfl _ _ _ _ _ _ _ _)) rfl ⟨(⟨A3,n3,c3⟩,⟨Ac ⟨b,o,Ab⟩,r.tasks.length,c4⟩),F1 ++ [b],by rw [hD.out],⟨F1,[b],rfl,bP,?_,?_⟩,?_,?_⟩
   ·have e2:w.heap.size+1∉F1:=fun hx=>by have:=nF _ (Bf _ hx);omega
    have e3:w1.heap.size∉F1:=fun hx=>by have:=bR.out _ hx;omega
    rw [hD.out];show Ce.ow _ F1 r.plan _;exact (by (repeat (refine Dt.ow_set Ce ?_ (by first | exact e3 | exact e2) _));exact op6)
   ·have e1:w.heap.size+1∉[b]:=by simp only [Au];omega
    have e0:w1.heap.size∉[b]:=by simp only [Au];omega
    rw [hD.out];show OwL C8 _ [b] _ DL;exact Hb (((((((((hO2.set (a:=⟨w1,_,Ab⟩) e0 _).set (a:=⟨w+1,_,Ab⟩) e1 _).set (a:=⟨w+1,_,Ab⟩) e1 _).set (a:=⟨w+1,_,Ab⟩) e1 _).set (a:=⟨w+1,_,Ab⟩) e1 _).set (a:=⟨w+1,_,Ab⟩) e1 _).set (a:=⟨w+1,_,Ab⟩) e1 _).set (a:=⟨w+1,_,Ab⟩) e1 _).set (a:=⟨w+1,_,Ab⟩) e1 _)
   ·exact Al4
   ·exact Alp
section
theorem Ag1 {l:List Entry} {e x:Entry} (h:x∈Jk l e):x∈l\/x=e:=by
 unfold Jk at h;rcases Bi.1 h with h | h
 ·exact .inl ((List.takeWhile_prefix _).sublist.subset h)
 ·rcases List.mem_cons.1 h with h | h
  ·exact .inr h
  ·exact .inl ((List.dropWhile_suffix _).sublist.subset h)
theorem V9 (b:List Entry):∀ (a:List Entry) {x:Entry},x∈b.foldl Jk a->x∈a\/x∈b:=by
 induction b with
 | nil=>intro a x h;exact .inl h
 | cons e b ih =>
  intro a x h;rw [List.foldl_cons] at h;rcases ih _ h with h | h
  ·rcases Ag1 h with h | h
   ·exact .inl h
   ·exact .inr (by rw [h];exact List.mem_cons_self ..)
  ·exact .inr (List.mem_cons_of_mem _ h)
theorem Ach {a b:List Entry} {x:Entry} (h:x∈Gy a b):x∈a\/x∈b:=by
 unfold Gy at h;split at h
 ·exact .inl h
 ·exact V9 b a h
theorem N3 {y z:Yard} (h:z.runs=y.runs) (id:Int):Dn z id=Dn y id:=by unfold Dn;rw [h]
theorem Ox {y z:Yard} (h:z.runs=y.runs) (e:Entry):Fc z e=Fc y e:=by
 unfold Fc;apply Agp;have hk:Ko z e.run=Ko y e.run:=by unfold Ko;rw [h,N3 h]
 unfold Vc;rw [hk,N3 h]
theorem G8 {y:Yard} {i:Nat} (h:i<y.shelf.length):y.shelf.getD i []=y.shelf[i]:=Alo
structure Pol (y:Yard) (home:Nat) (z:Yard):Prop where
 now:z.now=y.now
 seq:z.seq=y.seq
 runs:z.runs=y.runs
 four:z.shelf.length=4
 all:∀ s∈z.shelf,s.length<=80
 fresh:∀ e∈z.shelf.getD home [],Fc y e=true
theorem Ni (y:Yard) (i:Nat):(Cb y i).shelf.length=y.shelf.length:=by unfold Cb;simp
theorem Pm {y:Yard} {i M:Nat} (h:∀ s∈y.shelf,s.length<=M):∀ s∈(Cb y i).shelf,s.length<=M:=by
 intro s hs;unfold Cb at hs;rcases List.mem_or_eq_of_mem_set hs with h1 | h1
 ·exact h s h1
 ·subst h1;refine Ah (List.length_filter_le _ _) ?_;rw [List.getD_eq_getElem?_getD];cases q:y.shelf[i]? with
  | none=>simp
  | some s=>exact h s (List.mem_of_getElem? q)
theorem Aci {y:Yard} {i:Nat} (h:i<y.shelf.length):(Cb y i).shelf.getD i []=(y.shelf[i]).filter fun e=>Fc y e:=by
 rw [G8 (by rw [Ni];exact h)];unfold Cb;simp only [List.getElem_set_self];rw [G8 h]
theorem Se {y:Yard} {i j:Nat} (h:i≠j):(Cb y i).shelf.getD j []=y.shelf.getD j []:=by
 unfold Cb;simp only [List.getD_eq_getElem?_getD,List.getElem?_set_ne h]
theorem Pol.start {y:Yard} (h:Dk y) {home:Nat} (hh:home<4):Pol y home (Cb y home):=by
 have h4:=h.2.2.1;refine ⟨rfl,rfl,rfl,by rw [Ni];exact h4,Pm (fun s hs=>(h.2.2.2.1 s hs).1),fun e he=>?_⟩;rw [Aci Bl] at he;exact (List.mem_filter.1 he).2
theorem M0 (l:List Entry) (h:l.length<=80):(l.take (Df l)).length<=80:=by rw [Az];omega
noncomputable def Kx (home:Nat) (y:Yard) (v:Nat):Yard :=
 ⟨y.now,y.seq,((Cb y v).shelf.set v (((Cb y v).shelf.getD v []).drop (Df ((Cb y v).shelf.getD v [])))).set home (Gy [] (((Cb y v).shelf.getD v []).take (Df ((Cb y v).shelf.getD v [])))),y.runs⟩
theorem Acj {home:Nat} {y:Yard} {v:Nat} (h:¬ (y.shelf.getD home []).length=0):Ez home y v=y:=by unfold Ez;rw [if_neg h]
theorem Nj {home:Nat} {y:Yard} {v:Nat} (h:(y.shelf.getD home []).length=0) (hv:v≠home):Ez home y v=Kx home y v:=by
 unfold Ez;rw [if_pos h];unfold Kx;have e:((Cb y v).shelf.set v (((Cb y v).shelf.getD v []).drop (Df ((Cb y v).shelf.getD v [])))).getD home []=[]:=by
  rw [List.getD_eq_getElem?_getD,List.getElem?_set_ne hv,<-List.getD_eq_getElem?_getD,Se hv];exact List.eq_nil_of_length_eq_zero h
 simp only [e];rfl
theorem Z8 {home:Nat} {y:Yard} {v:Nat} (h4:y.shelf.length=4) (hh:home<4):(Kx home y v).shelf.getD home []=Gy [] (((Cb y v).shelf.getD v []).take (Df ((Cb y v).shelf.getD v []))):=by
 rw [G8 (by unfold Kx;simp [Cb];omega)];unfold Kx;simp only [List.getElem_set_self]
theorem Pol.step {y z:Yard} {home v:Nat} (h:Pol y home z) (hh:home<4) (hv:v<4) (aC:v≠home):Pol y home (Ez home z v):=by
 by_cases q:(z.shelf.getD home []).length=0
 ·rw [Nj q aC];have kB:∀ e∈(Cb z v).shelf.getD v [],Fc y e=true:=by
   intro e he;rw [Aci (by rw [h.four];exact hv)] at he;rw [<-Ox h.runs];exact (List.mem_filter.1 he).2
  have tE:=Pm (i:=v) h.all;have hlv:((Cb z v).shelf.getD v []).length<=80:=by
   rw [G8 (by rw [Ni,h.four];exact hv)];exact tE _ (Aw _)
  refine ⟨h.now,h.seq,h.runs,by unfold Kx;simp [Cb];exact h.four,fun s hs=>?_,fun e he=>?_⟩
  ·unfold Kx at hs;rcases List.mem_or_eq_of_mem_set hs with h1 | h1
   ·rcases List.mem_or_eq_of_mem_set h1 with h2 | h2
    ·exact tE s h2
    ·subst h2;rw [List.length_drop];omega
   ·subst h1;refine Ah (Abu _ _) ?_
    have:=M0 _ hlv
    simp only [List.length_nil,Nat.zero_add];exact this
  ·rw [Z8 h.four hh] at he;rcases Ach he with h1 | h1
   ·cases h1
   ·exact kB e (List.mem_of_mem_take h1)
 ·rw [Acj q];exact h
theorem Pol.cnt {y z:Yard} {home:Nat} (h:Pol y home z) (hy:Dk y):Ca z<=2000000:=Akb
theorem Qq {home draw:Int} : ∀ v∈Ey home draw,v<4:=by
 intro v hv;unfold Ey at hv;obtain ⟨i,_,rfl⟩:=List.mem_map.1 hv;exact Nat.mod_lt _ Bq
theorem Qr {home draw:Int} (h0:0<=home) (h:home<4):∀ v∈Ey home draw,v≠home.toNat:=by
 intro v hv;unfold Ey at hv;obtain ⟨i,_,rfl⟩:=List.mem_map.1 hv
 have:=Nat.mod_lt ((max draw 0 % 3).toNat+i) (show 0<3 by decide)
 omega
theorem S8 (home draw:Int):(Ey home draw).length=3:=by unfold Ey;simp
noncomputable def Me (y:Yard) (home draw:Int):Yard:=(Ey home draw).foldl (Ez home.toNat) (Cb y home.toNat)
theorem Pol.fold {y:Yard} {home:Nat} (hh:home<4):∀ (l:List Nat) (z:Yard),Pol y home z->(∀ v∈l,v<4/\v≠home)->Pol y home (l.foldl (Ez home) z)
 | [],_,h,_=>h
 | v :: l,z,h,hl=>Pol.fold hh l _ (h.step hh (hl v (List.mem_cons_self ..)).1 (hl v (List.mem_cons_self ..)).2) (fun x hx=>hl x (List.mem_cons_of_mem _ hx))
theorem M3 {home:Nat} : ∀ (l:List Nat) (z:Yard),¬ (z.shelf.getD home []).length=0->l.foldl (Ez home) z=z
 | [],_,_=>rfl
 | v :: l,z,h=>by rw [List.foldl_cons,Acj h];exact M3 l z h
noncomputable def S9 (z:Yard) (home:Nat):List Entry->Yard×Reply
 | []=>(z,⟨9,0,0,0⟩)
 | e :: rest=>(⟨z.now,z.seq,z.shelf.set home rest,z.runs.set (Dn z e.run).toNat (Eo (Ko z e.run) e.task.toNat z.now)⟩,⟨0,e.run,e.task,(Cv (Ko z e.run) e.task.toNat).try_+1⟩)
noncomputable def Of (z:Yard) (home:Nat):Yard×Reply:=S9 z home (z.shelf.getD home [])
open Classical in
noncomputable def Jd (y:Yard) (worker draw:Int):Yard×Reply :=
 if ¬ Dk y then (y,⟨8,0,0,0⟩) else if inB worker 0 99=false then (y,⟨5,0,0,0⟩) else Of (Me y (worker % 4) draw) (worker % 4).toNat
end
theorem Ack {α:Type} {l:List α} {k:Nat} (h:k<l.length) {x:α} (hx:l[k]=x):l.set k x=l:=by subst hx;exact List.set_getElem_self h
def Yl (l:List Task) (b o c n:Nat) (w:World) (e:Ending) (w':World):Prop :=
 e = .returned (.tuple #[])/\Hw Ge w' [b] (Aa (Ac ⟨b,o,Ab⟩) n c) l/\Chg [b] w w'
theorem Qc (gr off b o c:Nat) (l:List Task) (but:Int) (w:World) (h7:w.cell? ⟨gr,off+7,Ab⟩=Ac (Aa (Ac ⟨b,o,Ab⟩) l.length c)) (qG:gr<w) (aC:gr≠b) (hl:l.length<=1000) (hp:0<l.length)
  (hw:Hw Ge w [b] (Aa (Ac ⟨b,o,Ab⟩) l.length c) l) (eZ:∀ k (h:k<l.length),l[k].state=5 ↔ (k:Int)=but) :
  Calls Am 278 #[.pointer (Ac ⟨gr,off,Ab⟩),J U but] w (Yl (l.map Dr) b o c l.length w):=by
 have aN:=(hw.block hp).2.1;have H5:=Br eZ;clear eZ;go_enter func278,ntmps278;go_wp2;go_loopw [4,11] (fun v i wr=>∃ k:Nat,k<=l.length/\i = J U k/\Hid (Hw Ge wr [b] (Aa (Ac ⟨b,o,Ab⟩) l.length c) ((l.take k).map Dr ++ l.drop k))/\Chg [b] w wr) (fun _ i _=>l.length - (intOf i).toNat);case atStart=>exact ⟨0,Ag _,rfl,by simpa using Br hw,Chg.refl _ _⟩
 case round =>
  obtain ⟨k,hk,rfl,hO,hC⟩:=hrel;have g7:wr.cell? ⟨gr,off+7,Ab⟩=Ac (Aa (Ac ⟨b,o,Ab⟩) l.length c):=(hC.cell (p:=⟨gr,off+7,Ab⟩) qG (by simpa using aC)).trans h7;have gD:gr<wr:=Ai qG hC.size;by_cases aA:k<l.length;case neg =>
   have aB:¬ (k:Int)<(l.length:Int):=Bl;have HO:=hO.out;rw [Bg Bl,List.drop_eq_nil_of_le Bl,List.append_nil] at HO;have HF:=Br (show Yl (l.map Dr) b o c l.length w (.returned (.tuple #[])) wr from ⟨rfl,HO,hC⟩);clear HO hO;go_wp2;exact Aj (v:=.tuple #[]) (by simp [results,results278,go_sem]) rfl HF.out
  have aB:(k:Int)<(l.length:Int):=Bl;have cE:(0:Int)<=(k:Int):=Bl;have jT:k<((l.take k).map Dr ++ l.drop k).length:=by simp;omega
  have tR:((l.take k).map Dr ++ l.drop k)[k]=l[k]:=by
   rw [List.getElem_append_right (by simp;omega)];simp [Az,Nat.min_eq_left (Nat.le_of_lt aA)]
  obtain ⟨_,_,hA,aJ,d0,d1,d2,d3⟩:=hO.out.rd.tsk jT;simp only [Option.some.injEq,Addr.mk.injEq,and_true] at hA;obtain ⟨rfl,rfl⟩:=hA;rw [tR] at d0 d1 d2 d3;have dX:=Br (N2 aA Dr);have h5:=H5.out k aA;have jV:=(hO.out.block Bl).2.2;by_cases rH:(k:Int)=but
  ·subst rH;have hx:Dr l[k]=l[k]:=by unfold Dr;rw [if_neg (by have:=h5.2 rfl;omega)]
   have HN:=Br (show Hw Ge wr [b] (Aa (Ac ⟨b,o,Ab⟩) l.length c) ((l.take (k+1)).map Dr ++ l.drop (k+1)) from by
    rw [<-dX.out,hx];rw [Ack jT tR];exact hO.out)
   clear hx h5;go_wp2;exact ⟨⟨k+1,Bl,by go_num,HN,hC⟩,clM⟩
  have hbq:((k:Int) != but)=true:=by simp [rH]
  by_cases h4:l[k].state=4
  ·have hx:Dr l[k]=l[k]:=by unfold Dr;rw [if_neg Bl]
   have HN:=Br (show Hw Ge wr [b] (Aa (Ac ⟨b,o,Ab⟩) l.length c) ((l.take (k+1)).map Dr ++ l.drop (k+1)) from by
    rw [<-dX.out,hx];rw [Ack jT tR];exact hO.out)
   rw [h4] at d0;clear hx h5 h4;go_wp2;exact ⟨⟨k+1,Bl,by go_num,HN,hC⟩,clM⟩
  have hq4:(l[k].state != 4)=true:=by simp [h4]
  have hx:Dr l[k]=⟨6,l[k].need,l[k].try_,0⟩:=by unfold Dr;rw [if_pos ⟨h4,fun h=>rH (h5.1 h)⟩]
  have h1:=hO.out.taskState jT 6;have h2:=h1.taskUntil (j:=k) (by rw [Bh];exact jT) 0;simp only [List.getElem_set_self,List.set_set,tR] at h2;have jQ:Chg [b] w ((wr.setCell ⟨b,o+k * 4,Ab⟩ (J U 6)).setCell ⟨b,o+k * 4+3,Ab⟩ (J U 0)):=(hC.trans (Chg.setCell wr b _ _)).trans (Chg.setCell _ b _ _);have HN:=Br (show Hw Ge ((wr.setCell ⟨b,o+k * 4,Ab⟩ (J U 6)).setCell ⟨b,o+k * 4+3,Ab⟩ (J U 0)) [b] (Aa (Ac ⟨b,o,Ab⟩) l.length c) ((l.take (k+1)).map Dr ++ l.drop (k+1)) from by
   rw [<-dX.out,hx];exact h2)
  clear hx h5 h4 h1 h2 rH;go_wp2;exact ⟨⟨k+1,Bl,by go_num,HN,jQ⟩,clM⟩
section
theorem Rj {b:Nat} {w:World} {u0 u1 u2 u3:Value} (X:DBox b [u0,u1,u2,u3] w) {v0 v1 v2 v3 v4 v5 v6 v7 v9:Value} {rest:List Value} :
  (results Tryz.f166 (v0 :: v1 :: v2 :: v3 :: v4 :: v5 :: v6 :: v7 :: .pointer (Ac ⟨b,0,Ab⟩) :: v9 :: rest).toArray).run Am w = .ok (.tuple #[.agg #[u0,u1,u2,u3],v9]) w:=by
 have c0:=X.cell 0 _ rfl;have c1:=X.cell 1 _ rfl;have c2:=X.cell 2 _ rfl;have c3:=X.cell 3 _ rfl;simp [results,results166,go_sem,c0,c1,c2,c3]
theorem Pn (r:Run) (t:Nat):(Jq r t).tasks.length=r.tasks.length:=by
 show (Jc r t).length=_;unfold Jc;rw [Lr r t,Ot]
open Classical in
noncomputable def K7 (y:Yard) (id tk tr:Int):Yard:=if Gv y id tk tr=0 then Gn y (Dn y id).toNat (Jq (Ko y id) tk.toNat) else y
theorem Sf (y:Yard) (s:Sl×Sl) (id tk tr:Int) (w:World) (hl:Ca y<=2000000) (h:Bw.rd w w y s) :
  Calls Am 166 #[Ds y s,J U id,J U tk,J U tr] w (Is (K7 y id tk tr) (Gv y id tk tr) w):=by
 have HR:=Br (show ∀ W,Below w w W->Bw.rd W W y s from fun W hW=>Bw.rd_more (Bw.rd_below h hW) hW.size);obtain ⟨⟨A1,n1,c1⟩,⟨A2,n2,c2⟩⟩:=s;have CC:=Br (fun W hW=>E1 y (⟨A1,n1,c1⟩,⟨A2,n2,c2⟩) W hl (HR.out W hW));have CK:=Br (fun W hW=>S7 y (⟨A1,n1,c1⟩,⟨A2,n2,c2⟩) id tk tr W hl (HR.out W hW));have CA:=Br (fun W hW=>Fi y (⟨A1,n1,c1⟩,⟨A2,n2,c2⟩) id W hl (HR.out W hW));clear h;obtain ⟨W,aH,X,RES,B0⟩:=bx2 w 31 [J U y.now,J U y.seq,Aa A1 n1 c1,Aa A2 n2 c2] 31 [J U 0,J U 0,Aa Ab 0 0,Aa Ab 0 0];go_enter func166,ntmps166;go_wp2_with fail
 rw [<-aH.out];clear aH;refine (CC.out _ B0).mono ?_;rintro e1 w1 ⟨⟨⟨B1,m1,e1⟩,⟨B2,m2,e2⟩⟩,F,rfl,oy,nF,b1⟩;have mU:=X.lt;have eC:=RES.lt;replace X:=X.below b1;replace RES:=RES.below b1;replace B0:=Bv B0 b1;have bR:=Bw.ow_lt (F:=F) (x:=y) (s:=(⟨B1,m1,e1⟩,⟨B2,m2,e2⟩)) oy;have bE:=b1.size;clear b1;go_upto_region 2 with fail
 have OB:=DBox.new 31 [J U y.now,J U y.seq,Aa B1 m1 e1,Aa B2 m2 e2] w1 (b:=w1) rfl;have b2:Below w1 w1 (w1.alloc (.cells #[J U y.now,J U y.seq,Aa B1 m1 e1,Aa B2 m2 e2] 31)):=Bu;replace B0:=Bv B0 b2;replace X:=X.below b2;replace RES:=RES.below b2;replace oy:=Bw.ow_below (F:=F) (x:=y) (s:=(⟨B1,m1,e1⟩,⟨B2,m2,e2⟩)) oy b2;have eB:=b2.size;have ow1:=OB.lt;generalize w1.alloc (.cells #[J U y.now,J U y.seq,Aa B1 m1 e1,Aa B2 m2 e2] 31)=w2 at *
 have X_:=X.g4;go_wp2_with fail
 refine (CK.out _ B0).mono ?_;rintro e1 w3 ⟨rfl,b3⟩;replace B0:=Bv B0 b3;clear X_;replace X:=X.below b3;replace RES:=RES.below b3;replace OB:=OB.below b3;replace oy:=Bw.ow_below (F:=F) (x:=y) (s:=(⟨B1,m1,e1⟩,⟨B2,m2,e2⟩)) oy b3;have kT:=b3.size;clear b3 b2 CC CK;have X_:=X.g4;have OB_:=OB.g4;by_cases q:Gv y id tk tr=0;case neg =>
  have q2:(Gv y id tk tr != 0)=true:=by simp [q]
  have H:=Br (show K7 y id tk tr=y from if_neg q);clear q;have RES_:=RES.g4;have rf:=RES.free;go_wp2;have en1:w.heap.size+1∉F:=fun hx=>by have:=nF _ hx;omega
  refine Aj (Rj (DBox.row4 RES rfl _ _ _ _)) rfl ⟨(⟨B1,m1,e1⟩,⟨B2,m2,e2⟩),F,by rw [H.out],by rw [H.out];exact (Bw.set4 (F:=F) (x:=y) (s:=(⟨B1,m1,e1⟩,⟨B2,m2,e2⟩)) oy en1),fun x hx=>by have:=nF x hx;omega,?_⟩;repeat (first | (with_reducible exact B0) | refine Ad ?_ Bp _)
 have q2:(Gv y id tk tr != 0)=false:=by simp [q]
 have H:=Br (show K7 y id tk tr=Gn y (Dn y id).toNat (Jq (Ko y id) tk.toNat) from if_pos q);have HP:Hid (Dk y/\0<=Dn y id/\Gq y id tk tr):=Ajt
 have Hq:=Br q;clear q;rcases E9 y id with hr | ⟨k,hk,hr⟩
 ·exact absurd HP.out.2.1 Bl
 have HK:=Br (Ha hk hr);have HR2:=Br hr;clear hr;have bN:=Br (Ev HP.out.1 hk);have hth:=Br HP.out.2.2;have dE:Hid ((0<=tk/\tk<(y.runs[k].tasks.length:Int))/\(Cv y.runs[k] tk.toNat).state=3):=Amj
 obtain ⟨u,rfl⟩:=Ap dE.out.1.1;have hu:u<y.runs[k].tasks.length:=by have:=dE.out.1.2;omega
 have aP:Hid (I4 y.runs[k] u):=⟨bN.out,⟨Bl,Bl⟩,dE.out.2⟩
 go_wp2_with fail
 refine (CA.out _ B0).mono ?_;rintro e2' w4 ⟨rfl,b4⟩;rw [HR2.out];replace B0:=Bv B0 b4;clear X_;clear OB_;clear X;replace RES:=RES.below b4;replace OB:=OB.below b4;replace oy:Bw.ow w4 F y (⟨B1,m1,e1⟩,⟨B2,m2,e2⟩):=owB oy b4;have pV:=b4.size;clear b4 CA;have oy2:=oy;obtain ⟨F1,F2,rfl,bP,os,orr⟩:=oy2;replace orr:OwL Cf w4 F2 (Aa B2 m2 e2) y.runs:=orr;obtain rfl:m2=y.runs.length:=RdL.at1 (s:=⟨B2,m2,e2⟩) orr.rd;obtain ⟨gr,o2,sk,rfl,dN,dI,c0,c1_,c2_,c3,c4,c5,c6,c7⟩:=orr.rd.run hk;have gJ:(k:Int)<(y.runs.length:Int):=Bl;have cE:(0:Int)<=(k:Int):=Bl;go_wp2;refine Go.wp_region_noPanic ?_;refine wp_region_held_drew (S:=(fun w'=>DBox w1 [J U y.now,J U y.seq,Aa B1 m1 e1,Aa (Ac ⟨gr,o2,Ab⟩) y.runs.length e2] w')) Bm (DBox.drew4 OB) (fun hHeld=>?_);refine tY 0 ?_
 (try simp only [pS])
 refine tY 1 ?_
 (try simp only [pS])
 refine tY 2 ?_
 (try simp only [pS])
 refine tY 3 ?_
 (try simp only [pS])
 refine tY 4 ?_
 (try simp only [pS])
 refine tY 5 ?_
 (try simp only [pS])
 refine tY 7 ?_
 (try simp only [pS])
 have bd:Below w4 w4 w4.drew:=(Bs _ _).drew;replace B0:=Bv B0 bd;replace RES:=RES.below bd;replace OB:=OB.below bd;replace oy:Bw.ow w4.drew (F1 ++ F2) y (⟨B1,m1,e1⟩,⟨Ac ⟨gr,o2,Ab⟩,y.runs.length,e2⟩):=Bw.ow_below (F:=F1 ++ F2) (x:=y) (s:=(⟨B1,m1,e1⟩,⟨Ac ⟨gr,o2,Ab⟩,y.runs.length,e2⟩)) oy bd;refine rC 6 (fun K_ hK=>?_);go_simp;refine hK.out _ _ OB (fun hHeld=>?_);clear hK K_
 (try simp only [pS])
 have mT:=Hf hl hk;have hrk2:Cf.rd w4.drew w4.drew y.runs[k] sk:=Cf.rd_below dI bd;have hcrun:Co y.runs[k]<=2000000:=by
  have h1:=Dm (cnt:=Co) (Aw hk);unfold Ca at hl;omega
 have CF:=Br (Z7 y.runs[k] sk u w4.drew hcrun aP.out hrk2);clear c0 c1_ c2_ c3 c4 c5 c6 c7;refine rC 8 (fun K_ hK=>?_);go_simp;refine CF.out.mono ?_;rintro e3 w5 ⟨sr,Fr,rfl,orn,nFr,b5⟩;refine hK.out _ _ (OB.below b5) (fun hHeld=>?_);clear hK K_
 (try simp only [pS])
 have pI:w4.drew.heap.size=w4.heap.size:=rfl;have qD:=b5.size;have rV:=Eb bN.out;have CT:=Br (Lm y (⟨B1,m1,e1⟩,⟨Ac ⟨gr,o2,Ab⟩,y.runs.length,e2⟩) k (Jq y.runs[k] u) sr w5 (F1 ++ F2) Fr HP.out.1.2.2.1 (fun s hs=>by have:=(HP.out.1.2.2.2.1 s hs).1;omega) (by have:=HP.out.1.2.1;omega) hk (by rw [Pn];omega) Bl (Bw.ow_below (F:=F1 ++ F2) (x:=y) (s:=(⟨B1,m1,e1⟩,⟨Ac ⟨gr,o2,Ab⟩,y.runs.length,e2⟩)) oy b5) orn (fun x hx bI=>by have h1:=nFr x hx;have h2:=bR x bI;omega));have HF:=Br (show K7 y id u tr=Gn y k (Jq y.runs[k] u) by rw [H.out,HR2.out,HK.out,Ao,Ao]);clear H;refine rC 9 (fun K_ hK=>?_);go_simp;refine CT.out.mono ?_;rintro e4 w6 ⟨s5,F5,rfl,oy7,n5,c6⟩;have aC:w1.heap.size∉F1 ++ F2:=fun h=>by have:=bR _ h;omega
 have pT:w.heap.size+1∉F1 ++ F2:=fun h=>by have:=nF _ h;omega
 have OB6:=(OB.below b5).chg c6 aC;have RES6:=(RES.below b5).chg c6 pT;have B6:Below w w w6:=(Bv B0 b5).trans (c6.below (by have:=(Bv B0 b5).size;omega) (fun x hx=>by have:=nF _ hx;omega));generalize Gn y k (Jq y.runs[k] u)=Z at *
 refine hK.out _ _ OB6 (fun hHeld=>?_);clear hK K_
 (try simp only [pS])
 have r0:=RES6.cell 0 _ rfl;have r1:=RES6.cell 1 _ rfl;have r2:=RES6.cell 2 _ rfl;have r3:=RES6.cell 3 _ rfl;have rl:=RES6.lt;have rf:=RES6.free;refine rC 10 (fun K_ hK=>?_);go_simp;have cR:w1.heap.size≠w.heap.size+1:=Bl;refine hK.out _ _ ((((OB6.setOther (a:=⟨w+1,_,Ab⟩) cR _).setOther (a:=⟨w+1,_,Ab⟩) cR _).setOther (a:=⟨w+1,_,Ab⟩) cR _).setOther (a:=⟨w+1,_,Ab⟩) cR _) (fun hHeld=>?_);clear hK K_
 (try simp only [pS])
 refine rC 11 (fun K_ hK=>?_);go_simp;refine hK.out _ _ hHeld (fun hHeld=>?_);clear hK K_
 (try simp only [pS])
 refine Al Bm ?_ _;refine NoPanic.normal ?_;clear hHeld r0 r1 r2 r3 rf;have en5:w.heap.size+1∉F5:=fun hx=>by
  exact Am6
 have hZ:K7 y id u tr=Z:=HF.out;have H2:=Br hZ;clear hZ;have Hq2:=Br (show Gv y id u tr=0 from Hq.out);go_wp2;refine Aj (Rj (DBox.row4 RES6 rfl _ _ _ _)) rfl ⟨s5,F5,by rw [H2.out,Hq2.out],by rw [H2.out];exact (Bw.set4 (F:=F5) (x:=Z) (s:=s5) oy7 en5),fun x hx=>?_,?_⟩
 ·exact Amn
 ·exact Alp
end
theorem Gt {y:Yard} {w:World} {F Fy:List Nat} {g o n c:Nat} {R:Sl} (h:Bw.ow w F y (⟨Ac ⟨g,o,Ab⟩,n,c⟩,R)) {i:Nat} (hi:i<y.shelf.length) {l:List Entry} {t:Sl} (hl:OwL By w Fy t.v l) (hd:∀ x∈Fy,x∉F) :
  ∃ F',Bw.ow (w.setCell ⟨g,o+i,Ab⟩ (Aa t.a t.n t.c)) F' ⟨y.now,y.seq,y.shelf.set i l,y.runs⟩ (⟨Ac ⟨g,o,Ab⟩,n,c⟩,R)/\(∀ x∈F',x∈F\/x∈Fy)/\g∈F:=by
 obtain ⟨F1,F2,rfl,bP,os,orr⟩:=h;replace os:OwL (Dt.list By) w F1 (Aa (Ac ⟨g,o,Ab⟩) n c) y.shelf:=os;replace orr:OwL Cf w F2 R.v y.runs:=orr;obtain ⟨F',p1,p2,p3,p4⟩:=OwL.swap os hi (y:=l) (s:=t) (Fy:=Fy) hl (fun x hx bI=>hd x hx (Bf _ bI));have fK:Ie w g (o+i * (Dt.list By).enc.sz) ((Dt.list By).enc.cells (l,t))=w.setCell ⟨g,o+i,Ab⟩ (Aa t.a t.n t.c):=Aly
 rw [fK] at p1;have eK:=(Ax.1 bP).2.2;refine ⟨F' ++ F2,⟨F',F2,rfl,?_,p1,?_⟩,fun x hx=>?_,Bf _ p3⟩
 ·rw [Ax];refine ⟨p1.nodup,(Ax.1 bP).2.1,fun a ha b hb e=>?_⟩;subst e;rcases p2 a ha with h1 | h1
  ·exact eK a h1 a hb rfl
  ·exact hd a h1 (Be _ hb)
 ·exact orr.chg (Chg.setCell w g _ _) (fun x hx hg=>by simp only [Au] at hg;subst hg;exact eK x p3 x hx rfl)
 ·rcases Bi.1 hx with h1 | h1
  ·rcases p2 x h1 with h2 | h2
   ·exact .inl (Bf _ h2)
   ·exact .inr h2
  ·exact .inl (Be _ h1)
theorem Oy {y:Yard} {w:World} {F Fy:List Nat} {g o n c:Nat} {R:Sl} (h:Bw.ow w F y (R,⟨Ac ⟨g,o,Ab⟩,n,c⟩)) {k:Nat} (hk:k<y.runs.length) {r:Run} {sr:Sl×Sl} (hr:Cf.ow w Fy r sr) (hd:∀ x∈Fy,x∉F) :
  ∃ F',Bw.ow ((((((((w.setCell ⟨g,o+k * 8,Ab⟩ (J U r.id)).setCell ⟨g,o+k * 8+1,Ab⟩ (J U r.plan.prio)).setCell ⟨g,o+k * 8+2,Ab⟩ (J U r.plan.most)).setCell ⟨g,o+k * 8+3,Ab⟩ (J U r.plan.wait)).setCell ⟨g,o+k * 8+4,Ab⟩ (J U r.plan.tasks)).setCell ⟨g,o+k * 8+5,Ab⟩ (Aa sr.1.a sr.1.n sr.1.c)).setCell ⟨g,o+k * 8+6,Ab⟩ (J U r.state)).setCell ⟨g,o+k * 8+7,Ab⟩ (Aa sr.2.a sr.2.n sr.2.c)) F' ⟨y.now,y.seq,y.shelf,y.runs.set k r⟩ (R,⟨Ac ⟨g,o,Ab⟩,n,c⟩)/\(∀ x∈F',x∈F\/x∈Fy)/\g∈F:=by
 obtain ⟨F1,F2,rfl,bP,os,orr⟩:=h;replace os:OwL (Dt.list By) w F1 R.v y.shelf:=os;replace orr:OwL Cf w F2 (Aa (Ac ⟨g,o,Ab⟩) n c) y.runs:=orr;obtain ⟨F',p1,p2,p3,p4⟩:=OwL.swap orr hk (y:=r) (s:=sr) (Fy:=Fy) hr (fun x hx bI=>hd x hx (Be _ bI));have hC:=I6 (Cf.enc.cells (r,sr)) w g (o+k * Cf.enc.sz);have fK:Ie w g (o+k * Cf.enc.sz) (Cf.enc.cells (r,sr))=((((((((w.setCell ⟨g,o+k * 8,Ab⟩ (J U r.id)).setCell ⟨g,o+k * 8+1,Ab⟩ (J U r.plan.prio)).setCell ⟨g,o+k * 8+2,Ab⟩ (J U r.plan.most)).setCell ⟨g,o+k * 8+3,Ab⟩ (J U r.plan.wait)).setCell ⟨g,o+k * 8+4,Ab⟩ (J U r.plan.tasks)).setCell ⟨g,o+k * 8+5,Ab⟩ (Aa sr.1.a sr.1.n sr.1.c)).setCell ⟨g,o+k * 8+6,Ab⟩ (J U r.state)).setCell ⟨g,o+k * 8+7,Ab⟩ (Aa sr.2.a sr.2.n sr.2.c)):=rfl;rw [fK] at p1 hC;have eK:=(Ax.1 bP).2.2;refine ⟨F1 ++ F',⟨F1,F',rfl,?_,?_,p1⟩,fun x hx=>?_,Be _ p3⟩
 ·rw [Ax];refine ⟨(Ax.1 bP).1,p1.nodup,fun a ha b hb e=>?_⟩;subst e;rcases p2 a hb with h1 | h1
  ·exact eK a ha a h1 rfl
  ·exact hd a h1 (Bf _ ha)
 ·exact os.chg hC (fun x hx hg=>by simp only [Au] at hg;subst hg;exact eK x hx x p3 rfl)
 ·rcases Bi.1 hx with h1 | h1
  ·exact .inl (Bf _ h1)
  ·rcases p2 x h1 with h2 | h2
   ·exact .inl (Be _ h2)
   ·exact .inr h2
theorem Lc {α:Type} {p:α->Bool} {l:List α} {k:Nat} (hk:k<l.length) (h:p l[k]=true):(l.take (k+1)).filter p=(l.take k).filter p ++ [l[k]]:=by
 rw [Cp l k hk,List.filter_append];simp [h]
theorem Mf {α:Type} {p:α->Bool} {l:List α} {k:Nat} (hk:k<l.length) (h:p l[k]=false):(l.take (k+1)).filter p=(l.take k).filter p:=by
 rw [Cp l k hk,List.filter_append];simp [h]
theorem Af7 {b:Nat} {w:World} {u0 u1 u2 u3:Value} (X:DBox b [u0,u1,u2,u3] w) {v0 v1 v2 v3:Value} {rest:List Value} :
  (results Tryz.f241 (v0 :: v1 :: v2 :: v3 :: .pointer (Ac ⟨b,0,Ab⟩) :: rest).toArray).run Am w = .ok (.agg #[u0,u1,u2,u3]) w:=by
 have c0:=X.cell 0 _ rfl;have c1:=X.cell 1 _ rfl;have c2:=X.cell 2 _ rfl;have c3:=X.cell 3 _ rfl;simp [results,results241,go_sem,c0,c1,c2,c3]
theorem Qd (y:Yard) (s:Sl×Sl) (i:Nat) (w:World) (hi:i<y.shelf.length) (hl:Ca y<=2000000) (h:Bw.rd w w y s) :
  Calls Am 241 #[Ds y s,J U i] w (Dv Bw Ds (Cb y i) w):=by
 have HR:=Br (show ∀ W,Below w w W->Bw.rd W W y s from fun W hW=>Bw.rd_more (Bw.rd_below h hW) hW.size);obtain ⟨⟨A1,n1,c1⟩,⟨A2,n2,c2⟩⟩:=s;obtain rfl:n1=y.shelf.length:=RdL.at1 (s:=⟨A1,n1,c1⟩) h.1;have CC:=Br (fun W hW=>E1 y (⟨A1,y.shelf.length,c1⟩,⟨A2,n2,c2⟩) W hl (HR.out W hW));have CF:=Br (fun W hW e=>P5 y (⟨A1,y.shelf.length,c1⟩,⟨A2,n2,c2⟩) e W hl (HR.out W hW));have hS:=Br (show ∀ W,Below w w W->RdL (Dt.list By) W W (Aa A1 y.shelf.length c1) y.shelf from fun W hW=>(HR.out W hW).1);have qI:y.shelf[i].length<=2000000:=by
  have h1:=Dm (cnt:=Cn) (Aw hi);exact Anb
 have hshl:y.shelf.length<=2000000:=Ah (Ck Cn _) (by unfold Ca at hl;omega);obtain ⟨i0,aQ,aU,aS,aR⟩:=info_parts Gp;clear h hl HR;have hiI:(i:Int)<(y.shelf.length:Int):=Bl;have hi00:(0:Int)<=(i:Int):=Bl;obtain ⟨W,aH,X,RES,B0⟩:=bx2 w 31 [J U y.now,J U y.seq,Aa A1 y.shelf.length c1,Aa A2 n2 c2] 31 [J U 0,J U 0,Aa Ab 0 0,Aa Ab 0 0];go_enter func241,ntmps241;go_wp2_with fail
 rw [<-aH.out];clear aH;refine (CC.out _ B0).mono ?_;rintro e1 w1 ⟨⟨⟨B1,m1,e1⟩,⟨B2,m2,e2⟩⟩,F,rfl,oy,nF,b1⟩;have mU:=X.lt;have eC:=RES.lt;replace X:=X.below b1;replace RES:=RES.below b1;replace B0:=Bv B0 b1;have bR:=Bw.ow_lt (F:=F) (x:=y) (s:=(⟨B1,m1,e1⟩,⟨B2,m2,e2⟩)) oy;have bE:=b1.size;clear b1;go_upto_region 2 with fail
 have OB:=DBox.new 31 [J U y.now,J U y.seq,Aa B1 m1 e1,Aa B2 m2 e2] w1 (b:=w1) rfl;have b2:Below w1 w1 (w1.alloc (.cells #[J U y.now,J U y.seq,Aa B1 m1 e1,Aa B2 m2 e2] 31)):=Bu;replace B0:=Bv B0 b2;replace X:=X.below b2;replace RES:=RES.below b2;replace oy:=Bw.ow_below (F:=F) (x:=y) (s:=(⟨B1,m1,e1⟩,⟨B2,m2,e2⟩)) oy b2;have eB:=b2.size;have ow1:=OB.lt;generalize w1.alloc (.cells #[J U y.now,J U y.seq,Aa B1 m1 e1,Aa B2 m2 e2] 31)=w2 at *
 have X_:=X.g4;have wr1:U.wrap ((y.shelf.length:Int) - 1)=(y.shelf.length:Int) - 1:=Aq _ Bl;have q:inB (i:Int) 0 ((y.shelf.length:Int) - 1)=true:=Ct.2 Bl;clear b2 CC;have q0:Below w2 w2 (w2.alloc (.cells #[] 71)):=Bu;go_wp2_with (go_at_call 90;refine (Cd _ _ _ _).mono ?_;rintro e w9 ⟨rfl,rfl⟩;rw [q])
 clear X_;have mY:=B0.size;have o0:=Ow.empty Cz 71 w2 rfl;go_loopw [6,7] (fun v j wr=>∃ k:Nat,k<=y.shelf[i].length/\j = J U k/\Hid (Ow Cz 71 wr w2 v ((y.shelf[i].take k).filter fun e=>Fc y e))/\Below w2 w2 wr) (fun _ j _=>y.shelf[i].length - (intOf j).toNat);case atStart=>exact ⟨0,Ag _,rfl,o0,q0⟩
 case round =>
  clear o0 q0;obtain ⟨k,hk,rfl,hO,hb⟩:=hrel;replace X:=X.below hb;have hB:=Bv B0 hb;have cZ:=hb.size;obtain ⟨g,o,⟨a9,n9,c9⟩,rfl,eM,hr9,ck⟩:=(hS.out w2 B0).entryS hi;replace hr9:RdL By w2 w2 (Aa a9 n9 c9) y.shelf[i]:=hr9;obtain rfl:n9=y.shelf[i].length:=RdL.at1 (s:=⟨a9,n9,c9⟩) hr9;replace ck:=(hb.cell (p:=⟨g,_,Ab⟩) eM).trans ck;have gD:g<wr:=Bl;have X_:=X.g4;by_cases aA:k<y.shelf[i].length
  ·have aB:(k:Int)<(y.shelf[i].length:Int):=Bl;have cE:(0:Int)<=(k:Int):=Bl;obtain ⟨g2,o2,_,rfl,dW,_,d0,d1,d2,d3⟩:=hr9.entry aA;replace d0:=(hb.cell (p:=⟨g2,_,Ab⟩) dW).trans d0;replace d1:=(hb.cell (p:=⟨g2,_,Ab⟩) dW).trans d1;replace d2:=(hb.cell (p:=⟨g2,_,Ab⟩) dW).trans d2;replace d3:=(hb.cell (p:=⟨g2,_,Ab⟩) dW).trans d3;have mJ:g2<wr:=Bl;have aM:=Cw wr;have Hl:=Br (show ((y.shelf[i].take k).filter fun e=>Fc y e).length<=3000000 by have h1:=List.length_filter_le (fun e=>Fc y e) (y.shelf[i].take k);rw [Az] at h1;omega);cases qf:Fc y y.shelf[i][k]
   ·have S:=Br (Mf (p:=fun e=>Fc y e) aA qf);have qF:=Br qf;clear qf;go_wp2;refine Bz Bm Bm ?_;repeat (go_big_quiet_step ((go_at_call 82;rename_i x;have h1:=CF.out x.1 (Bv hB x.2) y.shelf[i][k];rw [qF.out] at h1;exact Fu h1)))
    refine Ak ?_;rintro w3 ⟨⟨_,b3⟩,rfl⟩;clear aM;go_wp2;exact ⟨⟨k+1,Bl,by go_num,by rw [S.out];exact hO.out.below b3,Bv hb b3⟩,clM⟩
   ·have S:=Br (Lc (p:=fun e=>Fc y e) aA qf);have qF:=Br qf;clear qf;go_wp2;refine Bz Bm Bm ?_;repeat (go_big_quiet_step ((go_at_call 82;rename_i x;have h1:=CF.out x.1 (Bv hB x.2) y.shelf[i][k];rw [qF.out] at h1;exact Fu h1)))
    refine Ak ?_;rintro w3 ⟨⟨_,b3⟩,rfl⟩;clear aM;have cB:=Bv hb b3;have gH:=hO.out.below b3;clear X_;replace X:=X.below b3;have X_:=X.g4;replace ck:=(b3.cell (p:=⟨g,_,Ab⟩) gD).trans ck;replace d0:=(b3.cell (p:=⟨g2,_,Ab⟩) mJ).trans d0;replace d1:=(b3.cell (p:=⟨g2,_,Ab⟩) mJ).trans d1;replace d2:=(b3.cell (p:=⟨g2,_,Ab⟩) mJ).trans d2;replace d3:=(b3.cell (p:=⟨g2,_,Ab⟩) mJ).trans d3;have kT:=b3.size;have hgw3:g<w3:=Bl;have hg2w3:g2<w3:=Bl;generalize y.shelf[i][k]=e9 at *
    have ha:Hid (∀ w:World,Below w w (w.alloc (.cells #[J U e9.prio,J U e9.seq,J U e9.run,J U e9.task] 71))):=fun w=>Bu;go_wp2_with (at_builtin;go_loud (refine Ci _ Cz Bq rfl (.tmp 39) (.tmp 48) rfl underlying74 aQ aU aS aR rfl (base:=w2) (l:=(y.shelf[i].take k).filter fun e=>Fc y e) rfl (gH.below (ha.out w3)) rfl (Rd.one Cz _ _ e9 rfl rfl 1 (Bt _) (Nat.lt_succ_self _)) Hl.out Bo Bq (by simp;omega) ?_);intro v5 w5 o5 g5 _)
    have eZ:Below w2 w2 w5:=(Bv cB (ha.out w3)).grown g5 (Bv cB (ha.out w3)).size (fun g hg=>by have:=gH.within _ hg;omega);exact ⟨⟨k+1,Bl,by go_num,by rw [S.out];exact o5,eZ⟩,clM⟩
  ·have aB:¬ (k:Int)<(y.shelf[i].length:Int):=Bl;have dC:=hO.out;rw [Bg Bl] at dC;obtain ⟨⟨a8,n8,c8⟩,F9,rfl,o9,nF9⟩:=H7 dC;have oy3:=Bw.ow_below (F:=F) (x:=y) (s:=(⟨B1,m1,e1⟩,⟨B2,m2,e2⟩)) oy hb;replace OB:=OB.below hb;replace RES:=RES.below hb;have H:Hid (Cb y i=⟨y.now,y.seq,y.shelf.set i (y.shelf[i].filter fun e=>Fc y e),y.runs⟩):=by
    show Cb y i=_;unfold Cb;rw [G8 hi]
   generalize (y.shelf[i].filter fun e=>Fc y e)=L at *
   clear hO dC;obtain ⟨g1,o1,s1,rfl,hg1,_,_⟩:=(RdL.entryS (show RdL (Dt.list By) wr wr.heap.size (Aa B1 m1 e1) y.shelf from (Bw.ow_rd oy3).1) hi)
   obtain rfl:m1=y.shelf.length:=RdL.at1 (s:=⟨Ac ⟨g1,o1,Ab⟩,m1,e1⟩) (Bw.ow_rd oy3).1;obtain ⟨F',p1,p2,p3⟩:=Gt oy3 hi (l:=L) (t:=⟨a8,n8,c8⟩) o9 (fun x hx bI=>by have h1:=nF9 x hx;have h2:=bR x bI;omega);obtain ⟨F1,F2,gF,_,os,_⟩:=oy3;have qJ:=OwL.free0 (show OwL (Dt.list By) wr F1 (Aa (Ac ⟨g1,o1,Ab⟩) y.shelf.length e1) y.shelf from os) Bl;have hg1F:=bR g1 p3;have hg1n:=nF g1 p3;have OB_:=OB.g4;have RES_:=RES.g4;have rf:=RES.free;obtain ⟨_,_,_,dD,_,_,ckk⟩:=(RdL.entryS (show RdL (Dt.list By) wr wr.heap.size (Aa (Ac ⟨g1,o1,Ab⟩) y.shelf.length e1) y.shelf from os.rd) hi)
   simp only [Option.some.injEq,Addr.mk.injEq,and_true] at dD;obtain ⟨rfl,rfl⟩:=dD;have B8:Below w w (wr.setCell ⟨g1,o1+i,Ab⟩ (Aa a8 n8 c8)):=by
    repeat (first | (with_reducible exact hB) | refine Ad ?_ Bp _)
   go_upto_region 11 with fail
   clear X_;clear OB_;clear RES_;clear X ck;replace OB:=OB.setOther (a:=⟨g1,o1+i,Ab⟩) (by show w1.heap.size≠g1;omega) (Aa a8 n8 c8);replace RES:=RES.setOther (a:=⟨g1,o1+i,Ab⟩) (by show w.heap.size+1≠g1;omega) (Aa a8 n8 c8);generalize wr.setCell ⟨g1,o1+i,Ab⟩ (Aa a8 n8 c8)=w8 at *
   have OB_:=OB.g4;have RES_:=RES.g4;have rf:=RES.free;go_wp2;have en1:w.heap.size+1∉F':=fun hx=>by
    rcases p2 _ hx with h | h
    ·have:=nF _ h;omega
    ·have:=nF9 _ h;omega
   refine Aj (Af7 (DBox.row4 RES rfl _ _ _ _)) rfl ⟨(⟨Ac ⟨g1,o1,Ab⟩,y.shelf.length,e1⟩,⟨B2,m2,e2⟩),F',by rw [H.out],by rw [H.out];exact (by (repeat (refine Dt.ow_set Bw ?_ en1 _));exact p1),fun x hx=>?_,?_⟩
   ·rcases p2 x hx with h | h
    ·have:=nF x h;omega
    ·have:=nF9 x h;omega
   ·repeat (first | (with_reducible exact B8) | refine Ad ?_ Bp _)
end Go.Proofs.YtecnbnbopcblgaaGreat
