/-
  Complete of the reference. VictimsOf of the reference. done of the program: a task of a run is done, in place. Poll of the reference. Written by program (kv.py)
-/
import Derived.Test.YtonlnjdempbfoabGreatZFd0
import Derived.Test.YtonlnjdempbfoabGreatZFd4
import Derived.Test.YtonlnjdempbfoabGreatZFd9
import Derived.Test.YtonlnjdempbfoabGreatZFd10
import Derived.Test.YtonlnjdempbfoabGreatZFd11
namespace Go.Proofs.YtonlnjdempbfoabGreat
open Go.RowKit
set_option maxRecDepth 100000
set_option maxHeartbeats 4000000
set_option linter.unusedVariables false
set_option linter.unusedSimpArgs false
open Value renaming int->J,slice->Aa
open IntKind renaming i64->U
open Option renaming none->Ab,some->Ac
open Below renaming setCell->Ad
open Nat renaming zero_le->Ag
open Go renaming bodyPost_ret->Aj,wpAnyH_done->Al
open Go.Proofs.Tryz renaming prog->Am
open Int renaming toNat_natCast->Ao,eq_ofNat_of_zero_le->Ap
open IntWalk renaming i64_in->Aq
open List renaming mem_singleton->Au,getElem_mem->Aw,length_take->Az,mem_append_right->Be,take_of_length_le->Bg,length_set->Bh
open Go.Proofs.Tryz
section
theorem Q2 {b:Nat} {w:World} {u0 u1 u2 u3:Value} (X:DBox b [u0,u1,u2,u3] w) {v0 v1 v2 v3 v4 v5 v6 v7 v9:Value} {rest:List Value} :
  (results Tryz.f125 (v0 :: v1 :: v2 :: v3 :: v4 :: v5 :: v6 :: v7 :: .pointer (Ac ⟨b,0,Ab⟩) :: v9 :: rest).toArray).run Am w = .ok (.tuple #[.agg #[u0,u1,u2,u3],v9]) w:=by
 have c0:=X.cell 0 _ rfl;have c1:=X.cell 1 _ rfl;have c2:=X.cell 2 _ rfl;have c3:=X.cell 3 _ rfl;simp [results,results125,go_sem,c0,c1,c2,c3]
theorem O3 (r:Run) (t:Nat):(Ji r t).tasks.length=r.tasks.length:=by
 show (I4 r t).length=_;unfold I4;rw [Ll r t,Of]
open Classical in
noncomputable def K3 (y:Yard) (id tk tr:Int):Yard:=if Gn y id tk tr=0 then Gd y (Dk y id).toNat (Ji (Kh y id) tk.toNat) else y
theorem Rs (y:Yard) (s:Sl×Sl) (id tk tr:Int) (w:World) (hl:Ca y<=2000000) (h:Bv.rd w w y s) :
  Calls Am 125 #[Dm y s,J U id,J U tk,J U tr] w (Ij (K3 y id tk tr) (Gn y id tk tr) w):=by
 have HR:=Bq (show ∀ W,Below w w W->Bv.rd W W y s from fun W hW=>Bv.rd_more (Bv.rd_below h hW) hW.size);obtain ⟨⟨A1,n1,c1⟩,⟨A2,n2,c2⟩⟩:=s;have CC:=Bq (fun W hW=>El y (⟨A1,n1,c1⟩,⟨A2,n2,c2⟩) W hl (HR.out W hW));have CK:=Bq (fun W hW=>Si y (⟨A1,n1,c1⟩,⟨A2,n2,c2⟩) id tk tr W hl (HR.out W hW));have CA:=Bq (fun W hW=>E8 y (⟨A1,n1,c1⟩,⟨A2,n2,c2⟩) id W hl (HR.out W hW));clear h;obtain ⟨W,aH,X,RES,B0⟩:=bx2 w 27 [J U y.now,J U y.seq,Aa A1 n1 c1,Aa A2 n2 c2] 27 [J U 0,J U 0,Aa Ab 0 0,Aa Ab 0 0];go_enter func125,ntmps125;go_wp2_with fail
 rw [<-aH.out];clear aH;refine (CC.out _ B0).mono ?_;rintro e1 w1 ⟨⟨⟨B1,m1,e1⟩,⟨B2,m2,e2⟩⟩,F,rfl,oy,nF,b1⟩;have mX:=X.lt;have dP:=RES.lt;replace X:=X.below b1;replace RES:=RES.below b1;replace B0:=Bu B0 b1;have bV:=Bv.ow_lt (F:=F) (x:=y) (s:=(⟨B1,m1,e1⟩,⟨B2,m2,e2⟩)) oy;have bS:=b1.size;clear b1;go_upto_region 2 with fail
 have OB:=DBox.new 27 [J U y.now,J U y.seq,Aa B1 m1 e1,Aa B2 m2 e2] w1 (b:=w1) rfl;have b2:Below w1 w1 (w1.alloc (.cells #[J U y.now,J U y.seq,Aa B1 m1 e1,Aa B2 m2 e2] 27)):=Bt;replace B0:=Bu B0 b2;replace X:=X.below b2;replace RES:=RES.below b2;replace oy:=Bv.ow_below (F:=F) (x:=y) (s:=(⟨B1,m1,e1⟩,⟨B2,m2,e2⟩)) oy b2;have eV:=b2.size;have ow1:=OB.lt;generalize w1.alloc (.cells #[J U y.now,J U y.seq,Aa B1 m1 e1,Aa B2 m2 e2] 27)=w2 at *
 have X_:=X.g4;go_wp2_with fail
 refine (CK.out _ B0).mono ?_;rintro e1 w3 ⟨rfl,b3⟩;replace B0:=Bu B0 b3;clear X_;replace X:=X.below b3;replace RES:=RES.below b3;replace OB:=OB.below b3;replace oy:=Bv.ow_below (F:=F) (x:=y) (s:=(⟨B1,m1,e1⟩,⟨B2,m2,e2⟩)) oy b3;have kI:=b3.size;clear b3 b2 CC CK;have X_:=X.g4;have OB_:=OB.g4;by_cases q:Gn y id tk tr=0;case neg =>
  have q2:(Gn y id tk tr != 0)=true:=by simp [q]
  have H:=Bq (show K3 y id tk tr=y from if_neg q);clear q;have RES_:=RES.g4;have rf:=RES.free;go_wp2;have en1:w.heap.size+1∉F:=fun hx=>by have:=nF _ hx;omega
  refine Aj (Q2 (DBox.row4 RES rfl _ _ _ _)) rfl ⟨(⟨B1,m1,e1⟩,⟨B2,m2,e2⟩),F,by rw [H.out],by rw [H.out];exact (Bv.set4 (F:=F) (x:=y) (s:=(⟨B1,m1,e1⟩,⟨B2,m2,e2⟩)) oy en1),fun x hx=>by have:=nF x hx;omega,?_⟩;repeat (first | (with_reducible exact B0) | refine Ad ?_ Bo _)
 have q2:(Gn y id tk tr != 0)=false:=by simp [q]
 have H:=Bq (show K3 y id tk tr=Gd y (Dk y id).toNat (Ji (Kh y id) tk.toNat) from if_pos q);have HP:Hid (Dh y/\0<=Dk y id/\Gh y id tk tr):=by
  unfold Gn at q;by_cases p0:Dh y
  ·by_cases p1:Dk y id<0
   ·rw [if_neg (fun h=>h p0),if_pos p1] at q;cases q
   ·by_cases p2:Gh y id tk tr
    ·exact ⟨p0,Bl,p2⟩
    ·rw [if_neg (fun h=>h p0),if_neg p1,if_pos p2] at q;cases q
  ·rw [if_pos p0] at q;cases q
 have Hq:=Bq q;clear q;rcases Ez y id with hr | ⟨k,hk,hr⟩
 ·exact absurd HP.out.2.1 Bl
 have HK:=Bq (Gy hk hr);have HR2:=Bq hr;clear hr;have bQ:=Bq (Eo HP.out.1 hk);have hth:=Bq HP.out.2.2;have dC:Hid ((0<=tk/\tk<(y.runs[k].tasks.length:Int))/\(Cv y.runs[k] tk.toNat).state=3):=by
  have:=hth.out
  unfold Gh at this;rw [HK.out] at this;exact ⟨this.2.1,this.2.2.1⟩
 obtain ⟨u,rfl⟩:=Ap dC.out.1.1;have hu:u<y.runs[k].tasks.length:=by have:=dC.out.1.2;omega
 have aP:Hid (Is y.runs[k] u):=⟨bQ.out,⟨Bl,Bl⟩,dC.out.2⟩
 go_wp2_with fail
 refine (CA.out _ B0).mono ?_;rintro e2' w4 ⟨rfl,b4⟩;rw [HR2.out];replace B0:=Bu B0 b4;clear X_;clear OB_;clear X;replace RES:=RES.below b4;replace OB:=OB.below b4;replace oy:Bv.ow w4 F y (⟨B1,m1,e1⟩,⟨B2,m2,e2⟩):=owB oy b4;have mR:=b4.size;clear b4 CA;have oy2:=oy;obtain ⟨F1,F2,rfl,bT,os,orr⟩:=oy2;replace orr:OwL Ce w4 F2 (Aa B2 m2 e2) y.runs:=orr;obtain rfl:m2=y.runs.length:=RdL.at1 (s:=⟨B2,m2,e2⟩) orr.rd;obtain ⟨gr,o2,sk,rfl,dQ,dF,c0,c1_,c2_,c3,c4,c5,c6,c7⟩:=orr.rd.run hk;have gL:(k:Int)<(y.runs.length:Int):=Bl;have cL:(0:Int)<=(k:Int):=Bl;go_wp2;refine Go.wp_region_noPanic ?_;refine wp_region_held_drew (S:=(fun w'=>DBox w1 [J U y.now,J U y.seq,Aa B1 m1 e1,Aa (Ac ⟨gr,o2,Ab⟩) y.runs.length e2] w')) Bm (DBox.drew4 OB) (fun hHeld=>?_);refine tY 0 ?_
 (try simp only [pS])
 refine tY 1 ?_
 (try simp only [pS])
 refine tY 2 ?_
 (try simp only [pS])
 refine tY 3 ?_
 (try simp only [pS])
 refine tY 4 ?_
 (try simp only [pS])
 refine tY 5 ?_
 (try simp only [pS])
 refine tY 7 ?_
 (try simp only [pS])
 have bd:Below w4 w4 w4.drew:=(Br _ _).drew;replace B0:=Bu B0 bd;replace RES:=RES.below bd;replace OB:=OB.below bd;replace oy:Bv.ow w4.drew (F1 ++ F2) y (⟨B1,m1,e1⟩,⟨Ac ⟨gr,o2,Ab⟩,y.runs.length,e2⟩):=Bv.ow_below (F:=F1 ++ F2) (x:=y) (s:=(⟨B1,m1,e1⟩,⟨Ac ⟨gr,o2,Ab⟩,y.runs.length,e2⟩)) oy bd;refine rC 6 (fun K_ hK=>?_);go_simp;refine hK.out _ _ OB (fun hHeld=>?_);clear hK K_
 (try simp only [pS])
 have mY:=G8 hl hk;have hrk2:Ce.rd w4.drew w4.drew y.runs[k] sk:=Ce.rd_below dF bd;have hcrun:Cn y.runs[k]<=2000000:=by
  have h1:=C9 (cnt:=Cn) (Aw hk);unfold Ca at hl;omega
 have CF:=Bq (Zg y.runs[k] sk u w4.drew hcrun aP.out hrk2);clear c0 c1_ c2_ c3 c4 c5 c6 c7;refine rC 8 (fun K_ hK=>?_);go_simp;refine CF.out.mono ?_;rintro e3 w5 ⟨sr,Fr,rfl,orn,nFr,b5⟩;refine hK.out _ _ (OB.below b5) (fun hHeld=>?_);clear hK K_
 (try simp only [pS])
 have qC:w4.drew.heap.size=w4.heap.size:=rfl;have pT:=b5.size;have rI:=D7 bQ.out;have CT:=Bq (Le y (⟨B1,m1,e1⟩,⟨Ac ⟨gr,o2,Ab⟩,y.runs.length,e2⟩) k (Ji y.runs[k] u) sr w5 (F1 ++ F2) Fr HP.out.1.2.2.1 (fun s hs=>by have:=(HP.out.1.2.2.2.1 s hs).1;omega) (by have:=HP.out.1.2.1;omega) hk (by rw [O3];omega) Bl (Bv.ow_below (F:=F1 ++ F2) (x:=y) (s:=(⟨B1,m1,e1⟩,⟨Ac ⟨gr,o2,Ab⟩,y.runs.length,e2⟩)) oy b5) orn (fun x hx bJ=>by have h1:=nFr x hx;have h2:=bV x bJ;omega));have HF:=Bq (show K3 y id u tr=Gd y k (Ji y.runs[k] u) by rw [H.out,HR2.out,HK.out,Ao,Ao]);clear H;refine rC 9 (fun K_ hK=>?_);go_simp;refine CT.out.mono ?_;rintro e4 w6 ⟨s5,F5,rfl,oy7,n5,c6⟩;have aC:w1.heap.size∉F1 ++ F2:=fun h=>by have:=bV _ h;omega
 have nZ:w.heap.size+1∉F1 ++ F2:=fun h=>by have:=nF _ h;omega
 have OB6:=(OB.below b5).chg c6 aC;have RES6:=(RES.below b5).chg c6 nZ;have B6:Below w w w6:=(Bu B0 b5).trans (c6.below (by have:=(Bu B0 b5).size;omega) (fun x hx=>by have:=nF _ hx;omega));generalize Gd y k (Ji y.runs[k] u)=Z at *
 refine hK.out _ _ OB6 (fun hHeld=>?_);clear hK K_
 (try simp only [pS])
 have r0:=RES6.cell 0 _ rfl;have r1:=RES6.cell 1 _ rfl;have r2:=RES6.cell 2 _ rfl;have r3:=RES6.cell 3 _ rfl;have rl:=RES6.lt;have rf:=RES6.free;refine rC 10 (fun K_ hK=>?_);go_simp;have cW:w1.heap.size≠w.heap.size+1:=Bl;refine hK.out _ _ ((((OB6.setOther (a:=⟨w+1,_,Ab⟩) cW _).setOther (a:=⟨w+1,_,Ab⟩) cW _).setOther (a:=⟨w+1,_,Ab⟩) cW _).setOther (a:=⟨w+1,_,Ab⟩) cW _) (fun hHeld=>?_);clear hK K_
 (try simp only [pS])
 refine rC 11 (fun K_ hK=>?_);go_simp;refine hK.out _ _ hHeld (fun hHeld=>?_);clear hK K_
 (try simp only [pS])
 refine Al Bm ?_ _;refine NoPanic.normal ?_;clear hHeld r0 r1 r2 r3 rf;have en5:w.heap.size+1∉F5:=fun hx=>by
  rcases n5 _ hx with h | h | h
  ·exact nZ h
  ·have:=nFr _ h;omega
  ·omega
 have hZ:K3 y id u tr=Z:=HF.out;have H2:=Bq hZ;clear hZ;have Hq2:=Bq (show Gn y id u tr=0 from Hq.out);go_wp2;refine Aj (Q2 (DBox.row4 RES6 rfl _ _ _ _)) rfl ⟨s5,F5,by rw [H2.out,Hq2.out],by rw [H2.out];exact (Bv.set4 (F:=F5) (x:=Z) (s:=s5) oy7 en5),fun x hx=>?_,?_⟩
 ·rcases n5 x hx with h | h | h
  ·have:=nF x h;omega
  ·have:=nFr x h;omega
  ·omega
 ·repeat (first | (with_reducible exact B6) | refine Ad ?_ Bo _)
end
theorem Rt:(Am.info? 3).map (fun i=>(i.zero,i.size,i.bytes))=Ac (Ac (J U 0),1,8):=Bm
def Lg (n lo hi:Int):Int:=if n<lo then lo else if n > hi then hi else n
theorem Tf (n lo hi:Int) (w:World) (h:lo<=hi):Calls Am 174 #[J U n,J U lo,J U hi] w fun e w'=>e = .returned (J U (Lg n lo hi))/\w=w':=by
 by_cases h1:n<lo
 ·have H:=Bq (show Lg n lo hi=lo from if_pos h1);go_enter func174,ntmps174;go_wp2;go_ret;exact ⟨C8 H.out.symm,rfl⟩
 ·by_cases h2:n > hi
  ·have H:=Bq (show Lg n lo hi=hi by unfold Lg;rw [if_neg h1,if_pos h2]);have h2':hi<n:=h2;go_enter func174,ntmps174;go_wp2;go_ret;exact ⟨C8 H.out.symm,rfl⟩
  ·have H:=Bq (show Lg n lo hi=n by unfold Lg;rw [if_neg h1,if_neg h2]);have h2':¬ hi<n:=h2;go_enter func174,ntmps174;go_wp2;go_ret;exact ⟨C8 H.out.symm,rfl⟩
def J7 (home:Nat):List Nat:=(List.range 3).map fun i=>(home+(i+1)) % 4
theorem Zh {home k:Nat} (h:k<3):(J7 home).take (k+1)=(J7 home).take k ++ [(home+(k+1)) % 4]:=by
 rcases (show k=0\/k=1\/k=2 by omega) with rfl | rfl | rfl<;>rfl
theorem Adp {home d:Nat} : Er home d=(J7 home).drop (d % 3) ++ (J7 home).take (d % 3):=by
 have h1:(max (d:Int) 0 % 3).toNat=d % 3:=Bl;unfold Er;rw [h1,Ao];have h2:=Nat.mod_lt d (show 0<3 by decide);generalize d % 3=k at *
 rcases (show k=0\/k=1\/k=2 by omega) with rfl | rfl | rfl<;>rfl
theorem Tg (home d:Nat) (w:World) (hh:home<4) (hd:d<=1000000000) :
  Calls Am 206 #[J U (home:Int),J U (d:Int)] w fun e w'=>∃ v,e = .returned v/\Ow Eu 3 w' w v (Er home d)/\Below w w w':=by
 obtain ⟨j0,cJ,jz0,jz1,jz2⟩:=info_parts Rt;have CB:=Bq (fun W=>Tf (home:Int) 0 3 W Bp);have hI:¬ (d:Int)<0:=Bl;have hbr:Lg (home:Int) 0 3=(home:Int):=by unfold Lg;split<;>(try split)<;>omega
 rw [hbr] at CB;have q0:Below w w (w.alloc (.cells #[] 3)):=Bt;go_enter func206,ntmps206;go_wp2_with (go_at_call 174;refine (CB.out _).mono ?_;rintro e w1 ⟨rfl,rfl⟩)
 have o0:=Ow.empty Eu 3 w rfl;go_loopw [5,6] (fun v j wr=>∃ k:Nat,k<=3/\j = J U ((k:Int)+1)/\Hid (Ow Eu 3 wr w v ((J7 home).take k))/\Below w w wr) (fun _ j _=>4 - (intOf j).toNat);case atStart=>exact ⟨0,Ag _,rfl,o0,q0⟩
 case round =>
  clear o0 q0;obtain ⟨k,hk,rfl,hO,hb⟩:=hrel;by_cases aA:k<3
  ·have aB:(k:Int)+1<4:=Bl;have S:=Bq (Zh (home:=home) aA);have wA:U.wrap ((home:Int)+((k:Int)+1))=(home:Int)+((k:Int)+1):=Aq _ Bl;have rA:((home:Int)+((k:Int)+1)).tmod 4=(((home+(k+1)) % 4:Nat):Int):=by
    rw [Int.tmod_eq_emod_of_nonneg Bl];omega
   have wB:U.wrap (((home+(k+1)) % 4:Nat):Int)=(((home+(k+1)) % 4:Nat):Int):=Aq _ Bl;have Hl:=Bq (show ((J7 home).take k).length<=3000000 by rw [Az];omega);generalize (home+(k+1)) % 4=x at *
   have ha:Hid (∀ w:World,Below w w (w.alloc (.cells #[J U (x:Int)] 3))):=fun w=>Bt;have cX:=hO.out;have cQ:=hb.size;go_wp2_with (at_builtin;refine Ch _ Eu Bp rfl (.tmp 17) (.tmp 22) rfl underlying32 cJ jz0 jz1 jz2 rfl (base:=w) (l:=(J7 home).take k) rfl (cX.below (ha.out wr)) rfl (Rd.one Eu _ _ x rfl rfl 1 (Bs _) (Nat.lt_succ_self _)) Hl.out Bn Bp (by simp;omega) ?_;intro v5 w5 o5 g5 _)
   have eX:Below w w w5:=(Bu hb (ha.out wr)).grown g5 (Bu hb (ha.out wr)).size (fun g hg=>by have:=cX.within _ hg;omega);exact ⟨⟨k+1,Bl,by go_num,by rw [S.out];exact o5,eX⟩,by simp [intOf];omega⟩
  ·have aB:¬ (k:Int)+1<4:=Bl;have hk3:k=3:=Bl;subst hk3;have cX:=hO.out;rw [show (J7 home).take 3=J7 home from rfl] at cX;clear hO;have HV:=Bq (Adp (home:=home) (d:=d));obtain ⟨-,h2⟩ | ⟨g,cap,rfl,h1,h2,h3,h4,h5,h6⟩:=cX.form
   ·cases h2
   have rB:=Rd.of_own cX;replace h3:=rB.cap;have h3':3<=cap:=h3;have hm3:=Nat.mod_lt d (show 0<3 by decide);have rA:(d:Int).tmod 3=((d % 3:Nat):Int):=by
    rw [Int.tmod_eq_emod_of_nonneg Bl];omega
   have wB:U.wrap ((d % 3:Nat):Int)=((d % 3:Nat):Int):=Aq _ Bl;have qJ:(J7 home).length=3:=rfl;generalize d % 3=m at *
   generalize J7 home=L at *
   rw [qJ] at rB;have a0:=Bq (show ∀ W,Below wr wr W->Rd Eu W wr (Aa (Ac ⟨g,m,Ab⟩) (3 - m) (cap - m)) (L.drop m) from fun W hW=>by have:=(rB.fromL m Bl).below hW;rw [qJ,show 0+m * Eu.sz=m from by show 0+m * 1=m;omega] at this;exact this);have a1:=Bq (show ∀ W,Below wr wr W->Rd Eu W wr (Aa (Ac ⟨g,0,Ab⟩) m cap) (L.take m) from fun W hW=>(rB.take Bl cap Bl).below hW);have pR:(m:Int)<=3:=Bl;have eP:(0:Int)<=(m:Int):=Bl;have hmc:m<cap:=Bl;have hmc2:¬ cap=m:=Bl;have hmc3:m<=cap:=Bl;have hmcI:(m:Int)<=(cap:Int):=Bl;have dL:=Bq (show (L.drop m).length<=3000000 by simp;omega);have aZ:=Bq (show (L.take m).length<=3000000 by simp;omega);rw [qJ];have cQ:=hb.size;go_wp2;refine Go.wp_region_noPanic ?_;refine wp_region_held_drew (S:=fun _=>True) Bm trivial (fun hHeld=>?_);have B1:Below wr wr wr.drew:=(Br _ _).drew;generalize wr.drew=w1 at *
   refine tY 1 ?_
   (try simp only [pS])
   refine tY 2 ?_
   (try simp only [pS])
   refine tY 3 ?_
   (try simp only [pS])
   refine tY 5 ?_
   (try simp only [pS])
   refine tY 6 ?_
   (try simp only [pS])
   refine tY 7 ?_
   (try simp only [pS])
   refine rC 0 (fun K_ hK=>?_);go_simp;have bb:Below w1 w1 (w1.alloc (.cells #[] 3)):=Bt;have o9:Ow Eu 3 (w1.alloc (.cells #[] 3)) w (Aa (Ac ⟨w1,0,Ab⟩) 0 0) []:=(Ow.empty Eu 3 w1 rfl).more (by have:=B1.size;omega);have Ba:=Bu B1 bb;have y9:=B1.size;generalize w1.heap.size=g9 at *
   generalize w1.alloc (.cells #[] 3)=w1a at *
   refine hK.out _ _ trivial (fun hHeld=>?_);clear hK K_
   (try simp only [pS])
   refine rC 4 (fun K_ hK=>?_);refine E1 _ Eu Bp (.tmp 28) (.tmp 31) 32 rfl w.heap.size 3 _ _ _ underlying32 cJ jz0 jz1 jz2 rfl _ [] rfl o9 _ _ _ _ (L.drop m) rfl (a0.out _ Ba) Bn dL.out Bp (by have:=Ba.size;omega) ?_;intro v13 w1b o13 gg e13;rw [List.nil_append] at o13;have Bb:Below wr wr w1b:=Ba.grown gg Ba.size (fun g hg=>by have:=Option.some.inj (show Ac g9=Ac g from hg);omega);clear gg;refine hK.out _ _ trivial (fun hHeld=>?_);clear hK K_
   (try simp only [pS])
   refine rC 8 (fun K_ hK=>?_);refine E1 _ Eu Bp (.tmp 32) (.tmp 35) 32 rfl w.heap.size 3 _ _ _ underlying32 cJ jz0 jz1 jz2 rfl _ (L.drop m) rfl o13 _ _ _ _ (L.take m) rfl (a1.out _ Bb) dL.out aZ.out Bp (by have:=Bb.size;omega) ?_;intro v14 w1c o14 gg e14;have Bc:Below w w w1c:=(Bu hb Bb).grown gg (Bu hb Bb).size (fun g hg=>(o13.within g hg).1);clear gg;refine hK.out _ _ trivial (fun hHeld=>?_);clear hK K_
   (try simp only [pS])
   refine rC 9 (fun K_ hK=>?_);go_simp;refine hK.out _ _ trivial (fun hHeld=>?_);clear hK K_
   (try simp only [pS])
   refine Al Bm ?_ _;refine NoPanic.normal ?_;go_wp2;go_ret;exact ⟨_,rfl,by rw [HV.out];exact o14,Bc⟩
theorem Xy {l:List Task} {s:Int} : Dv l s=0 ↔ ∀ x∈l,x.state≠s:=by
 unfold Dv;rw [List.length_eq_zero_iff,List.filter_eq_nil_iff];constructor
 ·intro h x hx;simpa using h x hx
 ·intro h x hx;simpa using h x hx
theorem Agw (s:Int) (hs:s≠2) (L:List Nat):∀ (l:List Task),(∀ x∈l,x.state≠s) -> ∀ x∈L.foldl (fun l b=>Hn l b Dr) l,x.state≠s:=by
 induction L with
 | nil=>intro l h;exact h
 | cons b L ih =>
  intro l h;rw [List.foldl_cons];refine ih _ (fun x hx=>?_);unfold Hn at hx;rcases List.mem_or_eq_of_mem_set hx with h2 | h2
  ·exact h x h2
  ·subst h2;by_cases hb:b<l.length
   ·rw [List.getD_eq_getElem?_getD,List.getElem?_eq_getElem hb]
    have:=h _ (Aw hb)
    simp only [Option.getD_some,Dr];split
    ·exact fun e=>hs e.symm
    ·exact this
   ·rw [List.set_eq_of_length_le Bl] at hx;exact h _ hx
theorem Abx {r:Run} {u:Nat} (h:Is r u):stL (I4 r u)=if Dv (I4 r u) 4=r.tasks.length then 2 else r.state:=by
 obtain ⟨l5,l6,l4,ls⟩:=Qc h;have aF:(I4 r u).length=r.tasks.length:=by
  unfold I4;rw [Ll r u,Of]
 have hu:u<r.tasks.length:=by have:=h.2.1.2;omega
 have h0:∀ s:Int,s≠4->s≠2->Dv r.tasks s=0->Dv (I4 r u) s=0:=fun s h4 h2 hc=>by
  rw [Xy] at hc ⊢;refine Agw s h2 _ _ (fun x hx=>?_);rw [Lf hu] at hx;rcases List.mem_or_eq_of_mem_set hx with h | h
  ·exact hc x h
  ·subst h;exact fun e=>h4 e.symm
 have z5:=h0 5 Bp Bp l5;have z6:=h0 6 Bp Bp l6;unfold stL;rw [aF,ls];split
 ·rfl
 ·rw [if_neg Bl,if_neg Bl,if_pos ⟨z5,z6⟩]
theorem W0 (f:Task->Task) (l:List Task) (L:List Nat) (k:Nat) (h:k<L.length):(L.take (k+1)).foldl (fun l b=>Hn l b f) l=Hn ((L.take k).foldl (fun l b=>Hn l b f) l) L[k] f:=by
 rw [List.take_succ_eq_append_getElem h,List.foldl_append];rfl
theorem Zi (gr o n c:Nat) (rs:List (Run×Ce.S)) (k:Nat) (G1 Fx G2:List Nat) (r:Run) (s:Sl×Sl) (u:Nat) (w:World) (hR:Is r u) (hF:Foc Ce w gr o n c rs k G1 Fx G2 r s) :
  Calls Am 189 #[.pointer (Ac ⟨gr,o+k * 8,Ab⟩),J U u] w (Ie gr o n c rs k G1 Fx G2 (Ji r u) s w):=by
 have hu:u<r.tasks.length:=by have:=hR.2.1.2;omega
 have fI:=D7 hR.1;have HST:=Bq (Abx hR);have hpf:=hR.1.2.1;obtain ⟨F1,b,o2,c2,rfl,bT,eV,op,oh,rM,dA⟩:=hF.atRun Bl;obtain ⟨s1,s2⟩:=s;obtain rfl:s2=_:=eV;have qB:=hF.blk;have mP:=(oh.block Bl).2.1;have pV:=(oh.block Bl).2.2;have g7:w.cell? ⟨gr,o+k * 8+7,Ab⟩=Ac (Aa (Ac ⟨b,o2,Ab⟩) r.tasks.length c2):=hF.cells 7 _ rfl;obtain ⟨_,_,hA,_,d0,d1,d2,d3⟩:=oh.rd.tsk hu;simp only [Option.some.injEq,Addr.mk.injEq,and_true] at hA;obtain ⟨rfl,rfl⟩:=hA;have jR:(u:Int)<(r.tasks.length:Int):=Bl;have gM:(0:Int)<=(u:Int):=Bl;have h1:=oh.taskState hu 4;have h2:=h1.taskUntil (j:=u) (by rw [Bh];exact hu) 0;simp only [List.getElem_set_self,List.set_set] at h2;have dI:Chg [b] w ((w.setCell ⟨b,o2+u * 4,Ab⟩ (J U 4)).setCell ⟨b,o2+u * 4+3,Ab⟩ (J U 0)):=(Chg.setCell w b _ _).trans (Chg.setCell _ b _ _);have op1:=Cd.ow_chg op dI (fun x hx h=>by rw [Au.1 h] at hx;exact dA hx);have F1_:=hF.sub (w':=(w.setCell ⟨b,o2+u * 4,Ab⟩ (J U 4)).setCell ⟨b,o2+u * 4+3,Ab⟩ (J U 0)) (y:=⟨r.id,r.plan,r.state,r.tasks.set u ⟨4,r.tasks[u].need,r.tasks[u].try_,0⟩⟩) (dI.blk Bn) ⟨F1,[b],rfl,bT,op1,Gz h2⟩ rfl;have hC1':Chg (gr :: (F1 ++ [b])) w ((w.setCell ⟨b,o2+u * 4,Ab⟩ (J U 4)).setCell ⟨b,o2+u * 4+3,Ab⟩ (J U 0)):=dI.blk Bn;have hM0:=Bq (show Hn r.tasks u (fun x=>⟨4,x.need,x.try_,0⟩)=r.tasks.set u ⟨4,r.tasks[u].need,r.tasks[u].try_,0⟩ from Lf hu _);go_enter func189,ntmps189;go_upto_region 2 with fail
 generalize (w.setCell ⟨b,o2+u * 4,Ab⟩ (J U 4)).setCell ⟨b,o2+u * 4+3,Ab⟩ (J U 0)=w1 at *
 have dK:∀ x∈r.tasks,0<=x.need/\x.need<=1000/\1<=x.state/\x.state<=6:=by
  intro x hx;obtain ⟨j,hj,rfl⟩:=List.getElem_of_mem hx;have h1:=hR.1.2.2.2.1 j hj;unfold Hk Od at h1;rw [Cu hj] at h1;have h2:=Oo r (D9 (D4 r.plan) r.plan.tasks.toNat j);have h3:=Iz (D4 r.plan) r.plan.tasks.toNat j;have h5:=hR.1.2.2.1;have h6:Iq r j<=12:=by unfold Iq;omega
  omega
 have hbnd:Hid (∀ x∈r.tasks.set u ⟨4,r.tasks[u].need,r.tasks[u].try_,0⟩,-0<=x.need/\x.need<=1000/\1<=x.state/\x.state<=6):=by
  intro x hx;rcases List.mem_or_eq_of_mem_set hx with h | h
  ·have:=dK x h;omega
  ·subst h
   have:=dK _ (Aw hu)
   refine ⟨?_,?_,?_,?_⟩<;>dsimp only<;>omega
 have qG:r.plan.tasks.toNat=r.tasks.length:=by have:=hR.1.2.2.1;omega
 have CB:=Bq (Us r.plan (Aa s1.a s1.n s1.c) u w1 hpf (Ir (Cd.ow_rd op1)));rw [qG] at CB;have hBL:=Bq (Vp (D4 r.plan) r.tasks.length u);have gI:=Bq (Mc (D4 r.plan) r.tasks.length u);have hDT:=Bq (show I4 r u=(Fq (D4 r.plan) r.tasks.length u).foldl (fun l b=>Hn l b Dr) (r.tasks.set u ⟨4,r.tasks[u].need,r.tasks[u].try_,0⟩) by unfold I4;rw [qG,hM0.out]);generalize tA:r.tasks.set u ⟨4,r.tasks[u].need,r.tasks[u].try_,0⟩=L0 at *
 have nA:=Bq (show L0.length=r.tasks.length by rw [<-tA,Bh]);generalize Fq (D4 r.plan) r.tasks.length u=BL at *
 clear tA dK hM0 d0 d1 d2 d3 g7 pV hF op oh h1 dI qG hpf;obtain ⟨p0,p1,p2,p3,p4,p5,p6,p7⟩:=F1_.run;have nR:=F1_.blk;go_wp2_with fail
 refine CB.out.mono ?_;rintro e w2 ⟨v,rfl,o5,b2⟩;obtain ⟨Av,cv,rfl,-⟩:=_root_.id (Rd.of_own o5);have F2_:=F1_.sub (w':=w2) (y:=⟨r.id,r.plan,r.state,L0⟩) (Chg.of_below _ b2) ⟨F1,[b],rfl,bT,Cd.ow_below op1 b2,Gz (h2.below b2)⟩ rfl;have h3:=h2.below b2;have op2:=Cd.ow_below op1 b2;have jI:=hC1'.trans (Chg.of_below (gr :: (F1 ++ [b])) b2);have rQ:=o5.within;have hbl1:=(h2.block (by have:=nA.out;omega)).2.1;have hr5:=Bq (show ∀ W,Chg [b] w2 W->Rd Eu W W (Aa Av BL.length cv) BL from fun W hW=>Rd.of_own (o5.grown hW.toGrown (.inr (fun e=>by have:=(rQ _ e).1;omega))));clear p0 p1 p2 p3 p4 p5 p6 p7 F1_ h2 op1 hC1' CB o5 rQ nR;have gX:=F2_.blk;have p7:w2.cell? ⟨gr,o+k * 8+7,Ab⟩=Ac (Aa (Ac ⟨b,o2,Ab⟩) r.tasks.length c2):=F2_.cells 7 _ rfl;have aU:=b2.size;go_wp2;go_loopw [5,28] (fun x i wr=>∃ j:Nat,j<=BL.length/\i = J U j/\Hid (Hw Fj wr [b] (Aa (Ac ⟨b,o2,Ab⟩) r.tasks.length c2) ((BL.take j).foldl (fun l b=>Hn l b Dr) L0))/\Chg [b] w2 wr) (fun _ i _=>BL.length - (intOf i).toNat);case atStart=>exact ⟨0,Ag _,rfl,h3,Chg.refl _ _⟩
 case round =>
  obtain ⟨j,hj,rfl,hO,hC⟩:=hrel;have hlenj:((BL.take j).foldl (fun l b=>Hn l b Dr) L0).length=r.tasks.length:=by rw [Ll r u,nA.out]
  have g7:wr.cell? ⟨gr,o+k * 8+7,Ab⟩=Ac (Aa (Ac ⟨b,o2,Ab⟩) r.tasks.length c2):=(hC.cell (p:=⟨gr,o+k * 8+7,Ab⟩) gX (by simpa using rM)).trans p7;have fX:gr<wr:=Nat.lt_of_lt_of_le gX hC.size;by_cases aA:j<BL.length
  ·have aB:(j:Int)<(BL.length:Int):=Bl;have hB12:BL.length<=12:=by have:=gI.out;omega
   have hj12:(j:Int)<12:=Bl;obtain ⟨b9,o9,rfl,hb9,e0⟩:=(hr5.out wr hC).nat aA;have dW:BL[j]<r.tasks.length:=hBL.out _ (Aw aA);have qT:=Rq (BL.take j) L0 0 hbnd.out (Int.le_refl 0);have hstp:=Bq (W0 Dr L0 BL j aA);generalize BL[j]=x at *
   generalize (BL.take j).foldl (fun l b=>Hn l b Dr) L0=M at *
   have uU:x<M.length:=Bl;have hnd1:=qT _ (Aw uU);have hjb:(BL.take j).length<=12:=by have:=gI.out;rw [Az];omega
   have hstp2:=Bq (hstp.out.trans (Lf uU Dr));obtain ⟨_,_,hA,aK,d0,d1,d2,d3⟩:=hO.out.rd.tsk uU;simp only [Option.some.injEq,Addr.mk.injEq,and_true] at hA;obtain ⟨rfl,rfl⟩:=hA;have jL:=(hO.out.block Bl).2.2;have hxI:(x:Int)<(r.tasks.length:Int):=Bl;have rW:(0:Int)<=(x:Int):=Bl;have wr1:U.wrap (M[x].need - 1)=M[x].need - 1:=Aq _ Bl;have h4:=hO.out.part uU ⟨M[x].state,M[x].need - 1,M[x].try_,M[x].until_⟩ 1 [J U (M[x].need - 1)] (show 1+1<=4 by omega) (fun i hi=>by simp at hi;subst hi;rfl) (fun i hi ho=>by
    have:i<4:=hi;rcases (show i=0\/i=2\/i=3 by simp at ho;omega) with rfl | rfl | rfl<;>rfl)
   have h4:Hw Fj (wr.setCell ⟨b,o2+x * 4+1,Ab⟩ (J U (M[x].need - 1))) [b] (Aa (Ac ⟨b,o2,Ab⟩) r.tasks.length c2) (M.set x ⟨M[x].state,M[x].need - 1,M[x].try_,M[x].until_⟩):=h4;have dD:=hC.trans (Chg.setCell wr b (o2+x * 4+1) (J U (M[x].need - 1)));clear qT hstp hnd1;by_cases q:M[x].need - 1=0
   ·have hN:=Bq (show Dr M[x]=⟨2,M[x].need - 1,M[x].try_,M[x].until_⟩ by unfold Dr;rw [if_pos q]);have h5:=h4.taskState (j:=x) (by rw [Bh];exact uU) 2;simp only [List.getElem_set_self,List.set_set] at h5;have cN:=dD.trans (Chg.setCell _ b (o2+x * 4) (J U 2));have HN:=Bq (show Hw Fj ((wr.setCell ⟨b,o2+x * 4+1,Ab⟩ (J U (M[x].need - 1))).setCell ⟨b,o2+x * 4,Ab⟩ (J U 2)) [b] (Aa (Ac ⟨b,o2,Ab⟩) r.tasks.length c2) ((BL.take (j+1)).foldl (fun l b=>Hn l b Dr) L0) by rw [hstp2.out,hN.out];exact h5);rw [q] at HN cN;clear h4 h5 hO;go_wp2;exact ⟨⟨j+1,Bl,by go_num,HN,cN⟩,by simp [intOf];omega⟩
   ·have hN:=Bq (show Dr M[x]=⟨M[x].state,M[x].need - 1,M[x].try_,M[x].until_⟩ by unfold Dr;rw [if_neg q]);have qb:(M[x].need - 1 == 0)=false:=beq_eq_false_iff_ne.2 q;have HN:=Bq (show Hw Fj (wr.setCell ⟨b,o2+x * 4+1,Ab⟩ (J U (M[x].need - 1))) [b] (Aa (Ac ⟨b,o2,Ab⟩) r.tasks.length c2) ((BL.take (j+1)).foldl (fun l b=>Hn l b Dr) L0) by rw [hstp2.out,hN.out];exact h4);clear h4 hO q;go_wp2;exact ⟨⟨j+1,Bl,by go_num,HN,dD⟩,by simp [intOf];omega⟩
  ·have aB:¬ (j:Int)<(BL.length:Int):=Bl;have cX:=hO.out;rw [Bg Bl,<-hDT.out] at cX hlenj;have opr:=Cd.ow_chg op2 hC (fun x hx h=>by rw [Au.1 h] at hx;exact dA hx);have F3_:=F2_.sub (w':=wr) (y:=⟨r.id,r.plan,r.state,I4 r u⟩) (hC.blk Bn) ⟨F1,[b],rfl,bT,opr,Gz cX⟩ rfl;have eA:=jI.trans (hC.blk (F:=gr :: (F1 ++ [b])) Bn);clear hO hC hr5;go_upto_region 10 with fail
   have HS:=Bq (show ∀ W,Below wr wr W->(fun w'=>w'.cell? ⟨gr,o+k * 8,Ab⟩=Ac (J U r.id)/\w'.cell? ⟨gr,o+k * 8+1,Ab⟩=Ac (J U r.plan.prio)/\w'.cell? ⟨gr,o+k * 8+2,Ab⟩=Ac (J U r.plan.most)/\w'.cell? ⟨gr,o+k * 8+3,Ab⟩=Ac (J U r.plan.wait)/\w'.cell? ⟨gr,o+k * 8+4,Ab⟩=Ac (J U r.plan.tasks)/\w'.cell? ⟨gr,o+k * 8+5,Ab⟩=Ac (Aa s1.a s1.n s1.c)/\w'.cell? ⟨gr,o+k * 8+6,Ab⟩=Ac (J U r.state)/\w'.cell? ⟨gr,o+k * 8+7,Ab⟩=Ac (Aa (Ac ⟨b,o2,Ab⟩) r.tasks.length c2)) W from fun W hW=>by
    have cM:Foc Ce W gr o n c rs k G1 (F1 ++ [b]) G2 ⟨r.id,r.plan,r.state,I4 r u⟩ (s1,⟨Ac ⟨b,o2,Ab⟩,r.tasks.length,c2⟩):=F3_.sub (Chg.of_below _ hW) (Ce.ow_below F3_.here hW) rfl;exact cM.run)
   have dD:=eA.trans (Chg.of_below (gr :: (F1 ++ [b])) ((Br _ _).drew));have F4_:Foc Ce wr.drew gr o n c rs k G1 (F1 ++ [b]) G2 ⟨r.id,r.plan,r.state,I4 r u⟩ (s1,⟨Ac ⟨b,o2,Ab⟩,r.tasks.length,c2⟩):=F3_.sub (Chg.of_below _ (Br _ _).drew) (Ce.ow_below F3_.here (Br _ _).drew) rfl;refine Go.wp_region_noPanic ?_;refine wp_region_held_drew (S:=(fun w'=>w'.cell? ⟨gr,o+k * 8,Ab⟩=Ac (J U r.id)/\w'.cell? ⟨gr,o+k * 8+1,Ab⟩=Ac (J U r.plan.prio)/\w'.cell? ⟨gr,o+k * 8+2,Ab⟩=Ac (J U r.plan.most)/\w'.cell? ⟨gr,o+k * 8+3,Ab⟩=Ac (J U r.plan.wait)/\w'.cell? ⟨gr,o+k * 8+4,Ab⟩=Ac (J U r.plan.tasks)/\w'.cell? ⟨gr,o+k * 8+5,Ab⟩=Ac (Aa s1.a s1.n s1.c)/\w'.cell? ⟨gr,o+k * 8+6,Ab⟩=Ac (J U r.state)/\w'.cell? ⟨gr,o+k * 8+7,Ab⟩=Ac (Aa (Ac ⟨b,o2,Ab⟩) r.tasks.length c2))) Bm (HS.out _ (Br _ _).drew) (fun hHeld=>?_);clear F3_ eA HS;generalize wr.drew=w5 at *
   refine tY 0 ?_
   (try simp only [pS])
   refine tY 1 ?_
   (try simp only [pS])
   refine tV 2 ?_
   (try simp only [pS])
   refine tY 5 ?_
   (try simp only [pS])
   refine tY 6 ?_
   (try simp only [pS])
   refine tY 7 ?_
   (try simp only [pS])
   refine tV 8 ?_
   (try simp only [pS])
   refine tY 9 ?_
   (try simp only [pS])
   have CT:=Bq (Ig ⟨r.id,r.plan,r.state,I4 r u⟩ (s1,⟨Ac ⟨b,o2,Ab⟩,r.tasks.length,c2⟩) 4 w5 (by show (I4 r u).length<=_;omega) (Ce.ow_rd F4_.here));refine rC 3 (fun K_ hK=>?_);go_simp;refine CT.out.mono ?_;rintro e w6 ⟨v6,rfl,o6,b6⟩;obtain ⟨A6,c6,rfl,-⟩:=_root_.id (Rd.of_own o6);rw [Sc];have sV:=dD.trans (Chg.of_below (gr :: (F1 ++ [b])) b6);have F6_:Foc Ce w6 gr o n c rs k G1 (F1 ++ [b]) G2 ⟨r.id,r.plan,r.state,I4 r u⟩ (s1,⟨Ac ⟨b,o2,Ab⟩,r.tasks.length,c2⟩):=F4_.sub (Chg.of_below _ b6) (Ce.ow_below F4_.here b6) rfl;refine hK.out _ _ F6_.run (fun hHeld=>?_);clear hK K_ dD F4_ CT o6 b6
   (try simp only [pS])
   refine rC 4 (fun K_ hK=>?_);go_simp;refine hK.out _ _ hHeld (fun hHeld=>?_);clear hK K_
   (try simp only [pS])
   refine rC 10 (fun K_ hK=>?_);go_simp;refine hK.out _ _ hHeld (fun hHeld=>?_);clear hK K_
   (try simp only [pS])
   refine Al Bm ?_ _;refine NoPanic.normal ?_;clear hHeld;by_cases hq:Dv (I4 r u) 4=r.tasks.length
   ·have hqI:((Dv (I4 r u) 4:Int) == (r.tasks.length:Int))=true:=by simp [hq]
    have H:=Bq (show Ji r u=⟨r.id,r.plan,2,I4 r u⟩ by unfold Ji;rw [HST.out,if_pos hq]);have g6:w6.cell? ⟨gr,o+k * 8+6,Ab⟩=Ac (J U r.state):=F6_.cells 6 _ rfl;have gf:=F6_.free;have hgr6:=F6_.blk;obtain ⟨F7_,gC⟩:=F6_.put (y:=⟨r.id,r.plan,2,I4 r u⟩) 6 [J U 2] (show 6+1<=8 by omega) (fun i hi=>by simp at hi;subst hi;rfl) (fun i hi ho=>by
     have:i<8:=hi;rcases (show i=0\/i=1\/i=2\/i=3\/i=4\/i=5\/i=7 by simp at ho;omega) with rfl | rfl | rfl | rfl | rfl | rfl | rfl<;>rfl) (fun W h=>h)
    have HF:=Bq (show Ie gr o n c rs k G1 (F1 ++ [b]) G2 (Ji r u) (s1,⟨Ac ⟨b,o2,Ab⟩,r.tasks.length,c2⟩) w (.returned (.tuple #[])) (w6.setCell ⟨gr,o+k * 8+6,Ab⟩ (J U 2)) from
     ⟨rfl,by rw [H.out];exact F7_,sV.trans (gC.blk Bn)⟩)
    clear F7_ gC F6_ hq;go_wp2;exact Aj (v:=.tuple #[]) (by simp [results,results189,go_sem]) rfl HF.out
   ·have hqI:((Dv (I4 r u) 4:Int) == (r.tasks.length:Int))=false:=beq_eq_false_iff_ne.2 Bl;have H:=Bq (show Ji r u=⟨r.id,r.plan,r.state,I4 r u⟩ by unfold Ji;rw [HST.out,if_neg hq]);have HF:=Bq (show Ie gr o n c rs k G1 (F1 ++ [b]) G2 (Ji r u) (s1,⟨Ac ⟨b,o2,Ab⟩,r.tasks.length,c2⟩) w (.returned (.tuple #[])) w6 from ⟨rfl,by rw [H.out];exact F6_,sV⟩);clear F6_ hq;go_wp2;exact Aj (v:=.tuple #[]) (by simp [results,results189,go_sem]) rfl HF.out
theorem Nq (r:Run) (t:Nat) (now:Int):(Ee r t now).tasks.length=r.tasks.length:=by
 simp [Ee,Of]
theorem Adq (r:Run) (t:Nat) (now:Int) (h:t<r.tasks.length):((Ee r t now).tasks[t]'(by rw [Nq];exact h)).try_=r.tasks[t].try_+1:=by
 unfold Ee;simp only [Lf h,List.getElem_set_self]
def Tq (o:Yard×Reply) (w:World) (e:Ending) (w':World):Prop :=
 ∃ (s:Sl×Sl) (F:List Nat),e = .returned (.tuple #[Dm o.1 s,Aha o.2 ()])/\Bv.ow w' F o.1 s/\(∀ b∈F,w<=b)/\Below w w w'
theorem Q3 {b c:Nat} {w:World} {u0 u1 u2 u3 v0 v1 v2 v3:Value} (X:DBox b [u0,u1,u2,u3] w) (Y:DBox c [v0,v1,v2,v3] w) {x0 x1 x2 x3 x4 x5:Value} {rest:List Value} :
  (results Tryz.f124 (x0 :: x1 :: x2 :: x3 :: x4 :: x5 :: .pointer (Ac ⟨b,0,Ab⟩) :: .pointer (Ac ⟨c,0,Ab⟩) :: rest).toArray).run Am w = .ok (.tuple #[.agg #[u0,u1,u2,u3],.agg #[v0,v1,v2,v3]]) w:=by
 have c0:=X.cell 0 _ rfl;have c1:=X.cell 1 _ rfl;have c2:=X.cell 2 _ rfl;have c3:=X.cell 3 _ rfl;have d0:=Y.cell 0 _ rfl;have d1:=Y.cell 1 _ rfl;have d2:=Y.cell 2 _ rfl;have d3:=Y.cell 3 _ rfl;simp [results,results124,go_sem,c0,c1,c2,c3,d0,d1,d2,d3]
theorem Chg.cells4 (w:World) (b i j k l:Nat) (u0 u1 u2 u3:Value):Chg [b] w ((((w.setCell ⟨b,i,Ab⟩ u0).setCell ⟨b,j,Ab⟩ u1).setCell ⟨b,k,Ab⟩ u2).setCell ⟨b,l,Ab⟩ u3) :=
 (((Chg.setCell w b i u0).trans (Chg.setCell _ b j u1)).trans (Chg.setCell _ b k u2)).trans (Chg.setCell _ b l u3)
theorem OwL.block_mem {α:Type} {d:Dt α} {w:World} {F:List Nat} {b o n c:Nat} {l:List α} (h:OwL d w F (Aa (Ac ⟨b,o,Ab⟩) n c) l) (hp:0<l.length):b∈F:=by
 obtain ⟨_,_,_,_,_,hb,_⟩:=h.elem hp;exact hb
abbrev Gv (y:Yard) (s:Sl×Sl):List Value:=[.int .i64 y.now,.int .i64 y.seq,.slice s.1.a s.1.n s.1.c,.slice s.2.a s.2.n s.2.c]
theorem Zj (y:Yard) (s:Sl×Sl) (worker:Int) (d:Nat) (w:World) (hl:Ca y<=2000000) (hd:d<=1000000000) (h:Bv.rd w w y s) :
  Calls Am 124 #[Dm y s,J U worker,J U (d:Int)] w (Tq (I5 y worker d) w):=by
 have HR:=Bq (show ∀ W,Below w w W->Bv.rd W W y s from fun W hW=>Bv.rd_more (Bv.rd_below h hW) hW.size);obtain ⟨⟨A1,n1,c1⟩,⟨A2,n2,c2⟩⟩:=s;have CC:=Bq (fun W hW=>El y (⟨A1,n1,c1⟩,⟨A2,n2,c2⟩) W hl (HR.out W hW));have CY:=Bq (fun W hW=>Fz y (⟨A1,n1,c1⟩,⟨A2,n2,c2⟩) W hl (HR.out W hW));clear h;obtain ⟨W,aH,X,RES,RP,B0⟩:=bx3 w 27 [J U y.now,J U y.seq,Aa A1 n1 c1,Aa A2 n2 c2] 27 [J U 0,J U 0,Aa Ab 0 0,Aa Ab 0 0] 40 [J U 0,J U 0,J U 0,J U 0];go_enter func124,ntmps124;go_wp2_with fail
 rw [<-aH.out];clear aH;have hPl:w.heap.size+1+1<W.heap.size:=RP.lt;refine (CY.out _ B0).mono ?_;rintro e1 w1 ⟨rfl,b1⟩;replace X:=X.below b1;replace RES:=RES.below b1;replace RP:=RP.below b1;have X_:=X.g4;obtain ⟨RES_0,RES_1,RES_2,RES_3,RES_l⟩:=RES.g4;obtain ⟨RP_0,RP_1,RP_2,RP_3,RP_l⟩:=RP.g4;have aJ:=Bu B0 b1;have hBs:=B0.size;have mX:=b1.size;clear B0 b1 CY;by_cases p0:Dh y;case neg =>
  have H:=Bq (show I5 y worker d=(y,⟨8,0,0,0⟩) from if_pos p0);rw [Ci p0];clear p0;clear RES_0 RES_1 RES_2 RES_3 RES_l;clear RP_0 RP_1 RP_2 RP_3 RP_l;go_wp2_with fail
  refine (CC.out _ aJ).mono ?_;rintro e1 w2 ⟨⟨⟨B1,m1,e1⟩,⟨B2,m2,e2⟩⟩,F,rfl,oy,nF,b2⟩;replace RES:=RES.below b2;replace RP:=RP.below b2;obtain ⟨RES_0,RES_1,RES_2,RES_3,RES_l⟩:=RES.g4;obtain ⟨RP_0,RP_1,RP_2,RP_3,RP_l⟩:=RP.g4;have rf:=RES.free;have pf:=RP.free;have aG:=Bu aJ b2;go_wp2;have en1:w.heap.size+1∉F:=fun hx=>by have:=nF _ hx;omega
  have en2:w.heap.size+1+1∉F:=fun hx=>by have:=nF _ hx;omega
  have aC:w.heap.size+1+1≠w.heap.size+1:=Bl;have RES2:=DBox.row4 RES rfl (J U y.now) (J U y.seq) (Aa B1 m1 e1) (Aa B2 m2 e2);have RP2:=DBox.row4 ((((RP.setOther (a:=⟨w+1,0,Ab⟩) aC (J U y.now)).setOther (a:=⟨w+1,1,Ab⟩) aC (J U y.seq)).setOther (a:=⟨w+1,2,Ab⟩) aC (Aa B1 m1 e1)).setOther (a:=⟨w+1,3,Ab⟩) aC (Aa B2 m2 e2)) rfl (J U 8) (J U 0) (J U 0) (J U 0);have RES3:=(((RES2.setOther (a:=⟨w+1+1,0,Ab⟩) aC.symm (J U 8)).setOther (a:=⟨w+1+1,1,Ab⟩) aC.symm (J U 0)).setOther (a:=⟨w+1+1,2,Ab⟩) aC.symm (J U 0)).setOther (a:=⟨w+1+1,3,Ab⟩) aC.symm (J U 0);refine Aj (Q3 RES3 RP2) rfl ⟨(⟨B1,m1,e1⟩,⟨B2,m2,e2⟩),F,by rw [H.out],by rw [H.out];exact (by (repeat (refine Dt.ow_set Bv ?_ (by first | exact en1 | exact en2) _));exact (show Bv.ow _ F y (⟨B1,m1,e1⟩,⟨B2,m2,e2⟩) from oy)),fun x hx=>by have:=nF x hx;omega,?_⟩;repeat (first | (with_reducible exact aG) | refine Ad ?_ Bo _)
 rw [Dp p0];cases p1:inB worker 0 99;case false =>
  have H:=Bq (show I5 y worker d=(y,⟨5,0,0,0⟩) by unfold I5;rw [if_neg (fun h=>h p0),if_pos p1]);clear p0;clear RES_0 RES_1 RES_2 RES_3 RES_l;clear RP_0 RP_1 RP_2 RP_3 RP_l;go_wp2_with (go_at_call 63;refine (Cg _ _ _ _).mono ?_;rintro e w9 ⟨rfl,rfl⟩;rw [p1])
  refine (CC.out _ aJ).mono ?_;rintro e1 w2 ⟨⟨⟨B1,m1,e1⟩,⟨B2,m2,e2⟩⟩,F,rfl,oy,nF,b2⟩;replace RES:=RES.below b2;replace RP:=RP.below b2;obtain ⟨RES_0,RES_1,RES_2,RES_3,RES_l⟩:=RES.g4;obtain ⟨RP_0,RP_1,RP_2,RP_3,RP_l⟩:=RP.g4;have rf:=RES.free;have pf:=RP.free;have aG:=Bu aJ b2;go_wp2;have en1:w.heap.size+1∉F:=fun hx=>by have:=nF _ hx;omega
  have en2:w.heap.size+1+1∉F:=fun hx=>by have:=nF _ hx;omega
  have aC:w.heap.size+1+1≠w.heap.size+1:=Bl;have RES2:=DBox.row4 RES rfl (J U y.now) (J U y.seq) (Aa B1 m1 e1) (Aa B2 m2 e2);have RP2:=DBox.row4 ((((RP.setOther (a:=⟨w+1,0,Ab⟩) aC (J U y.now)).setOther (a:=⟨w+1,1,Ab⟩) aC (J U y.seq)).setOther (a:=⟨w+1,2,Ab⟩) aC (Aa B1 m1 e1)).setOther (a:=⟨w+1,3,Ab⟩) aC (Aa B2 m2 e2)) rfl (J U 5) (J U 0) (J U 0) (J U 0);have RES3:=(((RES2.setOther (a:=⟨w+1+1,0,Ab⟩) aC.symm (J U 5)).setOther (a:=⟨w+1+1,1,Ab⟩) aC.symm (J U 0)).setOther (a:=⟨w+1+1,2,Ab⟩) aC.symm (J U 0)).setOther (a:=⟨w+1+1,3,Ab⟩) aC.symm (J U 0);refine Aj (Q3 RES3 RP2) rfl ⟨(⟨B1,m1,e1⟩,⟨B2,m2,e2⟩),F,by rw [H.out],by rw [H.out];exact (by (repeat (refine Dt.ow_set Bv ?_ (by first | exact en1 | exact en2) _));exact (show Bv.ow _ F y (⟨B1,m1,e1⟩,⟨B2,m2,e2⟩) from oy)),fun x hx=>by have:=nF x hx;omega,?_⟩;repeat (first | (with_reducible exact aG) | refine Ad ?_ Bo _)
 have pp:=Cw.1 p1;have HP:=Bq p0;obtain ⟨wk,rfl⟩:=Ap pp.1;have hm:((wk:Int).tmod 4)=((wk % 4:Nat):Int):=by rw [Int.tmod_eq_emod_of_nonneg Bl];omega
 have hmw:U.wrap ((wk % 4:Nat):Int)=((wk % 4:Nat):Int):=Aq _ Bl;have pR:(wk:Int) % 4=((wk % 4:Nat):Int):=Bl;have hh:=Nat.mod_lt wk (show 0<4 by decide);have H:=Bq (show I5 y wk d=N1 (Lz y ((wk % 4:Nat):Int) d) (wk % 4) by unfold I5;rw [if_neg (fun h=>h p0),if_neg (by rw [p1];simp),pR,Ao]);have bH:=Pol.start p0 hh;have h4:=p0.2.2.1;clear p0 pp pR;generalize wk % 4=home at *
 have CS:=Bq (fun W hW=>Pu y (⟨A1,n1,c1⟩,⟨A2,n2,c2⟩) home W Bl hl (HR.out W hW));have CV:=Bq (fun W=>Tg home d W hh hd);have HG:Hid (Lz y (home:Int) d=(Er home d).foldl (Es home) (Cb y home)):=by
  show Lz y (home:Int) d=_;unfold Lz;rw [Ao]
 clear RES_0 RES_1 RES_2 RES_3 RES_l;clear RP_0 RP_1 RP_2 RP_3 RP_l;go_wp2_with (go_at_call 63;refine (Cg _ _ _ _).mono ?_;rintro e w9 ⟨rfl,rfl⟩;rw [p1])
 refine (CS.out _ aJ).mono ?_;rintro e1 w2 ⟨s2,F,rfl,oy,nF,b2⟩;clear X_;clear X CC HR CS;replace RES:=RES.below b2;replace RP:=RP.below b2;have aG:=Bu aJ b2;have hb2s:=b2.size;clear aJ b2 hm hmw;have cE:=Bv.ow_lt oy;have mI:Hid (Cb y home=Cb y home):=rfl;go_upto_region 7 with fail
 have OB:=DBox.new 27 (Gv (Cb y home) s2) w2 (b:=w2) rfl;have b3:Below w2 w2 (w2.alloc (.cells (Gv (Cb y home) s2).toArray 27)):=Bt;replace RES:=RES.below b3;replace RP:=RP.below b3;replace oy:=Bv.ow_below oy b3;have cD:=Bu aG b3;have hb3s:=b3.size;have kB:=OB.lt;have hPl2:w.heap.size+1+1<w2.heap.size:=Bl;generalize w2.alloc (.cells (Gv (Cb y home) s2).toArray 27)=w3 at *
 go_wp2_with fail
 refine (CV.out _).mono ?_;rintro e1 w4 ⟨v,rfl,ov,b4⟩;replace RES:=RES.below b4;replace RP:=RP.below b4;replace OB:=OB.below b4;replace oy:=Bv.ow_below oy b4;have bY:=Bu cD b4;obtain ⟨fR,rS⟩:=Hw.of_ow ov;obtain ⟨A9,c9,rfl,-⟩:=id (Rd.of_own ov);have rR:=Sj home d;have pC:=Bq (Qd (home:=(home:Int)) (draw:=d));have nQ:=Bq (show ∀ v∈Er home d,v≠home from fun v hv=>by have:=Qe (home:=(home:Int)) (draw:=d) Bl Bl v hv;omega);have cW:w2.heap.size<w3.heap.size:=kB;have aC:∀ x∈Ek (Aa A9 (Er home d).length c9) (Er home d).length,x∉F/\w2<x:=fun x hx=>⟨fun hF=>by have h1:=rS x hx;have h2:=cE x hF;omega,by have:=rS x hx;omega⟩
 have gB:(∀ x∈F,w+1+1<x)/\w2.heap.size∉F:=⟨fun x hx=>by have:=nF x hx;omega,fun hx=>by have:=cE _ hx;omega⟩
 generalize Ek (Aa A9 (Er home d).length c9) (Er home d).length=Fv at *
 generalize Er home d=L at *
 rw [rR] at fR;rw [rR];generalize Cb y home=Z0 at *
 have hw2:w.heap.size+1+1<w2.heap.size:=hPl2;generalize w2.heap.size=ob at *
 clear cE nF rS;go_wp2;go_loopw [11,12,13] (fun i u1 u2 wr=>∃ (k:Nat) (s:Sl×Sl) (F:List Nat),k<=3/\i = J U k/\Hid (Pol y home ((L.take k).foldl (Es home) Z0))/\Hid (Bv.ow wr F ((L.take k).foldl (Es home) Z0) s)/\Hid ((∀ x∈F,w+1+1<x)/\ob∉F /\ ∀ x∈Fv,x∉F)/\Hid (Hw Eu wr Fv (Aa A9 3 c9) L)/\DBox ob (Gv ((L.take k).foldl (Es home) Z0) s) wr/\DBox (w+1) [J U 0,J U 0,Aa Ab 0 0,Aa Ab 0 0] wr/\DBox (w+1+1) [J U 0,J U 0,J U 0,J U 0] wr/\Below w w wr) (fun i _ _ _=>3 - (intOf i).toNat);case atStart=>exact ⟨0,s2,F,Ag _,rfl,bH,oy,⟨gB.1,gB.2,fun x hx=>(aC x hx).1⟩,fR,OB,RES,RP,bY⟩
 case round =>
  have rX:∀ x∈Fv,ob<x:=fun x hx=>(aC x hx).2;clear bH oy gB fR OB RES RP bY aC ov b4;obtain ⟨k,s,F,hk,rfl,bH,oy,hF,fR,OB,RES,RP,hb⟩:=hrel;have aE:Hid (∀ h:k<L.length,(L.take (k+1)).foldl (Es home) Z0=Es home ((L.take k).foldl (Es home) Z0) L[k]):=fun h=>Kq (Es home) Z0 L k h;have dR:Hid ((k=3 \/ ¬ (((L.take k).foldl (Es home) Z0).shelf.getD home []).length=0)->L.foldl (Es home) Z0=(L.take k).foldl (Es home) Z0):=by
   intro h;rcases h with h | h
   ·rw [Bg Bl]
   ·have e:L.foldl (Es home) Z0=(L.drop k).foldl (Es home) ((L.take k).foldl (Es home) Z0):=by
     rw [<-List.foldl_append,List.take_append_drop]
    rw [e];exact Mp _ _ h
  generalize (L.take k).foldl (Es home) Z0=Zk at *
  obtain ⟨⟨B1,m1,e1⟩,⟨B2,m2,e2⟩⟩:=s;have rY:=bH.out.four;have oyr:=Bv.ow_rd oy.out;have kY:home<Zk.shelf.length:=Bl;obtain rfl:m1=4:=(RdL.at1 (s:=⟨B1,m1,e1⟩) oyr.1).trans rY;obtain ⟨g,o,⟨xa,xn,xc⟩,rfl,fX,fB,ch⟩:=RdL.entryS (show RdL (Dt.list Bx) wr wr.heap.size (Aa B1 4 e1) Zk.shelf from oyr.1) kY;obtain rfl:xn=Zk.shelf[home].length:=RdL.at1 (s:=⟨xa,xn,xc⟩) fB;have hhI:(home:Int)<4:=Bl;have hh0:(0:Int)<=(home:Int):=Bl;have qP:=bH.out.all _ (Aw kY);obtain ⟨OB_0,OB_1,OB_2,OB_3,OB_l⟩:=OB.g4;have dJ:=Bq (Gu kY);have hwrs:=hb.size;have hRPl:=RP.lt;have hobl:=OB.lt;rcases (show (k<3/\Zk.shelf[home].length=0)\/(k<3 /\ ¬ Zk.shelf[home].length=0) \/ ¬ k<3 by by_cases k<3<;>by_cases Zk.shelf[home].length=0<;>simp [*]) with ⟨aA,hq⟩ | ⟨aA,hq⟩ | aA
  ·have aB:(k:Int)<3:=Bl
   ·have qU:((Zk.shelf[home].length:Int) == 0)=true:=by simp [hq]
    have nB:k<L.length:=Bl;have hv4:L[k]<4:=pC.out _ (Aw nB);have jP:L[k]≠home:=nQ.out _ (Aw nB);obtain ⟨gv,ov,rfl,hgv,cv⟩:=fR.out.rd.nat nB;replace aE:=Bq (aE.out nB);have bJ:=fR.out.block Bl;generalize L[k]=v at *
    have hP1:Hid (Pol y home (Ks home Zk v)):=by
     have h1:=bH.out.step hh hv4 jP;rw [M7 (by rw [dJ.out];exact hq) jP] at h1;exact h1
    replace aE:=Bq (aE.out.trans (M7 (by rw [dJ.out];exact hq) jP));have hE0:=Bq (show (Cb Zk v).shelf.getD home []=[] by rw [Rr jP,dJ.out];exact List.eq_nil_of_length_eq_zero hq);have rZ:=fR.out.lt;have hvI:(v:Int)<4:=Bl;have hv0:(0:Int)<=(v:Int):=Bl;have cL:(0:Int)<=(k:Int):=Bl;have hzc:=bH.out.cnt HP.out;have CS:=Bq (Pu Zk (⟨Ac ⟨g,o,Ab⟩,4,e1⟩,⟨B2,m2,e2⟩) v wr.drew Bl hzc (Bv.rd_below oyr (Br _ _).drew));clear hq;go_wp2;refine Db (fun w'=>w'.cell? ⟨ob,0,Ab⟩=Ac (J U Zk.now)/\w'.cell? ⟨ob,1,Ab⟩=Ac (J U Zk.seq)/\w'.cell? ⟨ob,2,Ab⟩=Ac (Aa (Ac ⟨g,o,Ab⟩) 4 e1)/\w'.cell? ⟨ob,3,Ab⟩=Ac (Aa B2 m2 e2)/\w'.cell? ⟨gv,ov+k,Ab⟩=Ac (J U (v:Int))) 6 Bm ?_ (fun hHeld=>?_)
    ·exact ⟨OB_0,OB_1,OB_2,OB_3,cv⟩
    refine aT 0 hHeld ?_;try simp only [pS]
    refine aT 1 hHeld ?_;try simp only [pS]
    refine aT 2 hHeld ?_;try simp only [pS]
    refine aT 3 hHeld ?_;try simp only [pS]
    refine aT 4 hHeld ?_;try simp only [pS]
    refine oT 5 (fun K hK=>?_)
    (go_simp;refine CS.out.mono ?_;rintro e w2 ⟨⟨⟨C1,p1,f1⟩,⟨C2,p2,f2⟩⟩,F2,rfl,oy2,n2,b2⟩;have OB2:=OB.below (Bu (Br _ _).drew b2);have k0:=OB2.cell 0 _ rfl;have k1:=OB2.cell 1 _ rfl;have k2:=OB2.cell 2 _ rfl;have k3:=OB2.cell 3 _ rfl;have kf:=OB2.free;have kl:=OB2.lt)
    refine hK.out _ _ (fun _=>?_) ?_
    ·exact ⟨(b2.cell (p:=⟨_,_,Ab⟩) (by show ob<wr;omega)).trans OB_0,(b2.cell (p:=⟨_,_,Ab⟩) (by show ob<wr;omega)).trans OB_1,(b2.cell (p:=⟨_,_,Ab⟩) (by show ob<wr;omega)).trans OB_2,(b2.cell (p:=⟨_,_,Ab⟩) (by show ob<wr;omega)).trans OB_3,(b2.cell (p:=⟨_,_,Ab⟩) (by show gv<wr;omega)).trans cv⟩
    clear hK K;try simp only [pS]
    refine oT 6 (fun K hK=>?_);go_simp;refine hK.out _ _ (fun aC=>absurd rfl aC) ?_;clear hK K;try simp only [pS]
    refine D6 Bm ?_ _;have b2':Below wr wr w2:=Bu (Br _ _).drew b2;clear k0 k1 k2 k3 kf kl hHeld;have OB3:=DBox.row4 OB2 rfl (J U (Cb Zk v).now) (J U (Cb Zk v).seq) (Aa C1 p1 f1) (Aa C2 p2 f2);have eA:=Chg.cells4 w2 ob 0 1 2 3 (J U (Cb Zk v).now) (J U (Cb Zk v).seq) (Aa C1 p1 f1) (Aa C2 p2 f2);have eT:=Bq (show ∀ x,x∈[ob]->x=ob from fun x hx=>by simpa using hx);have RES3:=(RES.below b2').chg eA (fun hx=>by have:=eT.out _ hx;omega);have RP3:=(RP.below b2').chg eA (fun hx=>by have:=eT.out _ hx;omega);have dZ:=(fR.out.below b2').chg eA (fun x hx hx2=>by have h1:=eT.out _ hx2;have h2:=rX x hx;omega);have eZ:ob∉F2:=fun hx=>by have h1:=n2 _ hx;have h2:wr.drew.heap.size=wr.heap.size:=rfl;have h3:=OB_l;omega
    have oy3:=Bv.ow_chg oy2 eA (fun x hx hx2=>by have:=eT.out _ hx2;subst this;exact eZ hx);have cD:Below w w _:=(Bu hb b2').trans (eA.below (by have:=b2'.size;omega) (fun x hx=>by have:=eT.out _ hx;omega));have fY:∀ x∈F2,wr<=x:=n2;have eV:=b2'.size;have kI:=eA.size;replace cv:=(eA.cell (p:=⟨gv,_,Ab⟩) (by show gv<w2;omega) (fun hx=>by have h1:gv=ob:=eT.out _ hx;have h2:=rX gv (by rw [bJ.1];simp);omega)).trans ((b2'.cell (p:=⟨gv,_,Ab⟩) (by show gv<wr;omega)).trans cv);have nH:∀ x∈F2,w+1+1<x:=fun x hx=>by have h1:=fY x hx;have h2:=RP.lt;omega
    clear OB_0 OB_1 OB_2 OB_3 OB_l;clear OB RES RP fR oy oy2 n2 b2 b2' hb OB2 oyr fB ch hF CS;generalize (((w2.setCell ⟨ob,0,Ab⟩ (J U (Cb Zk v).now)).setCell ⟨ob,1,Ab⟩ (J U (Cb Zk v).seq)).setCell ⟨ob,2,Ab⟩ (Aa C1 p1 f1)).setCell ⟨ob,3,Ab⟩ (Aa C2 p2 f2)=w3 at *
    have OB:=OB3;clear OB3;obtain ⟨OB_0,OB_1,OB_2,OB_3,OB_l⟩:=OB.g4;have h41:(Cb Zk v).shelf.length=4:=by rw [M6];exact rY
    have oyr3:=Bv.ow_rd (F:=F2) (x:=Cb Zk v) oy3;obtain rfl:p1=4:=(RdL.at1 (s:=⟨C1,p1,f1⟩) oyr3.1).trans h41;have jC:v<(Cb Zk v).shelf.length:=Bl;obtain ⟨g2,o2,⟨va,vn,vc⟩,rfl,kT,uY,cv2⟩:=RdL.entryS (show RdL (Dt.list Bx) w3 w3.heap.size (Aa C1 4 f1) (Cb Zk v).shelf from oyr3.1) jC;have jY:=Oz (i:=v) bH.out.all;have gU:=jY _ (Aw jC);have CH:=Bq (Y5 (Cb Zk v).shelf[v] ⟨va,vn,vc⟩ w3.drew Bl (RdL.below uY (Br _ _).drew));have hgvw:gv<w3:=Bl;go_wp2;refine Go.wp_region_noPanic ?_;refine wp_region_held_drew (S:=(fun w'=>w'.cell? ⟨ob,2,Ab⟩=Ac (Aa (Ac ⟨g2,o2,Ab⟩) 4 f1)/\w'.cell? ⟨gv,ov+k,Ab⟩=Ac (J U (v:Int))/\w'.cell? ⟨g2,o2+v,Ab⟩=Ac (Aa va vn vc))) Bm ⟨OB_2,cv,cv2⟩ (fun hHeld=>?_);refine tY 0 ?_
    (try simp only [pS])
    refine tY 1 ?_
    (try simp only [pS])
    refine tY 2 ?_
    (try simp only [pS])
    refine tY 3 ?_
    (try simp only [pS])
    refine tY 4 ?_
    (try simp only [pS])
    refine tY 5 ?_
    (try simp only [pS])
    refine tY 6 ?_
    (try simp only [pS])
    refine tY 7 ?_
    (try simp only [pS])
    refine rC 8 (fun K_ hK=>?_);go_simp;refine CH.out.mono ?_;rintro e w4 ⟨⟨qa1,qn1,qc1⟩,Fh1,⟨qa2,qn2,qc2⟩,Fh2,rfl,oh1,oh2,nh1,nh2,dh,b4⟩;refine hK.out _ _ ⟨(b4.cell (p:=⟨_,_,Ab⟩) (by show ob<w3;omega)).trans OB_2,(b4.cell (p:=⟨_,_,Ab⟩) (by show gv<w3;omega)).trans cv,(b4.cell (p:=⟨_,_,Ab⟩) (by show g2<w3;omega)).trans cv2⟩ (fun hHeld=>?_);clear hK K_
    (try simp only [pS])
    refine tY 9 ?_
    (try simp only [pS])
    refine tY 10 ?_
    (try simp only [pS])
    refine tY 11 ?_
    (try simp only [pS])
    refine tY 12 ?_
    (try simp only [pS])
    refine tY 13 ?_
    (try simp only [pS])
    refine Al Bm ?_ _;refine NoPanic.normal ?_;have b4':Below w3 w3 w4:=Bu (Br _ _).drew b4;have mR:=b4'.size;have hnh1:∀ x∈Fh1,w3<=x:=nh1;have mA:∀ x∈Fh2,w3<=x:=nh2;replace oy3:Bv.ow w3 F2 (Cb Zk v) (⟨Ac ⟨g2,o2,Ab⟩,4,f1⟩,⟨C2,p2,f2⟩):=oy3;have hfl2:=Bv.ow_lt (F:=F2) (x:=Cb Zk v) (s:=(⟨Ac ⟨g2,o2,Ab⟩,4,f1⟩,⟨C2,p2,f2⟩)) oy3;clear OB_0 OB_1 OB_2 OB_3 OB_l;replace OB:=OB.below b4';replace RES3:=RES3.below b4';replace RP3:=RP3.below b4';replace dZ:=dZ.below b4';replace oy3:Bv.ow w4 F2 (Cb Zk v) (⟨Ac ⟨g2,o2,Ab⟩,4,f1⟩,⟨C2,p2,f2⟩):=owB oy3 b4';replace cD:=Bu cD b4';replace cv:=(b4'.cell (p:=⟨gv,_,Ab⟩) (by show gv<w3;omega)).trans cv;replace cv2:=(b4'.cell (p:=⟨g2,_,Ab⟩) (by show g2<w3;omega)).trans cv2;clear nh1 nh2 b4 b4' hHeld CH oyr3 uY;obtain ⟨OB_0,OB_1,OB_2,OB_3,OB_l⟩:=OB.g4;have kD:∀ j,w4.frozen? ⟨g2,j,Ab⟩=false:=by
     obtain ⟨G1,G2,_,_,os,_⟩:=oy3;exact OwL.free0 (show OwL (Dt.list Bx) w4 G1 (Aa (Ac ⟨g2,o2,Ab⟩) 4 f1) (Cb Zk v).shelf from os) Bl
    have kZ:g2<w4:=Bl;have hgvw4:gv<w4:=Bl;go_wp2;refine Db (fun w'=>w'.cell? ⟨ob,2,Ab⟩=Ac (Aa (Ac ⟨g2,o2,Ab⟩) 4 f1)/\w'.cell? ⟨gv,ov+k,Ab⟩=Ac (J U (v:Int))) 8 Bm ?_ (fun hHeld=>?_)
    ·exact ⟨OB_2,cv⟩
    refine aT 0 hHeld ?_;try simp only [pS]
    refine aT 1 hHeld ?_;try simp only [pS]
    refine aT 2 hHeld ?_;try simp only [pS]
    refine aT 3 hHeld ?_;try simp only [pS]
    refine aT 4 hHeld ?_;try simp only [pS]
    refine aT 5 hHeld ?_;try simp only [pS]
    refine aT 6 hHeld ?_;try simp only [pS]
    refine aT 7 hHeld ?_;try simp only [pS]
    refine oT 8 (fun K hK=>?_);go_simp;refine hK.out _ _ (fun aC=>absurd rfl aC) ?_;clear hK K;try simp only [pS]
    refine D6 Bm ?_ _;obtain ⟨F5,oy5,rN,jS⟩:=Gk oy3 jC (l:=(Cb Zk v).shelf[v].drop (Dd (Cb Zk v).shelf[v])) (t:=⟨qa2,qn2,qc2⟩) oh2 (fun x hx bJ=>by have h1:=mA x hx;have h2:=hfl2 x bJ;omega);replace oy5:Bv.ow (w4.setCell ⟨g2,o2+v,Ab⟩ (Aa qa2 qn2 qc2)).drew F5 ⟨(Cb Zk v).now,(Cb Zk v).seq,(Cb Zk v).shelf.set v ((Cb Zk v).shelf[v].drop (Dd (Cb Zk v).shelf[v])),(Cb Zk v).runs⟩ (⟨Ac ⟨g2,o2,Ab⟩,4,f1⟩,⟨C2,p2,f2⟩):=owB oy5 (Br _ _).drew;have cN:Chg [g2] w4 (w4.setCell ⟨g2,o2+v,Ab⟩ (Aa qa2 qn2 qc2)).drew:=(Chg.setCell w4 g2 _ _).drew;have aS:=Bq (show ∀ x,x∈[g2]->x=g2 from fun x hx=>by simpa using hx);have hg2gt:=nH _ jS;have hg2n:=fY _ jS;have eH:ob≠g2:=fun h=>eZ (by rw [h];exact jS);clear OB_0 OB_1 OB_2 OB_3 OB_l;replace OB:=OB.chg cN (fun hx=>eH (aS.out _ hx));replace RES3:=RES3.chg cN (fun hx=>by have:=aS.out _ hx;omega);replace RP3:=RP3.chg cN (fun hx=>by have:=aS.out _ hx;omega);replace dZ:=dZ.chg cN (fun x hx hx2=>by have h1:=aS.out _ hx2;have h2:=rZ x hx;omega);have oh1':=oh1.chg cN (fun x hx hx2=>by have h1:=aS.out _ hx2;have h2:=hnh1 x hx;omega);replace cD:=cD.trans (cN.below (by have:=cD.size;omega) (fun x hx=>by have:=aS.out _ hx;omega));have hfg5:∀ j,(w4.setCell ⟨g2,o2+v,Ab⟩ (Aa qa2 qn2 qc2)).drew.frozen? ⟨g2,j,Ab⟩=false:=fun j=>(Jx w4 _ _ _).trans (kD j);have pT:=cN.size;clear cN hHeld oy3 oh1 oh2 kD cv cv2;generalize (w4.setCell ⟨g2,o2+v,Ab⟩ (Aa qa2 qn2 qc2)).drew=w5 at *
    obtain ⟨OB_0,OB_1,OB_2,OB_3,OB_l⟩:=OB.g4;have h42:((Cb Zk v).shelf.set v ((Cb Zk v).shelf[v].drop (Dd (Cb Zk v).shelf[v]))).length=4:=by rw [Bh];exact h41
    have uI:((Cb Zk v).shelf.set v ((Cb Zk v).shelf[v].drop (Dd (Cb Zk v).shelf[v])))[home]' Bl=[]:=by
     have h1:=hE0.out;rw [Gu Bl] at h1;rw [List.getElem_set_ne jP];exact h1
    have vD:=Bq (show Ks home Zk v=⟨(Cb Zk v).now,(Cb Zk v).seq,((Cb Zk v).shelf.set v ((Cb Zk v).shelf[v].drop (Dd (Cb Zk v).shelf[v]))).set home (Gq [] ((Cb Zk v).shelf[v].take (Dd (Cb Zk v).shelf[v]))),(Cb Zk v).runs⟩ by
     unfold Ks;rw [Gu jC];rfl)
    obtain ⟨_,_,⟨xa2,xn2,xc2⟩,dB,_,jJ,cx⟩:=RdL.entryS (show RdL (Dt.list Bx) w5 w5.heap.size (Aa (Ac ⟨g2,o2,Ab⟩) 4 f1) _ from (Bv.ow_rd oy5).1) (k:=home) (by show home<(List.set _ _ _).length;omega);simp only [Option.some.injEq,Addr.mk.injEq,and_true] at dB;obtain ⟨rfl,rfl⟩:=dB;replace jJ:RdL Bx w5 w5 (Aa xa2 xn2 xc2) (((Cb Zk v).shelf.set v ((Cb Zk v).shelf[v].drop (Dd (Cb Zk v).shelf[v])))[home]' Bl):=jJ;rw [uI] at jJ;obtain rfl:xn2=0:=RdL.at1 (s:=⟨xa2,xn2,xc2⟩) jJ;have eW:((Cb Zk v).shelf[v].take (Dd (Cb Zk v).shelf[v])).length<=80:=Mo _ gU;have CM:=Bq (Vh [] ((Cb Zk v).shelf[v].take (Dd (Cb Zk v).shelf[v])) ⟨xa2,0,xc2⟩ ⟨qa1,qn1,qc1⟩ w5.drew Bn Bl (RdL.below jJ (Br _ _).drew) (RdL.below oh1'.rd (Br _ _).drew));have hobw5:ob<w5:=OB_l;have hg2w5:g2<w5:=Bl;clear uI jJ gU;generalize (Cb Zk v).shelf[v].take (Dd (Cb Zk v).shelf[v])=lt_ at *
    go_wp2;refine Db (fun w'=>w'.cell? ⟨ob,2,Ab⟩=Ac (Aa (Ac ⟨g2,o2,Ab⟩) 4 f1)/\w'.cell? ⟨g2,o2+home,Ab⟩=Ac (Aa xa2 0 xc2)) 11 Bm ?_ (fun hHeld=>?_)
    ·exact ⟨OB_2,cx⟩
    refine aT 0 hHeld ?_;try simp only [pS]
    refine aT 1 hHeld ?_;try simp only [pS]
    refine aT 2 hHeld ?_;try simp only [pS]
    refine aT 3 hHeld ?_;try simp only [pS]
    refine aT 4 hHeld ?_;try simp only [pS]
    refine aT 5 hHeld ?_;try simp only [pS]
    refine aT 6 hHeld ?_;try simp only [pS]
    refine aT 7 hHeld ?_;try simp only [pS]
    refine aT 8 hHeld ?_;try simp only [pS]
    refine oT 9 (fun K hK=>?_)
    (go_simp;refine CM.out.mono ?_;rintro e w6 ⟨⟨ma,mn,mc⟩,Fm,rfl,om,nm,b6⟩;have hgc:w6.cell? ⟨g2,o2+home,Ab⟩=Ac (Aa xa2 0 xc2):=(b6.cell (p:=⟨_,_,Ab⟩) (by show g2<w5;omega)).trans cx;have pZ:∀ j,w6.frozen? ⟨g2,j,Ab⟩=false:=fun j=>(b6.frozen (p:=⟨_,_,Ab⟩) (by show g2<w5;omega)).trans (hfg5 j))
    refine hK.out _ _ (fun _=>?_) ?_
    ·exact ⟨(b6.cell (p:=⟨_,_,Ab⟩) (by show ob<w5;omega)).trans OB_2,(b6.cell (p:=⟨_,_,Ab⟩) (by show g2<w5;omega)).trans cx⟩
    clear hK K;try simp only [pS]
    refine oT 10 (fun K hK=>?_);go_simp;refine hK.out _ _ (fun _=>?_) ?_
    ·exact ⟨(b6.cell (p:=⟨_,_,Ab⟩) (by show ob<w5;omega)).trans OB_2,(b6.cell (p:=⟨_,_,Ab⟩) (by show g2<w5;omega)).trans cx⟩
    clear hK K;try simp only [pS]
    refine oT 11 (fun K hK=>?_);go_simp;refine hK.out _ _ (fun aC=>absurd rfl aC) ?_;clear hK K;try simp only [pS]
    refine D6 Bm ?_ _;have b6':Below w5 w5 w6:=Bu (Br _ _).drew b6;have pP:=b6'.size;have tF:∀ x∈Fm,w5<=x:=nm;replace oy5:Bv.ow w5 F5 ⟨(Cb Zk v).now,(Cb Zk v).seq,(Cb Zk v).shelf.set v ((Cb Zk v).shelf[v].drop (Dd (Cb Zk v).shelf[v])),(Cb Zk v).runs⟩ (⟨Ac ⟨g2,o2,Ab⟩,4,f1⟩,⟨C2,p2,f2⟩):=oy5;have hfl5:=Bv.ow_lt (F:=F5) (x:=⟨(Cb Zk v).now,(Cb Zk v).seq,(Cb Zk v).shelf.set v ((Cb Zk v).shelf[v].drop (Dd (Cb Zk v).shelf[v])),(Cb Zk v).runs⟩) (s:=(⟨Ac ⟨g2,o2,Ab⟩,4,f1⟩,⟨C2,p2,f2⟩)) oy5;have oy6:=Bv.ow_below (F:=F5) (x:=⟨(Cb Zk v).now,(Cb Zk v).seq,(Cb Zk v).shelf.set v ((Cb Zk v).shelf[v].drop (Dd (Cb Zk v).shelf[v])),(Cb Zk v).runs⟩) (s:=(⟨Ac ⟨g2,o2,Ab⟩,4,f1⟩,⟨C2,p2,f2⟩)) oy5 b6';obtain ⟨F7,oy7,mE,hg2F5⟩:=Gk oy6 (i:=home) (by show home<(List.set _ _ _).length;omega) (l:=Gq [] lt_) (t:=⟨ma,mn,mc⟩) om (fun x hx bJ=>by have h1:=tF x hx;have h2:=hfl5 x bJ;omega);have gC:Chg [g2] w6 (w6.setCell ⟨g2,o2+home,Ab⟩ (Aa ma mn mc)):=Chg.setCell w6 g2 _ _;clear OB_0 OB_1 OB_2 OB_3 OB_l;replace OB:=(OB.below b6').chg gC (fun hx=>eH (aS.out _ hx));replace RES3:=(RES3.below b6').chg gC (fun hx=>by have:=aS.out _ hx;omega);replace RP3:=(RP3.below b6').chg gC (fun hx=>by have:=aS.out _ hx;omega);replace dZ:=(dZ.below b6').chg gC (fun x hx hx2=>by have h1:=aS.out _ hx2;have h2:=rZ x hx;omega);replace cD:=(Bu cD b6').trans (gC.below (by have:=(Bu cD b6').size;omega) (fun x hx=>by have:=aS.out _ hx;omega));have jT:∀ x∈F7,x∈F2\/w3<=x:=fun x hx=>by
     rcases mE x hx with h | h
     ·rcases rN x h with h' | h'
      ·exact .inl h'
      ·exact .inr (mA x h')
     ·right;have:=tF x h;omega
    clear hHeld oy5 oy6 b6 b6' nm om gC CM cx;generalize w6.setCell ⟨g2,o2+home,Ab⟩ (Aa ma mn mc)=w7 at *
    go_wp2;exact ⟨⟨k+1,(⟨Ac ⟨g2,o2,Ab⟩,4,f1⟩,⟨C2,p2,f2⟩),F7,Bl,by go_num,by rw [aE.out];exact hP1,by rw [aE.out,vD.out];exact oy7,⟨fun x hx=>by (rcases jT x hx with h | h);exact nH x h;omega,fun hx=>by (rcases jT _ hx with h | h);exact eZ h;omega,fun x hx bJ=>by have h1:=rZ x hx;(rcases jT x bJ with h | h);have:=fY x h;omega;omega⟩,dZ,by rw [aE.out,vD.out];exact OB,RES3,RP3,cD⟩,by simp [intOf];omega⟩
  have aB:(k:Int)<3:=Bl;have qU:((Zk.shelf[home].length:Int) == 0)=false:=by simp [hq]
  replace dR:=Bq (dR.out (.inr (by rw [dJ.out];exact hq)));clear hq;rotate_left;have aB:¬ (k:Int)<3:=Bl;have qU:True:=trivial;replace dR:=Bq (dR.out (.inl Bl));all_goals
   have HZ:=Bq (show I5 y (wk:Int) d=N1 Zk home by rw [H.out,HG.out,dR.out]);have jZ:∀ e∈Zk.shelf[home],Uw Zk e:=fun e he=>by
    have h1:=bH.out.fresh e (by rw [dJ.out];exact he);rw [<-Og bH.out.runs] at h1;exact Mj.1 h1
   replace fB:RdL Bx wr wr (Aa xa Zk.shelf[home].length xc) Zk.shelf[home]:=fB;have kR:=bH.out.all _ (Aw kY);have qV:Hid (N1 Zk home=Sk Zk home Zk.shelf[home]):=by
    show N1 Zk home=_;unfold N1;rw [dJ.out]
   have CT:=Bq (Qs Zk.shelf[home] ⟨xa,Zk.shelf[home].length,xc⟩ wr Bl fB);clear aE dJ fR pC nQ mI rX H HG dR;generalize Zk.shelf[home]=SH at *
   go_wp2_with fail
   refine CT.out.mono ?_;rintro e9 w2 ⟨⟨ta,tn,tc⟩,Ft,rfl,ot,nt,b2⟩;replace oy:Bv.ow wr F Zk (⟨Ac ⟨g,o,Ab⟩,4,e1⟩,⟨B2,m2,e2⟩):=oy.out;have pX:=Bv.ow_lt (F:=F) (x:=Zk) (s:=(⟨Ac ⟨g,o,Ab⟩,4,e1⟩,⟨B2,m2,e2⟩)) oy;replace oy:Bv.ow w2 F Zk (⟨Ac ⟨g,o,Ab⟩,4,e1⟩,⟨B2,m2,e2⟩):=owB oy b2;clear OB_0 OB_1 OB_2 OB_3 OB_l;replace OB:=OB.below b2;replace RES:=RES.below b2;replace RP:=RP.below b2;have aG:=Bu hb b2;have eV:=b2.size;clear b2 CT ch fB hb oyr;have aC:w.heap.size+1+1≠w.heap.size+1:=Bl;cases SH with
   | nil =>
    have HF:=Bq (HZ.out.trans qV.out);clear HZ qV jZ ot;have EB0:Below w2 w2 (w2.alloc (.cells #[J U 0,J U 0,J U 0,J U 0] 163)):=Bt;go_upto_region 16 with fail
    replace oy:Bv.ow _ F Zk (⟨Ac ⟨g,o,Ab⟩,4,e1⟩,⟨B2,m2,e2⟩):=owB oy EB0;replace OB:=OB.below EB0;replace RES:=RES.below EB0;replace RP:=RP.below EB0;replace aG:=Bu aG EB0;clear EB0;generalize w2.alloc (.cells #[J U 0,J U 0,J U 0,J U 0] 163)=w3 at *
    obtain ⟨OB_0,OB_1,OB_2,OB_3,OB_l⟩:=OB.g4;obtain ⟨RES_0,RES_1,RES_2,RES_3,RES_l⟩:=RES.g4;obtain ⟨RP_0,RP_1,RP_2,RP_3,RP_l⟩:=RP.g4;have rf:=RES.free;have pf:=RP.free;go_wp2;have en1:w.heap.size+1∉F:=fun hx=>by have:=hF.out.1 _ hx;omega
    have en2:w.heap.size+1+1∉F:=fun hx=>by have:=hF.out.1 _ hx;omega
    have RES2:=DBox.row4 RES rfl (J U Zk.now) (J U Zk.seq) (Aa (Ac ⟨g,o,Ab⟩) 4 e1) (Aa B2 m2 e2);have RP2:=DBox.row4 ((((RP.setOther (a:=⟨w+1,0,Ab⟩) aC (J U Zk.now)).setOther (a:=⟨w+1,1,Ab⟩) aC (J U Zk.seq)).setOther (a:=⟨w+1,2,Ab⟩) aC (Aa (Ac ⟨g,o,Ab⟩) 4 e1)).setOther (a:=⟨w+1,3,Ab⟩) aC (Aa B2 m2 e2)) rfl (J U 9) (J U 0) (J U 0) (J U 0);have RES3:=(((RES2.setOther (a:=⟨w+1+1,0,Ab⟩) aC.symm (J U 9)).setOther (a:=⟨w+1+1,1,Ab⟩) aC.symm (J U 0)).setOther (a:=⟨w+1+1,2,Ab⟩) aC.symm (J U 0)).setOther (a:=⟨w+1+1,3,Ab⟩) aC.symm (J U 0);refine Aj (Q3 RES3 RP2) rfl ⟨(⟨Ac ⟨g,o,Ab⟩,4,e1⟩,⟨B2,m2,e2⟩),F,by rw [HF.out];rfl,by rw [HF.out];exact (by (repeat (refine Dt.ow_set Bv ?_ (by first | exact en1 | exact en2) _));exact (show Bv.ow _ F Zk (⟨Ac ⟨g,o,Ab⟩,4,e1⟩,⟨B2,m2,e2⟩) from oy)),fun x hx=>by have:=hF.out.1 x hx;omega,?_⟩;repeat (first | (with_reducible exact aG) | refine Ad ?_ Bo _)
   | cons e rest =>
    obtain ⟨gE,⟨gM,qE⟩,eB⟩:=jZ e (List.mem_cons_self ..);obtain ⟨pr,sq,rn,tk⟩:=e;dsimp only at gE gM qE eB;obtain ⟨t,rfl⟩:=Ap gM;rcases Ez Zk rn with gJ | ⟨j,hj,gJ⟩
    ·exact absurd gE Bl
    have dF:=Gy hj gJ;rw [dF] at qE eB;have uE:j<y.runs.length:=by rw [<-bH.out.runs];exact hj
    have sQ:Hid (Hd Zk.runs[j]):=by
     have e:Zk.runs[j]=y.runs[j]:=by simp only [bH.out.runs]
     show Hd Zk.runs[j];rw [e];exact Eo HP.out uE
    have HF:=Bq (HZ.out.trans (qV.out.trans (show _=((⟨Zk.now,Zk.seq,Zk.shelf.set home rest,Zk.runs.set j (Ee Zk.runs[j] t Zk.now)⟩:Yard),(⟨0,rn,t,(Cv Zk.runs[j] t).try_+1⟩:Reply)) by show Sk _ _ (_ :: _)=_;unfold Sk;dsimp only;rw [gJ,dF,Ao,Ao])));have gF:=Bq (show 0<=Zk.now/\Zk.now<=999999980 by rw [bH.out.now];exact HP.out.1);have hrun8:Zk.runs.length<=8:=by rw [bH.out.runs];exact HP.out.2.2.2.2.2.2.1
    have eW:t<Zk.runs[j].tasks.length:=Bl;have rU:=Cu eW;have nT:=Bq (show Dk ⟨Zk.now,Zk.seq,Zk.shelf.set home rest,Zk.runs⟩ rn=j from (Np (y:=Zk) rfl rn).trans gJ);have tK:=Bq (show Ca ⟨Zk.now,Zk.seq,Zk.shelf.set home rest,Zk.runs⟩<=2000000 by
     have:=Oy (y:=⟨Zk.now,Zk.seq,Zk.shelf.set home rest,Zk.runs⟩) (M:=80) (by simpa using rY) (fun s hs=>by
      rcases List.mem_or_eq_of_mem_set hs with h | h
      ·exact bH.out.all s h
      ·subst h;simp at kR;omega) hrun8 (fun k hk=>by
       have bF:k<y.runs.length:=by rw [<-bH.out.runs];exact hk
       have e:Zk.runs[k]=y.runs[k]:=by simp only [bH.out.runs]
       show Hd Zk.runs[k];rw [e];exact Eo HP.out bF)
     omega)
    clear HZ qV jZ gJ dF gE gM qE eB uE qP qU;replace ot:OwL Bx w2 Ft (Aa ta tn tc) rest:=ot;have fF:∀ x∈Ft,wr<=x/\x<w2:=fun x hx=>⟨nt x hx,ot.lt x hx⟩
    have EB:=DBox.new 163 [J U pr,J U sq,J U rn,J U (t:Int)] w2 (b:=w2) rfl;have EB0:Below w2 w2 (w2.alloc (.cells #[J U pr,J U sq,J U rn,J U (t:Int)] 163)):=Bt;go_upto_region 16 with fail
    replace oy:Bv.ow _ F Zk (⟨Ac ⟨g,o,Ab⟩,4,e1⟩,⟨B2,m2,e2⟩):=owB oy EB0;replace ot:=ot.below EB0;replace OB:=OB.below EB0;replace RES:=RES.below EB0;replace RP:=RP.below EB0;replace aG:=Bu aG EB0;clear nt EB0;generalize w2.alloc (.cells #[J U pr,J U sq,J U rn,J U (t:Int)] 163)=w3 at *
    have hebl:=EB.lt;generalize w2.heap.size=eb at *
    obtain ⟨OB_0,OB_1,OB_2,OB_3,OB_l⟩:=OB.g4;obtain ⟨EB_0,EB_1,EB_2,EB_3,EB_l⟩:=EB.g4;replace oy:Bv.ow w3 F Zk (⟨Ac ⟨g,o,Ab⟩,4,e1⟩,⟨B2,m2,e2⟩):=oy;have kD:∀ j,w3.frozen? ⟨g,j,Ab⟩=false:=by
     obtain ⟨G1,G2,_,_,os,_⟩:=oy;exact OwL.free0 (show OwL (Dt.list Bx) w3 G1 (Aa (Ac ⟨g,o,Ab⟩) 4 e1) Zk.shelf from os) Bl
    obtain ⟨_,_,⟨xa3,xn3,xc3⟩,dB,rV,_,ch⟩:=RdL.entryS (show RdL (Dt.list Bx) w3 w3.heap.size (Aa (Ac ⟨g,o,Ab⟩) 4 e1) Zk.shelf from (Bv.ow_rd (F:=F) (x:=Zk) oy).1) kY;simp only [Option.some.injEq,Addr.mk.injEq,and_true] at dB;obtain ⟨rfl,rfl⟩:=dB;obtain ⟨F4,oy4,tW,eY⟩:=Gk oy kY (l:=rest) (t:=⟨ta,tn,tc⟩) ot (fun x hx bJ=>by have h1:=(fF x hx).1;have h2:=pX x bJ;omega);go_upto_region 19 with fail
    have dD:Chg [g] w3 (w3.setCell ⟨g,o+home,Ab⟩ (Aa ta tn tc)):=Chg.setCell w3 g _ _;have aS:=Bq (show ∀ x,x∈[g]->x=g from fun x hx=>by simpa using hx);have hgF2:=hF.out.1 g eY;have eH:ob≠g:=fun h=>hF.out.2.1 (by rw [h];exact eY);clear OB_0 OB_1 OB_2 OB_3 OB_l;clear EB_0 EB_1 EB_2 EB_3 EB_l;replace OB:=OB.chg dD (fun hx=>eH (aS.out _ hx));replace EB:=EB.chg dD (fun hx=>by have:=aS.out _ hx;omega);replace RES:=RES.chg dD (fun hx=>by have:=aS.out _ hx;omega);replace RP:=RP.chg dD (fun hx=>by have:=aS.out _ hx;omega);have mR:=dD.size;replace aG:=aG.trans (dD.below (by have:=aG.size;omega) (fun x hx=>by have:=aS.out _ hx;omega));clear dD oy kD ch ot;generalize w3.setCell ⟨g,o+home,Ab⟩ (Aa ta tn tc)=w4 at *
    replace oy4:Bv.ow w4 F4 ⟨Zk.now,Zk.seq,Zk.shelf.set home rest,Zk.runs⟩ (⟨Ac ⟨g,o,Ab⟩,4,e1⟩,⟨B2,m2,e2⟩):=oy4;have jA:∀ x∈F4,(x∈F\/(wr<=x/\x<eb)):=fun x hx=>(tW x hx).imp id (fun h=>fF x h);have CA:=Bq (E8 ⟨Zk.now,Zk.seq,Zk.shelf.set home rest,Zk.runs⟩ (⟨Ac ⟨g,o,Ab⟩,4,e1⟩,⟨B2,m2,e2⟩) rn w4 tK.out (Bv.ow_rd (F:=F4) (x:=⟨Zk.now,Zk.seq,Zk.shelf.set home rest,Zk.runs⟩) oy4));obtain ⟨OB_0,OB_1,OB_2,OB_3,OB_l⟩:=OB.g4;obtain ⟨EB_0,EB_1,EB_2,EB_3,EB_l⟩:=EB.g4;go_wp2_with fail
    refine CA.out.mono ?_;rintro e9 w5 ⟨rfl,b5⟩;rw [nT.out];clear OB_0 OB_1 OB_2 OB_3 OB_l;clear EB_0 EB_1 EB_2 EB_3 EB_l;replace OB:=OB.below b5;replace EB:=EB.below b5;replace RES:=RES.below b5;replace RP:=RP.below b5;replace aG:=Bu aG b5;replace oy4:Bv.ow w5 F4 ⟨Zk.now,Zk.seq,Zk.shelf.set home rest,Zk.runs⟩ (⟨Ac ⟨g,o,Ab⟩,4,e1⟩,⟨B2,m2,e2⟩):=owB oy4 b5;have pT:=b5.size;clear b5 CA nT tK;have oyr:=(Bv.ow_rd (F:=F4) (x:=⟨Zk.now,Zk.seq,Zk.shelf.set home rest,Zk.runs⟩) oy4).2;have eQ:=Bq (show m2=Zk.runs.length from RdL.at1 (s:=⟨B2,m2,e2⟩) oyr);have gS:(j:Int)<(m2:Int):=by have:=eQ.out;omega
    have cJ:(0:Int)<=(j:Int):=Bl;obtain ⟨gr,orr,sk,rfl,dQ,dF,c0,c1,c2,c3,c4,c5,c6,c7⟩:=RdL.run (show RdL Ce w5 w5.heap.size (Aa B2 m2 e2) Zk.runs from oyr) hj;have gP:∀ i,w5.frozen? ⟨gr,i,Ab⟩=false:=by
     obtain ⟨G1,G2,_,_,_,os⟩:=oy4;exact OwL.free0 (show OwL Ce w5 G2 (Aa (Ac ⟨gr,orr,Ab⟩) m2 e2) Zk.runs from os) Bl
    generalize mJ:Zk.runs[j]=r at *
    have kE:-1000000<=r.tasks[t].try_/\r.tasks[t].try_<=2000000000/\0<=r.plan.wait/\r.plan.wait<=2000000000:=by
     have h1:=sQ.out.2.2.2.1 t eW;have h2:=(Dj.1 sQ.out.2.1).1;simp only [Ew,Bool.and_eq_true] at h2;have h3:=Cw.1 h2.1.2;have h4:=Cw.1 h2.2;unfold Hk Od at h1;rw [rU] at h1;omega
    have CSt:=Bq (Te r sk t Zk.now w5.drew (by have:=Kr sQ.out;omega) eW ⟨kE.1,kE.2.1⟩ (by have:=gF.out;omega) kE.2.2 (Ce.rd_below dF (Br _ _).drew));have hobw5:ob<w5:=Bl;have hebw5:eb<w5:=Bl;clear dF oyr kE sQ hrun8;obtain ⟨OB_0,OB_1,OB_2,OB_3,OB_l⟩:=OB.g4;obtain ⟨EB_0,EB_1,EB_2,EB_3,EB_l⟩:=EB.g4;go_wp2;refine Db (fun w'=>w'.cell? ⟨ob,3,Ab⟩=Ac (Aa (Ac ⟨gr,orr,Ab⟩) m2 e2)/\w'.cell? ⟨ob,0,Ab⟩=Ac (J U Zk.now)/\w'.cell? ⟨eb,3,Ab⟩=Ac (J U (t:Int))/\w'.cell? ⟨gr,orr+j * 8,Ab⟩=Ac (J U r.id)/\w'.cell? ⟨gr,orr+j * 8+1,Ab⟩=Ac (J U r.plan.prio)/\w'.cell? ⟨gr,orr+j * 8+2,Ab⟩=Ac (J U r.plan.most)/\w'.cell? ⟨gr,orr+j * 8+3,Ab⟩=Ac (J U r.plan.wait)/\w'.cell? ⟨gr,orr+j * 8+4,Ab⟩=Ac (J U r.plan.tasks)/\w'.cell? ⟨gr,orr+j * 8+5,Ab⟩=Ac (Aa sk.1.a sk.1.n sk.1.c)/\w'.cell? ⟨gr,orr+j * 8+6,Ab⟩=Ac (J U r.state)/\w'.cell? ⟨gr,orr+j * 8+7,Ab⟩=Ac (Aa sk.2.a sk.2.n sk.2.c)) 14 Bm ?_ (fun hHeld=>?_)
    ·exact ⟨OB_3,OB_0,EB_3,c0,c1,c2,c3,c4,c5,c6,c7⟩
    refine aT 0 hHeld ?_;try simp only [pS]
    refine aT 1 hHeld ?_;try simp only [pS]
    refine aT 2 hHeld ?_;try simp only [pS]
    refine aT 3 hHeld ?_;try simp only [pS]
    refine aT 4 hHeld ?_;try simp only [pS]
    refine aT 5 hHeld ?_;try simp only [pS]
    refine aT 6 hHeld ?_;try simp only [pS]
    refine aT 7 hHeld ?_;try simp only [pS]
    refine aT 8 hHeld ?_;try simp only [pS]
    refine aT 9 hHeld ?_;try simp only [pS]
    refine aT 10 hHeld ?_;try simp only [pS]
    refine aT 11 hHeld ?_;try simp only [pS]
    refine oT 12 (fun K hK=>?_)
    (go_simp;refine CSt.out.mono ?_;rintro e9 w6 ⟨sr,Fr,rfl,orn,nr,b6⟩;have q0:w6.cell? ⟨gr,orr+j * 8,Ab⟩=Ac (J U r.id):=(b6.cell (p:=⟨_,_,Ab⟩) (by show gr<w5;omega)).trans c0;have q1:w6.cell? ⟨gr,orr+j * 8+1,Ab⟩=Ac (J U r.plan.prio):=(b6.cell (p:=⟨_,_,Ab⟩) (by show gr<w5;omega)).trans c1;have q2:w6.cell? ⟨gr,orr+j * 8+2,Ab⟩=Ac (J U r.plan.most):=(b6.cell (p:=⟨_,_,Ab⟩) (by show gr<w5;omega)).trans c2;have q3:w6.cell? ⟨gr,orr+j * 8+3,Ab⟩=Ac (J U r.plan.wait):=(b6.cell (p:=⟨_,_,Ab⟩) (by show gr<w5;omega)).trans c3;have q4:w6.cell? ⟨gr,orr+j * 8+4,Ab⟩=Ac (J U r.plan.tasks):=(b6.cell (p:=⟨_,_,Ab⟩) (by show gr<w5;omega)).trans c4;have q5:w6.cell? ⟨gr,orr+j * 8+5,Ab⟩=Ac (Aa sk.1.a sk.1.n sk.1.c):=(b6.cell (p:=⟨_,_,Ab⟩) (by show gr<w5;omega)).trans c5;have q6:w6.cell? ⟨gr,orr+j * 8+6,Ab⟩=Ac (J U r.state):=(b6.cell (p:=⟨_,_,Ab⟩) (by show gr<w5;omega)).trans c6;have q7:w6.cell? ⟨gr,orr+j * 8+7,Ab⟩=Ac (Aa sk.2.a sk.2.n sk.2.c):=(b6.cell (p:=⟨_,_,Ab⟩) (by show gr<w5;omega)).trans c7;have qf:∀ j,w6.frozen? ⟨gr,j,Ab⟩=false:=fun j=>(b6.frozen (p:=⟨_,_,Ab⟩) (by show gr<w5;omega)).trans (gP j))
    refine hK.out _ _ (fun _=>?_) ?_
    ·exact ⟨(b6.cell (p:=⟨_,_,Ab⟩) (by show ob<w5;omega)).trans OB_3,(b6.cell (p:=⟨_,_,Ab⟩) (by show ob<w5;omega)).trans OB_0,(b6.cell (p:=⟨_,_,Ab⟩) (by show eb<w5;omega)).trans EB_3,(b6.cell (p:=⟨_,_,Ab⟩) (by show gr<w5;omega)).trans c0,(b6.cell (p:=⟨_,_,Ab⟩) (by show gr<w5;omega)).trans c1,(b6.cell (p:=⟨_,_,Ab⟩) (by show gr<w5;omega)).trans c2,(b6.cell (p:=⟨_,_,Ab⟩) (by show gr<w5;omega)).trans c3,(b6.cell (p:=⟨_,_,Ab⟩) (by show gr<w5;omega)).trans c4,(b6.cell (p:=⟨_,_,Ab⟩) (by show gr<w5;omega)).trans c5,(b6.cell (p:=⟨_,_,Ab⟩) (by show gr<w5;omega)).trans c6,(b6.cell (p:=⟨_,_,Ab⟩) (by show gr<w5;omega)).trans c7⟩
    clear hK K;try simp only [pS]
    refine oT 13 (fun K hK=>?_);go_simp;refine hK.out _ _ (fun _=>?_) ?_
    ·exact ⟨(b6.cell (p:=⟨_,_,Ab⟩) (by show ob<w5;omega)).trans OB_3,(b6.cell (p:=⟨_,_,Ab⟩) (by show ob<w5;omega)).trans OB_0,(b6.cell (p:=⟨_,_,Ab⟩) (by show eb<w5;omega)).trans EB_3,(b6.cell (p:=⟨_,_,Ab⟩) (by show gr<w5;omega)).trans c0,(b6.cell (p:=⟨_,_,Ab⟩) (by show gr<w5;omega)).trans c1,(b6.cell (p:=⟨_,_,Ab⟩) (by show gr<w5;omega)).trans c2,(b6.cell (p:=⟨_,_,Ab⟩) (by show gr<w5;omega)).trans c3,(b6.cell (p:=⟨_,_,Ab⟩) (by show gr<w5;omega)).trans c4,(b6.cell (p:=⟨_,_,Ab⟩) (by show gr<w5;omega)).trans c5,(b6.cell (p:=⟨_,_,Ab⟩) (by show gr<w5;omega)).trans c6,(b6.cell (p:=⟨_,_,Ab⟩) (by show gr<w5;omega)).trans c7⟩
    clear hK K;try simp only [pS]
    refine oT 14 (fun K hK=>?_);go_simp;refine hK.out _ _ (fun aC=>absurd rfl aC) ?_;clear hK K;try simp only [pS]
    refine D6 Bm ?_ _;have b6':Below w5 w5 w6:=Bu (Br _ _).drew b6;have pP:=b6'.size;have pH:∀ x∈Fr,w5<=x:=nr;have jG:∀ x∈F4,x<w5:=Bv.ow_lt (F:=F4) (x:=⟨Zk.now,Zk.seq,Zk.shelf.set home rest,Zk.runs⟩) (s:=(⟨Ac ⟨g,o,Ab⟩,4,e1⟩,⟨Ac ⟨gr,orr,Ab⟩,m2,e2⟩)) oy4;have oy6:Bv.ow w6 F4 ⟨Zk.now,Zk.seq,Zk.shelf.set home rest,Zk.runs⟩ (⟨Ac ⟨g,o,Ab⟩,4,e1⟩,⟨Ac ⟨gr,orr,Ab⟩,m2,e2⟩):=owB oy4 b6';obtain ⟨F8,oy8,kL,fK⟩:=Oh oy6 (k:=j) hj (r:=Ee r t Zk.now) (sr:=sr) orn (fun x hx bJ=>by have h1:=pH x hx;have h2:=jG x bJ;omega);have jH:Chg [gr] w6 ((((((((w6.setCell ⟨gr,orr+j * 8,Ab⟩ (J U (Ee r t Zk.now).id)).setCell ⟨gr,orr+j * 8+1,Ab⟩ (J U (Ee r t Zk.now).plan.prio)).setCell ⟨gr,orr+j * 8+2,Ab⟩ (J U (Ee r t Zk.now).plan.most)).setCell ⟨gr,orr+j * 8+3,Ab⟩ (J U (Ee r t Zk.now).plan.wait)).setCell ⟨gr,orr+j * 8+4,Ab⟩ (J U (Ee r t Zk.now).plan.tasks)).setCell ⟨gr,orr+j * 8+5,Ab⟩ (Aa sr.1.a sr.1.n sr.1.c)).setCell ⟨gr,orr+j * 8+6,Ab⟩ (J U (Ee r t Zk.now).state)).setCell ⟨gr,orr+j * 8+7,Ab⟩ (Aa sr.2.a sr.2.n sr.2.c)):=Iv (Ce.enc.cells ((Ee r t Zk.now),sr)) w6 gr (orr+j * 8);have bR:=Bq (show ∀ x,x∈[gr]->x=gr from fun x hx=>by simpa using hx);have pF:=jA gr fK;have hobgr:ob≠gr:=fun h=>by
     rcases pF with h1 | h1
     ·exact hF.out.2.1 (by rw [h];exact h1)
     ·omega
    have hebgr:eb≠gr:=fun h=>by
     rcases pF with h1 | h1
     ·have:=pX _ h1;omega
     ·omega
    have gX:w+1+1<gr:=by
     rcases pF with h1 | h1
     ·exact hF.out.1 _ h1
     ·omega
    clear OB_0 OB_1 OB_2 OB_3 OB_l;clear EB_0 EB_1 EB_2 EB_3 EB_l;replace OB:=(OB.below b6').chg jH (fun hx=>hobgr (bR.out _ hx));replace EB:=(EB.below b6').chg jH (fun hx=>hebgr (bR.out _ hx));replace RES:=(RES.below b6').chg jH (fun hx=>by have:=bR.out _ hx;omega);replace RP:=(RP.below b6').chg jH (fun hx=>by have:=bR.out _ hx;omega);replace aG:=(Bu aG b6').trans (jH.below (by have:=(Bu aG b6').size;omega) (fun x hx=>by have:=bR.out _ hx;omega));have fE:∀ x∈F8,x∈F4\/w5<=x:=fun x hx=>(kL x hx).imp id (fun h=>pH x h);clear hHeld oy4 oy6 b6 b6' nr orn jH CSt c0 c1 c2 c3 c4 c5 c6 c7 gP q0 q1 q2 q3 q4 q5 q6 q7 qf;generalize ((((((((w6.setCell ⟨gr,orr+j * 8,Ab⟩ (J U (Ee r t Zk.now).id)).setCell ⟨gr,orr+j * 8+1,Ab⟩ (J U (Ee r t Zk.now).plan.prio)).setCell ⟨gr,orr+j * 8+2,Ab⟩ (J U (Ee r t Zk.now).plan.most)).setCell ⟨gr,orr+j * 8+3,Ab⟩ (J U (Ee r t Zk.now).plan.wait)).setCell ⟨gr,orr+j * 8+4,Ab⟩ (J U (Ee r t Zk.now).plan.tasks)).setCell ⟨gr,orr+j * 8+5,Ab⟩ (Aa sr.1.a sr.1.n sr.1.c)).setCell ⟨gr,orr+j * 8+6,Ab⟩ (J U (Ee r t Zk.now).state)).setCell ⟨gr,orr+j * 8+7,Ab⟩ (Aa sr.2.a sr.2.n sr.2.c))=w8 at *
    replace oy8:Bv.ow w8 F8 ⟨Zk.now,Zk.seq,Zk.shelf.set home rest,Zk.runs.set j (Ee r t Zk.now)⟩ (⟨Ac ⟨g,o,Ab⟩,4,e1⟩,⟨Ac ⟨gr,orr,Ab⟩,m2,e2⟩):=oy8;have hjs:j<(Zk.runs.set j (Ee r t Zk.now)).length:=by rw [Bh];exact hj
    have oyk:=oy8;obtain ⟨G1,G2,sM,_,_,os8⟩:=oyk;obtain ⟨⟨sx1,⟨tva,tn2,tc2⟩⟩,Fx,hxo,bJ,_,_,_,mZ⟩:=OwL.elem (show OwL Ce w8 G2 (Aa (Ac ⟨gr,orr,Ab⟩) m2 e2) (Zk.runs.set j (Ee r t Zk.now)) from os8) hjs;have cT:w8.cell? ⟨gr,orr+j * 8+7,Ab⟩=Ac (Aa tva tn2 tc2):=mZ 7 _ rfl;rw [List.getElem_set_self] at hxo;obtain ⟨H1,H2,hHH,_,_,ot8⟩:=hxo;have oh8:=Nm (show OwL C7 w8 H2 (Aa tva tn2 tc2) (Ee r t Zk.now).tasks from ot8);have hgr8:gr<w8:=by have:=Bv.ow_lt (F:=F8) (x:=⟨Zk.now,Zk.seq,Zk.shelf.set home rest,Zk.runs.set j (Ee r t Zk.now)⟩) (s:=(⟨Ac ⟨g,o,Ab⟩,4,e1⟩,⟨Ac ⟨gr,orr,Ab⟩,m2,e2⟩)) oy8 gr (by rw [sM];exact Be _ (OwL.block_mem (show OwL Ce w8 G2 (Aa (Ac ⟨gr,orr,Ab⟩) m2 e2) _ from os8) (Nat.lt_of_le_of_lt (Ag _) hjs)));exact this
    have htn2:tn2=r.tasks.length:=(RdL.at1 (s:=⟨tva,tn2,tc2⟩) (show OwL C7 w8 H2 (Aa tva tn2 tc2) (Ee r t Zk.now).tasks from ot8).rd).trans (Nq _ _ _);have jR:(t:Int)<(tn2:Int):=Bl;have gM:(0:Int)<=(t:Int):=Bl;have hts:t<(Ee r t Zk.now).tasks.length:=by rw [Nq];exact eW
    obtain ⟨gt,ot2,rfl,hgt,-,-,cY,-⟩:=oh8.rd.tsk hts;have hgtF:gt∈F8:=by
     have h1:=(oh8.block Bl).1;rw [sM];refine Be _ (bJ _ ?_);rw [hHH,h1];exact Be _ (Au.2 rfl)
    have hty:=Adq r t Zk.now eW;rw [hty] at cY;have hobw8:ob<w8:=OB.lt;have hebw8:eb<w8:=EB.lt;have en1:w.heap.size+1∉F8:=fun hx=>by
     rcases fE _ hx with h | h
     ·rcases jA _ h with h1 | h1
      ·have:=hF.out.1 _ h1;omega
      ·omega
     ·omega
    have en2:w.heap.size+1+1∉F8:=fun hx=>by
     rcases fE _ hx with h | h
     ·rcases jA _ h with h1 | h1
      ·have:=hF.out.1 _ h1;omega
      ·omega
     ·omega
    have mK:∀ x∈F8,w<=x:=fun x hx=>by
     rcases fE _ hx with h | h
     ·rcases jA _ h with h1 | h1
      ·have:=hF.out.1 _ h1;omega
      ·omega
     ·omega
    have HFF:=Bq (show I5 y (wk:Int) d=((⟨Zk.now,Zk.seq,Zk.shelf.set home rest,Zk.runs.set j (Ee r t Zk.now)⟩:Yard),(⟨0,rn,t,r.tasks[t].try_+1⟩:Reply)) by rw [HF.out,rU]);have gn1:gt≠w.heap.size+1:=fun h=>en1 (by rw [<-h];exact hgtF);have gn2:gt≠w.heap.size+1+1:=fun h=>en2 (by rw [<-h];exact hgtF);clear HF hty jA fE kL pH jG fF tW pX rU;go_wp2;refine Go.wp_region_noPanic ?_;refine wp_region_held_drew (S:=(fun w'=>DBox ob [J U Zk.now,J U Zk.seq,Aa (Ac ⟨g,o,Ab⟩) 4 e1,Aa (Ac ⟨gr,orr,Ab⟩) m2 e2] w'/\DBox eb [J U pr,J U sq,J U rn,J U (t:Int)] w'/\w'.cell? ⟨gr,orr+j * 8+7,Ab⟩=Ac (Aa (Ac ⟨gt,ot2,Ab⟩) tn2 tc2)/\w'.cell? ⟨gt,ot2+t * 4+2,Ab⟩=Ac (J U (r.tasks[t].try_+1)))) Bm ⟨DBox.drew4 OB,DBox.drew4 EB,cT,cY⟩ (fun hHeld=>?_);replace oy8:Bv.ow w8.drew F8 ⟨Zk.now,Zk.seq,Zk.shelf.set home rest,Zk.runs.set j (Ee r t Zk.now)⟩ (⟨Ac ⟨g,o,Ab⟩,4,e1⟩,⟨Ac ⟨gr,orr,Ab⟩,m2,e2⟩):=owB oy8 (Br _ _).drew;replace RES:DBox _ _ w8.drew:=DBox.drew4 RES;replace RP:DBox _ _ w8.drew:=DBox.drew4 RP;replace aG:=aG.drew;have nX:w8.drew.heap.size=w8.heap.size:=rfl;rw [<-nX] at hgr8 hgt;clear OB EB cT cY nX oh8 ot8 mZ bJ os8 hobw8 hebw8 hgtF;generalize w8.drew=w8d at *
    refine tV 0 ?_
    (try simp only [pS])
    refine tV 1 ?_
    (try simp only [pS])
    refine tV 2 ?_
    (try simp only [pS])
    refine tV 3 ?_
    (try simp only [pS])
    refine tV 4 ?_
    (try simp only [pS])
    refine tV 5 ?_
    (try simp only [pS])
    refine tV 6 ?_
    (try simp only [pS])
    refine tV 7 ?_
    (try simp only [pS])
    refine tV 8 ?_
    (try simp only [pS])
    refine tV 9 ?_
    (try simp only [pS])
    refine tV 10 ?_
    (try simp only [pS])
    refine tV 11 ?_
    (try simp only [pS])
    refine tV 12 ?_
    (try simp only [pS])
    refine tV 13 ?_
    (try simp only [pS])
    refine tV 14 ?_
    (try simp only [pS])
    refine tV 15 ?_
    (try simp only [pS])
    refine tV 16 ?_
    (try simp only [pS])
    have RES_0:=RES.cell 0 _ rfl;have RES_1:=RES.cell 1 _ rfl;have RES_2:=RES.cell 2 _ rfl;have RES_3:=RES.cell 3 _ rfl;have RP_0:=RP.cell 0 _ rfl;have RP_1:=RP.cell 1 _ rfl;have RP_2:=RP.cell 2 _ rfl;have RP_3:=RP.cell 3 _ rfl;have rf:=RES.free;have pf:=RP.free;have bU:=Bq (show ∀ x,x∈[w.heap.size+1]->x=w.heap.size+1 from fun x hx=>by simpa using hx);have hm2':=Bq (show ∀ x,x∈[w.heap.size+1+1]->x=w.heap.size+1+1 from fun x hx=>by simpa using hx);have fD:=Chg.cells4 w8d (w+1) 0 1 2 3 (J U Zk.now) (J U Zk.seq) (Aa (Ac ⟨g,o,Ab⟩) 4 e1) (Aa (Ac ⟨gr,orr,Ab⟩) m2 e2);refine rC 17 (fun K_ hK=>?_);go_simp;have hS1:=fD.size;have RES2:=DBox.row4 RES rfl (J U Zk.now) (J U Zk.seq) (Aa (Ac ⟨g,o,Ab⟩) 4 e1) (Aa (Ac ⟨gr,orr,Ab⟩) m2 e2);have RP2:=RP.chg fD (fun hx=>by have:=bU.out _ hx;omega);replace oy8:Bv.ow _ F8 ⟨Zk.now,Zk.seq,Zk.shelf.set home rest,Zk.runs.set j (Ee r t Zk.now)⟩ (⟨Ac ⟨g,o,Ab⟩,4,e1⟩,⟨Ac ⟨gr,orr,Ab⟩,m2,e2⟩):=owC oy8 fD (fun x hx hx2=>by have h1:=bU.out _ hx2;subst h1;exact en1 hx);replace aG:=aG.trans (fD.below (by have:=aG.size;omega) (fun x hx=>by have:=bU.out _ hx;omega));refine hK.out _ _ ⟨hHeld.1.chg fD (fun hx=>by have:=bU.out _ hx;omega),hHeld.2.1.chg fD (fun hx=>by have:=bU.out _ hx;omega),(fD.cell (p:=⟨gr,_,Ab⟩) (by show gr<w8d;omega) (fun hx=>by have:gr=w.heap.size+1:=bU.out _ hx;omega)).trans hHeld.2.2.1,(fD.cell (p:=⟨gt,_,Ab⟩) (by show gt<w8d;omega) (fun hx=>by have:gt=w.heap.size+1:=bU.out _ hx;omega)).trans hHeld.2.2.2⟩ (fun hHeld=>?_);clear hK K_ rf pf RES_0 RES_1 RES_2 RES_3 RP_0 RP_1 RP_2 RP_3 fD
    (try simp only [pS])
    generalize (((w8d.setCell ⟨w+1,0,Ab⟩ (J U Zk.now)).setCell ⟨w+1,1,Ab⟩ (J U Zk.seq)).setCell ⟨w+1,2,Ab⟩ (Aa (Ac ⟨g,o,Ab⟩) 4 e1)).setCell ⟨w+1,3,Ab⟩ (Aa (Ac ⟨gr,orr,Ab⟩) m2 e2)=w9 at *
    have RP_0:=RP2.cell 0 _ rfl;have RP_1:=RP2.cell 1 _ rfl;have RP_2:=RP2.cell 2 _ rfl;have RP_3:=RP2.cell 3 _ rfl;have pf:=RP2.free;have gA:=Chg.cells4 w9 (w+1+1) 0 1 2 3 (J U 0) (J U rn) (J U (t:Int)) (J U (r.tasks[t].try_+1));refine rC 18 (fun K_ hK=>?_);go_simp;refine hK.out _ _ ⟨hHeld.1.chg gA (fun hx=>by have:=hm2'.out _ hx;omega),hHeld.2.1.chg gA (fun hx=>by have:=hm2'.out _ hx;omega),(gA.cell (p:=⟨gr,_,Ab⟩) (by show gr<w9;have:=hS1;omega) (fun hx=>by have:gr=w.heap.size+1+1:=hm2'.out _ hx;omega)).trans hHeld.2.2.1,(gA.cell (p:=⟨gt,_,Ab⟩) (by show gt<w9;have:=hS1;omega) (fun hx=>by have:gt=w.heap.size+1+1:=hm2'.out _ hx;omega)).trans hHeld.2.2.2⟩ (fun hHeld=>?_);clear hK K_ hHeld
    (try simp only [pS])
    refine Al Bm ?_ _;refine NoPanic.normal ?_;have RES3:=RES2.chg gA (fun hx=>by have:=hm2'.out _ hx;omega);have RP3:=DBox.row4 RP2 rfl (J U 0) (J U rn) (J U (t:Int)) (J U (r.tasks[t].try_+1));replace oy8:Bv.ow _ F8 ⟨Zk.now,Zk.seq,Zk.shelf.set home rest,Zk.runs.set j (Ee r t Zk.now)⟩ (⟨Ac ⟨g,o,Ab⟩,4,e1⟩,⟨Ac ⟨gr,orr,Ab⟩,m2,e2⟩):=owC oy8 gA (fun x hx hx2=>by have h1:=hm2'.out _ hx2;subst h1;exact en2 hx);replace aG:=aG.trans (gA.below (by have:=aG.size;omega) (fun x hx=>by have:=hm2'.out _ hx;omega));clear RP_0 RP_1 RP_2 RP_3 pf;go_wp2;exact Aj (Q3 RES3 RP3) rfl ⟨(⟨Ac ⟨g,o,Ab⟩,4,e1⟩,⟨Ac ⟨gr,orr,Ab⟩,m2,e2⟩),F8,by rw [HFF.out],by rw [HFF.out];exact oy8,mK,aG⟩
end Go.Proofs.YtonlnjdempbfoabGreat
