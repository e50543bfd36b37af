/-
  Complete of the reference. VictimsOf of the reference. done of the program: a task of a run is done, in place. Poll of the reference. Written by program (kv.py)
-/
import Derived.Test.YtonlnjdempbfoaaGreatZSl0
import Derived.Test.YtonlnjdempbfoaaGreatZSl3
import Derived.Test.YtonlnjdempbfoaaGreatZSl8
import Derived.Test.YtonlnjdempbfoaaGreatZSl9
import Derived.Test.YtonlnjdempbfoaaGreatZSl10
namespace Go.Proofs.YtonlnjdempbfoaaGreat
open Go.RowKit
set_option maxRecDepth 100000
set_option maxHeartbeats 4000000
set_option linter.unusedVariables false
set_option linter.unusedSimpArgs false
open Value renaming int->J,slice->Aa
open IntKind renaming i64->U
open Option renaming none->Ab,some->Ac
open Below renaming setCell->Ad
open Nat renaming zero_le->Ag
open Go renaming bodyPost_ret->Aj,wpAnyH_done->Al
open Go.Proofs.Tryz renaming prog->Am
open Int renaming toNat_natCast->Ao,eq_ofNat_of_zero_le->Ap
open IntWalk renaming i64_in->Aq
open List renaming mem_singleton->Au,getElem_mem->Aw,length_take->Az,mem_append_right->Be,take_of_length_le->Bg,length_set->Bh
section
theorem Pz {b:Nat} {w:World} {u0 u1 u2 u3:Value} (X:DBox b [u0,u1,u2,u3] w) {v0 v1 v2 v3 v4 v5 v6 v7 v9:Value} {rest:List Value} :
  (results Tryz.f145 (v0 :: v1 :: v2 :: v3 :: v4 :: v5 :: v6 :: v7 :: .pointer (Ac ⟨b,0,Ab⟩) :: v9 :: rest).toArray).run Am w = .ok (.tuple #[.agg #[u0,u1,u2,u3],v9]) w:=by
 have c0:=X.cell 0 _ rfl;have c1:=X.cell 1 _ rfl;have c2:=X.cell 2 _ rfl;have c3:=X.cell 3 _ rfl;simp [results,Tryz.results145,go_sem,c0,c1,c2,c3]
theorem N2 (r:Run) (t:Nat):(I1 r t).tasks.length=r.tasks.length:=by
 show (Im r t).length=_;unfold Im;rw [Ky r t,Nk]
open Classical in
noncomputable def Ke (y:Yard) (id tk tr:Int):Yard:=if Fk y id tk tr=0 then Fb y (Da y id).toNat (I1 (Js y id) tk.toNat) else y
theorem Qu (y:Yard) (s:Sl×Sl) (id tk tr:Int) (w:World) (hl:Cb y<=2000000) (h:Bu.rd w w y s) :
  Calls Am 145 #[Dg y s,J U id,J U tk,J U tr] w (Ht (Ke y id tk tr) (Fk y id tk tr) w):=by
 have HR:=Bq (show ∀ W,Below w w W->Bu.rd W W y s from fun W hW=>Bu.rd_more (Bu.rd_below h hW) hW.size);obtain ⟨⟨A1,n1,c1⟩,⟨A2,n2,c2⟩⟩:=s;have CC:=Bq (fun W hW=>Ed y (⟨A1,n1,c1⟩,⟨A2,n2,c2⟩) W hl (HR.out W hW));have CK:=Bq (fun W hW=>Ri y (⟨A1,n1,c1⟩,⟨A2,n2,c2⟩) id tk tr W hl (HR.out W hW));have CA:=Bq (fun W hW=>Es y (⟨A1,n1,c1⟩,⟨A2,n2,c2⟩) id W hl (HR.out W hW));clear h;obtain ⟨W,aG,X,RES,B0⟩:=bx2 w 31 [J U y.now,J U y.seq,Aa A1 n1 c1,Aa A2 n2 c2] 31 [J U 0,J U 0,Aa Ab 0 0,Aa Ab 0 0];go_enter Tryz.func145,Tryz.ntmps145;go_wp2_with fail
 rw [<-aG.out];clear aG;refine (CC.out _ B0).mono ?_;rintro e1 w1 ⟨⟨⟨B1,m1,e1⟩,⟨B2,m2,e2⟩⟩,F,rfl,oy,nF,b1⟩;have mQ:=X.lt;have dK:=RES.lt;replace X:=X.below b1;replace RES:=RES.below b1;replace B0:=Bt B0 b1;have bP:=Bu.ow_lt (F:=F) (x:=y) (s:=(⟨B1,m1,e1⟩,⟨B2,m2,e2⟩)) oy;have bL:=b1.size;clear b1;go_upto_region 2 with fail
 have OB:=DBox.new 31 [J U y.now,J U y.seq,Aa B1 m1 e1,Aa B2 m2 e2] w1 (b:=w1.heap.size) rfl;have b2:Below w1 w1 (w1.alloc (.cells #[J U y.now,J U y.seq,Aa B1 m1 e1,Aa B2 m2 e2] 31)):=(Br _ _).alloc (Bs _) _;replace B0:=Bt B0 b2;replace X:=X.below b2;replace RES:=RES.below b2;replace oy:=Bu.ow_below (F:=F) (x:=y) (s:=(⟨B1,m1,e1⟩,⟨B2,m2,e2⟩)) oy b2;have eL:=b2.size;have ow1:=OB.lt;generalize w1.alloc (.cells #[J U y.now,J U y.seq,Aa B1 m1 e1,Aa B2 m2 e2] 31)=w2 at *
 have X_:=X.g4;go_wp2_with fail
 refine (CK.out _ B0).mono ?_;rintro e1 w3 ⟨rfl,b3⟩;replace B0:=Bt B0 b3;clear X_;replace X:=X.below b3;replace RES:=RES.below b3;replace OB:=OB.below b3;replace oy:=Bu.ow_below (F:=F) (x:=y) (s:=(⟨B1,m1,e1⟩,⟨B2,m2,e2⟩)) oy b3;have jP:=b3.size;clear b3 b2 CC CK;have X_:=X.g4;have OB_:=OB.g4;by_cases q:Fk y id tk tr=0;case neg =>
  have q2:(Fk y id tk tr != 0)=true:=by simp [q]
  have H:=Bq (show Ke y id tk tr=y from if_neg q);clear q;have RES_:=RES.g4;have rf:=RES.free;go_wp2;have en1:w.heap.size+1∉F:=fun hx=>by have:=nF _ hx;omega
  refine Aj (Pz (DBox.row4 RES rfl _ _ _ _)) rfl ⟨(⟨B1,m1,e1⟩,⟨B2,m2,e2⟩),F,by rw [H.out],by rw [H.out];exact (Bu.set4 (F:=F) (x:=y) (s:=(⟨B1,m1,e1⟩,⟨B2,m2,e2⟩)) oy en1),fun x hx=>by have:=nF x hx;omega,?_⟩;repeat (first | (with_reducible exact B0) | refine Ad ?_ Bo _)
 have q2:(Fk y id tk tr != 0)=false:=by simp [q]
 have H:=Bq (show Ke y id tk tr=Fb y (Da y id).toNat (I1 (Js y id) tk.toNat) from if_pos q);have HP:Hid (Dd y/\0<=Da y id/\Fd y id tk tr):=by
  unfold Fk at q;by_cases p0:Dd y
  ·by_cases p1:Da y id<0
   ·rw [if_neg (fun h=>h p0),if_pos p1] at q;cases q
   ·by_cases p2:Fd y id tk tr
    ·exact ⟨p0,Bl,p2⟩
    ·rw [if_neg (fun h=>h p0),if_neg p1,if_pos p2] at q;cases q
  ·rw [if_pos p0] at q;cases q
 have Hq:=Bq q;clear q;rcases Ek y id with hr | ⟨k,hk,hr⟩
 ·exact absurd HP.out.2.1 Bl
 have HK:=Bq (Gf hk hr);have HR2:=Bq hr;clear hr;have bH:=Bq (D7 HP.out.1 hk);have hth:=Bq HP.out.2.2;have cQ:Hid ((0<=tk/\tk<(y.runs[k].tasks.length:Int))/\(Cs y.runs[k] tk.toNat).state=3):=by
  have:=hth.out
  unfold Fd at this;rw [HK.out] at this;exact ⟨this.2.1,this.2.2.1⟩
 obtain ⟨u,rfl⟩:=Ap cQ.out.1.1;have hu:u<y.runs[k].tasks.length:=by have:=cQ.out.1.2;omega
 have aK:Hid (H9 y.runs[k] u):=⟨bH.out,⟨Bl,Bl⟩,cQ.out.2⟩
 go_wp2_with fail
 refine (CA.out _ B0).mono ?_;rintro e2' w4 ⟨rfl,b4⟩;rw [HR2.out];replace B0:=Bt B0 b4;clear X_;clear OB_;clear X;replace RES:=RES.below b4;replace OB:=OB.below b4;replace oy:Bu.ow w4 F y (⟨B1,m1,e1⟩,⟨B2,m2,e2⟩):=owB oy b4;have kY:=b4.size;clear b4 CA;have oy2:=oy;obtain ⟨F1,F2,rfl,bN,os,orr⟩:=oy2;replace orr:OwL Ch w4 F2 (Aa B2 m2 e2) y.runs:=orr;obtain rfl:m2=y.runs.length:=RdL.at1 (s:=⟨B2,m2,e2⟩) orr.rd;obtain ⟨gr,o2,sk,rfl,dD,cX,c0,c1_,c2_,c3,c4,c5,c6,c7⟩:=orr.rd.run hk;have gG:(k:Int)<(y.runs.length:Int):=Bl;have dB:(0:Int)<=(k:Int):=Bl;go_wp2;refine Go.wp_region_noPanic ?_;refine wp_region_held_drew (S:=(fun w'=>DBox w1 [J U y.now,J U y.seq,Aa B1 m1 e1,Aa (Ac ⟨gr,o2,Ab⟩) y.runs.length e2] w')) Bm (DBox.drew4 OB) (fun hHeld=>?_);refine tY 0 ?_
 (try simp only [pS])
 refine tY 1 ?_
 (try simp only [pS])
 refine tY 2 ?_
 (try simp only [pS])
 refine tY 3 ?_
 (try simp only [pS])
 refine tY 4 ?_
 (try simp only [pS])
 refine tY 5 ?_
 (try simp only [pS])
 refine tY 7 ?_
 (try simp only [pS])
 have bd:Below w4 w4 w4.drew:=(Br _ _).drew;replace B0:=Bt B0 bd;replace RES:=RES.below bd;replace OB:=OB.below bd;replace oy:Bu.ow w4.drew (F1 ++ F2) y (⟨B1,m1,e1⟩,⟨Ac ⟨gr,o2,Ab⟩,y.runs.length,e2⟩):=Bu.ow_below (F:=F1 ++ F2) (x:=y) (s:=(⟨B1,m1,e1⟩,⟨Ac ⟨gr,o2,Ab⟩,y.runs.length,e2⟩)) oy bd;refine rC 6 (fun K_ hK=>?_);go_simp;refine hK.out _ _ OB (fun hHeld=>?_);clear hK K_
 (try simp only [pS])
 have mK:=Gj hl hk;have hrk2:Ch.rd w4.drew w4.drew y.runs[k] sk:=Ch.rd_below cX bd;have hcrun:Cw y.runs[k]<=2000000:=by
  have h1:=Ds (cnt:=Cw) (Aw hk);unfold Cb at hl;omega
 have CF:=Bq (Xj y.runs[k] sk u w4.drew hcrun aK.out hrk2);clear c0 c1_ c2_ c3 c4 c5 c6 c7;refine rC 8 (fun K_ hK=>?_);go_simp;refine CF.out.mono ?_;rintro e3 w5 ⟨sr,Fr,rfl,orn,nFr,b5⟩;refine hK.out _ _ (OB.below b5) (fun hHeld=>?_);clear hK K_
 (try simp only [pS])
 have qJ:w4.drew.heap.size=w4.heap.size:=rfl;have pP:=b5.size;have qX:=Dp bH.out;have CT:=Bq (Ks y (⟨B1,m1,e1⟩,⟨Ac ⟨gr,o2,Ab⟩,y.runs.length,e2⟩) k (I1 y.runs[k] u) sr w5 (F1 ++ F2) Fr HP.out.1.2.2.1 (fun s hs=>by have:=(HP.out.1.2.2.2.1 s hs).1;omega) (by have:=HP.out.1.2.1;omega) hk (by rw [N2];omega) Bl (Bu.ow_below (F:=F1 ++ F2) (x:=y) (s:=(⟨B1,m1,e1⟩,⟨Ac ⟨gr,o2,Ab⟩,y.runs.length,e2⟩)) oy b5) orn (fun x hx bF=>by have h1:=nFr x hx;have h2:=bP x bF;omega));have HF:=Bq (show Ke y id u tr=Fb y k (I1 y.runs[k] u) by rw [H.out,HR2.out,HK.out,Ao,Ao]);clear H;refine rC 9 (fun K_ hK=>?_);go_simp;refine CT.out.mono ?_;rintro e4 w6 ⟨s5,F5,rfl,oy7,n5,c6⟩;have aC:w1.heap.size∉F1 ++ F2:=fun h=>by have:=bP _ h;omega
 have kB:w.heap.size+1∉F1 ++ F2:=fun h=>by have:=nF _ h;omega
 have OB6:=(OB.below b5).chg c6 aC;have RES6:=(RES.below b5).chg c6 kB;have B6:Below w w w6:=(Bt B0 b5).trans (c6.below (by have:=(Bt B0 b5).size;omega) (fun x hx=>by have:=nF _ hx;omega));generalize Fb y k (I1 y.runs[k] u)=Z at *
 refine hK.out _ _ OB6 (fun hHeld=>?_);clear hK K_
 (try simp only [pS])
 have r0:=RES6.cell 0 _ rfl;have r1:=RES6.cell 1 _ rfl;have r2:=RES6.cell 2 _ rfl;have r3:=RES6.cell 3 _ rfl;have rl:=RES6.lt;have rf:=RES6.free;refine rC 10 (fun K_ hK=>?_);go_simp;have cJ:w1.heap.size≠w.heap.size+1:=Bl;refine hK.out _ _ ((((OB6.setOther (a:=⟨w.heap.size+1,_,Ab⟩) cJ _).setOther (a:=⟨w.heap.size+1,_,Ab⟩) cJ _).setOther (a:=⟨w.heap.size+1,_,Ab⟩) cJ _).setOther (a:=⟨w.heap.size+1,_,Ab⟩) cJ _) (fun hHeld=>?_);clear hK K_
 (try simp only [pS])
 refine rC 11 (fun K_ hK=>?_);go_simp;refine hK.out _ _ hHeld (fun hHeld=>?_);clear hK K_
 (try simp only [pS])
 refine Al Bm ?_ _;refine NoPanic.normal ?_;clear hHeld r0 r1 r2 r3 rf;have en5:w.heap.size+1∉F5:=fun hx=>by
  rcases n5 _ hx with h | h | h
  ·exact kB h
  ·have:=nFr _ h;omega
  ·omega
 have hZ:Ke y id u tr=Z:=HF.out;have H2:=Bq hZ;clear hZ;have Hq2:=Bq (show Fk y id u tr=0 from Hq.out);go_wp2;refine Aj (Pz (DBox.row4 RES6 rfl _ _ _ _)) rfl ⟨s5,F5,by rw [H2.out,Hq2.out],by rw [H2.out];exact (Bu.set4 (F:=F5) (x:=Z) (s:=s5) oy7 en5),fun x hx=>?_,?_⟩
 ·rcases n5 x hx with h | h | h
  ·have:=nF x h;omega
  ·have:=nFr x h;omega
  ·omega
 ·repeat (first | (with_reducible exact B6) | refine Ad ?_ Bo _)
end
theorem Qv:(Am.info? 3).map (fun i=>(i.zero,i.size,i.bytes))=Ac (Ac (J U 0),1,8):=Bm
def Ku (n lo hi:Int):Int:=if n<lo then lo else if n > hi then hi else n
theorem Se (n lo hi:Int) (w:World) (h:lo<=hi):Calls Am 222 #[J U n,J U lo,J U hi] w fun e w'=>e = .returned (J U (Ku n lo hi))/\w=w':=by
 by_cases h1:n<lo
 ·have H:=Bq (show Ku n lo hi=lo from if_pos h1);go_enter Tryz.func222,Tryz.ntmps222;go_wp2;go_ret;exact ⟨Dc H.out.symm,rfl⟩
 ·by_cases h2:n > hi
  ·have H:=Bq (show Ku n lo hi=hi by unfold Ku;rw [if_neg h1,if_pos h2]);have h2':hi<n:=h2;go_enter Tryz.func222,Tryz.ntmps222;go_wp2;go_ret;exact ⟨Dc H.out.symm,rfl⟩
  ·have H:=Bq (show Ku n lo hi=n by unfold Ku;rw [if_neg h1,if_neg h2]);have h2':¬ hi<n:=h2;go_enter Tryz.func222,Tryz.ntmps222;go_wp2;go_ret;exact ⟨Dc H.out.symm,rfl⟩
def Jl (home:Nat):List Nat:=(List.range 3).map fun i=>(home+(i+1)) % 4
theorem Xk {home k:Nat} (h:k<3):(Jl home).take (k+1)=(Jl home).take k ++ [(home+(k+1)) % 4]:=by
 rcases (show k=0\/k=1\/k=2 by omega) with rfl | rfl | rfl<;>rfl
theorem Abb {home d:Nat} : D9 home d=(Jl home).drop (d % 3) ++ (Jl home).take (d % 3):=by
 have h1:(max (d:Int) 0 % 3).toNat=d % 3:=Bl;unfold D9;rw [h1,Ao];have h2:=Nat.mod_lt d (show 0<3 by decide);generalize d % 3=k at *
 rcases (show k=0\/k=1\/k=2 by omega) with rfl | rfl | rfl<;>rfl
theorem Sf (home d:Nat) (w:World) (hh:home<4) (hd:d<=1000000000) :
  Calls Am 204 #[.int .i64 (home:Int),.int .i64 (d:Int)] w fun e w'=>∃ v,e = .returned v/\Ow Ec 3 w' w v (D9 home d)/\Below w w w':=by
 obtain ⟨j0,cB,jz0,jz1,jz2⟩:=info_parts Qv;have CB:=Bq (fun W=>Se (home:Int) 0 3 W Bp);have hI:¬ (d:Int)<0:=Bl;have hbr:Ku (home:Int) 0 3=(home:Int):=by unfold Ku;split<;>(try split)<;>omega
 rw [hbr] at CB;have q0:Below w w (w.alloc (.cells #[] 3)):=(Br _ _).alloc (Bs _) _;go_enter Tryz.func204,Tryz.ntmps204;go_wp2_with (go_at_call 222;refine (CB.out _).mono ?_;rintro e w1 ⟨rfl,rfl⟩)
 have o0:=Ow.empty Ec 3 w rfl;go_loopw [5,6] (fun v j wr=>∃ k:Nat,k<=3/\j = .int .i64 ((k:Int)+1)/\Hid (Ow Ec 3 wr w v ((Jl home).take k))/\Below w w wr) (fun _ j _=>4 - (intOf j).toNat);case atStart=>exact ⟨0,Ag _,rfl,o0,q0⟩
 case round =>
  clear o0 q0;obtain ⟨k,hk,rfl,hO,hb⟩:=hrel;by_cases aA:k<3
  ·have aB:(k:Int)+1<4:=Bl;have S:=Bq (Xk (home:=home) aA);have wA:U.wrap ((home:Int)+((k:Int)+1))=(home:Int)+((k:Int)+1):=Aq _ Bl;have rA:((home:Int)+((k:Int)+1)).tmod 4=(((home+(k+1)) % 4:Nat):Int):=by
    rw [Int.tmod_eq_emod_of_nonneg Bl];omega
   have wB:U.wrap (((home+(k+1)) % 4:Nat):Int)=(((home+(k+1)) % 4:Nat):Int):=Aq _ Bl;have Hl:=Bq (show ((Jl home).take k).length<=3000000 by rw [Az];omega);generalize (home+(k+1)) % 4=x at *
   have ha:Hid (∀ w:World,Below w w (w.alloc (.cells #[.int .i64 (x:Int)] 3))):=fun w=>(Br _ _).alloc (Bs _) _;have cN:=hO.out;have cC:=hb.size;go_wp2_with (at_builtin;refine By _ Ec Bp rfl (.tmp 17) (.tmp 22) rfl Tryz.underlying26 cB jz0 jz1 jz2 rfl (base:=w.heap.size) (l:=(Jl home).take k) rfl (cN.below (ha.out wr)) rfl (Rd.one Ec _ _ x rfl rfl 1 (Bs _) (Nat.lt_succ_self _)) Hl.out Bn Bp (by simp;omega) ?_;intro v5 w5 o5 g5 _)
   have eK:Below w w w5:=(Bt hb (ha.out wr)).grown g5 (Bt hb (ha.out wr)).size (fun g hg=>by have:=cN.within _ hg;omega);exact ⟨⟨k+1,Bl,by go_num,by rw [S.out];exact o5,eK⟩,by simp [intOf];omega⟩
  ·have aB:¬ (k:Int)+1<4:=Bl;have hk3:k=3:=Bl;subst hk3;have cN:=hO.out;rw [show (Jl home).take 3=Jl home from rfl] at cN;clear hO;have HV:=Bq (Abb (home:=home) (d:=d));obtain ⟨-,h2⟩ | ⟨g,cap,rfl,h1,h2,h3,h4,h5,h6⟩:=cN.form
   ·cases h2
   have tG:=Rd.of_own cN;replace h3:=tG.cap;have h3':3<=cap:=h3;have hm3:=Nat.mod_lt d (show 0<3 by decide);have rA:(d:Int).tmod 3=((d % 3:Nat):Int):=by
    rw [Int.tmod_eq_emod_of_nonneg Bl];omega
   have wB:U.wrap ((d % 3:Nat):Int)=((d % 3:Nat):Int):=Aq _ Bl;have qP:(Jl home).length=3:=rfl;generalize d % 3=m at *
   generalize Jl home=L at *
   rw [qP] at tG;have a0:=Bq (show ∀ W,Below wr wr W->Rd Ec W wr (.slice (Ac ⟨g,m,Ab⟩) (3 - m) (cap - m)) (L.drop m) from fun W hW=>by have:=(tG.fromL m Bl).below hW;rw [qP,show 0+m * Ec.sz=m from by show 0+m * 1=m;omega] at this;exact this);have a1:=Bq (show ∀ W,Below wr wr W->Rd Ec W wr (.slice (Ac ⟨g,0,Ab⟩) m cap) (L.take m) from fun W hW=>(tG.take Bl cap Bl).below hW);have pM:(m:Int)<=3:=Bl;have fR:(0:Int)<=(m:Int):=Bl;have hmc:m<cap:=Bl;have hmc2:¬ cap=m:=Bl;have hmc3:m<=cap:=Bl;have hmcI:(m:Int)<=(cap:Int):=Bl;have bX:=Bq (show (L.drop m).length<=3000000 by simp;omega);have aW:=Bq (show (L.take m).length<=3000000 by simp;omega);rw [qP];have cC:=hb.size;go_wp2;refine Go.wp_region_noPanic ?_;refine wp_region_held_drew (S:=fun _=>True) Bm trivial (fun hHeld=>?_);have B1:Below wr wr wr.drew:=(Br _ _).drew;generalize wr.drew=w1 at *
   refine tY 1 ?_
   (try simp only [pS])
   refine tY 2 ?_
   (try simp only [pS])
   refine tY 3 ?_
   (try simp only [pS])
   refine tY 5 ?_
   (try simp only [pS])
   refine tY 6 ?_
   (try simp only [pS])
   refine tY 7 ?_
   (try simp only [pS])
   refine rC 0 (fun K_ hK=>?_);go_simp;have bb:Below w1 w1 (w1.alloc (.cells #[] 3)):=(Br _ _).alloc (Bs _) _;have o9:Ow Ec 3 (w1.alloc (.cells #[] 3)) w (.slice (Ac ⟨w1,0,Ab⟩) 0 0) []:=(Ow.empty Ec 3 w1 rfl).more (by have:=B1.size;omega);have Ba:=Bt B1 bb;have y9:=B1.size;generalize w1.heap.size=g9 at *
   generalize w1.alloc (.cells #[] 3)=w1a at *
   refine hK.out _ _ trivial (fun hHeld=>?_);clear hK K_
   (try simp only [pS])
   refine rC 4 (fun K_ hK=>?_);refine Em _ Ec Bp (.tmp 28) (.tmp 31) 26 rfl w.heap.size 3 _ _ _ Tryz.underlying26 cB jz0 jz1 jz2 rfl _ [] rfl o9 _ _ _ _ (L.drop m) rfl (a0.out _ Ba) Bn bX.out Bp (by have:=Ba.size;omega) ?_;intro v13 w1b o13 gg e13;rw [List.nil_append] at o13;have Bb:Below wr wr w1b:=Ba.grown gg Ba.size (fun g hg=>by have:=Option.some.inj (show Ac g9=Ac g from hg);omega);clear gg;refine hK.out _ _ trivial (fun hHeld=>?_);clear hK K_
   (try simp only [pS])
   refine rC 8 (fun K_ hK=>?_);refine Em _ Ec Bp (.tmp 32) (.tmp 35) 26 rfl w.heap.size 3 _ _ _ Tryz.underlying26 cB jz0 jz1 jz2 rfl _ (L.drop m) rfl o13 _ _ _ _ (L.take m) rfl (a1.out _ Bb) bX.out aW.out Bp (by have:=Bb.size;omega) ?_;intro v14 w1c o14 gg e14;have Bc:Below w w w1c:=(Bt hb Bb).grown gg (Bt hb Bb).size (fun g hg=>(o13.within g hg).1);clear gg;refine hK.out _ _ trivial (fun hHeld=>?_);clear hK K_
   (try simp only [pS])
   refine rC 9 (fun K_ hK=>?_);go_simp;refine hK.out _ _ trivial (fun hHeld=>?_);clear hK K_
   (try simp only [pS])
   refine Al Bm ?_ _;refine NoPanic.normal ?_;go_wp2;go_ret;exact ⟨_,rfl,by rw [HV.out];exact o14,Bc⟩
theorem Wd {l:List Task} {s:Int} : Dl l s=0 ↔ ∀ x∈l,x.state≠s:=by
 unfold Dl;rw [List.length_eq_zero_iff,List.filter_eq_nil_iff];constructor
 ·intro h x hx;simpa using h x hx
 ·intro h x hx;simpa using h x hx
theorem Aej (s:Int) (hs:s≠2) (L:List Nat):∀ (l:List Task),(∀ x∈l,x.state≠s) -> ∀ x∈L.foldl (fun l b=>Gu l b Dh) l,x.state≠s:=by
 induction L with
 | nil=>intro l h;exact h
 | cons b L ih =>
  intro l h;rw [List.foldl_cons];refine ih _ (fun x hx=>?_);unfold Gu at hx;rcases List.mem_or_eq_of_mem_set hx with h2 | h2
  ·exact h x h2
  ·subst h2;by_cases hb:b<l.length
   ·rw [List.getD_eq_getElem?_getD,List.getElem?_eq_getElem hb]
    have:=h _ (Aw hb)
    simp only [Option.getD_some,Dh];split
    ·exact fun e=>hs e.symm
    ·exact this
   ·rw [List.set_eq_of_length_le Bl] at hx;exact h _ hx
theorem Z6 {r:Run} {u:Nat} (h:H9 r u):stL (Im r u)=if Dl (Im r u) 4=r.tasks.length then 2 else r.state:=by
 obtain ⟨l5,l6,l4,ls⟩:=O6 h;have aJ:(Im r u).length=r.tasks.length:=by
  unfold Im;rw [Ky r u,Nk]
 have hu:u<r.tasks.length:=by have:=h.2.1.2;omega
 have h0:∀ s:Int,s≠4->s≠2->Dl r.tasks s=0->Dl (Im r u) s=0:=fun s h4 h2 hc=>by
  rw [Wd] at hc ⊢;refine Aej s h2 _ _ (fun x hx=>?_);rw [Kt hu] at hx;rcases List.mem_or_eq_of_mem_set hx with h | h
  ·exact hc x h
  ·subst h;exact fun e=>h4 e.symm
 have z5:=h0 5 Bp Bp l5;have z6:=h0 6 Bp Bp l6;unfold stL;rw [aJ,ls];split
 ·rfl
 ·rw [if_neg Bl,if_neg Bl,if_pos ⟨z5,z6⟩]
theorem Vl (f:Task->Task) (l:List Task) (L:List Nat) (k:Nat) (h:k<L.length):(L.take (k+1)).foldl (fun l b=>Gu l b f) l=Gu ((L.take k).foldl (fun l b=>Gu l b f) l) L[k] f:=by
 rw [List.take_succ_eq_append_getElem h,List.foldl_append];rfl
theorem Xl (gr o n c:Nat) (rs:List (Run×Ch.S)) (k:Nat) (G1 Fx G2:List Nat) (r:Run) (s:Sl×Sl) (u:Nat) (w:World) (hR:H9 r u) (hF:Foc Ch w gr o n c rs k G1 Fx G2 r s) :
  Calls Am 171 #[.pointer (Ac ⟨gr,o+k * 8,Ab⟩),J U u] w (Hk gr o n c rs k G1 Fx G2 (I1 r u) s w):=by
 have hu:u<r.tasks.length:=by have:=hR.2.1.2;omega
 have fH:=Dp hR.1;have HST:=Bq (Z6 hR);have hpf:=hR.1.2.1;obtain ⟨F1,b,o2,c2,rfl,bN,eL,op,oh,rH,cK⟩:=hF.atRun Bl;obtain ⟨s1,s2⟩:=s;obtain rfl:s2=_:=eL;have pL:=hF.blk;have mI:=(oh.block Bl).2.1;have pV:=(oh.block Bl).2.2;have g7:w.cell? ⟨gr,o+k * 8+7,Ab⟩=Ac (Aa (Ac ⟨b,o2,Ab⟩) r.tasks.length c2):=hF.cells 7 _ rfl;obtain ⟨_,_,hA,_,d0,d1,d2,d3⟩:=oh.rd.tsk hu;simp only [Option.some.injEq,Addr.mk.injEq,and_true] at hA;obtain ⟨rfl,rfl⟩:=hA;have jS:(u:Int)<(r.tasks.length:Int):=Bl;have gD:(0:Int)<=(u:Int):=Bl;have h1:=oh.taskState hu 4;have h2:=h1.taskUntil (j:=u) (by rw [Bh];exact hu) 0;simp only [List.getElem_set_self,List.set_set] at h2;have eC:Chg [b] w ((w.setCell ⟨b,o2+u * 4,Ab⟩ (J U 4)).setCell ⟨b,o2+u * 4+3,Ab⟩ (J U 0)):=(Chg.setCell w b _ _).trans (Chg.setCell _ b _ _);have op1:=Ca.ow_chg op eC (fun x hx h=>by rw [Au.1 h] at hx;exact cK hx);have F1_:=hF.sub (w':=(w.setCell ⟨b,o2+u * 4,Ab⟩ (J U 4)).setCell ⟨b,o2+u * 4+3,Ab⟩ (J U 0)) (y:=⟨r.id,r.plan,r.state,r.tasks.set u ⟨4,r.tasks[u].need,r.tasks[u].try_,0⟩⟩) (eC.blk Bn) ⟨F1,[b],rfl,bN,op1,Gg h2⟩ rfl;have hC1':Chg (gr :: (F1 ++ [b])) w ((w.setCell ⟨b,o2+u * 4,Ab⟩ (J U 4)).setCell ⟨b,o2+u * 4+3,Ab⟩ (J U 0)):=eC.blk Bn;have hM0:=Bq (show Gu r.tasks u (fun x=>⟨4,x.need,x.try_,0⟩)=r.tasks.set u ⟨4,r.tasks[u].need,r.tasks[u].try_,0⟩ from Kt hu _);go_enter Tryz.func171,Tryz.ntmps171;go_upto_region 2 with fail
 generalize (w.setCell ⟨b,o2+u * 4,Ab⟩ (J U 4)).setCell ⟨b,o2+u * 4+3,Ab⟩ (J U 0)=w1 at *
 have cV:∀ x∈r.tasks,0<=x.need/\x.need<=1000/\1<=x.state/\x.state<=6:=by
  intro x hx;obtain ⟨j,hj,rfl⟩:=List.getElem_of_mem hx;have h1:=hR.1.2.2.2.1 j hj;unfold Gt Ni at h1;rw [Cr hj] at h1;have h2:=Nt r (Dq (Dn r.plan) r.plan.tasks.toNat j);have h3:=Ij (Dn r.plan) r.plan.tasks.toNat j;have h5:=hR.1.2.2.1;have h6:H7 r j<=12:=by unfold H7;omega
  omega
 have hbnd:Hid (∀ x∈r.tasks.set u ⟨4,r.tasks[u].need,r.tasks[u].try_,0⟩,-0<=x.need/\x.need<=1000/\1<=x.state/\x.state<=6):=by
  intro x hx;rcases List.mem_or_eq_of_mem_set hx with h | h
  ·have:=cV x h;omega
  ·subst h
   have:=cV _ (Aw hu)
   refine ⟨?_,?_,?_,?_⟩<;>dsimp only<;>omega
 have qQ:r.plan.tasks.toNat=r.tasks.length:=by have:=hR.1.2.2.1;omega
 have CB:=Bq (Tj r.plan (Aa s1.a s1.n s1.c) u w1 hpf (H8 (Ca.ow_rd op1)));rw [qQ] at CB;have hBL:=Bq (Um (Dn r.plan) r.tasks.length u);have fZ:=Bq (Li (Dn r.plan) r.tasks.length u);have hDT:=Bq (show Im r u=(Fa (Dn r.plan) r.tasks.length u).foldl (fun l b=>Gu l b Dh) (r.tasks.set u ⟨4,r.tasks[u].need,r.tasks[u].try_,0⟩) by unfold Im;rw [qQ,hM0.out]);generalize tF:r.tasks.set u ⟨4,r.tasks[u].need,r.tasks[u].try_,0⟩=L0 at *
 have pD:=Bq (show L0.length=r.tasks.length by rw [<-tF,Bh]);generalize Fa (Dn r.plan) r.tasks.length u=BL at *
 clear tF cV hM0 d0 d1 d2 d3 g7 pV hF op oh h1 eC qQ hpf;obtain ⟨p0,p1,p2,p3,p4,p5,p6,p7⟩:=F1_.run;have pH:=F1_.blk;go_wp2_with fail
 refine CB.out.mono ?_;rintro e w2 ⟨v,rfl,o5,b2⟩;obtain ⟨Av,cv,rfl,-⟩:=_root_.id (Rd.of_own o5);have F2_:=F1_.sub (w':=w2) (y:=⟨r.id,r.plan,r.state,L0⟩) (Chg.of_below _ b2) ⟨F1,[b],rfl,bN,Ca.ow_below op1 b2,Gg (h2.below b2)⟩ rfl;have h3:=h2.below b2;have op2:=Ca.ow_below op1 b2;have jB:=hC1'.trans (Chg.of_below (gr :: (F1 ++ [b])) b2);have qU:=o5.within;have hbl1:=(h2.block (by have:=pD.out;omega)).2.1;have hr5:=Bq (show ∀ W,Chg [b] w2 W->Rd Ec W W (Aa Av BL.length cv) BL from fun W hW=>Rd.of_own (o5.grown hW.toGrown (.inr (fun e=>by have:=(qU _ e).1;omega))));clear p0 p1 p2 p3 p4 p5 p6 p7 F1_ h2 op1 hC1' CB o5 qU pH;have gM:=F2_.blk;have p7:w2.cell? ⟨gr,o+k * 8+7,Ab⟩=Ac (Aa (Ac ⟨b,o2,Ab⟩) r.tasks.length c2):=F2_.cells 7 _ rfl;have aQ:=b2.size;go_wp2;go_loopw [5,28] (fun x i wr=>∃ j:Nat,j<=BL.length/\i = J U j/\Hid (Hw E7 wr [b] (Aa (Ac ⟨b,o2,Ab⟩) r.tasks.length c2) ((BL.take j).foldl (fun l b=>Gu l b Dh) L0))/\Chg [b] w2 wr) (fun _ i _=>BL.length - (intOf i).toNat);case atStart=>exact ⟨0,Ag _,rfl,h3,Chg.refl _ _⟩
 case round =>
  obtain ⟨j,hj,rfl,hO,hC⟩:=hrel;have hlenj:((BL.take j).foldl (fun l b=>Gu l b Dh) L0).length=r.tasks.length:=by rw [Ky r u,pD.out]
  have g7:wr.cell? ⟨gr,o+k * 8+7,Ab⟩=Ac (Aa (Ac ⟨b,o2,Ab⟩) r.tasks.length c2):=(hC.cell (p:=⟨gr,o+k * 8+7,Ab⟩) gM (by simpa using rH)).trans p7;have fS:gr<wr:=Nat.lt_of_lt_of_le gM hC.size;by_cases aA:j<BL.length
  ·have aB:(j:Int)<(BL.length:Int):=Bl;have hB12:BL.length<=12:=by have:=fZ.out;omega
   have hj12:(j:Int)<12:=Bl;obtain ⟨b9,o9,rfl,tI,e0⟩:=(hr5.out wr hC).nat aA;have fJ:BL[j]<r.tasks.length:=hBL.out _ (Aw aA);have qK:=Qs (BL.take j) L0 0 hbnd.out (Int.le_refl 0);have hstp:=Bq (Vl Dh L0 BL j aA);generalize BL[j]=x at *
   generalize (BL.take j).foldl (fun l b=>Gu l b Dh) L0=M at *
   have uK:x<M.length:=Bl;have hnd1:=qK _ (Aw uK);have hjb:(BL.take j).length<=12:=by have:=fZ.out;rw [Az];omega
   have hstp2:=Bq (hstp.out.trans (Kt uK Dh));obtain ⟨_,_,hA,aH,d0,d1,d2,d3⟩:=hO.out.rd.tsk uK;simp only [Option.some.injEq,Addr.mk.injEq,and_true] at hA;obtain ⟨rfl,rfl⟩:=hA;have jE:=(hO.out.block Bl).2.2;have hxI:(x:Int)<(r.tasks.length:Int):=Bl;have sD:(0:Int)<=(x:Int):=Bl;have wr1:U.wrap (M[x].need - 1)=M[x].need - 1:=Aq _ Bl;have h4:=hO.out.part uK ⟨M[x].state,M[x].need - 1,M[x].try_,M[x].until_⟩ 1 [J U (M[x].need - 1)] (show 1+1<=4 by omega) (fun i hi=>by simp at hi;subst hi;rfl) (fun i hi ho=>by
    have:i<4:=hi;rcases (show i=0\/i=2\/i=3 by simp at ho;omega) with rfl | rfl | rfl<;>rfl)
   have h4:Hw E7 (wr.setCell ⟨b,o2+x * 4+1,Ab⟩ (J U (M[x].need - 1))) [b] (Aa (Ac ⟨b,o2,Ab⟩) r.tasks.length c2) (M.set x ⟨M[x].state,M[x].need - 1,M[x].try_,M[x].until_⟩):=h4;have eE:=hC.trans (Chg.setCell wr b (o2+x * 4+1) (J U (M[x].need - 1)));clear qK hstp hnd1;by_cases q:M[x].need - 1=0
   ·have hN:=Bq (show Dh M[x]=⟨2,M[x].need - 1,M[x].try_,M[x].until_⟩ by unfold Dh;rw [if_pos q]);have h5:=h4.taskState (j:=x) (by rw [Bh];exact uK) 2;simp only [List.getElem_set_self,List.set_set] at h5;have dG:=eE.trans (Chg.setCell _ b (o2+x * 4) (J U 2));have HN:=Bq (show Hw E7 ((wr.setCell ⟨b,o2+x * 4+1,Ab⟩ (J U (M[x].need - 1))).setCell ⟨b,o2+x * 4,Ab⟩ (J U 2)) [b] (Aa (Ac ⟨b,o2,Ab⟩) r.tasks.length c2) ((BL.take (j+1)).foldl (fun l b=>Gu l b Dh) L0) by rw [hstp2.out,hN.out];exact h5);rw [q] at HN dG;clear h4 h5 hO;go_wp2;exact ⟨⟨j+1,Bl,by go_num,HN,dG⟩,by simp [intOf];omega⟩
   ·have hN:=Bq (show Dh M[x]=⟨M[x].state,M[x].need - 1,M[x].try_,M[x].until_⟩ by unfold Dh;rw [if_neg q]);have qb:(M[x].need - 1 == 0)=false:=beq_eq_false_iff_ne.2 q;have HN:=Bq (show Hw E7 (wr.setCell ⟨b,o2+x * 4+1,Ab⟩ (J U (M[x].need - 1))) [b] (Aa (Ac ⟨b,o2,Ab⟩) r.tasks.length c2) ((BL.take (j+1)).foldl (fun l b=>Gu l b Dh) L0) by rw [hstp2.out,hN.out];exact h4);clear h4 hO q;go_wp2;exact ⟨⟨j+1,Bl,by go_num,HN,eE⟩,by simp [intOf];omega⟩
  ·have aB:¬ (j:Int)<(BL.length:Int):=Bl;have cN:=hO.out;rw [Bg Bl,<-hDT.out] at cN hlenj;have opr:=Ca.ow_chg op2 hC (fun x hx h=>by rw [Au.1 h] at hx;exact cK hx);have F3_:=F2_.sub (w':=wr) (y:=⟨r.id,r.plan,r.state,Im r u⟩) (hC.blk Bn) ⟨F1,[b],rfl,bN,opr,Gg cN⟩ rfl;have dP:=jB.trans (hC.blk (F:=gr :: (F1 ++ [b])) Bn);clear hO hC hr5;go_upto_region 10 with fail
   have HS:=Bq (show ∀ W,Below wr wr W->(fun w'=>w'.cell? ⟨gr,o+k * 8,Ab⟩=Ac (J U r.id)/\w'.cell? ⟨gr,o+k * 8+1,Ab⟩=Ac (J U r.plan.prio)/\w'.cell? ⟨gr,o+k * 8+2,Ab⟩=Ac (J U r.plan.most)/\w'.cell? ⟨gr,o+k * 8+3,Ab⟩=Ac (J U r.plan.wait)/\w'.cell? ⟨gr,o+k * 8+4,Ab⟩=Ac (J U r.plan.tasks)/\w'.cell? ⟨gr,o+k * 8+5,Ab⟩=Ac (Aa s1.a s1.n s1.c)/\w'.cell? ⟨gr,o+k * 8+6,Ab⟩=Ac (J U r.state)/\w'.cell? ⟨gr,o+k * 8+7,Ab⟩=Ac (Aa (Ac ⟨b,o2,Ab⟩) r.tasks.length c2)) W from fun W hW=>by
    have cD:Foc Ch W gr o n c rs k G1 (F1 ++ [b]) G2 ⟨r.id,r.plan,r.state,Im r u⟩ (s1,⟨Ac ⟨b,o2,Ab⟩,r.tasks.length,c2⟩):=F3_.sub (Chg.of_below _ hW) (Ch.ow_below F3_.here hW) rfl;exact cD.run)
   have eE:=dP.trans (Chg.of_below (gr :: (F1 ++ [b])) ((Br _ _).drew));have F4_:Foc Ch wr.drew gr o n c rs k G1 (F1 ++ [b]) G2 ⟨r.id,r.plan,r.state,Im r u⟩ (s1,⟨Ac ⟨b,o2,Ab⟩,r.tasks.length,c2⟩):=F3_.sub (Chg.of_below _ (Br _ _).drew) (Ch.ow_below F3_.here (Br _ _).drew) rfl;refine Go.wp_region_noPanic ?_;refine wp_region_held_drew (S:=(fun w'=>w'.cell? ⟨gr,o+k * 8,Ab⟩=Ac (J U r.id)/\w'.cell? ⟨gr,o+k * 8+1,Ab⟩=Ac (J U r.plan.prio)/\w'.cell? ⟨gr,o+k * 8+2,Ab⟩=Ac (J U r.plan.most)/\w'.cell? ⟨gr,o+k * 8+3,Ab⟩=Ac (J U r.plan.wait)/\w'.cell? ⟨gr,o+k * 8+4,Ab⟩=Ac (J U r.plan.tasks)/\w'.cell? ⟨gr,o+k * 8+5,Ab⟩=Ac (Aa s1.a s1.n s1.c)/\w'.cell? ⟨gr,o+k * 8+6,Ab⟩=Ac (J U r.state)/\w'.cell? ⟨gr,o+k * 8+7,Ab⟩=Ac (Aa (Ac ⟨b,o2,Ab⟩) r.tasks.length c2))) Bm (HS.out _ (Br _ _).drew) (fun hHeld=>?_);clear F3_ dP HS;generalize wr.drew=w5 at *
   refine tY 0 ?_
   (try simp only [pS])
   refine tY 1 ?_
   (try simp only [pS])
   refine tV 2 ?_
   (try simp only [pS])
   refine tY 5 ?_
   (try simp only [pS])
   refine tY 6 ?_
   (try simp only [pS])
   refine tY 7 ?_
   (try simp only [pS])
   refine tV 8 ?_
   (try simp only [pS])
   refine tY 9 ?_
   (try simp only [pS])
   have CT:=Bq (Ho ⟨r.id,r.plan,r.state,Im r u⟩ (s1,⟨Ac ⟨b,o2,Ab⟩,r.tasks.length,c2⟩) 4 w5 (by show (Im r u).length<=_;omega) (Ch.ow_rd F4_.here));refine rC 3 (fun K_ hK=>?_);go_simp;refine CT.out.mono ?_;rintro e w6 ⟨v6,rfl,o6,b6⟩;obtain ⟨A6,c6,rfl,-⟩:=_root_.id (Rd.of_own o6);rw [Ra];have sP:=eE.trans (Chg.of_below (gr :: (F1 ++ [b])) b6);have F6_:Foc Ch w6 gr o n c rs k G1 (F1 ++ [b]) G2 ⟨r.id,r.plan,r.state,Im r u⟩ (s1,⟨Ac ⟨b,o2,Ab⟩,r.tasks.length,c2⟩):=F4_.sub (Chg.of_below _ b6) (Ch.ow_below F4_.here b6) rfl;refine hK.out _ _ F6_.run (fun hHeld=>?_);clear hK K_ eE F4_ CT o6 b6
   (try simp only [pS])
   refine rC 4 (fun K_ hK=>?_);go_simp;refine hK.out _ _ hHeld (fun hHeld=>?_);clear hK K_
   (try simp only [pS])
   refine rC 10 (fun K_ hK=>?_);go_simp;refine hK.out _ _ hHeld (fun hHeld=>?_);clear hK K_
   (try simp only [pS])
   refine Al Bm ?_ _;refine NoPanic.normal ?_;clear hHeld;by_cases hq:Dl (Im r u) 4=r.tasks.length
   ·have hqI:((Dl (Im r u) 4:Int) == (r.tasks.length:Int))=true:=by simp [hq]
    have H:=Bq (show I1 r u=⟨r.id,r.plan,2,Im r u⟩ by unfold I1;rw [HST.out,if_pos hq]);have g6:w6.cell? ⟨gr,o+k * 8+6,Ab⟩=Ac (J U r.state):=F6_.cells 6 _ rfl;have gf:=F6_.free;have hgr6:=F6_.blk;obtain ⟨F7_,gA⟩:=F6_.put (y:=⟨r.id,r.plan,2,Im r u⟩) 6 [J U 2] (show 6+1<=8 by omega) (fun i hi=>by simp at hi;subst hi;rfl) (fun i hi ho=>by
     have:i<8:=hi;rcases (show i=0\/i=1\/i=2\/i=3\/i=4\/i=5\/i=7 by simp at ho;omega) with rfl | rfl | rfl | rfl | rfl | rfl | rfl<;>rfl) (fun W h=>h)
    have HF:=Bq (show Hk gr o n c rs k G1 (F1 ++ [b]) G2 (I1 r u) (s1,⟨Ac ⟨b,o2,Ab⟩,r.tasks.length,c2⟩) w (.returned (.tuple #[])) (w6.setCell ⟨gr,o+k * 8+6,Ab⟩ (J U 2)) from
     ⟨rfl,by rw [H.out];exact F7_,sP.trans (gA.blk Bn)⟩)
    clear F7_ gA F6_ hq;go_wp2;exact Aj (v:=.tuple #[]) (by simp [results,Tryz.results171,go_sem]) rfl HF.out
   ·have hqI:((Dl (Im r u) 4:Int) == (r.tasks.length:Int))=false:=beq_eq_false_iff_ne.2 Bl;have H:=Bq (show I1 r u=⟨r.id,r.plan,r.state,Im r u⟩ by unfold I1;rw [HST.out,if_neg hq]);have HF:=Bq (show Hk gr o n c rs k G1 (F1 ++ [b]) G2 (I1 r u) (s1,⟨Ac ⟨b,o2,Ab⟩,r.tasks.length,c2⟩) w (.returned (.tuple #[])) w6 from ⟨rfl,by rw [H.out];exact F6_,sP⟩);clear F6_ hq;go_wp2;exact Aj (v:=.tuple #[]) (by simp [results,Tryz.results171,go_sem]) rfl HF.out
theorem Ms (r:Run) (t:Nat) (now:Int):(Du r t now).tasks.length=r.tasks.length:=by
 simp [Du,Nk]
theorem Abc (r:Run) (t:Nat) (now:Int) (h:t<r.tasks.length):((Du r t now).tasks[t]'(by rw [Ms];exact h)).try_=r.tasks[t].try_+1:=by
 unfold Du;simp only [Kt h,List.getElem_set_self]
def Sq (o:Yard×Reply) (w:World) (e:Ending) (w':World):Prop :=
 ∃ (s:Sl×Sl) (F:List Nat),e = .returned (.tuple #[Dg o.1 s,Aev o.2 ()])/\Bu.ow w' F o.1 s/\(∀ b∈F,w<=b)/\Below w w w'
theorem P4 {b c:Nat} {w:World} {u0 u1 u2 u3 v0 v1 v2 v3:Value} (X:DBox b [u0,u1,u2,u3] w) (Y:DBox c [v0,v1,v2,v3] w) {x0 x1 x2 x3 x4 x5:Value} {rest:List Value} :
  (results Tryz.f144 (x0 :: x1 :: x2 :: x3 :: x4 :: x5 :: .pointer (Ac ⟨b,0,Ab⟩) :: .pointer (Ac ⟨c,0,Ab⟩) :: rest).toArray).run Am w = .ok (.tuple #[.agg #[u0,u1,u2,u3],.agg #[v0,v1,v2,v3]]) w:=by
 have c0:=X.cell 0 _ rfl;have c1:=X.cell 1 _ rfl;have c2:=X.cell 2 _ rfl;have c3:=X.cell 3 _ rfl;have d0:=Y.cell 0 _ rfl;have d1:=Y.cell 1 _ rfl;have d2:=Y.cell 2 _ rfl;have d3:=Y.cell 3 _ rfl;simp [results,Tryz.results144,go_sem,c0,c1,c2,c3,d0,d1,d2,d3]
theorem Chg.cells4 (w:World) (b i j k l:Nat) (u0 u1 u2 u3:Value):Chg [b] w ((((w.setCell ⟨b,i,Ab⟩ u0).setCell ⟨b,j,Ab⟩ u1).setCell ⟨b,k,Ab⟩ u2).setCell ⟨b,l,Ab⟩ u3) :=
 (((Chg.setCell w b i u0).trans (Chg.setCell _ b j u1)).trans (Chg.setCell _ b k u2)).trans (Chg.setCell _ b l u3)
theorem OwL.block_mem {α:Type} {d:Dt α} {w:World} {F:List Nat} {b o n c:Nat} {l:List α} (h:OwL d w F (Aa (Ac ⟨b,o,Ab⟩) n c) l) (hp:0<l.length):b∈F:=by
 obtain ⟨_,_,_,_,_,hb,_⟩:=h.elem hp;exact hb
abbrev Eh (y:Yard) (s:Sl×Sl):List Value:=[.int .i64 y.now,.int .i64 y.seq,.slice s.1.a s.1.n s.1.c,.slice s.2.a s.2.n s.2.c]
theorem Xm (y:Yard) (s:Sl×Sl) (worker:Int) (d:Nat) (w:World) (hl:Cb y<=2000000) (hd:d<=1000000000) (h:Bu.rd w w y s) :
  Calls Am 144 #[Dg y s,J U worker,J U (d:Int)] w (Sq (Io y worker d) w):=by
 have HR:=Bq (show ∀ W,Below w w W->Bu.rd W W y s from fun W hW=>Bu.rd_more (Bu.rd_below h hW) hW.size);obtain ⟨⟨A1,n1,c1⟩,⟨A2,n2,c2⟩⟩:=s;have CC:=Bq (fun W hW=>Ed y (⟨A1,n1,c1⟩,⟨A2,n2,c2⟩) W hl (HR.out W hW));have CY:=Bq (fun W hW=>Fj y (⟨A1,n1,c1⟩,⟨A2,n2,c2⟩) W hl (HR.out W hW));clear h;obtain ⟨W,aG,X,RES,RP,B0⟩:=bx3 w 31 [J U y.now,J U y.seq,Aa A1 n1 c1,Aa A2 n2 c2] 31 [J U 0,J U 0,Aa Ab 0 0,Aa Ab 0 0] 69 [J U 0,J U 0,J U 0,J U 0];go_enter Tryz.func144,Tryz.ntmps144;go_wp2_with fail
 rw [<-aG.out];clear aG;have hPl:w.heap.size+1+1<W.heap.size:=RP.lt;refine (CY.out _ B0).mono ?_;rintro e1 w1 ⟨rfl,b1⟩;replace X:=X.below b1;replace RES:=RES.below b1;replace RP:=RP.below b1;have X_:=X.g4;obtain ⟨RES_0,RES_1,RES_2,RES_3,RES_l⟩:=RES.g4;obtain ⟨RP_0,RP_1,RP_2,RP_3,RP_l⟩:=RP.g4;have aN:=Bt B0 b1;have hBs:=B0.size;have mQ:=b1.size;clear B0 b1 CY;by_cases p0:Dd y;case neg =>
  have H:=Bq (show Io y worker d=(y,⟨8,0,0,0⟩) from if_pos p0);rw [Cf p0];clear p0;clear RES_0 RES_1 RES_2 RES_3 RES_l;clear RP_0 RP_1 RP_2 RP_3 RP_l;go_wp2_with fail
  refine (CC.out _ aN).mono ?_;rintro e1 w2 ⟨⟨⟨B1,m1,e1⟩,⟨B2,m2,e2⟩⟩,F,rfl,oy,nF,b2⟩;replace RES:=RES.below b2;replace RP:=RP.below b2;obtain ⟨RES_0,RES_1,RES_2,RES_3,RES_l⟩:=RES.g4;obtain ⟨RP_0,RP_1,RP_2,RP_3,RP_l⟩:=RP.g4;have rf:=RES.free;have pf:=RP.free;have aF:=Bt aN b2;go_wp2;have en1:w.heap.size+1∉F:=fun hx=>by have:=nF _ hx;omega
  have en2:w.heap.size+1+1∉F:=fun hx=>by have:=nF _ hx;omega
  have aC:w.heap.size+1+1≠w.heap.size+1:=Bl;have RES2:=DBox.row4 RES rfl (J U y.now) (J U y.seq) (Aa B1 m1 e1) (Aa B2 m2 e2);have RP2:=DBox.row4 ((((RP.setOther (a:=⟨w.heap.size+1,0,Ab⟩) aC (J U y.now)).setOther (a:=⟨w.heap.size+1,1,Ab⟩) aC (J U y.seq)).setOther (a:=⟨w.heap.size+1,2,Ab⟩) aC (Aa B1 m1 e1)).setOther (a:=⟨w.heap.size+1,3,Ab⟩) aC (Aa B2 m2 e2)) rfl (J U 8) (J U 0) (J U 0) (J U 0);have RES3:=(((RES2.setOther (a:=⟨w.heap.size+1+1,0,Ab⟩) aC.symm (J U 8)).setOther (a:=⟨w.heap.size+1+1,1,Ab⟩) aC.symm (J U 0)).setOther (a:=⟨w.heap.size+1+1,2,Ab⟩) aC.symm (J U 0)).setOther (a:=⟨w.heap.size+1+1,3,Ab⟩) aC.symm (J U 0);refine Aj (P4 RES3 RP2) rfl ⟨(⟨B1,m1,e1⟩,⟨B2,m2,e2⟩),F,by rw [H.out],by rw [H.out];exact (by (repeat (refine Dt.ow_set Bu ?_ (by first | exact en1 | exact en2) _));exact (show Bu.ow _ F y (⟨B1,m1,e1⟩,⟨B2,m2,e2⟩) from oy)),fun x hx=>by have:=nF x hx;omega,?_⟩;repeat (first | (with_reducible exact aF) | refine Ad ?_ Bo _)
 rw [Dj p0];cases p1:inB worker 0 99;case false =>
  have H:=Bq (show Io y worker d=(y,⟨5,0,0,0⟩) by unfold Io;rw [if_neg (fun h=>h p0),if_pos p1]);clear p0;clear RES_0 RES_1 RES_2 RES_3 RES_l;clear RP_0 RP_1 RP_2 RP_3 RP_l;go_wp2_with (go_at_call 155;refine (Ce _ _ _ _).mono ?_;rintro e w9 ⟨rfl,rfl⟩;rw [p1])
  refine (CC.out _ aN).mono ?_;rintro e1 w2 ⟨⟨⟨B1,m1,e1⟩,⟨B2,m2,e2⟩⟩,F,rfl,oy,nF,b2⟩;replace RES:=RES.below b2;replace RP:=RP.below b2;obtain ⟨RES_0,RES_1,RES_2,RES_3,RES_l⟩:=RES.g4;obtain ⟨RP_0,RP_1,RP_2,RP_3,RP_l⟩:=RP.g4;have rf:=RES.free;have pf:=RP.free;have aF:=Bt aN b2;go_wp2;have en1:w.heap.size+1∉F:=fun hx=>by have:=nF _ hx;omega
  have en2:w.heap.size+1+1∉F:=fun hx=>by have:=nF _ hx;omega
  have aC:w.heap.size+1+1≠w.heap.size+1:=Bl;have RES2:=DBox.row4 RES rfl (J U y.now) (J U y.seq) (Aa B1 m1 e1) (Aa B2 m2 e2);have RP2:=DBox.row4 ((((RP.setOther (a:=⟨w.heap.size+1,0,Ab⟩) aC (J U y.now)).setOther (a:=⟨w.heap.size+1,1,Ab⟩) aC (J U y.seq)).setOther (a:=⟨w.heap.size+1,2,Ab⟩) aC (Aa B1 m1 e1)).setOther (a:=⟨w.heap.size+1,3,Ab⟩) aC (Aa B2 m2 e2)) rfl (J U 5) (J U 0) (J U 0) (J U 0);have RES3:=(((RES2.setOther (a:=⟨w.heap.size+1+1,0,Ab⟩) aC.symm (J U 5)).setOther (a:=⟨w.heap.size+1+1,1,Ab⟩) aC.symm (J U 0)).setOther (a:=⟨w.heap.size+1+1,2,Ab⟩) aC.symm (J U 0)).setOther (a:=⟨w.heap.size+1+1,3,Ab⟩) aC.symm (J U 0);refine Aj (P4 RES3 RP2) rfl ⟨(⟨B1,m1,e1⟩,⟨B2,m2,e2⟩),F,by rw [H.out],by rw [H.out];exact (by (repeat (refine Dt.ow_set Bu ?_ (by first | exact en1 | exact en2) _));exact (show Bu.ow _ F y (⟨B1,m1,e1⟩,⟨B2,m2,e2⟩) from oy)),fun x hx=>by have:=nF x hx;omega,?_⟩;repeat (first | (with_reducible exact aF) | refine Ad ?_ Bo _)
 have pp:=Cv.1 p1;have HP:=Bq p0;obtain ⟨wk,rfl⟩:=Ap pp.1;have hm:((wk:Int).tmod 4)=((wk % 4:Nat):Int):=by rw [Int.tmod_eq_emod_of_nonneg Bl];omega
 have hmw:U.wrap ((wk % 4:Nat):Int)=((wk % 4:Nat):Int):=Aq _ Bl;have pM:(wk:Int) % 4=((wk % 4:Nat):Int):=Bl;have hh:=Nat.mod_lt wk (show 0<4 by decide);have H:=Bq (show Io y wk d=M6 (Lb y ((wk % 4:Nat):Int) d) (wk % 4) by unfold Io;rw [if_neg (fun h=>h p0),if_neg (by rw [p1];simp),pM,Ao]);have aZ:=Pol.start p0 hh;have h4:=p0.2.2.1;clear p0 pp pM;generalize wk % 4=home at *
 have CS:=Bq (fun W hW=>On y (⟨A1,n1,c1⟩,⟨A2,n2,c2⟩) home W Bl hl (HR.out W hW));have CV:=Bq (fun W=>Sf home d W hh hd);have HG:Hid (Lb y (home:Int) d=(D9 home d).foldl (Ea home) (Bz y home)):=by
  show Lb y (home:Int) d=_;unfold Lb;rw [Ao]
 clear RES_0 RES_1 RES_2 RES_3 RES_l;clear RP_0 RP_1 RP_2 RP_3 RP_l;go_wp2_with (go_at_call 155;refine (Ce _ _ _ _).mono ?_;rintro e w9 ⟨rfl,rfl⟩;rw [p1])
 refine (CS.out _ aN).mono ?_;rintro e1 w2 ⟨s2,F,rfl,oy,nF,b2⟩;clear X_;clear X CC HR CS;replace RES:=RES.below b2;replace RP:=RP.below b2;have aF:=Bt aN b2;have hb2s:=b2.size;clear aN b2 hm hmw;have cH:=Bu.ow_lt oy;have kU:Hid (Bz y home=Bz y home):=rfl;go_upto_region 7 with fail
 have OB:=DBox.new 31 (Eh (Bz y home) s2) w2 (b:=w2.heap.size) rfl;have b3:Below w2 w2 (w2.alloc (.cells (Eh (Bz y home) s2).toArray 31)):=(Br _ _).alloc (Bs _) _;replace RES:=RES.below b3;replace RP:=RP.below b3;replace oy:=Bu.ow_below oy b3;have cA:=Bt aF b3;have hb3s:=b3.size;have jU:=OB.lt;have hPl2:w.heap.size+1+1<w2.heap.size:=Bl;generalize w2.alloc (.cells (Eh (Bz y home) s2).toArray 31)=w3 at *
 go_wp2_with fail
 refine (CV.out _).mono ?_;rintro e1 w4 ⟨v,rfl,ov,b4⟩;replace RES:=RES.below b4;replace RP:=RP.below b4;replace OB:=OB.below b4;replace oy:=Bu.ow_below oy b4;have bR:=Bt cA b4;obtain ⟨fI,rZ⟩:=Hw.of_ow ov;obtain ⟨A9,c9,rfl,-⟩:=id (Rd.of_own ov);have rI:=Rj home d;have nZ:=Bq (O7 (home:=(home:Int)) (draw:=d));have nB:=Bq (show ∀ v∈D9 home d,v≠home from fun v hv=>by have:=O8 (home:=(home:Int)) (draw:=d) Bl Bl v hv;omega);have cJ:w2.heap.size<w3.heap.size:=jU;have aC:∀ x∈Dz (Aa A9 (D9 home d).length c9) (D9 home d).length,x∉F/\w2<x:=fun x hx=>⟨fun hF=>by have h1:=rZ x hx;have h2:=cH x hF;omega,by have:=rZ x hx;omega⟩
 have fV:(∀ x∈F,w.heap.size+1+1<x)/\w2.heap.size∉F:=⟨fun x hx=>by have:=nF x hx;omega,fun hx=>by have:=cH _ hx;omega⟩
 generalize Dz (Aa A9 (D9 home d).length c9) (D9 home d).length=Fv at *
 generalize D9 home d=L at *
 rw [rI] at fI;rw [rI];generalize Bz y home=Z0 at *
 have sS:w.heap.size+1+1<w2.heap.size:=hPl2;generalize w2.heap.size=ob at *
 clear cH nF rZ;go_wp2;go_loopw [11,12,13] (fun i u1 u2 wr=>∃ (k:Nat) (s:Sl×Sl) (F:List Nat),k<=3/\i = J U k/\Hid (Pol y home ((L.take k).foldl (Ea home) Z0))/\Hid (Bu.ow wr F ((L.take k).foldl (Ea home) Z0) s)/\Hid ((∀ x∈F,w.heap.size+1+1<x)/\ob∉F /\ ∀ x∈Fv,x∉F)/\Hid (Hw Ec wr Fv (Aa A9 3 c9) L)/\DBox ob (Eh ((L.take k).foldl (Ea home) Z0) s) wr/\DBox (w.heap.size+1) [J U 0,J U 0,Aa Ab 0 0,Aa Ab 0 0] wr/\DBox (w.heap.size+1+1) [J U 0,J U 0,J U 0,J U 0] wr/\Below w w wr) (fun i _ _ _=>3 - (intOf i).toNat);case atStart=>exact ⟨0,s2,F,Ag _,rfl,aZ,oy,⟨fV.1,fV.2,fun x hx=>(aC x hx).1⟩,fI,OB,RES,RP,bR⟩
 case round =>
  have rN:∀ x∈Fv,ob<x:=fun x hx=>(aC x hx).2;clear aZ oy fV fI OB RES RP bR aC ov b4;obtain ⟨k,s,F,hk,rfl,aZ,oy,hF,fI,OB,RES,RP,hb⟩:=hrel;have aE:Hid (∀ h:k<L.length,(L.take (k+1)).foldl (Ea home) Z0=Ea home ((L.take k).foldl (Ea home) Z0) L[k]):=fun h=>J2 (Ea home) Z0 L k h;have dE:Hid ((k=3 \/ ¬ (((L.take k).foldl (Ea home) Z0).shelf.getD home []).length=0)->L.foldl (Ea home) Z0=(L.take k).foldl (Ea home) Z0):=by
   intro h;rcases h with h | h
   ·rw [Bg Bl]
   ·have e:L.foldl (Ea home) Z0=(L.drop k).foldl (Ea home) ((L.take k).foldl (Ea home) Z0):=by
     rw [<-List.foldl_append,List.take_append_drop]
    rw [e];exact Lx _ _ h
  generalize (L.take k).foldl (Ea home) Z0=Zk at *
  obtain ⟨⟨B1,m1,e1⟩,⟨B2,m2,e2⟩⟩:=s;have sC:=aZ.out.four;have oyr:=Bu.ow_rd oy.out;have mE:home<Zk.shelf.length:=Bl;obtain rfl:m1=4:=(RdL.at1 (s:=⟨B1,m1,e1⟩) oyr.1).trans sC;obtain ⟨g,o,⟨xa,xn,xc⟩,rfl,fS,eV,ch⟩:=RdL.entryS (show RdL (Dt.list Bx) wr wr.heap.size (Aa B1 4 e1) Zk.shelf from oyr.1) mE;obtain rfl:xn=Zk.shelf[home].length:=RdL.at1 (s:=⟨xa,xn,xc⟩) eV;have hhI:(home:Int)<4:=Bl;have hh0:(0:Int)<=(home:Int):=Bl;have pZ:=aZ.out.all _ (Aw mE);obtain ⟨OB_0,OB_1,OB_2,OB_3,OB_l⟩:=OB.g4;have cU:=Bq (Fz mE);have hwrs:=hb.size;have hRPl:=RP.lt;have hobl:=OB.lt;rcases (show (k<3/\Zk.shelf[home].length=0)\/(k<3 /\ ¬ Zk.shelf[home].length=0) \/ ¬ k<3 by by_cases k<3<;>by_cases Zk.shelf[home].length=0<;>simp [*]) with ⟨aA,hq⟩ | ⟨aA,hq⟩ | aA
  ·have aB:(k:Int)<3:=Bl
   ·have qT:((Zk.shelf[home].length:Int) == 0)=true:=by simp [hq]
    have mX:k<L.length:=Bl;have hv4:L[k]<4:=nZ.out _ (Aw mX);have jF:L[k]≠home:=nB.out _ (Aw mX);obtain ⟨gv,ov,rfl,hgv,cv⟩:=fI.out.rd.nat mX;replace aE:=Bq (aE.out mX);have bF:=fI.out.block Bl;generalize L[k]=v at *
    have hP1:Hid (Pol y home (J4 home Zk v)):=by
     have h1:=aZ.out.step hh hv4 jF;rw [Mf (by rw [cU.out];exact hq) jF] at h1;exact h1
    replace aE:=Bq (aE.out.trans (Mf (by rw [cU.out];exact hq) jF));have hE0:=Bq (show (Bz Zk v).shelf.getD home []=[] by rw [Qt jF,cU.out];exact List.eq_nil_of_length_eq_zero hq);have gE:=fI.out.lt;have hvI:(v:Int)<4:=Bl;have hv0:(0:Int)<=(v:Int):=Bl;have dB:(0:Int)<=(k:Int):=Bl;have hzc:=aZ.out.cnt HP.out;have CS:=Bq (On Zk (⟨Ac ⟨g,o,Ab⟩,4,e1⟩,⟨B2,m2,e2⟩) v wr.drew Bl hzc (Bu.rd_below oyr (Br _ _).drew));clear hq;go_wp2;refine Cz (fun w'=>w'.cell? ⟨ob,0,Ab⟩=Ac (J U Zk.now)/\w'.cell? ⟨ob,1,Ab⟩=Ac (J U Zk.seq)/\w'.cell? ⟨ob,2,Ab⟩=Ac (Aa (Ac ⟨g,o,Ab⟩) 4 e1)/\w'.cell? ⟨ob,3,Ab⟩=Ac (Aa B2 m2 e2)/\w'.cell? ⟨gv,ov+k,Ab⟩=Ac (J U (v:Int))) 6 Bm ?_ (fun hHeld=>?_)
    ·exact ⟨OB_0,OB_1,OB_2,OB_3,cv⟩
    refine aT 0 hHeld ?_;try simp only [pS]
    refine aT 1 hHeld ?_;try simp only [pS]
    refine aT 2 hHeld ?_;try simp only [pS]
    refine aT 3 hHeld ?_;try simp only [pS]
    refine aT 4 hHeld ?_;try simp only [pS]
    refine oT 5 (fun K hK=>?_)
    (go_simp;refine CS.out.mono ?_;rintro e w2 ⟨⟨⟨C1,p1,f1⟩,⟨C2,p2,f2⟩⟩,F2,rfl,oy2,n2,b2⟩;have OB2:=OB.below (Bt (Br _ _).drew b2);have k0:=OB2.cell 0 _ rfl;have k1:=OB2.cell 1 _ rfl;have k2:=OB2.cell 2 _ rfl;have k3:=OB2.cell 3 _ rfl;have kf:=OB2.free;have kl:=OB2.lt)
    refine hK.out _ _ (fun _=>?_) ?_
    ·exact ⟨(b2.cell (p:=⟨_,_,Ab⟩) (by show ob<wr;omega)).trans OB_0,(b2.cell (p:=⟨_,_,Ab⟩) (by show ob<wr;omega)).trans OB_1,(b2.cell (p:=⟨_,_,Ab⟩) (by show ob<wr;omega)).trans OB_2,(b2.cell (p:=⟨_,_,Ab⟩) (by show ob<wr;omega)).trans OB_3,(b2.cell (p:=⟨_,_,Ab⟩) (by show gv<wr;omega)).trans cv⟩
    clear hK K;try simp only [pS]
    refine oT 6 (fun K hK=>?_);go_simp;refine hK.out _ _ (fun aC=>absurd rfl aC) ?_;clear hK K;try simp only [pS]
    refine Dr Bm ?_ _;have b2':Below wr wr w2:=Bt (Br _ _).drew b2;clear k0 k1 k2 k3 kf kl hHeld;have OB3:=DBox.row4 OB2 rfl (J U (Bz Zk v).now) (J U (Bz Zk v).seq) (Aa C1 p1 f1) (Aa C2 p2 f2);have dP:=Chg.cells4 w2 ob 0 1 2 3 (J U (Bz Zk v).now) (J U (Bz Zk v).seq) (Aa C1 p1 f1) (Aa C2 p2 f2);have eG:=Bq (show ∀ x,x∈[ob]->x=ob from fun x hx=>by simpa using hx);have RES3:=(RES.below b2').chg dP (fun hx=>by have:=eG.out _ hx;omega);have RP3:=(RP.below b2').chg dP (fun hx=>by have:=eG.out _ hx;omega);have dN:=(fI.out.below b2').chg dP (fun x hx hx2=>by have h1:=eG.out _ hx2;have h2:=rN x hx;omega);have eJ:ob∉F2:=fun hx=>by have h1:=n2 _ hx;have h2:wr.drew.heap.size=wr.heap.size:=rfl;have h3:=OB_l;omega
    have oy3:=Bu.ow_chg oy2 dP (fun x hx hx2=>by have:=eG.out _ hx2;subst this;exact eJ hx);have cA:Below w w _:=(Bt hb b2').trans (dP.below (by have:=b2'.size;omega) (fun x hx=>by have:=eG.out _ hx;omega));have fW:∀ x∈F2,wr<=x:=n2;have eL:=b2'.size;have jP:=dP.size;replace cv:=(dP.cell (p:=⟨gv,_,Ab⟩) (by show gv<w2;omega) (fun hx=>by have h1:gv=ob:=eG.out _ hx;have h2:=rN gv (by rw [bF.1];simp);omega)).trans ((b2'.cell (p:=⟨gv,_,Ab⟩) (by show gv<wr;omega)).trans cv);have pG:∀ x∈F2,w.heap.size+1+1<x:=fun x hx=>by have h1:=fW x hx;have h2:=RP.lt;omega
    clear OB_0 OB_1 OB_2 OB_3 OB_l;clear OB RES RP fI oy oy2 n2 b2 b2' hb OB2 oyr eV ch hF CS;generalize (((w2.setCell ⟨ob,0,Ab⟩ (J U (Bz Zk v).now)).setCell ⟨ob,1,Ab⟩ (J U (Bz Zk v).seq)).setCell ⟨ob,2,Ab⟩ (Aa C1 p1 f1)).setCell ⟨ob,3,Ab⟩ (Aa C2 p2 f2)=w3 at *
    have OB:=OB3;clear OB3;obtain ⟨OB_0,OB_1,OB_2,OB_3,OB_l⟩:=OB.g4;have h41:(Bz Zk v).shelf.length=4:=by rw [Me];exact sC
    have oyr3:=Bu.ow_rd (F:=F2) (x:=Bz Zk v) oy3;obtain rfl:p1=4:=(RdL.at1 (s:=⟨C1,p1,f1⟩) oyr3.1).trans h41;have jA:v<(Bz Zk v).shelf.length:=Bl;obtain ⟨g2,o2,⟨va,vn,vc⟩,rfl,kN,vA,cv2⟩:=RdL.entryS (show RdL (Dt.list Bx) w3 w3.heap.size (Aa C1 4 f1) (Bz Zk v).shelf from oyr3.1) jA;have jZ:=N1 (i:=v) aZ.out.all;have gQ:=jZ _ (Aw jA);have CH:=Bq (W8 (Bz Zk v).shelf[v] ⟨va,vn,vc⟩ w3.drew Bl (RdL.below vA (Br _ _).drew));have hgvw:gv<w3:=Bl;go_wp2;refine Go.wp_region_noPanic ?_;refine wp_region_held_drew (S:=(fun w'=>w'.cell? ⟨ob,2,Ab⟩=Ac (Aa (Ac ⟨g2,o2,Ab⟩) 4 f1)/\w'.cell? ⟨gv,ov+k,Ab⟩=Ac (J U (v:Int))/\w'.cell? ⟨g2,o2+v,Ab⟩=Ac (Aa va vn vc))) Bm ⟨OB_2,cv,cv2⟩ (fun hHeld=>?_);refine tY 0 ?_
    (try simp only [pS])
    refine tY 1 ?_
    (try simp only [pS])
    refine tY 2 ?_
    (try simp only [pS])
    refine tY 3 ?_
    (try simp only [pS])
    refine tY 4 ?_
    (try simp only [pS])
    refine tY 5 ?_
    (try simp only [pS])
    refine tY 6 ?_
    (try simp only [pS])
    refine tY 7 ?_
    (try simp only [pS])
    refine rC 8 (fun K_ hK=>?_);go_simp;refine CH.out.mono ?_;rintro e w4 ⟨⟨qa1,qn1,qc1⟩,Fh1,⟨qa2,qn2,qc2⟩,Fh2,rfl,oh1,oh2,nh1,nh2,dh,b4⟩;refine hK.out _ _ ⟨(b4.cell (p:=⟨_,_,Ab⟩) (by show ob<w3;omega)).trans OB_2,(b4.cell (p:=⟨_,_,Ab⟩) (by show gv<w3;omega)).trans cv,(b4.cell (p:=⟨_,_,Ab⟩) (by show g2<w3;omega)).trans cv2⟩ (fun hHeld=>?_);clear hK K_
    (try simp only [pS])
    refine tY 9 ?_
    (try simp only [pS])
    refine tY 10 ?_
    (try simp only [pS])
    refine tY 11 ?_
    (try simp only [pS])
    refine tY 12 ?_
    (try simp only [pS])
    refine tY 13 ?_
    (try simp only [pS])
    refine Al Bm ?_ _;refine NoPanic.normal ?_;have b4':Below w3 w3 w4:=Bt (Br _ _).drew b4;have kY:=b4'.size;have hnh1:∀ x∈Fh1,w3<=x:=nh1;have kT:∀ x∈Fh2,w3<=x:=nh2;replace oy3:Bu.ow w3 F2 (Bz Zk v) (⟨Ac ⟨g2,o2,Ab⟩,4,f1⟩,⟨C2,p2,f2⟩):=oy3;have hfl2:=Bu.ow_lt (F:=F2) (x:=Bz Zk v) (s:=(⟨Ac ⟨g2,o2,Ab⟩,4,f1⟩,⟨C2,p2,f2⟩)) oy3;clear OB_0 OB_1 OB_2 OB_3 OB_l;replace OB:=OB.below b4';replace RES3:=RES3.below b4';replace RP3:=RP3.below b4';replace dN:=dN.below b4';replace oy3:Bu.ow w4 F2 (Bz Zk v) (⟨Ac ⟨g2,o2,Ab⟩,4,f1⟩,⟨C2,p2,f2⟩):=owB oy3 b4';replace cA:=Bt cA b4';replace cv:=(b4'.cell (p:=⟨gv,_,Ab⟩) (by show gv<w3;omega)).trans cv;replace cv2:=(b4'.cell (p:=⟨g2,_,Ab⟩) (by show g2<w3;omega)).trans cv2;clear nh1 nh2 b4 b4' hHeld CH oyr3 vA;obtain ⟨OB_0,OB_1,OB_2,OB_3,OB_l⟩:=OB.g4;have jY:∀ j,w4.frozen? ⟨g2,j,Ab⟩=false:=by
     obtain ⟨G1,G2,_,_,os,_⟩:=oy3;exact OwL.free0 (show OwL (Dt.list Bx) w4 G1 (Aa (Ac ⟨g2,o2,Ab⟩) 4 f1) (Bz Zk v).shelf from os) Bl
    have mD:g2<w4:=Bl;have hgvw4:gv<w4:=Bl;go_wp2;refine Cz (fun w'=>w'.cell? ⟨ob,2,Ab⟩=Ac (Aa (Ac ⟨g2,o2,Ab⟩) 4 f1)/\w'.cell? ⟨gv,ov+k,Ab⟩=Ac (J U (v:Int))) 8 Bm ?_ (fun hHeld=>?_)
    ·exact ⟨OB_2,cv⟩
    refine aT 0 hHeld ?_;try simp only [pS]
    refine aT 1 hHeld ?_;try simp only [pS]
    refine aT 2 hHeld ?_;try simp only [pS]
    refine aT 3 hHeld ?_;try simp only [pS]
    refine aT 4 hHeld ?_;try simp only [pS]
    refine aT 5 hHeld ?_;try simp only [pS]
    refine aT 6 hHeld ?_;try simp only [pS]
    refine aT 7 hHeld ?_;try simp only [pS]
    refine oT 8 (fun K hK=>?_);go_simp;refine hK.out _ _ (fun aC=>absurd rfl aC) ?_;clear hK K;try simp only [pS]
    refine Dr Bm ?_ _;obtain ⟨F5,oy5,hF5,jL⟩:=Fg oy3 jA (l:=(Bz Zk v).shelf[v].drop (Cx (Bz Zk v).shelf[v])) (t:=⟨qa2,qn2,qc2⟩) oh2 (fun x hx bF=>by have h1:=kT x hx;have h2:=hfl2 x bF;omega);replace oy5:Bu.ow (w4.setCell ⟨g2,o2+v,Ab⟩ (Aa qa2 qn2 qc2)).drew F5 ⟨(Bz Zk v).now,(Bz Zk v).seq,(Bz Zk v).shelf.set v ((Bz Zk v).shelf[v].drop (Cx (Bz Zk v).shelf[v])),(Bz Zk v).runs⟩ (⟨Ac ⟨g2,o2,Ab⟩,4,f1⟩,⟨C2,p2,f2⟩):=owB oy5 (Br _ _).drew;have dG:Chg [g2] w4 (w4.setCell ⟨g2,o2+v,Ab⟩ (Aa qa2 qn2 qc2)).drew:=(Chg.setCell w4 g2 _ _).drew;have bM:=Bq (show ∀ x,x∈[g2]->x=g2 from fun x hx=>by simpa using hx);have hg2gt:=pG _ jL;have hg2n:=fW _ jL;have eB:ob≠g2:=fun h=>eJ (by rw [h];exact jL);clear OB_0 OB_1 OB_2 OB_3 OB_l;replace OB:=OB.chg dG (fun hx=>eB (bM.out _ hx));replace RES3:=RES3.chg dG (fun hx=>by have:=bM.out _ hx;omega);replace RP3:=RP3.chg dG (fun hx=>by have:=bM.out _ hx;omega);replace dN:=dN.chg dG (fun x hx hx2=>by have h1:=bM.out _ hx2;have h2:=gE x hx;omega);have oh1':=oh1.chg dG (fun x hx hx2=>by have h1:=bM.out _ hx2;have h2:=hnh1 x hx;omega);replace cA:=cA.trans (dG.below (by have:=cA.size;omega) (fun x hx=>by have:=bM.out _ hx;omega));have hfg5:∀ j,(w4.setCell ⟨g2,o2+v,Ab⟩ (Aa qa2 qn2 qc2)).drew.frozen? ⟨g2,j,Ab⟩=false:=fun j=>(Ig w4 _ _ _).trans (jY j);have pP:=dG.size;clear dG hHeld oy3 oh1 oh2 jY cv cv2;generalize (w4.setCell ⟨g2,o2+v,Ab⟩ (Aa qa2 qn2 qc2)).drew=w5 at *
    obtain ⟨OB_0,OB_1,OB_2,OB_3,OB_l⟩:=OB.g4;have h42:((Bz Zk v).shelf.set v ((Bz Zk v).shelf[v].drop (Cx (Bz Zk v).shelf[v]))).length=4:=by rw [Bh];exact h41
    have uM:((Bz Zk v).shelf.set v ((Bz Zk v).shelf[v].drop (Cx (Bz Zk v).shelf[v])))[home]' Bl=[]:=by
     have h1:=hE0.out;rw [Fz Bl] at h1;rw [List.getElem_set_ne jF];exact h1
    have uE:=Bq (show J4 home Zk v=⟨(Bz Zk v).now,(Bz Zk v).seq,((Bz Zk v).shelf.set v ((Bz Zk v).shelf[v].drop (Cx (Bz Zk v).shelf[v]))).set home (Fu [] ((Bz Zk v).shelf[v].take (Cx (Bz Zk v).shelf[v]))),(Bz Zk v).runs⟩ by
     unfold J4;rw [Fz jA];rfl)
    obtain ⟨_,_,⟨xa2,xn2,xc2⟩,cP,_,jJ,cx⟩:=RdL.entryS (show RdL (Dt.list Bx) w5 w5.heap.size (Aa (Ac ⟨g2,o2,Ab⟩) 4 f1) _ from (Bu.ow_rd oy5).1) (k:=home) (by show home<(List.set _ _ _).length;omega);simp only [Option.some.injEq,Addr.mk.injEq,and_true] at cP;obtain ⟨rfl,rfl⟩:=cP;replace jJ:RdL Bx w5 w5 (Aa xa2 xn2 xc2) (((Bz Zk v).shelf.set v ((Bz Zk v).shelf[v].drop (Cx (Bz Zk v).shelf[v])))[home]' Bl):=jJ;rw [uM] at jJ;obtain rfl:xn2=0:=RdL.at1 (s:=⟨xa2,xn2,xc2⟩) jJ;have eN:((Bz Zk v).shelf[v].take (Cx (Bz Zk v).shelf[v])).length<=80:=Lw _ gQ;have CM:=Bq (Ue [] ((Bz Zk v).shelf[v].take (Cx (Bz Zk v).shelf[v])) ⟨xa2,0,xc2⟩ ⟨qa1,qn1,qc1⟩ w5.drew Bn Bl (RdL.below jJ (Br _ _).drew) (RdL.below oh1'.rd (Br _ _).drew));have hobw5:ob<w5:=OB_l;have hg2w5:g2<w5:=Bl;clear uM jJ gQ;generalize (Bz Zk v).shelf[v].take (Cx (Bz Zk v).shelf[v])=lt_ at *
    go_wp2;refine Cz (fun w'=>w'.cell? ⟨ob,2,Ab⟩=Ac (Aa (Ac ⟨g2,o2,Ab⟩) 4 f1)/\w'.cell? ⟨g2,o2+home,Ab⟩=Ac (Aa xa2 0 xc2)) 11 Bm ?_ (fun hHeld=>?_)
    ·exact ⟨OB_2,cx⟩
    refine aT 0 hHeld ?_;try simp only [pS]
    refine aT 1 hHeld ?_;try simp only [pS]
    refine aT 2 hHeld ?_;try simp only [pS]
    refine aT 3 hHeld ?_;try simp only [pS]
    refine aT 4 hHeld ?_;try simp only [pS]
    refine aT 5 hHeld ?_;try simp only [pS]
    refine aT 6 hHeld ?_;try simp only [pS]
    refine aT 7 hHeld ?_;try simp only [pS]
    refine aT 8 hHeld ?_;try simp only [pS]
    refine oT 9 (fun K hK=>?_)
    (go_simp;refine CM.out.mono ?_;rintro e w6 ⟨⟨ma,mn,mc⟩,Fm,rfl,om,nm,b6⟩;have hgc:w6.cell? ⟨g2,o2+home,Ab⟩=Ac (Aa xa2 0 xc2):=(b6.cell (p:=⟨_,_,Ab⟩) (by show g2<w5;omega)).trans cx;have pR:∀ j,w6.frozen? ⟨g2,j,Ab⟩=false:=fun j=>(b6.frozen (p:=⟨_,_,Ab⟩) (by show g2<w5;omega)).trans (hfg5 j))
    refine hK.out _ _ (fun _=>?_) ?_
    ·exact ⟨(b6.cell (p:=⟨_,_,Ab⟩) (by show ob<w5;omega)).trans OB_2,(b6.cell (p:=⟨_,_,Ab⟩) (by show g2<w5;omega)).trans cx⟩
    clear hK K;try simp only [pS]
    refine oT 10 (fun K hK=>?_);go_simp;refine hK.out _ _ (fun _=>?_) ?_
    ·exact ⟨(b6.cell (p:=⟨_,_,Ab⟩) (by show ob<w5;omega)).trans OB_2,(b6.cell (p:=⟨_,_,Ab⟩) (by show g2<w5;omega)).trans cx⟩
    clear hK K;try simp only [pS]
    refine oT 11 (fun K hK=>?_);go_simp;refine hK.out _ _ (fun aC=>absurd rfl aC) ?_;clear hK K;try simp only [pS]
    refine Dr Bm ?_ _;have b6':Below w5 w5 w6:=Bt (Br _ _).drew b6;have nP:=b6'.size;have sN:∀ x∈Fm,w5<=x:=nm;replace oy5:Bu.ow w5 F5 ⟨(Bz Zk v).now,(Bz Zk v).seq,(Bz Zk v).shelf.set v ((Bz Zk v).shelf[v].drop (Cx (Bz Zk v).shelf[v])),(Bz Zk v).runs⟩ (⟨Ac ⟨g2,o2,Ab⟩,4,f1⟩,⟨C2,p2,f2⟩):=oy5;have hfl5:=Bu.ow_lt (F:=F5) (x:=⟨(Bz Zk v).now,(Bz Zk v).seq,(Bz Zk v).shelf.set v ((Bz Zk v).shelf[v].drop (Cx (Bz Zk v).shelf[v])),(Bz Zk v).runs⟩) (s:=(⟨Ac ⟨g2,o2,Ab⟩,4,f1⟩,⟨C2,p2,f2⟩)) oy5;have oy6:=Bu.ow_below (F:=F5) (x:=⟨(Bz Zk v).now,(Bz Zk v).seq,(Bz Zk v).shelf.set v ((Bz Zk v).shelf[v].drop (Cx (Bz Zk v).shelf[v])),(Bz Zk v).runs⟩) (s:=(⟨Ac ⟨g2,o2,Ab⟩,4,f1⟩,⟨C2,p2,f2⟩)) oy5 b6';obtain ⟨F7,oy7,rR,hg2F5⟩:=Fg oy6 (i:=home) (by show home<(List.set _ _ _).length;omega) (l:=Fu [] lt_) (t:=⟨ma,mn,mc⟩) om (fun x hx bF=>by have h1:=sN x hx;have h2:=hfl5 x bF;omega);have gA:Chg [g2] w6 (w6.setCell ⟨g2,o2+home,Ab⟩ (Aa ma mn mc)):=Chg.setCell w6 g2 _ _;clear OB_0 OB_1 OB_2 OB_3 OB_l;replace OB:=(OB.below b6').chg gA (fun hx=>eB (bM.out _ hx));replace RES3:=(RES3.below b6').chg gA (fun hx=>by have:=bM.out _ hx;omega);replace RP3:=(RP3.below b6').chg gA (fun hx=>by have:=bM.out _ hx;omega);replace dN:=(dN.below b6').chg gA (fun x hx hx2=>by have h1:=bM.out _ hx2;have h2:=gE x hx;omega);replace cA:=(Bt cA b6').trans (gA.below (by have:=(Bt cA b6').size;omega) (fun x hx=>by have:=bM.out _ hx;omega));have kA:∀ x∈F7,x∈F2\/w3<=x:=fun x hx=>by
     rcases rR x hx with h | h
     ·rcases hF5 x h with h' | h'
      ·exact .inl h'
      ·exact .inr (kT x h')
     ·right;have:=sN x h;omega
    clear hHeld oy5 oy6 b6 b6' nm om gA CM cx;generalize w6.setCell ⟨g2,o2+home,Ab⟩ (Aa ma mn mc)=w7 at *
    go_wp2;exact ⟨⟨k+1,(⟨Ac ⟨g2,o2,Ab⟩,4,f1⟩,⟨C2,p2,f2⟩),F7,Bl,by go_num,by rw [aE.out];exact hP1,by rw [aE.out,uE.out];exact oy7,⟨fun x hx=>by (rcases kA x hx with h | h);exact pG x h;omega,fun hx=>by (rcases kA _ hx with h | h);exact eJ h;omega,fun x hx bF=>by have h1:=gE x hx;(rcases kA x bF with h | h);have:=fW x h;omega;omega⟩,dN,by rw [aE.out,uE.out];exact OB,RES3,RP3,cA⟩,by simp [intOf];omega⟩
  have aB:(k:Int)<3:=Bl;have qT:((Zk.shelf[home].length:Int) == 0)=false:=by simp [hq]
  replace dE:=Bq (dE.out (.inr (by rw [cU.out];exact hq)));clear hq;rotate_left;have aB:¬ (k:Int)<3:=Bl;have qT:True:=trivial;replace dE:=Bq (dE.out (.inl Bl));all_goals
   have HZ:=Bq (show Io y (wk:Int) d=M6 Zk home by rw [H.out,HG.out,dE.out]);have kC:∀ e∈Zk.shelf[home],Tn Zk e:=fun e he=>by
    have h1:=aZ.out.fresh e (by rw [cU.out];exact he);rw [<-Nl aZ.out.runs] at h1;exact Lq.1 h1
   replace eV:RdL Bx wr wr (Aa xa Zk.shelf[home].length xc) Zk.shelf[home]:=eV;have pW:=aZ.out.all _ (Aw mE);have qA:Hid (M6 Zk home=Rk Zk home Zk.shelf[home]):=by
    show M6 Zk home=_;unfold M6;rw [cU.out]
   have CT:=Bq (Pp Zk.shelf[home] ⟨xa,Zk.shelf[home].length,xc⟩ wr Bl eV);clear aE cU fI nZ nB kU rN H HG dE;generalize Zk.shelf[home]=SH at *
   go_wp2_with fail
   refine CT.out.mono ?_;rintro e9 w2 ⟨⟨ta,tn,tc⟩,Ft,rfl,ot,nt,b2⟩;replace oy:Bu.ow wr F Zk (⟨Ac ⟨g,o,Ab⟩,4,e1⟩,⟨B2,m2,e2⟩):=oy.out;have pQ:=Bu.ow_lt (F:=F) (x:=Zk) (s:=(⟨Ac ⟨g,o,Ab⟩,4,e1⟩,⟨B2,m2,e2⟩)) oy;replace oy:Bu.ow w2 F Zk (⟨Ac ⟨g,o,Ab⟩,4,e1⟩,⟨B2,m2,e2⟩):=owB oy b2;clear OB_0 OB_1 OB_2 OB_3 OB_l;replace OB:=OB.below b2;replace RES:=RES.below b2;replace RP:=RP.below b2;have aF:=Bt hb b2;have eL:=b2.size;clear b2 CT ch eV hb oyr;have aC:w.heap.size+1+1≠w.heap.size+1:=Bl;cases SH with
   | nil =>
    have HF:=Bq (HZ.out.trans qA.out);clear HZ qA kC ot;have EB0:Below w2 w2 (w2.alloc (.cells #[J U 0,J U 0,J U 0,J U 0] 93)):=(Br _ _).alloc (Bs _) _;go_upto_region 16 with fail
    replace oy:Bu.ow _ F Zk (⟨Ac ⟨g,o,Ab⟩,4,e1⟩,⟨B2,m2,e2⟩):=owB oy EB0;replace OB:=OB.below EB0;replace RES:=RES.below EB0;replace RP:=RP.below EB0;replace aF:=Bt aF EB0;clear EB0;generalize w2.alloc (.cells #[J U 0,J U 0,J U 0,J U 0] 93)=w3 at *
    obtain ⟨OB_0,OB_1,OB_2,OB_3,OB_l⟩:=OB.g4;obtain ⟨RES_0,RES_1,RES_2,RES_3,RES_l⟩:=RES.g4;obtain ⟨RP_0,RP_1,RP_2,RP_3,RP_l⟩:=RP.g4;have rf:=RES.free;have pf:=RP.free;go_wp2;have en1:w.heap.size+1∉F:=fun hx=>by have:=hF.out.1 _ hx;omega
    have en2:w.heap.size+1+1∉F:=fun hx=>by have:=hF.out.1 _ hx;omega
    have RES2:=DBox.row4 RES rfl (J U Zk.now) (J U Zk.seq) (Aa (Ac ⟨g,o,Ab⟩) 4 e1) (Aa B2 m2 e2);have RP2:=DBox.row4 ((((RP.setOther (a:=⟨w.heap.size+1,0,Ab⟩) aC (J U Zk.now)).setOther (a:=⟨w.heap.size+1,1,Ab⟩) aC (J U Zk.seq)).setOther (a:=⟨w.heap.size+1,2,Ab⟩) aC (Aa (Ac ⟨g,o,Ab⟩) 4 e1)).setOther (a:=⟨w.heap.size+1,3,Ab⟩) aC (Aa B2 m2 e2)) rfl (J U 9) (J U 0) (J U 0) (J U 0);have RES3:=(((RES2.setOther (a:=⟨w.heap.size+1+1,0,Ab⟩) aC.symm (J U 9)).setOther (a:=⟨w.heap.size+1+1,1,Ab⟩) aC.symm (J U 0)).setOther (a:=⟨w.heap.size+1+1,2,Ab⟩) aC.symm (J U 0)).setOther (a:=⟨w.heap.size+1+1,3,Ab⟩) aC.symm (J U 0);refine Aj (P4 RES3 RP2) rfl ⟨(⟨Ac ⟨g,o,Ab⟩,4,e1⟩,⟨B2,m2,e2⟩),F,by rw [HF.out];rfl,by rw [HF.out];exact (by (repeat (refine Dt.ow_set Bu ?_ (by first | exact en1 | exact en2) _));exact (show Bu.ow _ F Zk (⟨Ac ⟨g,o,Ab⟩,4,e1⟩,⟨B2,m2,e2⟩) from oy)),fun x hx=>by have:=hF.out.1 x hx;omega,?_⟩;repeat (first | (with_reducible exact aF) | refine Ad ?_ Bo _)
   | cons e rest =>
    obtain ⟨pB,⟨gD,qS⟩,dM⟩:=kC e (List.mem_cons_self ..);obtain ⟨pr,sq,rn,tk⟩:=e;dsimp only at pB gD qS dM;obtain ⟨t,rfl⟩:=Ap gD;rcases Ek Zk rn with gH | ⟨j,hj,gH⟩
    ·exact absurd pB Bl
    have cX:=Gf hj gH;rw [cX] at qS dM;have uZ:j<y.runs.length:=by rw [<-aZ.out.runs];exact hj
    have rM:Hid (Gn Zk.runs[j]):=by
     have e:Zk.runs[j]=y.runs[j]:=by simp only [aZ.out.runs]
     show Gn Zk.runs[j];rw [e];exact D7 HP.out uZ
    have HF:=Bq (HZ.out.trans (qA.out.trans (show _=((⟨Zk.now,Zk.seq,Zk.shelf.set home rest,Zk.runs.set j (Du Zk.runs[j] t Zk.now)⟩:Yard),(⟨0,rn,t,(Cs Zk.runs[j] t).try_+1⟩:Reply)) by show Rk _ _ (_ :: _)=_;unfold Rk;dsimp only;rw [gH,cX,Ao,Ao])));have fY:=Bq (show 0<=Zk.now/\Zk.now<=999999980 by rw [aZ.out.now];exact HP.out.1);have hrun8:Zk.runs.length<=8:=by rw [aZ.out.runs];exact HP.out.2.2.2.2.2.2.1
    have eN:t<Zk.runs[j].tasks.length:=Bl;have sL:=Cr eN;have pA:=Bq (show Da ⟨Zk.now,Zk.seq,Zk.shelf.set home rest,Zk.runs⟩ rn=j from (Mr (y:=Zk) rfl rn).trans gH);have uX:=Bq (show Cb ⟨Zk.now,Zk.seq,Zk.shelf.set home rest,Zk.runs⟩<=2000000 by
     have:=N0 (y:=⟨Zk.now,Zk.seq,Zk.shelf.set home rest,Zk.runs⟩) (M:=80) (by simpa using sC) (fun s hs=>by
      rcases List.mem_or_eq_of_mem_set hs with h | h
      ·exact aZ.out.all s h
      ·subst h;simp at pW;omega) hrun8 (fun k hk=>by
       have bJ:k<y.runs.length:=by rw [<-aZ.out.runs];exact hk
       have e:Zk.runs[k]=y.runs[k]:=by simp only [aZ.out.runs]
       show Gn Zk.runs[k];rw [e];exact D7 HP.out bJ)
     omega)
    clear HZ qA kC gH cX pB gD qS dM uZ pZ qT;replace ot:OwL Bx w2 Ft (Aa ta tn tc) rest:=ot;have eT:∀ x∈Ft,wr<=x/\x<w2:=fun x hx=>⟨nt x hx,ot.lt x hx⟩
    have EB:=DBox.new 93 [J U pr,J U sq,J U rn,J U (t:Int)] w2 (b:=w2.heap.size) rfl;have EB0:Below w2 w2 (w2.alloc (.cells #[J U pr,J U sq,J U rn,J U (t:Int)] 93)):=(Br _ _).alloc (Bs _) _;go_upto_region 16 with fail
    replace oy:Bu.ow _ F Zk (⟨Ac ⟨g,o,Ab⟩,4,e1⟩,⟨B2,m2,e2⟩):=owB oy EB0;replace ot:=ot.below EB0;replace OB:=OB.below EB0;replace RES:=RES.below EB0;replace RP:=RP.below EB0;replace aF:=Bt aF EB0;clear nt EB0;generalize w2.alloc (.cells #[J U pr,J U sq,J U rn,J U (t:Int)] 93)=w3 at *
    have hebl:=EB.lt;generalize w2.heap.size=eb at *
    obtain ⟨OB_0,OB_1,OB_2,OB_3,OB_l⟩:=OB.g4;obtain ⟨EB_0,EB_1,EB_2,EB_3,EB_l⟩:=EB.g4;replace oy:Bu.ow w3 F Zk (⟨Ac ⟨g,o,Ab⟩,4,e1⟩,⟨B2,m2,e2⟩):=oy;have jY:∀ j,w3.frozen? ⟨g,j,Ab⟩=false:=by
     obtain ⟨G1,G2,_,_,os,_⟩:=oy;exact OwL.free0 (show OwL (Dt.list Bx) w3 G1 (Aa (Ac ⟨g,o,Ab⟩) 4 e1) Zk.shelf from os) Bl
    obtain ⟨_,_,⟨xa3,xn3,xc3⟩,cP,rS,_,ch⟩:=RdL.entryS (show RdL (Dt.list Bx) w3 w3.heap.size (Aa (Ac ⟨g,o,Ab⟩) 4 e1) Zk.shelf from (Bu.ow_rd (F:=F) (x:=Zk) oy).1) mE;simp only [Option.some.injEq,Addr.mk.injEq,and_true] at cP;obtain ⟨rfl,rfl⟩:=cP;obtain ⟨F4,oy4,tT,eI⟩:=Fg oy mE (l:=rest) (t:=⟨ta,tn,tc⟩) ot (fun x hx bF=>by have h1:=(eT x hx).1;have h2:=pQ x bF;omega);go_upto_region 19 with fail
    have eE:Chg [g] w3 (w3.setCell ⟨g,o+home,Ab⟩ (Aa ta tn tc)):=Chg.setCell w3 g _ _;have bM:=Bq (show ∀ x,x∈[g]->x=g from fun x hx=>by simpa using hx);have hgF2:=hF.out.1 g eI;have eB:ob≠g:=fun h=>hF.out.2.1 (by rw [h];exact eI);clear OB_0 OB_1 OB_2 OB_3 OB_l;clear EB_0 EB_1 EB_2 EB_3 EB_l;replace OB:=OB.chg eE (fun hx=>eB (bM.out _ hx));replace EB:=EB.chg eE (fun hx=>by have:=bM.out _ hx;omega);replace RES:=RES.chg eE (fun hx=>by have:=bM.out _ hx;omega);replace RP:=RP.chg eE (fun hx=>by have:=bM.out _ hx;omega);have kY:=eE.size;replace aF:=aF.trans (eE.below (by have:=aF.size;omega) (fun x hx=>by have:=bM.out _ hx;omega));clear eE oy jY ch ot;generalize w3.setCell ⟨g,o+home,Ab⟩ (Aa ta tn tc)=w4 at *
    replace oy4:Bu.ow w4 F4 ⟨Zk.now,Zk.seq,Zk.shelf.set home rest,Zk.runs⟩ (⟨Ac ⟨g,o,Ab⟩,4,e1⟩,⟨B2,m2,e2⟩):=oy4;have gY:∀ x∈F4,(x∈F\/(wr<=x/\x<eb)):=fun x hx=>(tT x hx).imp id (fun h=>eT x h);have CA:=Bq (Es ⟨Zk.now,Zk.seq,Zk.shelf.set home rest,Zk.runs⟩ (⟨Ac ⟨g,o,Ab⟩,4,e1⟩,⟨B2,m2,e2⟩) rn w4 uX.out (Bu.ow_rd (F:=F4) (x:=⟨Zk.now,Zk.seq,Zk.shelf.set home rest,Zk.runs⟩) oy4));obtain ⟨OB_0,OB_1,OB_2,OB_3,OB_l⟩:=OB.g4;obtain ⟨EB_0,EB_1,EB_2,EB_3,EB_l⟩:=EB.g4;go_wp2_with fail
    refine CA.out.mono ?_;rintro e9 w5 ⟨rfl,b5⟩;rw [pA.out];clear OB_0 OB_1 OB_2 OB_3 OB_l;clear EB_0 EB_1 EB_2 EB_3 EB_l;replace OB:=OB.below b5;replace EB:=EB.below b5;replace RES:=RES.below b5;replace RP:=RP.below b5;replace aF:=Bt aF b5;replace oy4:Bu.ow w5 F4 ⟨Zk.now,Zk.seq,Zk.shelf.set home rest,Zk.runs⟩ (⟨Ac ⟨g,o,Ab⟩,4,e1⟩,⟨B2,m2,e2⟩):=owB oy4 b5;have pP:=b5.size;clear b5 CA pA uX;have oyr:=(Bu.ow_rd (F:=F4) (x:=⟨Zk.now,Zk.seq,Zk.shelf.set home rest,Zk.runs⟩) oy4).2;have dJ:=Bq (show m2=Zk.runs.length from RdL.at1 (s:=⟨B2,m2,e2⟩) oyr);have gU:(j:Int)<(m2:Int):=by have:=dJ.out;omega
    have cB:(0:Int)<=(j:Int):=Bl;obtain ⟨gr,orr,sk,rfl,dD,cX,c0,c1,c2,c3,c4,c5,c6,c7⟩:=RdL.run (show RdL Ch w5 w5.heap.size (Aa B2 m2 e2) Zk.runs from oyr) hj;have gV:∀ i,w5.frozen? ⟨gr,i,Ab⟩=false:=by
     obtain ⟨G1,G2,_,_,_,os⟩:=oy4;exact OwL.free0 (show OwL Ch w5 G2 (Aa (Ac ⟨gr,orr,Ab⟩) m2 e2) Zk.runs from os) Bl
    generalize mM:Zk.runs[j]=r at *
    have mN:-1000000<=r.tasks[t].try_/\r.tasks[t].try_<=2000000000/\0<=r.plan.wait/\r.plan.wait<=2000000000:=by
     have h1:=rM.out.2.2.2.1 t eN;have h2:=(C9.1 rM.out.2.1).1;simp only [Eg,Bool.and_eq_true] at h2;have h3:=Cv.1 h2.1.2;have h4:=Cv.1 h2.2;unfold Gt Ni at h1;rw [sL] at h1;omega
    have CSt:=Bq (Sd r sk t Zk.now w5.drew (by have:=J3 rM.out;omega) eN ⟨mN.1,mN.2.1⟩ (by have:=fY.out;omega) mN.2.2 (Ch.rd_below cX (Br _ _).drew));have hobw5:ob<w5:=Bl;have hebw5:eb<w5:=Bl;clear cX oyr mN rM hrun8;obtain ⟨OB_0,OB_1,OB_2,OB_3,OB_l⟩:=OB.g4;obtain ⟨EB_0,EB_1,EB_2,EB_3,EB_l⟩:=EB.g4;go_wp2;refine Cz (fun w'=>w'.cell? ⟨ob,3,Ab⟩=Ac (Aa (Ac ⟨gr,orr,Ab⟩) m2 e2)/\w'.cell? ⟨ob,0,Ab⟩=Ac (J U Zk.now)/\w'.cell? ⟨eb,3,Ab⟩=Ac (J U (t:Int))/\w'.cell? ⟨gr,orr+j * 8,Ab⟩=Ac (J U r.id)/\w'.cell? ⟨gr,orr+j * 8+1,Ab⟩=Ac (J U r.plan.prio)/\w'.cell? ⟨gr,orr+j * 8+2,Ab⟩=Ac (J U r.plan.most)/\w'.cell? ⟨gr,orr+j * 8+3,Ab⟩=Ac (J U r.plan.wait)/\w'.cell? ⟨gr,orr+j * 8+4,Ab⟩=Ac (J U r.plan.tasks)/\w'.cell? ⟨gr,orr+j * 8+5,Ab⟩=Ac (Aa sk.1.a sk.1.n sk.1.c)/\w'.cell? ⟨gr,orr+j * 8+6,Ab⟩=Ac (J U r.state)/\w'.cell? ⟨gr,orr+j * 8+7,Ab⟩=Ac (Aa sk.2.a sk.2.n sk.2.c)) 14 Bm ?_ (fun hHeld=>?_)
    ·exact ⟨OB_3,OB_0,EB_3,c0,c1,c2,c3,c4,c5,c6,c7⟩
    refine aT 0 hHeld ?_;try simp only [pS]
    refine aT 1 hHeld ?_;try simp only [pS]
    refine aT 2 hHeld ?_;try simp only [pS]
    refine aT 3 hHeld ?_;try simp only [pS]
    refine aT 4 hHeld ?_;try simp only [pS]
    refine aT 5 hHeld ?_;try simp only [pS]
    refine aT 6 hHeld ?_;try simp only [pS]
    refine aT 7 hHeld ?_;try simp only [pS]
    refine aT 8 hHeld ?_;try simp only [pS]
    refine aT 9 hHeld ?_;try simp only [pS]
    refine aT 10 hHeld ?_;try simp only [pS]
    refine aT 11 hHeld ?_;try simp only [pS]
    refine oT 12 (fun K hK=>?_)
    (go_simp;refine CSt.out.mono ?_;rintro e9 w6 ⟨sr,Fr,rfl,orn,nr,b6⟩;have q0:w6.cell? ⟨gr,orr+j * 8,Ab⟩=Ac (J U r.id):=(b6.cell (p:=⟨_,_,Ab⟩) (by show gr<w5;omega)).trans c0;have q1:w6.cell? ⟨gr,orr+j * 8+1,Ab⟩=Ac (J U r.plan.prio):=(b6.cell (p:=⟨_,_,Ab⟩) (by show gr<w5;omega)).trans c1;have q2:w6.cell? ⟨gr,orr+j * 8+2,Ab⟩=Ac (J U r.plan.most):=(b6.cell (p:=⟨_,_,Ab⟩) (by show gr<w5;omega)).trans c2;have q3:w6.cell? ⟨gr,orr+j * 8+3,Ab⟩=Ac (J U r.plan.wait):=(b6.cell (p:=⟨_,_,Ab⟩) (by show gr<w5;omega)).trans c3;have q4:w6.cell? ⟨gr,orr+j * 8+4,Ab⟩=Ac (J U r.plan.tasks):=(b6.cell (p:=⟨_,_,Ab⟩) (by show gr<w5;omega)).trans c4;have q5:w6.cell? ⟨gr,orr+j * 8+5,Ab⟩=Ac (Aa sk.1.a sk.1.n sk.1.c):=(b6.cell (p:=⟨_,_,Ab⟩) (by show gr<w5;omega)).trans c5;have q6:w6.cell? ⟨gr,orr+j * 8+6,Ab⟩=Ac (J U r.state):=(b6.cell (p:=⟨_,_,Ab⟩) (by show gr<w5;omega)).trans c6;have q7:w6.cell? ⟨gr,orr+j * 8+7,Ab⟩=Ac (Aa sk.2.a sk.2.n sk.2.c):=(b6.cell (p:=⟨_,_,Ab⟩) (by show gr<w5;omega)).trans c7;have qf:∀ j,w6.frozen? ⟨gr,j,Ab⟩=false:=fun j=>(b6.frozen (p:=⟨_,_,Ab⟩) (by show gr<w5;omega)).trans (gV j))
    refine hK.out _ _ (fun _=>?_) ?_
    ·exact ⟨(b6.cell (p:=⟨_,_,Ab⟩) (by show ob<w5;omega)).trans OB_3,(b6.cell (p:=⟨_,_,Ab⟩) (by show ob<w5;omega)).trans OB_0,(b6.cell (p:=⟨_,_,Ab⟩) (by show eb<w5;omega)).trans EB_3,(b6.cell (p:=⟨_,_,Ab⟩) (by show gr<w5;omega)).trans c0,(b6.cell (p:=⟨_,_,Ab⟩) (by show gr<w5;omega)).trans c1,(b6.cell (p:=⟨_,_,Ab⟩) (by show gr<w5;omega)).trans c2,(b6.cell (p:=⟨_,_,Ab⟩) (by show gr<w5;omega)).trans c3,(b6.cell (p:=⟨_,_,Ab⟩) (by show gr<w5;omega)).trans c4,(b6.cell (p:=⟨_,_,Ab⟩) (by show gr<w5;omega)).trans c5,(b6.cell (p:=⟨_,_,Ab⟩) (by show gr<w5;omega)).trans c6,(b6.cell (p:=⟨_,_,Ab⟩) (by show gr<w5;omega)).trans c7⟩
    clear hK K;try simp only [pS]
    refine oT 13 (fun K hK=>?_);go_simp;refine hK.out _ _ (fun _=>?_) ?_
    ·exact ⟨(b6.cell (p:=⟨_,_,Ab⟩) (by show ob<w5;omega)).trans OB_3,(b6.cell (p:=⟨_,_,Ab⟩) (by show ob<w5;omega)).trans OB_0,(b6.cell (p:=⟨_,_,Ab⟩) (by show eb<w5;omega)).trans EB_3,(b6.cell (p:=⟨_,_,Ab⟩) (by show gr<w5;omega)).trans c0,(b6.cell (p:=⟨_,_,Ab⟩) (by show gr<w5;omega)).trans c1,(b6.cell (p:=⟨_,_,Ab⟩) (by show gr<w5;omega)).trans c2,(b6.cell (p:=⟨_,_,Ab⟩) (by show gr<w5;omega)).trans c3,(b6.cell (p:=⟨_,_,Ab⟩) (by show gr<w5;omega)).trans c4,(b6.cell (p:=⟨_,_,Ab⟩) (by show gr<w5;omega)).trans c5,(b6.cell (p:=⟨_,_,Ab⟩) (by show gr<w5;omega)).trans c6,(b6.cell (p:=⟨_,_,Ab⟩) (by show gr<w5;omega)).trans c7⟩
    clear hK K;try simp only [pS]
    refine oT 14 (fun K hK=>?_);go_simp;refine hK.out _ _ (fun aC=>absurd rfl aC) ?_;clear hK K;try simp only [pS]
    refine Dr Bm ?_ _;have b6':Below w5 w5 w6:=Bt (Br _ _).drew b6;have nP:=b6'.size;have nK:∀ x∈Fr,w5<=x:=nr;have gR:∀ x∈F4,x<w5:=Bu.ow_lt (F:=F4) (x:=⟨Zk.now,Zk.seq,Zk.shelf.set home rest,Zk.runs⟩) (s:=(⟨Ac ⟨g,o,Ab⟩,4,e1⟩,⟨Ac ⟨gr,orr,Ab⟩,m2,e2⟩)) oy4;have oy6:Bu.ow w6 F4 ⟨Zk.now,Zk.seq,Zk.shelf.set home rest,Zk.runs⟩ (⟨Ac ⟨g,o,Ab⟩,4,e1⟩,⟨Ac ⟨gr,orr,Ab⟩,m2,e2⟩):=owB oy4 b6';obtain ⟨F8,oy8,kI,eX⟩:=Nm oy6 (k:=j) hj (r:=Du r t Zk.now) (sr:=sr) orn (fun x hx bF=>by have h1:=nK x hx;have h2:=gR x bF;omega);have jG:Chg [gr] w6 ((((((((w6.setCell ⟨gr,orr+j * 8,Ab⟩ (J U (Du r t Zk.now).id)).setCell ⟨gr,orr+j * 8+1,Ab⟩ (J U (Du r t Zk.now).plan.prio)).setCell ⟨gr,orr+j * 8+2,Ab⟩ (J U (Du r t Zk.now).plan.most)).setCell ⟨gr,orr+j * 8+3,Ab⟩ (J U (Du r t Zk.now).plan.wait)).setCell ⟨gr,orr+j * 8+4,Ab⟩ (J U (Du r t Zk.now).plan.tasks)).setCell ⟨gr,orr+j * 8+5,Ab⟩ (Aa sr.1.a sr.1.n sr.1.c)).setCell ⟨gr,orr+j * 8+6,Ab⟩ (J U (Du r t Zk.now).state)).setCell ⟨gr,orr+j * 8+7,Ab⟩ (Aa sr.2.a sr.2.n sr.2.c)):=Ie (Ch.enc.cells ((Du r t Zk.now),sr)) w6 gr (orr+j * 8);have cI:=Bq (show ∀ x,x∈[gr]->x=gr from fun x hx=>by simpa using hx);have nV:=gY gr eX;have hobgr:ob≠gr:=fun h=>by
     rcases nV with h1 | h1
     ·exact hF.out.2.1 (by rw [h];exact h1)
     ·omega
    have hebgr:eb≠gr:=fun h=>by
     rcases nV with h1 | h1
     ·have:=pQ _ h1;omega
     ·omega
    have gM:w.heap.size+1+1<gr:=by
     rcases nV with h1 | h1
     ·exact hF.out.1 _ h1
     ·omega
    clear OB_0 OB_1 OB_2 OB_3 OB_l;clear EB_0 EB_1 EB_2 EB_3 EB_l;replace OB:=(OB.below b6').chg jG (fun hx=>hobgr (cI.out _ hx));replace EB:=(EB.below b6').chg jG (fun hx=>hebgr (cI.out _ hx));replace RES:=(RES.below b6').chg jG (fun hx=>by have:=cI.out _ hx;omega);replace RP:=(RP.below b6').chg jG (fun hx=>by have:=cI.out _ hx;omega);replace aF:=(Bt aF b6').trans (jG.below (by have:=(Bt aF b6').size;omega) (fun x hx=>by have:=cI.out _ hx;omega));have eU:∀ x∈F8,x∈F4\/w5<=x:=fun x hx=>(kI x hx).imp id (fun h=>nK x h);clear hHeld oy4 oy6 b6 b6' nr orn jG CSt c0 c1 c2 c3 c4 c5 c6 c7 gV q0 q1 q2 q3 q4 q5 q6 q7 qf;generalize ((((((((w6.setCell ⟨gr,orr+j * 8,Ab⟩ (J U (Du r t Zk.now).id)).setCell ⟨gr,orr+j * 8+1,Ab⟩ (J U (Du r t Zk.now).plan.prio)).setCell ⟨gr,orr+j * 8+2,Ab⟩ (J U (Du r t Zk.now).plan.most)).setCell ⟨gr,orr+j * 8+3,Ab⟩ (J U (Du r t Zk.now).plan.wait)).setCell ⟨gr,orr+j * 8+4,Ab⟩ (J U (Du r t Zk.now).plan.tasks)).setCell ⟨gr,orr+j * 8+5,Ab⟩ (Aa sr.1.a sr.1.n sr.1.c)).setCell ⟨gr,orr+j * 8+6,Ab⟩ (J U (Du r t Zk.now).state)).setCell ⟨gr,orr+j * 8+7,Ab⟩ (Aa sr.2.a sr.2.n sr.2.c))=w8 at *
    replace oy8:Bu.ow w8 F8 ⟨Zk.now,Zk.seq,Zk.shelf.set home rest,Zk.runs.set j (Du r t Zk.now)⟩ (⟨Ac ⟨g,o,Ab⟩,4,e1⟩,⟨Ac ⟨gr,orr,Ab⟩,m2,e2⟩):=oy8;have hjs:j<(Zk.runs.set j (Du r t Zk.now)).length:=by rw [Bh];exact hj
    have oyk:=oy8;obtain ⟨G1,G2,sA,_,_,os8⟩:=oyk;obtain ⟨⟨sx1,⟨tva,tn2,tc2⟩⟩,Fx,hxo,bF,_,_,_,nT⟩:=OwL.elem (show OwL Ch w8 G2 (Aa (Ac ⟨gr,orr,Ab⟩) m2 e2) (Zk.runs.set j (Du r t Zk.now)) from os8) hjs;have cT:w8.cell? ⟨gr,orr+j * 8+7,Ab⟩=Ac (Aa tva tn2 tc2):=nT 7 _ rfl;rw [List.getElem_set_self] at hxo;obtain ⟨H1,H2,hHH,_,_,ot8⟩:=hxo;have oh8:=Mp (show OwL Ee w8 H2 (Aa tva tn2 tc2) (Du r t Zk.now).tasks from ot8);have hgr8:gr<w8:=by have:=Bu.ow_lt (F:=F8) (x:=⟨Zk.now,Zk.seq,Zk.shelf.set home rest,Zk.runs.set j (Du r t Zk.now)⟩) (s:=(⟨Ac ⟨g,o,Ab⟩,4,e1⟩,⟨Ac ⟨gr,orr,Ab⟩,m2,e2⟩)) oy8 gr (by rw [sA];exact Be _ (OwL.block_mem (show OwL Ch w8 G2 (Aa (Ac ⟨gr,orr,Ab⟩) m2 e2) _ from os8) (Nat.lt_of_le_of_lt (Ag _) hjs)));exact this
    have htn2:tn2=r.tasks.length:=(RdL.at1 (s:=⟨tva,tn2,tc2⟩) (show OwL Ee w8 H2 (Aa tva tn2 tc2) (Du r t Zk.now).tasks from ot8).rd).trans (Ms _ _ _);have jS:(t:Int)<(tn2:Int):=Bl;have gD:(0:Int)<=(t:Int):=Bl;have hts:t<(Du r t Zk.now).tasks.length:=by rw [Ms];exact eN
    obtain ⟨gt,ot2,rfl,hgt,-,-,cY,-⟩:=oh8.rd.tsk hts;have hgtF:gt∈F8:=by
     have h1:=(oh8.block Bl).1;rw [sA];refine Be _ (bF _ ?_);rw [hHH,h1];exact Be _ (Au.2 rfl)
    have hty:=Abc r t Zk.now eN;rw [hty] at cY;have hobw8:ob<w8:=OB.lt;have hebw8:eb<w8:=EB.lt;have en1:w.heap.size+1∉F8:=fun hx=>by
     rcases eU _ hx with h | h
     ·rcases gY _ h with h1 | h1
      ·have:=hF.out.1 _ h1;omega
      ·omega
     ·omega
    have en2:w.heap.size+1+1∉F8:=fun hx=>by
     rcases eU _ hx with h | h
     ·rcases gY _ h with h1 | h1
      ·have:=hF.out.1 _ h1;omega
      ·omega
     ·omega
    have jD:∀ x∈F8,w<=x:=fun x hx=>by
     rcases eU _ hx with h | h
     ·rcases gY _ h with h1 | h1
      ·have:=hF.out.1 _ h1;omega
      ·omega
     ·omega
    have HFF:=Bq (show Io y (wk:Int) d=((⟨Zk.now,Zk.seq,Zk.shelf.set home rest,Zk.runs.set j (Du r t Zk.now)⟩:Yard),(⟨0,rn,t,r.tasks[t].try_+1⟩:Reply)) by rw [HF.out,sL]);have gn1:gt≠w.heap.size+1:=fun h=>en1 (by rw [<-h];exact hgtF);have gn2:gt≠w.heap.size+1+1:=fun h=>en2 (by rw [<-h];exact hgtF);clear HF hty gY eU kI nK gR eT tT pQ sL;go_wp2;refine Go.wp_region_noPanic ?_;refine wp_region_held_drew (S:=(fun w'=>DBox ob [J U Zk.now,J U Zk.seq,Aa (Ac ⟨g,o,Ab⟩) 4 e1,Aa (Ac ⟨gr,orr,Ab⟩) m2 e2] w'/\DBox eb [J U pr,J U sq,J U rn,J U (t:Int)] w'/\w'.cell? ⟨gr,orr+j * 8+7,Ab⟩=Ac (Aa (Ac ⟨gt,ot2,Ab⟩) tn2 tc2)/\w'.cell? ⟨gt,ot2+t * 4+2,Ab⟩=Ac (J U (r.tasks[t].try_+1)))) Bm ⟨DBox.drew4 OB,DBox.drew4 EB,cT,cY⟩ (fun hHeld=>?_);replace oy8:Bu.ow w8.drew F8 ⟨Zk.now,Zk.seq,Zk.shelf.set home rest,Zk.runs.set j (Du r t Zk.now)⟩ (⟨Ac ⟨g,o,Ab⟩,4,e1⟩,⟨Ac ⟨gr,orr,Ab⟩,m2,e2⟩):=owB oy8 (Br _ _).drew;replace RES:DBox _ _ w8.drew:=DBox.drew4 RES;replace RP:DBox _ _ w8.drew:=DBox.drew4 RP;replace aF:=aF.drew;have nM:w8.drew.heap.size=w8.heap.size:=rfl;rw [<-nM] at hgr8 hgt;clear OB EB cT cY nM oh8 ot8 nT bF os8 hobw8 hebw8 hgtF;generalize w8.drew=w8d at *
    refine tV 0 ?_
    (try simp only [pS])
    refine tV 1 ?_
    (try simp only [pS])
    refine tV 2 ?_
    (try simp only [pS])
    refine tV 3 ?_
    (try simp only [pS])
    refine tV 4 ?_
    (try simp only [pS])
    refine tV 5 ?_
    (try simp only [pS])
    refine tV 6 ?_
    (try simp only [pS])
    refine tV 7 ?_
    (try simp only [pS])
    refine tV 8 ?_
    (try simp only [pS])
    refine tV 9 ?_
    (try simp only [pS])
    refine tV 10 ?_
    (try simp only [pS])
    refine tV 11 ?_
    (try simp only [pS])
    refine tV 12 ?_
    (try simp only [pS])
    refine tV 13 ?_
    (try simp only [pS])
    refine tV 14 ?_
    (try simp only [pS])
    refine tV 15 ?_
    (try simp only [pS])
    refine tV 16 ?_
    (try simp only [pS])
    have RES_0:=RES.cell 0 _ rfl;have RES_1:=RES.cell 1 _ rfl;have RES_2:=RES.cell 2 _ rfl;have RES_3:=RES.cell 3 _ rfl;have RP_0:=RP.cell 0 _ rfl;have RP_1:=RP.cell 1 _ rfl;have RP_2:=RP.cell 2 _ rfl;have RP_3:=RP.cell 3 _ rfl;have rf:=RES.free;have pf:=RP.free;have cG:=Bq (show ∀ x,x∈[w.heap.size+1]->x=w.heap.size+1 from fun x hx=>by simpa using hx);have hm2':=Bq (show ∀ x,x∈[w.heap.size+1+1]->x=w.heap.size+1+1 from fun x hx=>by simpa using hx);have eR:=Chg.cells4 w8d (w.heap.size+1) 0 1 2 3 (J U Zk.now) (J U Zk.seq) (Aa (Ac ⟨g,o,Ab⟩) 4 e1) (Aa (Ac ⟨gr,orr,Ab⟩) m2 e2);refine rC 17 (fun K_ hK=>?_);go_simp;have hS1:=eR.size;have RES2:=DBox.row4 RES rfl (J U Zk.now) (J U Zk.seq) (Aa (Ac ⟨g,o,Ab⟩) 4 e1) (Aa (Ac ⟨gr,orr,Ab⟩) m2 e2);have RP2:=RP.chg eR (fun hx=>by have:=cG.out _ hx;omega);replace oy8:Bu.ow _ F8 ⟨Zk.now,Zk.seq,Zk.shelf.set home rest,Zk.runs.set j (Du r t Zk.now)⟩ (⟨Ac ⟨g,o,Ab⟩,4,e1⟩,⟨Ac ⟨gr,orr,Ab⟩,m2,e2⟩):=owC oy8 eR (fun x hx hx2=>by have h1:=cG.out _ hx2;subst h1;exact en1 hx);replace aF:=aF.trans (eR.below (by have:=aF.size;omega) (fun x hx=>by have:=cG.out _ hx;omega));refine hK.out _ _ ⟨hHeld.1.chg eR (fun hx=>by have:=cG.out _ hx;omega),hHeld.2.1.chg eR (fun hx=>by have:=cG.out _ hx;omega),(eR.cell (p:=⟨gr,_,Ab⟩) (by show gr<w8d;omega) (fun hx=>by have:gr=w.heap.size+1:=cG.out _ hx;omega)).trans hHeld.2.2.1,(eR.cell (p:=⟨gt,_,Ab⟩) (by show gt<w8d;omega) (fun hx=>by have:gt=w.heap.size+1:=cG.out _ hx;omega)).trans hHeld.2.2.2⟩ (fun hHeld=>?_);clear hK K_ rf pf RES_0 RES_1 RES_2 RES_3 RP_0 RP_1 RP_2 RP_3 eR
    (try simp only [pS])
    generalize (((w8d.setCell ⟨w.heap.size+1,0,Ab⟩ (J U Zk.now)).setCell ⟨w.heap.size+1,1,Ab⟩ (J U Zk.seq)).setCell ⟨w.heap.size+1,2,Ab⟩ (Aa (Ac ⟨g,o,Ab⟩) 4 e1)).setCell ⟨w.heap.size+1,3,Ab⟩ (Aa (Ac ⟨gr,orr,Ab⟩) m2 e2)=w9 at *
    have RP_0:=RP2.cell 0 _ rfl;have RP_1:=RP2.cell 1 _ rfl;have RP_2:=RP2.cell 2 _ rfl;have RP_3:=RP2.cell 3 _ rfl;have pf:=RP2.free;have fT:=Chg.cells4 w9 (w.heap.size+1+1) 0 1 2 3 (J U 0) (J U rn) (J U (t:Int)) (J U (r.tasks[t].try_+1));refine rC 18 (fun K_ hK=>?_);go_simp;refine hK.out _ _ ⟨hHeld.1.chg fT (fun hx=>by have:=hm2'.out _ hx;omega),hHeld.2.1.chg fT (fun hx=>by have:=hm2'.out _ hx;omega),(fT.cell (p:=⟨gr,_,Ab⟩) (by show gr<w9;have:=hS1;omega) (fun hx=>by have:gr=w.heap.size+1+1:=hm2'.out _ hx;omega)).trans hHeld.2.2.1,(fT.cell (p:=⟨gt,_,Ab⟩) (by show gt<w9;have:=hS1;omega) (fun hx=>by have:gt=w.heap.size+1+1:=hm2'.out _ hx;omega)).trans hHeld.2.2.2⟩ (fun hHeld=>?_);clear hK K_ hHeld
    (try simp only [pS])
    refine Al Bm ?_ _;refine NoPanic.normal ?_;have RES3:=RES2.chg fT (fun hx=>by have:=hm2'.out _ hx;omega);have RP3:=DBox.row4 RP2 rfl (J U 0) (J U rn) (J U (t:Int)) (J U (r.tasks[t].try_+1));replace oy8:Bu.ow _ F8 ⟨Zk.now,Zk.seq,Zk.shelf.set home rest,Zk.runs.set j (Du r t Zk.now)⟩ (⟨Ac ⟨g,o,Ab⟩,4,e1⟩,⟨Ac ⟨gr,orr,Ab⟩,m2,e2⟩):=owC oy8 fT (fun x hx hx2=>by have h1:=hm2'.out _ hx2;subst h1;exact en2 hx);replace aF:=aF.trans (fT.below (by have:=aF.size;omega) (fun x hx=>by have:=hm2'.out _ hx;omega));clear RP_0 RP_1 RP_2 RP_3 pf;go_wp2;exact Aj (P4 RES3 RP3) rfl ⟨(⟨Ac ⟨g,o,Ab⟩,4,e1⟩,⟨Ac ⟨gr,orr,Ab⟩,m2,e2⟩),F8,by rw [HFF.out],by rw [HFF.out];exact oy8,jD,aF⟩
end Go.Proofs.YtonlnjdempbfoaaGreat
