/-
  The law FnFences: its walk, out of the contracts of what it calls.
-/
import Derived.Test.YtonlnjdempbfoaaGreatZFe3
import Derived.Test.YtonlnjdempbfoaaGreatZFe8
import Derived.Test.YtonlnjdempbfoaaGreatZFe14
import Derived.Test.YtonlnjdempbfoaaGreatZFe15
namespace Go.Proofs.YtonlnjdempbfoaaGreat
open Go.RowKit
set_option maxRecDepth 100000
set_option maxHeartbeats 4000000
set_option linter.unusedVariables false
set_option linter.unusedSimpArgs false
open Value renaming int->J,slice->Aa
open IntKind renaming i64->U
open Option renaming none->Ab,some->Ac
open Nat renaming lt_of_lt_of_le->Ai
open Go renaming wpQuiet_nil->Ak
open Go.Proofs.Tryz renaming prog->An
open List renaming length_set->Bg
structure PF (L O:List Fence) (u o:Value) (w:World):Prop where
 rs:Rd Ch w w u L
 ro:Rd Ch w w o O
theorem PF.below {L O:List Fence} {u o:Value} {w w':World} (h:PF L O u o w) (hb:Below w w w'):PF L O u o w' :=
 ⟨(h.rs.below hb).more hb.size,(h.ro.below hb).more hb.size⟩
theorem Ab9 {y:Yard} (h:Ci y<=2000000):Ci (Gv y 0 0).1<=2000000:=by
 have h1:=Acr (d:=⟨2,0,⟨0,0,0,0,[]⟩,0,0,0,0⟩) h;unfold doO at h1;rw [if_neg Bo] at h1;exact h1
theorem V9 (v:Value) (code:List UInt8) (w:World) (hm:code.length<=9223372036854775807) (h:Rd I7 w w v code) :
  Calls An 4 #[v] w fun e w'=>e = .returned (.bool true)/\Below w w w':=by
 by_cases hbig:(1048576:Int)<(code.length:Int)
 ·go_enter Tryz.func4,Tryz.ntmps4;go_wp2_with fail
  refine (Aco v code w hm h).mono ?_;rintro e w1 ⟨rfl,rfl⟩;go_wp2;go_ret;exact ⟨rfl,Bq _ _⟩
 have hs:code.length<=1048576:=Bk;have hbg:decide ((1048576:Int)<(code.length:Int))=false:=by simpa using hbig
 have HR:=Bp (show ∀ W,Below w w W->Rd I7 W W v code from fun W hW=>(h.below hW).more hW.size);have hD:=Bp (fun (W:World) (hW:Below w w W)=>Ux v code W hs (HR.out W hW));have hY:=Bp (fun (W:World) (hW:Below w w W)=>Yv v code W hs (HR.out W hW));unfold Tx at hD;unfold Aev at hY;have hYs:Sound (G5 code):=(Qy code _ _).1;have hYc:Ci (G5 code)<=2000000:=Pt ..;have hP:=Bp (show ∀ W s,Bu.rd W W (G5 code) s->Calls An 25 #[Du (G5 code) s,J U 0,J U 0] W (T0 (Gv (G5 code) 0 0) W) from fun W s hW=>Yu _ s 0 0 W hYc Bo hW);have hPF:=Bp (Ab8 hYs 0 0 ⟨#[116]⟩ (Gv (G5 code) 0 0).1 (Gv (G5 code) 0 0).2 rfl);have hPc:=Ab9 hYc;clear hYs hYc;generalize Gv (G5 code) 0 0=P at *
 generalize G5 code=Y at *
 obtain ⟨z,r⟩:=P;dsimp only at hPF hPc;have hF:=Bp (fun (W:World) (s:Sl×Sl) (hW:Bu.rd W W z s)=>Rg z s r.run r.task ⟨#[116]⟩ W hPc hW);clear hPc;have aU:=Uw code;generalize J0 code=L at *
 obtain ⟨hL9,hLf⟩:=aU;have hfo:∀ f∈L,fOk f=true:=fun f hf=>by
  have:=hLf f hf
  simp only [fOk,Bool.and_eq_true,Cp];omega
 obtain ⟨bQ,-,hhas⟩:=Uv L [] ⟨Bm,Bm,List.Pairwise.nil⟩ hfo (by simp;omega);have HA:=Bp (fun f (hf:f∈L)=>Afa bQ (hfo f hf) (hhas f hf));have hO:(Hi [] L).length<=60:=bQ.len;have hok1:=Bp (Kg.2 bQ);have hI:=Bp (fun (W:World) (u:Value) (hu:Rd Ch W W u L)=>Uq (Aa Ab 0 0) [] u L W Bo Bk (Rd.nil _ _ _ _) hu);have hS:=Bp (fun (W:World) (u:Value) (hu:Rd Ch W W u L)=>Ur (Aa Ab 0 0) [] u L W Bo Bk (Rd.nil _ _ _ _) hu);generalize Hi [] L=O at *
 have hLf':=Bp hLf;clear hLf hfo bQ hhas;go_enter Tryz.func4,Tryz.ntmps4;go_wp2_with fail
 refine (Aco v code w hm h).mono ?_;rintro e w0 ⟨rfl,rfl⟩;rw [hbg];clear hbg hbig;go_wp2_with fail
 refine (hD.out w (Bq _ _)).mono ?_;rintro e w1 ⟨u1,rfl,q1,b1⟩;go_wp2_with fail
 refine (hD.out w1 b1).mono ?_;rintro e w2 ⟨u2,rfl,q2,b2⟩;have B2:=Bs b1 b2;replace q1:=(q1.below b2).more b2.size;clear hD;go_wp2_with fail
 refine (hI.out w2 u1 q1).mono ?_;rintro e w3 ⟨u3,rfl,o3,b3⟩;have X:PF L O u2 u3 w3:=⟨(q2.below b3).more b3.size,Rd.of_own o3⟩
 have B3:=Bs B2 b3;clear b1 b2 b3 B2 q1 q2 o3 hI;obtain ⟨A2,c2,rfl,-⟩:=_root_.id X.rs;obtain ⟨A3,c3,rfl,-⟩:=_root_.id X.ro;go_wp2_with fail
 refine (Ly _ O w3 Bk X.ro).mono ?_;rintro e w4 ⟨rfl,b4⟩;rw [hok1.out];replace X:=X.below b4;have B4:=Bs B3 b4;clear B3 b4 hok1;go_wp2;go_loopw [6] (fun i wr=>∃ k:Nat,k<=L.length/\i = J U k/\PF L O (Aa A2 L.length c2) (Aa A3 O.length c3) wr/\Below w w wr) (fun i _=>L.length - (intOf i).toNat);case atStart=>exact ⟨0,Nat.zero_le _,rfl,X,B4⟩
 case round =>
  clear X B4;obtain ⟨ki,nH,rfl,X,hb⟩:=hrel;by_cases aA:ki<L.length
  ·have aB:(ki:Int)<(L.length:Int):=Bk;have aL:(0:Int)<=(ki:Int):=Bk;obtain ⟨kk,HK⟩:=HA.out L[ki] (List.getElem_mem aA);obtain ⟨idx,fR,htri,hbnd,hmore,hlate⟩:=HK;obtain ⟨bs,os,rfl,eM,s0,s1,s2,s3⟩:=X.rs.fence aA;obtain ⟨bo,oo,rfl,hbo,o0,o1,o2,o3⟩:=X.ro.fence fR;have cF:∀ u:Ix wr,Calls An 22 #[Aa (Ac ⟨bo,oo,Ab⟩) O.length c3,J U L[ki].run,J U L[ki].task] u.1 fun e w'=>e = .returned (J U kk)/\Below u.1 u.1 w':=fun u=>by
    have h1:=Mz _ O L[ki].run L[ki].task u.1 Bk ((X.ro.below u.2).more u.2.size);rw [idx] at h1;exact h1
   have CF:=Bp cF;clear cF idx;have qJ:=Bp (show ∀ W,PF L O (Aa (Ac ⟨bs,os,Ab⟩) L.length c2) (Aa (Ac ⟨bo,oo,Ab⟩) O.length c3) W->W.cell? ⟨bs,os+ki * 4,Ab⟩=Ac (J U L[ki].run)/\W.cell? ⟨bs,os+ki * 4+1,Ab⟩=Ac (J U L[ki].task)/\W.cell? ⟨bs,os+ki * 4+2,Ab⟩=Ac (J U L[ki].try_)/\W.cell? ⟨bs,os+ki * 4+3,Ab⟩=Ac (.string L[ki].text) /\
     W.cell? ⟨bo,oo+kk * 4,Ab⟩=Ac (J U O[kk].run)/\W.cell? ⟨bo,oo+kk * 4+1,Ab⟩=Ac (J U O[kk].task)/\W.cell? ⟨bo,oo+kk * 4+2,Ab⟩=Ac (J U O[kk].try_)/\W.cell? ⟨bo,oo+kk * 4+3,Ab⟩=Ac (.string O[kk].text) from fun W hW=>by
    obtain ⟨_,_,e1,_,a0,a1,a2,a3⟩:=hW.rs.fence aA;obtain ⟨_,_,e2,_,d0,d1,d2,d3⟩:=hW.ro.fence fR;simp only [Option.some.injEq,Addr.mk.injEq,and_true] at e1 e2;obtain ⟨rfl,rfl⟩:=e1;obtain ⟨rfl,rfl⟩:=e2;exact ⟨a0,a1,a2,a3,d0,d1,d2,d3⟩)
   have cS:(0:Int)<=(kk:Int):=Bk;have qC:(kk:Int)<(O.length:Int):=Bk;have t1:decide ((kk:Int)<0)=false:=Bm;have t2:decide (O.length<=kk)=false:=by simp;omega
   have t3:decide (O[kk].try_<L[ki].try_)=false:=by simp;omega
   have w1':U.wrap (O[kk].try_ - 1)=O[kk].try_ - 1:=IntWalk.i64_in _ Bk;have dX:=Bp (show ∀ g W B A n c,Rd Ch W B (Aa A n c) (O.set kk g)->n=O.length /\ ∃ b o,A=Ac ⟨b,o,Ab⟩/\b<B/\W.cell? ⟨b,o+kk * 4+3,Ab⟩=Ac (.string g.text) from fun g W B A n c hr=>by
    obtain ⟨_,_,hv,-⟩:=_root_.id hr;simp only [Value.slice.injEq] at hv;obtain ⟨rfl,rfl,rfl⟩:=hv;rw [Bg];refine ⟨rfl,?_⟩;obtain ⟨b,o,e1,e2,_,_,_,e3⟩:=hr.fence (k:=kk) (by rw [Bg];exact fR);rw [List.getElem_set_self] at e3;exact ⟨b,o,e1,e2,e3⟩)
   have hstay:=Bp (show ∀ W B A n c,Rd Ch W B (Aa A n c) O->n=O.length /\ ∃ b o,A=Ac ⟨b,o,Ab⟩/\b<B/\W.cell? ⟨b,o+kk * 4,Ab⟩=Ac (J U O[kk].run)/\W.cell? ⟨b,o+kk * 4+1,Ab⟩=Ac (J U O[kk].task)/\W.cell? ⟨b,o+kk * 4+2,Ab⟩=Ac (J U O[kk].try_)/\W.cell? ⟨b,o+kk * 4+3,Ab⟩=Ac (.string O[kk].text) from fun W B A n c hr=>by
    obtain ⟨_,_,hv,-⟩:=_root_.id hr;simp only [Value.slice.injEq] at hv;obtain ⟨rfl,rfl,rfl⟩:=hv;refine ⟨rfl,?_⟩;obtain ⟨b,o,e1,e2,e3⟩:=hr.fence (k:=kk) fR;exact ⟨b,o,e1,e2,e3⟩)
   have cM:=Bp (fun (W:World) (hW:PF L O (Aa (Ac ⟨bs,os,Ab⟩) L.length c2) (Aa (Ac ⟨bo,oo,Ab⟩) O.length c3) W)=>Jj _ O ⟨L[ki].run,L[ki].task,O[kk].try_,⟨#[110,101,119]⟩⟩ W Bk hW.ro);have cT:=Bp (fun (W:World) (hW:PF L O (Aa (Ac ⟨bs,os,Ab⟩) L.length c2) (Aa (Ac ⟨bo,oo,Ab⟩) O.length c3) W)=>Jj _ O ⟨L[ki].run,L[ki].task,O[kk].try_ - 1,⟨#[110,101,119]⟩⟩ W Bk hW.ro);unfold PutPost at cM cT;obtain ⟨cl,jL,dS⟩:=hlate ⟨#[110,101,119]⟩;rw [hmore] at cM;rw [jL] at cT;dsimp only at cM cT;clear hmore hlate jL HA;generalize L[ki]=f at *
   generalize O[kk]=g at *
   have aJ:=Cy wr;go_wp2;refine Bv Bl Bl ?_;repeat (go_big_quiet_step ((go_at_call 22;exact Hv CF.out)))
   refine Ak ?_;rintro w5 ⟨⟨_,b5⟩,rfl⟩;replace X:=X.below b5;replace hb:=Bs hb b5;clear aJ CF s0 s1 s2 s3 o0 o1 o2 o3;obtain ⟨s0,s1,s2,s3,o0,o1,o2,o3⟩:=qJ.out w5 X;have aJ:=Cy w5;have hbs5:bs<w5:=Ai eM b5.size;have hbo5:bo<w5:=Ai hbo b5.size;clear b5 eM hbo;go_wp2;refine Bv Bl Bl ?_;repeat (go_big_quiet_step (fail))
   refine Ak ?_;rintro w6 ⟨⟨_,b6⟩,rfl⟩;replace X:=X.below b6;replace hb:=Bs hb b6;clear aJ s0 s1 s2 s3 o0 o1 o2 o3;obtain ⟨s0,s1,s2,s3,o0,o1,o2,o3⟩:=qJ.out w6 X;have hbs6:bs<w6:=Ai hbs5 b6.size;have hbo6:bo<w6:=Ai hbo5 b6.size;clear b6 hbs5 hbo5;go_wp2_with fail
   have FB:=DBox.new 65 [J U f.run,J U f.task,J U g.try_,.string ⟨#[110,101,119]⟩] w6 (b:=w6.heap.size) rfl;have b7:Below w6 w6 (w6.alloc (.cells #[J U f.run,J U f.task,J U g.try_,.string ⟨#[110,101,119]⟩] 65)):=(Bq _ _).alloc (Br _) _;generalize w6.alloc (.cells #[J U f.run,J U f.task,J U g.try_,.string ⟨#[110,101,119]⟩] 65)=w7 at *
   have kC:=FB.lt;refine (cM.out w7 (X.below b7)).mono ?_;rintro e w8 ⟨vm,rfl,om,b8⟩;obtain ⟨Am,cm,rfl,-⟩:=_root_.id (Rd.of_own om);rw [Bg] at om ⊢;clear cM;have B8:=Bs b7 b8;replace FB:=FB.below b8;clear s0 s1 s2 s3 o0 o1 o2 o3;obtain ⟨s0,s1,s2,s3,o0,o1,o2,o3⟩:=qJ.out w8 (X.below B8);have hbo8:bo<w8:=Ai hbo6 B8.size;have rf:=FB.free;have FB_:=FB.g4;go_wp2_with fail
   have B9:=B8.setCell (p:=⟨w6,2,Ab⟩) (Br _) (J U (g.try_ - 1));replace om:=om.setLow (a:=⟨w6,2,Ab⟩) kC (J U (g.try_ - 1));replace FB:=FB.put 2 Bm (J U (g.try_ - 1));clear FB_;dsimp only [List.set_cons_succ,List.set_cons_zero] at FB;have qR:(w8.setCell ⟨w6,2,Ab⟩ (J U (g.try_ - 1))).heap.size=w8.heap.size:=World.size_setCell ..;generalize w8.setCell ⟨w6,2,Ab⟩ (J U (g.try_ - 1))=w9 at *
   refine (cT.out w9 (X.below B9)).mono ?_;rintro e w10 ⟨vt,rfl,ot,b10⟩;obtain ⟨At,ct,rfl,-⟩:=_root_.id (Rd.of_own ot);replace om:=om.below b10;have B10:=Bs B9 b10;obtain ⟨-,bt,oft,rfl,hbt,p0,p1,p2,p3⟩:=hstay.out w10 _ _ _ _ (Rd.of_own ot);obtain ⟨-,bm,ofm,rfl,aW,m3⟩:=dX.out _ w10 _ _ _ _ (Rd.of_own om);replace FB:=FB.below b10;clear s0 s1 s2 s3 o0 o1 o2 o3;obtain ⟨-,-,-,-,o0,o1,o2,o3⟩:=qJ.out w10 (X.below B10);have hbo10:bo<w10:=Ai hbo6 B10.size;have hb10:=Bs hb B10;have hX:=X.below B10;clear cT dX hstay qJ om ot X hb B8 B9 B10 b7 b8 b10 qR;have rf:=FB.free;have FB_:=FB.g4;have aJ:=Cy w10;go_wp2;have t4:(cl != 11)=false\/((cl != 11)=true/\decide (1<g.try_)=false):=by
    by_cases hc:cl=11
    ·exact .inl (by simpa using hc)
    ·exact .inr ⟨by simpa using hc,by simp only [decide_eq_false_iff_not];exact fun h=>hc (dS Bk)⟩
   rcases t4 with t4 | ⟨t4,t5⟩
   all_goals
    refine Bv Bl Bl ?_;repeat (go_big_quiet_step (fail))
    refine Ak ?_;rintro w11 ⟨⟨_,b11⟩,rfl⟩;replace hX:=hX.below b11;replace hb10:=Bs hb10 b11;go_wp2;exact ⟨⟨ki+1,Bk,by go_num,hX,hb10⟩,by simp [intOf];omega⟩
  ·have hlt':¬ ((ki:Int)<(L.length:Int)):=Bk;clear nH HA aA;go_wp2_with fail
   refine (hS.out wr _ X.rs).mono ?_;rintro e w5 ⟨u5,rfl,o5,b5⟩;have q5:=Rd.of_own o5;obtain ⟨A5,c5,rfl,-⟩:=_root_.id q5;have q3:Rd Ch w5 w5 (Aa A3 O.length c3) O:=(X.ro.below b5).more b5.size;replace hb:=Bs hb b5;clear X o5 b5 hS hlt';go_wp2;go_loopw [14] (fun i wr=>∃ k:Nat,k<=O.length/\i = J U k/\Rd Ch wr wr (Aa A3 O.length c3) O/\Rd Ch wr wr (Aa A5 O.length c5) O/\Below w w wr) (fun i _=>O.length - (intOf i).toNat);case atStart=>exact ⟨0,Nat.zero_le _,rfl,q3,q5,hb⟩
   case round =>
    clear q3 q5 hb;obtain ⟨kj,hkj,rfl,p3,p5,hb⟩:=hrel;by_cases aA:kj<O.length
    ·have aB:(kj:Int)<(O.length:Int):=Bk;have aL:(0:Int)<=(kj:Int):=Bk;obtain ⟨bs,os,rfl,eM,s0,s1,s2,s3⟩:=p3.fence aA;obtain ⟨bo,oo,rfl,hbo,o0,o1,o2,o3⟩:=p5.fence aA;have aJ:=Cy wr;go_wp2;refine Bv Bl Bl ?_;repeat (go_big_quiet_step (fail))
     refine Ak ?_;rintro w6 ⟨⟨_,b6⟩,rfl⟩;replace p3:=(p3.below b6).more b6.size;replace p5:=(p5.below b6).more b6.size;replace hb:=Bs hb b6;go_wp2;exact ⟨⟨kj+1,Bk,by go_num,p3,p5,hb⟩,by simp [intOf];omega⟩
    ·have hlt':¬ ((kj:Int)<(O.length:Int)):=Bk;clear hkj aA p3 p5;go_wp2_with fail
     refine (hY.out _ hb).mono ?_;rintro e w6 ⟨s,rfl,y6,b6⟩;replace hb:=Bs hb b6;clear b6 hY;go_wp2_with fail
     refine (hP.out w6 s y6).mono ?_;clear y6;rintro e w7 ⟨⟨⟨a1,n1,c1⟩,⟨a2,n2,c2'⟩⟩,F,rfl,oy,-,b7⟩;replace oy:=Bu.ow_rd (F:=F) (x:=z) (s:=(⟨a1,n1,c1⟩,⟨a2,n2,c2'⟩)) oy;replace hb:=Bs hb b7;clear b7 hP;obtain ⟨W8,hW8_,YB,RB,B8⟩:=bx2 w7 31 [J U z.now,J U z.seq,Aa a1 n1 c1,Aa a2 n2 c2'] 69 [J U r.code,J U r.run,J U r.task,J U r.try_];go_upto_region 29 with fail
     rw [<-hW8_.out];clear hW8_;replace oy:=Bu.rd_more (Bu.rd_below (x:=z) (s:=(⟨a1,n1,c1⟩,⟨a2,n2,c2'⟩)) oy B8) B8.size;replace hb:=Bs hb B8;clear B8;have YB_:=YB.g4;have RB_:=RB.g4;go_wp2_with fail
     refine (hF.out _ (⟨a1,n1,c1⟩,⟨a2,n2,c2'⟩) oy).mono ?_;rintro e w9 ⟨rfl,b9⟩;rw [hPF.out];clear YB_ RB_ YB;replace RB:=RB.below b9;replace hb:=Bs hb b9;have RB_:=RB.g4;have rf:=RB.free;by_cases hc:r.code=0
     ·rw [if_pos hc];rw [hc] at RB_;go_wp2;go_ret;exact ⟨rfl,hb.alloc hb.size _⟩
     ·rw [if_neg hc];have t6:(r.code == 0)=false:=by simpa using hc
      go_wp2;go_ret;exact ⟨rfl,hb.alloc hb.size _⟩
end Go.Proofs.YtonlnjdempbfoaaGreat
