/-
  fails of the program: a task of a run fails, in place. VictimsOf of the reference. done of the program: a task of a run is done, in place. Poll of the reference
-/
import Derived.Test.YtecnbnbopcblgaaGreatZAk0
import Derived.Test.YtecnbnbopcblgaaGreatZAk3
import Derived.Test.YtecnbnbopcblgaaGreatZAk8
import Derived.Test.YtecnbnbopcblgaaGreatZAk10
import Derived.Test.YtecnbnbopcblgaaGreatZAk11
namespace Go.Proofs.YtecnbnbopcblgaaGreat
open Go.RowKit
set_option maxRecDepth 100000
set_option maxHeartbeats 4000000
set_option linter.unusedVariables false
set_option linter.unusedSimpArgs false
open Value renaming int->J,slice->Aa
open IntKind renaming i64->U
open Option renaming none->Ab,some->Ac
open Below renaming setCell->Ad
open Nat renaming zero_le->Ag
open Go renaming bodyPost_ret->Aj,wpAnyH_done->Al
open Go.Proofs.Tryz renaming prog->Am
open Int renaming toNat_natCast->Ao,eq_ofNat_of_zero_le->Ap
open IntWalk renaming i64_in->Aq
open List renaming mem_singleton->Au,getElem_mem->Aw,nodup_append->Ax,length_take->Az,mem_append_right->Be,take_of_length_le->Bg,length_set->Bh
open Go.Proofs.Tryz
theorem Af {p:Prop} (h:p:=by
 have aB:(k:Int)<p.tasks:=by have:=nE.out;omega
 have hS:=Br (Oz (Eu p) k);go_wp2_with fail
 refine (CB.out _ hb k).mono ?_;rintro e1 w4 ⟨vb,rfl,ob,b4⟩;obtain ⟨A9,c9,rfl,-⟩:=_root_.id (Rd.of_own ob);have cG:(Eg (Ea p) p.tasks.toNat k).length<=12:=by have h1:=I9 (Ea p) p.tasks.toNat k;have h2:=qY.out;omega
 have hN:Hid (Eu p k=⟨if (Eg (Ea p) p.tasks.toNat k).length=0 then 2 else 1,(Eg (Ea p) p.tasks.toNat k).length,0,0⟩):=rfl;have uS:=Br (show ((List.range k).map (Eu p)).length<=3000000 by simp;omega);generalize (Eg (Ea p) p.tasks.toNat k).length=N at *
 clear X_0 X_1 X_2 X_3 X_4 X_l;clear RB_0 RB_1 RB_2 RB_3 RB_4 RB_5 RB_6 RB_7 RB_l;have hb4s:=b4.size;have bV:=hb.size;replace X:=X.below b4;replace RES:=RES.below b4;replace RB:=RB.below b4;replace op:=Ce.ow_below op.out b4;have dL:=ho.out.below b4;have cX:=Bv hb b4;clear ho b4 ob hb;obtain ⟨RB_0,RB_1,RB_2,RB_3,RB_4,RB_5,RB_6,RB_7,RB_l⟩:=RB.g8;have rbf:=RB.free;by_cases hz:N=0
 ·subst hz;have sW:Hid (Eu p k=⟨2,0,0,0⟩):=by rw [if_pos rfl] at hN;exact hN
  clear hN;have b5:Below w4 w4 (w4.alloc (.cells #[J U 2,J U 0,J U 0,J U 0] 203)):=Bu;have XB:=DBox.new 203 [J U 2,J U 0,J U 0,J U 0] w4 (b:=w4) rfl;go_upto_region 10 with fail
  clear RB_0 RB_1 RB_2 RB_3 RB_4 RB_5 RB_6 RB_7 RB_l;clear rbf;replace X:=X.below b5;replace RES:=RES.below b5;replace RB:=RB.below b5;replace op:=Ce.ow_below op b5;replace dL:=dL.below b5;replace cX:=Bv cX b5;have hb5s:=b5.size;clear b5;generalize w4.alloc (.cells #[J U 2,J U 0,J U 0,J U 0] 203)=w5 at *
  obtain ⟨RB_0,RB_1,RB_2,RB_3,RB_4,RB_5,RB_6,RB_7,RB_l⟩:=RB.g8;obtain ⟨XB_0,XB_1,XB_2,XB_3,XB_l⟩:=XB.g4;have rbf:=RB.free;have ha:Hid (∀ w:World,Below w w (w.alloc (.cells #[J U 2,J U 0,J U 0,J U 0] 203))):=fun w=>Bu;have HL:Hid (((List.range k).map (Eu p)).length=k):=by
   show ((List.range k).map (Eu p)).length=k;simp
  go_wp2_with (at_builtin;refine Ci _ Ge Bq rfl (.tmp 38) (.tmp 40) rfl underlying65 aQ aU aS aR rfl (base:=rb+1) (l:=(List.range k).map (Eu p)) rfl (dL.below (ha.out w5)) rfl (Rd.one Ge _ _ ⟨2,0,0,0⟩ rfl rfl 1 (Bt _) (Nat.lt_succ_self _)) uS.out Bo Bq (by simp;omega) ?_;intro v5 w6 o6 g6 _;obtain ⟨⟨va,vn,vc⟩,rfl⟩:∃ s:Sl,v5 = Aa s.a s.n s.c:=(by obtain ⟨A7,c7,rfl,_⟩:=Rd.of_own o6;exact ⟨⟨A7,_,c7⟩,rfl⟩);have RB6:=(RB.below (ha.out w5)).off g6 (fun e=>by have:=dL.within _ e.symm;omega);have q7:=RB6.cell 7 _ rfl;have qf:=RB6.free;have ql:=RB6.lt)
  have aJ:Below w w w6:=(Bv cX (ha.out w5)).grown g6 (Bv cX (ha.out w5)).size (fun g hg=>by have:=dL.within _ hg;omega);have X6:=(X.below (ha.out w5)).off g6 (fun e=>by have:=dL.within _ e.symm;omega);have RES6:=(RES.below (ha.out w5)).off g6 (fun e=>by have:=dL.within _ e.symm;omega);have op6:=(Ce.ow_keep (Ce.ow_below op (ha.out w5)) g6.size (fun b dA=>g6.block b (Ce.ow_lt (Ce.ow_below op (ha.out w5)) b dA) (fun e=>by have h1:=dL.within _ e.symm;have h2:=cA b dA;omega)))
  have eG:Ow Ge 203 (w6.setCell ⟨rb,7,Ab⟩ (Aa va vn vc)) (rb+1) (Aa va vn vc) ((List.range (k+1)).map (Eu p)):=by
   rw [hS.out,sW.out];exact o6.setOther (fun e=>by have h1:rb+1<=rb:=(o6.within _ e).1;omega) _
  exact ⟨⟨k+1,_,Bl,by go_num,eG,X6.setOther (by show w.heap.size≠rb;omega) _,RES6.setOther (by show w.heap.size+1≠rb;omega) _,RB6.set 7 Bo _,Ce.ow_set op6 (a:=⟨rb,7,Ab⟩) (fun hx=>by have h1:w+1<rb/\rb<rb:=cA _ hx;omega) _,aJ.setCell (by show w.heap.size<=rb;omega) _,by simp [World.setCell];omega⟩,clM⟩
 ·have sW:Hid (Eu p k=⟨1,N,0,0⟩):=by rw [if_neg hz] at hN;exact hN
  have hNI:(0:Int)<(N:Int):=Bl;clear hN hz;have b5:Below w4 w4 (w4.alloc (.cells #[J U 1,J U (N:Int),J U 0,J U 0] 203)):=Bu;have XB:=DBox.new 203 [J U 1,J U (N:Int),J U 0,J U 0] w4 (b:=w4) rfl;go_upto_region 10 with fail
  clear RB_0 RB_1 RB_2 RB_3 RB_4 RB_5 RB_6 RB_7 RB_l;clear rbf;replace X:=X.below b5;replace RES:=RES.below b5;replace RB:=RB.below b5;replace op:=Ce.ow_below op b5;replace dL:=dL.below b5;replace cX:=Bv cX b5;have hb5s:=b5.size;clear b5;generalize w4.alloc (.cells #[J U 1,J U (N:Int),J U 0,J U 0] 203)=w5 at *
  obtain ⟨RB_0,RB_1,RB_2,RB_3,RB_4,RB_5,RB_6,RB_7,RB_l⟩:=RB.g8;obtain ⟨XB_0,XB_1,XB_2,XB_3,XB_l⟩:=XB.g4;have rbf:=RB.free;have ha:Hid (∀ w:World,Below w w (w.alloc (.cells #[J U 1,J U (N:Int),J U 0,J U 0] 203))):=fun w=>Bu;have HL:Hid (((List.range k).map (Eu p)).length=k):=by
   show ((List.range k).map (Eu p)).length=k;simp
  go_wp2_with (at_builtin;refine Ci _ Ge Bq rfl (.tmp 38) (.tmp 40) rfl underlying65 aQ aU aS aR rfl (base:=rb+1) (l:=(List.range k).map (Eu p)) rfl (dL.below (ha.out w5)) rfl (Rd.one Ge _ _ ⟨1,(N:Int),0,0⟩ rfl rfl 1 (Bt _) (Nat.lt_succ_self _)) uS.out Bo Bq (by simp;omega) ?_;intro v5 w6 o6 g6 _;obtain ⟨⟨va,vn,vc⟩,rfl⟩:∃ s:Sl,v5 = Aa s.a s.n s.c:=(by obtain ⟨A7,c7,rfl,_⟩:=Rd.of_own o6;exact ⟨⟨A7,_,c7⟩,rfl⟩);have RB6:=(RB.below (ha.out w5)).off g6 (fun e=>by have:=dL.within _ e.symm;omega);have q7:=RB6.cell 7 _ rfl;have qf:=RB6.free;have ql:=RB6.lt)
  have aJ:Below w w w6:=(Bv cX (ha.out w5)).grown g6 (Bv cX (ha.out w5)).size (fun g hg=>by have:=dL.within _ hg;omega);have X6:=(X.below (ha.out w5)).off g6 (fun e=>by have:=dL.within _ e.symm;omega);have RES6:=(RES.below (ha.out w5)).off g6 (fun e=>by have:=dL.within _ e.symm;omega);have op6:=(Ce.ow_keep (Ce.ow_below op (ha.out w5)) g6.size (fun b dA=>g6.block b (Ce.ow_lt (Ce.ow_below op (ha.out w5)) b dA) (fun e=>by have h1:=dL.within _ e.symm;have h2:=cA b dA;omega)))
  have eG:Ow Ge 203 (w6.setCell ⟨rb,7,Ab⟩ (Aa va vn vc)) (rb+1) (Aa va vn vc) ((List.range (k+1)).map (Eu p)):=by
   rw [hS.out,sW.out];exact o6.setOther (fun e=>by have h1:rb+1<=rb:=(o6.within _ e).1;omega) _
  exact ⟨⟨k+1,_,Bl,by go_num,eG,X6.setOther (by show w.heap.size≠rb;omega) _,RES6.setOther (by show w.heap.size+1≠rb;omega) _,RB6.set 7 Bo _,Ce.ow_set op6 (a:=⟨rb,7,Ab⟩) (fun hx=>by have h1:w+1<rb/\rb<rb:=cA _ hx;omega) _,aJ.setCell (by show w.heap.size<=rb;omega) _,by simp [World.setCell];omega⟩,clM⟩):p:=h
theorem Ait {p:Prop} (h:p:=by exact ⟨(b6.cell (p:=⟨_,_,Ab⟩) (by show ob<w5;omega)).trans OB_3,(b6.cell (p:=⟨_,_,Ab⟩) (by show ob<w5;omega)).trans OB_0,(b6.cell (p:=⟨_,_,Ab⟩) (by show eb<w5;omega)).trans EB_3,(b6.cell (p:=⟨_,_,Ab⟩) (by show gr<w5;omega)).trans c0,(b6.cell (p:=⟨_,_,Ab⟩) (by show gr<w5;omega)).trans c1,(b6.cell (p:=⟨_,_,Ab⟩) (by show gr<w5;omega)).trans c2,(b6.cell (p:=⟨_,_,Ab⟩) (by show gr<w5;omega)).trans c3,(b6.cell (p:=⟨_,_,Ab⟩) (by show gr<w5;omega)).trans c4,(b6.cell (p:=⟨_,_,Ab⟩) (by show gr<w5;omega)).trans c5,(b6.cell (p:=⟨_,_,Ab⟩) (by show gr<w5;omega)).trans c6,(b6.cell (p:=⟨_,_,Ab⟩) (by show gr<w5;omega)).trans c7⟩):p:=h
theorem Ajk {p:Prop} (h:p:=by rw [hH.out];show OwL C8 _ Ft _ ((List.range k).map (Eu p));exact ((((((((ot.set (a:=⟨w+1,_,Ab⟩) e2 _).set (a:=⟨w+1,_,Ab⟩) e2 _).set (a:=⟨w+1,_,Ab⟩) e2 _).set (a:=⟨w+1,_,Ab⟩) e2 _).set (a:=⟨w+1,_,Ab⟩) e2 _).set (a:=⟨w+1,_,Ab⟩) e2 _).set (a:=⟨w+1,_,Ab⟩) e2 _).set (a:=⟨w+1,_,Ab⟩) e2 _)):p:=h
theorem Akf {p:Prop} (h:p:=by
 intro h;rcases h with h | h
 ·rw [Bg Bl]
 ·have e:L.foldl (Ez home) Z0=(L.drop k).foldl (Ez home) ((L.take k).foldl (Ez home) Z0):=by
   rw [<-List.foldl_append,List.take_append_drop]
  rw [e];exact M3 _ _ h):p:=h
theorem Akn {p:Prop} (h:p:=by
 rcases fD _ hx with h | h
 ·rcases gZ _ h with h1 | h1
  ·have:=hF.out.1 _ h1;omega
  ·omega
 ·omega):p:=h
theorem Akr {p:Prop} (h:p:=by have h1:=sQ.out.2.2.2.1 t fA;have h2:=(Dl.1 sQ.out.2.1).1;simp only [E5,Bool.and_eq_true] at h2;have h3:=Ct.1 h2.1.2;have h4:=Ct.1 h2.2;unfold Hx Oo at h1;rw [sL] at h1;omega):p:=h
theorem Ak9 {p:Prop} (h:p:=by obtain ⟨G1,G2,_,_,os,_⟩:=oy3;exact OwL.free0 (show OwL (Dt.list By) w4 G1 (Aa (Ac ⟨g2,o2,Ab⟩) 4 f1) (Cb Zk v).shelf from os) Bl):p:=h
theorem Ala {p:Prop} (h:p:=by rw [Int.tmod_eq_emod_of_nonneg Bl];omega):p:=h
theorem Alc {p:Prop} (h:p:=by exact ⟨(b6.cell (p:=⟨_,_,Ab⟩) (by show ob<w5;omega)).trans OB_2,(b6.cell (p:=⟨_,_,Ab⟩) (by show g2<w5;omega)).trans cx⟩):p:=h
theorem Alf {p:Prop} (h:p:=by go_enter func231,ntmps231;go_wp2;go_ret;exact ⟨Cy H.out.symm,rfl⟩):p:=h
theorem Ali {p:Prop} (h:p:=by obtain ⟨G1,G2,_,_,os,_⟩:=oy;exact OwL.free0 (show OwL (Dt.list By) w3 G1 (Aa (Ac ⟨g,o,Ab⟩) 4 e1) Zk.shelf from os) Bl):p:=h
theorem All {p:Prop} (h:p:=by rcases (show k=0\/k=1\/k=2 by omega) with rfl | rfl | rfl<;>rfl):p:=h
theorem Alw {p:Prop} (h:p:=by
 rw [Ax];refine ⟨Ce.ow_nodup op.out,ot.nodup,fun u hu u' hu' e=>?_⟩
 have:=cA u hu
 have:=nt u' hu'
 omega):p:=h
theorem Al0 {p:Prop} (h:p:=by
 have e:Zk.runs[j]=y.runs[j]:=by simp only [bH.out.runs]
 show Hn Zk.runs[j];rw [e];exact Ev HP.out vA):p:=h
theorem Al5 {p:Prop} (h:p:=by rw [hH.out];show Ce.ow _ F p _;exact (by (repeat (refine Dt.ow_set Ce ?_ e1 _));exact op.out)):p:=h
theorem Al7 {p:Prop} (h:p:=by have h1:=bH.out.fresh e (by rw [dF.out];exact he);rw [<-Ox bH.out.runs] at h1;exact Mv.1 h1):p:=h
theorem Aml {p:Prop} (h:p:=by have h1:=bH.out.step hh hv4 jR;rw [Nj (by rw [dF.out];exact hq) jR] at h1;exact h1):p:=h
theorem Amo {p:Prop} (h:p:=by go_wp2;exact Aj (v:=.tuple #[]) (by simp [results,results214,go_sem]) rfl HF.out):p:=h
theorem Amp {p:Prop} (h:p:=by go_wp2;exact Aj (v:=.tuple #[]) (by simp [results,results212,go_sem]) rfl HF.out):p:=h
def Im (gr o n c:Nat) (rs:List (Run×Cf.S)) (k:Nat) (G1 Fx G2:List Nat) (r:Run) (s:Sl×Sl) (w:World) (e:Ending) (w':World):Prop :=
 e = .returned (.tuple #[])/\Foc Cf w' gr o n c rs k G1 Fx G2 r s/\Chg (gr :: Fx) w w'
theorem Foc.atRun {w:World} {gr o n c k:Nat} {rs:List (Run×Cf.S)} {G1 Fx G2:List Nat} {r:Run} {s:Sl×Sl} (h:Foc Cf w gr o n c rs k G1 Fx G2 r s) (hp:0<r.tasks.length) :
  ∃ F1 b o2 c2,Fx=F1 ++ [b]/\Fx.Nodup/\s.2=⟨Ac ⟨b,o2,Ab⟩,r.tasks.length,c2⟩/\Ce.ow w F1 r.plan s.1/\Hw Ge w [b] (Aa (Ac ⟨b,o2,Ab⟩) r.tasks.length c2) r.tasks/\gr≠b/\b∉F1:=by
 obtain ⟨F1,F2,jW,bP,op,ot⟩:=h.here;obtain ⟨s1,⟨A,m,c2⟩⟩:=s;have ot:OwL C8 w F2 (Aa A m c2) r.tasks:=ot;obtain rfl:m=r.tasks.length:=RdL.at1 (s:=⟨A,m,c2⟩) ot.rd;have oh:=N1 ot;obtain ⟨b,o2,rfl,_⟩:=oh.rd.tsk hp;obtain ⟨rfl,_,_⟩:=oh.block hp;refine ⟨F1,b,o2,c2,jW,bP,rfl,op,oh,fun e=>h.apart.1.2.1 (by rw [jW,e];simp),fun hx=>?_⟩;rw [jW] at bP;exact (Ax.1 bP).2.2 b hx b Bo rfl
theorem Chg.blk {g:Nat} {F:List Nat} {w w':World} (h:Chg [g] w w') (hg:g∈F):Chg F w w':=h.mono (fun x hx=>by rw [Au.1 hx];exact hg)
theorem M4 (gr o n c:Nat) (rs:List (Run×Cf.S)) (k:Nat) (G1 Fx G2:List Nat) (r:Run) (s:Sl×Sl) (u:Nat) (w:World) (hl:r.tasks.length<=1000) (hR:I4 r u) (hF:Foc Cf w gr o n c rs k G1 Fx G2 r s) :
  Calls Am 214 #[.pointer (Ac ⟨gr,o+k * 8,Ab⟩),J U u] w (Im gr o n c rs k G1 Fx G2 (Dp r u) s w):=by
 have hu:u<r.tasks.length:=by have:=hR.2.1.2;omega
 obtain ⟨l5,l6,l4,ls⟩:=Qp hR;obtain ⟨F1,b,o2,c2,rfl,bP,eB,op,oh,rQ,dA⟩:=hF.atRun Bl;obtain ⟨s1,s2⟩:=s;obtain rfl:s2=_:=eB;have qG:=hF.blk;have mX:=(oh.block Bl).2.1;have qE:=(oh.block Bl).2.2;have g2:w.cell? ⟨gr,o+k * 8+2,Ab⟩=Ac (J U r.plan.most):=hF.cells 2 _ rfl;have g6:w.cell? ⟨gr,o+k * 8+6,Ab⟩=Ac (J U r.state):=hF.cells 6 _ rfl;have g7:w.cell? ⟨gr,o+k * 8+7,Ab⟩=Ac (Aa (Ac ⟨b,o2,Ab⟩) r.tasks.length c2):=hF.cells 7 _ rfl;have gf:=hF.free;obtain ⟨_,_,hA,_,d0,d1,d2,d3⟩:=oh.rd.tsk hu;simp only [Option.some.injEq,Addr.mk.injEq,and_true] at hA;obtain ⟨rfl,rfl⟩:=hA;have kF:(u:Int)<(r.tasks.length:Int):=Bl;have gW:(0:Int)<=(u:Int):=Bl;have dE:=Br (Cu hu);have kT:=Br (show r.tasks[u].state=3 by have:=hR.2.2;rw [Ao,Cu hu] at this;exact this);have h1:=oh.taskUntil hu 0;have eF:=Chg.setCell w b (o2+u * 4+3) (J U 0);have op1:=Ce.ow_chg op eF (fun x hx h=>by rw [Au.1 h] at hx;exact dA hx);have F1_:Foc Cf (w.setCell ⟨b,o2+u * 4+3,Ab⟩ (J U 0)) gr o n c rs k G1 (F1 ++ [b]) G2 ⟨r.id,r.plan,r.state,r.tasks.set u ⟨r.tasks[u].state,r.tasks[u].need,r.tasks[u].try_,0⟩⟩ (s1,⟨Ac ⟨b,o2,Ab⟩,r.tasks.length,c2⟩) :=
  hF.sub (eF.blk Bo) ⟨F1,[b],rfl,bP,op1,Hb h1⟩ rfl
 have hC1':Chg (gr :: (F1 ++ [b])) w (w.setCell ⟨b,o2+u * 4+3,Ab⟩ (J U 0)):=eF.blk Bo;have aS:=eF.size;go_enter func214,ntmps214;go_upto_region 2 with fail
 generalize w.setCell ⟨b,o2+u * 4+3,Ab⟩ (J U 0)=w1 at *
 clear d0 d1 d2 d3 g2 g6 g7 gf hF op oh qE eF;have pF:=F1_.blk;have hbl1:=(h1.block (by rw [Bh];omega)).2.1;have g2:w1.cell? ⟨gr,o+k * 8+2,Ab⟩=Ac (J U r.plan.most):=F1_.cells 2 _ rfl;have vC:u<(r.tasks.set u ⟨r.tasks[u].state,r.tasks[u].need,r.tasks[u].try_,0⟩).length:=by rw [Bh];exact hu
 obtain ⟨_,_,hA,_,d0,d1,d2,d3⟩:=h1.rd.tsk vC;simp only [Option.some.injEq,Addr.mk.injEq,and_true] at hA;obtain ⟨rfl,rfl⟩:=hA;rw [List.getElem_set_self] at d0 d1 d2 d3;have aM:=Cw w1;refine Bz Bm Bm ?_;repeat (go_big_quiet_step (fail))
 refine wpQuiet_nil ?_;rintro w2 ⟨⟨_,b2⟩,rfl⟩;clear aM d0 d1 d2 d3 g2;have jQ:=hC1'.trans (Chg.of_below (gr :: (F1 ++ [b])) b2);have h2:=h1.below b2;have op2:=Ce.ow_below op1 b2;have F2_:=F1_.sub (w':=w2) (y:=⟨r.id,r.plan,r.state,r.tasks.set u ⟨r.tasks[u].state,r.tasks[u].need,r.tasks[u].try_,0⟩⟩) (Chg.of_below _ b2) ⟨F1,[b],rfl,bP,op2,Hb h2⟩ rfl;have aR:=b2.size;clear h1 op1 F1_ hC1' b2;have jM:=F2_.blk;have hbl2:=(h2.block (by rw [Bh];omega)).2;have g6:w2.cell? ⟨gr,o+k * 8+6,Ab⟩=Ac (J U r.state):=F2_.cells 6 _ rfl;have g7:w2.cell? ⟨gr,o+k * 8+7,Ab⟩=Ac (Aa (Ac ⟨b,o2,Ab⟩) r.tasks.length c2):=F2_.cells 7 _ rfl;have gf:=F2_.free;obtain ⟨_,_,hA,_,d0,d1,d2,d3⟩:=h2.rd.tsk vC;simp only [Option.some.injEq,Addr.mk.injEq,and_true] at hA;obtain ⟨rfl,rfl⟩:=hA;rw [List.getElem_set_self] at d0 d1 d2 d3;by_cases q:r.tasks[u].try_<r.plan.most
 ·have H:=Br (show Dp r u=⟨r.id,r.plan,r.state,r.tasks.set u ⟨2,r.tasks[u].need,r.tasks[u].try_,0⟩⟩ by unfold Dp;rw [if_pos (by rw [dE.out];exact q),Ln hu]);have h3:=h2.taskSt' hu 2;have eA:=Chg.setCell w2 b (o2+u * 4) (J U 2);have op3:=Ce.ow_chg op2 eA (fun x hx h=>by rw [Au.1 h] at hx;exact dA hx);have HF:=Br (show Im gr o n c rs k G1 (F1 ++ [b]) G2 (Dp r u) (s1,⟨Ac ⟨b,o2,Ab⟩,r.tasks.length,c2⟩) w (.returned (.tuple #[])) (w2.setCell ⟨b,o2+u * 4,Ab⟩ (J U 2)) from
   ⟨rfl,by rw [H.out];exact F2_.sub (eA.blk Bo) ⟨F1,[b],rfl,bP,op3,Hb h3⟩ rfl,jQ.trans (eA.blk Bo)⟩)
  exact Amo
 ·have H:=Br (show Dp r u=D6 ⟨r.id,r.plan,r.state,r.tasks.set u ⟨5,r.tasks[u].need,r.tasks[u].try_,0⟩⟩ 3 by unfold Dp;rw [if_neg (by rw [dE.out];exact q),Ln hu]);have h3:=h2.taskSt' hu 5;have eA:=Chg.setCell w2 b (o2+u * 4) (J U 5);have op3:=Ce.ow_chg op2 eA (fun x hx h=>by rw [Au.1 h] at hx;exact dA hx);have F3_:=F2_.sub (w':=w2.setCell ⟨b,o2+u * 4,Ab⟩ (J U 5)) (y:=⟨r.id,r.plan,r.state,r.tasks.set u ⟨5,r.tasks[u].need,r.tasks[u].try_,0⟩⟩) (eA.blk Bo) ⟨F1,[b],rfl,bP,op3,Hb h3⟩ rfl;have hC3':=jQ.trans (eA.blk (F:=gr :: (F1 ++ [b])) Bo);have g73:=(eA.cell (p:=⟨gr,o+k * 8+7,Ab⟩) jM (by simpa using rQ)).trans g7;go_upto_region 5 with fail
  generalize w2.setCell ⟨b,o2+u * 4,Ab⟩ (J U 5)=w3 at *
  clear d0 d1 d2 d3 g6 g7 gf hbl2 h2 op2 F2_ eA;have hgr3:=F3_.blk;have hL5:(r.tasks.set u ⟨5,r.tasks[u].need,r.tasks[u].try_,0⟩).length=r.tasks.length:=Bh;have CL:=Br (Qc gr (o+k * 8) b o2 c2 (r.tasks.set u ⟨5,r.tasks[u].need,r.tasks[u].try_,0⟩) u w3 (by rw [hL5];exact g73) hgr3 rQ Bl Bl (by rw [hL5];exact h3) (fun j hj=>by
   rw [List.getElem_set];by_cases e:u=j
   ·simp [e]
   ·rw [if_neg e];constructor
    ·intro h
     have:=Acd (s:=5) (by rw [hL5] at hj;exact hj) h
     omega
    ·intro h;omega))
  rw [hL5] at CL;go_wp2_with fail
  refine CL.out.mono ?_;rintro e w4 ⟨rfl,h4,eQ⟩;have op4:=Ce.ow_chg op3 eQ (fun x hx h=>by rw [Au.1 h] at hx;exact dA hx);have F4_:=F3_.sub (w':=w4) (y:=⟨r.id,r.plan,r.state,(r.tasks.set u ⟨5,r.tasks[u].need,r.tasks[u].try_,0⟩).map Dr⟩) (eQ.blk Bo) ⟨F1,[b],rfl,bP,op4,Hb h4⟩ rfl;have hC4':=hC3'.trans (eQ.blk (F:=gr :: (F1 ++ [b])) Bo);have g6:w4.cell? ⟨gr,o+k * 8+6,Ab⟩=Ac (J U r.state):=F4_.cells 6 _ rfl;have gf:=F4_.free;have hgr4:=F4_.blk;obtain ⟨F5_,dP⟩:=F4_.put (y:=D6 ⟨r.id,r.plan,r.state,r.tasks.set u ⟨5,r.tasks[u].need,r.tasks[u].try_,0⟩⟩ 3) 6 [J U 3] (show 6+1<=8 by omega) (fun i hi=>by simp at hi;subst hi;rfl) (fun i hi ho=>by
   have:i<8:=hi;rcases (show i=0\/i=1\/i=2\/i=3\/i=4\/i=5\/i=7 by simp at ho;omega) with rfl | rfl | rfl | rfl | rfl | rfl | rfl<;>rfl) (fun W h=>h)
  have HF:=Br (show Im gr o n c rs k G1 (F1 ++ [b]) G2 (Dp r u) (s1,⟨Ac ⟨b,o2,Ab⟩,r.tasks.length,c2⟩) w (.returned (.tuple #[])) (w4.setCell ⟨gr,o+k * 8+6,Ab⟩ (J U 3)) from
   ⟨rfl,by rw [H.out];exact F5_,hC4'.trans (dP.blk Bo)⟩)
  clear F5_ dP F4_ eQ h4;exact Amo
theorem Sg:(Am.info? 3).map (fun i=>(i.zero,i.size,i.bytes))=Ac (Ac (J U 0),1,8):=Bm
def Lo (n lo hi:Int):Int:=if n<lo then lo else if n > hi then hi else n
theorem Tx (n lo hi:Int) (w:World) (h:lo<=hi):Calls Am 231 #[J U n,J U lo,J U hi] w fun e w'=>e = .returned (J U (Lo n lo hi))/\w=w':=by
 by_cases h1:n<lo
 ·have H:=Br (show Lo n lo hi=lo from if_pos h1);exact Alf
 ·by_cases h2:n > hi
  ·have H:=Br (show Lo n lo hi=hi by unfold Lo;rw [if_neg h1,if_pos h2]);have h2':hi<n:=h2;exact Alf
  ·have H:=Br (show Lo n lo hi=n by unfold Lo;rw [if_neg h1,if_neg h2]);have h2':¬ hi<n:=h2;exact Alf
def Kf (home:Nat):List Nat:=(List.range 3).map fun i=>(home+(i+1)) % 4
theorem Z9 {home k:Nat} (h:k<3):(Kf home).take (k+1)=(Kf home).take k ++ [(home+(k+1)) % 4]:=All
theorem Ad6 {home d:Nat} : Ey home d=(Kf home).drop (d % 3) ++ (Kf home).take (d % 3):=by
 have h1:(max (d:Int) 0 % 3).toNat=d % 3:=Bl;unfold Ey;rw [h1,Ao];have h2:=Nat.mod_lt d (show 0<3 by decide);generalize d % 3=k at *
 exact All
theorem Ty (home d:Nat) (w:World) (hh:home<4) (hd:d<=1000000000) :
  Calls Am 242 #[J U (home:Int),J U (d:Int)] w fun e w'=>∃ v,e = .returned v/\Ow E0 3 w' w v (Ey home d)/\Below w w w':=by
 obtain ⟨j0,bX,jz0,jz1,jz2⟩:=info_parts Sg;have CB:=Br (fun W=>Tx (home:Int) 0 3 W Bq);have hI:¬ (d:Int)<0:=Bl;have hbr:Lo (home:Int) 0 3=(home:Int):=by unfold Lo;split<;>(try split)<;>omega
 rw [hbr] at CB;have q0:Below w w (w.alloc (.cells #[] 3)):=Bu;go_enter func242,ntmps242;go_wp2_with (go_at_call 231;refine (CB.out _).mono ?_;rintro e w1 ⟨rfl,rfl⟩)
 have o0:=Ow.empty E0 3 w rfl;go_loopw [5,6] (fun v j wr=>∃ k:Nat,k<=3/\j = J U ((k:Int)+1)/\Hid (Ow E0 3 wr w v ((Kf home).take k))/\Below w w wr) (fun _ j _=>4 - (intOf j).toNat);case atStart=>exact ⟨0,Ag _,rfl,o0,q0⟩
 case round =>
  clear o0 q0;obtain ⟨k,hk,rfl,hO,hb⟩:=hrel;by_cases aA:k<3
  ·have aB:(k:Int)+1<4:=Bl;have S:=Br (Z9 (home:=home) aA);have wA:U.wrap ((home:Int)+((k:Int)+1))=(home:Int)+((k:Int)+1):=Aq _ Bl;have rA:((home:Int)+((k:Int)+1)).tmod 4=(((home+(k+1)) % 4:Nat):Int):=Ala
   have wB:U.wrap (((home+(k+1)) % 4:Nat):Int)=(((home+(k+1)) % 4:Nat):Int):=Aq _ Bl;have Hl:=Br (show ((Kf home).take k).length<=3000000 by rw [Az];omega);generalize (home+(k+1)) % 4=x at *
   have ha:Hid (∀ w:World,Below w w (w.alloc (.cells #[J U (x:Int)] 3))):=fun w=>Bu;have dC:=hO.out;have cZ:=hb.size;go_wp2_with (at_builtin;refine Ci _ E0 Bq rfl (.tmp 17) (.tmp 22) rfl underlying26 bX jz0 jz1 jz2 rfl (base:=w) (l:=(Kf home).take k) rfl (dC.below (ha.out wr)) rfl (Rd.one E0 _ _ x rfl rfl 1 (Bt _) (Nat.lt_succ_self _)) Hl.out Bo Bq (by simp;omega) ?_;intro v5 w5 o5 g5 _)
   have eZ:Below w w w5:=(Bv hb (ha.out wr)).grown g5 (Bv hb (ha.out wr)).size (fun g hg=>by have:=dC.within _ hg;omega);exact ⟨⟨k+1,Bl,by go_num,by rw [S.out];exact o5,eZ⟩,clM⟩
  ·have aB:¬ (k:Int)+1<4:=Bl;have hk3:k=3:=Bl;subst hk3;have dC:=hO.out;rw [show (Kf home).take 3=Kf home from rfl] at dC;clear hO;have HV:=Br (Ad6 (home:=home) (d:=d));obtain ⟨-,h2⟩ | ⟨g,cap,rfl,h1,h2,h3,h4,h5,h6⟩:=dC.form
   ·cases h2
   have qN:=Rd.of_own dC;replace h3:=qN.cap;have h3':3<=cap:=h3;have hm3:=Nat.mod_lt d (show 0<3 by decide);have rA:(d:Int).tmod 3=((d % 3:Nat):Int):=Ala
   have wB:U.wrap ((d % 3:Nat):Int)=((d % 3:Nat):Int):=Aq _ Bl;have qR:(Kf home).length=3:=rfl;generalize d % 3=m at *
   generalize Kf home=L at *
   rw [qR] at qN;have a0:=Br (show ∀ W,Below wr wr W->Rd E0 W wr (Aa (Ac ⟨g,m,Ab⟩) (3 - m) (cap - m)) (L.drop m) from fun W hW=>by have:=(qN.fromL m Bl).below hW;rw [qR,show 0+m * E0.sz=m from by show 0+m * 1=m;omega] at this;exact this);have a1:=Br (show ∀ W,Below wr wr W->Rd E0 W wr (Aa (Ac ⟨g,0,Ab⟩) m cap) (L.take m) from fun W hW=>(qN.take Bl cap Bl).below hW);have qP:(m:Int)<=3:=Bl;have cL:(0:Int)<=(m:Int):=Bl;have hmc:m<cap:=Bl;have hmc2:¬ cap=m:=Bl;have hmc3:m<=cap:=Bl;have hmcI:(m:Int)<=(cap:Int):=Bl;have cD:=Br (show (L.drop m).length<=3000000 by simp;omega);have aW:=Br (show (L.take m).length<=3000000 by simp;omega);rw [qR];have cZ:=hb.size;go_wp2;refine Go.wp_region_noPanic ?_;refine wp_region_held_drew (S:=fun _=>True) Bm trivial (fun hHeld=>?_);have B1:Below wr wr wr.drew:=(Bs _ _).drew;generalize wr.drew=w1 at *
   refine tY 1 ?_
   (try simp only [pS])
   refine tY 2 ?_
   (try simp only [pS])
   refine tY 3 ?_
   (try simp only [pS])
   refine tY 5 ?_
   (try simp only [pS])
   refine tY 6 ?_
   (try simp only [pS])
   refine tY 7 ?_
   (try simp only [pS])
   refine rC 0 (fun K_ hK=>?_);go_simp;have bb:Below w1 w1 (w1.alloc (.cells #[] 3)):=Bu;have o9:Ow E0 3 (w1.alloc (.cells #[] 3)) w (Aa (Ac ⟨w1,0,Ab⟩) 0 0) []:=(Ow.empty E0 3 w1 rfl).more (by have:=B1.size;omega);have Ba:=Bv B1 bb;have y9:=B1.size;generalize w1.heap.size=g9 at *
   generalize w1.alloc (.cells #[] 3)=w1a at *
   refine hK.out _ _ trivial (fun hHeld=>?_);clear hK K_
   (try simp only [pS])
   refine rC 4 (fun K_ hK=>?_);refine Dz _ E0 Bq (.tmp 28) (.tmp 31) 26 rfl w.heap.size 3 _ _ _ underlying26 bX jz0 jz1 jz2 rfl _ [] rfl o9 _ _ _ _ (L.drop m) rfl (a0.out _ Ba) Bo cD.out Bq (by have:=Ba.size;omega) ?_;intro v13 w1b o13 gg e13;rw [List.nil_append] at o13;have Bb:Below wr wr w1b:=Ba.grown gg Ba.size (fun g hg=>by have:=Option.some.inj (show Ac g9=Ac g from hg);omega);clear gg;refine hK.out _ _ trivial (fun hHeld=>?_);clear hK K_
   (try simp only [pS])
   refine rC 8 (fun K_ hK=>?_);refine Dz _ E0 Bq (.tmp 32) (.tmp 35) 26 rfl w.heap.size 3 _ _ _ underlying26 bX jz0 jz1 jz2 rfl _ (L.drop m) rfl o13 _ _ _ _ (L.take m) rfl (a1.out _ Bb) cD.out aW.out Bq (by have:=Bb.size;omega) ?_;intro v14 w1c o14 gg e14;have Bc:Below w w w1c:=(Bv hb Bb).grown gg (Bv hb Bb).size (fun g hg=>(o13.within g hg).1);clear gg;refine hK.out _ _ trivial (fun hHeld=>?_);clear hK K_
   (try simp only [pS])
   refine rC 9 (fun K_ hK=>?_);go_simp;refine hK.out _ _ trivial (fun hHeld=>?_);clear hK K_
   (try simp only [pS])
   refine Al Bm ?_ _;refine NoPanic.normal ?_;go_wp2;go_ret;exact ⟨_,rfl,by rw [HV.out];exact o14,Bc⟩
theorem Ym {l:List Task} {s:Int} : Dx l s=0 ↔ ∀ x∈l,x.state≠s:=by
 unfold Dx;rw [List.length_eq_zero_iff,List.filter_eq_nil_iff];constructor
 ·intro h x hx;simpa using h x hx
 ·intro h x hx;simpa using h x hx
theorem Ahm (s:Int) (hs:s≠2) (L:List Nat):∀ (l:List Task),(∀ x∈l,x.state≠s) -> ∀ x∈L.foldl (fun l b=>Hy l b Du) l,x.state≠s:=by
 induction L with
 | nil=>intro l h;exact h
 | cons b L ih =>
  intro l h;rw [List.foldl_cons];refine ih _ (fun x hx=>?_);unfold Hy at hx;rcases List.mem_or_eq_of_mem_set hx with h2 | h2
  ·exact h x h2
  ·subst h2;by_cases hb:b<l.length
   ·rw [List.getD_eq_getElem?_getD,List.getElem?_eq_getElem hb]
    have:=h _ (Aw hb)
    simp only [Option.getD_some,Du];split
    ·exact fun e=>hs e.symm
    ·exact this
   ·rw [List.set_eq_of_length_le Bl] at hx;exact h _ hx
theorem Acl {r:Run} {u:Nat} (h:I4 r u):stL (Jc r u)=if Dx (Jc r u) 4=r.tasks.length then 2 else r.state:=by
 obtain ⟨l5,l6,l4,ls⟩:=Qp h;have aE:(Jc r u).length=r.tasks.length:=by
  unfold Jc;rw [Lr r u,Ot]
 have hu:u<r.tasks.length:=by have:=h.2.1.2;omega
 have h0:∀ s:Int,s≠4->s≠2->Dx r.tasks s=0->Dx (Jc r u) s=0:=fun s h4 h2 hc=>by
  rw [Ym] at hc ⊢;refine Ahm s h2 _ _ (fun x hx=>?_);rw [Ln hu] at hx;rcases List.mem_or_eq_of_mem_set hx with h | h
  ·exact hc x h
  ·subst h;exact fun e=>h4 e.symm
 have z5:=h0 5 Bq Bq l5;have z6:=h0 6 Bq Bq l6;unfold stL;rw [aE,ls];split
 ·rfl
 ·rw [if_neg Bl,if_neg Bl,if_pos ⟨z5,z6⟩]
theorem Xk (f:Task->Task) (l:List Task) (L:List Nat) (k:Nat) (h:k<L.length):(L.take (k+1)).foldl (fun l b=>Hy l b f) l=Hy ((L.take k).foldl (fun l b=>Hy l b f) l) L[k] f:=Als
theorem Aaa (gr o n c:Nat) (rs:List (Run×Cf.S)) (k:Nat) (G1 Fx G2:List Nat) (r:Run) (s:Sl×Sl) (u:Nat) (w:World) (hR:I4 r u) (hF:Foc Cf w gr o n c rs k G1 Fx G2 r s) :
  Calls Am 212 #[.pointer (Ac ⟨gr,o+k * 8,Ab⟩),J U u] w (Im gr o n c rs k G1 Fx G2 (Jq r u) s w):=by
 have hu:u<r.tasks.length:=by have:=hR.2.1.2;omega
 have fR:=Eb hR.1;have HST:=Br (Acl hR);have hpf:=hR.1.2.1;obtain ⟨F1,b,o2,c2,rfl,bP,eB,op,oh,rQ,dA⟩:=hF.atRun Bl;obtain ⟨s1,s2⟩:=s;obtain rfl:s2=_:=eB;have qG:=hF.blk;have mX:=(oh.block Bl).2.1;have qE:=(oh.block Bl).2.2;have g7:w.cell? ⟨gr,o+k * 8+7,Ab⟩=Ac (Aa (Ac ⟨b,o2,Ab⟩) r.tasks.length c2):=hF.cells 7 _ rfl;obtain ⟨_,_,hA,_,d0,d1,d2,d3⟩:=oh.rd.tsk hu;simp only [Option.some.injEq,Addr.mk.injEq,and_true] at hA;obtain ⟨rfl,rfl⟩:=hA;have kF:(u:Int)<(r.tasks.length:Int):=Bl;have gW:(0:Int)<=(u:Int):=Bl;have h1:=oh.taskState hu 4;have h2:=h1.taskUntil (j:=u) (by rw [Bh];exact hu) 0;simp only [List.getElem_set_self,List.set_set] at h2;have eF:Chg [b] w ((w.setCell ⟨b,o2+u * 4,Ab⟩ (J U 4)).setCell ⟨b,o2+u * 4+3,Ab⟩ (J U 0)):=(Chg.setCell w b _ _).trans (Chg.setCell _ b _ _);have op1:=Ce.ow_chg op eF (fun x hx h=>by rw [Au.1 h] at hx;exact dA hx);have F1_:=hF.sub (w':=(w.setCell ⟨b,o2+u * 4,Ab⟩ (J U 4)).setCell ⟨b,o2+u * 4+3,Ab⟩ (J U 0)) (y:=⟨r.id,r.plan,r.state,r.tasks.set u ⟨4,r.tasks[u].need,r.tasks[u].try_,0⟩⟩) (eF.blk Bo) ⟨F1,[b],rfl,bP,op1,Hb h2⟩ rfl;have hC1':Chg (gr :: (F1 ++ [b])) w ((w.setCell ⟨b,o2+u * 4,Ab⟩ (J U 4)).setCell ⟨b,o2+u * 4+3,Ab⟩ (J U 0)):=eF.blk Bo;have hM0:=Br (show Hy r.tasks u (fun x=>⟨4,x.need,x.try_,0⟩)=r.tasks.set u ⟨4,r.tasks[u].need,r.tasks[u].try_,0⟩ from Ln hu _);go_enter func212,ntmps212;go_upto_region 2 with fail
 generalize (w.setCell ⟨b,o2+u * 4,Ab⟩ (J U 4)).setCell ⟨b,o2+u * 4+3,Ab⟩ (J U 0)=w1 at *
 have dQ:∀ x∈r.tasks,0<=x.need/\x.need<=1000/\1<=x.state/\x.state<=6:=by
  intro x hx;obtain ⟨j,hj,rfl⟩:=List.getElem_of_mem hx;have h1:=hR.1.2.2.2.1 j hj;unfold Hx Oo at h1;rw [Cu hj] at h1;have h2:=Pc r (Eg (Ea r.plan) r.plan.tasks.toNat j);have h3:=I9 (Ea r.plan) r.plan.tasks.toNat j;have h5:=hR.1.2.2.1;have h6:I1 r j<=12:=by unfold I1;omega
  omega
 have hbnd:Hid (∀ x∈r.tasks.set u ⟨4,r.tasks[u].need,r.tasks[u].try_,0⟩,-0<=x.need/\x.need<=1000/\1<=x.state/\x.state<=6):=by
  intro x hx;rcases List.mem_or_eq_of_mem_set hx with h | h
  ·have:=dQ x h;omega
  ·subst h
   have:=dQ _ (Aw hu)
   refine ⟨?_,?_,?_,?_⟩<;>dsimp only<;>omega
 have qY:r.plan.tasks.toNat=r.tasks.length:=by have:=hR.1.2.2.1;omega
 have CB:=Br (U9 r.plan (Aa s1.a s1.n s1.c) u w1 hpf (I2 (Ce.ow_rd op1)));rw [qY] at CB;have hBL:=Br (V7 (Ea r.plan) r.tasks.length u);have gL:=Br (Mo (Ea r.plan) r.tasks.length u);have hDT:=Br (show Jc r u=(Gj (Ea r.plan) r.tasks.length u).foldl (fun l b=>Hy l b Du) (r.tasks.set u ⟨4,r.tasks[u].need,r.tasks[u].try_,0⟩) by unfold Jc;rw [qY,hM0.out]);generalize tT:r.tasks.set u ⟨4,r.tasks[u].need,r.tasks[u].try_,0⟩=L0 at *
 have pN:=Br (show L0.length=r.tasks.length by rw [<-tT,Bh]);generalize Gj (Ea r.plan) r.tasks.length u=BL at *
 clear tT dQ hM0 d0 d1 d2 d3 g7 qE hF op oh h1 eF qY hpf;obtain ⟨p0,p1,p2,p3,p4,p5,p6,p7⟩:=F1_.run;have pF:=F1_.blk;go_wp2_with fail
 refine CB.out.mono ?_;rintro e w2 ⟨v,rfl,o5,b2⟩;obtain ⟨Av,cv,rfl,-⟩:=_root_.id (Rd.of_own o5);have F2_:=F1_.sub (w':=w2) (y:=⟨r.id,r.plan,r.state,L0⟩) (Chg.of_below _ b2) ⟨F1,[b],rfl,bP,Ce.ow_below op1 b2,Hb (h2.below b2)⟩ rfl;have h3:=h2.below b2;have op2:=Ce.ow_below op1 b2;have jQ:=hC1'.trans (Chg.of_below (gr :: (F1 ++ [b])) b2);have rT:=o5.within;have hbl1:=(h2.block (by have:=pN.out;omega)).2.1;have hr5:=Br (show ∀ W,Chg [b] w2 W->Rd E0 W W (Aa Av BL.length cv) BL from fun W hW=>Rd.of_own (o5.grown hW.toGrown (.inr (fun e=>by have:=(rT _ e).1;omega))));clear p0 p1 p2 p3 p4 p5 p6 p7 F1_ h2 op1 hC1' CB o5 rT pF;have jM:=F2_.blk;have p7:w2.cell? ⟨gr,o+k * 8+7,Ab⟩=Ac (Aa (Ac ⟨b,o2,Ab⟩) r.tasks.length c2):=F2_.cells 7 _ rfl;have aR:=b2.size;go_wp2;go_loopw [5,28] (fun x i wr=>∃ j:Nat,j<=BL.length/\i = J U j/\Hid (Hw Ge wr [b] (Aa (Ac ⟨b,o2,Ab⟩) r.tasks.length c2) ((BL.take j).foldl (fun l b=>Hy l b Du) L0))/\Chg [b] w2 wr) (fun _ i _=>BL.length - (intOf i).toNat);case atStart=>exact ⟨0,Ag _,rfl,h3,Chg.refl _ _⟩
 case round =>
  obtain ⟨j,hj,rfl,hO,hC⟩:=hrel;have hlenj:((BL.take j).foldl (fun l b=>Hy l b Du) L0).length=r.tasks.length:=by rw [Lr r u,pN.out]
  have g7:wr.cell? ⟨gr,o+k * 8+7,Ab⟩=Ac (Aa (Ac ⟨b,o2,Ab⟩) r.tasks.length c2):=(hC.cell (p:=⟨gr,o+k * 8+7,Ab⟩) jM (by simpa using rQ)).trans p7;have gD:gr<wr:=Nat.lt_of_lt_of_le jM hC.size;by_cases aA:j<BL.length
  ·have aB:(j:Int)<(BL.length:Int):=Bl;have hB12:BL.length<=12:=by have:=gL.out;omega
   have hj12:(j:Int)<12:=Bl;obtain ⟨b9,o9,rfl,hb9,e0⟩:=(hr5.out wr hC).nat aA;have dG:BL[j]<r.tasks.length:=hBL.out _ (Aw aA);have rH:=Sc (BL.take j) L0 0 hbnd.out (Int.le_refl 0);have hstp:=Br (Xk Du L0 BL j aA);generalize BL[j]=x at *
   generalize (BL.take j).foldl (fun l b=>Hy l b Du) L0=M at *
   have uX:x<M.length:=Bl;have hnd1:=rH _ (Aw uX);have hjb:(BL.take j).length<=12:=by have:=gL.out;rw [Az];omega
   have hstp2:=Br (hstp.out.trans (Ln uX Du));obtain ⟨_,_,hA,aJ,d0,d1,d2,d3⟩:=hO.out.rd.tsk uX;simp only [Option.some.injEq,Addr.mk.injEq,and_true] at hA;obtain ⟨rfl,rfl⟩:=hA;have jV:=(hO.out.block Bl).2.2;have hxI:(x:Int)<(r.tasks.length:Int):=Bl;have sZ:(0:Int)<=(x:Int):=Bl;have wr1:U.wrap (M[x].need - 1)=M[x].need - 1:=Aq _ Bl;have h4:=hO.out.part uX ⟨M[x].state,M[x].need - 1,M[x].try_,M[x].until_⟩ 1 [J U (M[x].need - 1)] (show 1+1<=4 by omega) (fun i hi=>by simp at hi;subst hi;rfl) (fun i hi ho=>by
    have:i<4:=hi;rcases (show i=0\/i=2\/i=3 by simp at ho;omega) with rfl | rfl | rfl<;>rfl)
   have h4:Hw Ge (wr.setCell ⟨b,o2+x * 4+1,Ab⟩ (J U (M[x].need - 1))) [b] (Aa (Ac ⟨b,o2,Ab⟩) r.tasks.length c2) (M.set x ⟨M[x].state,M[x].need - 1,M[x].try_,M[x].until_⟩):=h4;have eQ:=hC.trans (Chg.setCell wr b (o2+x * 4+1) (J U (M[x].need - 1)));clear rH hstp hnd1;by_cases q:M[x].need - 1=0
   ·have hN:=Br (show Du M[x]=⟨2,M[x].need - 1,M[x].try_,M[x].until_⟩ by unfold Du;rw [if_pos q]);have h5:=h4.taskState (j:=x) (by rw [Bh];exact uX) 2;simp only [List.getElem_set_self,List.set_set] at h5;have dP:=eQ.trans (Chg.setCell _ b (o2+x * 4) (J U 2));have HN:=Br (show Hw Ge ((wr.setCell ⟨b,o2+x * 4+1,Ab⟩ (J U (M[x].need - 1))).setCell ⟨b,o2+x * 4,Ab⟩ (J U 2)) [b] (Aa (Ac ⟨b,o2,Ab⟩) r.tasks.length c2) ((BL.take (j+1)).foldl (fun l b=>Hy l b Du) L0) by rw [hstp2.out,hN.out];exact h5);rw [q] at HN dP;clear h4 h5 hO;go_wp2;exact ⟨⟨j+1,Bl,by go_num,HN,dP⟩,clM⟩
   ·have hN:=Br (show Du M[x]=⟨M[x].state,M[x].need - 1,M[x].try_,M[x].until_⟩ by unfold Du;rw [if_neg q]);have qb:(M[x].need - 1 == 0)=false:=beq_eq_false_iff_ne.2 q;have HN:=Br (show Hw Ge (wr.setCell ⟨b,o2+x * 4+1,Ab⟩ (J U (M[x].need - 1))) [b] (Aa (Ac ⟨b,o2,Ab⟩) r.tasks.length c2) ((BL.take (j+1)).foldl (fun l b=>Hy l b Du) L0) by rw [hstp2.out,hN.out];exact h4);clear h4 hO q;go_wp2;exact ⟨⟨j+1,Bl,by go_num,HN,eQ⟩,clM⟩
  ·have aB:¬ (j:Int)<(BL.length:Int):=Bl;have dC:=hO.out;rw [Bg Bl,<-hDT.out] at dC hlenj;have opr:=Ce.ow_chg op2 hC (fun x hx h=>by rw [Au.1 h] at hx;exact dA hx);have F3_:=F2_.sub (w':=wr) (y:=⟨r.id,r.plan,r.state,Jc r u⟩) (hC.blk Bo) ⟨F1,[b],rfl,bP,opr,Hb dC⟩ rfl;have eA:=jQ.trans (hC.blk (F:=gr :: (F1 ++ [b])) Bo);clear hO hC hr5;go_upto_region 10 with fail
   have HS:=Br (show ∀ W,Below wr wr W->(fun w'=>w'.cell? ⟨gr,o+k * 8,Ab⟩=Ac (J U r.id)/\w'.cell? ⟨gr,o+k * 8+1,Ab⟩=Ac (J U r.plan.prio)/\w'.cell? ⟨gr,o+k * 8+2,Ab⟩=Ac (J U r.plan.most)/\w'.cell? ⟨gr,o+k * 8+3,Ab⟩=Ac (J U r.plan.wait)/\w'.cell? ⟨gr,o+k * 8+4,Ab⟩=Ac (J U r.plan.tasks)/\w'.cell? ⟨gr,o+k * 8+5,Ab⟩=Ac (Aa s1.a s1.n s1.c)/\w'.cell? ⟨gr,o+k * 8+6,Ab⟩=Ac (J U r.state)/\w'.cell? ⟨gr,o+k * 8+7,Ab⟩=Ac (Aa (Ac ⟨b,o2,Ab⟩) r.tasks.length c2)) W from fun W hW=>by
    have cP:Foc Cf W gr o n c rs k G1 (F1 ++ [b]) G2 ⟨r.id,r.plan,r.state,Jc r u⟩ (s1,⟨Ac ⟨b,o2,Ab⟩,r.tasks.length,c2⟩):=F3_.sub (Chg.of_below _ hW) (Cf.ow_below F3_.here hW) rfl;exact cP.run)
   have eQ:=eA.trans (Chg.of_below (gr :: (F1 ++ [b])) ((Bs _ _).drew));have F4_:Foc Cf wr.drew gr o n c rs k G1 (F1 ++ [b]) G2 ⟨r.id,r.plan,r.state,Jc r u⟩ (s1,⟨Ac ⟨b,o2,Ab⟩,r.tasks.length,c2⟩):=F3_.sub (Chg.of_below _ (Bs _ _).drew) (Cf.ow_below F3_.here (Bs _ _).drew) rfl;refine Go.wp_region_noPanic ?_;refine wp_region_held_drew (S:=(fun w'=>w'.cell? ⟨gr,o+k * 8,Ab⟩=Ac (J U r.id)/\w'.cell? ⟨gr,o+k * 8+1,Ab⟩=Ac (J U r.plan.prio)/\w'.cell? ⟨gr,o+k * 8+2,Ab⟩=Ac (J U r.plan.most)/\w'.cell? ⟨gr,o+k * 8+3,Ab⟩=Ac (J U r.plan.wait)/\w'.cell? ⟨gr,o+k * 8+4,Ab⟩=Ac (J U r.plan.tasks)/\w'.cell? ⟨gr,o+k * 8+5,Ab⟩=Ac (Aa s1.a s1.n s1.c)/\w'.cell? ⟨gr,o+k * 8+6,Ab⟩=Ac (J U r.state)/\w'.cell? ⟨gr,o+k * 8+7,Ab⟩=Ac (Aa (Ac ⟨b,o2,Ab⟩) r.tasks.length c2))) Bm (HS.out _ (Bs _ _).drew) (fun hHeld=>?_);clear F3_ eA HS;generalize wr.drew=w5 at *
   refine tY 0 ?_
   (try simp only [pS])
   refine tY 1 ?_
   (try simp only [pS])
   refine tV 2 ?_
   (try simp only [pS])
   refine tY 5 ?_
   (try simp only [pS])
   refine tY 6 ?_
   (try simp only [pS])
   refine tY 7 ?_
   (try simp only [pS])
   refine tV 8 ?_
   (try simp only [pS])
   refine tY 9 ?_
   (try simp only [pS])
   have CT:=Br (Ip ⟨r.id,r.plan,r.state,Jc r u⟩ (s1,⟨Ac ⟨b,o2,Ab⟩,r.tasks.length,c2⟩) 4 w5 (by show (Jc r u).length<=_;omega) (Cf.ow_rd F4_.here));refine rC 3 (fun K_ hK=>?_);go_simp;refine CT.out.mono ?_;rintro e w6 ⟨v6,rfl,o6,b6⟩;obtain ⟨A6,c6,rfl,-⟩:=_root_.id (Rd.of_own o6);rw [Sv];have tQ:=eQ.trans (Chg.of_below (gr :: (F1 ++ [b])) b6);have F6_:Foc Cf w6 gr o n c rs k G1 (F1 ++ [b]) G2 ⟨r.id,r.plan,r.state,Jc r u⟩ (s1,⟨Ac ⟨b,o2,Ab⟩,r.tasks.length,c2⟩):=F4_.sub (Chg.of_below _ b6) (Cf.ow_below F4_.here b6) rfl;refine hK.out _ _ F6_.run (fun hHeld=>?_);clear hK K_ eQ F4_ CT o6 b6
   (try simp only [pS])
   refine rC 4 (fun K_ hK=>?_);go_simp;refine hK.out _ _ hHeld (fun hHeld=>?_);clear hK K_
   (try simp only [pS])
   refine rC 10 (fun K_ hK=>?_);go_simp;refine hK.out _ _ hHeld (fun hHeld=>?_);clear hK K_
   (try simp only [pS])
   refine Al Bm ?_ _;refine NoPanic.normal ?_;clear hHeld;by_cases hq:Dx (Jc r u) 4=r.tasks.length
   ·have hqI:((Dx (Jc r u) 4:Int) == (r.tasks.length:Int))=true:=by simp [hq]
    have H:=Br (show Jq r u=⟨r.id,r.plan,2,Jc r u⟩ by unfold Jq;rw [HST.out,if_pos hq]);have g6:w6.cell? ⟨gr,o+k * 8+6,Ab⟩=Ac (J U r.state):=F6_.cells 6 _ rfl;have gf:=F6_.free;have hgr6:=F6_.blk;obtain ⟨F7_,gP⟩:=F6_.put (y:=⟨r.id,r.plan,2,Jc r u⟩) 6 [J U 2] (show 6+1<=8 by omega) (fun i hi=>by simp at hi;subst hi;rfl) (fun i hi ho=>by
     have:i<8:=hi;rcases (show i=0\/i=1\/i=2\/i=3\/i=4\/i=5\/i=7 by simp at ho;omega) with rfl | rfl | rfl | rfl | rfl | rfl | rfl<;>rfl) (fun W h=>h)
    have HF:=Br (show Im gr o n c rs k G1 (F1 ++ [b]) G2 (Jq r u) (s1,⟨Ac ⟨b,o2,Ab⟩,r.tasks.length,c2⟩) w (.returned (.tuple #[])) (w6.setCell ⟨gr,o+k * 8+6,Ab⟩ (J U 2)) from
     ⟨rfl,by rw [H.out];exact F7_,tQ.trans (gP.blk Bo)⟩)
    clear F7_ gP F6_ hq;exact Amp
   ·have hqI:((Dx (Jc r u) 4:Int) == (r.tasks.length:Int))=false:=beq_eq_false_iff_ne.2 Bl;have H:=Br (show Jq r u=⟨r.id,r.plan,r.state,Jc r u⟩ by unfold Jq;rw [HST.out,if_neg hq]);have HF:=Br (show Im gr o n c rs k G1 (F1 ++ [b]) G2 (Jq r u) (s1,⟨Ac ⟨b,o2,Ab⟩,r.tasks.length,c2⟩) w (.returned (.tuple #[])) w6 from ⟨rfl,by rw [H.out];exact F6_,tQ⟩);clear F6_ hq;exact Amp
theorem N4 (r:Run) (t:Nat) (now:Int):(Eo r t now).tasks.length=r.tasks.length:=by
 simp [Eo,Ot]
theorem Ad7 (r:Run) (t:Nat) (now:Int) (h:t<r.tasks.length):((Eo r t now).tasks[t]'(by rw [N4];exact h)).try_=r.tasks[t].try_+1:=by
 unfold Eo;simp only [Ln h,List.getElem_set_self]
def Rk (o:Yard×Reply) (w:World) (e:Ending) (w':World):Prop :=
 ∃ (s:Sl×Sl) (F:List Nat),e = .returned (.tuple #[Ds o.1 s,I0 o.2 ()])/\Bw.ow w' F o.1 s/\(∀ b∈F,w<=b)/\Below w w w'
theorem Rl {b c:Nat} {w:World} {u0 u1 u2 u3 v0 v1 v2 v3:Value} (X:DBox b [u0,u1,u2,u3] w) (Y:DBox c [v0,v1,v2,v3] w) {x0 x1 x2 x3 x4 x5:Value} {rest:List Value} :
  (results Tryz.f165 (x0 :: x1 :: x2 :: x3 :: x4 :: x5 :: .pointer (Ac ⟨b,0,Ab⟩) :: .pointer (Ac ⟨c,0,Ab⟩) :: rest).toArray).run Am w = .ok (.tuple #[.agg #[u0,u1,u2,u3],.agg #[v0,v1,v2,v3]]) w:=by
 have c0:=X.cell 0 _ rfl;have c1:=X.cell 1 _ rfl;have c2:=X.cell 2 _ rfl;have c3:=X.cell 3 _ rfl;have d0:=Y.cell 0 _ rfl;have d1:=Y.cell 1 _ rfl;have d2:=Y.cell 2 _ rfl;have d3:=Y.cell 3 _ rfl;simp [results,results165,go_sem,c0,c1,c2,c3,d0,d1,d2,d3]
theorem Chg.cells4 (w:World) (b i j k l:Nat) (u0 u1 u2 u3:Value):Chg [b] w ((((w.setCell ⟨b,i,Ab⟩ u0).setCell ⟨b,j,Ab⟩ u1).setCell ⟨b,k,Ab⟩ u2).setCell ⟨b,l,Ab⟩ u3) :=
 (((Chg.setCell w b i u0).trans (Chg.setCell _ b j u1)).trans (Chg.setCell _ b k u2)).trans (Chg.setCell _ b l u3)
theorem OwL.block_mem {α:Type} {d:Dt α} {w:World} {F:List Nat} {b o n c:Nat} {l:List α} (h:OwL d w F (Aa (Ac ⟨b,o,Ab⟩) n c) l) (hp:0<l.length):b∈F:=by
 obtain ⟨_,_,_,_,_,hb,_⟩:=h.elem hp;exact hb
abbrev Ht (y:Yard) (s:Sl×Sl):List Value:=[.int .i64 y.now,.int .i64 y.seq,.slice s.1.a s.1.n s.1.c,.slice s.2.a s.2.n s.2.c]
theorem Aab (y:Yard) (s:Sl×Sl) (worker:Int) (d:Nat) (w:World) (hl:Ca y<=2000000) (hd:d<=1000000000) (h:Bw.rd w w y s) :
  Calls Am 165 #[Ds y s,J U worker,J U (d:Int)] w (Rk (Jd y worker d) w):=by
 have HR:=Br (show ∀ W,Below w w W->Bw.rd W W y s from fun W hW=>Bw.rd_more (Bw.rd_below h hW) hW.size);obtain ⟨⟨A1,n1,c1⟩,⟨A2,n2,c2⟩⟩:=s;have CC:=Br (fun W hW=>E1 y (⟨A1,n1,c1⟩,⟨A2,n2,c2⟩) W hl (HR.out W hW));have CY:=Br (fun W hW=>Gl y (⟨A1,n1,c1⟩,⟨A2,n2,c2⟩) W hl (HR.out W hW));clear h;obtain ⟨W,aH,X,RES,RP,B0⟩:=bx3 w 31 [J U y.now,J U y.seq,Aa A1 n1 c1,Aa A2 n2 c2] 31 [J U 0,J U 0,Aa Ab 0 0,Aa Ab 0 0] 84 [J U 0,J U 0,J U 0,J U 0];go_enter func165,ntmps165;go_wp2_with fail
 rw [<-aH.out];clear aH;have hPl:w.heap.size+1+1<W.heap.size:=RP.lt;refine (CY.out _ B0).mono ?_;rintro e1 w1 ⟨rfl,b1⟩;replace X:=X.below b1;replace RES:=RES.below b1;replace RP:=RP.below b1;have X_:=X.g4;obtain ⟨RES_0,RES_1,RES_2,RES_3,RES_l⟩:=RES.g4;obtain ⟨RP_0,RP_1,RP_2,RP_3,RP_l⟩:=RP.g4;have aG:=Bv B0 b1;have hBs:=B0.size;have mU:=b1.size;clear B0 b1 CY;by_cases p0:Dk y;case neg =>
  have H:=Br (show Jd y worker d=(y,⟨8,0,0,0⟩) from if_pos p0);rw [Cg p0];clear p0;clear RES_0 RES_1 RES_2 RES_3 RES_l;clear RP_0 RP_1 RP_2 RP_3 RP_l;go_wp2_with fail
  refine (CC.out _ aG).mono ?_;rintro e1 w2 ⟨⟨⟨B1,m1,e1⟩,⟨B2,m2,e2⟩⟩,F,rfl,oy,nF,b2⟩;replace RES:=RES.below b2;replace RP:=RP.below b2;obtain ⟨RES_0,RES_1,RES_2,RES_3,RES_l⟩:=RES.g4;obtain ⟨RP_0,RP_1,RP_2,RP_3,RP_l⟩:=RP.g4;have rf:=RES.free;have pf:=RP.free;have aK:=Bv aG b2;go_wp2;have en1:w.heap.size+1∉F:=fun hx=>by have:=nF _ hx;omega
  have en2:w.heap.size+1+1∉F:=fun hx=>by have:=nF _ hx;omega
  have aC:w.heap.size+1+1≠w.heap.size+1:=Bl;have RES2:=DBox.row4 RES rfl (J U y.now) (J U y.seq) (Aa B1 m1 e1) (Aa B2 m2 e2);have RP2:=DBox.row4 ((((RP.setOther (a:=⟨w+1,0,Ab⟩) aC (J U y.now)).setOther (a:=⟨w+1,1,Ab⟩) aC (J U y.seq)).setOther (a:=⟨w+1,2,Ab⟩) aC (Aa B1 m1 e1)).setOther (a:=⟨w+1,3,Ab⟩) aC (Aa B2 m2 e2)) rfl (J U 8) (J U 0) (J U 0) (J U 0);have RES3:=(((RES2.setOther (a:=⟨w+1+1,0,Ab⟩) aC.symm (J U 8)).setOther (a:=⟨w+1+1,1,Ab⟩) aC.symm (J U 0)).setOther (a:=⟨w+1+1,2,Ab⟩) aC.symm (J U 0)).setOther (a:=⟨w+1+1,3,Ab⟩) aC.symm (J U 0);refine Aj (Rl RES3 RP2) rfl ⟨(⟨B1,m1,e1⟩,⟨B2,m2,e2⟩),F,by rw [H.out],by rw [H.out];exact (by (repeat (refine Dt.ow_set Bw ?_ (by first | exact en1 | exact en2) _));exact (show Bw.ow _ F y (⟨B1,m1,e1⟩,⟨B2,m2,e2⟩) from oy)),fun x hx=>by have:=nF x hx;omega,?_⟩;repeat (first | (with_reducible exact aK) | refine Ad ?_ Bp _)
 rw [Di p0];cases p1:inB worker 0 99;case false =>
  have H:=Br (show Jd y worker d=(y,⟨5,0,0,0⟩) by unfold Jd;rw [if_neg (fun h=>h p0),if_pos p1]);clear p0;clear RES_0 RES_1 RES_2 RES_3 RES_l;clear RP_0 RP_1 RP_2 RP_3 RP_l;go_wp2_with (go_at_call 90;refine (Cd _ _ _ _).mono ?_;rintro e w9 ⟨rfl,rfl⟩;rw [p1])
  refine (CC.out _ aG).mono ?_;rintro e1 w2 ⟨⟨⟨B1,m1,e1⟩,⟨B2,m2,e2⟩⟩,F,rfl,oy,nF,b2⟩;replace RES:=RES.below b2;replace RP:=RP.below b2;obtain ⟨RES_0,RES_1,RES_2,RES_3,RES_l⟩:=RES.g4;obtain ⟨RP_0,RP_1,RP_2,RP_3,RP_l⟩:=RP.g4;have rf:=RES.free;have pf:=RP.free;have aK:=Bv aG b2;go_wp2;have en1:w.heap.size+1∉F:=fun hx=>by have:=nF _ hx;omega
  have en2:w.heap.size+1+1∉F:=fun hx=>by have:=nF _ hx;omega
  have aC:w.heap.size+1+1≠w.heap.size+1:=Bl;have RES2:=DBox.row4 RES rfl (J U y.now) (J U y.seq) (Aa B1 m1 e1) (Aa B2 m2 e2);have RP2:=DBox.row4 ((((RP.setOther (a:=⟨w+1,0,Ab⟩) aC (J U y.now)).setOther (a:=⟨w+1,1,Ab⟩) aC (J U y.seq)).setOther (a:=⟨w+1,2,Ab⟩) aC (Aa B1 m1 e1)).setOther (a:=⟨w+1,3,Ab⟩) aC (Aa B2 m2 e2)) rfl (J U 5) (J U 0) (J U 0) (J U 0);have RES3:=(((RES2.setOther (a:=⟨w+1+1,0,Ab⟩) aC.symm (J U 5)).setOther (a:=⟨w+1+1,1,Ab⟩) aC.symm (J U 0)).setOther (a:=⟨w+1+1,2,Ab⟩) aC.symm (J U 0)).setOther (a:=⟨w+1+1,3,Ab⟩) aC.symm (J U 0);refine Aj (Rl RES3 RP2) rfl ⟨(⟨B1,m1,e1⟩,⟨B2,m2,e2⟩),F,by rw [H.out],by rw [H.out];exact (by (repeat (refine Dt.ow_set Bw ?_ (by first | exact en1 | exact en2) _));exact (show Bw.ow _ F y (⟨B1,m1,e1⟩,⟨B2,m2,e2⟩) from oy)),fun x hx=>by have:=nF x hx;omega,?_⟩;repeat (first | (with_reducible exact aK) | refine Ad ?_ Bp _)
 have pp:=Ct.1 p1;have HP:=Br p0;obtain ⟨wk,rfl⟩:=Ap pp.1;have hm:((wk:Int).tmod 4)=((wk % 4:Nat):Int):=by rw [Int.tmod_eq_emod_of_nonneg Bl];omega
 have hmw:U.wrap ((wk % 4:Nat):Int)=((wk % 4:Nat):Int):=Aq _ Bl;have qP:(wk:Int) % 4=((wk % 4:Nat):Int):=Bl;have hh:=Nat.mod_lt wk (show 0<4 by decide);have H:=Br (show Jd y wk d=Of (Me y ((wk % 4:Nat):Int) d) (wk % 4) by unfold Jd;rw [if_neg (fun h=>h p0),if_neg (by rw [p1];simp),qP,Ao]);have bH:=Pol.start p0 hh;have h4:=p0.2.2.1;clear p0 pp qP;generalize wk % 4=home at *
 have CS:=Br (fun W hW=>Qd y (⟨A1,n1,c1⟩,⟨A2,n2,c2⟩) home W Bl hl (HR.out W hW));have CV:=Br (fun W=>Ty home d W hh hd);have HG:Hid (Me y (home:Int) d=(Ey home d).foldl (Ez home) (Cb y home)):=by
  show Me y (home:Int) d=_;unfold Me;rw [Ao]
 clear RES_0 RES_1 RES_2 RES_3 RES_l;clear RP_0 RP_1 RP_2 RP_3 RP_l;go_wp2_with (go_at_call 90;refine (Cd _ _ _ _).mono ?_;rintro e w9 ⟨rfl,rfl⟩;rw [p1])
 refine (CS.out _ aG).mono ?_;rintro e1 w2 ⟨s2,F,rfl,oy,nF,b2⟩;clear X_;clear X CC HR CS;replace RES:=RES.below b2;replace RP:=RP.below b2;have aK:=Bv aG b2;have hb2s:=b2.size;clear aG b2 hm hmw;have cS:=Bw.ow_lt oy;have mC:Hid (Cb y home=Cb y home):=rfl;go_upto_region 7 with fail
 have OB:=DBox.new 31 (Ht (Cb y home) s2) w2 (b:=w2) rfl;have b3:Below w2 w2 (w2.alloc (.cells (Ht (Cb y home) s2).toArray 31)):=Bu;replace RES:=RES.below b3;replace RP:=RP.below b3;replace oy:=Bw.ow_below oy b3;have cB:=Bv aK b3;have hb3s:=b3.size;have kL:=OB.lt;have hPl2:w.heap.size+1+1<w2.heap.size:=Bl;generalize w2.alloc (.cells (Ht (Cb y home) s2).toArray 31)=w3 at *
 go_wp2_with fail
 refine (CV.out _).mono ?_;rintro e1 w4 ⟨v,rfl,ov,b4⟩;replace RES:=RES.below b4;replace RP:=RP.below b4;replace OB:=OB.below b4;replace oy:=Bw.ow_below oy b4;have cX:=Bv cB b4;obtain ⟨fW,sH⟩:=Hw.of_ow ov;obtain ⟨A9,c9,rfl,-⟩:=id (Rd.of_own ov);have sN:=S8 home d;have nG:=Br (Qq (home:=(home:Int)) (draw:=d));have pE:=Br (show ∀ v∈Ey home d,v≠home from fun v hv=>by have:=Qr (home:=(home:Int)) (draw:=d) Bl Bl v hv;omega);have cR:w2.heap.size<w3.heap.size:=kL;have aC:∀ x∈El (Aa A9 (Ey home d).length c9) (Ey home d).length,x∉F/\w2<x:=fun x hx=>⟨fun hF=>by have h1:=sH x hx;have h2:=cS x hF;omega,by have:=sH x hx;omega⟩
 have gF:(∀ x∈F,w+1+1<x)/\w2.heap.size∉F:=⟨fun x hx=>by have:=nF x hx;omega,fun hx=>by have:=cS _ hx;omega⟩
 generalize El (Aa A9 (Ey home d).length c9) (Ey home d).length=Fv at *
 generalize Ey home d=L at *
 rw [sN] at fW;rw [sN];generalize Cb y home=Z0 at *
 have sJ:w.heap.size+1+1<w2.heap.size:=hPl2;generalize w2.heap.size=ob at *
 clear cS nF sH;go_wp2;go_loopw [11,12,13] (fun i u1 u2 wr=>∃ (k:Nat) (s:Sl×Sl) (F:List Nat),k<=3/\i = J U k/\Hid (Pol y home ((L.take k).foldl (Ez home) Z0))/\Hid (Bw.ow wr F ((L.take k).foldl (Ez home) Z0) s)/\Hid ((∀ x∈F,w+1+1<x)/\ob∉F /\ ∀ x∈Fv,x∉F)/\Hid (Hw E0 wr Fv (Aa A9 3 c9) L)/\DBox ob (Ht ((L.take k).foldl (Ez home) Z0) s) wr/\DBox (w+1) [J U 0,J U 0,Aa Ab 0 0,Aa Ab 0 0] wr/\DBox (w+1+1) [J U 0,J U 0,J U 0,J U 0] wr/\Below w w wr) (fun i _ _ _=>3 - (intOf i).toNat);case atStart=>exact ⟨0,s2,F,Ag _,rfl,bH,oy,⟨gF.1,gF.2,fun x hx=>(aC x hx).1⟩,fW,OB,RES,RP,cX⟩
 case round =>
  have sK:∀ x∈Fv,ob<x:=fun x hx=>(aC x hx).2;clear bH oy gF fW OB RES RP cX aC ov b4;obtain ⟨k,s,F,hk,rfl,bH,oy,hF,fW,OB,RES,RP,hb⟩:=hrel;have aF:Hid (∀ h:k<L.length,(L.take (k+1)).foldl (Ez home) Z0=Ez home ((L.take k).foldl (Ez home) Z0) L[k]):=fun h=>Kv (Ez home) Z0 L k h;have cW:Hid ((k=3 \/ ¬ (((L.take k).foldl (Ez home) Z0).shelf.getD home []).length=0)->L.foldl (Ez home) Z0=(L.take k).foldl (Ez home) Z0):=Akf
  generalize (L.take k).foldl (Ez home) Z0=Zk at *
  obtain ⟨⟨B1,m1,e1⟩,⟨B2,m2,e2⟩⟩:=s;have jY:=bH.out.four;have oyr:=Bw.ow_rd oy.out;have mF:home<Zk.shelf.length:=Bl;obtain rfl:m1=4:=(RdL.at1 (s:=⟨B1,m1,e1⟩) oyr.1).trans jY;obtain ⟨g,o,⟨xa,xn,xc⟩,rfl,gD,fE,ch⟩:=RdL.entryS (show RdL (Dt.list By) wr wr.heap.size (Aa B1 4 e1) Zk.shelf from oyr.1) mF;obtain rfl:xn=Zk.shelf[home].length:=RdL.at1 (s:=⟨xa,xn,xc⟩) fE;have hhI:(home:Int)<4:=Bl;have hh0:(0:Int)<=(home:Int):=Bl;have rK:=bH.out.all _ (Aw mF);obtain ⟨OB_0,OB_1,OB_2,OB_3,OB_l⟩:=OB.g4;have dF:=Br (G8 mF);have hwrs:=hb.size;have hRPl:=RP.lt;have hobl:=OB.lt;rcases (show (k<3/\Zk.shelf[home].length=0)\/(k<3 /\ ¬ Zk.shelf[home].length=0) \/ ¬ k<3 by by_cases k<3<;>by_cases Zk.shelf[home].length=0<;>simp [*]) with ⟨aA,hq⟩ | ⟨aA,hq⟩ | aA
  ·have aB:(k:Int)<3:=Bl
   ·have qV:((Zk.shelf[home].length:Int) == 0)=true:=by simp [hq]
    have pQ:k<L.length:=Bl;have hv4:L[k]<4:=nG.out _ (Aw pQ);have jR:L[k]≠home:=pE.out _ (Aw pQ);obtain ⟨gv,ov,rfl,hgv,cv⟩:=fW.out.rd.nat pQ;replace aF:=Br (aF.out pQ);have bI:=fW.out.block Bl;generalize L[k]=v at *
    have hP1:Hid (Pol y home (Kx home Zk v)):=Aml
    replace aF:=Br (aF.out.trans (Nj (by rw [dF.out];exact hq) jR));have hE0:=Br (show (Cb Zk v).shelf.getD home []=[] by rw [Se jR,dF.out];exact List.eq_nil_of_length_eq_zero hq);have sU:=fW.out.lt;have hvI:(v:Int)<4:=Bl;have hv0:(0:Int)<=(v:Int):=Bl;have cE:(0:Int)<=(k:Int):=Bl;have hzc:=bH.out.cnt HP.out;have CS:=Br (Qd Zk (⟨Ac ⟨g,o,Ab⟩,4,e1⟩,⟨B2,m2,e2⟩) v wr.drew Bl hzc (Bw.rd_below oyr (Bs _ _).drew));clear hq;go_wp2;refine Dh (fun w'=>w'.cell? ⟨ob,0,Ab⟩=Ac (J U Zk.now)/\w'.cell? ⟨ob,1,Ab⟩=Ac (J U Zk.seq)/\w'.cell? ⟨ob,2,Ab⟩=Ac (Aa (Ac ⟨g,o,Ab⟩) 4 e1)/\w'.cell? ⟨ob,3,Ab⟩=Ac (Aa B2 m2 e2)/\w'.cell? ⟨gv,ov+k,Ab⟩=Ac (J U (v:Int))) 6 Bm ?_ (fun hHeld=>?_)
    ·exact ⟨OB_0,OB_1,OB_2,OB_3,cv⟩
    refine aT 0 hHeld ?_;try simp only [pS]
    refine aT 1 hHeld ?_;try simp only [pS]
    refine aT 2 hHeld ?_;try simp only [pS]
    refine aT 3 hHeld ?_;try simp only [pS]
    refine aT 4 hHeld ?_;try simp only [pS]
    refine oT 5 (fun K hK=>?_)
    (go_simp;refine CS.out.mono ?_;rintro e w2 ⟨⟨⟨C1,p1,f1⟩,⟨C2,p2,f2⟩⟩,F2,rfl,oy2,n2,b2⟩;have OB2:=OB.below (Bv (Bs _ _).drew b2);have k0:=OB2.cell 0 _ rfl;have k1:=OB2.cell 1 _ rfl;have k2:=OB2.cell 2 _ rfl;have k3:=OB2.cell 3 _ rfl;have kf:=OB2.free;have kl:=OB2.lt)
    refine hK.out _ _ (fun _=>?_) ?_
    ·exact ⟨(b2.cell (p:=⟨_,_,Ab⟩) (by show ob<wr;omega)).trans OB_0,(b2.cell (p:=⟨_,_,Ab⟩) (by show ob<wr;omega)).trans OB_1,(b2.cell (p:=⟨_,_,Ab⟩) (by show ob<wr;omega)).trans OB_2,(b2.cell (p:=⟨_,_,Ab⟩) (by show ob<wr;omega)).trans OB_3,(b2.cell (p:=⟨_,_,Ab⟩) (by show gv<wr;omega)).trans cv⟩
    clear hK K;try simp only [pS]
    refine oT 6 (fun K hK=>?_);go_simp;refine hK.out _ _ (fun aC=>absurd rfl aC) ?_;clear hK K;try simp only [pS]
    refine Eh Bm ?_ _;have b2':Below wr wr w2:=Bv (Bs _ _).drew b2;clear k0 k1 k2 k3 kf kl hHeld;have OB3:=DBox.row4 OB2 rfl (J U (Cb Zk v).now) (J U (Cb Zk v).seq) (Aa C1 p1 f1) (Aa C2 p2 f2);have eA:=Chg.cells4 w2 ob 0 1 2 3 (J U (Cb Zk v).now) (J U (Cb Zk v).seq) (Aa C1 p1 f1) (Aa C2 p2 f2);have eT:=Br (show ∀ x,x∈[ob]->x=ob from fun x hx=>by simpa using hx);have RES3:=(RES.below b2').chg eA (fun hx=>by have:=eT.out _ hx;omega);have RP3:=(RP.below b2').chg eA (fun hx=>by have:=eT.out _ hx;omega);have dY:=(fW.out.below b2').chg eA (fun x hx hx2=>by have h1:=eT.out _ hx2;have h2:=sK x hx;omega);have eV:ob∉F2:=fun hx=>by have h1:=n2 _ hx;have h2:wr.drew.heap.size=wr.heap.size:=rfl;have h3:=OB_l;omega
    have oy3:=Bw.ow_chg oy2 eA (fun x hx hx2=>by have:=eT.out _ hx2;subst this;exact eV hx);have cB:Below w w _:=(Bv hb b2').trans (eA.below (by have:=b2'.size;omega) (fun x hx=>by have:=eT.out _ hx;omega));have dS:∀ x∈F2,wr<=x:=n2;have eB:=b2'.size;have kT:=eA.size;replace cv:=(eA.cell (p:=⟨gv,_,Ab⟩) (by show gv<w2;omega) (fun hx=>by have h1:gv=ob:=eT.out _ hx;have h2:=sK gv (by rw [bI.1];simp);omega)).trans ((b2'.cell (p:=⟨gv,_,Ab⟩) (by show gv<wr;omega)).trans cv);have pU:∀ x∈F2,w+1+1<x:=fun x hx=>by have h1:=dS x hx;have h2:=RP.lt;omega
    clear OB_0 OB_1 OB_2 OB_3 OB_l;clear OB RES RP fW oy oy2 n2 b2 b2' hb OB2 oyr fE ch hF CS;generalize (((w2.setCell ⟨ob,0,Ab⟩ (J U (Cb Zk v).now)).setCell ⟨ob,1,Ab⟩ (J U (Cb Zk v).seq)).setCell ⟨ob,2,Ab⟩ (Aa C1 p1 f1)).setCell ⟨ob,3,Ab⟩ (Aa C2 p2 f2)=w3 at *
    have OB:=OB3;clear OB3;obtain ⟨OB_0,OB_1,OB_2,OB_3,OB_l⟩:=OB.g4;have h41:(Cb Zk v).shelf.length=4:=by rw [Ni];exact jY
    have oyr3:=Bw.ow_rd (F:=F2) (x:=Cb Zk v) oy3;obtain rfl:p1=4:=(RdL.at1 (s:=⟨C1,p1,f1⟩) oyr3.1).trans h41;have jA:v<(Cb Zk v).shelf.length:=Bl;obtain ⟨g2,o2,⟨va,vn,vc⟩,rfl,dW,uM,cv2⟩:=RdL.entryS (show RdL (Dt.list By) w3 w3.heap.size (Aa C1 4 f1) (Cb Zk v).shelf from oyr3.1) jA;have eS:=Pm (i:=v) bH.out.all;have jI:=eS _ (Aw jA);have CH:=Br (Zs (Cb Zk v).shelf[v] ⟨va,vn,vc⟩ w3.drew Bl (RdL.below uM (Bs _ _).drew));have hgvw:gv<w3:=Bl;go_wp2;refine Go.wp_region_noPanic ?_;refine wp_region_held_drew (S:=(fun w'=>w'.cell? ⟨ob,2,Ab⟩=Ac (Aa (Ac ⟨g2,o2,Ab⟩) 4 f1)/\w'.cell? ⟨gv,ov+k,Ab⟩=Ac (J U (v:Int))/\w'.cell? ⟨g2,o2+v,Ab⟩=Ac (Aa va vn vc))) Bm ⟨OB_2,cv,cv2⟩ (fun hHeld=>?_);refine tY 0 ?_
    (try simp only [pS])
    refine tY 1 ?_
    (try simp only [pS])
    refine tY 2 ?_
    (try simp only [pS])
    refine tY 3 ?_
    (try simp only [pS])
    refine tY 4 ?_
    (try simp only [pS])
    refine tY 5 ?_
    (try simp only [pS])
    refine tY 6 ?_
    (try simp only [pS])
    refine tY 7 ?_
    (try simp only [pS])
    refine rC 8 (fun K_ hK=>?_);go_simp;refine CH.out.mono ?_;rintro e w4 ⟨⟨qa1,qn1,qc1⟩,Fh1,⟨qa2,qn2,qc2⟩,Fh2,rfl,oh1,oh2,nh1,nh2,dh,b4⟩;refine hK.out _ _ ⟨(b4.cell (p:=⟨_,_,Ab⟩) (by show ob<w3;omega)).trans OB_2,(b4.cell (p:=⟨_,_,Ab⟩) (by show gv<w3;omega)).trans cv,(b4.cell (p:=⟨_,_,Ab⟩) (by show g2<w3;omega)).trans cv2⟩ (fun hHeld=>?_);clear hK K_
    (try simp only [pS])
    refine tY 9 ?_
    (try simp only [pS])
    refine tY 10 ?_
    (try simp only [pS])
    refine tY 11 ?_
    (try simp only [pS])
    refine tY 12 ?_
    (try simp only [pS])
    refine tY 13 ?_
    (try simp only [pS])
    refine Al Bm ?_ _;refine NoPanic.normal ?_;have b4':Below w3 w3 w4:=Bv (Bs _ _).drew b4;have pV:=b4'.size;have hnh1:∀ x∈Fh1,w3<=x:=nh1;have mI:∀ x∈Fh2,w3<=x:=nh2;replace oy3:Bw.ow w3 F2 (Cb Zk v) (⟨Ac ⟨g2,o2,Ab⟩,4,f1⟩,⟨C2,p2,f2⟩):=oy3;have hfl2:=Bw.ow_lt (F:=F2) (x:=Cb Zk v) (s:=(⟨Ac ⟨g2,o2,Ab⟩,4,f1⟩,⟨C2,p2,f2⟩)) oy3;clear OB_0 OB_1 OB_2 OB_3 OB_l;replace OB:=OB.below b4';replace RES3:=RES3.below b4';replace RP3:=RP3.below b4';replace dY:=dY.below b4';replace oy3:Bw.ow w4 F2 (Cb Zk v) (⟨Ac ⟨g2,o2,Ab⟩,4,f1⟩,⟨C2,p2,f2⟩):=owB oy3 b4';replace cB:=Bv cB b4';replace cv:=(b4'.cell (p:=⟨gv,_,Ab⟩) (by show gv<w3;omega)).trans cv;replace cv2:=(b4'.cell (p:=⟨g2,_,Ab⟩) (by show g2<w3;omega)).trans cv2;clear nh1 nh2 b4 b4' hHeld CH oyr3 uM;obtain ⟨OB_0,OB_1,OB_2,OB_3,OB_l⟩:=OB.g4;have kH:∀ j,w4.frozen? ⟨g2,j,Ab⟩=false:=Ak9
    have mJ:g2<w4:=Bl;have hgvw4:gv<w4:=Bl;go_wp2;refine Dh (fun w'=>w'.cell? ⟨ob,2,Ab⟩=Ac (Aa (Ac ⟨g2,o2,Ab⟩) 4 f1)/\w'.cell? ⟨gv,ov+k,Ab⟩=Ac (J U (v:Int))) 8 Bm ?_ (fun hHeld=>?_)
    ·exact ⟨OB_2,cv⟩
    refine aT 0 hHeld ?_;try simp only [pS]
    refine aT 1 hHeld ?_;try simp only [pS]
    refine aT 2 hHeld ?_;try simp only [pS]
    refine aT 3 hHeld ?_;try simp only [pS]
    refine aT 4 hHeld ?_;try simp only [pS]
    refine aT 5 hHeld ?_;try simp only [pS]
    refine aT 6 hHeld ?_;try simp only [pS]
    refine aT 7 hHeld ?_;try simp only [pS]
    refine oT 8 (fun K hK=>?_);go_simp;refine hK.out _ _ (fun aC=>absurd rfl aC) ?_;clear hK K;try simp only [pS]
    refine Eh Bm ?_ _;obtain ⟨F5,oy5,hF5,kP⟩:=Gt oy3 jA (l:=(Cb Zk v).shelf[v].drop (Df (Cb Zk v).shelf[v])) (t:=⟨qa2,qn2,qc2⟩) oh2 (fun x hx bI=>by have h1:=mI x hx;have h2:=hfl2 x bI;omega);replace oy5:Bw.ow (w4.setCell ⟨g2,o2+v,Ab⟩ (Aa qa2 qn2 qc2)).drew F5 ⟨(Cb Zk v).now,(Cb Zk v).seq,(Cb Zk v).shelf.set v ((Cb Zk v).shelf[v].drop (Df (Cb Zk v).shelf[v])),(Cb Zk v).runs⟩ (⟨Ac ⟨g2,o2,Ab⟩,4,f1⟩,⟨C2,p2,f2⟩):=owB oy5 (Bs _ _).drew;have dP:Chg [g2] w4 (w4.setCell ⟨g2,o2+v,Ab⟩ (Aa qa2 qn2 qc2)).drew:=(Chg.setCell w4 g2 _ _).drew;have bQ:=Br (show ∀ x,x∈[g2]->x=g2 from fun x hx=>by simpa using hx);have hg2gt:=pU _ kP;have hg2n:=dS _ kP;have eL:ob≠g2:=fun h=>eV (by rw [h];exact kP);clear OB_0 OB_1 OB_2 OB_3 OB_l;replace OB:=OB.chg dP (fun hx=>eL (bQ.out _ hx));replace RES3:=RES3.chg dP (fun hx=>by have:=bQ.out _ hx;omega);replace RP3:=RP3.chg dP (fun hx=>by have:=bQ.out _ hx;omega);replace dY:=dY.chg dP (fun x hx hx2=>by have h1:=bQ.out _ hx2;have h2:=sU x hx;omega);have oh1':=oh1.chg dP (fun x hx hx2=>by have h1:=bQ.out _ hx2;have h2:=hnh1 x hx;omega);replace cB:=cB.trans (dP.below (by have:=cB.size;omega) (fun x hx=>by have:=bQ.out _ hx;omega));have hfg5:∀ j,(w4.setCell ⟨g2,o2+v,Ab⟩ (Aa qa2 qn2 qc2)).drew.frozen? ⟨g2,j,Ab⟩=false:=fun j=>(J5 w4 _ _ _).trans (kH j);have qD:=dP.size;clear dP hHeld oy3 oh1 oh2 kH cv cv2;generalize (w4.setCell ⟨g2,o2+v,Ab⟩ (Aa qa2 qn2 qc2)).drew=w5 at *
    obtain ⟨OB_0,OB_1,OB_2,OB_3,OB_l⟩:=OB.g4;have h42:((Cb Zk v).shelf.set v ((Cb Zk v).shelf[v].drop (Df (Cb Zk v).shelf[v]))).length=4:=by rw [Bh];exact h41
    have vK:((Cb Zk v).shelf.set v ((Cb Zk v).shelf[v].drop (Df (Cb Zk v).shelf[v])))[home]' Bl=[]:=by
     have h1:=hE0.out;rw [G8 Bl] at h1;rw [List.getElem_set_ne jR];exact h1
    have vN:=Br (show Kx home Zk v=⟨(Cb Zk v).now,(Cb Zk v).seq,((Cb Zk v).shelf.set v ((Cb Zk v).shelf[v].drop (Df (Cb Zk v).shelf[v]))).set home (Gy [] ((Cb Zk v).shelf[v].take (Df (Cb Zk v).shelf[v]))),(Cb Zk v).runs⟩ by
     unfold Kx;rw [G8 jA];rfl)
    obtain ⟨_,_,⟨xa2,xn2,xc2⟩,dD,_,gM,cx⟩:=RdL.entryS (show RdL (Dt.list By) w5 w5.heap.size (Aa (Ac ⟨g2,o2,Ab⟩) 4 f1) _ from (Bw.ow_rd oy5).1) (k:=home) (by show home<(List.set _ _ _).length;omega);simp only [Option.some.injEq,Addr.mk.injEq,and_true] at dD;obtain ⟨rfl,rfl⟩:=dD;replace gM:RdL By w5 w5 (Aa xa2 xn2 xc2) (((Cb Zk v).shelf.set v ((Cb Zk v).shelf[v].drop (Df (Cb Zk v).shelf[v])))[home]' Bl):=gM;rw [vK] at gM;obtain rfl:xn2=0:=RdL.at1 (s:=⟨xa2,xn2,xc2⟩) gM;have fA:((Cb Zk v).shelf[v].take (Df (Cb Zk v).shelf[v])).length<=80:=M0 _ jI;have CM:=Br (Vx [] ((Cb Zk v).shelf[v].take (Df (Cb Zk v).shelf[v])) ⟨xa2,0,xc2⟩ ⟨qa1,qn1,qc1⟩ w5.drew Bo Bl (RdL.below gM (Bs _ _).drew) (RdL.below oh1'.rd (Bs _ _).drew));have hobw5:ob<w5:=OB_l;have hg2w5:g2<w5:=Bl;clear vK gM jI;generalize (Cb Zk v).shelf[v].take (Df (Cb Zk v).shelf[v])=lt_ at *
    go_wp2;refine Dh (fun w'=>w'.cell? ⟨ob,2,Ab⟩=Ac (Aa (Ac ⟨g2,o2,Ab⟩) 4 f1)/\w'.cell? ⟨g2,o2+home,Ab⟩=Ac (Aa xa2 0 xc2)) 11 Bm ?_ (fun hHeld=>?_)
    ·exact ⟨OB_2,cx⟩
    refine aT 0 hHeld ?_;try simp only [pS]
    refine aT 1 hHeld ?_;try simp only [pS]
    refine aT 2 hHeld ?_;try simp only [pS]
    refine aT 3 hHeld ?_;try simp only [pS]
    refine aT 4 hHeld ?_;try simp only [pS]
    refine aT 5 hHeld ?_;try simp only [pS]
    refine aT 6 hHeld ?_;try simp only [pS]
    refine aT 7 hHeld ?_;try simp only [pS]
    refine aT 8 hHeld ?_;try simp only [pS]
    refine oT 9 (fun K hK=>?_)
    (go_simp;refine CM.out.mono ?_;rintro e w6 ⟨⟨ma,mn,mc⟩,Fm,rfl,om,nm,b6⟩;have hgc:w6.cell? ⟨g2,o2+home,Ab⟩=Ac (Aa xa2 0 xc2):=(b6.cell (p:=⟨_,_,Ab⟩) (by show g2<w5;omega)).trans cx;have qJ:∀ j,w6.frozen? ⟨g2,j,Ab⟩=false:=fun j=>(b6.frozen (p:=⟨_,_,Ab⟩) (by show g2<w5;omega)).trans (hfg5 j))
    refine hK.out _ _ (fun _=>?_) ?_
    ·exact Alc
    clear hK K;try simp only [pS]
    refine oT 10 (fun K hK=>?_);go_simp;refine hK.out _ _ (fun _=>?_) ?_
    ·exact Alc
    clear hK K;try simp only [pS]
    refine oT 11 (fun K hK=>?_);go_simp;refine hK.out _ _ (fun aC=>absurd rfl aC) ?_;clear hK K;try simp only [pS]
    refine Eh Bm ?_ _;have b6':Below w5 w5 w6:=Bv (Bs _ _).drew b6;have qL:=b6'.size;have tM:∀ x∈Fm,w5<=x:=nm;replace oy5:Bw.ow w5 F5 ⟨(Cb Zk v).now,(Cb Zk v).seq,(Cb Zk v).shelf.set v ((Cb Zk v).shelf[v].drop (Df (Cb Zk v).shelf[v])),(Cb Zk v).runs⟩ (⟨Ac ⟨g2,o2,Ab⟩,4,f1⟩,⟨C2,p2,f2⟩):=oy5;have hfl5:=Bw.ow_lt (F:=F5) (x:=⟨(Cb Zk v).now,(Cb Zk v).seq,(Cb Zk v).shelf.set v ((Cb Zk v).shelf[v].drop (Df (Cb Zk v).shelf[v])),(Cb Zk v).runs⟩) (s:=(⟨Ac ⟨g2,o2,Ab⟩,4,f1⟩,⟨C2,p2,f2⟩)) oy5;have oy6:=Bw.ow_below (F:=F5) (x:=⟨(Cb Zk v).now,(Cb Zk v).seq,(Cb Zk v).shelf.set v ((Cb Zk v).shelf[v].drop (Df (Cb Zk v).shelf[v])),(Cb Zk v).runs⟩) (s:=(⟨Ac ⟨g2,o2,Ab⟩,4,f1⟩,⟨C2,p2,f2⟩)) oy5 b6';obtain ⟨F7,oy7,gE,hg2F5⟩:=Gt oy6 (i:=home) (by show home<(List.set _ _ _).length;omega) (l:=Gy [] lt_) (t:=⟨ma,mn,mc⟩) om (fun x hx bI=>by have h1:=tM x hx;have h2:=hfl5 x bI;omega);have gP:Chg [g2] w6 (w6.setCell ⟨g2,o2+home,Ab⟩ (Aa ma mn mc)):=Chg.setCell w6 g2 _ _;clear OB_0 OB_1 OB_2 OB_3 OB_l;replace OB:=(OB.below b6').chg gP (fun hx=>eL (bQ.out _ hx));replace RES3:=(RES3.below b6').chg gP (fun hx=>by have:=bQ.out _ hx;omega);replace RP3:=(RP3.below b6').chg gP (fun hx=>by have:=bQ.out _ hx;omega);replace dY:=(dY.below b6').chg gP (fun x hx hx2=>by have h1:=bQ.out _ hx2;have h2:=sU x hx;omega);replace cB:=(Bv cB b6').trans (gP.below (by have:=(Bv cB b6').size;omega) (fun x hx=>by have:=bQ.out _ hx;omega));have kI:∀ x∈F7,x∈F2\/w3<=x:=fun x hx=>by
     rcases gE x hx with h | h
     ·rcases hF5 x h with h' | h'
      ·exact .inl h'
      ·exact .inr (mI x h')
     ·right;have:=tM x h;omega
    clear hHeld oy5 oy6 b6 b6' nm om gP CM cx;generalize w6.setCell ⟨g2,o2+home,Ab⟩ (Aa ma mn mc)=w7 at *
    go_wp2;exact ⟨⟨k+1,(⟨Ac ⟨g2,o2,Ab⟩,4,f1⟩,⟨C2,p2,f2⟩),F7,Bl,by go_num,by rw [aF.out];exact hP1,by rw [aF.out,vN.out];exact oy7,⟨fun x hx=>by (rcases kI x hx with h | h);exact pU x h;omega,fun hx=>by (rcases kI _ hx with h | h);exact eV h;omega,fun x hx bI=>by have h1:=sU x hx;(rcases kI x bI with h | h);have:=dS x h;omega;omega⟩,dY,by rw [aF.out,vN.out];exact OB,RES3,RP3,cB⟩,clM⟩
  have aB:(k:Int)<3:=Bl;have qV:((Zk.shelf[home].length:Int) == 0)=false:=by simp [hq]
  replace cW:=Br (cW.out (.inr (by rw [dF.out];exact hq)));clear hq;rotate_left;have aB:¬ (k:Int)<3:=Bl;have qV:True:=trivial;replace cW:=Br (cW.out (.inl Bl));all_goals
   have HZ:=Br (show Jd y (wk:Int) d=Of Zk home by rw [H.out,HG.out,cW.out]);have kS:∀ e∈Zk.shelf[home],Vc Zk e:=fun e he=>by
    exact Al7
   replace fE:RdL By wr wr (Aa xa Zk.shelf[home].length xc) Zk.shelf[home]:=fE;have qI:=bH.out.all _ (Aw mF);have qU:Hid (Of Zk home=S9 Zk home Zk.shelf[home]):=by
    show Of Zk home=_;unfold Of;rw [dF.out]
   have CT:=Br (Q7 Zk.shelf[home] ⟨xa,Zk.shelf[home].length,xc⟩ wr Bl fE);clear aF dF fW nG pE mC sK H HG cW;generalize Zk.shelf[home]=SH at *
   go_wp2_with fail
   refine CT.out.mono ?_;rintro e9 w2 ⟨⟨ta,tn,tc⟩,Ft,rfl,ot,nt,b2⟩;replace oy:Bw.ow wr F Zk (⟨Ac ⟨g,o,Ab⟩,4,e1⟩,⟨B2,m2,e2⟩):=oy.out;have qC:=Bw.ow_lt (F:=F) (x:=Zk) (s:=(⟨Ac ⟨g,o,Ab⟩,4,e1⟩,⟨B2,m2,e2⟩)) oy;replace oy:Bw.ow w2 F Zk (⟨Ac ⟨g,o,Ab⟩,4,e1⟩,⟨B2,m2,e2⟩):=owB oy b2;clear OB_0 OB_1 OB_2 OB_3 OB_l;replace OB:=OB.below b2;replace RES:=RES.below b2;replace RP:=RP.below b2;have aK:=Bv hb b2;have eB:=b2.size;clear b2 CT ch fE hb oyr;have aC:w.heap.size+1+1≠w.heap.size+1:=Bl;cases SH with
   | nil =>
    have HF:=Br (HZ.out.trans qU.out);clear HZ qU kS ot;have EB0:Below w2 w2 (w2.alloc (.cells #[J U 0,J U 0,J U 0,J U 0] 71)):=Bu;go_upto_region 16 with fail
    replace oy:Bw.ow _ F Zk (⟨Ac ⟨g,o,Ab⟩,4,e1⟩,⟨B2,m2,e2⟩):=owB oy EB0;replace OB:=OB.below EB0;replace RES:=RES.below EB0;replace RP:=RP.below EB0;replace aK:=Bv aK EB0;clear EB0;generalize w2.alloc (.cells #[J U 0,J U 0,J U 0,J U 0] 71)=w3 at *
    obtain ⟨OB_0,OB_1,OB_2,OB_3,OB_l⟩:=OB.g4;obtain ⟨RES_0,RES_1,RES_2,RES_3,RES_l⟩:=RES.g4;obtain ⟨RP_0,RP_1,RP_2,RP_3,RP_l⟩:=RP.g4;have rf:=RES.free;have pf:=RP.free;go_wp2;have en1:w.heap.size+1∉F:=fun hx=>by have:=hF.out.1 _ hx;omega
    have en2:w.heap.size+1+1∉F:=fun hx=>by have:=hF.out.1 _ hx;omega
    have RES2:=DBox.row4 RES rfl (J U Zk.now) (J U Zk.seq) (Aa (Ac ⟨g,o,Ab⟩) 4 e1) (Aa B2 m2 e2);have RP2:=DBox.row4 ((((RP.setOther (a:=⟨w+1,0,Ab⟩) aC (J U Zk.now)).setOther (a:=⟨w+1,1,Ab⟩) aC (J U Zk.seq)).setOther (a:=⟨w+1,2,Ab⟩) aC (Aa (Ac ⟨g,o,Ab⟩) 4 e1)).setOther (a:=⟨w+1,3,Ab⟩) aC (Aa B2 m2 e2)) rfl (J U 9) (J U 0) (J U 0) (J U 0);have RES3:=(((RES2.setOther (a:=⟨w+1+1,0,Ab⟩) aC.symm (J U 9)).setOther (a:=⟨w+1+1,1,Ab⟩) aC.symm (J U 0)).setOther (a:=⟨w+1+1,2,Ab⟩) aC.symm (J U 0)).setOther (a:=⟨w+1+1,3,Ab⟩) aC.symm (J U 0);refine Aj (Rl RES3 RP2) rfl ⟨(⟨Ac ⟨g,o,Ab⟩,4,e1⟩,⟨B2,m2,e2⟩),F,by rw [HF.out];rfl,by rw [HF.out];exact (by (repeat (refine Dt.ow_set Bw ?_ (by first | exact en1 | exact en2) _));exact (show Bw.ow _ F Zk (⟨Ac ⟨g,o,Ab⟩,4,e1⟩,⟨B2,m2,e2⟩) from oy)),fun x hx=>by have:=hF.out.1 x hx;omega,?_⟩;repeat (first | (with_reducible exact aK) | refine Ad ?_ Bp _)
   | cons e rest =>
    obtain ⟨jL,⟨gW,qW⟩,dX⟩:=kS e (List.mem_cons_self ..);obtain ⟨pr,sq,rn,tk⟩:=e;dsimp only at jL gW qW dX;obtain ⟨t,rfl⟩:=Ap gW;rcases E9 Zk rn with gV | ⟨j,hj,gV⟩
    ·exact absurd jL Bl
    have dI:=Ha hj gV;rw [dI] at qW dX;have vA:j<y.runs.length:=by rw [<-bH.out.runs];exact hj
    have sQ:Hid (Hn Zk.runs[j]):=Al0
    have HF:=Br (HZ.out.trans (qU.out.trans (show _=((⟨Zk.now,Zk.seq,Zk.shelf.set home rest,Zk.runs.set j (Eo Zk.runs[j] t Zk.now)⟩:Yard),(⟨0,rn,t,(Cv Zk.runs[j] t).try_+1⟩:Reply)) by show S9 _ _ (_ :: _)=_;unfold S9;dsimp only;rw [gV,dI,Ao,Ao])));have gT:=Br (show 0<=Zk.now/\Zk.now<=999999980 by rw [bH.out.now];exact HP.out.1);have hrun8:Zk.runs.length<=8:=by rw [bH.out.runs];exact HP.out.2.2.2.2.2.2.1
    have fA:t<Zk.runs[j].tasks.length:=Bl;have sL:=Cu fA;have nI:=Br (show Dn ⟨Zk.now,Zk.seq,Zk.shelf.set home rest,Zk.runs⟩ rn=j from (N3 (y:=Zk) rfl rn).trans gV);have tZ:=Br (show Ca ⟨Zk.now,Zk.seq,Zk.shelf.set home rest,Zk.runs⟩<=2000000 by
     have:=Ls (y:=⟨Zk.now,Zk.seq,Zk.shelf.set home rest,Zk.runs⟩) (M:=80) (by simpa using jY) (fun s hs=>by
      rcases List.mem_or_eq_of_mem_set hs with h | h
      ·exact bH.out.all s h
      ·subst h;simp at qI;omega) hrun8 (fun k hk=>by
       have aZ:k<y.runs.length:=by rw [<-bH.out.runs];exact hk
       have e:Zk.runs[k]=y.runs[k]:=by simp only [bH.out.runs]
       show Hn Zk.runs[k];rw [e];exact Ev HP.out aZ)
     omega)
    clear HZ qU kS gV dI jL gW qW dX vA rK qV;replace ot:OwL By w2 Ft (Aa ta tn tc) rest:=ot;have fF:∀ x∈Ft,wr<=x/\x<w2:=fun x hx=>⟨nt x hx,ot.lt x hx⟩
    have EB:=DBox.new 71 [J U pr,J U sq,J U rn,J U (t:Int)] w2 (b:=w2) rfl;have EB0:Below w2 w2 (w2.alloc (.cells #[J U pr,J U sq,J U rn,J U (t:Int)] 71)):=Bu;go_upto_region 16 with fail
    replace oy:Bw.ow _ F Zk (⟨Ac ⟨g,o,Ab⟩,4,e1⟩,⟨B2,m2,e2⟩):=owB oy EB0;replace ot:=ot.below EB0;replace OB:=OB.below EB0;replace RES:=RES.below EB0;replace RP:=RP.below EB0;replace aK:=Bv aK EB0;clear nt EB0;generalize w2.alloc (.cells #[J U pr,J U sq,J U rn,J U (t:Int)] 71)=w3 at *
    have hebl:=EB.lt;generalize w2.heap.size=eb at *
    obtain ⟨OB_0,OB_1,OB_2,OB_3,OB_l⟩:=OB.g4;obtain ⟨EB_0,EB_1,EB_2,EB_3,EB_l⟩:=EB.g4;replace oy:Bw.ow w3 F Zk (⟨Ac ⟨g,o,Ab⟩,4,e1⟩,⟨B2,m2,e2⟩):=oy;have kH:∀ j,w3.frozen? ⟨g,j,Ab⟩=false:=Ali
    obtain ⟨_,_,⟨xa3,xn3,xc3⟩,dD,sS,_,ch⟩:=RdL.entryS (show RdL (Dt.list By) w3 w3.heap.size (Aa (Ac ⟨g,o,Ab⟩) 4 e1) Zk.shelf from (Bw.ow_rd (F:=F) (x:=Zk) oy).1) mF;simp only [Option.some.injEq,Addr.mk.injEq,and_true] at dD;obtain ⟨rfl,rfl⟩:=dD;obtain ⟨F4,oy4,vF,eY⟩:=Gt oy mF (l:=rest) (t:=⟨ta,tn,tc⟩) ot (fun x hx bI=>by have h1:=(fF x hx).1;have h2:=qC x bI;omega);go_upto_region 19 with fail
    have eQ:Chg [g] w3 (w3.setCell ⟨g,o+home,Ab⟩ (Aa ta tn tc)):=Chg.setCell w3 g _ _;have bQ:=Br (show ∀ x,x∈[g]->x=g from fun x hx=>by simpa using hx);have hgF2:=hF.out.1 g eY;have eL:ob≠g:=fun h=>hF.out.2.1 (by rw [h];exact eY);clear OB_0 OB_1 OB_2 OB_3 OB_l;clear EB_0 EB_1 EB_2 EB_3 EB_l;replace OB:=OB.chg eQ (fun hx=>eL (bQ.out _ hx));replace EB:=EB.chg eQ (fun hx=>by have:=bQ.out _ hx;omega);replace RES:=RES.chg eQ (fun hx=>by have:=bQ.out _ hx;omega);replace RP:=RP.chg eQ (fun hx=>by have:=bQ.out _ hx;omega);have pV:=eQ.size;replace aK:=aK.trans (eQ.below (by have:=aK.size;omega) (fun x hx=>by have:=bQ.out _ hx;omega));clear eQ oy kH ch ot;generalize w3.setCell ⟨g,o+home,Ab⟩ (Aa ta tn tc)=w4 at *
    replace oy4:Bw.ow w4 F4 ⟨Zk.now,Zk.seq,Zk.shelf.set home rest,Zk.runs⟩ (⟨Ac ⟨g,o,Ab⟩,4,e1⟩,⟨B2,m2,e2⟩):=oy4;have gZ:∀ x∈F4,(x∈F\/(wr<=x/\x<eb)):=fun x hx=>(vF x hx).imp id (fun h=>fF x h);have CA:=Br (Fi ⟨Zk.now,Zk.seq,Zk.shelf.set home rest,Zk.runs⟩ (⟨Ac ⟨g,o,Ab⟩,4,e1⟩,⟨B2,m2,e2⟩) rn w4 tZ.out (Bw.ow_rd (F:=F4) (x:=⟨Zk.now,Zk.seq,Zk.shelf.set home rest,Zk.runs⟩) oy4));obtain ⟨OB_0,OB_1,OB_2,OB_3,OB_l⟩:=OB.g4;obtain ⟨EB_0,EB_1,EB_2,EB_3,EB_l⟩:=EB.g4;go_wp2_with fail
    refine CA.out.mono ?_;rintro e9 w5 ⟨rfl,b5⟩;rw [nI.out];clear OB_0 OB_1 OB_2 OB_3 OB_l;clear EB_0 EB_1 EB_2 EB_3 EB_l;replace OB:=OB.below b5;replace EB:=EB.below b5;replace RES:=RES.below b5;replace RP:=RP.below b5;replace aK:=Bv aK b5;replace oy4:Bw.ow w5 F4 ⟨Zk.now,Zk.seq,Zk.shelf.set home rest,Zk.runs⟩ (⟨Ac ⟨g,o,Ab⟩,4,e1⟩,⟨B2,m2,e2⟩):=owB oy4 b5;have qD:=b5.size;clear b5 CA nI tZ;have oyr:=(Bw.ow_rd (F:=F4) (x:=⟨Zk.now,Zk.seq,Zk.shelf.set home rest,Zk.runs⟩) oy4).2;have dH:=Br (show m2=Zk.runs.length from RdL.at1 (s:=⟨B2,m2,e2⟩) oyr);have jF:(j:Int)<(m2:Int):=by have:=dH.out;omega
    have bX:(0:Int)<=(j:Int):=Bl;obtain ⟨gr,orr,sk,rfl,dN,dI,c0,c1,c2,c3,c4,c5,c6,c7⟩:=RdL.run (show RdL Cf w5 w5.heap.size (Aa B2 m2 e2) Zk.runs from oyr) hj;have jG:∀ i,w5.frozen? ⟨gr,i,Ab⟩=false:=by
     obtain ⟨G1,G2,_,_,_,os⟩:=oy4;exact OwL.free0 (show OwL Cf w5 G2 (Aa (Ac ⟨gr,orr,Ab⟩) m2 e2) Zk.runs from os) Bl
    generalize nB:Zk.runs[j]=r at *
    have kN:-1000000<=r.tasks[t].try_/\r.tasks[t].try_<=2000000000/\0<=r.plan.wait/\r.plan.wait<=2000000000:=Akr
    have CSt:=Br (Tw r sk t Zk.now w5.drew (by have:=Kw sQ.out;omega) fA ⟨kN.1,kN.2.1⟩ (by have:=gT.out;omega) kN.2.2 (Cf.rd_below dI (Bs _ _).drew));have hobw5:ob<w5:=Bl;have hebw5:eb<w5:=Bl;clear dI oyr kN sQ hrun8;obtain ⟨OB_0,OB_1,OB_2,OB_3,OB_l⟩:=OB.g4;obtain ⟨EB_0,EB_1,EB_2,EB_3,EB_l⟩:=EB.g4;go_wp2;refine Dh (fun w'=>w'.cell? ⟨ob,3,Ab⟩=Ac (Aa (Ac ⟨gr,orr,Ab⟩) m2 e2)/\w'.cell? ⟨ob,0,Ab⟩=Ac (J U Zk.now)/\w'.cell? ⟨eb,3,Ab⟩=Ac (J U (t:Int))/\w'.cell? ⟨gr,orr+j * 8,Ab⟩=Ac (J U r.id)/\w'.cell? ⟨gr,orr+j * 8+1,Ab⟩=Ac (J U r.plan.prio)/\w'.cell? ⟨gr,orr+j * 8+2,Ab⟩=Ac (J U r.plan.most)/\w'.cell? ⟨gr,orr+j * 8+3,Ab⟩=Ac (J U r.plan.wait)/\w'.cell? ⟨gr,orr+j * 8+4,Ab⟩=Ac (J U r.plan.tasks)/\w'.cell? ⟨gr,orr+j * 8+5,Ab⟩=Ac (Aa sk.1.a sk.1.n sk.1.c)/\w'.cell? ⟨gr,orr+j * 8+6,Ab⟩=Ac (J U r.state)/\w'.cell? ⟨gr,orr+j * 8+7,Ab⟩=Ac (Aa sk.2.a sk.2.n sk.2.c)) 14 Bm ?_ (fun hHeld=>?_)
    ·exact ⟨OB_3,OB_0,EB_3,c0,c1,c2,c3,c4,c5,c6,c7⟩
    refine aT 0 hHeld ?_;try simp only [pS]
    refine aT 1 hHeld ?_;try simp only [pS]
    refine aT 2 hHeld ?_;try simp only [pS]
    refine aT 3 hHeld ?_;try simp only [pS]
    refine aT 4 hHeld ?_;try simp only [pS]
    refine aT 5 hHeld ?_;try simp only [pS]
    refine aT 6 hHeld ?_;try simp only [pS]
    refine aT 7 hHeld ?_;try simp only [pS]
    refine aT 8 hHeld ?_;try simp only [pS]
    refine aT 9 hHeld ?_;try simp only [pS]
    refine aT 10 hHeld ?_;try simp only [pS]
    refine aT 11 hHeld ?_;try simp only [pS]
    refine oT 12 (fun K hK=>?_)
    (go_simp;refine CSt.out.mono ?_;rintro e9 w6 ⟨sr,Fr,rfl,orn,nr,b6⟩;have q0:w6.cell? ⟨gr,orr+j * 8,Ab⟩=Ac (J U r.id):=(b6.cell (p:=⟨_,_,Ab⟩) (by show gr<w5;omega)).trans c0;have q1:w6.cell? ⟨gr,orr+j * 8+1,Ab⟩=Ac (J U r.plan.prio):=(b6.cell (p:=⟨_,_,Ab⟩) (by show gr<w5;omega)).trans c1;have q2:w6.cell? ⟨gr,orr+j * 8+2,Ab⟩=Ac (J U r.plan.most):=(b6.cell (p:=⟨_,_,Ab⟩) (by show gr<w5;omega)).trans c2;have q3:w6.cell? ⟨gr,orr+j * 8+3,Ab⟩=Ac (J U r.plan.wait):=(b6.cell (p:=⟨_,_,Ab⟩) (by show gr<w5;omega)).trans c3;have q4:w6.cell? ⟨gr,orr+j * 8+4,Ab⟩=Ac (J U r.plan.tasks):=(b6.cell (p:=⟨_,_,Ab⟩) (by show gr<w5;omega)).trans c4;have q5:w6.cell? ⟨gr,orr+j * 8+5,Ab⟩=Ac (Aa sk.1.a sk.1.n sk.1.c):=(b6.cell (p:=⟨_,_,Ab⟩) (by show gr<w5;omega)).trans c5;have q6:w6.cell? ⟨gr,orr+j * 8+6,Ab⟩=Ac (J U r.state):=(b6.cell (p:=⟨_,_,Ab⟩) (by show gr<w5;omega)).trans c6;have q7:w6.cell? ⟨gr,orr+j * 8+7,Ab⟩=Ac (Aa sk.2.a sk.2.n sk.2.c):=(b6.cell (p:=⟨_,_,Ab⟩) (by show gr<w5;omega)).trans c7;have qf:∀ j,w6.frozen? ⟨gr,j,Ab⟩=false:=fun j=>(b6.frozen (p:=⟨_,_,Ab⟩) (by show gr<w5;omega)).trans (jG j))
    refine hK.out _ _ (fun _=>?_) ?_
    ·exact Ait
    clear hK K;try simp only [pS]
    refine oT 13 (fun K hK=>?_);go_simp;refine hK.out _ _ (fun _=>?_) ?_
    ·exact Ait
    clear hK K;try simp only [pS]
    refine oT 14 (fun K hK=>?_);go_simp;refine hK.out _ _ (fun aC=>absurd rfl aC) ?_;clear hK K;try simp only [pS]
    refine Eh Bm ?_ _;have b6':Below w5 w5 w6:=Bv (Bs _ _).drew b6;have qL:=b6'.size;have mW:∀ x∈Fr,w5<=x:=nr;have jN:∀ x∈F4,x<w5:=Bw.ow_lt (F:=F4) (x:=⟨Zk.now,Zk.seq,Zk.shelf.set home rest,Zk.runs⟩) (s:=(⟨Ac ⟨g,o,Ab⟩,4,e1⟩,⟨Ac ⟨gr,orr,Ab⟩,m2,e2⟩)) oy4;have oy6:Bw.ow w6 F4 ⟨Zk.now,Zk.seq,Zk.shelf.set home rest,Zk.runs⟩ (⟨Ac ⟨g,o,Ab⟩,4,e1⟩,⟨Ac ⟨gr,orr,Ab⟩,m2,e2⟩):=owB oy4 b6';obtain ⟨F8,oy8,kZ,fT⟩:=Oy oy6 (k:=j) hj (r:=Eo r t Zk.now) (sr:=sr) orn (fun x hx bI=>by have h1:=mW x hx;have h2:=jN x bI;omega);have jP:Chg [gr] w6 ((((((((w6.setCell ⟨gr,orr+j * 8,Ab⟩ (J U (Eo r t Zk.now).id)).setCell ⟨gr,orr+j * 8+1,Ab⟩ (J U (Eo r t Zk.now).plan.prio)).setCell ⟨gr,orr+j * 8+2,Ab⟩ (J U (Eo r t Zk.now).plan.most)).setCell ⟨gr,orr+j * 8+3,Ab⟩ (J U (Eo r t Zk.now).plan.wait)).setCell ⟨gr,orr+j * 8+4,Ab⟩ (J U (Eo r t Zk.now).plan.tasks)).setCell ⟨gr,orr+j * 8+5,Ab⟩ (Aa sr.1.a sr.1.n sr.1.c)).setCell ⟨gr,orr+j * 8+6,Ab⟩ (J U (Eo r t Zk.now).state)).setCell ⟨gr,orr+j * 8+7,Ab⟩ (Aa sr.2.a sr.2.n sr.2.c)):=I6 (Cf.enc.cells ((Eo r t Zk.now),sr)) w6 gr (orr+j * 8);have cV:=Br (show ∀ x,x∈[gr]->x=gr from fun x hx=>by simpa using hx);have nK:=gZ gr fT;have hobgr:ob≠gr:=fun h=>by
     rcases nK with h1 | h1
     ·exact hF.out.2.1 (by rw [h];exact h1)
     ·omega
    have hebgr:eb≠gr:=fun h=>by
     rcases nK with h1 | h1
     ·have:=qC _ h1;omega
     ·omega
    have jM:w+1+1<gr:=by
     rcases nK with h1 | h1
     ·exact hF.out.1 _ h1
     ·omega
    clear OB_0 OB_1 OB_2 OB_3 OB_l;clear EB_0 EB_1 EB_2 EB_3 EB_l;replace OB:=(OB.below b6').chg jP (fun hx=>hobgr (cV.out _ hx));replace EB:=(EB.below b6').chg jP (fun hx=>hebgr (cV.out _ hx));replace RES:=(RES.below b6').chg jP (fun hx=>by have:=cV.out _ hx;omega);replace RP:=(RP.below b6').chg jP (fun hx=>by have:=cV.out _ hx;omega);replace aK:=(Bv aK b6').trans (jP.below (by have:=(Bv aK b6').size;omega) (fun x hx=>by have:=cV.out _ hx;omega));have fD:∀ x∈F8,x∈F4\/w5<=x:=fun x hx=>(kZ x hx).imp id (fun h=>mW x h);clear hHeld oy4 oy6 b6 b6' nr orn jP CSt c0 c1 c2 c3 c4 c5 c6 c7 jG q0 q1 q2 q3 q4 q5 q6 q7 qf;generalize ((((((((w6.setCell ⟨gr,orr+j * 8,Ab⟩ (J U (Eo r t Zk.now).id)).setCell ⟨gr,orr+j * 8+1,Ab⟩ (J U (Eo r t Zk.now).plan.prio)).setCell ⟨gr,orr+j * 8+2,Ab⟩ (J U (Eo r t Zk.now).plan.most)).setCell ⟨gr,orr+j * 8+3,Ab⟩ (J U (Eo r t Zk.now).plan.wait)).setCell ⟨gr,orr+j * 8+4,Ab⟩ (J U (Eo r t Zk.now).plan.tasks)).setCell ⟨gr,orr+j * 8+5,Ab⟩ (Aa sr.1.a sr.1.n sr.1.c)).setCell ⟨gr,orr+j * 8+6,Ab⟩ (J U (Eo r t Zk.now).state)).setCell ⟨gr,orr+j * 8+7,Ab⟩ (Aa sr.2.a sr.2.n sr.2.c))=w8 at *
    replace oy8:Bw.ow w8 F8 ⟨Zk.now,Zk.seq,Zk.shelf.set home rest,Zk.runs.set j (Eo r t Zk.now)⟩ (⟨Ac ⟨g,o,Ab⟩,4,e1⟩,⟨Ac ⟨gr,orr,Ab⟩,m2,e2⟩):=oy8;have hjs:j<(Zk.runs.set j (Eo r t Zk.now)).length:=by rw [Bh];exact hj
    have oyk:=oy8;obtain ⟨G1,G2,sP,_,_,os8⟩:=oyk;obtain ⟨⟨sx1,⟨tva,tn2,tc2⟩⟩,Fx,hxo,bI,_,_,_,pY⟩:=OwL.elem (show OwL Cf w8 G2 (Aa (Ac ⟨gr,orr,Ab⟩) m2 e2) (Zk.runs.set j (Eo r t Zk.now)) from os8) hjs;have cT:w8.cell? ⟨gr,orr+j * 8+7,Ab⟩=Ac (Aa tva tn2 tc2):=pY 7 _ rfl;rw [List.getElem_set_self] at hxo;obtain ⟨H1,H2,hHH,_,_,ot8⟩:=hxo;have oh8:=N1 (show OwL C8 w8 H2 (Aa tva tn2 tc2) (Eo r t Zk.now).tasks from ot8);have hgr8:gr<w8:=by have:=Bw.ow_lt (F:=F8) (x:=⟨Zk.now,Zk.seq,Zk.shelf.set home rest,Zk.runs.set j (Eo r t Zk.now)⟩) (s:=(⟨Ac ⟨g,o,Ab⟩,4,e1⟩,⟨Ac ⟨gr,orr,Ab⟩,m2,e2⟩)) oy8 gr (by rw [sP];exact Be _ (OwL.block_mem (show OwL Cf w8 G2 (Aa (Ac ⟨gr,orr,Ab⟩) m2 e2) _ from os8) (Nat.lt_of_le_of_lt (Ag _) hjs)));exact this
    have htn2:tn2=r.tasks.length:=(RdL.at1 (s:=⟨tva,tn2,tc2⟩) (show OwL C8 w8 H2 (Aa tva tn2 tc2) (Eo r t Zk.now).tasks from ot8).rd).trans (N4 _ _ _);have kF:(t:Int)<(tn2:Int):=Bl;have gW:(0:Int)<=(t:Int):=Bl;have hts:t<(Eo r t Zk.now).tasks.length:=by rw [N4];exact fA
    obtain ⟨gt,ot2,rfl,hgt,-,-,cY,-⟩:=oh8.rd.tsk hts;have hgtF:gt∈F8:=by
     have h1:=(oh8.block Bl).1;rw [sP];refine Be _ (bI _ ?_);rw [hHH,h1];exact Be _ (Au.2 rfl)
    have hty:=Ad7 r t Zk.now fA;rw [hty] at cY;have hobw8:ob<w8:=OB.lt;have hebw8:eb<w8:=EB.lt;have en1:w.heap.size+1∉F8:=fun hx=>by
     exact Akn
    have en2:w.heap.size+1+1∉F8:=fun hx=>by
     exact Akn
    have nA:∀ x∈F8,w<=x:=fun x hx=>by
     exact Akn
    have HFF:=Br (show Jd y (wk:Int) d=((⟨Zk.now,Zk.seq,Zk.shelf.set home rest,Zk.runs.set j (Eo r t Zk.now)⟩:Yard),(⟨0,rn,t,r.tasks[t].try_+1⟩:Reply)) by rw [HF.out,sL]);have gn1:gt≠w.heap.size+1:=fun h=>en1 (by rw [<-h];exact hgtF);have gn2:gt≠w.heap.size+1+1:=fun h=>en2 (by rw [<-h];exact hgtF);clear HF hty gZ fD kZ mW jN fF vF qC sL;go_wp2;refine Go.wp_region_noPanic ?_;refine wp_region_held_drew (S:=(fun w'=>DBox ob [J U Zk.now,J U Zk.seq,Aa (Ac ⟨g,o,Ab⟩) 4 e1,Aa (Ac ⟨gr,orr,Ab⟩) m2 e2] w'/\DBox eb [J U pr,J U sq,J U rn,J U (t:Int)] w'/\w'.cell? ⟨gr,orr+j * 8+7,Ab⟩=Ac (Aa (Ac ⟨gt,ot2,Ab⟩) tn2 tc2)/\w'.cell? ⟨gt,ot2+t * 4+2,Ab⟩=Ac (J U (r.tasks[t].try_+1)))) Bm ⟨DBox.drew4 OB,DBox.drew4 EB,cT,cY⟩ (fun hHeld=>?_);replace oy8:Bw.ow w8.drew F8 ⟨Zk.now,Zk.seq,Zk.shelf.set home rest,Zk.runs.set j (Eo r t Zk.now)⟩ (⟨Ac ⟨g,o,Ab⟩,4,e1⟩,⟨Ac ⟨gr,orr,Ab⟩,m2,e2⟩):=owB oy8 (Bs _ _).drew;replace RES:DBox _ _ w8.drew:=DBox.drew4 RES;replace RP:DBox _ _ w8.drew:=DBox.drew4 RP;replace aK:=aK.drew;have pC:w8.drew.heap.size=w8.heap.size:=rfl;rw [<-pC] at hgr8 hgt;clear OB EB cT cY pC oh8 ot8 pY bI os8 hobw8 hebw8 hgtF;generalize w8.drew=w8d at *
    refine tV 0 ?_
    (try simp only [pS])
    refine tV 1 ?_
    (try simp only [pS])
    refine tV 2 ?_
    (try simp only [pS])
    refine tV 3 ?_
    (try simp only [pS])
    refine tV 4 ?_
    (try simp only [pS])
    refine tV 5 ?_
    (try simp only [pS])
    refine tV 6 ?_
    (try simp only [pS])
    refine tV 7 ?_
    (try simp only [pS])
    refine tV 8 ?_
    (try simp only [pS])
    refine tV 9 ?_
    (try simp only [pS])
    refine tV 10 ?_
    (try simp only [pS])
    refine tV 11 ?_
    (try simp only [pS])
    refine tV 12 ?_
    (try simp only [pS])
    refine tV 13 ?_
    (try simp only [pS])
    refine tV 14 ?_
    (try simp only [pS])
    refine tV 15 ?_
    (try simp only [pS])
    refine tV 16 ?_
    (try simp only [pS])
    have RES_0:=RES.cell 0 _ rfl;have RES_1:=RES.cell 1 _ rfl;have RES_2:=RES.cell 2 _ rfl;have RES_3:=RES.cell 3 _ rfl;have RP_0:=RP.cell 0 _ rfl;have RP_1:=RP.cell 1 _ rfl;have RP_2:=RP.cell 2 _ rfl;have RP_3:=RP.cell 3 _ rfl;have rf:=RES.free;have pf:=RP.free;have bZ:=Br (show ∀ x,x∈[w.heap.size+1]->x=w.heap.size+1 from fun x hx=>by simpa using hx);have hm2':=Br (show ∀ x,x∈[w.heap.size+1+1]->x=w.heap.size+1+1 from fun x hx=>by simpa using hx);have fI:=Chg.cells4 w8d (w+1) 0 1 2 3 (J U Zk.now) (J U Zk.seq) (Aa (Ac ⟨g,o,Ab⟩) 4 e1) (Aa (Ac ⟨gr,orr,Ab⟩) m2 e2);refine rC 17 (fun K_ hK=>?_);go_simp;have hS1:=fI.size;have RES2:=DBox.row4 RES rfl (J U Zk.now) (J U Zk.seq) (Aa (Ac ⟨g,o,Ab⟩) 4 e1) (Aa (Ac ⟨gr,orr,Ab⟩) m2 e2);have RP2:=RP.chg fI (fun hx=>by have:=bZ.out _ hx;omega);replace oy8:Bw.ow _ F8 ⟨Zk.now,Zk.seq,Zk.shelf.set home rest,Zk.runs.set j (Eo r t Zk.now)⟩ (⟨Ac ⟨g,o,Ab⟩,4,e1⟩,⟨Ac ⟨gr,orr,Ab⟩,m2,e2⟩):=owC oy8 fI (fun x hx hx2=>by have h1:=bZ.out _ hx2;subst h1;exact en1 hx);replace aK:=aK.trans (fI.below (by have:=aK.size;omega) (fun x hx=>by have:=bZ.out _ hx;omega));refine hK.out _ _ ⟨hHeld.1.chg fI (fun hx=>by have:=bZ.out _ hx;omega),hHeld.2.1.chg fI (fun hx=>by have:=bZ.out _ hx;omega),(fI.cell (p:=⟨gr,_,Ab⟩) (by show gr<w8d;omega) (fun hx=>by have:gr=w.heap.size+1:=bZ.out _ hx;omega)).trans hHeld.2.2.1,(fI.cell (p:=⟨gt,_,Ab⟩) (by show gt<w8d;omega) (fun hx=>by have:gt=w.heap.size+1:=bZ.out _ hx;omega)).trans hHeld.2.2.2⟩ (fun hHeld=>?_);clear hK K_ rf pf RES_0 RES_1 RES_2 RES_3 RP_0 RP_1 RP_2 RP_3 fI
    (try simp only [pS])
    generalize (((w8d.setCell ⟨w+1,0,Ab⟩ (J U Zk.now)).setCell ⟨w+1,1,Ab⟩ (J U Zk.seq)).setCell ⟨w+1,2,Ab⟩ (Aa (Ac ⟨g,o,Ab⟩) 4 e1)).setCell ⟨w+1,3,Ab⟩ (Aa (Ac ⟨gr,orr,Ab⟩) m2 e2)=w9 at *
    have RP_0:=RP2.cell 0 _ rfl;have RP_1:=RP2.cell 1 _ rfl;have RP_2:=RP2.cell 2 _ rfl;have RP_3:=RP2.cell 3 _ rfl;have pf:=RP2.free;have gG:=Chg.cells4 w9 (w+1+1) 0 1 2 3 (J U 0) (J U rn) (J U (t:Int)) (J U (r.tasks[t].try_+1));refine rC 18 (fun K_ hK=>?_);go_simp;refine hK.out _ _ ⟨hHeld.1.chg gG (fun hx=>by have:=hm2'.out _ hx;omega),hHeld.2.1.chg gG (fun hx=>by have:=hm2'.out _ hx;omega),(gG.cell (p:=⟨gr,_,Ab⟩) (by show gr<w9;have:=hS1;omega) (fun hx=>by have:gr=w.heap.size+1+1:=hm2'.out _ hx;omega)).trans hHeld.2.2.1,(gG.cell (p:=⟨gt,_,Ab⟩) (by show gt<w9;have:=hS1;omega) (fun hx=>by have:gt=w.heap.size+1+1:=hm2'.out _ hx;omega)).trans hHeld.2.2.2⟩ (fun hHeld=>?_);clear hK K_ hHeld
    (try simp only [pS])
    refine Al Bm ?_ _;refine NoPanic.normal ?_;have RES3:=RES2.chg gG (fun hx=>by have:=hm2'.out _ hx;omega);have RP3:=DBox.row4 RP2 rfl (J U 0) (J U rn) (J U (t:Int)) (J U (r.tasks[t].try_+1));replace oy8:Bw.ow _ F8 ⟨Zk.now,Zk.seq,Zk.shelf.set home rest,Zk.runs.set j (Eo r t Zk.now)⟩ (⟨Ac ⟨g,o,Ab⟩,4,e1⟩,⟨Ac ⟨gr,orr,Ab⟩,m2,e2⟩):=owC oy8 gG (fun x hx hx2=>by have h1:=hm2'.out _ hx2;subst h1;exact en2 hx);replace aK:=aK.trans (gG.below (by have:=aK.size;omega) (fun x hx=>by have:=hm2'.out _ hx;omega));clear RP_0 RP_1 RP_2 RP_3 pf;go_wp2;exact Aj (Rl RES3 RP3) rfl ⟨(⟨Ac ⟨g,o,Ab⟩,4,e1⟩,⟨Ac ⟨gr,orr,Ab⟩,m2,e2⟩),F8,by rw [HFF.out],by rw [HFF.out];exact oy8,nA,aK⟩
theorem Ad8 {b:Nat} {w:World} {u0 u1 u2 u3 u4 u5 u6 u7 v5:Value} (X:DBox b [u0,u1,u2,u3,u4,u5,u6,u7] w) {v0 v1 v2 v3:Value} {rest:List Value} :
  (results Tryz.f239 (v0 :: v1 :: v2 :: v3 :: .pointer (Ac ⟨b,0,Ab⟩) :: v5 :: rest).toArray).run Am w = .ok (.tuple #[.agg #[u0,u1,u2,u3,u4,u5,u6,u7],v5]) w:=by
 have c0:=X.cell 0 _ rfl;have c1:=X.cell 1 _ rfl;have c2:=X.cell 2 _ rfl;have c3:=X.cell 3 _ rfl;have c4:=X.cell 4 _ rfl;have c5:=X.cell 5 _ rfl;have c6:=X.cell 6 _ rfl;have c7:=X.cell 7 _ rfl;simp [results,results239,go_sem,c0,c1,c2,c3,c4,c5,c6,c7]
theorem Oz {α:Type} (f:Nat->α) (k:Nat):(List.range (k+1)).map f=(List.range k).map f ++ [f k]:=by rw [List.range_succ,List.map_append];rfl
def Aex (r:Run) (w:World) (e:Ending) (w':World):Prop :=
 ∃ s F,e = .returned (.tuple #[G7 r s,.bool true])/\Cf.ow w' F r s/\(∀ b∈F,w<=b)/\Below w w w'
theorem Wa (id:Int) (p:Plan) (s:Sl) (w:World) (hid:inB id 1 9999=true) (hf:Cr p=0) (h:Ce.rd w w p s) :
  Calls Am 239 #[J U id,Jo p s] w (Aex (Cl id p) w):=by
 have kA:=Dl.1 hf;have hT:=Er kA.1;have hE:=Fw kA.1;obtain ⟨A,n,c⟩:=s;obtain rfl:n=p.edges.length:=RdL.at1 (s:=⟨A,n,c⟩) h;have rP:=Br (fun W (hW:Below w w W)=>((I2 h).below hW).more hW.size);have CP:=Br (fun W (hW:Below w w W)=>Nf p ⟨A,p.edges.length,c⟩ W (by unfold Ec;rw [Fh (cnt:=Ei) (fun _=>rfl)];omega) (Ce.rd_more (Ce.rd_below h hW) hW.size));have CF:=Br (fun W (hW:Below w w W)=>J7 p (Aa A p.edges.length c) W Bl (rP.out W hW));have CB:=Br (fun W (hW:Below w w W) t=>Ol p (Aa A p.edges.length c) t W kA.1 kA.2.1 kA.2.2.1 (rP.out W hW));rw [hf] at CF;obtain ⟨i0,aQ,aU,aS,aR⟩:=info_parts Pi;clear h kA hE hf;have X:=(DBox.new 43 [J U p.prio,J U p.most,J U p.wait,J U p.tasks,Aa A p.edges.length c] w (b:=w) rfl).below ((Bs _ _).alloc (Bt _) (.cells #[J U 0,J U 0,J U 0,J U 0,J U 0,Aa Ab 0 0,J U 0,Aa Ab 0 0] 67));have RES:=DBox.new 67 [J U 0,J U 0,J U 0,J U 0,J U 0,Aa Ab 0 0,J U 0,Aa Ab 0 0] (w.alloc (.cells #[J U p.prio,J U p.most,J U p.wait,J U p.tasks,Aa A p.edges.length c] 43)) (b:=w+1) Bo;have B0:Below w w ((w.alloc (.cells #[J U p.prio,J U p.most,J U p.wait,J U p.tasks,Aa A p.edges.length c] 43)).alloc (.cells #[J U 0,J U 0,J U 0,J U 0,J U 0,Aa Ab 0 0,J U 0,Aa Ab 0 0] 67)):=by repeat (first | exact Bs _ _ | refine Below.alloc ?_ Bp _)
 go_enter func239,ntmps239;go_wp2_with (go_at_call 90;refine (Cd _ _ _ _).mono ?_;rintro e w9 ⟨rfl,rfl⟩;rw [hid])
 generalize ((w.alloc (.cells #[J U p.prio,J U p.most,J U p.wait,J U p.tasks,Aa A p.edges.length c] 43)).alloc (.cells #[J U 0,J U 0,J U 0,J U 0,J U 0,Aa Ab 0 0,J U 0,Aa Ab 0 0] 67))=W at *
 refine (CF.out _ B0).mono ?_;rintro e1 w1 ⟨rfl,b1⟩;have eC:=RES.lt;replace X:=X.below b1;replace RES:=RES.below b1;obtain ⟨X_0,X_1,X_2,X_3,X_4,X_l⟩:=X.g5;have B1:=Bv B0 b1;have bE:=b1.size;clear B0 b1;go_wp2_with fail
 refine (CP.out _ B1).mono ?_;rintro e1 w2 ⟨⟨A3,n3,c3⟩,F,rfl,op,nF,b2⟩;clear X_0 X_1 X_2 X_3 X_4 X_l;replace X:=X.below b2;replace RES:=RES.below b2;have B2:=Bv B1 b2;have eB:=b2.size;have cS:=Ce.ow_lt op;clear B1 b2 CP CF;obtain ⟨X_0,X_1,X_2,X_3,X_4,X_l⟩:=X.g5;go_upto_region 4 with fail
 have RB:=DBox.new 67 [J U id,J U p.prio,J U p.most,J U p.wait,J U p.tasks,Aa A3 n3 c3,J U 1,Aa Ab 0 0] w2 (b:=w2) rfl;have b3:Below w2 w2 (w2.alloc (.cells #[J U id,J U p.prio,J U p.most,J U p.wait,J U p.tasks,Aa A3 n3 c3,J U 1,Aa Ab 0 0] 67)):=Bu;clear X_0 X_1 X_2 X_3 X_4 X_l;replace X:=X.below b3;replace RES:=RES.below b3;replace op:=Ce.ow_below op b3;have B3:=Bv B2 b3;have kT:=b3.size;have hRB:=RB.lt;generalize w2.alloc (.cells #[J U id,J U p.prio,J U p.most,J U p.wait,J U p.tasks,Aa A3 n3 c3,J U 1,Aa Ab 0 0] 67)=w3 at *
 generalize vQ:w2.heap.size=rb at *
 have cA:∀ x∈F,w+1<x/\x<rb:=fun x hx=>⟨by have:=nF x hx;omega,cS x hx⟩
 clear cS nF B2 b3;obtain ⟨T,tH⟩:∃ T:Nat,p.tasks=T:=⟨p.tasks.toNat,Bl⟩
 have nE:=Br tH;have qY:=Br (show p.tasks.toNat=T by omega);have fR:T<=12:=Bl;clear tH;have hH:Hid (Cl id p=⟨id,p,1,(List.range T).map (Eu p)⟩):=by
  show Cl id p=_;unfold Cl;rw [qY.out]
 go_wp2;go_loopw [7] (fun i wr=>∃ (k:Nat) (vt:Value),k<=T/\i = J U k/\Hid (Ow Ge 203 wr (rb+1) vt ((List.range k).map (Eu p)))/\DBox w [J U p.prio,J U p.most,J U p.wait,J U p.tasks,Aa A p.edges.length c] wr/\DBox (w+1) [J U 0,J U 0,J U 0,J U 0,J U 0,Aa Ab 0 0,J U 0,Aa Ab 0 0] wr/\DBox rb [J U id,J U p.prio,J U p.most,J U p.wait,J U p.tasks,Aa A3 n3 c3,J U 1,vt] wr/\Hid (Ce.ow wr F p ⟨A3,n3,c3⟩)/\Below w w wr/\rb<wr) (fun i _=>T - (intOf i).toNat);case atStart=>exact ⟨0,_,Ag _,rfl,Ow.nil Ge 203 w3 (rb+1),X,RES,RB,op,B3,hRB⟩
 case round =>
  clear X RES RB op B3;obtain ⟨k,vt,hk,rfl,ho,X,RES,RB,op,hb,bK⟩:=hrel;obtain ⟨X_0,X_1,X_2,X_3,X_4,X_l⟩:=X.g5;obtain ⟨RB_0,RB_1,RB_2,RB_3,RB_4,RB_5,RB_6,RB_7,RB_l⟩:=RB.g8;by_cases aA:k<T
  ·exact Af
  ·have aB:¬ (k:Int)<p.tasks:=by have:=nE.out;omega
   have hkT:k=T:=Bl;subst hkT;have rf:=RES.free;have RES_0:=RES.cell 0 _ rfl;have RES_1:=RES.cell 1 _ rfl;have RES_2:=RES.cell 2 _ rfl;have RES_3:=RES.cell 3 _ rfl;have RES_4:=RES.cell 4 _ rfl;have RES_5:=RES.cell 5 _ rfl;have RES_6:=RES.cell 6 _ rfl;have RES_7:=RES.cell 7 _ rfl;have ho1:=ho.out;obtain ⟨⟨ta,tn,tc⟩,Ft,rfl,ot,nt⟩:=Uc ho1;go_wp2;have e1:w.heap.size+1∉F:=fun hx=>by have:=cA _ hx;omega
   have e2:w.heap.size+1∉Ft:=fun hx=>by have:=nt _ hx;omega
   refine Aj (Ad8 (DBox.row8 RES rfl _ _ _ _ _ _ _ _)) rfl ⟨(⟨A3,n3,c3⟩,⟨ta,tn,tc⟩),F ++ Ft,by rw [hH.out],⟨F,Ft,rfl,?_,?_,?_⟩,?_,?_⟩
   ·exact Alw
   ·exact Al5
   ·exact Ajk
   ·intro x hx;rcases List.mem_append.1 hx with hx | hx
    ·have:=cA x hx;omega
    ·have:=nt x hx;have:=bE;omega
   ·repeat (first | (with_reducible exact hb) | refine Ad ?_ Bp _)
end Go.Proofs.YtecnbnbopcblgaaGreat
