/-
  Data of the type Deed: how it lies in memory, and the walks of the laws' helpers on it. Written by program (deep.py). slices.Index, slices.Contains at ints; all
-/
import Derived.Test.YtonlnjdempbfoaaGreatZSl0
import Derived.Test.YtonlnjdempbfoaaGreatZSl1
import Derived.Test.YtonlnjdempbfoaaGreatZSl2
import Derived.IntWalk
import Derived.Sort.OwnSortedInts
namespace Go.Proofs.YtonlnjdempbfoaaGreat
open Go.RowKit
set_option maxRecDepth 100000
set_option maxHeartbeats 4000000
set_option linter.unusedVariables false
set_option linter.unusedSimpArgs false
open Value renaming int->J,slice->Aa
open IntKind renaming i64->U
open Option renaming none->Ab,some->Ac
open Below renaming alloc->Ae
open Nat renaming zero_le->Ag,le_trans->Ah,lt_of_lt_of_le->Ai
open Go.Proofs.Tryz renaming prog->Am
open Int renaming toNat_natCast->Ao,eq_ofNat_of_zero_le->Ap
open List renaming length_map->Ar,getElem_mem->Aw,length_take->Az,length_append->Bd,take_of_length_le->Bg
open World renaming size_alloc->Bj,size_setCell->Bk
structure Deed where
 kind:Int
 run:Int
 plan:Plan
 task:Int
 try_:Int
 worker:Int
 draw:Int
deriving DecidableEq,Inhabited
@[go_sem] abbrev Cy (x:Deed) (s:Sl):Value:=.agg #[.int .i64 x.kind,.int .i64 x.run,.int .i64 x.plan.prio,.int .i64 x.plan.most,.int .i64 x.plan.wait,.int .i64 x.plan.tasks,.slice s.a s.n s.c,.int .i64 x.task,.int .i64 x.try_,.int .i64 x.worker,.int .i64 x.draw]
abbrev Cg:Dt Deed:=Dt.via Ca (·.plan) (fun q=>[.int .i64 q.1.kind,.int .i64 q.1.run,.int .i64 q.1.plan.prio,.int .i64 q.1.plan.most,.int .i64 q.1.plan.wait,.int .i64 q.1.plan.tasks,.slice q.2.a q.2.n q.2.c,.int .i64 q.1.task,.int .i64 q.1.try_,.int .i64 q.1.worker,.int .i64 q.1.draw]) 11 (fun _=>rfl) (fun q u hu=>by simp at hu;rcases hu with rfl | rfl | rfl | rfl | rfl | rfl | rfl | rfl | rfl | rfl | rfl<;>rfl)
def Cm (x:Deed):Nat:=Eb x.plan
def Nd (x:Deed):Prop:=Wf x.kind/\Wf x.run/\Aar x.plan/\Wf x.task/\Wf x.try_/\Wf x.worker/\Wf x.draw
def D8 (x:Deed):Nat:=10+En Cq x.plan.edges
def K4 (k:Int) (x:Deed):Deed:=⟨k,k+1,⟨k+1+1,k+1+1+1,k+1+1+1+1,k+1+1+1+1+1,mkL Kf Cq (k+1+1+1+1+1+1) x.plan.edges⟩,k+1+1+1+1+1+1+(En Cq x.plan.edges:Nat),k+1+1+1+1+1+1+(En Cq x.plan.edges:Nat)+1,k+1+1+1+1+1+1+(En Cq x.plan.edges:Nat)+1+1,k+1+1+1+1+1+1+(En Cq x.plan.edges:Nat)+1+1+1⟩
theorem Mj (x:Deed):D8 x<=13 * (Cm x+1):=by
 have h0:=J8 (num:=Cq) (cnt:=D4) (K:=13) K3 x.plan.edges;unfold D8 Cm Eb;omega
theorem Aav (x:Deed) (s:Sl) (w:World) (hl:Cm x<=2000000) (h:Cg.rd w w x s) :
  Calls Am 81 #[Cy x s] w (Di Cg Cy x w):=by
 have cW:∀ W,Below w w W->Cg.rd W W x s:=fun W hW=>Cg.rd_more (Cg.rd_below h hW) hW.size;go_enter Tryz.func81,Tryz.ntmps81;go_wp2_with fail
 refine (Aas x.plan s _ (by unfold Cm at hl;omega) ((cW _ (by repeat (first | exact Br _ _ | refine Ae ?_ Bo _))))).mono ?_;rintro e w0 ⟨s0,F0,rfl,o0,n0,bS⟩;obtain ⟨q0,p0⟩:=Lg bS;have z0:=bS.size;simp only [Bj,Bk] at z0 n0;have B0:Below w w w0:=Bt (by repeat (first | exact Br _ _ | refine Ae ?_ Bo _)) bS;go_wp2;refine bodyPost_ret (v:=Cy x s0) ?_ rfl ?_
 ·simp [Cy,results,Tryz.results81,go_sem,q0]
 ·refine ⟨s0,F0,rfl,?_,?_,?_⟩
  ·repeat (first | (with_reducible exact o0) | refine Dt.ow_set _ ?_ (by intro hm;have:=n0 _ hm;(try simp only [Bj,Bk] at this);omega) _)
  ·intro b hb
   have:=n0 b hb
   omega
  ·repeat (first | (with_reducible exact B0) | (with_reducible exact Br _ _) | refine Below.setCell ?_ Bo _ | refine Ae ?_ Bo _)
theorem Aaw (x y:Deed) (s r:Sl) (w:World) (hl:Cm x<=2000000) (hl':Cm y<=2000000) (h:Cg.rd w w x s) (h':Cg.rd w w y r) :
  Calls Am 82 #[Cy x s,Cy y r] w fun e w'=>e = .returned (.bool (decide (x=y)))/\Below w w w':=by
 have cW:∀ W,Below w w W->Cg.rd W W x s:=fun W hW=>Cg.rd_more (Cg.rd_below h hW) hW.size;have cM:∀ W,Below w w W->Cg.rd W W y r:=fun W hW=>Cg.rd_more (Cg.rd_below h' hW) hW.size;by_cases h0:x.kind=y.kind;case neg =>
  have t0:(x.kind != y.kind)=true:=by rw [bne_iff_ne];exact h0
  have H:=Bq (show decide (x=y)=false by simp only [decide_eq_false_iff_not];intro e;exact h0 (by rw [e]));clear h0;go_enter Tryz.func82,Tryz.ntmps82;go_wp2;go_ret;exact ⟨Bv (by first | exact H.out.symm | rfl),by repeat (first | exact Br _ _ | refine Ae ?_ Bo _)⟩
 have t0:(x.kind != y.kind)=false:=by simp [h0]
 have H0:=Bq h0;clear h0;by_cases h1:x.run=y.run;case neg =>
  have t1:(x.run != y.run)=true:=by rw [bne_iff_ne];exact h1
  have H:=Bq (show decide (x=y)=false by simp only [decide_eq_false_iff_not];intro e;exact h1 (by rw [e]));clear h1;go_enter Tryz.func82,Tryz.ntmps82;go_wp2;go_ret;exact ⟨Bv (by first | exact H.out.symm | rfl),by repeat (first | exact Br _ _ | refine Ae ?_ Bo _)⟩
 have t1:(x.run != y.run)=false:=by simp [h1]
 have H1:=Bq h1;clear h1;go_enter Tryz.func82,Tryz.ntmps82;go_wp2_with fail
 refine (Aat x.plan y.plan s r _ (by unfold Cm at hl;omega) (by unfold Cm at hl';omega) ((cW _ (by repeat (first | exact Br _ _ | refine Ae ?_ Bo _)))) ((cM _ (by repeat (first | exact Br _ _ | refine Ae ?_ Bo _))))).mono ?_;rintro e w2 ⟨rfl,aF⟩;have B2:Below w w w2:=Bt (by repeat (first | exact Br _ _ | refine Ae ?_ Bo _)) aF;obtain ⟨q2,p2⟩:=Lg aF;by_cases h2:x.plan=y.plan;case neg =>
  have H:=Bq (show decide (x=y)=false by simp only [decide_eq_false_iff_not];intro e;exact h2 (by rw [e]));rw [decide_eq_false h2];clear h2;go_wp2;go_ret;exact ⟨Bv (by first | exact H.out.symm | rfl),by exact B2⟩
 rw [decide_eq_true h2];have H2:=Bq h2;clear h2;by_cases h3:x.task=y.task;case neg =>
  have t3:(x.task != y.task)=true:=by rw [bne_iff_ne];exact h3
  have H:=Bq (show decide (x=y)=false by simp only [decide_eq_false_iff_not];intro e;exact h3 (by rw [e]));clear h3;go_wp2;go_ret;exact ⟨Bv (by first | exact H.out.symm | rfl),by exact B2⟩
 have t3:(x.task != y.task)=false:=by simp [h3]
 have H3:=Bq h3;clear h3;by_cases h4:x.try_=y.try_;case neg =>
  have t4:(x.try_ != y.try_)=true:=by rw [bne_iff_ne];exact h4
  have H:=Bq (show decide (x=y)=false by simp only [decide_eq_false_iff_not];intro e;exact h4 (by rw [e]));clear h4;go_wp2;go_ret;exact ⟨Bv (by first | exact H.out.symm | rfl),by exact B2⟩
 have t4:(x.try_ != y.try_)=false:=by simp [h4]
 have H4:=Bq h4;clear h4;by_cases h5:x.worker=y.worker;case neg =>
  have t5:(x.worker != y.worker)=true:=by rw [bne_iff_ne];exact h5
  have H:=Bq (show decide (x=y)=false by simp only [decide_eq_false_iff_not];intro e;exact h5 (by rw [e]));clear h5;go_wp2;go_ret;exact ⟨Bv (by first | exact H.out.symm | rfl),by exact B2⟩
 have t5:(x.worker != y.worker)=false:=by simp [h5]
 have H5:=Bq h5;clear h5;by_cases h6:x.draw=y.draw;case neg =>
  have t6:(x.draw != y.draw)=true:=by rw [bne_iff_ne];exact h6
  have H:=Bq (show decide (x=y)=false by simp only [decide_eq_false_iff_not];intro e;exact h6 (by rw [e]));clear h6;go_wp2;go_ret;exact ⟨Bv (by first | exact H.out.symm | rfl),by exact B2⟩
 have t6:(x.draw != y.draw)=false:=by simp [h6]
 have H6:=Bq h6;clear h6;have H:=Bq (show decide (x=y)=true by
  simp only [decide_eq_true_eq];have hh:=And.intro H0.out (And.intro H1.out (And.intro H2.out (And.intro H3.out (And.intro H4.out (And.intro H5.out H6.out)))));obtain ⟨e0,e1,e2,e3,e4,e5,e6⟩:=hh;cases x;cases y;simp only at e0 e1 e2 e3 e4 e5 e6;subst e0 e1 e2 e3 e4 e5 e6;rfl)
 go_wp2;go_ret;exact ⟨Bv (by first | exact H.out.symm | rfl),by exact B2⟩
theorem Aax (x:Deed) (s:Sl) (left:Int) (w:World) (h0:0<=left) (h1:left<=2000000) (hw:Nd x) (h:Cg.rd w w x s) :
  Calls Am 77 #[Cy x s,J U left] w (Wj left (Cm x) w):=by
 have cW:∀ W,Below w w W->Cg.rd W W x s:=fun W hW=>Cg.rd_more (Cg.rd_below h hW) hW.size;go_enter Tryz.func77,Tryz.ntmps77;go_wp2_with fail
 refine (Aau x.plan s left _ Bl Bl hw.2.2.1 ((cW _ (by repeat (first | exact Br _ _ | refine Ae ?_ Bo _))))).mono ?_;rintro e w0 ⟨r0,rfl,pB,bS⟩;have B0:Below w w w0:=Bt (by repeat (first | exact Br _ _ | refine Ae ?_ Bo _)) bS;obtain ⟨q0,p0⟩:=Lg bS;rcases pB with rfl | ⟨y0,z0⟩
 ·go_wp2;go_ret;exact ⟨-1,rfl,.inl rfl,B0⟩
 go_wp2;go_ret;exact ⟨_,rfl,.inr ⟨Bl,by unfold Cm;omega⟩,B0⟩
theorem RdL.deed {w:World} {B:Nat} {A:Option Addr} {n c:Nat} {l:List (Deed)} (h:RdL Cg w B (Aa A n c) l) {k:Nat} (hk:k<l.length) :
  ∃ b o,∃ s:Sl,A=Ac ⟨b,o,Ab⟩/\b<B/\Cg.rd w B l[k] s/\w.cell? ⟨b,o+k * 11,Ab⟩=Ac (J U l[k].kind)/\w.cell? ⟨b,o+k * 11+1,Ab⟩=Ac (J U l[k].run)/\w.cell? ⟨b,o+k * 11+2,Ab⟩=Ac (J U l[k].plan.prio)/\w.cell? ⟨b,o+k * 11+3,Ab⟩=Ac (J U l[k].plan.most)/\w.cell? ⟨b,o+k * 11+4,Ab⟩=Ac (J U l[k].plan.wait)/\w.cell? ⟨b,o+k * 11+5,Ab⟩=Ac (J U l[k].plan.tasks)/\w.cell? ⟨b,o+k * 11+6,Ab⟩=Ac (Aa s.a s.n s.c)/\w.cell? ⟨b,o+k * 11+7,Ab⟩=Ac (J U l[k].task)/\w.cell? ⟨b,o+k * 11+8,Ab⟩=Ac (J U l[k].try_)/\w.cell? ⟨b,o+k * 11+9,Ab⟩=Ac (J U l[k].worker)/\w.cell? ⟨b,o+k * 11+10,Ab⟩=Ac (J U l[k].draw):=by
 obtain ⟨b,o,s,rfl,hb,hc,hr⟩:=h.at_ k hk;exact ⟨b,o,s,rfl,hb,hr,hc 0 _ rfl,hc 1 _ rfl,hc 2 _ rfl,hc 3 _ rfl,hc 4 _ rfl,hc 5 _ rfl,hc 6 _ rfl,hc 7 _ rfl,hc 8 _ rfl,hc 9 _ rfl,hc 10 _ rfl⟩
theorem Ow.c_deed {E:TypeId} {w:World} {base g n cap:Nat} {l:List ((Deed)×Sl)} (h:Ow Cg.enc E w base (Aa (Ac ⟨g,0,Ab⟩) n cap) l) {k:Nat} (hk:k<l.length) :
  w.cell? ⟨g,k * 11,Ab⟩=Ac (J U l[k].1.kind)/\w.cell? ⟨g,k * 11+1,Ab⟩=Ac (J U l[k].1.run)/\w.cell? ⟨g,k * 11+2,Ab⟩=Ac (J U l[k].1.plan.prio)/\w.cell? ⟨g,k * 11+3,Ab⟩=Ac (J U l[k].1.plan.most)/\w.cell? ⟨g,k * 11+4,Ab⟩=Ac (J U l[k].1.plan.wait)/\w.cell? ⟨g,k * 11+5,Ab⟩=Ac (J U l[k].1.plan.tasks)/\w.cell? ⟨g,k * 11+6,Ab⟩=Ac (Aa l[k].2.a l[k].2.n l[k].2.c)/\w.cell? ⟨g,k * 11+7,Ab⟩=Ac (J U l[k].1.task)/\w.cell? ⟨g,k * 11+8,Ab⟩=Ac (J U l[k].1.try_)/\w.cell? ⟨g,k * 11+9,Ab⟩=Ac (J U l[k].1.worker)/\w.cell? ⟨g,k * 11+10,Ab⟩=Ac (J U l[k].1.draw):=by
 rcases h.form with ⟨h1,_⟩ | ⟨g',cap',hv,_,_,_,_,_,hc⟩
 ·simp at h1
 ·simp only [Value.slice.injEq,Option.some.injEq,Addr.mk.injEq,and_true] at hv;obtain ⟨rfl,_,_⟩:=hv;exact ⟨hc k hk 0 _ rfl,hc k hk 1 _ rfl,hc k hk 2 _ rfl,hc k hk 3 _ rfl,hc k hk 4 _ rfl,hc k hk 5 _ rfl,hc k hk 6 _ rfl,hc k hk 7 _ rfl,hc k hk 8 _ rfl,hc k hk 9 _ rfl,hc k hk 10 _ rfl⟩
theorem Foc.deed {w:World} {b o n c j:Nat} {rs:List ((Deed)×Sl)} {G1 Fx G2:List Nat} {x:Deed} {s:Sl} (h:Foc Cg w b o n c rs j G1 Fx G2 x s) :
  w.cell? ⟨b,o+j * 11,Ab⟩=Ac (J U x.kind)/\w.cell? ⟨b,o+j * 11+1,Ab⟩=Ac (J U x.run)/\w.cell? ⟨b,o+j * 11+2,Ab⟩=Ac (J U x.plan.prio)/\w.cell? ⟨b,o+j * 11+3,Ab⟩=Ac (J U x.plan.most)/\w.cell? ⟨b,o+j * 11+4,Ab⟩=Ac (J U x.plan.wait)/\w.cell? ⟨b,o+j * 11+5,Ab⟩=Ac (J U x.plan.tasks)/\w.cell? ⟨b,o+j * 11+6,Ab⟩=Ac (Aa s.a s.n s.c)/\w.cell? ⟨b,o+j * 11+7,Ab⟩=Ac (J U x.task)/\w.cell? ⟨b,o+j * 11+8,Ab⟩=Ac (J U x.try_)/\w.cell? ⟨b,o+j * 11+9,Ab⟩=Ac (J U x.worker)/\w.cell? ⟨b,o+j * 11+10,Ab⟩=Ac (J U x.draw):=⟨h.cells 0 _ rfl,h.cells 1 _ rfl,h.cells 2 _ rfl,h.cells 3 _ rfl,h.cells 4 _ rfl,h.cells 5 _ rfl,h.cells 6 _ rfl,h.cells 7 _ rfl,h.cells 8 _ rfl,h.cells 9 _ rfl,h.cells 10 _ rfl⟩
theorem Ys (l:List (Deed)) (s:Sl) (left:Int) (w:World) (h0:0<=left) (h1:left<=2000000) (hw:wfL Nd l) (h:RdL Cg w w s.v l) :
  Calls Am 28 #[Aa s.a s.n s.c,J U left] w (Wj left (E6 Cm l) w):=by
 obtain ⟨A,n,c⟩:=s;obtain ⟨A',c',hv,-⟩:=h.form;simp only [Sl.v,Value.slice.injEq] at hv;obtain ⟨rfl,rfl,rfl⟩:=hv;have cR:=hw.1;by_cases aA:left<l.length
 ·go_enter Tryz.func28,Tryz.ntmps28;go_wp2;go_ret;exact ⟨-1,rfl,.inl rfl,Br _ _⟩
 have Hw:=Bq hw;clear hw;go_enter Tryz.func28,Tryz.ntmps28;go_wp2;go_loopw [1,5] (fun t i wr=>∃ k:Nat,∃ m:Int,k<=l.length/\i = J U k/\t = J U m/\0<=m/\m+l.length+(((l.take k).map Cm).sum:Nat)<=left/\Below w w wr) (fun _ i _=>l.length - (intOf i).toNat);case atStart=>exact ⟨0,_,Ag _,rfl,rfl,Bl,Bo,Br _ _⟩
 case round =>
  obtain ⟨k,m,hk,rfl,rfl,m0,m1,hb⟩:=hrel;by_cases aA:k<l.length
  ·obtain ⟨b,o,s,rfl,aH,hr,c0,c1,c2,c3,c4,c5,c6,c7,c8,c9,c10⟩:=(h.below hb).deed aA;have hx:∀ W,Below wr wr W->Cg.rd W W l[k] s:=fun W hW=>Cg.rd_more (Cg.rd_below (Cg.rd_more hr hb.size) hW) hW.size;have hwk:Nd l[k]:=Hw.out.2 _ (Aw aA);have M1:=Bq m1;have m2:m<=2000000:=Bl;clear m1;go_wp2_with fail
   refine (Aax l[k] s m _ m0 m2 hwk (hx _ (by first | exact Br _ _ | exact (Br _ _).drew))).mono ?_;rintro e w1 ⟨r,rfl,hr,aN⟩;rcases hr with rfl | ⟨r0,r1⟩
   ·go_wp2;go_ret;exact ⟨-1,rfl,.inl rfl,Bt hb aN⟩
   ·go_wp2;refine ⟨⟨k+1,r,Bl,by go_num,rfl,r0,?_,Bt hb aN⟩,by simp [intOf];omega⟩;have M2:=M1.out;have r2:r+(Cm l[k]:Nat)<=m:=r1;rw [Iz _ _ _ aA];push_cast;omega
  ·go_wp2;go_ret;refine ⟨_,rfl,.inr ⟨Bl,?_⟩,hb⟩;rw [Bg Bl] at m1;unfold E6;push_cast;omega
theorem Lj (l l':List (Deed)) (s s':Sl) (w:World) (hl:E6 Cm l<=2000000) (hl':E6 Cm l'<=2000000) (h:RdL Cg w w s.v l) (h':RdL Cg w w s'.v l') :
  Calls Am 32 #[Aa s.a s.n s.c,Aa s'.a s'.n s'.c] w fun e w'=>e = .returned (.bool (decide (l=l')))/\Below w w w':=by
 obtain ⟨A,n,c⟩:=s;obtain ⟨A0,c0,hv,-⟩:=h.form;simp only [Sl.v,Value.slice.injEq] at hv;obtain ⟨rfl,rfl,rfl⟩:=hv;obtain ⟨A',n',c'⟩:=s';obtain ⟨A0,c0,hv,-⟩:=h'.form;simp only [Sl.v,Value.slice.injEq] at hv;obtain ⟨rfl,rfl,rfl⟩:=hv;have cR:l.length<=2000000:=Ah (Ck _ _) hl;have hll':l'.length<=2000000:=Ah (Ck _ _) hl';have gF:∀ k (hk:k<l.length),Cm l[k]<=2000000:=fun k hk=>by have:=Ds (cnt:=Cm) (Aw hk);omega
 have hcc':∀ k (hk:k<l'.length),Cm l'[k]<=2000000:=fun k hk=>by have:=Ds (cnt:=Cm) (Aw hk);omega
 clear hl hl';by_cases aC:l.length=l'.length
 ·have bS:((l.length:Int) != (l'.length:Int))=false:=by simp [aC]
  have Hne:=Bq aC;clear aC;go_enter Tryz.func32,Tryz.ntmps32;go_wp2;go_loopw [5] (fun i wr=>∃ k:Nat,k<=l.length/\i = J U k/\Hid (l.take k=l'.take k)/\Below w w wr) (fun i _=>l.length - (intOf i).toNat);case atStart=>exact ⟨0,Ag _,rfl,rfl,Br _ _⟩
  case round =>
   obtain ⟨k,hk,rfl,jW,hb⟩:=hrel;by_cases aA:k<l.length
   ·have eP:k<l'.length:=by rw [<-Hne.out];exact aA
    obtain ⟨b,o,s,rfl,aH,hr,c0,c1,c2,c3,c4,c5,c6,c7,c8,c9,c10⟩:=(h.below hb).deed aA;obtain ⟨b',o',s',rfl,bI,nX,d0,d1,d2,d3,d4,d5,d6,d7,d8,d9,d10⟩:=(h'.below hb).deed eP;have hx:∀ W,Below wr wr W->Cg.rd W W l[k] s:=fun W hW=>Cg.rd_more (Cg.rd_below (Cg.rd_more hr hb.size) hW) hW.size;have eH:∀ W,Below wr wr W->Cg.rd W W l'[k] s':=fun W hW=>Cg.rd_more (Cg.rd_below (Cg.rd_more nX hb.size) hW) hW.size;go_wp2;go_still_tail 8,Bm;go_wp2_with (go_at_call 82;refine (Aaw l[k] l'[k] s s' _ (gF k aA) (hcc' k eP) (hx _ (by first | exact Br _ _ | exact (Br _ _).drew)) (eH _ (by first | exact Br _ _ | exact (Br _ _).drew))).mono ?_;rintro e w1 ⟨rfl,aN⟩)
    ·rename_i hd;go_ret;refine ⟨Bv ?_,(hb.drew).trans (aN.mono hb.size)⟩;simp only [Bool.false_eq,decide_eq_false_iff_not];intro e;subst e;simp at hd
    ·rename_i hd;refine ⟨⟨k+1,Bl,by go_num,?_,(hb.drew).trans (aN.mono hb.size)⟩,by simp [intOf];omega⟩;show List.take (k+1) l=List.take (k+1) l';rw [Cn l k aA,Cn l' k eP,jW.out];simp at hd;rw [hd]
   ·go_wp2;go_ret;refine ⟨Bv ?_,hb⟩;have h1:=jW.out;rw [Bg Bl,Bg (by rw [<-Hne.out];omega)] at h1;simp [h1]
 ·have bS:((l.length:Int) != (l'.length:Int))=true:=by simp;omega
  go_enter Tryz.func32,Tryz.ntmps32;go_wp2;go_ret;refine ⟨Bv ?_,Br _ _⟩;simp only [Bool.false_eq,decide_eq_false_iff_not];intro e;exact aC (by rw [e])
theorem K5:(Am.info? 45).map (fun i=>(i.zero,i.size,i.bytes))=Ac (Ac (.agg #[J U 0,J U 0,J U 0,J U 0,J U 0,J U 0,Aa Ab 0 0,J U 0,J U 0,J U 0,J U 0]),11,104):=Bm
theorem Ll (l:List (Deed)) (s:Sl) (w:World) (hl:E6 Cm l<=2000000) (h:RdL Cg w w s.v l) :
  Calls Am 30 #[.slice s.a s.n s.c] w (Di (Dt.list Cg) slV l w):=by
 obtain ⟨A,n,c⟩:=s;obtain ⟨A',c',hv,-⟩:=h.form;simp only [Sl.v,Value.slice.injEq] at hv;obtain ⟨rfl,rfl,rfl⟩:=hv;have cR:l.length<=2000000:=Ah (Ck _ _) hl;have gF:∀ k (hk:k<l.length),Cm l[k]<=2000000:=fun k hk=>by have:=Ds (cnt:=Cm) (Aw hk);omega
 clear hl;obtain ⟨i0,aL,aS,aP,aQ⟩:=info_parts K5;have mN:∀ w:World,(Instr.makeSlice 78 (.int .i64 (l.length:Int)) (.int .i64 (l.length:Int))).run Am w = .ok (.slice (Ac ⟨w,0,Ab⟩) l.length l.length) (w.alloc (.cells (madeCells #[.int .i64 0,.int .i64 0,.int .i64 0,.int .i64 0,.int .i64 0,.int .i64 0,.slice Ab 0 0,.int .i64 0,.int .i64 0,.int .i64 0,.int .i64 0] (l.length * 11)) 45)):=by
  intro w
  have:=run_make (P:=Am) w 78 45 i0 _ Tryz.underlying78 aL aS .i64 .i64 l.length l.length Bl Bl (by rw [aQ];omega) Bl
  rw [aP] at this;simpa [Value.cells] using this
 go_enter Tryz.func30,Tryz.ntmps30;go_wp2;go_loopw [4] (fun i wr=>∃ k:Nat,k<=l.length/\i = .int .i64 k/\Hid (∃ (rs:List ((Deed)×Sl)) (G:List Nat),rs.map (·.1)=l.take k/\Ow Cg.enc 45 wr w (.slice (Ac ⟨w,0,Ab⟩) l.length l.length) (rs ++ List.replicate (l.length - k) (⟨0,0,⟨0,0,0,0,[]⟩,0,0,0,0⟩,⟨Ab,0,0⟩))/\Ows Cg wr G rs/\G.Nodup /\ ∀ b∈G,w<b)/\Below w w wr) (fun i _=>l.length - (intOf i).toNat);case atStart=>exact ⟨0,Ag _,rfl,⟨[],[],rfl,by rw [List.nil_append,Nat.sub_zero];exact Ow.made Cg.enc 45 w (⟨0,0,⟨0,0,0,0,[]⟩,0,0,0,0⟩,⟨Ab,0,0⟩) l.length Bp (by simp [maxLen];omega) rfl rfl,.nil,List.nodup_nil,fun _ h=>by cases h⟩,(Br _ _).alloc (Bs _) _⟩
 case round =>
  obtain ⟨k,hk,rfl,⟨rs,G,hm,hown,hG,uP,kW⟩,hb⟩:=hrel;have bK:rs.length=k:=by have:=congrArg List.length hm;simpa [Nat.min_eq_left hk] using this
  by_cases aA:k<l.length
  ·obtain ⟨b,o,s,rfl,aH,hr,c0,c1,c2,c3,c4,c5,c6,c7,c8,c9,c10⟩:=(h.below hb).deed aA;have hx:∀ W,Below wr wr W->Cg.rd W W l[k] s:=fun W hW=>Cg.rd_more (Cg.rd_below (Cg.rd_more hr hb.size) hW) hW.size;have aJ:(rs ++ List.replicate (l.length - k) ((⟨0,0,⟨0,0,0,0,[]⟩,0,0,0,0⟩,⟨Ab,0,0⟩):(Deed)×Sl)).length=l.length:=by simp;omega
   have Hm:=Bq hm;have Hrl:=Bq bK;clear hm bK;go_wp2_with (go_at_call 81;refine (Aav l[k] s _ (gF k aA) (hx _ (by first | exact Br _ _ | exact (Br _ _).drew))).mono ?_;rintro e w1 ⟨s1,F1,rfl,o1,n1,aN⟩;have fA:=hown.below aN;have hf:=fA.free;obtain ⟨d0,d1,d2,d3,d4,d5,d6,d7,d8,d9,d10⟩:=fA.c_deed (k:=k) (by rw [aJ];exact aA))
   have hp:=Ow.put fA aJ k aA (l[k],s1);have Hp:=Bld.lay hG uP kW aN (r:=(l[k],s1)) o1 n1 (Ai (hown.blk).2 (Bs _)) hp.2;rw [Yg rs _ k l.length Hrl.out aA] at hp;refine ⟨⟨k+1,Bl,by go_num,⟨rs ++ [(l[k],s1)],G ++ F1,?_,hp.1,Hp.1,Hp.2.1,Hp.2.2⟩,(hb.trans (aN.mono hb.size)).grown hp.2 (Ah hb.size aN.size) (fun g hg=>by simp at hg;omega)⟩,by simp [intOf];omega⟩;rw [List.map_append,Hm.out,Cn l k aA];rfl
  ·have bJ:k=l.length:=Bl;subst bJ;rw [Nat.sub_self,List.replicate_zero,List.append_nil] at hown;go_wp2;go_ret;rw [List.take_length] at hm;have hB:Bld Cg 45 wr w (.slice (Ac ⟨w,0,Ab⟩) l.length l.length) rs:=⟨G,by rw [<-bK];exact (by rw [bK];exact hown),hG,uP,fun b aU=>⟨Nat.le_of_lt (kW b aU),by simp [Value.ownBlock];have:=kW b aU;omega⟩⟩
   obtain ⟨F,h1,h2⟩:=hB.owl hm;exact ⟨⟨Ac ⟨w,0,Ab⟩,l.length,l.length⟩,F,rfl,h1,h2,hb⟩
theorem N8 (l:List (Deed)) (s:Sl) (F:List Nat) (k:Int) (w:World) (hl:E6 Cm l<=2000000) (dB:0<=k) (kJ:k<=900000000) (h:OwL Cg w F s.v l) :
  Calls Am 43 #[Aa s.a s.n s.c,J U k] w (Adl (Dt.list Cg) F (mkL K4 D8 k l) s (k+(En D8 l:Nat)) w):=by
 obtain ⟨A,n,c⟩:=s;obtain ⟨A',c',hv,-⟩:=h.form;simp only [Sl.v,Value.slice.injEq] at hv;obtain ⟨rfl,rfl,rfl⟩:=hv;have cR:l.length<=2000000:=Ah (Ck _ _) hl;have eM:∀ j,En D8 (l.take j)<=26000000:=fun j=>by
  have h1:=Kn D8 l j;have h2:=J8 (num:=D8) (cnt:=Cm) (K:=13) Mj l;omega
 have gF:∀ k (hk:k<l.length),Cm l[k]<=2000000:=fun k hk=>by have:=Ds (cnt:=Cm) (Aw hk);omega
 have Hnl:=Bq eM;clear eM hl;go_enter Tryz.func43,Tryz.ntmps43;go_wp2;go_loopw [1,5] (fun q i wr=>∃ (j:Nat) (m:Int),j<=l.length/\i = J U j/\q = J U m/\Hid (m=k+(En D8 (l.take j):Nat))/\OwL Cg wr F (Aa A l.length c) (mkL K4 D8 k (l.take j) ++ l.drop j)/\Chg F w wr) (fun _ i _=>l.length - (intOf i).toNat);case atStart=>exact ⟨0,k,Ag _,rfl,rfl,by show k=_;simp [En],h,Chg.refl _ _⟩
 case round =>
  obtain ⟨j,m,hj,rfl,rfl,hm,ho,hc⟩:=hrel;have hm':=hm.out;have rP:=Hnl.out j;have fR:0<=m:=Bl;have cG:m<=926000000:=Bl;clear hm' rP;by_cases aA:j<l.length
  ·have aB:(j:Int)<(l.length:Int):=Bl;have aJ:(mkL K4 D8 k (l.take j) ++ l.drop j).length=l.length:=by simp [Hb];omega
   obtain ⟨b,o,rs,s,G1,Fx,G2,rfl,hF,cI,f0⟩:=ho.foc (j:=j) (by rw [aJ];exact aA);rw [Yj K4 D8 k l j aA] at f0;subst hF;have Hrm:=Bq cI;clear cI ho;obtain ⟨c0,c1,c2,c3,c4,c5,c6,c7,c8,c9,c10⟩:=f0.deed;have fr0:=f0.free;have hce0:E6 D4 l[j].plan.edges<=2000000:=by
    have:=gF j aA
    unfold Cm Eb at this;omega
   have hne0:En Cq l[j].plan.edges<=26000000:=by
    have h2:=J8 (num:=Cq) (cnt:=D4) (K:=13) K3 l[j].plan.edges;omega
   go_wp2_with fail
   obtain ⟨f1,g1⟩:=f0.put ⟨m,m+1,⟨m+1+1,m+1+1+1,m+1+1+1+1,m+1+1+1+1+1,l[j].plan.edges⟩,l[j].task,l[j].try_,l[j].worker,l[j].draw⟩ 0 [J U (m),J U (m+1),J U (m+1+1),J U (m+1+1+1),J U (m+1+1+1+1),J U (m+1+1+1+1+1)] (by show 0+6<=11;omega) (fun i hi=>match i,hi with | 0,_=>rfl | 1,_=>rfl | 2,_=>rfl | 3,_=>rfl | 4,_=>rfl | 5,_=>rfl | i+6,hi=>absurd hi Bn) (fun i hi hx=>match i,hi,hx with | 0,_,hx=>absurd hx Bn | 1,_,hx=>absurd hx Bn | 2,_,hx=>absurd hx Bn | 3,_,hx=>absurd hx Bn | 4,_,hx=>absurd hx Bn | 5,_,hx=>absurd hx Bn | 6,_,_=>rfl | 7,_,_=>rfl | 8,_,_=>rfl | 9,_,_=>rfl | 10,_,_=>rfl | i+11,hi,_=>absurd hi (by show ¬ (i+11<11);omega)) (fun _ hh=>hh);refine (Vb l[j].plan.edges s Fx _ _ hce0 Bl Bl f1.here).mono ?_;rintro e w2 ⟨rfl,o2,g2⟩;have f2:=f1.sub (y:=⟨m,m+1,⟨m+1+1,m+1+1+1,m+1+1+1+1,m+1+1+1+1+1,mkL Kf Cq (m+1+1+1+1+1+1) l[j].plan.edges⟩,l[j].task,l[j].try_,l[j].worker,l[j].draw⟩) g2 o2 rfl;obtain ⟨c2_0,c2_1,c2_2,c2_3,c2_4,c2_5,c2_6,c2_7,c2_8,c2_9,c2_10⟩:=f2.deed;have fr2:=f2.free;go_wp2;obtain ⟨f3,g3⟩:=f2.put ⟨m,m+1,⟨m+1+1,m+1+1+1,m+1+1+1+1,m+1+1+1+1+1,mkL Kf Cq (m+1+1+1+1+1+1) l[j].plan.edges⟩,m+1+1+1+1+1+1+(En Cq l[j].plan.edges:Nat),m+1+1+1+1+1+1+(En Cq l[j].plan.edges:Nat)+1,m+1+1+1+1+1+1+(En Cq l[j].plan.edges:Nat)+1+1,m+1+1+1+1+1+1+(En Cq l[j].plan.edges:Nat)+1+1+1⟩ 7 [J U (m+1+1+1+1+1+1+(En Cq l[j].plan.edges:Nat)),J U (m+1+1+1+1+1+1+(En Cq l[j].plan.edges:Nat)+1),J U (m+1+1+1+1+1+1+(En Cq l[j].plan.edges:Nat)+1+1),J U (m+1+1+1+1+1+1+(En Cq l[j].plan.edges:Nat)+1+1+1)] (by show 7+4<=11;omega) (fun i hi=>match i,hi with | 0,_=>rfl | 1,_=>rfl | 2,_=>rfl | 3,_=>rfl | i+4,hi=>absurd hi Bn) (fun i hi hx=>match i,hi,hx with | 0,_,_=>rfl | 1,_,_=>rfl | 2,_,_=>rfl | 3,_,_=>rfl | 4,_,_=>rfl | 5,_,_=>rfl | 6,_,_=>rfl | 7,_,hx=>absurd hx Bn | 8,_,hx=>absurd hx Bn | 9,_,hx=>absurd hx Bn | 10,_,hx=>absurd hx Bn | i+11,hi,_=>absurd hi (by show ¬ (i+11<11);omega)) (fun _ hh=>hh);have hmf:=hm.out;have hown:=f3.owl Hrm.out;have mF:⟨m,m+1,⟨m+1+1,m+1+1+1,m+1+1+1+1,m+1+1+1+1+1,mkL Kf Cq (m+1+1+1+1+1+1) l[j].plan.edges⟩,m+1+1+1+1+1+1+(En Cq l[j].plan.edges:Nat),m+1+1+1+1+1+1+(En Cq l[j].plan.edges:Nat)+1,m+1+1+1+1+1+1+(En Cq l[j].plan.edges:Nat)+1+1,m+1+1+1+1+1+1+(En Cq l[j].plan.edges:Nat)+1+1+1⟩=K4 m l[j]:=rfl;have dA:=Abs K4 D8 k l j aA;rw [<-hm.out] at dA;rw [mF,dA] at hown;have jV:(En D8 (l.take (j+1)):Nat)=En D8 (l.take j)+D8 l[j]:=Iz _ _ _ aA;refine ⟨⟨j+1,m+1+1+1+1+1+1+(En Cq l[j].plan.edges:Nat)+1+1+1+1,Bl,by go_num,rfl,?_,hown,(((hc).trans (g1.mono (fun _ hh=>Wp hh))).trans (g2.mono (fun _ hh=>Adk hh))).trans (g3.mono (fun _ hh=>Wp hh))⟩,by simp [intOf];omega⟩;have fP:D8 l[j]=10+En Cq l[j].plan.edges:=rfl;show m+1+1+1+1+1+1+(En Cq l[j].plan.edges:Nat)+1+1+1+1=_;rw [jV,fP];push_cast;omega
  ·have hj':j=l.length:=Bl;subst hj';rw [List.take_length,List.drop_length,List.append_nil] at ho;go_wp2;go_ret;refine ⟨Dc ?_,ho,hc⟩;rw [hm.out,List.take_length]
theorem N9 (l:List (Deed)) (s:Sl) (k:Int) (w:World) (hl:E6 Cm l<=2000000) (dB:0<=k) (kJ:k<=900000000) (h:RdL Cg w w s.v (mkL K4 D8 k l)) :
  Calls Am 44 #[Aa s.a s.n s.c,J U k] w fun e w'=>e = .returned (J U (k+(En D8 l:Nat)))/\Below w w w':=by
 obtain ⟨A,n,c⟩:=s;obtain ⟨A',c',hv,-⟩:=h.form;simp only [Sl.v,Value.slice.injEq,Hb] at hv;obtain ⟨rfl,rfl,rfl⟩:=hv;have cR:l.length<=2000000:=Ah (Ck _ _) hl;have eM:∀ j,En D8 (l.take j)<=26000000:=fun j=>by
  have h1:=Kn D8 l j;have h2:=J8 (num:=D8) (cnt:=Cm) (K:=13) Mj l;omega
 have gF:∀ k (hk:k<l.length),Cm l[k]<=2000000:=fun k hk=>by have:=Ds (cnt:=Cm) (Aw hk);omega
 have aX:∀ (wr:World) (j:Nat) (hj:j<l.length) (m:Int),Below w w wr->m=k+(En D8 (l.take j):Nat) -> ∃ b o,∃ s:Sl,A=Ac ⟨b,o,Ab⟩/\b<w.heap.size/\Cg.rd wr w (K4 m l[j]) s/\wr.cell? ⟨b,o+j * 11,Ab⟩=Ac (J U (m))/\wr.cell? ⟨b,o+j * 11+1,Ab⟩=Ac (J U (m+1))/\wr.cell? ⟨b,o+j * 11+2,Ab⟩=Ac (J U (m+1+1))/\wr.cell? ⟨b,o+j * 11+3,Ab⟩=Ac (J U (m+1+1+1))/\wr.cell? ⟨b,o+j * 11+4,Ab⟩=Ac (J U (m+1+1+1+1))/\wr.cell? ⟨b,o+j * 11+5,Ab⟩=Ac (J U (m+1+1+1+1+1))/\wr.cell? ⟨b,o+j * 11+6,Ab⟩=Ac (Aa s.a s.n s.c)/\wr.cell? ⟨b,o+j * 11+7,Ab⟩=Ac (J U (m+1+1+1+1+1+1+(En Cq l[j].plan.edges:Nat)))/\wr.cell? ⟨b,o+j * 11+8,Ab⟩=Ac (J U (m+1+1+1+1+1+1+(En Cq l[j].plan.edges:Nat)+1))/\wr.cell? ⟨b,o+j * 11+9,Ab⟩=Ac (J U (m+1+1+1+1+1+1+(En Cq l[j].plan.edges:Nat)+1+1))/\wr.cell? ⟨b,o+j * 11+10,Ab⟩=Ac (J U (m+1+1+1+1+1+1+(En Cq l[j].plan.edges:Nat)+1+1+1)):=by
  intro wr j hj m hb hm;obtain ⟨b,o,s,h1,h2,h3,h4⟩:=(h.below hb).deed (k:=j) (by rw [Hb];exact hj);first | rw [Sm _ _ _ _ _ hj,<-hm] at h3 h4 | rw [Sm _ _ _ _ _ hj,<-hm] at h3
  exact ⟨b,o,s,h1,h2,h3,h4⟩
 have Hc:=Bq aX;have Hnl:=Bq eM;clear aX eM hl;go_enter Tryz.func44,Tryz.ntmps44;go_wp2;go_loopw [1,5] (fun q i wr=>∃ (j:Nat) (m:Int),j<=l.length/\i = J U j/\q = J U m/\Hid (m=k+(En D8 (l.take j):Nat))/\Below w w wr) (fun _ i _=>l.length - (intOf i).toNat);case atStart=>exact ⟨0,k,Ag _,rfl,rfl,by show k=_;simp [En],Br _ _⟩
 case round =>
  obtain ⟨j,m,hj,rfl,rfl,hm,hb⟩:=hrel;have hm':=hm.out;have rP:=Hnl.out j;have fR:0<=m:=Bl;have cG:m<=926000000:=Bl;clear hm' rP;by_cases aA:j<l.length
  ·have aB:(j:Int)<(l.length:Int):=Bl;obtain ⟨b,o,s,rfl,aH,gB,c0,c1,c2,c3,c4,c5,c6,c7,c8,c9,c10⟩:=Hc.out wr j aA m hb hm.out;have hx:∀ W,Below wr wr W->Cg.rd W W (K4 m l[j]) s:=fun W hW=>Cg.rd_more (Cg.rd_below (Cg.rd_more gB hb.size) hW) hW.size;have hce0:E6 D4 l[j].plan.edges<=2000000:=by
    have:=gF j aA
    unfold Cm Eb at this;omega
   have hne0:En Cq l[j].plan.edges<=26000000:=by
    have h2:=J8 (num:=Cq) (cnt:=D4) (K:=13) K3 l[j].plan.edges;omega
   go_wp2_with fail
   refine (Vc l[j].plan.edges s _ _ hce0 Bl Bl (hx _ (by first | exact Br _ _ | exact (Br _ _).drew))).mono ?_;rintro e v0 ⟨rfl,bS⟩;have B0:Below wr wr v0:=Bt (by first | exact Br _ _ | exact (Br _ _).drew) bS;obtain ⟨q0,p0⟩:=Lg B0;have hbr0:=Ai aH hb.size;go_wp2;have jV:(En D8 (l.take (j+1)):Nat)=En D8 (l.take j)+D8 l[j]:=Iz _ _ _ aA;refine ⟨⟨j+1,m+1+1+1+1+1+1+(En Cq l[j].plan.edges:Nat)+1+1+1+1,Bl,by go_num,rfl,?_,Bt hb B0⟩,by simp [intOf];omega⟩;have fP:D8 l[j]=10+En Cq l[j].plan.edges:=rfl;have hmf:=hm.out;show m+1+1+1+1+1+1+(En Cq l[j].plan.edges:Nat)+1+1+1+1=_;rw [jV,fP];push_cast;omega
  ·have hj':j=l.length:=Bl;subst hj';go_wp2;go_ret;refine ⟨Dc ?_,hb⟩;rw [hm.out,List.take_length]
theorem Qi {α:Type} {p:α->Bool} {l:List α} : (0<=Gs p l) ↔ ∃ x∈l,p x=true:=by
 unfold Gs;cases h:l.findIdx? p with
 | none =>
  rw [List.findIdx?_eq_none_iff] at h;simp only;refine ⟨fun h=>absurd h Bl,?_⟩;rintro ⟨x,hx,hp⟩
  have:=h x hx
  rw [hp] at this;cases this
 | some i =>
  rw [List.findIdx?_eq_some_iff_getElem] at h;obtain ⟨hi,hp,_⟩:=h;simp only;exact ⟨fun _=>⟨_,Aw hi,hp⟩,fun _=>Bl⟩
theorem Wu (v:Value) (l:List Nat) (x:Nat) (B:Nat) (w:World) (hl:l.length<=2000000) (h:Rd Ec w B v l) :
  Calls Am 182 #[v,J U (x:Int)] w fun e w'=>e = .returned (J U (Gs (fun y=>decide (x=y)) l))/\w=w':=by
 obtain ⟨A,c,rfl,-⟩:=id h;go_enter Tryz.func182,Tryz.ntmps182;go_wp2;go_loop [8] (fun i=>∃ k:Nat,k<=l.length/\i = J U k/\Hid (∀ j (hj:j<k) (hj':j<l.length),decide (x=l[j])=false)) (fun i=>l.length - (intOf i).toNat);case atStart=>exact ⟨0,Ag _,rfl,fun j hj=>absurd hj Bl⟩
 case round =>
  obtain ⟨k,hk,rfl,dI⟩:=hrel;by_cases aA:k<l.length
  ·obtain ⟨b,o,rfl,aH,c0⟩:=h.nat aA;have aB:(k:Int)<(l.length:Int):=Bl;by_cases hx:x=l[k]
   ·have H:=Bq (I8 (p:=fun y=>decide (x=y)) aA (fun j hj=>dI.out j hj Bl) (show decide (x=l[k])=true by simp [hx]));have eW:((x:Int) == (l[k]:Int))=true:=by simp [hx]
    clear hx;go_wp2;go_ret;exact ⟨Dc (by rw [H.out]),rfl⟩
   ·have eW:((x:Int) == (l[k]:Int))=false:=beq_eq_false_iff_ne.2 Bl;have S:Hid (∀ j (hj:j<k+1) (hj':j<l.length),decide (x=l[j])=false):=by
     intro j hj hj';by_cases e:j=k
     ·subst e;simpa using hx
     ·exact dI.out j Bl hj'
    clear hx;go_wp2;exact ⟨⟨k+1,Bl,by go_num,S⟩,by simp [intOf];omega⟩
  ·have aB:¬ (k:Int)<(l.length:Int):=Bl;have H:=Bq (Jq (p:=fun y=>decide (x=y)) (l:=l) (fun j hj=>dI.out j Bl hj));go_wp2;go_ret;exact ⟨Dc (by rw [H.out]),rfl⟩
theorem Kg (v:Value) (l:List Nat) (x:Nat) (B:Nat) (w:World) (hl:l.length<=2000000) (h:Rd Ec w B v l) :
  Calls Am 118 #[v,J U (x:Int)] w fun e w'=>e = .returned (.bool (decide (x∈l)))/\w=w':=by
 have H:=Bq (show decide (0<=Gs (fun y=>decide (x=y)) l)=decide (x∈l) from decide_eq_decide.2 (Qi.trans Bn));go_enter Tryz.func118,Tryz.ntmps118;go_wp2_with fail
 refine (Wu v l x B _ hl h).mono ?_;rintro e w1 ⟨rfl,rfl⟩;go_wp2_with fail
 go_ret;exact ⟨Bv (by rw [<-H.out]),rfl⟩
def Nf:Enc UInt8:={ cells:=fun x=>[.int .u8 (x.toNat:Int)],sz:=1,len:=fun _=>rfl,one:=fun _ u hu=>by simp at hu;subst hu;rfl }
structure Cur where
 i:Nat
 h:Int
abbrev Yt (v:Value) (c:Cur):List Value:=[v,.int .i64 (c.i:Int),.int .i64 c.h]
structure Drw (b:Nat) (v:Value) (code:List UInt8) (c:Cur) (w:World):Prop where
 box:DBox b (Yt v c) w
 rd:Rd Nf w b v code
 small:code.length<=1048576
 le:c.i<=code.length
def DrP (b:Nat) (v:Value) (code:List UInt8) (r:Value) (c':Cur) (w:World) (e:Ending) (w':World):Prop:=e = .returned r/\Drw b v code c' w'/\Chg [b] w w'
theorem Drw.chg {b:Nat} {v:Value} {code:List UInt8} {c:Cur} {w w':World} {F:List Nat} (h:Drw b v code c w) (hc:Chg F w w') (hF:∀ x∈F,b<x):Drw b v code c w' :=
 ⟨h.box.chg hc (fun hm=>by have:=hF _ hm;omega),h.rd.keep (fun p hp=>hc.cell (Nat.lt_trans hp h.box.lt) (fun hm=>by have:=hF _ hm;omega)),h.small,h.le⟩
theorem Drw.below {b:Nat} {v:Value} {code:List UInt8} {c:Cur} {w w':World} (h:Drw b v code c w) (hb:Below w w w'):Drw b v code c w' :=
 h.chg (Chg.of_below [] hb) (fun x hx=>by cases hx)
theorem Drw.step {b:Nat} {v:Value} {code:List UInt8} {c c':Cur} {w w':World} (h:Drw b v code c w) (hb:DBox b (Yt v c') w') (hc:Chg [b] w w') (hl:c'.i<=code.length):Drw b v code c' w' :=
 ⟨hb,h.rd.keep (fun p hp=>hc.cell (Nat.lt_trans hp h.box.lt) (fun hm=>by (have:p.block=b:=by simpa using hm);omega)),h.small,hl⟩
theorem DBox.drewN {b:Nat} {cs:List Value} {w:World} (h:DBox b cs w) (n:Nat):DBox b cs (w.drewN n):=⟨h.cell,h.free,h.lt⟩
theorem Chg.drewN {F:List Nat} {a w:World} (h:Chg F a w) (n:Nat):Chg F a (w.drewN n):=⟨h.os,h.tape,h.output,h.size,h.block⟩
/-! the cursor at its start -/
/-! a number below another one -/
theorem DrP.next {b:Nat} {v:Value} {code:List UInt8} {r:Value} {c':Cur} {w w1:World} {e:Ending} {w':World} (hc:Chg [b] w w1) (h:DrP b v code r c' w1 e w'):DrP b v code r c' w e w':=⟨h.1,h.2.1,hc.trans h.2.2⟩
structure Yard where
 now:Int
 seq:Int
 shelf:List (List Entry)
 runs:List Run
deriving DecidableEq,Inhabited
@[go_sem] abbrev Dg (x:Yard) (s:Sl×Sl):Value:=.agg #[.int .i64 x.now,.int .i64 x.seq,.slice s.1.a s.1.n s.1.c,.slice s.2.a s.2.n s.2.c]
abbrev Bu:Dt Yard:=Dt.two (Dt.list (Dt.list Bx)) (Dt.list Ch) (·.shelf) (·.runs) (fun q=>[.int .i64 q.1.now,.int .i64 q.1.seq,.slice q.2.1.a q.2.1.n q.2.1.c,.slice q.2.2.a q.2.2.n q.2.2.c]) 4 (fun _=>rfl) (fun q u hu=>by simp at hu;rcases hu with rfl | rfl | rfl | rfl<;>rfl)
def Cb (x:Yard):Nat:=E6 C8 x.shelf+E6 Cw x.runs
theorem owB {w w':World} {F:List Nat} {y:Yard} {s:Sl×Sl} (h:Bu.ow w F y s) (hb:Below w w w'):Bu.ow w' F y s:=Bu.ow_below (F:=F) (x:=y) (s:=s) h hb
theorem owC {w w':World} {F G:List Nat} {y:Yard} {s:Sl×Sl} (h:Bu.ow w F y s) (hc:Chg G w w') (hd:∀ b∈F,b∉G):Bu.ow w' F y s:=Bu.ow_chg (F:=F) (x:=y) (s:=s) h hc hd
theorem Vv (l:List Nat):l.flatMap Ec.cells=(l.map fun (x:Nat)=>(x:Int)).map (Value.int .i64):=by
 induction l with
 | nil=>rfl
 | cons a l ih=>rw [List.flatMap_cons,ih];rfl
theorem Aay {l l':List Nat} (hp:l'.Perm l) (hs:l'.Pairwise (· <= ·)):((l.map fun (x:Nat)=>(x:Int)).mergeSort fun x y=>decide (x<=y))=l'.map fun (x:Nat)=>(x:Int):=by
 have h1:=List.mergeSort_perm (l.map fun (x:Nat)=>(x:Int)) (fun x y=>decide (x<=y));have h2:=List.pairwise_mergeSort (le:=fun x y:Int=>decide (x<=y)) (fun a b c h1 h2=>by simp at *;omega) (fun a b=>by simp;omega) (l.map fun (x:Nat)=>(x:Int));have h3:(l'.map fun (x:Nat)=>(x:Int)).Pairwise (fun x y=>decide (x<=y)=true):=by
  rw [List.pairwise_map];exact hs.imp (fun h=>by simpa using h)
 refine List.Perm.eq_of_pairwise (le:=fun x y=>decide (x<=y)=true) ?_ h2 h3 (h1.trans (hp.symm.map _));intro a b _ _ h h';simp at h h';omega
theorem Q7 (v:Value) (l l':List Nat) (base:Nat) (w:World) (hl:l.length<=2000000) (hp:l'.Perm l) (hs:l'.Pairwise (· <= ·)) (ho:Ow Ec 3 w base v l) :
  Calls Am 251 #[v] w fun e w'=>e = .returned (.tuple #[])/\Ow Ec 3 w' base v l'/\w.grownBy w' v.ownBlock:=by
 rcases ho.2 with ⟨rfl,hn⟩ | ⟨g,cap,cur,rfl,hg,hh,hc,hm,aV,ht⟩
 ·have uS:l=[]:=List.eq_nil_of_length_eq_zero hn;subst uS;have:l'=[]:=List.Perm.eq_nil hp;subst this;refine (Tryz.slices_Sort_int_none Ab 0 w).mono ?_;rintro e w' ⟨he,rfl⟩;exact ⟨he,ho,World.grownBy.refl _ _⟩
 ·have cR:(l.map fun (x:Nat)=>(x:Int)).length=l.length:=Ar _;have kP:cur.toList.take (l.map fun (x:Nat)=>(x:Int)).length=(l.map fun (x:Nat)=>(x:Int)).map (Value.int .i64):=by
   rw [cR,<-Vv,<-ht];simp [Ec]
  have hH:=holds_of_blockI hh kP;have rJ:g<w:=(Array.getElem?_eq_some_iff.1 hh).1;have h:=Tryz.slices_Sort_int g 0 cap (l.map fun (x:Nat)=>(x:Int)) w hH rJ (by rw [cR];omega);rw [cR] at h;refine h.mono ?_;rintro e w' ⟨he,n,os,rfl⟩;rw [Aay hp hs];refine ⟨he,?_,grownBy_sortedI _⟩;have aJ:l'.length=l.length:=hp.length_eq
  have:=ownsRow_sortedI (n:=n) (os:=os) (ss:=l.map fun (x:Nat)=>(x:Int)) (ts:=l'.map fun (x:Nat)=>(x:Int)) (by simp [aJ]) hg hh (by rw [cR];exact hc) hm aV
  unfold Ow;rw [aJ,Vv];rw [cR] at this;exact this
theorem Tf (es:List (Nat×Nat)) (T t:Nat):(Dq es T t).Pairwise (· <= ·):=(List.pairwise_lt_range.imp (fun h=>Nat.le_of_lt h)).filter _
theorem Tg (es:List (Nat×Nat)) (T t:Nat):(Fa es T t).Pairwise (· <= ·):=(List.pairwise_lt_range.imp (fun h=>Nat.le_of_lt h)).filter _
def Ik (es:List (Nat×Nat)) (t:Nat):List Nat:=(es.filter fun e=>decide (e.2=t)).map (·.1)
def Ng (es:List (Nat×Nat)) (t:Nat):List Nat:=(es.filter fun e=>decide (e.1=t)).map (·.2)
theorem Th (es:List (Nat×Nat)) (t:Nat):(Ik es t).length<=es.length:=by
 simp only [Ik,Ar];exact List.length_filter_le _ _
theorem Yu (es:List (Nat×Nat)) (t:Nat):(Ng es t).length<=es.length:=by
 simp only [Ng,Ar];exact List.length_filter_le _ _
theorem Aaz {l l':List (Nat×Nat)} {a d:Nat} (h:l'=l ++ [(a,d)]):Ik l' d=Ik l d ++ [a]:=by
 subst h;simp [Ik,List.filter_append]
theorem Adn {l l':List (Nat×Nat)} {a d:Nat} (h:l'=l ++ [(a,d)]):Ng l' a=Ng l a ++ [d]:=by
 subst h;simp [Ng,List.filter_append]
theorem Acf {l l':List (Nat×Nat)} {a d t:Nat} (h:l'=l ++ [(a,d)]) (hx:¬ d=t):Ik l' t=Ik l t:=by
 subst h;simp [Ik,List.filter_append,hx]
theorem Aeb {l l':List (Nat×Nat)} {a d t:Nat} (h:l'=l ++ [(a,d)]) (hx:¬ a=t):Ng l' t=Ng l t:=by
 subst h;simp [Ng,List.filter_append,hx]
theorem Ti {p:Plan} (he:Gr p) (hn:p.edges.Nodup):(Dn p).Nodup:=by
 unfold Dn esL;show List.Pairwise _ _;rw [List.pairwise_map];refine List.Pairwise.imp_of_mem ?_ hn;intro x y hx hy aC e;have h1:=he x hx;have h2:=he y hy;simp only [Iu,Bool.and_eq_true,Cv] at h1 h2;simp only [Prod.mk.injEq] at e;apply aC;cases x;cases y;simp only [Edge.mk.injEq] at *
 omega
theorem Yv {p:Plan} (he:Gr p) (hn:p.edges.Nodup) (t:Nat):(Dq (Dn p) p.tasks.toNat t).Perm (Ik (Dn p) t):=by
 refine (List.perm_ext_iff_of_nodup (List.nodup_range.filter _) ?_).2 ?_
 ·unfold Ik;show List.Pairwise _ _;rw [List.pairwise_map];refine List.Pairwise.imp_of_mem ?_ ((Ti he hn).filter _);intro x y hx hy aC e;simp only [List.mem_filter,decide_eq_true_eq] at hx hy;exact aC (Prod.ext e (hx.2.trans hy.2.symm))
 ·intro x;simp only [Ik,List.mem_filter,List.mem_range,decide_eq_true_eq,List.mem_map,Prod.exists];constructor
  ·rintro ⟨_,h⟩;exact ⟨x,t,⟨h,rfl⟩,rfl⟩
  ·rintro ⟨a,b,⟨h,rfl⟩,rfl⟩;exact ⟨(Lh he).1 _ h,h⟩
theorem Acg {p:Plan} (he:Gr p) (hn:p.edges.Nodup) (t:Nat):(Fa (Dn p) p.tasks.toNat t).Perm (Ng (Dn p) t):=by
 refine (List.perm_ext_iff_of_nodup (List.nodup_range.filter _) ?_).2 ?_
 ·unfold Ng;show List.Pairwise _ _;rw [List.pairwise_map];refine List.Pairwise.imp_of_mem ?_ ((Ti he hn).filter _);intro x y hx hy aC e;simp only [List.mem_filter,decide_eq_true_eq] at hx hy;exact aC (Prod.ext (hx.2.trans hy.2.symm) e)
 ·intro x;simp only [Ng,List.mem_filter,List.mem_range,decide_eq_true_eq,List.mem_map,Prod.exists];constructor
  ·rintro ⟨_,h⟩;exact ⟨t,x,⟨h,rfl⟩,rfl⟩
  ·rintro ⟨a,b,⟨h,rfl⟩,rfl⟩;exact ⟨(Lh he).2 _ h,h⟩
theorem Nh (p:Plan) (ve:Value) (t:Nat) (w:World) (hf:Co p=0) (h:Rd Gd w w ve p.edges) :
  Calls Am 226 #[Ge p ve,.int .i64 (t:Int)] w fun e w'=>∃ v,e = .returned v/\Ow Ec 3 w' w v (Dq (Dn p) p.tasks.toNat t)/\Below w w w':=by
 obtain ⟨A,c,rfl,-⟩:=id h;have G:=Bq (C9.1 hf);have aJ:=Ez G.out.1;have hl:p.edges.length<=2000000:=Bl;have hfb:(Co p != 0)=false:=by simp [hf]
 clear hf;obtain ⟨j0,cB,jz0,jz1,jz2⟩:=info_parts Kc;have bS:=J7 43 p (.slice A p.edges.length c) w;have D0:=BoxAt.new 43 p (.slice A p.edges.length c) w;have rV:=E0 43 p (.slice A p.edges.length c) w;have Hw0:=Bq rV;clear rV;unfold Ge;go_enter Tryz.func226,Tryz.ntmps226;go_wp2_with fail
 refine (Gv p _ _ hl ((h.below bS).more bS.size)).mono ?_;rintro e w1 ⟨rfl,aN⟩;have D:=D0.below aN;have hb:=Bt bS aN;obtain ⟨x0,x1,x2,x3,x4,xs⟩:=D.cells;go_wp2;clear x0 x1 x2 x3 x4;go_loopw [5,14] (fun vl i wr=>∃ k:Nat,k<=p.edges.length/\i = .int .i64 k/\Ow Ec 3 wr (w.heap.size+1) vl (Ik (esL (p.edges.take k)) t)/\Below w w wr/\w.heap.size<wr.heap.size) (fun _ i _=>p.edges.length - (intOf i).toNat);case atStart=>exact ⟨0,Ag _,rfl,by simpa [Ik,esL] using Ow.nil Ec 3 w1 (w.heap.size+1),hb,xs⟩
 case round =>
  clear D hb aN D0 xs;obtain ⟨k,hk,rfl,ho,hb,aV⟩:=hrel;by_cases aA:k<p.edges.length
  ·have aB:(k:Int)<(p.edges.length:Int):=Bl;obtain ⟨b,o,rfl,aH,c0,c1⟩:=(h.below hb).edge aA;obtain ⟨f1,f2,f3,f4⟩:=Ha G.out.2.1 aA;have cQ:=Bq (show esL (p.edges.take (k+1))=esL (p.edges.take k) ++ [(p.edges[k].fr.toNat,p.edges[k].to.toNat)] by unfold esL;rw [Cn _ k aA,List.map_append];rfl);generalize p.edges[k].fr=fx at *
   generalize p.edges[k].to=tx at *
   obtain ⟨a,rfl⟩:=Ap f1;obtain ⟨d,rfl⟩:=Ap f3;simp only [Ao] at cQ;by_cases hx:d=t
   ·subst hx;have S:=Bq (Aaz (l:=esL (p.edges.take k)) cQ.out);have Hl:=Bq (show (Ik (esL (p.edges.take k)) d).length<=3000000 by
     have h1:=Th (esL (p.edges.take k)) d;rw [Mh,Az] at h1;omega)
    have mG:((d:Int) == (d:Int))=true:=Bn;have ha:Hid (∀ w:World,Below w w ((w.alloc (.cells #[.int .i64 (a:Int),.int .i64 (d:Int)] 199)).alloc (.cells #[.int .i64 (a:Int)] 3))):=fun w=>((Br _ _).alloc (Bs _) _).alloc Bn _;go_wp2_with (at_builtin;refine By _ Ec Bp rfl (.tmp 22) (.tmp 25) rfl Tryz.underlying26 cB jz0 jz1 jz2 rfl (l:=Ik (esL (p.edges.take k)) d) rfl (ho.below (ha.out wr)) rfl (Rd.one Ec _ _ a Bn rfl 1 (Bs _) (Nat.lt_succ_self _)) Hl.out Bn Bp (by simp;omega) ?_;intro v5 w5 o5 g5 _)
    have aU:=Bt hb (ha.out wr);have W5:=aU.grown g5 aU.size (fun g hg=>by have:=ho.within _ hg;omega);have sY:=g5.size;simp only [Bj] at sY;refine ⟨⟨k+1,Bl,by go_num,?_,W5,Bl⟩,by simp [intOf];omega⟩;rw [S.out];exact o5
   ·have S:=Bq (Acf (l:=esL (p.edges.take k)) (t:=t) cQ.out hx);have mG:((d:Int) == (t:Int))=false:=beq_eq_false_iff_ne.2 Bl;have ha:Hid (∀ w:World,Below w w (w.alloc (.cells #[.int .i64 (a:Int),.int .i64 (d:Int)] 199))):=fun w=>(Br _ _).alloc (Bs _) _;clear hx;go_wp2;refine ⟨⟨k+1,Bl,by go_num,?_,Bt hb (ha.out wr),by simp;omega⟩,by simp [intOf];omega⟩;rw [S.out];exact ho.below (ha.out wr)
  ·have aB:¬ (k:Int)<(p.edges.length:Int):=Bl;have bJ:k=p.edges.length:=Bl;subst bJ;rw [List.take_length] at ho;go_wp2_with fail
   have hL:(Ik (Dn p) t).length<=2000000:=by
    have h1:=Th (Dn p) t;unfold Dn at h1 ⊢;rw [Mh] at h1;omega
   refine (Q7 _ (Ik (Dn p) t) (Dq (Dn p) p.tasks.toNat t) _ _ hL (Yv G.out.2.1 G.out.2.2.1 t) (Tf _ _ _) ho).mono ?_;rintro e w2 ⟨rfl,o2,g2⟩;have aF:=hb.grown g2 hb.size (fun g hg=>by have:=ho.within _ hg;omega);go_wp2;go_ret;exact ⟨_,rfl,o2.more Bl,aF⟩
theorem Tj (p:Plan) (ve:Value) (t:Nat) (w:World) (hf:Co p=0) (h:Rd Gd w w ve p.edges) :
  Calls Am 228 #[Ge p ve,.int .i64 (t:Int)] w fun e w'=>∃ v,e = .returned v/\Ow Ec 3 w' w v (Fa (Dn p) p.tasks.toNat t)/\Below w w w':=by
 obtain ⟨A,c,rfl,-⟩:=id h;have G:=Bq (C9.1 hf);have aJ:=Ez G.out.1;have hl:p.edges.length<=2000000:=Bl;have hfb:(Co p != 0)=false:=by simp [hf]
 clear hf;obtain ⟨j0,cB,jz0,jz1,jz2⟩:=info_parts Kc;have bS:=J7 43 p (.slice A p.edges.length c) w;have D0:=BoxAt.new 43 p (.slice A p.edges.length c) w;have rV:=E0 43 p (.slice A p.edges.length c) w;have Hw0:=Bq rV;clear rV;unfold Ge;go_enter Tryz.func228,Tryz.ntmps228;go_wp2_with fail
 refine (Gv p _ _ hl ((h.below bS).more bS.size)).mono ?_;rintro e w1 ⟨rfl,aN⟩;have D:=D0.below aN;have hb:=Bt bS aN;obtain ⟨x0,x1,x2,x3,x4,xs⟩:=D.cells;go_wp2;clear x0 x1 x2 x3 x4;go_loopw [5,14] (fun vl i wr=>∃ k:Nat,k<=p.edges.length/\i = .int .i64 k/\Ow Ec 3 wr (w.heap.size+1) vl (Ng (esL (p.edges.take k)) t)/\Below w w wr/\w.heap.size<wr.heap.size) (fun _ i _=>p.edges.length - (intOf i).toNat);case atStart=>exact ⟨0,Ag _,rfl,by simpa [Ng,esL] using Ow.nil Ec 3 w1 (w.heap.size+1),hb,xs⟩
 case round =>
  clear D hb aN D0 xs;obtain ⟨k,hk,rfl,ho,hb,aV⟩:=hrel;by_cases aA:k<p.edges.length
  ·have aB:(k:Int)<(p.edges.length:Int):=Bl;obtain ⟨b,o,rfl,aH,c0,c1⟩:=(h.below hb).edge aA;obtain ⟨f1,f2,f3,f4⟩:=Ha G.out.2.1 aA;have cQ:=Bq (show esL (p.edges.take (k+1))=esL (p.edges.take k) ++ [(p.edges[k].fr.toNat,p.edges[k].to.toNat)] by unfold esL;rw [Cn _ k aA,List.map_append];rfl);generalize p.edges[k].fr=fx at *
   generalize p.edges[k].to=tx at *
   obtain ⟨a,rfl⟩:=Ap f1;obtain ⟨d,rfl⟩:=Ap f3;simp only [Ao] at cQ;by_cases hx:a=t
   ·subst hx;have S:=Bq (Adn (l:=esL (p.edges.take k)) cQ.out);have Hl:=Bq (show (Ng (esL (p.edges.take k)) a).length<=3000000 by
     have h1:=Yu (esL (p.edges.take k)) a;rw [Mh,Az] at h1;omega)
    have mG:((a:Int) == (a:Int))=true:=Bn;have ha:Hid (∀ w:World,Below w w ((w.alloc (.cells #[.int .i64 (a:Int),.int .i64 (d:Int)] 199)).alloc (.cells #[.int .i64 (d:Int)] 3))):=fun w=>((Br _ _).alloc (Bs _) _).alloc Bn _;go_wp2_with (at_builtin;refine By _ Ec Bp rfl (.tmp 22) (.tmp 25) rfl Tryz.underlying26 cB jz0 jz1 jz2 rfl (l:=Ng (esL (p.edges.take k)) a) rfl (ho.below (ha.out wr)) rfl (Rd.one Ec _ _ d Bn rfl 1 (Bs _) (Nat.lt_succ_self _)) Hl.out Bn Bp (by simp;omega) ?_;intro v5 w5 o5 g5 _)
    have aU:=Bt hb (ha.out wr);have W5:=aU.grown g5 aU.size (fun g hg=>by have:=ho.within _ hg;omega);have sY:=g5.size;simp only [Bj] at sY;refine ⟨⟨k+1,Bl,by go_num,?_,W5,Bl⟩,by simp [intOf];omega⟩;rw [S.out];exact o5
   ·have S:=Bq (Aeb (l:=esL (p.edges.take k)) (t:=t) cQ.out hx);have mG:((a:Int) == (t:Int))=false:=beq_eq_false_iff_ne.2 Bl;have ha:Hid (∀ w:World,Below w w (w.alloc (.cells #[.int .i64 (a:Int),.int .i64 (d:Int)] 199))):=fun w=>(Br _ _).alloc (Bs _) _;clear hx;go_wp2;refine ⟨⟨k+1,Bl,by go_num,?_,Bt hb (ha.out wr),by simp;omega⟩,by simp [intOf];omega⟩;rw [S.out];exact ho.below (ha.out wr)
  ·have aB:¬ (k:Int)<(p.edges.length:Int):=Bl;have bJ:k=p.edges.length:=Bl;subst bJ;rw [List.take_length] at ho;go_wp2_with fail
   have hL:(Ng (Dn p) t).length<=2000000:=by
    have h1:=Yu (Dn p) t;unfold Dn at h1 ⊢;rw [Mh] at h1;omega
   refine (Q7 _ (Ng (Dn p) t) (Fa (Dn p) p.tasks.toNat t) _ _ hL (Acg G.out.2.1 G.out.2.2.1 t) (Tg _ _ _) ho).mono ?_;rintro e w2 ⟨rfl,o2,g2⟩;have aF:=hb.grown g2 hb.size (fun g hg=>by have:=ho.within _ hg;omega);go_wp2;go_ret;exact ⟨_,rfl,o2.more Bl,aF⟩
abbrev Aec (l:List UInt8):Value:=.string ⟨l.toArray⟩
def Mk (n:Nat):List UInt8:=if h:n<128 then [UInt8.ofNat n] else UInt8.ofNat (n % 128+128) :: Mk (n / 128)
termination_by n
decreasing_by omega
def D6 (n:Int):List UInt8:=if inB n 0 1000000000 then Mk n.toNat else []
theorem Ado (n k:Nat) (h:n<128 ^ (k+1)):(Mk n).length<=k+1:=by
 induction k generalizing n with
 | zero=>rw [Mk,dif_pos (by simpa using h)];simp
 | succ k ih =>
  rw [Mk];split
  ·simp
  ·rw [List.length_cons]
   have:=ih (n / 128) (by rw [Nat.div_lt_iff_lt_mul Bp];rw [Nat.pow_succ] at h;exact h)
   omega
theorem Q8 (n:Int):(D6 n).length<=5:=by
 unfold D6;split
 ·rename_i h;refine Ado _ 4 ?_;simp [inB] at h;omega
 ·simp
theorem Vw:(Am.info? 5).map (fun i=>(i.zero,i.size,i.bytes))=Ac (Ac (.int .u8 0),1,1):=Bm
def Abu (l:List UInt8) (w:World) (e:Ending) (w':World):Prop:=e = .returned (Aec l)/\Below w w w'
theorem Pm {base n c:Nat} {A:Option Addr} {l:List UInt8} {w:World} (h:Ow Nf 5 w base (.slice A n c) l) :
  (convert 22 9 (.slice A n c)).run Am w = .ok (Aec l) w:=by
 rcases h.form with ⟨h1,rfl⟩ | ⟨g,cap,h1,_,_,_,_,_,hc⟩
 ·simp only [Value.slice.injEq] at h1;obtain ⟨rfl,rfl,rfl⟩:=h1;rw [run_convert_bytes_string w _ _ 5 Ab 0 0 Tryz.underlying22 Tryz.underlying5 Tryz.underlying9];rfl
 ·simp only [Value.slice.injEq] at h1;obtain ⟨rfl,rfl,rfl⟩:=h1;exact run_convert_bytes_back (P:=Am) w 22 9 5 ⟨g,0,Ab⟩ c l Tryz.underlying22 Tryz.underlying5 Tryz.underlying9 (fun j hj=>by
   have:=hc j hj 0 _ rfl
   have e:(⟨g,0,Ab⟩:Addr).add j=⟨g,j,Ab⟩:=by unfold Addr.add;split<;>simp_all
   rw [e];simpa [Nf] using this)
theorem Nr (w:World) (n:Int) (x:UInt8) (h:(x.toNat:Int)=n) (T:TypeId):∀ (j:Nat) (u:Value),(Nf.cells x)[j]? = Ac u->(w.alloc (.cells #[.int .u8 n] T)).cell? ((⟨w,0,Ab⟩:Addr).add j)=Ac u:=by
 subst h;exact Pa _ #[_] _ Bn
theorem Ru (n:Int) (w:World) :
  Calls Am 99 #[.int .i64 n] w (Abu (D6 n) w):=by
 by_cases hi:inB n 0 1000000000=true;case neg =>
  have hif:inB n 0 1000000000=false:=by simpa using hi
  have H:=Bq (show D6 n=[] by unfold D6;rw [if_neg hi]);go_enter Tryz.func99,Tryz.ntmps99;go_wp2_with (go_at_call 58;refine (Cl _ _ _ _).mono ?_;rintro e w3 ⟨rfl,rfl⟩)
  go_ret;exact ⟨by rw [H.out];rfl,Br _ _⟩
 obtain ⟨i0,aL,aS,aP,aQ⟩:=info_parts Vw;have hV:=Bq (show D6 n=Mk n.toNat by unfold D6;rw [if_pos hi]);have uU:0<=n/\n<=1000000000:=by simpa [inB] using hi
 go_enter Tryz.func99,Tryz.ntmps99;go_wp2_with (go_at_call 58;refine (Cl _ _ _ _).mono ?_;rintro e w3 ⟨rfl,rfl⟩)
 go_loopw [0,3] (fun q x wr=>∃ (m:Nat) (l:List UInt8) (v:Value),Hid (l ++ Mk m=Mk n.toNat)/\Hid (∃ k,m<128 ^ k/\l.length+k=5)/\m<=1000000000/\q = .int .i64 m/\v=x/\Hid (Ow Nf 5 wr w v l)/\Below w w wr) (fun q _ _=>(intOf q).toNat);case atStart=>exact ⟨n.toNat,[],_,rfl,⟨5,Bl,rfl⟩,Bl,by rw [Int.toNat_of_nonneg Bl],rfl,Ow.nil _ _ _ _,Br _ _⟩
 case round =>
  obtain ⟨m,l,v,hl,aJ,hm,rfl,rfl,hO,hb⟩:=hrel;have cR:l.length<=5:=by obtain ⟨k,_,hk⟩:=aJ.out;omega
  by_cases h8:m<128
  ·have h8':¬ (128:Int)<=(m:Int):=Bl;have hv:((UInt8.ofNat m).toNat:Int)=(m:Int):=by simp;omega
   have H:=Bq (show D6 n=l ++ [UInt8.ofNat m] by rw [hV.out,<-hl.out,Mk,dif_pos h8]);go_wp2_with (at_builtin;refine Kb (v:=v) Nf Bp rfl (.tmp 18) (.tmp 21) rfl Tryz.underlying22 aL aS aP aQ rfl (UInt8.ofNat m) rfl (hO.out.below ((Br wr wr).alloc Bn _)) ⟨wr,0,Ab⟩ 1 rfl (Nr _ _ _ hv _) Bl Bp (by have:=hb.size;simp;omega) ?_;intro v5 w5 o5 g5;obtain ⟨A9,c9,rfl,-⟩:=id (Rd.of_own o5);simp only [Bd,List.length_singleton] at o5;have cv:=Pm o5;have eK:=(hb.alloc hb.size (.cells #[.int .u8 ((m:Int))] 5)).grown g5 (by have:=hb.size;simp;omega) (fun g hg=>(hO.out.within g hg).1))
   go_ret;exact ⟨by rw [H.out];rfl,eK⟩
  ·have h8':(128:Int)<=(m:Int):=Bl;have eZ:=Bq (show ∃ k,m / 128<128 ^ k/\(l ++ [UInt8.ofNat (m % 128+128)]).length+k=5 by
    obtain ⟨k,hk,bJ⟩:=aJ.out;obtain ⟨k,rfl⟩:∃ k',k=k'+1:=by
     cases k with
     | zero=>simp at hk;omega
     | succ k=>exact ⟨k,rfl⟩
    refine ⟨k,?_,?_⟩
    ·rw [Nat.div_lt_iff_lt_mul Bp,<-Nat.pow_succ];exact hk
    ·rw [Bd,List.length_singleton];omega)
   have hv:((UInt8.ofNat (m % 128+128)).toNat:Int)=(m:Int) % 128+128:=by simp;omega
   have S:Hid ((l ++ [UInt8.ofNat (m % 128+128)]) ++ Mk (m / 128)=Mk n.toNat):=by
    show _=_;rw [<-hl.out,List.append_assoc];conv=>rhs;rw [Mk,dif_neg h8]
    rfl
   go_wp2_with (at_builtin;refine Kb (v:=v) Nf Bp rfl (.tmp 9) (.tmp 14) rfl Tryz.underlying22 aL aS aP aQ rfl (UInt8.ofNat (m % 128+128)) rfl (hO.out.below ((Br wr wr).alloc Bn _)) ⟨wr,0,Ab⟩ 1 rfl (Nr _ _ _ hv _) Bl Bp (by have:=hb.size;simp;omega) ?_;intro v5 w5 o5 g5;obtain ⟨A9,c9,rfl,-⟩:=id (Rd.of_own o5);simp only [Bd,List.length_singleton] at o5;have cv:=Pm o5;have eK:=(hb.alloc hb.size (.cells #[.int .u8 ((m:Int) % 128+128)] 5)).grown g5 (by have:=hb.size;simp;omega) (fun g hg=>(hO.out.within g hg).1))
   exact ⟨⟨m / 128,_,_,S,eZ,Bl,by go_num,rfl,o5,eK⟩,by simp [intOf];omega⟩
theorem Rv (n:Int) (w:World) :
  Calls Am 253 #[.int .i64 n] w (Abu (D6 n) w):=by
 by_cases hi:inB n 0 1000000000=true;case neg =>
  have hif:inB n 0 1000000000=false:=by simpa using hi
  have H:=Bq (show D6 n=[] by unfold D6;rw [if_neg hi]);go_enter Tryz.func253,Tryz.ntmps253;go_wp2_with (go_at_call 155;refine (Ce _ _ _ _).mono ?_;rintro e w3 ⟨rfl,rfl⟩)
  go_ret;exact ⟨by rw [H.out];rfl,Br _ _⟩
 obtain ⟨i0,aL,aS,aP,aQ⟩:=info_parts Vw;have hV:=Bq (show D6 n=Mk n.toNat by unfold D6;rw [if_pos hi]);have uU:0<=n/\n<=1000000000:=by simpa [inB] using hi
 go_enter Tryz.func253,Tryz.ntmps253;go_wp2_with (go_at_call 155;refine (Ce _ _ _ _).mono ?_;rintro e w3 ⟨rfl,rfl⟩)
 go_loopw [0,3] (fun q x wr=>∃ (m:Nat) (l:List UInt8) (v:Value),Hid (l ++ Mk m=Mk n.toNat)/\Hid (∃ k,m<128 ^ k/\l.length+k=5)/\m<=1000000000/\q = .int .i64 m/\v=x/\Hid (Ow Nf 5 wr w v l)/\Below w w wr) (fun q _ _=>(intOf q).toNat);case atStart=>exact ⟨n.toNat,[],_,rfl,⟨5,Bl,rfl⟩,Bl,by rw [Int.toNat_of_nonneg Bl],rfl,Ow.empty Nf 5 w (g:=w.heap.size) Bn,(Br _ _).alloc (Bs _) _⟩
 case round =>
  obtain ⟨m,l,v,hl,aJ,hm,rfl,rfl,hO,hb⟩:=hrel;have cR:l.length<=5:=by obtain ⟨k,_,hk⟩:=aJ.out;omega
  by_cases h8:m<128
  ·have h8':¬ (127:Int)<(m:Int):=Bl;have hv:((UInt8.ofNat m).toNat:Int)=(m:Int):=by simp;omega
   have H:=Bq (show D6 n=l ++ [UInt8.ofNat m] by rw [hV.out,<-hl.out,Mk,dif_pos h8]);go_wp2_with (at_builtin;refine Kb (v:=v) Nf Bp rfl (.tmp 19) (.tmp 22) rfl Tryz.underlying22 aL aS aP aQ rfl (UInt8.ofNat m) rfl (hO.out.below ((Br wr wr).alloc Bn _)) ⟨wr,0,Ab⟩ 1 rfl (Nr _ _ _ hv _) Bl Bp (by have:=hb.size;simp;omega) ?_;intro v5 w5 o5 g5;obtain ⟨A9,c9,rfl,-⟩:=id (Rd.of_own o5);simp only [Bd,List.length_singleton] at o5;have cv:=Pm o5;have eK:=(hb.alloc hb.size (.cells #[.int .u8 ((m:Int))] 5)).grown g5 (by have:=hb.size;simp;omega) (fun g hg=>(hO.out.within g hg).1))
   go_ret;exact ⟨by rw [H.out];rfl,eK⟩
  ·have h8':(127:Int)<(m:Int):=Bl;have eZ:=Bq (show ∃ k,m / 128<128 ^ k/\(l ++ [UInt8.ofNat (m % 128+128)]).length+k=5 by
    obtain ⟨k,hk,bJ⟩:=aJ.out;obtain ⟨k,rfl⟩:∃ k',k=k'+1:=by
     cases k with
     | zero=>simp at hk;omega
     | succ k=>exact ⟨k,rfl⟩
    refine ⟨k,?_,?_⟩
    ·rw [Nat.div_lt_iff_lt_mul Bp,<-Nat.pow_succ];exact hk
    ·rw [Bd,List.length_singleton];omega)
   have hv:((UInt8.ofNat (m % 128+128)).toNat:Int)=128+(m:Int) % 128:=by simp;omega
   have S:Hid ((l ++ [UInt8.ofNat (m % 128+128)]) ++ Mk (m / 128)=Mk n.toNat):=by
    show _=_;rw [<-hl.out,List.append_assoc];conv=>rhs;rw [Mk,dif_neg h8]
    rfl
   go_wp2_with (at_builtin;refine Kb (v:=v) Nf Bp rfl (.tmp 10) (.tmp 15) rfl Tryz.underlying22 aL aS aP aQ rfl (UInt8.ofNat (m % 128+128)) rfl (hO.out.below ((Br wr wr).alloc Bn _)) ⟨wr,0,Ab⟩ 1 rfl (Nr _ _ _ hv _) Bl Bp (by have:=hb.size;simp;omega) ?_;intro v5 w5 o5 g5;obtain ⟨A9,c9,rfl,-⟩:=id (Rd.of_own o5);simp only [Bd,List.length_singleton] at o5;have cv:=Pm o5;have eK:=(hb.alloc hb.size (.cells #[.int .u8 (128+(m:Int) % 128)] 5)).grown g5 (by have:=hb.size;simp;omega) (fun g hg=>(hO.out.within g hg).1))
   exact ⟨⟨m / 128,_,_,S,eZ,Bl,by go_num,rfl,o5,eK⟩,by simp [intOf];omega⟩
theorem Chg.alloc {F:List Nat} {a w:World} (h:Chg F a w) (o:Obj):Chg F a (w.alloc o):=h.trans (Chg.of_below F ((Br _ _).alloc (Bs _) o))
theorem Chg.toGrown {b:Nat} {w w':World} (h:Chg [b] w w'):w.grownBy w' (Ac b) :=
 ⟨h.os,h.tape,h.output,h.size,fun k hk hn=>h.block k hk (fun hm=>hn (by simp only [List.mem_singleton] at hm;rw [hm]))⟩
theorem Drw.alloc {b:Nat} {v:Value} {code:List UInt8} {c:Cur} {w:World} (h:Drw b v code c w) (o:Obj):Drw b v code c (w.alloc o):=h.below ((Br _ _).alloc (Bs _) o)
theorem Drw.drewN {b:Nat} {v:Value} {code:List UInt8} {c:Cur} {w:World} (h:Drw b v code c w) (n:Nat):Drw b v code c (w.drewN n):=⟨h.box.drewN n,h.rd,h.small,h.le⟩
theorem BoxAt.chg {F:List Nat} {b:Nat} {p:Plan} {v:Value} {w w':World} (h:BoxAt b p v w) (hc:Chg F w w') (hn:b∉F):BoxAt b p v w' :=
 h.keep hc.size (fun j=>hc.cell (p:=⟨b,j,Ab⟩) h.lt hn) (fun j=>hc.frozen (p:=⟨b,j,Ab⟩) h.lt hn)
theorem BoxAt.drewN {b:Nat} {p:Plan} {v:Value} {w:World} (h:BoxAt b p v w) (n:Nat):BoxAt b p v (w.drewN n):=⟨h.cells,h.free⟩
theorem EdgeAt.chg {F:List Nat} {b:Nat} {e:Edge} {w w':World} (h:EdgeAt b e w) (hc:Chg F w w') (hn:b∉F):EdgeAt b e w':=by
 obtain ⟨h0,h1,h2⟩:=h.cells;exact ⟨(hc.cell (p:=⟨b,0,Ab⟩) h2 hn).trans h0,(hc.cell (p:=⟨b,1,Ab⟩) h2 hn).trans h1,Ai h2 hc.size⟩
theorem Ow.chg {α:Type} {e:Enc α} {E:TypeId} {w w':World} {base b:Nat} {v:Value} {l:List α} (h:Ow e E w base v l) (hc:Chg [b] w w') (hb:b<base):Ow e E w' base v l :=
 h.grown hc.toGrown (.inr (fun e'=>by have:=h.within b e';omega))
theorem Ow.setLow {α:Type} {e:Enc α} {E:TypeId} {w:World} {base:Nat} {v:Value} {l:List α} (h:Ow e E w base v l) {a:Addr} (ha:a.block<base) (u:Value):Ow e E (w.setCell a u) base v l :=
 h.setOther (fun e'=>by have:=h.within _ e';omega) u
def Mb (id:Int) (r:Run):Bool:=r.id == id
def Da (y:Yard) (id:Int):Int:=if y.runs.length<=8 then Gs (Mb id) y.runs else -1
theorem Qj {y:Yard} {id:Int} (h:¬ y.runs.length<=8):Da y id = -1:=by unfold Da;rw [if_neg h]
theorem Kw {y:Yard} {id:Int} (h:y.runs.length<=8):Da y id=Gs (Mb id) y.runs:=by unfold Da;rw [if_pos h]
theorem Lm {α:Type} (p:α->Bool) (l:List α):Gs p l = -1 \/ ∃ k:Nat,k<l.length/\Gs p l=k:=by
 unfold Gs;cases h:l.findIdx? p with
 | none=>exact .inl rfl
 | some i=>exact .inr ⟨i,(List.findIdx?_eq_some_iff_getElem.1 h).1,rfl⟩
theorem Ek (y:Yard) (id:Int):Da y id = -1 \/ ∃ k:Nat,k<y.runs.length/\Da y id=k:=by
 by_cases h:y.runs.length<=8
 ·rw [Kw h];exact Lm _ _
 ·exact .inl (Qj h)
theorem Es (y:Yard) (s:Sl×Sl) (id:Int) (w:World) (hl:Cb y<=2000000) (h:Bu.rd w w y s) :
  Calls Am 80 #[Dg y s,J U id] w fun e w'=>e = .returned (J U (Da y id))/\Below w w w':=by
 obtain ⟨s1,⟨A,n,c⟩⟩:=s;have h1:RdL Ch w w (Sl.v ⟨A,n,c⟩) y.runs:=h.2;obtain ⟨A',c',hv,-⟩:=h1.form;simp only [Sl.v,Value.slice.injEq] at hv;obtain ⟨rfl,rfl,rfl⟩:=hv;have cR:y.runs.length<=2000000:=Ah (Ck Cw _) (by unfold Cb at hl;omega);have D:=DBox.new 31 [J U y.now,J U y.seq,Aa (s1,(⟨A,y.runs.length,c⟩:Sl)).1.a (s1,(⟨A,y.runs.length,c⟩:Sl)).1.n (s1,(⟨A,y.runs.length,c⟩:Sl)).1.c,Aa (s1,(⟨A,y.runs.length,c⟩:Sl)).2.a (s1,(⟨A,y.runs.length,c⟩:Sl)).2.n (s1,(⟨A,y.runs.length,c⟩:Sl)).2.c] w rfl;have bS:Below w w (w.alloc (.cells #[J U y.now,J U y.seq,Aa (s1,(⟨A,y.runs.length,c⟩:Sl)).1.a (s1,(⟨A,y.runs.length,c⟩:Sl)).1.n (s1,(⟨A,y.runs.length,c⟩:Sl)).1.c,Aa (s1,(⟨A,y.runs.length,c⟩:Sl)).2.a (s1,(⟨A,y.runs.length,c⟩:Sl)).2.n (s1,(⟨A,y.runs.length,c⟩:Sl)).2.c] 31)):=(Br _ _).alloc (Bs _) _;go_enter Tryz.func80,Tryz.ntmps80;go_wp2_with fail
 generalize (w.alloc (.cells #[J U y.now,J U y.seq,Aa (s1,(⟨A,y.runs.length,c⟩:Sl)).1.a (s1,(⟨A,y.runs.length,c⟩:Sl)).1.n (s1,(⟨A,y.runs.length,c⟩:Sl)).1.c,Aa (s1,(⟨A,y.runs.length,c⟩:Sl)).2.a (s1,(⟨A,y.runs.length,c⟩:Sl)).2.n (s1,(⟨A,y.runs.length,c⟩:Sl)).2.c] 31))=W at *
 have k3:W.cell? ⟨w,3,Ab⟩=Ac (Aa A y.runs.length c):=D.cell 3 _ rfl;have h2:=h1.below bS;go_wp2;go_loop [5] (fun i=>∃ k:Nat,k<=y.runs.length/\i = J U k/\Hid (∀ j (hj:j<y.runs.length),j<k->Mb id y.runs[j]=false)) (fun i=>y.runs.length - (intOf i).toNat);case atStart=>exact ⟨0,Ag _,rfl,fun j hj h0=>absurd h0 Bl⟩
 case round =>
  obtain ⟨k,hk,rfl,dI⟩:=hrel;by_cases h8:y.runs.length<=8
  ·by_cases aA:k<y.runs.length
   ·obtain ⟨b,o,s',rfl,aH,hr,c0,-⟩:=h2.run aA;have aB:(k:Int)<(y.runs.length:Int):=Bl;cases hp:Mb id y.runs[k]
    ·have t0:(y.runs[k].id == id)=false:=hp;have S:Hid (∀ j (hj:j<y.runs.length),j<k+1->Mb id y.runs[j]=false):=by
      intro j hj h0;by_cases e:j=k
      ·subst e;exact hp
      ·exact dI.out j hj Bl
     clear hp;go_wp2;exact ⟨⟨k+1,Bl,by go_num,S⟩,by simp [intOf];omega⟩
    ·have t0:(y.runs[k].id == id)=true:=hp;have H:=Bq (show Da y id=k by rw [Kw h8];exact I8 aA (fun j hj=>dI.out j Bl hj) hp);clear hp;go_wp2;go_ret;exact ⟨Dc H.out.symm,bS⟩
   ·have H:=Bq (show Da y id = -1 by rw [Kw h8];exact Jq (fun j hj=>dI.out j hj Bl));have aB:¬ ((k:Int)<(y.runs.length:Int)):=Bl;go_wp2;go_ret;exact ⟨Dc H.out.symm,bS⟩
  ·have H:=Bq (Qj (id:=id) h8);by_cases aA:k<y.runs.length
   ·have aB:(k:Int)<(y.runs.length:Int):=Bl;go_wp2;go_ret;exact ⟨Dc H.out.symm,bS⟩
   ·have aB:¬ ((k:Int)<(y.runs.length:Int)):=Bl;go_wp2;go_ret;exact ⟨Dc H.out.symm,bS⟩
theorem Tk (r:Run) (s:Sl×Sl) (id:Int) (p:Nat) (w:World) (hp:w.cell? ⟨p,0,Ab⟩=Ac (J U id)) (hp':p<w) :
  Calls Am 139 #[Gw r s,.pointer (Ac ⟨p,0,Ab⟩)] w fun e w'=>e = .returned (.bool (Mb id r))/\Below w w w':=by
 unfold Mb;cases t1:(r.id == id)
 all_goals
  go_enter Tryz.func139,Tryz.ntmps139;go_wp2;go_ret;exact ⟨rfl,by repeat (first | exact Br _ _ | refine Ae ?_ Bo _)⟩
theorem Wv (l:List Run) (s:Sl) (id:Int) (p:Nat) (w:World) (hl:l.length<=2000000) (h:RdL Ch w w s.v l) (hp:w.cell? ⟨p,0,Ab⟩=Ac (J U id)) (hp':p<w) :
  Calls Am 138 #[Aa s.a s.n s.c,.func (.func 139) #[] #[.pointer (Ac ⟨p,0,Ab⟩)]] w
   fun e w'=>e = .returned (J U (Gs (Mb id) l))/\Below w w w':=by
 obtain ⟨A,n,c⟩:=s;obtain ⟨A',c',hv,-⟩:=h.form;simp only [Sl.v,Value.slice.injEq] at hv;obtain ⟨rfl,rfl,rfl⟩:=hv;go_enter Tryz.func138,Tryz.ntmps138;go_wp2;go_loopw [8] (fun i wr=>∃ k:Nat,k<=l.length/\i = J U k/\Hid (∀ j (hj:j<k) (hj':j<l.length),Mb id l[j]=false)/\Below w w wr) (fun i _=>l.length - (intOf i).toNat);case atStart=>exact ⟨0,Ag _,rfl,fun j hj=>absurd hj Bl,Br _ _⟩
 case round =>
  obtain ⟨k,hk,rfl,dI,hb⟩:=hrel;by_cases aA:k<l.length
  ·obtain ⟨b,o,s',rfl,aH,hr,c0,c1,c2,c3,c4,c5,c6,c7⟩:=(h.below hb).run aA;have hp1:=(hb.cell (p:=⟨p,0,Ab⟩) hp').trans hp;have hs:=hb.size;cases t1:Mb id l[k]
   ·have S:Hid (∀ j (hj:j<k+1) (hj':j<l.length),Mb id l[j]=false):=by
     intro j hj hj';by_cases e:j=k
     ·subst e;exact t1
     ·exact dI.out j Bl hj'
    go_wp2_with (go_at_call 139;refine (Tk l[k] s' id p _ hp1 Bl).mono ?_;rintro e w1 ⟨rfl,aN⟩;simp only [t1])
    exact ⟨⟨k+1,Bl,by go_num,S,hb.trans (aN.mono hb.size)⟩,by simp [intOf];omega⟩
   ·have H:=Bq (I8 aA (fun j hj=>dI.out j hj Bl) t1);go_wp2_with (go_at_call 139;refine (Tk l[k] s' id p _ hp1 Bl).mono ?_;rintro e w1 ⟨rfl,aN⟩;simp only [t1])
    go_ret;exact ⟨Dc (by rw [H.out]),hb.trans (aN.mono hb.size)⟩
  ·have H:=Bq (Jq (p:=Mb id) (l:=l) (fun j hj=>dI.out j Bl hj));go_wp2;go_ret;exact ⟨Dc (by rw [H.out]),hb⟩
theorem Et (y:Yard) (s:Sl×Sl) (id:Int) (w:World) (hl:Cb y<=2000000) (h:Bu.rd w w y s) :
  Calls Am 75 #[Dg y s,J U id] w fun e w'=>e = .returned (J U (Da y id))/\Below w w w':=by
 obtain ⟨s1,⟨A,n,c⟩⟩:=s;have h1:RdL Ch w w (Sl.v ⟨A,n,c⟩) y.runs:=h.2;obtain ⟨A',c',hv,-⟩:=h1.form;simp only [Sl.v,Value.slice.injEq] at hv;obtain ⟨rfl,rfl,rfl⟩:=hv;have cR:y.runs.length<=2000000:=Ah (Ck Cw _) (by unfold Cb at hl;omega);have D0:=DBox.new 31 [J U y.now,J U y.seq,Aa (s1,(⟨A,y.runs.length,c⟩:Sl)).1.a (s1,(⟨A,y.runs.length,c⟩:Sl)).1.n (s1,(⟨A,y.runs.length,c⟩:Sl)).1.c,Aa (s1,(⟨A,y.runs.length,c⟩:Sl)).2.a (s1,(⟨A,y.runs.length,c⟩:Sl)).2.n (s1,(⟨A,y.runs.length,c⟩:Sl)).2.c] w rfl;have D:=D0.below ((Br _ _).alloc (Bs _) (.cells #[J U id] 3));have E:=DBox.new 3 [J U id] (w.alloc (.cells #[J U y.now,J U y.seq,Aa (s1,(⟨A,y.runs.length,c⟩:Sl)).1.a (s1,(⟨A,y.runs.length,c⟩:Sl)).1.n (s1,(⟨A,y.runs.length,c⟩:Sl)).1.c,Aa (s1,(⟨A,y.runs.length,c⟩:Sl)).2.a (s1,(⟨A,y.runs.length,c⟩:Sl)).2.n (s1,(⟨A,y.runs.length,c⟩:Sl)).2.c] 31)) (b:=w.heap.size+1) Bn;have bS:Below w w ((w.alloc (.cells #[J U y.now,J U y.seq,Aa (s1,(⟨A,y.runs.length,c⟩:Sl)).1.a (s1,(⟨A,y.runs.length,c⟩:Sl)).1.n (s1,(⟨A,y.runs.length,c⟩:Sl)).1.c,Aa (s1,(⟨A,y.runs.length,c⟩:Sl)).2.a (s1,(⟨A,y.runs.length,c⟩:Sl)).2.n (s1,(⟨A,y.runs.length,c⟩:Sl)).2.c] 31)).alloc (.cells #[J U id] 3)):=by repeat (first | exact Br _ _ | refine Ae ?_ Bo _)
 clear D0;by_cases h8:y.runs.length<=8;case neg =>
  have H:=Bq (Qj (id:=id) h8);go_enter Tryz.func75,Tryz.ntmps75;go_wp2;go_ret;exact ⟨Dc H.out.symm,bS⟩
 have H:=Bq (Kw (id:=id) h8);go_enter Tryz.func75,Tryz.ntmps75;go_wp2_with fail
 generalize ((w.alloc (.cells #[J U y.now,J U y.seq,Aa (s1,(⟨A,y.runs.length,c⟩:Sl)).1.a (s1,(⟨A,y.runs.length,c⟩:Sl)).1.n (s1,(⟨A,y.runs.length,c⟩:Sl)).1.c,Aa (s1,(⟨A,y.runs.length,c⟩:Sl)).2.a (s1,(⟨A,y.runs.length,c⟩:Sl)).2.n (s1,(⟨A,y.runs.length,c⟩:Sl)).2.c] 31)).alloc (.cells #[J U id] 3))=W at *
 have e0:W.cell? ⟨w.heap.size+1,0,Ab⟩=Ac (J U id):=E.cell 0 _ rfl;have el:=E.lt;refine (Wv y.runs ⟨A,y.runs.length,c⟩ id (w.heap.size+1) _ cR ((h1.below bS).more bS.size) e0 el).mono ?_;rintro e w1 ⟨rfl,aN⟩;go_wp2;go_ret;exact ⟨Dc H.out.symm,Bt bS aN⟩
theorem Ns (a b:Nat) (ha:a<9223372036854775808) (hb:b<9223372036854775808):bits .xor .i64 (a:Int) (b:Int)=((a ^^^ b:Nat):Int):=by
 have hx:a ^^^ b<2 ^ 63:=Nat.xor_lt_two_pow Bl Bl;have h1:(BitVec.ofInt 64 (a:Int)).toNat=a:=by
  rw [BitVec.ofInt_natCast,BitVec.toNat_ofNat];exact Nat.mod_eq_of_lt Bl
 have h2:(BitVec.ofInt 64 (b:Int)).toNat=b:=by
  rw [BitVec.ofInt_natCast,BitVec.toNat_ofNat];exact Nat.mod_eq_of_lt Bl
 show U.wrap ((BitVec.ofInt 64 (a:Int) ^^^ BitVec.ofInt 64 (b:Int)).toNat:Int)=_;rw [BitVec.toNat_xor,h1,h2,IntKind.wrap_i64];generalize a ^^^ b=y at *
 have hy:y<9223372036854775808:=hx;clear h1 h2 hx;rw [Int.emod_eq_of_lt Bl Bl,Int.add_sub_cancel]
def Ji (x:Nat):Nat:=if x % 2=1 then (x / 2) ^^^ 3988292384 else x / 2
def Gm:Nat->Nat->Nat
 | 0,x=>x
 | k+1,x=>Ji (Gm k x)
def J9 (x:Nat) (b:UInt8):Nat:=Gm 8 (x ^^^ b.toNat)
def Kj (l:List UInt8):Int:=((l.foldl J9 4294967295 ^^^ 4294967295:Nat):Int)
theorem Aa0 {x:Nat} (h:x<4294967296):Ji x<4294967296:=by
 unfold Ji;split
 ·exact Nat.xor_lt_two_pow (n:=32) Bl Bl
 ·omega
theorem Yw (k:Nat) {x:Nat} (h:x<4294967296):Gm k x<4294967296:=by
 induction k with
 | zero=>exact h
 | succ k ih=>exact Aa0 ih
theorem Aa1 {x:Nat} (h:x<4294967296) (b:UInt8):J9 x b<4294967296:=by
 have hb:b.toNat<256:=b.toNat_lt;exact Yw 8 (Nat.xor_lt_two_pow (n:=32) h Bl)
theorem Aa2 (l:List UInt8):∀ {x:Nat},x<4294967296->l.foldl J9 x<4294967296:=by
 induction l with
 | nil=>intro x h;exact h
 | cons b l ih=>intro x h;exact ih (Aa1 h b)
theorem Yx (l:List UInt8):0<=Kj l/\Kj l<=4294967295:=by
 have h:l.foldl J9 4294967295 ^^^ 4294967295<4294967296:=Nat.xor_lt_two_pow (n:=32) (Aa2 l Bl) Bl;unfold Kj;omega
theorem Vd (l:List UInt8) (w:World) (hl:l.length<=2000000) :
  Calls Am 101 #[Aec l] w fun e w'=>e = .returned (J U (Kj l))/\Below w w w':=by
 have aV:(⟨l.toArray⟩:ByteArray).size=l.length:=by simp [ByteArray.size]
 go_enter Tryz.func101,Tryz.ntmps101;go_wp2;go_loopw [3,4] (fun s i wr=>∃ (x k:Nat),k<=l.length/\x<4294967296/\s = J U x/\i = J U k/\Hid ((l.take k).foldl J9 4294967295=x)/\Below w w wr) (fun _ i _=>l.length - (intOf i).toNat);case atStart=>exact ⟨4294967295,0,Ag _,Bp,rfl,rfl,by rw [List.take_zero];rfl,Br _ _⟩
 case round =>
  obtain ⟨x,k,hk,hx,rfl,rfl,hF,hb⟩:=hrel;by_cases aA:k<l.length
  ·have aB:(k:Int)<(l.length:Int):=Bl;have hc:l[k].toNat<256:=l[k].toNat_lt;have ex:=Ns x l[k].toNat Bl Bl;have hX0:x ^^^ l[k].toNat<4294967296:=Nat.xor_lt_two_pow (n:=32) hx Bl;have sQ:bits .xor .i64 (x:Int) (wrap64 (((⟨l.toArray⟩:ByteArray)[k]'(by rw [aV];exact aA)).toNat:Int))=((x ^^^ l[k].toNat:Nat):Int):=by
    rw [<-ex];congr 1;show wrap64 (l[k].toNat:Int)=_;generalize l[k].toNat=q at *
    unfold wrap64;omega
   have HF:=Bq (show (l.take (k+1)).foldl J9 4294967295=Gm 8 (x ^^^ l[k].toNat) by
    rw [List.take_succ_eq_append_getElem aA,List.foldl_append,hF.out];rfl)
   clear hF;go_wp2;generalize x ^^^ l[k].toNat=z at *
   go_loopw [3,5] (fun s q wr=>∃ (y j:Nat),j<=8/\y<4294967296/\s = J U y/\q = J U j/\Hid (Gm j z=y)/\Below w w wr) (fun _ q _=>8 - (intOf q).toNat);case atStart=>exact ⟨z,0,Bl,hX0,by first | rfl | rw [sQ],rfl,rfl,hb⟩
   case round =>
    clear hb;obtain ⟨y,j,hj,hy,rfl,rfl,hC,hb⟩:=hrel;by_cases hj8:j<8
    ·have hj8I:(j:Int)<8:=Bl;have eo:bits .xor .i64 ((y:Int) / 2) 3988292384=((y / 2 ^^^ 3988292384:Nat):Int):=by
      have:=Ns (y / 2) 3988292384 Bl Bl
      rw [<-this];congr 1<;>omega
     have aW:y / 2 ^^^ 3988292384<4294967296:=Nat.xor_lt_two_pow (n:=32) Bl Bl;by_cases ho:y % 2=1
     ·have hoI:(y:Int) % 2=1:=Bl;have HC:=Bq (show Gm (j+1) z=y / 2 ^^^ 3988292384 by
       show Ji (Gm j z)=_;rw [hC.out];unfold Ji;rw [if_pos ho])
      clear ho hC;go_wp2;exact ⟨⟨_,j+1,Bl,aW,rfl,by go_num,HC,hb⟩,by simp [intOf];omega⟩
     ·have hoI:(y:Int) % 2=0:=Bl;have HC:=Bq (show Gm (j+1) z=y / 2 by
       show Ji (Gm j z)=_;rw [hC.out];unfold Ji;rw [if_neg ho])
      clear ho hC;go_wp2;exact ⟨⟨y / 2,j+1,Bl,Bl,by go_num,by go_num,HC,hb⟩,by simp [intOf];omega⟩
    ·have HE:=Bq (show (l.take (k+1)).foldl J9 4294967295=y by
      rw [HF.out,<-hC.out,show j=8 by omega])
     have hj8I:¬ (j:Int)<8:=Bl;clear hC HF;go_wp2;exact ⟨⟨y,k+1,Bl,hy,rfl,by go_num,HE,hb⟩,by simp [intOf];omega⟩
  ·have H:=Bq (show Kj l=((x ^^^ 4294967295:Nat):Int) by
    have:=hF.out
    rw [Bg Bl] at this;unfold Kj;rw [this])
   have ex:bits .xor .i64 (x:Int) 4294967295=((x ^^^ 4294967295:Nat):Int):=Ns x 4294967295 Bl Bl;go_wp2;go_ret;exact ⟨by rw [H.out];rfl,hb⟩
theorem Ve (l:List UInt8) (w:World) (hl:l.length<=2000000) :
  Calls Am 254 #[Aec l] w fun e w'=>e = .returned (J U (Kj l))/\Below w w w':=by
 have aV:(⟨l.toArray⟩:ByteArray).size=l.length:=by simp [ByteArray.size]
 go_enter Tryz.func254,Tryz.ntmps254;go_wp2;go_loopw [3,4] (fun s i wr=>∃ (x k:Nat),k<=l.length/\x<4294967296/\s = J U x/\i = J U k/\Hid ((l.take k).foldl J9 4294967295=x)/\Below w w wr) (fun _ i _=>l.length - (intOf i).toNat);case atStart=>exact ⟨4294967295,0,Ag _,Bp,rfl,rfl,by rw [List.take_zero];rfl,Br _ _⟩
 case round =>
  obtain ⟨x,k,hk,hx,rfl,rfl,hF,hb⟩:=hrel;by_cases aA:k<l.length
  ·have aB:(k:Int)<(l.length:Int):=Bl;have hc:l[k].toNat<256:=l[k].toNat_lt;have ex:=Ns x l[k].toNat Bl Bl;have hX0:x ^^^ l[k].toNat<4294967296:=Nat.xor_lt_two_pow (n:=32) hx Bl;have sQ:bits .xor .i64 (x:Int) (wrap64 (((⟨l.toArray⟩:ByteArray)[k]'(by rw [aV];exact aA)).toNat:Int))=((x ^^^ l[k].toNat:Nat):Int):=by
    rw [<-ex];congr 1;show wrap64 (l[k].toNat:Int)=_;generalize l[k].toNat=q at *
    unfold wrap64;omega
   have HF:=Bq (show (l.take (k+1)).foldl J9 4294967295=Gm 8 (x ^^^ l[k].toNat) by
    rw [List.take_succ_eq_append_getElem aA,List.foldl_append,hF.out];rfl)
   clear hF;go_wp2;generalize x ^^^ l[k].toNat=z at *
   go_loopw [3,5] (fun s q wr=>∃ (y j:Nat),j<=8/\y<4294967296/\s = J U y/\q = J U j/\Hid (Gm j z=y)/\Below w w wr) (fun _ q _=>8 - (intOf q).toNat);case atStart=>exact ⟨z,0,Bl,hX0,by first | rfl | rw [sQ],rfl,rfl,hb⟩
   case round =>
    clear hb;obtain ⟨y,j,hj,hy,rfl,rfl,hC,hb⟩:=hrel;by_cases hj8:j<8
    ·have hj8I:(j:Int)<8:=Bl;have eo:bits .xor .i64 ((y:Int) / 2) 3988292384=((y / 2 ^^^ 3988292384:Nat):Int):=by
      have:=Ns (y / 2) 3988292384 Bl Bl
      rw [<-this];congr 1<;>omega
     have aW:y / 2 ^^^ 3988292384<4294967296:=Nat.xor_lt_two_pow (n:=32) Bl Bl;by_cases ho:y % 2=1
     ·have hoI:(y:Int) % 2=1:=Bl;have HC:=Bq (show Gm (j+1) z=y / 2 ^^^ 3988292384 by
       show Ji (Gm j z)=_;rw [hC.out];unfold Ji;rw [if_pos ho])
      clear ho hC;go_wp2;exact ⟨⟨_,j+1,Bl,aW,rfl,by go_num,HC,hb⟩,by simp [intOf];omega⟩
     ·have hoI:(y:Int) % 2=0:=Bl;have HC:=Bq (show Gm (j+1) z=y / 2 by
       show Ji (Gm j z)=_;rw [hC.out];unfold Ji;rw [if_neg ho])
      clear ho hC;go_wp2;exact ⟨⟨y / 2,j+1,Bl,Bl,by go_num,by go_num,HC,hb⟩,by simp [intOf];omega⟩
    ·have HE:=Bq (show (l.take (k+1)).foldl J9 4294967295=y by
      rw [HF.out,<-hC.out,show j=8 by omega])
     have hj8I:¬ (j:Int)<8:=Bl;clear hC HF;go_wp2;exact ⟨⟨y,k+1,Bl,hy,rfl,by go_num,HE,hb⟩,by simp [intOf];omega⟩
  ·have H:=Bq (show Kj l=((x ^^^ 4294967295:Nat):Int) by
    have:=hF.out
    rw [Bg Bl] at this;unfold Kj;rw [this])
   have ex:bits .xor .i64 (x:Int) 4294967295=((x ^^^ 4294967295:Nat):Int):=Ns x 4294967295 Bl Bl;go_wp2;go_ret;exact ⟨by rw [H.out];rfl,hb⟩
theorem Vf (l l':List Edge) (s s':Sl) (w:World) (hl:l.length<=2000000) (hl':l'.length<=2000000) (h:RdL Dv w w s.v l) (h':RdL Dv w w s'.v l') :
  Calls Am 223 #[Aa s.a s.n s.c,Aa s'.a s'.n s'.c] w fun e w'=>e = .returned (.bool (decide (l=l')))/\Below w w w':=by
 obtain ⟨A,n,c⟩:=s;obtain ⟨A',n',c'⟩:=s';obtain ⟨A1,e1,hv,-⟩:=h.form;obtain ⟨A2,e2,rW,-⟩:=h'.form;simp only [Sl.v,Value.slice.injEq] at hv rW;obtain ⟨rfl,rfl,rfl⟩:=hv;obtain ⟨rfl,rfl,rfl⟩:=rW;by_cases aC:l.length=l'.length
 ·have bS:((l.length:Int) != (l'.length:Int))=false:=by simp [aC]
  have Hne:=Bq aC;clear aC;go_enter Tryz.func223,Tryz.ntmps223;go_wp2;go_loopw [13] (fun i wr=>∃ k:Nat,k<=l.length/\i = J U k/\Hid (l.take k=l'.take k)/\Below w w wr) (fun i _=>l.length - (intOf i).toNat);case atStart=>exact ⟨0,Ag _,rfl,rfl,Br _ _⟩
  case round =>
   obtain ⟨k,hk,rfl,jW,hb⟩:=hrel;by_cases aA:k<l.length
   ·have eP:k<l'.length:=by rw [<-Hne.out];exact aA
    obtain ⟨b,o,_,rfl,aH,_,c0,c1⟩:=(h.below hb).edge aA;obtain ⟨b',o',_,rfl,bI,_,d0,d1⟩:=(h'.below hb).edge eP;have i1:(k:Int)<(l.length:Int):=Bl;have i2:(k:Int)<(l'.length:Int):=Bl;have no:l[k]≠l'[k]->Hid (decide (l=l')=false):=fun hx=>by
     show decide (l=l')=false;simp only [decide_eq_false_iff_not];intro e;subst e;exact hx rfl
    by_cases h0:l[k].fr=l'[k].fr;case neg =>
     have t0:(l[k].fr == l'[k].fr)=false:=beq_eq_false_iff_ne.2 h0;have H:=no (fun e=>h0 (by rw [e]));clear h0 no;go_wp2;go_quiet (fail);go_wp2;go_ret;exact ⟨Bv H.out.symm,Cj hb _⟩
    rw [<-h0] at d0;have H0:=Bq h0;clear h0;by_cases h1:l[k].to=l'[k].to;case neg =>
     have t1:(l[k].to == l'[k].to)=false:=beq_eq_false_iff_ne.2 h1;have H:=no (fun e=>h1 (by rw [e]));clear h1 no;go_wp2;go_quiet (fail);go_wp2;go_ret;exact ⟨Bv H.out.symm,Cj hb _⟩
    rw [<-h1] at d1;have H1:=Bq h1;clear h1;have S:Hid (l.take (k+1)=l'.take (k+1)):=by
     show l.take (k+1)=l'.take (k+1);have hx:l[k]=l'[k]:=by
      have g0:=H0.out ;have g1:=H1.out;revert g0 g1;cases l[k];cases l'[k];simp only;rintro rfl;rintro rfl;rfl
     rw [Cn l k aA,Cn l' k eP,jW.out,hx]
    clear no;go_wp2;go_quiet (fail);go_wp2;exact ⟨⟨k+1,Bl,by go_num,S,Cj hb _⟩,by simp [intOf];omega⟩
   ·go_wp2;go_ret;refine ⟨Bv ?_,hb⟩;have h1:=jW.out;rw [Bg Bl,Bg (by rw [<-Hne.out];omega)] at h1;simp [h1]
 ·have bS:((l.length:Int) != (l'.length:Int))=true:=by simp;omega
  go_enter Tryz.func223,Tryz.ntmps223;go_wp2;go_ret;refine ⟨Bv ?_,Br _ _⟩;simp only [Bool.false_eq,decide_eq_false_iff_not];intro e;exact aC (by rw [e])
theorem Ww (x y:Plan) (s r:Sl) (w:World) (hl:Eb x<=2000000) (hl':Eb y<=2000000) (h:Ca.rd w w x s) (h':Ca.rd w w y r) :
  Calls Am 161 #[Ja x s,Ja y r] w fun e w'=>e = .returned (.bool (decide (x=y)))/\Below w w w':=by
 have cW:∀ W,Below w w W->Ca.rd W W x s:=fun W hW=>Ca.rd_more (Ca.rd_below h hW) hW.size;have cM:∀ W,Below w w W->Ca.rd W W y r:=fun W hW=>Ca.rd_more (Ca.rd_below h' hW) hW.size;have no:∀ {P:Prop},(x=y->P) -> ¬ P->Hid (decide (x=y)=false):=fun f g=>decide_eq_false (fun e=>g (f e));have a1:Below w w (w.alloc (.cells #[J U x.prio,J U x.most,J U x.wait,J U x.tasks,Aa s.a s.n s.c] 43)):=(Br _ _).alloc (Bs _) _;have a2:Below (w.alloc (.cells #[J U x.prio,J U x.most,J U x.wait,J U x.tasks,Aa s.a s.n s.c] 43)) (w.alloc (.cells #[J U x.prio,J U x.most,J U x.wait,J U x.tasks,Aa s.a s.n s.c] 43)) ((w.alloc (.cells #[J U x.prio,J U x.most,J U x.wait,J U x.tasks,Aa s.a s.n s.c] 43)).alloc (.cells #[J U y.prio,J U y.most,J U y.wait,J U y.tasks,Aa r.a r.n r.c] 43)):=(Br _ _).alloc (Bs _) _;have X:=(DBox.new 43 [J U x.prio,J U x.most,J U x.wait,J U x.tasks,Aa s.a s.n s.c] w rfl).below a2;have Y:=DBox.new 43 [J U y.prio,J U y.most,J U y.wait,J U y.tasks,Aa r.a r.n r.c] (w.alloc (.cells #[J U x.prio,J U x.most,J U x.wait,J U x.tasks,Aa s.a s.n s.c] 43)) (b:=w.heap.size+1) Bn;have B0:=Bt a1 a2;clear a1 a2;by_cases h0:x.prio=y.prio;case neg =>
  have t0:(x.prio == y.prio)=false:=beq_eq_false_iff_ne.2 h0;have H:=no (fun e=>by rw [e]) h0;clear h0 no cW cM;go_enter Tryz.func161,Tryz.ntmps161;go_wp2;go_ret;exact ⟨Bv H.out.symm,B0⟩
 have t0:(x.prio == y.prio)=true:=by simp [h0]
 have H0:=Bq h0;clear h0;by_cases h1:x.most=y.most;case neg =>
  have t1:(x.most == y.most)=false:=beq_eq_false_iff_ne.2 h1;have H:=no (fun e=>by rw [e]) h1;clear h1 no cW cM;go_enter Tryz.func161,Tryz.ntmps161;go_wp2;go_ret;exact ⟨Bv H.out.symm,B0⟩
 have t1:(x.most == y.most)=true:=by simp [h1]
 have H1:=Bq h1;clear h1;by_cases h2:x.wait=y.wait;case neg =>
  have t2:(x.wait == y.wait)=false:=beq_eq_false_iff_ne.2 h2;have H:=no (fun e=>by rw [e]) h2;clear h2 no cW cM;go_enter Tryz.func161,Tryz.ntmps161;go_wp2;go_ret;exact ⟨Bv H.out.symm,B0⟩
 have t2:(x.wait == y.wait)=true:=by simp [h2]
 have H2:=Bq h2;clear h2;by_cases h3:x.tasks=y.tasks;case neg =>
  have t3:(x.tasks == y.tasks)=false:=beq_eq_false_iff_ne.2 h3;have H:=no (fun e=>by rw [e]) h3;clear h3 no cW cM;go_enter Tryz.func161,Tryz.ntmps161;go_wp2;go_ret;exact ⟨Bv H.out.symm,B0⟩
 have t3:(x.tasks == y.tasks)=true:=by simp [h3]
 have H3:=Bq h3;clear h3;go_enter Tryz.func161,Tryz.ntmps161;go_wp2_with fail
 generalize ((w.alloc (.cells #[J U x.prio,J U x.most,J U x.wait,J U x.tasks,Aa s.a s.n s.c] 43)).alloc (.cells #[J U y.prio,J U y.most,J U y.wait,J U y.tasks,Aa r.a r.n r.c] 43))=w0 at *
 refine (Vf x.edges y.edges s r _ (Ah (Ck D4 _) (by unfold Eb at hl;omega)) (Ah (Ck D4 _) (by unfold Eb at hl';omega)) (cW _ B0) (cM _ B0)).mono ?_;rintro e w1 ⟨rfl,b1⟩;replace X:=X.below b1;replace Y:=Y.below b1;replace B0:=Bt B0 b1;have u0:=X.cell 0 _ rfl;have v0:=Y.cell 0 _ rfl;have u1:=X.cell 1 _ rfl;have v1:=Y.cell 1 _ rfl;have u2:=X.cell 2 _ rfl;have v2:=Y.cell 2 _ rfl;have u3:=X.cell 3 _ rfl;have v3:=Y.cell 3 _ rfl;have u4:=X.cell 4 _ rfl;have v4:=Y.cell 4 _ rfl;have us:=X.lt;have vs:=Y.lt;by_cases h4:x.edges=y.edges;case neg =>
  have t4:decide (x.edges=y.edges)=false:=decide_eq_false h4;have H:=no (fun e=>by rw [e]) h4;rw [t4];clear h4 no cW cM t4;go_wp2;go_ret;exact ⟨Bv H.out.symm,B0⟩
 have t4:decide (x.edges=y.edges)=true:=decide_eq_true h4;rw [t4];have H4:=Bq h4;clear h4 t4 b1;have H:Hid (decide (x=y)=true):=decide_eq_true (by
  have e0:=H0.out ;have e1:=H1.out ;have e2:=H2.out ;have e3:=H3.out ;have e4:=H4.out;cases x;cases y;simp only at e0 e1 e2 e3 e4;subst e0 e1 e2 e3 e4;rfl)
 clear no cW cM;go_wp2;go_ret;exact ⟨Bv H.out.symm,B0⟩
noncomputable def tf (p:Prop):Bool:=@decide p (Classical.propDecidable p)
theorem Dj {p:Prop} (h:p):tf p=true:=by unfold tf;exact @decide_eq_true p (Classical.propDecidable p) h
theorem Cf {p:Prop} (h:¬ p):tf p=false:=by unfold tf;exact @decide_eq_false p (Classical.propDecidable p) h
theorem Lq {p:Prop} : tf p=true ↔ p:=by
 constructor
 ·intro h;by_cases hp:p
  ·exact hp
  ·rw [Cf hp] at h;cases h
 ·exact Dj
theorem Adp {p q:Prop} (h:p ↔ q):tf p=tf q:=by
 by_cases hp:p
 ·rw [Dj hp,Dj (h.1 hp)]
 ·rw [Cf hp,Cf (fun hq=>hp (h.2 hq))]
def Er (a b:Entry):Bool:=decide (b.prio<a.prio) || ((a.prio == b.prio) && decide (a.seq<b.seq))
def Hf (l:List Entry):Prop:=l.length<=80 /\ ∀ i (h:i+1<l.length),Er l[i] l[i+1]=true
def Cs (r:Run) (k:Nat):Task:=r.tasks.getD k ⟨0,0,0,0⟩
theorem Cr {r:Run} {k:Nat} (h:k<r.tasks.length):Cs r k=r.tasks[k]:=by unfold Cs;rw [List.getD_eq_getElem?_getD,List.getElem?_eq_getElem h];rfl
def Hg (r:Run) (l:List Nat):Nat:=(l.filter fun b=>(Cs r b).state != 4).length
def H7 (r:Run) (t:Nat):Nat:=Hg r (Dq (Dn r.plan) r.plan.tasks.toNat t)
theorem Nt (r:Run) (l:List Nat):Hg r l<=l.length:=List.length_filter_le _ _
theorem Tm {r:Run} {l:List Nat} {k:Nat} (hk:k<l.length) (h:(Cs r l[k]).state≠4):Hg r (l.take (k+1))=Hg r (l.take k)+1:=by
 unfold Hg;rw [Cn l k hk,List.filter_append,Bd,List.filter_cons,if_pos (by simpa using h)];rfl
theorem Vx {r:Run} {l:List Nat} {k:Nat} (hk:k<l.length) (h:(Cs r l[k]).state=4):Hg r (l.take (k+1))=Hg r (l.take k):=by
 unfold Hg;rw [Cn l k hk,List.filter_append,Bd,List.filter_cons,if_neg (by simp [h])];rfl
def Ni (x:Task) (N:Nat) (most:Int):Prop :=
 (1<=x.state/\x.state<=6)/\x.need=N/\(0<=x.try_/\x.try_<=most)/\(x.state=3->1<=x.until_/\x.until_<=1000000000)/\(x.state≠3->x.until_=0) /\
 (x.state=1->0<x.need)/\(x.state=2->x.need=0/\x.try_<most)/\(x.state=3\/x.state=4\/x.state=5->x.need=0/\1<=x.try_)
def Gt (r:Run) (t:Nat):Prop:=Ni (Cs r t) (H7 r t) r.plan.most
def Dl (l:List Task) (s:Int):Nat:=(l.filter fun x=>x.state == s).length
theorem Nu (l:List Task) (s:Int):Dl l s<=l.length:=List.length_filter_le _ _
theorem Vy (l:List Task) (x:Task) (s:Int):Dl (l ++ [x]) s=Dl l s+if x.state=s then 1 else 0:=by
 unfold Dl;rw [List.filter_append,Bd];congr 1;by_cases h:x.state=s<;>simp [h]
theorem Yy {l:List Task} {s:Int} {k:Nat} (hk:k<l.length) (h:l[k].state=s):Dl (l.take (k+1)) s=Dl (l.take k) s+1:=by
 rw [Cn l k hk,Vy,if_pos h]
theorem Abv {l:List Task} {s:Int} {k:Nat} (hk:k<l.length) (h:¬ l[k].state=s):Dl (l.take (k+1)) s=Dl (l.take k) s:=by
 rw [Cn l k hk,Vy,if_neg h,Nat.add_zero]
def Kh (l:List Task):Nat:=Dl l 1+Dl l 2+Dl l 3
theorem Adq {l:List Task} (h:∀ x∈l,1<=x.state/\x.state<=6):Kh l+Dl l 4+Dl l 5+Dl l 6=l.length:=by
 unfold Kh;induction l with
 | nil=>rfl
 | cons x l ih =>
  have h1:=ih (fun y hy=>h y (List.mem_cons_of_mem _ hy));have hx:=h x (List.mem_cons_self ..);have hc:∀ s,Dl (x :: l) s=(if x.state=s then 1 else 0)+Dl l s:=by
   intro s;unfold Dl;by_cases h:x.state=s<;>simp [h];omega
  simp only [hc,List.length_cons];rcases (show x.state=1\/x.state=2\/x.state=3\/x.state=4\/x.state=5\/x.state=6 by omega) with e | e | e | e | e | e<;>simp [e]<;>omega
def stL (l:List Task):Int :=
 if Dl l 4=l.length then 2 else if Dl l 5=1/\Kh l=0 then 3 else if Dl l 5=0/\0<Dl l 6/\Kh l=0 then 4 else if Dl l 5=0/\Dl l 6=0 then 1 else 0
def Gn (r:Run):Prop :=
 (1<=r.id/\r.id<=9999)/\Co r.plan=0/\(r.tasks.length:Int)=r.plan.tasks/\(∀ t,t<r.tasks.length->Gt r t)/\r.state=stL r.tasks/\r.state≠0
def Cd (y:Yard):List Entry:=y.shelf.flatten
def Js (y:Yard) (id:Int):Run:=y.runs.getD (Da y id).toNat ⟨0,⟨0,0,0,0,[]⟩,0,[]⟩
theorem Gf {y:Yard} {id:Int} {k:Nat} (hk:k<y.runs.length) (h:Da y id=k):Js y id=y.runs[k]:=by
 unfold Js;rw [h,Ao,List.getD_eq_getElem?_getD,List.getElem?_eq_getElem hk];rfl
def Tn (y:Yard) (e:Entry):Prop:=0<=Da y e.run/\(0<=e.task/\e.task<(Js y e.run).tasks.length)/\(Cs (Js y e.run) e.task.toNat).state=2
noncomputable def El (y:Yard) (e:Entry):Bool:=tf (Tn y e)
def Gp (l:List Run):Nat:=((l.filter fun r=>r.state == 1).map fun r=>r.tasks.length).sum
noncomputable def Fh (y:Yard) (l:List Entry):Nat:=(l.filter fun e=>!El y e).length
noncomputable def Fo (y:Yard):Nat:=Gp y.runs+Fh y (Cd y)
def Jo (id:Int) (t:Nat) (e:Entry):Bool:=(e.run == id) && (e.task == (t:Int))
def I0 (id:Int) (t:Nat) (l:List Entry):Nat:=(l.filter (Jo id t)).length
def Oa (now:Int) (r:Run) (es:List Entry) (t:Nat):Prop :=
 ((Cs r t).state=2->(∀ e∈es,Jo r.id t e=true->e.prio=r.plan.prio)/\I0 r.id t es=1)/\((Cs r t).state=3->now+1<=(Cs r t).until_/\(Cs r t).until_<=now+r.plan.wait)
def Jt (now:Int) (r:Run) (es:List Entry):Prop:=∀ t,t<r.tasks.length->Oa now r es t
def Dd (y:Yard):Prop :=
 (0<=y.now/\y.now<=999999980)/\(1<=y.seq/\y.seq<=1000000000)/\y.shelf.length=4/\(∀ l∈y.shelf,Hf l)/\(∀ e∈Cd y,1<=e.seq/\e.seq<=y.seq - 1)/\((Cd y).map (·.seq)).Nodup /\
 y.runs.length<=8/\(∀ k (h:k<y.runs.length),Gn y.runs[k]/\Da y y.runs[k].id=k)/\(∀ r∈y.runs,Jt y.now r (Cd y))/\Fo y<=40
theorem To {y:Yard} {l:List Entry} {k:Nat} (hk:k<l.length) (h:El y l[k]=false):Fh y (l.take (k+1))=Fh y (l.take k)+1:=by
 unfold Fh;rw [Cn l k hk,List.filter_append,Bd,List.filter_cons,if_pos (by simp [h])];rfl
theorem Vz {y:Yard} {l:List Entry} {k:Nat} (hk:k<l.length) (h:El y l[k]=true):Fh y (l.take (k+1))=Fh y (l.take k):=by
 unfold Fh;rw [Cn l k hk,List.filter_append,Bd,List.filter_cons,if_neg (by simp [h])];rfl
theorem Nv (y:Yard) (l:List Entry):Fh y l<=l.length:=List.length_filter_le _ _
theorem Ob (y:Yard) (l l':List Entry):Fh y (l ++ l')=Fh y l+Fh y l':=by
 unfold Fh;rw [List.filter_append,Bd]
theorem V0 {id:Int} {t:Nat} {l:List Entry} {k:Nat} (hk:k<l.length) (h:Jo id t l[k]=true):I0 id t (l.take (k+1))=I0 id t (l.take k)+1:=by
 unfold I0;rw [Cn l k hk,List.filter_append,Bd,List.filter_cons,if_pos h];rfl
theorem Yz {id:Int} {t:Nat} {l:List Entry} {k:Nat} (hk:k<l.length) (h:Jo id t l[k]=false):I0 id t (l.take (k+1))=I0 id t (l.take k):=by
 unfold I0;rw [Cn l k hk,List.filter_append,Bd,List.filter_cons,if_neg (by simp [h])];rfl
theorem Y0 (id:Int) (t:Nat) (l:List Entry):I0 id t l<=l.length:=List.length_filter_le _ _
theorem Tp {l:List Run} {k:Nat} (hk:k<l.length) (h:l[k].state=1):Gp (l.take (k+1))=Gp (l.take k)+l[k].tasks.length:=by
 unfold Gp;rw [Cn l k hk,List.filter_append,List.map_append,List.sum_append,List.filter_cons,if_pos (by simp [h])];simp
theorem V1 {l:List Run} {k:Nat} (hk:k<l.length) (h:¬ l[k].state=1):Gp (l.take (k+1))=Gp (l.take k):=by
 unfold Gp;rw [Cn l k hk,List.filter_append,List.map_append,List.sum_append,List.filter_cons,if_neg (by simp [h])];simp
theorem Ach (l:List Run):Gp l<=(l.map fun r=>r.tasks.length).sum:=by
 unfold Gp;induction l with
 | nil=>simp
 | cons r l ih =>
  rw [List.filter_cons];split
  ·simp only [List.map_cons,List.sum_cons];omega
  ·simp only [List.map_cons,List.sum_cons];omega
end Go.Proofs.YtonlnjdempbfoaaGreat
