/-
  Data of the type Plan: how it lies in memory, and the walks of the laws' helpers on it. Written by program (deep.py). Data of the type Memo: how it lies in memo
-/
import Derived.Test.YtecnbnbopcblgaaGreatZAk0
import Derived.Test.YtecnbnbopcblgaaGreatZAk1
import Derived.Test.YtecnbnbopcblgaaGreatZAk2
import Derived.IntWalk
import Derived.Sort.OwnSortedInts
namespace Go.Proofs.YtecnbnbopcblgaaGreat
open Go.RowKit
set_option maxRecDepth 100000
set_option maxHeartbeats 4000000
set_option linter.unusedVariables false
set_option linter.unusedSimpArgs false
open Value renaming int->J,slice->Aa
open IntKind renaming i64->U
open Option renaming none->Ab,some->Ac
open Below renaming setCell->Ad,alloc->Ae
open Nat renaming zero_le->Ag,le_trans->Ah,lt_of_lt_of_le->Ai
open Go renaming bodyPost_ret->Aj
open Go.Proofs.Tryz renaming prog->Am
open Int renaming toNat_natCast->Ao,eq_ofNat_of_zero_le->Ap
open List renaming length_map->Ar,getElem_mem->Aw,nodup_append->Ax,length_take->Az,length_append->Bd,take_of_length_le->Bg,mem_append->Bi
open World renaming size_alloc->Bj,size_setCell->Bk
open Go.Proofs.Tryz
theorem Ajc {p:Prop} (h:p:=by have H:=Br (show decide (x=y)=false by simp only [decide_eq_false_iff_not];intro e;exact h1 (by rw [e]));rw [decide_eq_false h1];clear h1;go_wp2;go_ret;exact ⟨Bx (by first | exact H.out.symm | rfl),by exact B1⟩):p:=h
theorem Ajj {p:Prop} (h:p:=by
 refine ⟨s0,F0,rfl,?_,?_,?_⟩
 ·repeat (first | (with_reducible exact o0) | refine Dt.ow_set _ ?_ (by intro hm;have:=n0 _ hm;(try simp only [Bj,Bk] at this);omega) _)
 ·intro b hb
  have:=n0 b hb
  omega
 ·repeat (first | (with_reducible exact B0) | (with_reducible exact Bs _ _) | refine Ad ?_ Bp _ | refine Ae ?_ Bp _)):p:=h
theorem Aj0 {p:Prop} (h:p:=by go_wp2;refine ⟨⟨k+1,Bl,by go_num,?_,Bv hb (ha.out wr),by simp;omega⟩,clM⟩;rw [S.out];exact ho.below (ha.out wr)):p:=h
theorem Aj5 {p:Prop} (h:p:=by repeat (first | (with_reducible exact B1) | (with_reducible exact Bs _ _) | refine Ad ?_ Bp _ | refine Ae ?_ Bp _)):p:=h
theorem Aj8 {p:Prop} (h:p:=by have H:=Br (show decide (x=y)=false by simp only [decide_eq_false_iff_not];intro e;exact h3 (by rw [e]));rw [decide_eq_false h3];clear h3;go_wp2;go_ret;exact ⟨Bx (by first | exact H.out.symm | rfl),by exact B3⟩):p:=h
theorem Aj9 {p:Prop} (h:p:=by have H:=Br (show decide (x=y)=false by simp only [decide_eq_false_iff_not];intro e;exact h2 (by rw [e]));rw [decide_eq_false h2];clear h2;go_wp2;go_ret;exact ⟨Bx (by first | exact H.out.symm | rfl),by exact B2⟩):p:=h
theorem Akz {p:Prop} (h:p:=by go_wp2;go_ret;exact ⟨-1,rfl,.inl rfl,B0⟩):p:=h
theorem Ak2 {p:Prop} (h:p:=by rintro e w2 ⟨rfl,o2,g2⟩;have aK:=hb.grown g2 hb.size (fun g hg=>by have:=ho.within _ hg;omega);go_wp2;go_ret;exact ⟨_,rfl,o2.more Bl,aK⟩):p:=h
theorem Ak7 {p:Prop} (h:p:=by
 induction l with
 | nil=>rfl
 | cons a l ih=>rw [List.flatMap_cons,ih];rfl):p:=h
theorem Alz {p:Prop} (h:p:=by
 have:=dV j aA
 unfold Co Ec at this;omega):p:=h
theorem Amh {p:Prop} (h:p:=by
 intro u hu;rcases Bi.1 hu with hu | hu
 ·have:=n0 u hu
  omega
 ·have:=n1 u hu
  omega):p:=h
theorem Amq {p:Prop} (h:p:=by go_wp2;go_ret;exact ⟨-1,rfl,.inl rfl,B1⟩):p:=h
theorem Am2 {p:Prop} (h:p:=by
 show _=_;rw [<-hl.out,List.append_assoc];conv=>rhs;rw [Nu,dif_neg h8]
 rfl):p:=h
theorem Ani {p:Prop} (h:p:=by have h1:=Gd En l j;have h2:=Et (num:=En) (cnt:=Ee) (K:=13) L8 l;omega):p:=h
theorem Anj {p:Prop} (h:p:=by have h1:=Gd Fd l j;have h2:=Et (num:=Fd) (cnt:=Co) (K:=13) Nb l;omega):p:=h
theorem Anq {p:Prop} (h:p:=by have ha:Hid (∀ w:World,Below w w (w.alloc (.cells #[J U (a:Int),J U (d:Int)] 206))):=fun w=>Bu;clear hx;exact Aj0):p:=h
@[go_sem] abbrev Jo (x:Plan) (s:Sl):Value:=.agg #[.int .i64 x.prio,.int .i64 x.most,.int .i64 x.wait,.int .i64 x.tasks,.slice s.a s.n s.c]
abbrev Ce:Dt Plan:=Dt.via (Dt.list Ep) (·.edges) (fun q=>[.int .i64 q.1.prio,.int .i64 q.1.most,.int .i64 q.1.wait,.int .i64 q.1.tasks,.slice q.2.a q.2.n q.2.c]) 5 (fun _=>rfl) (fun q u hu=>by simp at hu;rcases hu with rfl | rfl | rfl | rfl | rfl<;>rfl)
def Ec (x:Plan):Nat:=Ek Ei x.edges
def Y2 (x:Plan):Prop:=Wf x.prio/\Wf x.most/\Wf x.wait/\Wf x.tasks/\wfL Ux x.edges
theorem U0 (x:Plan) (s:Sl) (w:World) (hl:Ec x<=2000000) (h:Ce.rd w w x s) :
  Calls Am 111 #[Jo x s] w (Dv Ce Jo x w):=by
 have bG:∀ W,Below w w W->Ce.rd W W x s:=fun W hW=>Ce.rd_more (Ce.rd_below h hW) hW.size;go_enter func111,ntmps111;go_wp2_with fail
 refine (Aa3 x.edges s _ (by unfold Ec at hl;omega) ((bG _ (by repeat (first | exact Bs _ _ | refine Ae ?_ Bp _))))).mono ?_;rintro e w0 ⟨s0,F0,rfl,o0,n0,aN⟩;obtain ⟨q0,p0⟩:=Gf aN;have z0:=aN.size;simp only [Bj,Bk] at z0 n0;have B0:Below w w w0:=Bv (by repeat (first | exact Bs _ _ | refine Ae ?_ Bp _)) aN;go_wp2;refine Aj (v:=Jo x s0) ?_ rfl ?_
 ·simp [Jo,results,results111,go_sem,q0]
 ·exact Ajj
theorem U1 (x y:Plan) (s r:Sl) (w:World) (hl:Ec x<=2000000) (hl':Ec y<=2000000) (h:Ce.rd w w x s) (h':Ce.rd w w y r) :
  Calls Am 114 #[Jo x s,Jo y r] w fun e w'=>e = .returned (.bool (decide (x=y)))/\Below w w w':=by
 have bG:∀ W,Below w w W->Ce.rd W W x s:=fun W hW=>Ce.rd_more (Ce.rd_below h hW) hW.size;have cC:∀ W,Below w w W->Ce.rd W W y r:=fun W hW=>Ce.rd_more (Ce.rd_below h' hW) hW.size;by_cases h0:x.prio=y.prio;case neg =>
  have t0:(x.prio != y.prio)=true:=by rw [bne_iff_ne];exact h0
  have H:=Br (show decide (x=y)=false by simp only [decide_eq_false_iff_not];intro e;exact h0 (by rw [e]));clear h0;go_enter func114,ntmps114;go_wp2;go_ret;exact ⟨Bx (by first | exact H.out.symm | rfl),by repeat (first | exact Bs _ _ | refine Ae ?_ Bp _)⟩
 have t0:(x.prio != y.prio)=false:=by simp [h0]
 have H0:=Br h0;clear h0;by_cases h1:x.most=y.most;case neg =>
  have t1:(x.most != y.most)=true:=by rw [bne_iff_ne];exact h1
  have H:=Br (show decide (x=y)=false by simp only [decide_eq_false_iff_not];intro e;exact h1 (by rw [e]));clear h1;go_enter func114,ntmps114;go_wp2;go_ret;exact ⟨Bx (by first | exact H.out.symm | rfl),by repeat (first | exact Bs _ _ | refine Ae ?_ Bp _)⟩
 have t1:(x.most != y.most)=false:=by simp [h1]
 have H1:=Br h1;clear h1;by_cases h2:x.wait=y.wait;case neg =>
  have t2:(x.wait != y.wait)=true:=by rw [bne_iff_ne];exact h2
  have H:=Br (show decide (x=y)=false by simp only [decide_eq_false_iff_not];intro e;exact h2 (by rw [e]));clear h2;go_enter func114,ntmps114;go_wp2;go_ret;exact ⟨Bx (by first | exact H.out.symm | rfl),by repeat (first | exact Bs _ _ | refine Ae ?_ Bp _)⟩
 have t2:(x.wait != y.wait)=false:=by simp [h2]
 have H2:=Br h2;clear h2;by_cases h3:x.tasks=y.tasks;case neg =>
  have t3:(x.tasks != y.tasks)=true:=by rw [bne_iff_ne];exact h3
  have H:=Br (show decide (x=y)=false by simp only [decide_eq_false_iff_not];intro e;exact h3 (by rw [e]));clear h3;go_enter func114,ntmps114;go_wp2;go_ret;exact ⟨Bx (by first | exact H.out.symm | rfl),by repeat (first | exact Bs _ _ | refine Ae ?_ Bp _)⟩
 have t3:(x.tasks != y.tasks)=false:=by simp [h3]
 have H3:=Br h3;clear h3;go_enter func114,ntmps114;go_wp2_with fail
 refine (Aa2 x.edges y.edges s r _ (by unfold Ec at hl;omega) (by unfold Ec at hl';omega) ((bG _ (by repeat (first | exact Bs _ _ | refine Ae ?_ Bp _)))) ((cC _ (by repeat (first | exact Bs _ _ | refine Ae ?_ Bp _))))).mono ?_;rintro e w4 ⟨rfl,cX⟩;have B4:Below w w w4:=Bv (by repeat (first | exact Bs _ _ | refine Ae ?_ Bp _)) cX;obtain ⟨q4,p4⟩:=Gf cX;by_cases h4:x.edges=y.edges;case neg =>
  have H:=Br (show decide (x=y)=false by simp only [decide_eq_false_iff_not];intro e;exact h4 (by rw [e]));rw [decide_eq_false h4];clear h4;go_wp2;go_ret;exact ⟨Bx (by first | exact H.out.symm | rfl),by exact B4⟩
 rw [decide_eq_true h4];have H4:=Br h4;clear h4;have H:=Br (show decide (x=y)=true by
  simp only [decide_eq_true_eq];have hh:=And.intro H0.out (And.intro H1.out (And.intro H2.out (And.intro H3.out H4.out)));obtain ⟨e0,e1,e2,e3,e4⟩:=hh;cases x;cases y;simp only at e0 e1 e2 e3 e4;subst e0 e1 e2 e3 e4;rfl)
 go_wp2;go_ret;exact ⟨Bx (by first | exact H.out.symm | rfl),by exact B4⟩
theorem U2 (x:Plan) (s:Sl) (left:Int) (w:World) (h0:0<=left) (h1:left<=2000000) (hw:Y2 x) (h:Ce.rd w w x s) :
  Calls Am 108 #[Jo x s,J U left] w (Lv left (Ec x) w):=by
 have bG:∀ W,Below w w W->Ce.rd W W x s:=fun W hW=>Ce.rd_more (Ce.rd_below h hW) hW.size;go_enter func108,ntmps108;go_wp2_with fail
 refine (Aa1 x.edges s left _ Bl Bl hw.2.2.2.2 ((bG _ (by repeat (first | exact Bs _ _ | refine Ae ?_ Bp _))))).mono ?_;rintro e w0 ⟨r0,rfl,jL,aN⟩;have B0:Below w w w0:=Bv (by repeat (first | exact Bs _ _ | refine Ae ?_ Bp _)) aN;obtain ⟨q0,p0⟩:=Gf aN;rcases jL with rfl | ⟨y0,z0⟩
 ·exact Akz
 go_wp2;go_ret;exact ⟨_,rfl,.inr ⟨Bl,by unfold Ec;omega⟩,B0⟩
structure Memo where
 id:Int
 reply:Reply
deriving DecidableEq,Inhabited
@[go_sem] abbrev Xs (x:Memo) (_s:Unit):Value:=.agg #[.int .i64 x.id,.int .i64 x.reply.code,.int .i64 x.reply.run,.int .i64 x.reply.task,.int .i64 x.reply.try_]
abbrev Ed:Dt Memo:=Dt.flat (fun q=>[.int .i64 q.1.id,.int .i64 q.1.reply.code,.int .i64 q.1.reply.run,.int .i64 q.1.reply.task,.int .i64 q.1.reply.try_]) 5 (fun _=>rfl) (fun q u hu=>by simp at hu;rcases hu with rfl | rfl | rfl | rfl | rfl<;>rfl)
def Ee (_:Memo):Nat:=0
def U3 (x:Memo):Prop:=Wf x.id/\Aeo x.reply
def En (_:Memo):Nat:=5
def Ns (k:Int) (_:Memo):Memo:=⟨k,⟨k+1,k+1+1,k+1+1+1,k+1+1+1+1⟩⟩
theorem L8 (x:Memo):En x<=13 * (Ee x+1):=by
 unfold En Ee;omega
theorem Ac8 (x:Memo) (s:Unit) (w:World) (hl:Ee x<=2000000) (h:Ed.rd w w x s) :
  Calls Am 185 #[Xs x s] w (Dv Ed Xs x w):=by
 have bG:∀ W,Below w w W->Ed.rd W W x s:=fun W hW=>Ed.rd_more (Ed.rd_below h hW) hW.size;go_enter func185,ntmps185;go_wp2_with fail
 refine (Aa8 x.reply () _ (by simp [Io]) (trivial)).mono ?_;rintro e w0 ⟨s0,F0,rfl,o0,n0,aN⟩;obtain ⟨q0,p0⟩:=Gf aN;have z0:=aN.size;simp only [Bj,Bk] at z0 n0;have B0:Below w w w0:=Bv (by repeat (first | exact Bs _ _ | refine Ae ?_ Bp _)) aN;go_wp2;refine Aj (v:=Xs x ()) ?_ rfl ?_
 ·simp [Xs,results,results185,go_sem,q0]
 ·exact ⟨(),[],rfl,rfl,(fun _ h=>by cases h),by repeat (first | (with_reducible exact B0) | (with_reducible exact Bs _ _) | refine Ad ?_ Bp _ | refine Ae ?_ Bp _)⟩
theorem Ac9 (x y:Memo) (s r:Unit) (w:World) (hl:Ee x<=2000000) (hl':Ee y<=2000000) (h:Ed.rd w w x s) (h':Ed.rd w w y r) :
  Calls Am 189 #[Xs x s,Xs y r] w fun e w'=>e = .returned (.bool (decide (x=y)))/\Below w w w':=by
 have bG:∀ W,Below w w W->Ed.rd W W x s:=fun W hW=>Ed.rd_more (Ed.rd_below h hW) hW.size;have cC:∀ W,Below w w W->Ed.rd W W y r:=fun W hW=>Ed.rd_more (Ed.rd_below h' hW) hW.size;by_cases h0:x.id=y.id;case neg =>
  have t0:(x.id != y.id)=true:=by rw [bne_iff_ne];exact h0
  have H:=Br (show decide (x=y)=false by simp only [decide_eq_false_iff_not];intro e;exact h0 (by rw [e]));clear h0;go_enter func189,ntmps189;go_wp2;go_ret;exact ⟨Bx (by first | exact H.out.symm | rfl),by repeat (first | exact Bs _ _ | refine Ae ?_ Bp _)⟩
 have t0:(x.id != y.id)=false:=by simp [h0]
 have H0:=Br h0;clear h0;go_enter func189,ntmps189;go_wp2_with fail
 refine (Mp x.reply y.reply () () _ (by simp [Io]) (by simp [Io]) trivial trivial).mono ?_;rintro e w1 ⟨rfl,aG⟩;have B1:Below w w w1:=Bv (by repeat (first | exact Bs _ _ | refine Ae ?_ Bp _)) aG;obtain ⟨q1,p1⟩:=Gf aG;by_cases h1:x.reply=y.reply;case neg =>
  exact Ajc
 rw [decide_eq_true h1];have H1:=Br h1;clear h1;have H:=Br (show decide (x=y)=true by
  simp only [decide_eq_true_eq];have hh:=And.intro H0.out H1.out;obtain ⟨e0,e1⟩:=hh;cases x;cases y;simp only at e0 e1;subst e0 e1;rfl)
 go_wp2;go_ret;exact ⟨Bx (by first | exact H.out.symm | rfl),by exact B1⟩
theorem RdL.memo {w:World} {B:Nat} {A:Option Addr} {n c:Nat} {l:List (Memo)} (h:RdL Ed w B (Aa A n c) l) {k:Nat} (hk:k<l.length) :
  ∃ b o,∃ _s:Unit,A=Ac ⟨b,o,Ab⟩/\b<B/\Ed.rd w B l[k] _s/\w.cell? ⟨b,o+k * 5,Ab⟩=Ac (J U l[k].id)/\w.cell? ⟨b,o+k * 5+1,Ab⟩=Ac (J U l[k].reply.code)/\w.cell? ⟨b,o+k * 5+2,Ab⟩=Ac (J U l[k].reply.run)/\w.cell? ⟨b,o+k * 5+3,Ab⟩=Ac (J U l[k].reply.task)/\w.cell? ⟨b,o+k * 5+4,Ab⟩=Ac (J U l[k].reply.try_):=by
 obtain ⟨b,o,s,rfl,hb,hc,hr⟩:=h.at_ k hk;exact ⟨b,o,s,rfl,hb,hr,hc 0 _ rfl,hc 1 _ rfl,hc 2 _ rfl,hc 3 _ rfl,hc 4 _ rfl⟩
theorem Ow.c_memo {E:TypeId} {w:World} {base g n cap:Nat} {l:List ((Memo)×Unit)} (h:Ow Ed.enc E w base (Aa (Ac ⟨g,0,Ab⟩) n cap) l) {k:Nat} (hk:k<l.length) :
  w.cell? ⟨g,k * 5,Ab⟩=Ac (J U l[k].1.id)/\w.cell? ⟨g,k * 5+1,Ab⟩=Ac (J U l[k].1.reply.code)/\w.cell? ⟨g,k * 5+2,Ab⟩=Ac (J U l[k].1.reply.run)/\w.cell? ⟨g,k * 5+3,Ab⟩=Ac (J U l[k].1.reply.task)/\w.cell? ⟨g,k * 5+4,Ab⟩=Ac (J U l[k].1.reply.try_):=by
 rcases h.form with ⟨h1,_⟩ | ⟨g',cap',hv,_,_,_,_,_,hc⟩
 ·simp at h1
 ·simp only [Value.slice.injEq,Option.some.injEq,Addr.mk.injEq,and_true] at hv;obtain ⟨rfl,_,_⟩:=hv;exact ⟨hc k hk 0 _ rfl,hc k hk 1 _ rfl,hc k hk 2 _ rfl,hc k hk 3 _ rfl,hc k hk 4 _ rfl⟩
theorem Foc.memo {w:World} {b o n c j:Nat} {rs:List ((Memo)×Unit)} {G1 Fx G2:List Nat} {x:Memo} {s:Unit} (h:Foc Ed w b o n c rs j G1 Fx G2 x s) :
  w.cell? ⟨b,o+j * 5,Ab⟩=Ac (J U x.id)/\w.cell? ⟨b,o+j * 5+1,Ab⟩=Ac (J U x.reply.code)/\w.cell? ⟨b,o+j * 5+2,Ab⟩=Ac (J U x.reply.run)/\w.cell? ⟨b,o+j * 5+3,Ab⟩=Ac (J U x.reply.task)/\w.cell? ⟨b,o+j * 5+4,Ab⟩=Ac (J U x.reply.try_):=⟨h.cells 0 _ rfl,h.cells 1 _ rfl,h.cells 2 _ rfl,h.cells 3 _ rfl,h.cells 4 _ rfl⟩
theorem Aa9 (l:List (Memo)) (s:Sl) (left:Int) (w:World) (h0:0<=left) (h1:left<=2000000) (hw:wfL U3 l) (h:RdL Ed w w s.v l) :
  Calls Am 107 #[Aa s.a s.n s.c,J U left] w (Lv left (Ek Ee l) w):=by
 obtain ⟨A,n,c⟩:=s;obtain ⟨A',c',hv,-⟩:=h.form;simp only [Sl.v,Value.slice.injEq] at hv;obtain ⟨rfl,rfl,rfl⟩:=hv;have bS:=hw.1;by_cases aA:left<l.length
 ·go_enter func107,ntmps107;exact Akg
 go_enter func107,ntmps107;go_wp2;go_ret;exact ⟨_,rfl,.inr ⟨Bl,by rw [Fh (cnt:=Ee) (fun _=>rfl) l];omega⟩,Bs _ _⟩
theorem Aba (l l':List (Memo)) (s s':Sl) (w:World) (hl:Ek Ee l<=2000000) (hl':Ek Ee l'<=2000000) (h:RdL Ed w w s.v l) (h':RdL Ed w w s'.v l') :
  Calls Am 113 #[Aa s.a s.n s.c,Aa s'.a s'.n s'.c] w fun e w'=>e = .returned (.bool (decide (l=l')))/\Below w w w':=by
 obtain ⟨A,n,c⟩:=s;obtain ⟨A0,c0,hv,-⟩:=h.form;simp only [Sl.v,Value.slice.injEq] at hv;obtain ⟨rfl,rfl,rfl⟩:=hv;obtain ⟨A',n',c'⟩:=s';obtain ⟨A0,c0,hv,-⟩:=h'.form;simp only [Sl.v,Value.slice.injEq] at hv;obtain ⟨rfl,rfl,rfl⟩:=hv;have bS:l.length<=2000000:=Ah (Ck _ _) hl;have hll':l'.length<=2000000:=Ah (Ck _ _) hl';have dV:∀ k (hk:k<l.length),Ee l[k]<=2000000:=fun k hk=>by have:=Dm (cnt:=Ee) (Aw hk);omega
 have hcc':∀ k (hk:k<l'.length),Ee l'[k]<=2000000:=fun k hk=>by have:=Dm (cnt:=Ee) (Aw hk);omega
 clear hl hl';by_cases aC:l.length=l'.length
 ·have aN:((l.length:Int) != (l'.length:Int))=false:=by simp [aC]
  have Hne:=Br aC;clear aC;go_enter func113,ntmps113;go_wp2;go_loopw [5] (fun i wr=>∃ k:Nat,k<=l.length/\i = J U k/\Hid (l.take k=l'.take k)/\Below w w wr) (fun i _=>l.length - (intOf i).toNat);case atStart=>exact ⟨0,Ag _,rfl,rfl,Bs _ _⟩
  case round =>
   obtain ⟨k,hk,rfl,fJ,hb⟩:=hrel;by_cases aA:k<l.length
   ·have bY:k<l'.length:=by rw [<-Hne.out];exact aA
    obtain ⟨b,o,s,rfl,aJ,hr,c0,c1,c2,c3,c4⟩:=(h.below hb).memo aA;obtain ⟨b',o',s',rfl,bF,gK,d0,d1,d2,d3,d4⟩:=(h'.below hb).memo bY;have hx:∀ W,Below wr wr W->Ed.rd W W l[k] s:=fun W hW=>Ed.rd_more (Ed.rd_below (Ed.rd_more hr hb.size) hW) hW.size;have dR:∀ W,Below wr wr W->Ed.rd W W l'[k] s':=fun W hW=>Ed.rd_more (Ed.rd_below (Ed.rd_more gK hb.size) hW) hW.size;go_wp2;go_still_tail 8,Bm;go_wp2_with (go_at_call 189;refine (Ac9 l[k] l'[k] s s' _ (dV k aA) (hcc' k bY) (hx _ (by first | exact Bs _ _ | exact (Bs _ _).drew)) (dR _ (by first | exact Bs _ _ | exact (Bs _ _).drew))).mono ?_;rintro e w1 ⟨rfl,aG⟩)
    ·exact Air
    ·exact Ail
   ·exact Aiw
 ·have aN:((l.length:Int) != (l'.length:Int))=true:=by simp;omega
  go_enter func113,ntmps113;go_wp2;go_ret;refine ⟨Bx ?_,Bs _ _⟩;simp only [Bool.false_eq,decide_eq_false_iff_not];intro e;exact aC (by rw [e])
theorem Ada:(Am.info? 154).map (fun i=>(i.zero,i.size,i.bytes))=Ac (Ac (.agg #[J U 0,J U 0,J U 0,J U 0,J U 0]),5,40):=Bm
theorem Abb (l:List (Memo)) (s:Sl) (w:World) (hl:Ek Ee l<=2000000) (h:RdL Ed w w s.v l) :
  Calls Am 110 #[.slice s.a s.n s.c] w (Dv (Dt.list Ed) slV l w):=by
 obtain ⟨A,n,c⟩:=s;obtain ⟨A',c',hv,-⟩:=h.form;simp only [Sl.v,Value.slice.injEq] at hv;obtain ⟨rfl,rfl,rfl⟩:=hv;have bS:l.length<=2000000:=Ah (Ck _ _) hl;have dV:∀ k (hk:k<l.length),Ee l[k]<=2000000:=fun k hk=>by have:=Dm (cnt:=Ee) (Aw hk);omega
 clear hl;obtain ⟨i0,aQ,aU,aS,aR⟩:=info_parts Ada;have kN:∀ w:World,(Instr.makeSlice 79 (.int .i64 (l.length:Int)) (.int .i64 (l.length:Int))).run Am w = .ok (.slice (Ac ⟨w,0,Ab⟩) l.length l.length) (w.alloc (.cells (madeCells #[.int .i64 0,.int .i64 0,.int .i64 0,.int .i64 0,.int .i64 0] (l.length * 5)) 154)):=by
  intro w
  have:=run_make (P:=Am) w 79 154 i0 _ underlying79 aQ aU .i64 .i64 l.length l.length Bl Bl (by rw [aR];omega) Bl
  exact Akm
 go_enter func110,ntmps110;go_wp2;go_loopw [4] (fun i wr=>∃ k:Nat,k<=l.length/\i = .int .i64 k/\Hid (∃ (rs:List ((Memo)×Unit)) (G:List Nat),rs.map (·.1)=l.take k/\Ow Ed.enc 154 wr w (.slice (Ac ⟨w,0,Ab⟩) l.length l.length) (rs ++ List.replicate (l.length - k) (⟨0,⟨0,0,0,0⟩⟩,()))/\Ows Ed wr G rs/\G.Nodup /\ ∀ b∈G,w<b)/\Below w w wr) (fun i _=>l.length - (intOf i).toNat);case atStart=>exact ⟨0,Ag _,rfl,⟨[],[],rfl,by rw [List.nil_append,Nat.sub_zero];exact Ow.made Ed.enc 154 w (⟨0,⟨0,0,0,0⟩⟩,()) l.length Bq (by simp [maxLen];omega) rfl rfl,.nil,List.nodup_nil,fun _ h=>by cases h⟩,Bu⟩
 case round =>
  obtain ⟨k,hk,rfl,⟨rs,G,hm,hown,hG,jH,eI⟩,hb⟩:=hrel;have bK:rs.length=k:=by have:=congrArg List.length hm;simpa [Nat.min_eq_left hk] using this
  by_cases aA:k<l.length
  ·obtain ⟨b,o,s,rfl,aJ,hr,c0,c1,c2,c3,c4⟩:=(h.below hb).memo aA;have hx:∀ W,Below wr wr W->Ed.rd W W l[k] s:=fun W hW=>Ed.rd_more (Ed.rd_below (Ed.rd_more hr hb.size) hW) hW.size;have aE:(rs ++ List.replicate (l.length - k) ((⟨0,⟨0,0,0,0⟩⟩,()):(Memo)×Unit)).length=l.length:=by simp;omega
   have Hm:=Br hm;have Hrl:=Br bK;clear hm bK;go_wp2_with (go_at_call 185;refine (Ac8 l[k] s _ (dV k aA) (hx _ (by first | exact Bs _ _ | exact (Bs _ _).drew))).mono ?_;rintro e w1 ⟨s1,F1,rfl,o1,n1,aG⟩;have bM:=hown.below aG;have hf:=bM.free;obtain ⟨d0,d1,d2,d3,d4⟩:=bM.c_memo (k:=k) (by rw [aE];exact aA))
   have hp:=Ow.put bM aE k aA (l[k],s1);have Hp:=Bld.lay hG jH eI aG (r:=(l[k],s1)) o1 n1 (Ai (hown.blk).2 (Bt _)) hp.2;rw [M9 rs _ k l.length Hrl.out aA] at hp;refine ⟨⟨k+1,Bl,by go_num,⟨rs ++ [(l[k],s1)],G ++ F1,?_,hp.1,Hp.1,Hp.2.1,Hp.2.2⟩,(hb.trans (aG.mono hb.size)).grown hp.2 (Ah hb.size aG.size) (fun g hg=>by simp at hg;omega)⟩,clM⟩;rw [List.map_append,Hm.out,Cp l k aA];rfl
  ·have aZ:k=l.length:=Bl;subst aZ;rw [Nat.sub_self,List.replicate_zero,List.append_nil] at hown;go_wp2;go_ret;rw [List.take_length] at hm;have hB:Bld Ed 154 wr w (.slice (Ac ⟨w,0,Ab⟩) l.length l.length) rs:=⟨G,by rw [<-bK];exact (by rw [bK];exact hown),hG,jH,fun b aX=>⟨Nat.le_of_lt (eI b aX),by simp [Value.ownBlock];have:=eI b aX;omega⟩⟩
   obtain ⟨F,h1,h2⟩:=hB.owl hm;exact ⟨⟨Ac ⟨w,0,Ab⟩,l.length,l.length⟩,F,rfl,h1,h2,hb⟩
theorem W8 (l:List (Memo)) (s:Sl) (F:List Nat) (k:Int) (w:World) (hl:Ek Ee l<=2000000) (cE:0<=k) (fC:k<=1000000000) (h:OwL Ed w F s.v l) :
  Calls Am 116 #[Aa s.a s.n s.c,J U k] w (Mu (Dt.list Ed) F (mkL Ns En k l) s (k+(C9 En l:Nat)) w):=by
 obtain ⟨A,n,c⟩:=s;obtain ⟨A',c',hv,-⟩:=h.form;simp only [Sl.v,Value.slice.injEq] at hv;obtain ⟨rfl,rfl,rfl⟩:=hv;have bS:l.length<=2000000:=Ah (Ck _ _) hl;have cG:∀ j,C9 En (l.take j)<=26000000:=fun j=>by
  exact Ani
 have Hnl:=Br cG;clear cG hl;go_enter func116,ntmps116;go_wp2;go_loopw [1,5] (fun q i wr=>∃ (j:Nat) (m:Int),j<=l.length/\i = J U j/\q = J U m/\Hid (m=k+(C9 En (l.take j):Nat))/\OwL Ed wr F (Aa A l.length c) (mkL Ns En k (l.take j) ++ l.drop j)/\Chg F w wr) (fun _ i _=>l.length - (intOf i).toNat);case atStart=>exact ⟨0,k,Ag _,rfl,rfl,by show k=_;simp [C9],h,Chg.refl _ _⟩
 case round =>
  obtain ⟨j,m,hj,rfl,rfl,hm,ho,hc⟩:=hrel;have hm':=hm.out;have fQ:=Hnl.out j;have cL:0<=m:=Bl;have bZ:m<=1026000000:=Bl;clear hm' fQ;by_cases aA:j<l.length
  ·have aB:(j:Int)<(l.length:Int):=Bl;have aE:(mkL Ns En k (l.take j) ++ l.drop j).length=l.length:=by simp [Em];omega
   obtain ⟨b,o,rs,s,G1,Fx,G2,rfl,hF,cV,f0⟩:=ho.foc (j:=j) (by rw [aE];exact aA);rw [Na Ns En k l j aA] at f0;subst hF;have Hrm:=Br cV;clear cV ho;obtain ⟨c0,c1,c2,c3,c4⟩:=f0.memo;have fr0:=f0.free;go_wp2;obtain ⟨f1,g1⟩:=f0.put ⟨m,⟨m+1,m+1+1,m+1+1+1,m+1+1+1+1⟩⟩ 0 [J U (m),J U (m+1),J U (m+1+1),J U (m+1+1+1),J U (m+1+1+1+1)] (by show 0+5<=5;omega) (fun i hi=>match i,hi with | 0,_=>rfl | 1,_=>rfl | 2,_=>rfl | 3,_=>rfl | 4,_=>rfl | i+5,hi=>absurd hi Bo) (fun i hi hx=>match i,hi,hx with | 0,_,hx=>absurd hx Bo | 1,_,hx=>absurd hx Bo | 2,_,hx=>absurd hx Bo | 3,_,hx=>absurd hx Bo | 4,_,hx=>absurd hx Bo | i+5,hi,_=>absurd hi (by show ¬ (i+5<5);omega)) (fun _ hh=>hh);have pL:=hm.out;have hown:=f1.owl Hrm.out;have dU:⟨m,⟨m+1,m+1+1,m+1+1+1,m+1+1+1+1⟩⟩=Ns m l[j]:=rfl;have bW:=O8 Ns En k l j aA;rw [<-hm.out] at bW;rw [dU,bW] at hown;have cN:(C9 En (l.take (j+1)):Nat)=C9 En (l.take j)+En l[j]:=Ew _ _ _ aA;refine ⟨⟨j+1,m+1+1+1+1+1,Bl,by go_num,rfl,?_,hown,(hc).trans (g1.mono (fun _ hh=>O7 hh))⟩,clM⟩;have eW:En l[j]=5:=rfl;show m+1+1+1+1+1=_;rw [cN,eW];push_cast;omega
  ·exact Aiq
theorem W9 (l:List (Memo)) (s:Sl) (k:Int) (w:World) (hl:Ek Ee l<=2000000) (cE:0<=k) (fC:k<=1000000000) (h:RdL Ed w w s.v (mkL Ns En k l)) :
  Calls Am 119 #[Aa s.a s.n s.c,J U k] w fun e w'=>e = .returned (J U (k+(C9 En l:Nat)))/\Below w w w':=by
 obtain ⟨A,n,c⟩:=s;obtain ⟨A',c',hv,-⟩:=h.form;simp only [Sl.v,Value.slice.injEq,Em] at hv;obtain ⟨rfl,rfl,rfl⟩:=hv;have bS:l.length<=2000000:=Ah (Ck _ _) hl;have cG:∀ j,C9 En (l.take j)<=26000000:=fun j=>by
  exact Ani
 have aL:∀ (wr:World) (j:Nat) (hj:j<l.length) (m:Int),Below w w wr->m=k+(C9 En (l.take j):Nat) -> ∃ b o,∃ s:Unit,A=Ac ⟨b,o,Ab⟩/\b<w.heap.size/\Ed.rd wr w (Ns m l[j]) s/\wr.cell? ⟨b,o+j * 5,Ab⟩=Ac (J U (m))/\wr.cell? ⟨b,o+j * 5+1,Ab⟩=Ac (J U (m+1))/\wr.cell? ⟨b,o+j * 5+2,Ab⟩=Ac (J U (m+1+1))/\wr.cell? ⟨b,o+j * 5+3,Ab⟩=Ac (J U (m+1+1+1))/\wr.cell? ⟨b,o+j * 5+4,Ab⟩=Ac (J U (m+1+1+1+1)):=by
  intro wr j hj m hb hm;obtain ⟨b,o,s,h1,h2,h3,h4⟩:=(h.below hb).memo (k:=j) (by rw [Em];exact hj);exact Ai5
 have Hc:=Br aL;have Hnl:=Br cG;clear aL cG hl;go_enter func119,ntmps119;go_wp2;go_loopw [1,5] (fun q i wr=>∃ (j:Nat) (m:Int),j<=l.length/\i = J U j/\q = J U m/\Hid (m=k+(C9 En (l.take j):Nat))/\Below w w wr) (fun _ i _=>l.length - (intOf i).toNat);case atStart=>exact ⟨0,k,Ag _,rfl,rfl,by show k=_;simp [C9],Bs _ _⟩
 case round =>
  obtain ⟨j,m,hj,rfl,rfl,hm,hb⟩:=hrel;have hm':=hm.out;have fQ:=Hnl.out j;have cL:0<=m:=Bl;have bZ:m<=1026000000:=Bl;clear hm' fQ;by_cases aA:j<l.length
  ·have aB:(j:Int)<(l.length:Int):=Bl;obtain ⟨b,o,s,rfl,aJ,nC,c0,c1,c2,c3,c4⟩:=Hc.out wr j aA m hb hm.out;go_wp2;have cN:(C9 En (l.take (j+1)):Nat)=C9 En (l.take j)+En l[j]:=Ew _ _ _ aA;refine ⟨⟨j+1,m+1+1+1+1+1,Bl,by go_num,rfl,?_,hb⟩,clM⟩;have eW:En l[j]=5:=rfl;have pL:=hm.out;show m+1+1+1+1+1=_;rw [cN,eW];push_cast;omega
  ·exact Ai8
structure Run where
 id:Int
 plan:Plan
 state:Int
 tasks:List Task
deriving DecidableEq,Inhabited
@[go_sem] abbrev G7 (x:Run) (s:Sl×Sl):Value:=.agg #[.int .i64 x.id,.int .i64 x.plan.prio,.int .i64 x.plan.most,.int .i64 x.plan.wait,.int .i64 x.plan.tasks,.slice s.1.a s.1.n s.1.c,.int .i64 x.state,.slice s.2.a s.2.n s.2.c]
abbrev Cf:Dt Run:=Dt.two Ce (Dt.list C8) (·.plan) (·.tasks) (fun q=>[.int .i64 q.1.id,.int .i64 q.1.plan.prio,.int .i64 q.1.plan.most,.int .i64 q.1.plan.wait,.int .i64 q.1.plan.tasks,.slice q.2.1.a q.2.1.n q.2.1.c,.int .i64 q.1.state,.slice q.2.2.a q.2.2.n q.2.2.c]) 8 (fun _=>rfl) (fun q u hu=>by simp at hu;rcases hu with rfl | rfl | rfl | rfl | rfl | rfl | rfl | rfl<;>rfl)
def Co (x:Run):Nat:=Ec x.plan+Ek D7 x.tasks
def U4 (x:Run):Prop:=Wf x.id/\Y2 x.plan/\Wf x.state/\wfL Uy x.tasks
def Fd (x:Run):Nat:=6+C9 C6 x.plan.edges+C9 Dw x.tasks
def Pt (k:Int) (x:Run):Run:=⟨k,⟨k+1,k+1+1,k+1+1+1,k+1+1+1+1,mkL Kb C6 (k+1+1+1+1+1) x.plan.edges⟩,k+1+1+1+1+1+(C9 C6 x.plan.edges:Nat),mkL Ly Dw (k+1+1+1+1+1+(C9 C6 x.plan.edges:Nat)+1) x.tasks⟩
theorem Nb (x:Run):Fd x<=13 * (Co x+1):=by
 have h0:=Et (num:=C6) (cnt:=Ei) (K:=13) Jv x.plan.edges;have h1:=Et (num:=Dw) (cnt:=D7) (K:=13) Lz x.tasks;unfold Fd Co Ec;omega
theorem Ae9 (x:Run) (s:Sl×Sl) (w:World) (hl:Co x<=2000000) (h:Cf.rd w w x s) :
  Calls Am 258 #[G7 x s] w (Dv Cf G7 x w):=by
 have bG:∀ W,Below w w W->Cf.rd W W x s:=fun W hW=>Cf.rd_more (Cf.rd_below h hW) hW.size;go_enter func258,ntmps258;go_wp2_with fail
 refine (U0 x.plan s.1 _ (by unfold Co at hl;omega) ((bG _ (by repeat (first | exact Bs _ _ | refine Ae ?_ Bp _))).1)).mono ?_;rintro e w0 ⟨s0,F0,rfl,o0,n0,aN⟩;obtain ⟨q0,p0⟩:=Gf aN;have z0:=aN.size;simp only [Bj,Bk] at z0 n0;have B0:Below w w w0:=Bv (by repeat (first | exact Bs _ _ | refine Ae ?_ Bp _)) aN;go_wp2_with fail
 refine (Aa6 x.tasks s.2 _ (by unfold Co at hl;omega) ((bG _ (by repeat (first | (with_reducible exact B0) | (with_reducible exact Bs _ _) | refine Ad ?_ Bp _ | refine Ae ?_ Bp _))).2)).mono ?_;rintro e w1 ⟨s1,F1,rfl,o1,n1,aG⟩;obtain ⟨q1,p1⟩:=Gf aG;have z1:=aG.size;simp only [Bj,Bk] at z1 n1 q1 p1;have B1:Below w w w1:=Bv (by repeat (first | (with_reducible exact B0) | (with_reducible exact Bs _ _) | refine Ad ?_ Bp _ | refine Ae ?_ Bp _)) aG;have q1a:=fun o=>q1 w o Bl;have p1a:=fun o=>p1 w o Bl;have q1b:=fun o=>q1 (w+1) o Bl;have p1b:=fun o=>p1 (w+1) o Bl;have q1c:=fun o=>q1 (w+1+1) o Bl;have p1c:=fun o=>p1 (w+1+1) o Bl;go_wp2;refine Aj (v:=G7 x (s0,s1)) ?_ rfl ?_
 ·simp [G7,results,results258,go_sem,q0,q1,q1a,q1b,q1c]
 ·refine ⟨(s0,s1),F0 ++ F1,rfl,⟨F0,F1,rfl,?_,?_,?_⟩,?_,?_⟩
  ·rw [Ax];refine ⟨Dt.ow_nodup Ce o0,Dt.ow_nodup (Dt.list C8) o1,fun u hu u' hu' e=>?_⟩;have h1:=Dt.ow_lt Ce o0 u hu;have h2:=n1 u' hu';omega
  ·repeat (first | (with_reducible exact o0) | refine Dt.ow_set Ce ?_ (by intro hm;have:=n0 _ hm;(try simp only [Bj,Bk] at this);omega) _ | (with_reducible refine Dt.ow_below Ce ?_ aG))
  ·repeat (first | (with_reducible exact o1) | refine Dt.ow_set (Dt.list C8) ?_ (by intro hm;have:=n1 _ hm;(try simp only [Bj,Bk] at this);omega) _)
  ·exact Amh
  ·exact Aj5
theorem Afa (x y:Run) (s r:Sl×Sl) (w:World) (hl:Co x<=2000000) (hl':Co y<=2000000) (h:Cf.rd w w x s) (h':Cf.rd w w y r) :
  Calls Am 262 #[G7 x s,G7 y r] w fun e w'=>e = .returned (.bool (decide (x=y)))/\Below w w w':=by
 have bG:∀ W,Below w w W->Cf.rd W W x s:=fun W hW=>Cf.rd_more (Cf.rd_below h hW) hW.size;have cC:∀ W,Below w w W->Cf.rd W W y r:=fun W hW=>Cf.rd_more (Cf.rd_below h' hW) hW.size;by_cases h0:x.id=y.id;case neg =>
  have t0:(x.id != y.id)=true:=by rw [bne_iff_ne];exact h0
  have H:=Br (show decide (x=y)=false by simp only [decide_eq_false_iff_not];intro e;exact h0 (by rw [e]));clear h0;go_enter func262,ntmps262;go_wp2;go_ret;exact ⟨Bx (by first | exact H.out.symm | rfl),by repeat (first | exact Bs _ _ | refine Ae ?_ Bp _)⟩
 have t0:(x.id != y.id)=false:=by simp [h0]
 have H0:=Br h0;clear h0;go_enter func262,ntmps262;go_wp2_with fail
 refine (U1 x.plan y.plan s.1 r.1 _ (by unfold Co at hl;omega) (by unfold Co at hl';omega) ((bG _ (by repeat (first | exact Bs _ _ | refine Ae ?_ Bp _))).1) ((cC _ (by repeat (first | exact Bs _ _ | refine Ae ?_ Bp _))).1)).mono ?_;rintro e w1 ⟨rfl,aG⟩;have B1:Below w w w1:=Bv (by repeat (first | exact Bs _ _ | refine Ae ?_ Bp _)) aG;obtain ⟨q1,p1⟩:=Gf aG;by_cases h1:x.plan=y.plan;case neg =>
  exact Ajc
 rw [decide_eq_true h1];have H1:=Br h1;clear h1;by_cases h2:x.state=y.state;case neg =>
  have t2:(x.state != y.state)=true:=by rw [bne_iff_ne];exact h2
  have H:=Br (show decide (x=y)=false by simp only [decide_eq_false_iff_not];intro e;exact h2 (by rw [e]));clear h2;go_wp2;go_ret;exact ⟨Bx (by first | exact H.out.symm | rfl),by exact B1⟩
 have t2:(x.state != y.state)=false:=by simp [h2]
 have H2:=Br h2;clear h2;go_wp2_with fail
 refine (Aa5 x.tasks y.tasks s.2 r.2 _ (by unfold Co at hl;omega) (by unfold Co at hl';omega) ((bG _ (by first | exact B1 | (repeat (first | exact Bs _ _ | refine Ae ?_ Bp _)))).2) ((cC _ (by first | exact B1 | (repeat (first | exact Bs _ _ | refine Ae ?_ Bp _)))).2)).mono ?_;rintro e w3 ⟨rfl,cB⟩;have B3:Below w w w3:=Bv (by first | exact B1 | (repeat (first | exact Bs _ _ | refine Ae ?_ Bp _))) cB;obtain ⟨q3,p3⟩:=Gf cB;by_cases h3:x.tasks=y.tasks;case neg =>
  exact Aj8
 rw [decide_eq_true h3];have H3:=Br h3;clear h3;have H:=Br (show decide (x=y)=true by
  simp only [decide_eq_true_eq];have hh:=And.intro H0.out (And.intro H1.out (And.intro H2.out H3.out));obtain ⟨e0,e1,e2,e3⟩:=hh;cases x;cases y;simp only at e0 e1 e2 e3;subst e0 e1 e2 e3;rfl)
 go_wp2;go_ret;exact ⟨Bx (by first | exact H.out.symm | rfl),by exact B3⟩
theorem Afb (x:Run) (s:Sl×Sl) (left:Int) (w:World) (h0:0<=left) (h1:left<=2000000) (hw:U4 x) (h:Cf.rd w w x s) :
  Calls Am 256 #[G7 x s,J U left] w (Lv left (Co x) w):=by
 have bG:∀ W,Below w w W->Cf.rd W W x s:=fun W hW=>Cf.rd_more (Cf.rd_below h hW) hW.size;go_enter func256,ntmps256;go_wp2_with fail
 refine (U2 x.plan s.1 left _ Bl Bl hw.2.1 ((bG _ (by repeat (first | exact Bs _ _ | refine Ae ?_ Bp _))).1)).mono ?_;rintro e w0 ⟨r0,rfl,jL,aN⟩;have B0:Below w w w0:=Bv (by repeat (first | exact Bs _ _ | refine Ae ?_ Bp _)) aN;obtain ⟨q0,p0⟩:=Gf aN;rcases jL with rfl | ⟨y0,z0⟩
 ·exact Akz
 go_wp2_with fail
 refine (Aa4 x.tasks s.2 r0 _ Bl Bl hw.2.2.2 ((bG _ B0).2)).mono ?_;rintro e w1 ⟨r1,rfl,qN,aG⟩;have B1:Below w w w1:=Bv B0 aG;obtain ⟨q1,p1⟩:=Gf aG;rcases qN with rfl | ⟨y1,z1⟩
 ·exact Amq
 go_wp2;go_ret;exact ⟨_,rfl,.inr ⟨Bl,by unfold Co;omega⟩,B1⟩
theorem RdL.run {w:World} {B:Nat} {A:Option Addr} {n c:Nat} {l:List (Run)} (h:RdL Cf w B (Aa A n c) l) {k:Nat} (hk:k<l.length) :
  ∃ b o,∃ s:Sl×Sl,A=Ac ⟨b,o,Ab⟩/\b<B/\Cf.rd w B l[k] s/\w.cell? ⟨b,o+k * 8,Ab⟩=Ac (J U l[k].id)/\w.cell? ⟨b,o+k * 8+1,Ab⟩=Ac (J U l[k].plan.prio)/\w.cell? ⟨b,o+k * 8+2,Ab⟩=Ac (J U l[k].plan.most)/\w.cell? ⟨b,o+k * 8+3,Ab⟩=Ac (J U l[k].plan.wait)/\w.cell? ⟨b,o+k * 8+4,Ab⟩=Ac (J U l[k].plan.tasks)/\w.cell? ⟨b,o+k * 8+5,Ab⟩=Ac (Aa s.1.a s.1.n s.1.c)/\w.cell? ⟨b,o+k * 8+6,Ab⟩=Ac (J U l[k].state)/\w.cell? ⟨b,o+k * 8+7,Ab⟩=Ac (Aa s.2.a s.2.n s.2.c):=by
 obtain ⟨b,o,s,rfl,hb,hc,hr⟩:=h.at_ k hk;exact ⟨b,o,s,rfl,hb,hr,hc 0 _ rfl,hc 1 _ rfl,hc 2 _ rfl,hc 3 _ rfl,hc 4 _ rfl,hc 5 _ rfl,hc 6 _ rfl,hc 7 _ rfl⟩
theorem Ow.c_run {E:TypeId} {w:World} {base g n cap:Nat} {l:List ((Run)×Sl×Sl)} (h:Ow Cf.enc E w base (Aa (Ac ⟨g,0,Ab⟩) n cap) l) {k:Nat} (hk:k<l.length) :
  w.cell? ⟨g,k * 8,Ab⟩=Ac (J U l[k].1.id)/\w.cell? ⟨g,k * 8+1,Ab⟩=Ac (J U l[k].1.plan.prio)/\w.cell? ⟨g,k * 8+2,Ab⟩=Ac (J U l[k].1.plan.most)/\w.cell? ⟨g,k * 8+3,Ab⟩=Ac (J U l[k].1.plan.wait)/\w.cell? ⟨g,k * 8+4,Ab⟩=Ac (J U l[k].1.plan.tasks)/\w.cell? ⟨g,k * 8+5,Ab⟩=Ac (Aa l[k].2.1.a l[k].2.1.n l[k].2.1.c)/\w.cell? ⟨g,k * 8+6,Ab⟩=Ac (J U l[k].1.state)/\w.cell? ⟨g,k * 8+7,Ab⟩=Ac (Aa l[k].2.2.a l[k].2.2.n l[k].2.2.c):=by
 rcases h.form with ⟨h1,_⟩ | ⟨g',cap',hv,_,_,_,_,_,hc⟩
 ·simp at h1
 ·simp only [Value.slice.injEq,Option.some.injEq,Addr.mk.injEq,and_true] at hv;obtain ⟨rfl,_,_⟩:=hv;exact ⟨hc k hk 0 _ rfl,hc k hk 1 _ rfl,hc k hk 2 _ rfl,hc k hk 3 _ rfl,hc k hk 4 _ rfl,hc k hk 5 _ rfl,hc k hk 6 _ rfl,hc k hk 7 _ rfl⟩
theorem Foc.run {w:World} {b o n c j:Nat} {rs:List ((Run)×Sl×Sl)} {G1 Fx G2:List Nat} {x:Run} {s:Sl×Sl} (h:Foc Cf w b o n c rs j G1 Fx G2 x s) :
  w.cell? ⟨b,o+j * 8,Ab⟩=Ac (J U x.id)/\w.cell? ⟨b,o+j * 8+1,Ab⟩=Ac (J U x.plan.prio)/\w.cell? ⟨b,o+j * 8+2,Ab⟩=Ac (J U x.plan.most)/\w.cell? ⟨b,o+j * 8+3,Ab⟩=Ac (J U x.plan.wait)/\w.cell? ⟨b,o+j * 8+4,Ab⟩=Ac (J U x.plan.tasks)/\w.cell? ⟨b,o+j * 8+5,Ab⟩=Ac (Aa s.1.a s.1.n s.1.c)/\w.cell? ⟨b,o+j * 8+6,Ab⟩=Ac (J U x.state)/\w.cell? ⟨b,o+j * 8+7,Ab⟩=Ac (Aa s.2.a s.2.n s.2.c):=⟨h.cells 0 _ rfl,h.cells 1 _ rfl,h.cells 2 _ rfl,h.cells 3 _ rfl,h.cells 4 _ rfl,h.cells 5 _ rfl,h.cells 6 _ rfl,h.cells 7 _ rfl⟩
theorem Adb (l:List (Run)) (s:Sl) (left:Int) (w:World) (h0:0<=left) (h1:left<=2000000) (hw:wfL U4 l) (h:RdL Cf w w s.v l) :
  Calls Am 181 #[Aa s.a s.n s.c,J U left] w (Lv left (Ek Co l) w):=by
 obtain ⟨A,n,c⟩:=s;obtain ⟨A',c',hv,-⟩:=h.form;simp only [Sl.v,Value.slice.injEq] at hv;obtain ⟨rfl,rfl,rfl⟩:=hv;have bS:=hw.1;by_cases aA:left<l.length
 ·go_enter func181,ntmps181;exact Akg
 have Hw:=Br hw;clear hw;go_enter func181,ntmps181;go_wp2;go_loopw [1,5] (fun t i wr=>∃ k:Nat,∃ m:Int,k<=l.length/\i = J U k/\t = J U m/\0<=m/\m+l.length+(((l.take k).map Co).sum:Nat)<=left/\Below w w wr) (fun _ i _=>l.length - (intOf i).toNat);case atStart=>exact ⟨0,_,Ag _,rfl,rfl,Bl,Bp,Bs _ _⟩
 case round =>
  obtain ⟨k,m,hk,rfl,rfl,m0,m1,hb⟩:=hrel;by_cases aA:k<l.length
  ·obtain ⟨b,o,s,rfl,aJ,hr,c0,c1,c2,c3,c4,c5,c6,c7⟩:=(h.below hb).run aA;have hx:∀ W,Below wr wr W->Cf.rd W W l[k] s:=fun W hW=>Cf.rd_more (Cf.rd_below (Cf.rd_more hr hb.size) hW) hW.size;have hwk:U4 l[k]:=Hw.out.2 _ (Aw aA);have M1:=Br m1;have m2:m<=2000000:=Bl;clear m1;go_wp2_with fail
   refine (Afb l[k] s m _ m0 m2 hwk (hx _ (by first | exact Bs _ _ | exact (Bs _ _).drew))).mono ?_;rintro e w1 ⟨r,rfl,hr,aG⟩;rcases hr with rfl | ⟨r0,r1⟩
   ·go_wp2;go_ret;exact ⟨-1,rfl,.inl rfl,Bv hb aG⟩
   ·go_wp2;refine ⟨⟨k+1,r,Bl,by go_num,rfl,r0,?_,Bv hb aG⟩,clM⟩;have M2:=M1.out;have r2:r+(Co l[k]:Nat)<=m:=r1;rw [Ew _ _ _ aA];push_cast;omega
  ·exact Al2
theorem Adc (l l':List (Run)) (s s':Sl) (w:World) (hl:Ek Co l<=2000000) (hl':Ek Co l'<=2000000) (h:RdL Cf w w s.v l) (h':RdL Cf w w s'.v l') :
  Calls Am 188 #[Aa s.a s.n s.c,Aa s'.a s'.n s'.c] w fun e w'=>e = .returned (.bool (decide (l=l')))/\Below w w w':=by
 obtain ⟨A,n,c⟩:=s;obtain ⟨A0,c0,hv,-⟩:=h.form;simp only [Sl.v,Value.slice.injEq] at hv;obtain ⟨rfl,rfl,rfl⟩:=hv;obtain ⟨A',n',c'⟩:=s';obtain ⟨A0,c0,hv,-⟩:=h'.form;simp only [Sl.v,Value.slice.injEq] at hv;obtain ⟨rfl,rfl,rfl⟩:=hv;have bS:l.length<=2000000:=Ah (Ck _ _) hl;have hll':l'.length<=2000000:=Ah (Ck _ _) hl';have dV:∀ k (hk:k<l.length),Co l[k]<=2000000:=fun k hk=>by have:=Dm (cnt:=Co) (Aw hk);omega
 have hcc':∀ k (hk:k<l'.length),Co l'[k]<=2000000:=fun k hk=>by have:=Dm (cnt:=Co) (Aw hk);omega
 clear hl hl';by_cases aC:l.length=l'.length
 ·have aN:((l.length:Int) != (l'.length:Int))=false:=by simp [aC]
  have Hne:=Br aC;clear aC;go_enter func188,ntmps188;go_wp2;go_loopw [5] (fun i wr=>∃ k:Nat,k<=l.length/\i = J U k/\Hid (l.take k=l'.take k)/\Below w w wr) (fun i _=>l.length - (intOf i).toNat);case atStart=>exact ⟨0,Ag _,rfl,rfl,Bs _ _⟩
  case round =>
   obtain ⟨k,hk,rfl,fJ,hb⟩:=hrel;by_cases aA:k<l.length
   ·have bY:k<l'.length:=by rw [<-Hne.out];exact aA
    obtain ⟨b,o,s,rfl,aJ,hr,c0,c1,c2,c3,c4,c5,c6,c7⟩:=(h.below hb).run aA;obtain ⟨b',o',s',rfl,bF,gK,d0,d1,d2,d3,d4,d5,d6,d7⟩:=(h'.below hb).run bY;have hx:∀ W,Below wr wr W->Cf.rd W W l[k] s:=fun W hW=>Cf.rd_more (Cf.rd_below (Cf.rd_more hr hb.size) hW) hW.size;have dR:∀ W,Below wr wr W->Cf.rd W W l'[k] s':=fun W hW=>Cf.rd_more (Cf.rd_below (Cf.rd_more gK hb.size) hW) hW.size;go_wp2;go_still_tail 8,Bm;go_wp2_with (go_at_call 262;refine (Afa l[k] l'[k] s s' _ (dV k aA) (hcc' k bY) (hx _ (by first | exact Bs _ _ | exact (Bs _ _).drew)) (dR _ (by first | exact Bs _ _ | exact (Bs _ _).drew))).mono ?_;rintro e w1 ⟨rfl,aG⟩)
    ·exact Air
    ·exact Ail
   ·exact Aiw
 ·have aN:((l.length:Int) != (l'.length:Int))=true:=by simp;omega
  go_enter func188,ntmps188;go_wp2;go_ret;refine ⟨Bx ?_,Bs _ _⟩;simp only [Bool.false_eq,decide_eq_false_iff_not];intro e;exact aC (by rw [e])
theorem Kn:(Am.info? 67).map (fun i=>(i.zero,i.size,i.bytes))=Ac (Ac (.agg #[J U 0,J U 0,J U 0,J U 0,J U 0,Aa Ab 0 0,J U 0,Aa Ab 0 0]),8,96):=Bm
theorem Ade (l:List (Run)) (s:Sl) (w:World) (hl:Ek Co l<=2000000) (h:RdL Cf w w s.v l) :
  Calls Am 184 #[.slice s.a s.n s.c] w (Dv (Dt.list Cf) slV l w):=by
 obtain ⟨A,n,c⟩:=s;obtain ⟨A',c',hv,-⟩:=h.form;simp only [Sl.v,Value.slice.injEq] at hv;obtain ⟨rfl,rfl,rfl⟩:=hv;have bS:l.length<=2000000:=Ah (Ck _ _) hl;have dV:∀ k (hk:k<l.length),Co l[k]<=2000000:=fun k hk=>by have:=Dm (cnt:=Co) (Aw hk);omega
 clear hl;obtain ⟨i0,aQ,aU,aS,aR⟩:=info_parts Kn;have kN:∀ w:World,(Instr.makeSlice 29 (.int .i64 (l.length:Int)) (.int .i64 (l.length:Int))).run Am w = .ok (.slice (Ac ⟨w,0,Ab⟩) l.length l.length) (w.alloc (.cells (madeCells #[.int .i64 0,.int .i64 0,.int .i64 0,.int .i64 0,.int .i64 0,.slice Ab 0 0,.int .i64 0,.slice Ab 0 0] (l.length * 8)) 67)):=by
  intro w
  have:=run_make (P:=Am) w 29 67 i0 _ underlying29 aQ aU .i64 .i64 l.length l.length Bl Bl (by rw [aR];omega) Bl
  exact Akm
 go_enter func184,ntmps184;go_wp2;go_loopw [4] (fun i wr=>∃ k:Nat,k<=l.length/\i = .int .i64 k/\Hid (∃ (rs:List ((Run)×Sl×Sl)) (G:List Nat),rs.map (·.1)=l.take k/\Ow Cf.enc 67 wr w (.slice (Ac ⟨w,0,Ab⟩) l.length l.length) (rs ++ List.replicate (l.length - k) (⟨0,⟨0,0,0,0,[]⟩,0,[]⟩,(⟨Ab,0,0⟩,⟨Ab,0,0⟩)))/\Ows Cf wr G rs/\G.Nodup /\ ∀ b∈G,w<b)/\Below w w wr) (fun i _=>l.length - (intOf i).toNat);case atStart=>exact ⟨0,Ag _,rfl,⟨[],[],rfl,by rw [List.nil_append,Nat.sub_zero];exact Ow.made Cf.enc 67 w (⟨0,⟨0,0,0,0,[]⟩,0,[]⟩,(⟨Ab,0,0⟩,⟨Ab,0,0⟩)) l.length Bq (by simp [maxLen];omega) rfl rfl,.nil,List.nodup_nil,fun _ h=>by cases h⟩,Bu⟩
 case round =>
  obtain ⟨k,hk,rfl,⟨rs,G,hm,hown,hG,jH,eI⟩,hb⟩:=hrel;have bK:rs.length=k:=by have:=congrArg List.length hm;simpa [Nat.min_eq_left hk] using this
  by_cases aA:k<l.length
  ·obtain ⟨b,o,s,rfl,aJ,hr,c0,c1,c2,c3,c4,c5,c6,c7⟩:=(h.below hb).run aA;have hx:∀ W,Below wr wr W->Cf.rd W W l[k] s:=fun W hW=>Cf.rd_more (Cf.rd_below (Cf.rd_more hr hb.size) hW) hW.size;have aE:(rs ++ List.replicate (l.length - k) ((⟨0,⟨0,0,0,0,[]⟩,0,[]⟩,(⟨Ab,0,0⟩,⟨Ab,0,0⟩)):(Run)×Sl×Sl)).length=l.length:=by simp;omega
   have Hm:=Br hm;have Hrl:=Br bK;clear hm bK;go_wp2_with (go_at_call 258;refine (Ae9 l[k] s _ (dV k aA) (hx _ (by first | exact Bs _ _ | exact (Bs _ _).drew))).mono ?_;rintro e w1 ⟨s1,F1,rfl,o1,n1,aG⟩;have bM:=hown.below aG;have hf:=bM.free;obtain ⟨d0,d1,d2,d3,d4,d5,d6,d7⟩:=bM.c_run (k:=k) (by rw [aE];exact aA))
   have hp:=Ow.put bM aE k aA (l[k],s1);have Hp:=Bld.lay hG jH eI aG (r:=(l[k],s1)) o1 n1 (Ai (hown.blk).2 (Bt _)) hp.2;rw [M9 rs _ k l.length Hrl.out aA] at hp;refine ⟨⟨k+1,Bl,by go_num,⟨rs ++ [(l[k],s1)],G ++ F1,?_,hp.1,Hp.1,Hp.2.1,Hp.2.2⟩,(hb.trans (aG.mono hb.size)).grown hp.2 (Ah hb.size aG.size) (fun g hg=>by simp at hg;omega)⟩,clM⟩;rw [List.map_append,Hm.out,Cp l k aA];rfl
  ·have aZ:k=l.length:=Bl;subst aZ;rw [Nat.sub_self,List.replicate_zero,List.append_nil] at hown;go_wp2;go_ret;rw [List.take_length] at hm;have hB:Bld Cf 67 wr w (.slice (Ac ⟨w,0,Ab⟩) l.length l.length) rs:=⟨G,by rw [<-bK];exact (by rw [bK];exact hown),hG,jH,fun b aX=>⟨Nat.le_of_lt (eI b aX),by simp [Value.ownBlock];have:=eI b aX;omega⟩⟩
   obtain ⟨F,h1,h2⟩:=hB.owl hm;exact ⟨⟨Ac ⟨w,0,Ab⟩,l.length,l.length⟩,F,rfl,h1,h2,hb⟩
theorem Y5 (l:List (Run)) (s:Sl) (F:List Nat) (k:Int) (w:World) (hl:Ek Co l<=2000000) (cE:0<=k) (fC:k<=900000000) (h:OwL Cf w F s.v l) :
  Calls Am 192 #[Aa s.a s.n s.c,J U k] w (Mu (Dt.list Cf) F (mkL Pt Fd k l) s (k+(C9 Fd l:Nat)) w):=by
 obtain ⟨A,n,c⟩:=s;obtain ⟨A',c',hv,-⟩:=h.form;simp only [Sl.v,Value.slice.injEq] at hv;obtain ⟨rfl,rfl,rfl⟩:=hv;have bS:l.length<=2000000:=Ah (Ck _ _) hl;have cG:∀ j,C9 Fd (l.take j)<=26000000:=fun j=>by
  exact Anj
 have dV:∀ k (hk:k<l.length),Co l[k]<=2000000:=fun k hk=>by have:=Dm (cnt:=Co) (Aw hk);omega
 have Hnl:=Br cG;clear cG hl;go_enter func192,ntmps192;go_wp2;go_loopw [1,5] (fun q i wr=>∃ (j:Nat) (m:Int),j<=l.length/\i = J U j/\q = J U m/\Hid (m=k+(C9 Fd (l.take j):Nat))/\OwL Cf wr F (Aa A l.length c) (mkL Pt Fd k (l.take j) ++ l.drop j)/\Chg F w wr) (fun _ i _=>l.length - (intOf i).toNat);case atStart=>exact ⟨0,k,Ag _,rfl,rfl,by show k=_;simp [C9],h,Chg.refl _ _⟩
 case round =>
  obtain ⟨j,m,hj,rfl,rfl,hm,ho,hc⟩:=hrel;have hm':=hm.out;have fQ:=Hnl.out j;have cL:0<=m:=Bl;have bZ:m<=926000000:=Bl;clear hm' fQ;by_cases aA:j<l.length
  ·have aB:(j:Int)<(l.length:Int):=Bl;have aE:(mkL Pt Fd k (l.take j) ++ l.drop j).length=l.length:=by simp [Em];omega
   obtain ⟨b,o,rs,s,G1,Fx,G2,rfl,hF,cV,f0⟩:=ho.foc (j:=j) (by rw [aE];exact aA);rw [Na Pt Fd k l j aA] at f0;subst hF;have Hrm:=Br cV;clear cV ho;obtain ⟨c0,c1,c2,c3,c4,c5,c6,c7⟩:=f0.run;have fr0:=f0.free;have kM:Ek Ei l[j].plan.edges<=2000000:=Alz
   have hne0:C9 C6 l[j].plan.edges<=26000000:=by
    have h2:=Et (num:=C6) (cnt:=Ei) (K:=13) Jv l[j].plan.edges;omega
   have hce1:Ek D7 l[j].tasks<=2000000:=Alz
   have hne1:C9 Dw l[j].tasks<=26000000:=by
    have h2:=Et (num:=Dw) (cnt:=D7) (K:=13) Lz l[j].tasks;omega
   go_wp2_with fail
   obtain ⟨f1,g1⟩:=f0.put ⟨m,⟨m+1,m+1+1,m+1+1+1,m+1+1+1+1,l[j].plan.edges⟩,l[j].state,l[j].tasks⟩ 0 [J U (m),J U (m+1),J U (m+1+1),J U (m+1+1+1),J U (m+1+1+1+1)] (by show 0+5<=8;omega) (fun i hi=>match i,hi with | 0,_=>rfl | 1,_=>rfl | 2,_=>rfl | 3,_=>rfl | 4,_=>rfl | i+5,hi=>absurd hi Bo) (fun i hi hx=>match i,hi,hx with | 0,_,hx=>absurd hx Bo | 1,_,hx=>absurd hx Bo | 2,_,hx=>absurd hx Bo | 3,_,hx=>absurd hx Bo | 4,_,hx=>absurd hx Bo | 5,_,_=>rfl | 6,_,_=>rfl | 7,_,_=>rfl | i+8,hi,_=>absurd hi (by show ¬ (i+8<8);omega)) (fun _ hh=>hh);obtain ⟨Fa,Fb,jW,cA,ha,hb⟩:=f1.here;subst jW;refine (Ps l[j].plan.edges s.1 Fa _ _ kM Bl Bl ha).mono ?_;rintro e w2 ⟨rfl,o2,g2'⟩;have g2:=g2'.mono (G:=Fa ++ Fb) (fun _ hh=>List.mem_append_left _ hh);have f2:=f1.sub (y:=⟨m,⟨m+1,m+1+1,m+1+1+1,m+1+1+1+1,mkL Kb C6 (m+1+1+1+1+1) l[j].plan.edges⟩,l[j].state,l[j].tasks⟩) g2 ⟨Fa,Fb,rfl,cA,o2,Dt.ow_chg _ hb g2' (Mm cA).2⟩ rfl;obtain ⟨c2_0,c2_1,c2_2,c2_3,c2_4,c2_5,c2_6,c2_7⟩:=f2.run;have fr2:=f2.free;go_wp2_with fail
   obtain ⟨f3,g3⟩:=f2.put ⟨m,⟨m+1,m+1+1,m+1+1+1,m+1+1+1+1,mkL Kb C6 (m+1+1+1+1+1) l[j].plan.edges⟩,m+1+1+1+1+1+(C9 C6 l[j].plan.edges:Nat),l[j].tasks⟩ 6 [J U (m+1+1+1+1+1+(C9 C6 l[j].plan.edges:Nat))] (by show 6+1<=8;omega) (fun i hi=>match i,hi with | 0,_=>rfl | i+1,hi=>absurd hi Bo) (fun i hi hx=>match i,hi,hx with | 0,_,_=>rfl | 1,_,_=>rfl | 2,_,_=>rfl | 3,_,_=>rfl | 4,_,_=>rfl | 5,_,_=>rfl | 6,_,hx=>absurd hx Bo | 7,_,_=>rfl | i+8,hi,_=>absurd hi (by show ¬ (i+8<8);omega)) (fun _ hh=>hh);obtain ⟨Fa',Fb',jW,hFn',ha',aX⟩:=f3.here;refine (W6 l[j].tasks s.2 Fb' _ _ hce1 Bl Bl aX).mono ?_;rintro e w4 ⟨rfl,o4,g4'⟩;have g4:=g4'.mono (G:=Fa ++ Fb) (fun _ hh=>by rw [jW];exact List.mem_append_right _ hh);have f4:=f3.sub (y:=⟨m,⟨m+1,m+1+1,m+1+1+1,m+1+1+1+1,mkL Kb C6 (m+1+1+1+1+1) l[j].plan.edges⟩,m+1+1+1+1+1+(C9 C6 l[j].plan.edges:Nat),mkL Ly Dw (m+1+1+1+1+1+(C9 C6 l[j].plan.edges:Nat)+1) l[j].tasks⟩) g4 ⟨Fa',Fb',jW,hFn',Dt.ow_chg _ ha' g4' (by rw [jW] at hFn';exact (Mm hFn').1),o4⟩ rfl;obtain ⟨c4_0,c4_1,c4_2,c4_3,c4_4,c4_5,c4_6,c4_7⟩:=f4.run;have fr4:=f4.free;go_wp2;have pL:=hm.out;have hown:=f4.owl Hrm.out;have dU:⟨m,⟨m+1,m+1+1,m+1+1+1,m+1+1+1+1,mkL Kb C6 (m+1+1+1+1+1) l[j].plan.edges⟩,m+1+1+1+1+1+(C9 C6 l[j].plan.edges:Nat),mkL Ly Dw (m+1+1+1+1+1+(C9 C6 l[j].plan.edges:Nat)+1) l[j].tasks⟩=Pt m l[j]:=rfl;have bW:=O8 Pt Fd k l j aA;rw [<-hm.out] at bW;rw [dU,bW] at hown;have cN:(C9 Fd (l.take (j+1)):Nat)=C9 Fd (l.take j)+Fd l[j]:=Ew _ _ _ aA;refine ⟨⟨j+1,m+1+1+1+1+1+(C9 C6 l[j].plan.edges:Nat)+1+(C9 Dw l[j].tasks:Nat),Bl,by go_num,rfl,?_,hown,((((hc).trans (g1.mono (fun _ hh=>O7 hh))).trans (g2.mono (fun _ hh=>Uq hh))).trans (g3.mono (fun _ hh=>O7 hh))).trans (g4.mono (fun _ hh=>Uq hh))⟩,clM⟩;have eW:Fd l[j]=6+C9 C6 l[j].plan.edges+C9 Dw l[j].tasks:=rfl;show m+1+1+1+1+1+(C9 C6 l[j].plan.edges:Nat)+1+(C9 Dw l[j].tasks:Nat)=_;rw [cN,eW];push_cast;omega
  ·exact Aiq
theorem Y7 (l:List (Run)) (s:Sl) (k:Int) (w:World) (hl:Ek Co l<=2000000) (cE:0<=k) (fC:k<=900000000) (h:RdL Cf w w s.v (mkL Pt Fd k l)) :
  Calls Am 195 #[Aa s.a s.n s.c,J U k] w fun e w'=>e = .returned (J U (k+(C9 Fd l:Nat)))/\Below w w w':=by
 obtain ⟨A,n,c⟩:=s;obtain ⟨A',c',hv,-⟩:=h.form;simp only [Sl.v,Value.slice.injEq,Em] at hv;obtain ⟨rfl,rfl,rfl⟩:=hv;have bS:l.length<=2000000:=Ah (Ck _ _) hl;have cG:∀ j,C9 Fd (l.take j)<=26000000:=fun j=>by
  exact Anj
 have dV:∀ k (hk:k<l.length),Co l[k]<=2000000:=fun k hk=>by have:=Dm (cnt:=Co) (Aw hk);omega
 have aL:∀ (wr:World) (j:Nat) (hj:j<l.length) (m:Int),Below w w wr->m=k+(C9 Fd (l.take j):Nat) -> ∃ b o,∃ s:Sl×Sl,A=Ac ⟨b,o,Ab⟩/\b<w.heap.size/\Cf.rd wr w (Pt m l[j]) s/\wr.cell? ⟨b,o+j * 8,Ab⟩=Ac (J U (m))/\wr.cell? ⟨b,o+j * 8+1,Ab⟩=Ac (J U (m+1))/\wr.cell? ⟨b,o+j * 8+2,Ab⟩=Ac (J U (m+1+1))/\wr.cell? ⟨b,o+j * 8+3,Ab⟩=Ac (J U (m+1+1+1))/\wr.cell? ⟨b,o+j * 8+4,Ab⟩=Ac (J U (m+1+1+1+1))/\wr.cell? ⟨b,o+j * 8+5,Ab⟩=Ac (Aa s.1.a s.1.n s.1.c)/\wr.cell? ⟨b,o+j * 8+6,Ab⟩=Ac (J U (m+1+1+1+1+1+(C9 C6 l[j].plan.edges:Nat)))/\wr.cell? ⟨b,o+j * 8+7,Ab⟩=Ac (Aa s.2.a s.2.n s.2.c):=by
  intro wr j hj m hb hm;obtain ⟨b,o,s,h1,h2,h3,h4⟩:=(h.below hb).run (k:=j) (by rw [Em];exact hj);exact Ai5
 have Hc:=Br aL;have Hnl:=Br cG;clear aL cG hl;go_enter func195,ntmps195;go_wp2;go_loopw [1,5] (fun q i wr=>∃ (j:Nat) (m:Int),j<=l.length/\i = J U j/\q = J U m/\Hid (m=k+(C9 Fd (l.take j):Nat))/\Below w w wr) (fun _ i _=>l.length - (intOf i).toNat);case atStart=>exact ⟨0,k,Ag _,rfl,rfl,by show k=_;simp [C9],Bs _ _⟩
 case round =>
  obtain ⟨j,m,hj,rfl,rfl,hm,hb⟩:=hrel;have hm':=hm.out;have fQ:=Hnl.out j;have cL:0<=m:=Bl;have bZ:m<=926000000:=Bl;clear hm' fQ;by_cases aA:j<l.length
  ·have aB:(j:Int)<(l.length:Int):=Bl;obtain ⟨b,o,s,rfl,aJ,nC,c0,c1,c2,c3,c4,c5,c6,c7⟩:=Hc.out wr j aA m hb hm.out;have hx:∀ W,Below wr wr W->Cf.rd W W (Pt m l[j]) s:=fun W hW=>Cf.rd_more (Cf.rd_below (Cf.rd_more nC hb.size) hW) hW.size;have kM:Ek Ei l[j].plan.edges<=2000000:=Alz
   have hne0:C9 C6 l[j].plan.edges<=26000000:=by
    have h2:=Et (num:=C6) (cnt:=Ei) (K:=13) Jv l[j].plan.edges;omega
   have hce1:Ek D7 l[j].tasks<=2000000:=Alz
   have hne1:C9 Dw l[j].tasks<=26000000:=by
    have h2:=Et (num:=Dw) (cnt:=D7) (K:=13) Lz l[j].tasks;omega
   go_wp2_with fail
   refine (W0 l[j].plan.edges s.1 _ _ kM Bl Bl (hx _ (by first | exact Bs _ _ | exact (Bs _ _).drew)).1).mono ?_;rintro e v0 ⟨rfl,aN⟩;have B0:Below wr wr v0:=Bv (by first | exact Bs _ _ | exact (Bs _ _).drew) aN;obtain ⟨q0,p0⟩:=Gf B0;have hbr0:=Ai aJ hb.size;go_wp2_with fail
   refine (W7 l[j].tasks s.2 _ _ hce1 Bl Bl (hx _ B0).2).mono ?_;rintro e v1 ⟨rfl,aG⟩;have B1:Below wr wr v1:=Bv B0 aG;obtain ⟨q1,p1⟩:=Gf B1;have hbr1:=Ai aJ hb.size;go_wp2;have cN:(C9 Fd (l.take (j+1)):Nat)=C9 Fd (l.take j)+Fd l[j]:=Ew _ _ _ aA;refine ⟨⟨j+1,m+1+1+1+1+1+(C9 C6 l[j].plan.edges:Nat)+1+(C9 Dw l[j].tasks:Nat),Bl,by go_num,rfl,?_,Bv hb B1⟩,clM⟩;have eW:Fd l[j]=6+C9 C6 l[j].plan.edges+C9 Dw l[j].tasks:=rfl;have pL:=hm.out;show m+1+1+1+1+1+(C9 C6 l[j].plan.edges:Nat)+1+(C9 Dw l[j].tasks:Nat)=_;rw [cN,eW];push_cast;omega
  ·exact Ai8
structure Deed where
 kind:Int
 run:Int
 plan:Plan
 task:Int
 try_:Int
 worker:Int
 draw:Int
deriving DecidableEq,Inhabited
@[go_sem] abbrev Dc (x:Deed) (s:Sl):Value:=.agg #[.int .i64 x.kind,.int .i64 x.run,.int .i64 x.plan.prio,.int .i64 x.plan.most,.int .i64 x.plan.wait,.int .i64 x.plan.tasks,.slice s.a s.n s.c,.int .i64 x.task,.int .i64 x.try_,.int .i64 x.worker,.int .i64 x.draw]
abbrev Cq:Dt Deed:=Dt.via Ce (·.plan) (fun q=>[.int .i64 q.1.kind,.int .i64 q.1.run,.int .i64 q.1.plan.prio,.int .i64 q.1.plan.most,.int .i64 q.1.plan.wait,.int .i64 q.1.plan.tasks,.slice q.2.a q.2.n q.2.c,.int .i64 q.1.task,.int .i64 q.1.try_,.int .i64 q.1.worker,.int .i64 q.1.draw]) 11 (fun _=>rfl) (fun q u hu=>by simp at hu;rcases hu with rfl | rfl | rfl | rfl | rfl | rfl | rfl | rfl | rfl | rfl | rfl<;>rfl)
def E8 (x:Deed):Nat:=Ec x.plan
def Y8 (x:Deed):Prop:=Wf x.kind/\Wf x.run/\Y2 x.plan/\Wf x.task/\Wf x.try_/\Wf x.worker/\Wf x.draw
theorem Nt (x:Deed) (s:Sl) (w:World) (hl:E8 x<=2000000) (h:Cq.rd w w x s) :
  Calls Am 52 #[Dc x s] w (Dv Cq Dc x w):=by
 have bG:∀ W,Below w w W->Cq.rd W W x s:=fun W hW=>Cq.rd_more (Cq.rd_below h hW) hW.size;go_enter func52,ntmps52;go_wp2_with fail
 refine (U0 x.plan s _ (by unfold E8 at hl;omega) ((bG _ (by repeat (first | exact Bs _ _ | refine Ae ?_ Bp _))))).mono ?_;rintro e w0 ⟨s0,F0,rfl,o0,n0,aN⟩;obtain ⟨q0,p0⟩:=Gf aN;have z0:=aN.size;simp only [Bj,Bk] at z0 n0;have B0:Below w w w0:=Bv (by repeat (first | exact Bs _ _ | refine Ae ?_ Bp _)) aN;go_wp2;refine Aj (v:=Dc x s0) ?_ rfl ?_
 ·simp [Dc,results,results52,go_sem,q0]
 ·exact Ajj
theorem Adf (x y:Deed) (s r:Sl) (w:World) (hl:E8 x<=2000000) (hl':E8 y<=2000000) (h:Cq.rd w w x s) (h':Cq.rd w w y r) :
  Calls Am 55 #[Dc x s,Dc y r] w fun e w'=>e = .returned (.bool (decide (x=y)))/\Below w w w':=by
 have bG:∀ W,Below w w W->Cq.rd W W x s:=fun W hW=>Cq.rd_more (Cq.rd_below h hW) hW.size;have cC:∀ W,Below w w W->Cq.rd W W y r:=fun W hW=>Cq.rd_more (Cq.rd_below h' hW) hW.size;by_cases h0:x.kind=y.kind;case neg =>
  have t0:(x.kind != y.kind)=true:=by rw [bne_iff_ne];exact h0
  have H:=Br (show decide (x=y)=false by simp only [decide_eq_false_iff_not];intro e;exact h0 (by rw [e]));clear h0;go_enter func55,ntmps55;go_wp2;go_ret;exact ⟨Bx (by first | exact H.out.symm | rfl),by repeat (first | exact Bs _ _ | refine Ae ?_ Bp _)⟩
 have t0:(x.kind != y.kind)=false:=by simp [h0]
 have H0:=Br h0;clear h0;by_cases h1:x.run=y.run;case neg =>
  have t1:(x.run != y.run)=true:=by rw [bne_iff_ne];exact h1
  have H:=Br (show decide (x=y)=false by simp only [decide_eq_false_iff_not];intro e;exact h1 (by rw [e]));clear h1;go_enter func55,ntmps55;go_wp2;go_ret;exact ⟨Bx (by first | exact H.out.symm | rfl),by repeat (first | exact Bs _ _ | refine Ae ?_ Bp _)⟩
 have t1:(x.run != y.run)=false:=by simp [h1]
 have H1:=Br h1;clear h1;go_enter func55,ntmps55;go_wp2_with fail
 refine (U1 x.plan y.plan s r _ (by unfold E8 at hl;omega) (by unfold E8 at hl';omega) ((bG _ (by repeat (first | exact Bs _ _ | refine Ae ?_ Bp _)))) ((cC _ (by repeat (first | exact Bs _ _ | refine Ae ?_ Bp _))))).mono ?_;rintro e w2 ⟨rfl,aK⟩;have B2:Below w w w2:=Bv (by repeat (first | exact Bs _ _ | refine Ae ?_ Bp _)) aK;obtain ⟨q2,p2⟩:=Gf aK;by_cases h2:x.plan=y.plan;case neg =>
  exact Aj9
 rw [decide_eq_true h2];have H2:=Br h2;clear h2;by_cases h3:x.task=y.task;case neg =>
  have t3:(x.task != y.task)=true:=by rw [bne_iff_ne];exact h3
  have H:=Br (show decide (x=y)=false by simp only [decide_eq_false_iff_not];intro e;exact h3 (by rw [e]));clear h3;go_wp2;go_ret;exact ⟨Bx (by first | exact H.out.symm | rfl),by exact B2⟩
 have t3:(x.task != y.task)=false:=by simp [h3]
 have H3:=Br h3;clear h3;by_cases h4:x.try_=y.try_;case neg =>
  have t4:(x.try_ != y.try_)=true:=by rw [bne_iff_ne];exact h4
  have H:=Br (show decide (x=y)=false by simp only [decide_eq_false_iff_not];intro e;exact h4 (by rw [e]));clear h4;go_wp2;go_ret;exact ⟨Bx (by first | exact H.out.symm | rfl),by exact B2⟩
 have t4:(x.try_ != y.try_)=false:=by simp [h4]
 have H4:=Br h4;clear h4;by_cases h5:x.worker=y.worker;case neg =>
  have t5:(x.worker != y.worker)=true:=by rw [bne_iff_ne];exact h5
  have H:=Br (show decide (x=y)=false by simp only [decide_eq_false_iff_not];intro e;exact h5 (by rw [e]));clear h5;go_wp2;go_ret;exact ⟨Bx (by first | exact H.out.symm | rfl),by exact B2⟩
 have t5:(x.worker != y.worker)=false:=by simp [h5]
 have H5:=Br h5;clear h5;by_cases h6:x.draw=y.draw;case neg =>
  have t6:(x.draw != y.draw)=true:=by rw [bne_iff_ne];exact h6
  have H:=Br (show decide (x=y)=false by simp only [decide_eq_false_iff_not];intro e;exact h6 (by rw [e]));clear h6;go_wp2;go_ret;exact ⟨Bx (by first | exact H.out.symm | rfl),by exact B2⟩
 have t6:(x.draw != y.draw)=false:=by simp [h6]
 have H6:=Br h6;clear h6;have H:=Br (show decide (x=y)=true by
  simp only [decide_eq_true_eq];have hh:=And.intro H0.out (And.intro H1.out (And.intro H2.out (And.intro H3.out (And.intro H4.out (And.intro H5.out H6.out)))));obtain ⟨e0,e1,e2,e3,e4,e5,e6⟩:=hh;cases x;cases y;simp only at e0 e1 e2 e3 e4 e5 e6;subst e0 e1 e2 e3 e4 e5 e6;rfl)
 go_wp2;go_ret;exact ⟨Bx (by first | exact H.out.symm | rfl),by exact B2⟩
theorem Adg (x:Deed) (s:Sl) (left:Int) (w:World) (h0:0<=left) (h1:left<=2000000) (hw:Y8 x) (h:Cq.rd w w x s) :
  Calls Am 50 #[Dc x s,J U left] w (Lv left (E8 x) w):=by
 have bG:∀ W,Below w w W->Cq.rd W W x s:=fun W hW=>Cq.rd_more (Cq.rd_below h hW) hW.size;go_enter func50,ntmps50;go_wp2_with fail
 refine (U2 x.plan s left _ Bl Bl hw.2.2.1 ((bG _ (by repeat (first | exact Bs _ _ | refine Ae ?_ Bp _))))).mono ?_;rintro e w0 ⟨r0,rfl,jL,aN⟩;have B0:Below w w w0:=Bv (by repeat (first | exact Bs _ _ | refine Ae ?_ Bp _)) aN;obtain ⟨q0,p0⟩:=Gf aN;rcases jL with rfl | ⟨y0,z0⟩
 ·exact Akz
 go_wp2;go_ret;exact ⟨_,rfl,.inr ⟨Bl,by unfold E8;omega⟩,B0⟩
theorem Ry {α:Type} {p:α->Bool} {l:List α} : (0<=Hv p l) ↔ ∃ x∈l,p x=true:=by
 unfold Hv;cases h:l.findIdx? p with
 | none =>
  rw [List.findIdx?_eq_none_iff] at h;simp only;refine ⟨fun h=>absurd h Bl,?_⟩;rintro ⟨x,hx,hp⟩
  have:=h x hx
  rw [hp] at this;cases this
 | some i =>
  rw [List.findIdx?_eq_some_iff_getElem] at h;obtain ⟨hi,hp,_⟩:=h;simp only;exact ⟨fun _=>⟨_,Aw hi,hp⟩,fun _=>Bl⟩
theorem Za (v:Value) (l:List Nat) (x:Nat) (B:Nat) (w:World) (hl:l.length<=2000000) (h:Rd E0 w B v l) :
  Calls Am 224 #[v,J U (x:Int)] w fun e w'=>e = .returned (J U (Hv (fun y=>decide (x=y)) l))/\w=w':=by
 obtain ⟨A,c,rfl,-⟩:=id h;go_enter func224,ntmps224;go_wp2;go_loop [8] (fun i=>∃ k:Nat,k<=l.length/\i = J U k/\Hid (∀ j (hj:j<k) (hj':j<l.length),decide (x=l[j])=false)) (fun i=>l.length - (intOf i).toNat);case atStart=>exact ⟨0,Ag _,rfl,fun j hj=>absurd hj Bl⟩
 case round =>
  obtain ⟨k,hk,rfl,cQ⟩:=hrel;by_cases aA:k<l.length
  ·obtain ⟨b,o,rfl,aJ,c0⟩:=h.nat aA;have aB:(k:Int)<(l.length:Int):=Bl;by_cases hx:x=l[k]
   ·have H:=Br (Jy (p:=fun y=>decide (x=y)) aA (fun j hj=>cQ.out j hj Bl) (show decide (x=l[k])=true by simp [hx]));have fB:((x:Int) == (l[k]:Int))=true:=by simp [hx]
    clear hx;go_wp2;go_ret;exact ⟨Cy (by rw [H.out]),rfl⟩
   ·have fB:((x:Int) == (l[k]:Int))=false:=beq_eq_false_iff_ne.2 Bl;have S:Hid (∀ j (hj:j<k+1) (hj':j<l.length),decide (x=l[j])=false):=Amv
    clear hx;exact Ame
  ·have aB:¬ (k:Int)<(l.length:Int):=Bl;have H:=Br (Km (p:=fun y=>decide (x=y)) (l:=l) (fun j hj=>cQ.out j Bl hj));go_wp2;go_ret;exact ⟨Cy (by rw [H.out]),rfl⟩
theorem K9 (v:Value) (l:List Nat) (x:Nat) (B:Nat) (w:World) (hl:l.length<=2000000) (h:Rd E0 w B v l) :
  Calls Am 141 #[v,J U (x:Int)] w fun e w'=>e = .returned (.bool (decide (x∈l)))/\w=w':=by
 have H:=Br (show decide (0<=Hv (fun y=>decide (x=y)) l)=decide (x∈l) from decide_eq_decide.2 (Ry.trans Bo));go_enter func141,ntmps141;go_wp2_with fail
 refine (Za v l x B _ hl h).mono ?_;rintro e w1 ⟨rfl,rfl⟩;go_wp2_with fail
 go_ret;exact ⟨Bx (by rw [<-H.out]),rfl⟩
def Pu:Enc UInt8:={ cells:=fun x=>[.int .u8 (x.toNat:Int)],sz:=1,len:=fun _=>rfl,one:=fun _ u hu=>by simp at hu;subst hu;rfl }
/-! the cursor at its start -/
/-! a number below another one -/
structure Yard where
 now:Int
 seq:Int
 shelf:List (List Entry)
 runs:List Run
deriving DecidableEq,Inhabited
@[go_sem] abbrev Ds (x:Yard) (s:Sl×Sl):Value:=.agg #[.int .i64 x.now,.int .i64 x.seq,.slice s.1.a s.1.n s.1.c,.slice s.2.a s.2.n s.2.c]
abbrev Bw:Dt Yard:=Dt.two (Dt.list (Dt.list By)) (Dt.list Cf) (·.shelf) (·.runs) (fun q=>[.int .i64 q.1.now,.int .i64 q.1.seq,.slice q.2.1.a q.2.1.n q.2.1.c,.slice q.2.2.a q.2.2.n q.2.2.c]) 4 (fun _=>rfl) (fun q u hu=>by simp at hu;rcases hu with rfl | rfl | rfl | rfl<;>rfl)
def Ca (x:Yard):Nat:=Ek Cn x.shelf+Ek Co x.runs
def Adh (x:Yard):Prop:=Wf x.now/\Wf x.seq/\wfL Ok x.shelf/\wfL U4 x.runs
theorem Adi (x:Yard) (s:Sl×Sl) (w:World) (hl:Ca x<=2000000) (h:Bw.rd w w x s) :
  Calls Am 109 #[Ds x s] w (Dv Bw Ds x w):=by
 have bG:∀ W,Below w w W->Bw.rd W W x s:=fun W hW=>Bw.rd_more (Bw.rd_below h hW) hW.size;go_enter func109,ntmps109;go_wp2_with fail
 refine (Wz x.shelf s.1 _ (by unfold Ca at hl;omega) ((bG _ (by repeat (first | exact Bs _ _ | refine Ae ?_ Bp _))).1)).mono ?_;rintro e w0 ⟨s0,F0,rfl,o0,n0,aN⟩;obtain ⟨q0,p0⟩:=Gf aN;have z0:=aN.size;simp only [Bj,Bk] at z0 n0;have B0:Below w w w0:=Bv (by repeat (first | exact Bs _ _ | refine Ae ?_ Bp _)) aN;go_wp2_with fail
 refine (Ade x.runs s.2 _ (by unfold Ca at hl;omega) ((bG _ (by repeat (first | (with_reducible exact B0) | (with_reducible exact Bs _ _) | refine Ad ?_ Bp _ | refine Ae ?_ Bp _))).2)).mono ?_;rintro e w1 ⟨s1,F1,rfl,o1,n1,aG⟩;obtain ⟨q1,p1⟩:=Gf aG;have z1:=aG.size;simp only [Bj,Bk] at z1 n1 q1 p1;have B1:Below w w w1:=Bv (by repeat (first | (with_reducible exact B0) | (with_reducible exact Bs _ _) | refine Ad ?_ Bp _ | refine Ae ?_ Bp _)) aG;have q1a:=fun o=>q1 w o Bl;have p1a:=fun o=>p1 w o Bl;have q1b:=fun o=>q1 (w+1) o Bl;have p1b:=fun o=>p1 (w+1) o Bl;have q1c:=fun o=>q1 (w+1+1) o Bl;have p1c:=fun o=>p1 (w+1+1) o Bl;go_wp2;refine Aj (v:=Ds x (s0,s1)) ?_ rfl ?_
 ·simp [Ds,results,results109,go_sem,q0,q1,q1a,q1b,q1c]
 ·refine ⟨(s0,s1),F0 ++ F1,rfl,⟨F0,F1,rfl,?_,?_,?_⟩,?_,?_⟩
  ·rw [Ax];refine ⟨Dt.ow_nodup (Dt.list (Dt.list By)) o0,Dt.ow_nodup (Dt.list Cf) o1,fun u hu u' hu' e=>?_⟩;have h1:=Dt.ow_lt (Dt.list (Dt.list By)) o0 u hu;have h2:=n1 u' hu';omega
  ·repeat (first | (with_reducible exact o0) | refine Dt.ow_set (Dt.list (Dt.list By)) ?_ (by intro hm;have:=n0 _ hm;(try simp only [Bj,Bk] at this);omega) _ | (with_reducible refine Dt.ow_below (Dt.list (Dt.list By)) ?_ aG))
  ·repeat (first | (with_reducible exact o1) | refine Dt.ow_set (Dt.list Cf) ?_ (by intro hm;have:=n1 _ hm;(try simp only [Bj,Bk] at this);omega) _)
  ·exact Amh
  ·exact Aj5
theorem Adj (x y:Yard) (s r:Sl×Sl) (w:World) (hl:Ca x<=2000000) (hl':Ca y<=2000000) (h:Bw.rd w w x s) (h':Bw.rd w w y r) :
  Calls Am 112 #[Ds x s,Ds y r] w fun e w'=>e = .returned (.bool (decide (x=y)))/\Below w w w':=by
 have bG:∀ W,Below w w W->Bw.rd W W x s:=fun W hW=>Bw.rd_more (Bw.rd_below h hW) hW.size;have cC:∀ W,Below w w W->Bw.rd W W y r:=fun W hW=>Bw.rd_more (Bw.rd_below h' hW) hW.size;by_cases h0:x.now=y.now;case neg =>
  have t0:(x.now != y.now)=true:=by rw [bne_iff_ne];exact h0
  have H:=Br (show decide (x=y)=false by simp only [decide_eq_false_iff_not];intro e;exact h0 (by rw [e]));clear h0;go_enter func112,ntmps112;go_wp2;go_ret;exact ⟨Bx (by first | exact H.out.symm | rfl),by repeat (first | exact Bs _ _ | refine Ae ?_ Bp _)⟩
 have t0:(x.now != y.now)=false:=by simp [h0]
 have H0:=Br h0;clear h0;by_cases h1:x.seq=y.seq;case neg =>
  have t1:(x.seq != y.seq)=true:=by rw [bne_iff_ne];exact h1
  have H:=Br (show decide (x=y)=false by simp only [decide_eq_false_iff_not];intro e;exact h1 (by rw [e]));clear h1;go_enter func112,ntmps112;go_wp2;go_ret;exact ⟨Bx (by first | exact H.out.symm | rfl),by repeat (first | exact Bs _ _ | refine Ae ?_ Bp _)⟩
 have t1:(x.seq != y.seq)=false:=by simp [h1]
 have H1:=Br h1;clear h1;go_enter func112,ntmps112;go_wp2_with fail
 refine (Wy x.shelf y.shelf s.1 r.1 _ (by unfold Ca at hl;omega) (by unfold Ca at hl';omega) ((bG _ (by repeat (first | exact Bs _ _ | refine Ae ?_ Bp _))).1) ((cC _ (by repeat (first | exact Bs _ _ | refine Ae ?_ Bp _))).1)).mono ?_;rintro e w2 ⟨rfl,aK⟩;have B2:Below w w w2:=Bv (by repeat (first | exact Bs _ _ | refine Ae ?_ Bp _)) aK;obtain ⟨q2,p2⟩:=Gf aK;by_cases h2:x.shelf=y.shelf;case neg =>
  exact Aj9
 rw [decide_eq_true h2];have H2:=Br h2;clear h2;go_wp2_with fail
 refine (Adc x.runs y.runs s.2 r.2 _ (by unfold Ca at hl;omega) (by unfold Ca at hl';omega) ((bG _ (by first | exact B2 | (repeat (first | exact Bs _ _ | refine Ae ?_ Bp _)))).2) ((cC _ (by first | exact B2 | (repeat (first | exact Bs _ _ | refine Ae ?_ Bp _)))).2)).mono ?_;rintro e w3 ⟨rfl,cB⟩;have B3:Below w w w3:=Bv (by first | exact B2 | (repeat (first | exact Bs _ _ | refine Ae ?_ Bp _))) cB;obtain ⟨q3,p3⟩:=Gf cB;by_cases h3:x.runs=y.runs;case neg =>
  exact Aj8
 rw [decide_eq_true h3];have H3:=Br h3;clear h3;have H:=Br (show decide (x=y)=true by
  simp only [decide_eq_true_eq];have hh:=And.intro H0.out (And.intro H1.out (And.intro H2.out H3.out));obtain ⟨e0,e1,e2,e3⟩:=hh;cases x;cases y;simp only at e0 e1 e2 e3;subst e0 e1 e2 e3;rfl)
 go_wp2;go_ret;exact ⟨Bx (by first | exact H.out.symm | rfl),by exact B3⟩
theorem Adk (x:Yard) (s:Sl×Sl) (left:Int) (w:World) (h0:0<=left) (h1:left<=2000000) (hw:Adh x) (h:Bw.rd w w x s) :
  Calls Am 106 #[Ds x s,J U left] w (Lv left (Ca x) w):=by
 have bG:∀ W,Below w w W->Bw.rd W W x s:=fun W hW=>Bw.rd_more (Bw.rd_below h hW) hW.size;go_enter func106,ntmps106;go_wp2_with fail
 refine (Wx x.shelf s.1 left _ Bl Bl hw.2.2.1 ((bG _ (by repeat (first | exact Bs _ _ | refine Ae ?_ Bp _))).1)).mono ?_;rintro e w0 ⟨r0,rfl,jL,aN⟩;have B0:Below w w w0:=Bv (by repeat (first | exact Bs _ _ | refine Ae ?_ Bp _)) aN;obtain ⟨q0,p0⟩:=Gf aN;rcases jL with rfl | ⟨y0,z0⟩
 ·exact Akz
 go_wp2_with fail
 refine (Adb x.runs s.2 r0 _ Bl Bl hw.2.2.2 ((bG _ B0).2)).mono ?_;rintro e w1 ⟨r1,rfl,qN,aG⟩;have B1:Below w w w1:=Bv B0 aG;obtain ⟨q1,p1⟩:=Gf aG;rcases qN with rfl | ⟨y1,z1⟩
 ·exact Amq
 go_wp2;go_ret;exact ⟨_,rfl,.inr ⟨Bl,by unfold Ca;omega⟩,B1⟩
theorem owB {w w':World} {F:List Nat} {y:Yard} {s:Sl×Sl} (h:Bw.ow w F y s) (hb:Below w w w'):Bw.ow w' F y s:=Bw.ow_below (F:=F) (x:=y) (s:=s) h hb
theorem owC {w w':World} {F G:List Nat} {y:Yard} {s:Sl×Sl} (h:Bw.ow w F y s) (hc:Chg G w w') (hd:∀ b∈F,b∉G):Bw.ow w' F y s:=Bw.ow_chg (F:=F) (x:=y) (s:=s) h hc hd
theorem Xt (l:List Nat):l.flatMap E0.cells=(l.map fun (x:Nat)=>(x:Int)).map (Value.int .i64):=Ak7
theorem Adl {l l':List Nat} (hp:l'.Perm l) (hs:l'.Pairwise (· <= ·)):((l.map fun (x:Nat)=>(x:Int)).mergeSort fun x y=>decide (x<=y))=l'.map fun (x:Nat)=>(x:Int):=by
 have h1:=List.mergeSort_perm (l.map fun (x:Nat)=>(x:Int)) (fun x y=>decide (x<=y));have h2:=List.pairwise_mergeSort (le:=fun x y:Int=>decide (x<=y)) (fun a b c h1 h2=>by simp at *;omega) (fun a b=>by simp;omega) (l.map fun (x:Nat)=>(x:Int));have h3:(l'.map fun (x:Nat)=>(x:Int)).Pairwise (fun x y=>decide (x<=y)=true):=by
  rw [List.pairwise_map];exact hs.imp (fun h=>by simpa using h)
 refine List.Perm.eq_of_pairwise (le:=fun x y=>decide (x<=y)=true) ?_ h2 h3 (h1.trans (hp.symm.map _));intro a b _ _ h h';simp at h h';omega
theorem Sq (v:Value) (l l':List Nat) (base:Nat) (w:World) (hl:l.length<=2000000) (hp:l'.Perm l) (hs:l'.Pairwise (· <= ·)) (ho:Ow E0 3 w base v l) :
  Calls Am 302 #[v] w fun e w'=>e = .returned (.tuple #[])/\Ow E0 3 w' base v l'/\w.grownBy w' v.ownBlock:=by
 rcases ho.2 with ⟨rfl,hn⟩ | ⟨g,cap,cur,rfl,hg,hh,hc,hm,bL,ht⟩
 ·have uD:l=[]:=List.eq_nil_of_length_eq_zero hn;subst uD;have:l'=[]:=List.Perm.eq_nil hp;subst this;refine (Tryz.slices_Sort_int_none Ab 0 w).mono ?_;rintro e w' ⟨he,rfl⟩;exact ⟨he,ho,World.grownBy.refl _ _⟩
 ·have bS:(l.map fun (x:Nat)=>(x:Int)).length=l.length:=Ar _;have mB:cur.toList.take (l.map fun (x:Nat)=>(x:Int)).length=(l.map fun (x:Nat)=>(x:Int)).map (Value.int .i64):=by
   rw [bS,<-Xt,<-ht];simp [E0]
  have hH:=holds_of_blockI hh mB;have sV:g<w:=(Array.getElem?_eq_some_iff.1 hh).1;have h:=Tryz.slices_Sort_int g 0 cap (l.map fun (x:Nat)=>(x:Int)) w hH sV (by rw [bS];omega);rw [bS] at h;refine h.mono ?_;rintro e w' ⟨he,n,os,rfl⟩;rw [Adl hp hs];refine ⟨he,?_,grownBy_sortedI _⟩;have aE:l'.length=l.length:=hp.length_eq
  have:=ownsRow_sortedI (n:=n) (os:=os) (ss:=l.map fun (x:Nat)=>(x:Int)) (ts:=l'.map fun (x:Nat)=>(x:Int)) (by simp [aE]) hg hh (by rw [bS];exact hc) hm bL
  unfold Ow;rw [aE,Xt];rw [bS] at this;exact this
theorem U5 (es:List (Nat×Nat)) (T t:Nat):(Eg es T t).Pairwise (· <= ·):=(List.pairwise_lt_range.imp (fun h=>Nat.le_of_lt h)).filter _
theorem U6 (es:List (Nat×Nat)) (T t:Nat):(Gj es T t).Pairwise (· <= ·):=(List.pairwise_lt_range.imp (fun h=>Nat.le_of_lt h)).filter _
def Ja (es:List (Nat×Nat)) (t:Nat):List Nat:=(es.filter fun e=>decide (e.2=t)).map (·.1)
def Om (es:List (Nat×Nat)) (t:Nat):List Nat:=(es.filter fun e=>decide (e.1=t)).map (·.2)
theorem U7 (es:List (Nat×Nat)) (t:Nat):(Ja es t).length<=es.length:=by
 simp only [Ja,Ar];exact List.length_filter_le _ _
theorem Abc (es:List (Nat×Nat)) (t:Nat):(Om es t).length<=es.length:=by
 simp only [Om,Ar];exact List.length_filter_le _ _
theorem Adm {l l':List (Nat×Nat)} {a d:Nat} (h:l'=l ++ [(a,d)]):Ja l' d=Ja l d ++ [a]:=by
 subst h;simp [Ja,List.filter_append]
theorem Agl {l l':List (Nat×Nat)} {a d:Nat} (h:l'=l ++ [(a,d)]):Om l' a=Om l a ++ [d]:=by
 subst h;simp [Om,List.filter_append]
theorem Afc {l l':List (Nat×Nat)} {a d t:Nat} (h:l'=l ++ [(a,d)]) (hx:¬ d=t):Ja l' t=Ja l t:=by
 subst h;simp [Ja,List.filter_append,hx]
theorem Ahd {l l':List (Nat×Nat)} {a d t:Nat} (h:l'=l ++ [(a,d)]) (hx:¬ a=t):Om l' t=Om l t:=by
 subst h;simp [Om,List.filter_append,hx]
theorem U8 {p:Plan} (he:Hu p) (hn:p.edges.Nodup):(Ea p).Nodup:=by
 unfold Ea esL;show List.Pairwise _ _;rw [List.pairwise_map];refine List.Pairwise.imp_of_mem ?_ hn;intro x y hx hy aC e;have h1:=he x hx;have h2:=he y hy;simp only [Ji,Bool.and_eq_true,Ct] at h1 h2;simp only [Prod.mk.injEq] at e;apply aC;cases x;cases y;simp only [Edge.mk.injEq] at *
 omega
theorem Abd {p:Plan} (he:Hu p) (hn:p.edges.Nodup) (t:Nat):(Eg (Ea p) p.tasks.toNat t).Perm (Ja (Ea p) t):=by
 refine (List.perm_ext_iff_of_nodup (List.nodup_range.filter _) ?_).2 ?_
 ·unfold Ja;show List.Pairwise _ _;rw [List.pairwise_map];refine List.Pairwise.imp_of_mem ?_ ((U8 he hn).filter _);intro x y hx hy aC e;simp only [List.mem_filter,decide_eq_true_eq] at hx hy;exact aC (Prod.ext e (hx.2.trans hy.2.symm))
 ·intro x;simp only [Ja,List.mem_filter,List.mem_range,decide_eq_true_eq,List.mem_map,Prod.exists];constructor
  ·rintro ⟨_,h⟩;exact ⟨x,t,⟨h,rfl⟩,rfl⟩
  ·rintro ⟨a,b,⟨h,rfl⟩,rfl⟩;exact ⟨(Ml he).1 _ h,h⟩
theorem Afd {p:Plan} (he:Hu p) (hn:p.edges.Nodup) (t:Nat):(Gj (Ea p) p.tasks.toNat t).Perm (Om (Ea p) t):=by
 refine (List.perm_ext_iff_of_nodup (List.nodup_range.filter _) ?_).2 ?_
 ·unfold Om;show List.Pairwise _ _;rw [List.pairwise_map];refine List.Pairwise.imp_of_mem ?_ ((U8 he hn).filter _);intro x y hx hy aC e;simp only [List.mem_filter,decide_eq_true_eq] at hx hy;exact aC (Prod.ext (hx.2.trans hy.2.symm) e)
 ·intro x;simp only [Om,List.mem_filter,List.mem_range,decide_eq_true_eq,List.mem_map,Prod.exists];constructor
  ·rintro ⟨_,h⟩;exact ⟨t,x,⟨h,rfl⟩,rfl⟩
  ·rintro ⟨a,b,⟨h,rfl⟩,rfl⟩;exact ⟨(Ml he).2 _ h,h⟩
theorem On (p:Plan) (ve:Value) (t:Nat) (w:World) (hf:Cr p=0) (h:Rd He w w ve p.edges) :
  Calls Am 272 #[G9 p ve,J U (t:Int)] w fun e w'=>∃ v,e = .returned v/\Ow E0 3 w' w v (Eg (Ea p) p.tasks.toNat t)/\Below w w w':=by
 obtain ⟨A,c,rfl,-⟩:=id h;have G:=Br (Dl.1 hf);have aE:=Fw G.out.1;have hl:p.edges.length<=2000000:=Bl;have hfb:(Cr p != 0)=false:=by simp [hf]
 clear hf;obtain ⟨j0,bX,jz0,jz1,jz2⟩:=info_parts K4;have aN:=K0 43 p (Aa A p.edges.length c) w;have D0:=BoxAt.new 43 p (Aa A p.edges.length c) w;have sC:=Fz 43 p (Aa A p.edges.length c) w;have Hw0:=Br sC;clear sC;unfold G9;go_enter func272,ntmps272;go_wp2_with fail
 refine (Hz p _ _ hl ((h.below aN).more aN.size)).mono ?_;rintro e w1 ⟨rfl,aG⟩;have D:=D0.below aG;have hb:=Bv aN aG;obtain ⟨x0,x1,x2,x3,x4,xs⟩:=D.cells;go_wp2;clear x0 x1 x2 x3 x4;go_loopw [5,14] (fun vl i wr=>∃ k:Nat,k<=p.edges.length/\i = J U k/\Ow E0 3 wr (w+1) vl (Ja (esL (p.edges.take k)) t)/\Below w w wr/\w.heap.size<wr.heap.size) (fun _ i _=>p.edges.length - (intOf i).toNat);case atStart=>exact ⟨0,Ag _,rfl,by simpa [Ja,esL] using Ow.nil E0 3 w1 (w.heap.size+1),hb,xs⟩
 case round =>
  clear D hb aG D0 xs;obtain ⟨k,hk,rfl,ho,hb,bL⟩:=hrel;by_cases aA:k<p.edges.length
  ·have aB:(k:Int)<(p.edges.length:Int):=Bl;obtain ⟨b,o,rfl,aJ,c0,c1⟩:=(h.below hb).edge aA;obtain ⟨f1,f2,f3,f4⟩:=Ig G.out.2.1 aA;have dE:=Br (show esL (p.edges.take (k+1))=esL (p.edges.take k) ++ [(p.edges[k].fr.toNat,p.edges[k].to.toNat)] by unfold esL;rw [Cp _ k aA,List.map_append];rfl);generalize p.edges[k].fr=fx at *
   generalize p.edges[k].to=tx at *
   obtain ⟨a,rfl⟩:=Ap f1;obtain ⟨d,rfl⟩:=Ap f3;simp only [Ao] at dE;by_cases hx:d=t
   ·subst hx;have S:=Br (Adm (l:=esL (p.edges.take k)) dE.out);have Hl:=Br (show (Ja (esL (p.edges.take k)) d).length<=3000000 by
     have h1:=U7 (esL (p.edges.take k)) d;rw [Nm,Az] at h1;omega)
    have mL:((d:Int) == (d:Int))=true:=Bo;have ha:Hid (∀ w:World,Below w w ((w.alloc (.cells #[J U (a:Int),J U (d:Int)] 206)).alloc (.cells #[J U (a:Int)] 3))):=fun w=>(Bu).alloc Bo _;go_wp2_with (at_builtin;refine Ci _ E0 Bq rfl (.tmp 22) (.tmp 25) rfl underlying26 bX jz0 jz1 jz2 rfl (l:=Ja (esL (p.edges.take k)) d) rfl (ho.below (ha.out wr)) rfl (Rd.one E0 _ _ a Bo rfl 1 (Bt _) (Nat.lt_succ_self _)) Hl.out Bo Bq (by simp;omega) ?_;intro v5 w5 o5 g5 _)
    have aX:=Bv hb (ha.out wr);have W5:=aX.grown g5 aX.size (fun g hg=>by have:=ho.within _ hg;omega);have tK:=g5.size;simp only [Bj] at tK;refine ⟨⟨k+1,Bl,by go_num,?_,W5,Bl⟩,clM⟩;rw [S.out];exact o5
   ·have S:=Br (Afc (l:=esL (p.edges.take k)) (t:=t) dE.out hx);have mL:((d:Int) == (t:Int))=false:=beq_eq_false_iff_ne.2 Bl;exact Anq
  ·have aB:¬ (k:Int)<(p.edges.length:Int):=Bl;have aZ:k=p.edges.length:=Bl;subst aZ;rw [List.take_length] at ho;go_wp2_with fail
   have hL:(Ja (Ea p) t).length<=2000000:=by
    have h1:=U7 (Ea p) t;unfold Ea at h1 ⊢;rw [Nm] at h1;omega
   refine (Sq _ (Ja (Ea p) t) (Eg (Ea p) p.tasks.toNat t) _ _ hL (Abd G.out.2.1 G.out.2.2.1 t) (U5 _ _ _) ho).mono ?_;exact Ak2
theorem U9 (p:Plan) (ve:Value) (t:Nat) (w:World) (hf:Cr p=0) (h:Rd He w w ve p.edges) :
  Calls Am 277 #[G9 p ve,J U (t:Int)] w fun e w'=>∃ v,e = .returned v/\Ow E0 3 w' w v (Gj (Ea p) p.tasks.toNat t)/\Below w w w':=by
 obtain ⟨A,c,rfl,-⟩:=id h;have G:=Br (Dl.1 hf);have aE:=Fw G.out.1;have hl:p.edges.length<=2000000:=Bl;have hfb:(Cr p != 0)=false:=by simp [hf]
 clear hf;obtain ⟨j0,bX,jz0,jz1,jz2⟩:=info_parts K4;have aN:=K0 43 p (Aa A p.edges.length c) w;have D0:=BoxAt.new 43 p (Aa A p.edges.length c) w;have sC:=Fz 43 p (Aa A p.edges.length c) w;have Hw0:=Br sC;clear sC;unfold G9;go_enter func277,ntmps277;go_wp2_with fail
 refine (Hz p _ _ hl ((h.below aN).more aN.size)).mono ?_;rintro e w1 ⟨rfl,aG⟩;have D:=D0.below aG;have hb:=Bv aN aG;obtain ⟨x0,x1,x2,x3,x4,xs⟩:=D.cells;go_wp2;clear x0 x1 x2 x3 x4;go_loopw [5,14] (fun vl i wr=>∃ k:Nat,k<=p.edges.length/\i = J U k/\Ow E0 3 wr (w+1) vl (Om (esL (p.edges.take k)) t)/\Below w w wr/\w.heap.size<wr.heap.size) (fun _ i _=>p.edges.length - (intOf i).toNat);case atStart=>exact ⟨0,Ag _,rfl,by simpa [Om,esL] using Ow.nil E0 3 w1 (w.heap.size+1),hb,xs⟩
 case round =>
  clear D hb aG D0 xs;obtain ⟨k,hk,rfl,ho,hb,bL⟩:=hrel;by_cases aA:k<p.edges.length
  ·have aB:(k:Int)<(p.edges.length:Int):=Bl;obtain ⟨b,o,rfl,aJ,c0,c1⟩:=(h.below hb).edge aA;obtain ⟨f1,f2,f3,f4⟩:=Ig G.out.2.1 aA;have dE:=Br (show esL (p.edges.take (k+1))=esL (p.edges.take k) ++ [(p.edges[k].fr.toNat,p.edges[k].to.toNat)] by unfold esL;rw [Cp _ k aA,List.map_append];rfl);generalize p.edges[k].fr=fx at *
   generalize p.edges[k].to=tx at *
   obtain ⟨a,rfl⟩:=Ap f1;obtain ⟨d,rfl⟩:=Ap f3;simp only [Ao] at dE;by_cases hx:a=t
   ·subst hx;have S:=Br (Agl (l:=esL (p.edges.take k)) dE.out);have Hl:=Br (show (Om (esL (p.edges.take k)) a).length<=3000000 by
     have h1:=Abc (esL (p.edges.take k)) a;rw [Nm,Az] at h1;omega)
    have mL:((a:Int) == (a:Int))=true:=Bo;have ha:Hid (∀ w:World,Below w w ((w.alloc (.cells #[J U (a:Int),J U (d:Int)] 206)).alloc (.cells #[J U (d:Int)] 3))):=fun w=>(Bu).alloc Bo _;go_wp2_with (at_builtin;refine Ci _ E0 Bq rfl (.tmp 22) (.tmp 25) rfl underlying26 bX jz0 jz1 jz2 rfl (l:=Om (esL (p.edges.take k)) a) rfl (ho.below (ha.out wr)) rfl (Rd.one E0 _ _ d Bo rfl 1 (Bt _) (Nat.lt_succ_self _)) Hl.out Bo Bq (by simp;omega) ?_;intro v5 w5 o5 g5 _)
    have aX:=Bv hb (ha.out wr);have W5:=aX.grown g5 aX.size (fun g hg=>by have:=ho.within _ hg;omega);have tK:=g5.size;simp only [Bj] at tK;refine ⟨⟨k+1,Bl,by go_num,?_,W5,Bl⟩,clM⟩;rw [S.out];exact o5
   ·have S:=Br (Ahd (l:=esL (p.edges.take k)) (t:=t) dE.out hx);have mL:((a:Int) == (t:Int))=false:=beq_eq_false_iff_ne.2 Bl;exact Anq
  ·have aB:¬ (k:Int)<(p.edges.length:Int):=Bl;have aZ:k=p.edges.length:=Bl;subst aZ;rw [List.take_length] at ho;go_wp2_with fail
   have hL:(Om (Ea p) t).length<=2000000:=by
    have h1:=Abc (Ea p) t;unfold Ea at h1 ⊢;rw [Nm] at h1;omega
   refine (Sq _ (Om (Ea p) t) (Gj (Ea p) p.tasks.toNat t) _ _ hL (Afd G.out.2.1 G.out.2.2.1 t) (U6 _ _ _) ho).mono ?_;exact Ak2
theorem Chg.toGrown {b:Nat} {w w':World} (h:Chg [b] w w'):w.grownBy w' (Ac b) :=
 ⟨h.os,h.tape,h.output,h.size,fun k hk hn=>h.block k hk (fun hm=>hn (by simp only [List.mem_singleton] at hm;rw [hm]))⟩
theorem Ow.chg {α:Type} {e:Enc α} {E:TypeId} {w w':World} {base b:Nat} {v:Value} {l:List α} (h:Ow e E w base v l) (hc:Chg [b] w w') (hb:b<base):Ow e E w' base v l :=
 h.grown hc.toGrown (.inr (fun e'=>by have:=h.within b e';omega))
theorem Ow.setLow {α:Type} {e:Enc α} {E:TypeId} {w:World} {base:Nat} {v:Value} {l:List α} (h:Ow e E w base v l) {a:Addr} (ha:a.block<base) (u:Value):Ow e E (w.setCell a u) base v l :=
 h.setOther (fun e'=>by have:=h.within _ e';omega) u
abbrev Ahe (l:List UInt8):Value:=.string ⟨l.toArray⟩
def Nu (n:Nat):List UInt8:=if h:n<128 then [UInt8.ofNat n] else UInt8.ofNat (n % 128+128) :: Nu (n / 128)
termination_by n
decreasing_by omega
def Ex (n:Int):List UInt8:=if inB n 0 1000000000 then Nu n.toNat else []
theorem Agm (n k:Nat) (h:n<128 ^ (k+1)):(Nu n).length<=k+1:=by
 induction k generalizing n with
 | zero=>rw [Nu,dif_pos (by simpa using h)];simp
 | succ k ih =>
  rw [Nu];split
  ·simp
  ·rw [List.length_cons]
   have:=ih (n / 128) (by rw [Nat.div_lt_iff_lt_mul Bq];rw [Nat.pow_succ] at h;exact h)
   omega
theorem Sr (n:Int):(Ex n).length<=5:=by
 unfold Ex;split
 ·rename_i h;refine Agm _ 4 ?_;simp [inB] at h;omega
 ·simp
theorem Xu:(Am.info? 5).map (fun i=>(i.zero,i.size,i.bytes))=Ac (Ac (.int .u8 0),1,1):=Bm
def Aep (l:List UInt8) (w:World) (e:Ending) (w':World):Prop:=e = .returned (Ahe l)/\Below w w w'
theorem Q0 {base n c:Nat} {A:Option Addr} {l:List UInt8} {w:World} (h:Ow Pu 5 w base (Aa A n c) l) :
  (convert 22 9 (Aa A n c)).run Am w = .ok (Ahe l) w:=by
 rcases h.form with ⟨h1,rfl⟩ | ⟨g,cap,h1,_,_,_,_,_,hc⟩
 ·simp only [Value.slice.injEq] at h1;obtain ⟨rfl,rfl,rfl⟩:=h1;rw [run_convert_bytes_string w _ _ 5 Ab 0 0 underlying22 underlying5 underlying9];rfl
 ·simp only [Value.slice.injEq] at h1;obtain ⟨rfl,rfl,rfl⟩:=h1;exact run_convert_bytes_back (P:=Am) w 22 9 5 ⟨g,0,Ab⟩ c l underlying22 underlying5 underlying9 (fun j hj=>by
   have:=hc j hj 0 _ rfl
   have e:(⟨g,0,Ab⟩:Addr).add j=⟨g,j,Ab⟩:=by unfold Addr.add;split<;>simp_all
   rw [e];simpa [Pu] using this)
theorem Pa (w:World) (n:Int) (x:UInt8) (h:(x.toNat:Int)=n) (T:TypeId):∀ (j:Nat) (u:Value),(Pu.cells x)[j]? = Ac u->(w.alloc (.cells #[.int .u8 n] T)).cell? ((⟨w,0,Ab⟩:Addr).add j)=Ac u:=by
 subst h;exact Qt _ #[_] _ Bo
theorem Tm (n:Int) (w:World) :
  Calls Am 121 #[J U n] w (Aep (Ex n) w):=by
 by_cases hi:inB n 0 1000000000=true;case neg =>
  have hif:inB n 0 1000000000=false:=by simpa using hi
  have H:=Br (show Ex n=[] by unfold Ex;rw [if_neg hi]);go_enter func121,ntmps121;go_wp2_with (go_at_call 72;refine (Cm _ _ _ _).mono ?_;rintro e w3 ⟨rfl,rfl⟩)
  go_ret;exact ⟨by rw [H.out];rfl,Bs _ _⟩
 obtain ⟨i0,aQ,aU,aS,aR⟩:=info_parts Xu;have hV:=Br (show Ex n=Nu n.toNat by unfold Ex;rw [if_pos hi]);have vT:0<=n/\n<=1000000000:=by simpa [inB] using hi
 go_enter func121,ntmps121;go_wp2_with (go_at_call 72;refine (Cm _ _ _ _).mono ?_;rintro e w3 ⟨rfl,rfl⟩)
 go_loopw [0,3] (fun q x wr=>∃ (m:Nat) (l:List UInt8) (v:Value),Hid (l ++ Nu m=Nu n.toNat)/\Hid (∃ k,m<128 ^ k/\l.length+k=5)/\m<=1000000000/\q = J U m/\v=x/\Hid (Ow Pu 5 wr w v l)/\Below w w wr) (fun q _ _=>(intOf q).toNat);case atStart=>exact ⟨n.toNat,[],_,rfl,⟨5,Bl,rfl⟩,Bl,by rw [Int.toNat_of_nonneg Bl],rfl,Ow.nil _ _ _ _,Bs _ _⟩
 case round =>
  obtain ⟨m,l,v,hl,aE,hm,rfl,rfl,hO,hb⟩:=hrel;have bS:l.length<=5:=by obtain ⟨k,_,hk⟩:=aE.out;omega
  by_cases h8:m<128
  ·have h8':¬ (128:Int)<=(m:Int):=Bl;have hv:((UInt8.ofNat m).toNat:Int)=(m:Int):=by simp;omega
   have H:=Br (show Ex n=l ++ [UInt8.ofNat m] by rw [hV.out,<-hl.out,Nu,dif_pos h8]);go_wp2_with (at_builtin;refine K3 (v:=v) Pu Bq rfl (.tmp 18) (.tmp 21) rfl underlying22 aQ aU aS aR rfl (UInt8.ofNat m) rfl (hO.out.below ((Bs wr wr).alloc Bo _)) ⟨wr,0,Ab⟩ 1 rfl (Pa _ _ _ hv _) Bl Bq (by have:=hb.size;simp;omega) ?_;intro v5 w5 o5 g5;obtain ⟨A9,c9,rfl,-⟩:=id (Rd.of_own o5);simp only [Bd,List.length_singleton] at o5;have cv:=Q0 o5;have eZ:=(hb.alloc hb.size (.cells #[.int .u8 ((m:Int))] 5)).grown g5 (by have:=hb.size;simp;omega) (fun g hg=>(hO.out.within g hg).1))
   go_ret;exact ⟨by rw [H.out];rfl,eZ⟩
  ·have h8':(128:Int)<=(m:Int):=Bl;have fL:=Br (show ∃ k,m / 128<128 ^ k/\(l ++ [UInt8.ofNat (m % 128+128)]).length+k=5 by
    obtain ⟨k,hk,aZ⟩:=aE.out;obtain ⟨k,rfl⟩:∃ k',k=k'+1:=by
     cases k with
     | zero=>simp at hk;omega
     | succ k=>exact ⟨k,rfl⟩
    refine ⟨k,?_,?_⟩
    ·rw [Nat.div_lt_iff_lt_mul Bq,<-Nat.pow_succ];exact hk
    ·rw [Bd,List.length_singleton];omega)
   have hv:((UInt8.ofNat (m % 128+128)).toNat:Int)=(m:Int) % 128+128:=by simp;omega
   have S:Hid ((l ++ [UInt8.ofNat (m % 128+128)]) ++ Nu (m / 128)=Nu n.toNat):=Am2
   go_wp2_with (at_builtin;refine K3 (v:=v) Pu Bq rfl (.tmp 9) (.tmp 14) rfl underlying22 aQ aU aS aR rfl (UInt8.ofNat (m % 128+128)) rfl (hO.out.below ((Bs wr wr).alloc Bo _)) ⟨wr,0,Ab⟩ 1 rfl (Pa _ _ _ hv _) Bl Bq (by have:=hb.size;simp;omega) ?_;intro v5 w5 o5 g5;obtain ⟨A9,c9,rfl,-⟩:=id (Rd.of_own o5);simp only [Bd,List.length_singleton] at o5;have cv:=Q0 o5;have eZ:=(hb.alloc hb.size (.cells #[.int .u8 ((m:Int) % 128+128)] 5)).grown g5 (by have:=hb.size;simp;omega) (fun g hg=>(hO.out.within g hg).1))
   exact ⟨⟨m / 128,_,_,S,fL,Bl,by go_num,rfl,o5,eZ⟩,clM⟩
theorem Tn (n:Int) (w:World) :
  Calls Am 306 #[J U n] w (Aep (Ex n) w):=by
 by_cases hi:inB n 0 1000000000=true;case neg =>
  have hif:inB n 0 1000000000=false:=by simpa using hi
  have H:=Br (show Ex n=[] by unfold Ex;rw [if_neg hi]);go_enter func306,ntmps306;go_wp2_with (go_at_call 90;refine (Cd _ _ _ _).mono ?_;rintro e w3 ⟨rfl,rfl⟩)
  go_ret;exact ⟨by rw [H.out];rfl,Bs _ _⟩
 obtain ⟨i0,aQ,aU,aS,aR⟩:=info_parts Xu;have hV:=Br (show Ex n=Nu n.toNat by unfold Ex;rw [if_pos hi]);have vT:0<=n/\n<=1000000000:=by simpa [inB] using hi
 go_enter func306,ntmps306;go_wp2_with (go_at_call 90;refine (Cd _ _ _ _).mono ?_;rintro e w3 ⟨rfl,rfl⟩)
 go_loopw [0,3] (fun q x wr=>∃ (m:Nat) (l:List UInt8) (v:Value),Hid (l ++ Nu m=Nu n.toNat)/\Hid (∃ k,m<128 ^ k/\l.length+k=5)/\m<=1000000000/\q = J U m/\v=x/\Hid (Ow Pu 5 wr w v l)/\Below w w wr) (fun q _ _=>(intOf q).toNat);case atStart=>exact ⟨n.toNat,[],_,rfl,⟨5,Bl,rfl⟩,Bl,by rw [Int.toNat_of_nonneg Bl],rfl,Ow.empty Pu 5 w (g:=w) Bo,Bu⟩
 case round =>
  obtain ⟨m,l,v,hl,aE,hm,rfl,rfl,hO,hb⟩:=hrel;have bS:l.length<=5:=by obtain ⟨k,_,hk⟩:=aE.out;omega
  by_cases h8:m<128
  ·have h8':¬ (127:Int)<(m:Int):=Bl;have hv:((UInt8.ofNat m).toNat:Int)=(m:Int):=by simp;omega
   have H:=Br (show Ex n=l ++ [UInt8.ofNat m] by rw [hV.out,<-hl.out,Nu,dif_pos h8]);go_wp2_with (at_builtin;refine K3 (v:=v) Pu Bq rfl (.tmp 19) (.tmp 22) rfl underlying22 aQ aU aS aR rfl (UInt8.ofNat m) rfl (hO.out.below ((Bs wr wr).alloc Bo _)) ⟨wr,0,Ab⟩ 1 rfl (Pa _ _ _ hv _) Bl Bq (by have:=hb.size;simp;omega) ?_;intro v5 w5 o5 g5;obtain ⟨A9,c9,rfl,-⟩:=id (Rd.of_own o5);simp only [Bd,List.length_singleton] at o5;have cv:=Q0 o5;have eZ:=(hb.alloc hb.size (.cells #[.int .u8 ((m:Int))] 5)).grown g5 (by have:=hb.size;simp;omega) (fun g hg=>(hO.out.within g hg).1))
   go_ret;exact ⟨by rw [H.out];rfl,eZ⟩
  ·have h8':(127:Int)<(m:Int):=Bl;have fL:=Br (show ∃ k,m / 128<128 ^ k/\(l ++ [UInt8.ofNat (m % 128+128)]).length+k=5 by
    obtain ⟨k,hk,aZ⟩:=aE.out;obtain ⟨k,rfl⟩:∃ k',k=k'+1:=by
     cases k with
     | zero=>simp at hk;omega
     | succ k=>exact ⟨k,rfl⟩
    refine ⟨k,?_,?_⟩
    ·rw [Nat.div_lt_iff_lt_mul Bq,<-Nat.pow_succ];exact hk
    ·rw [Bd,List.length_singleton];omega)
   have hv:((UInt8.ofNat (m % 128+128)).toNat:Int)=128+(m:Int) % 128:=by simp;omega
   have S:Hid ((l ++ [UInt8.ofNat (m % 128+128)]) ++ Nu (m / 128)=Nu n.toNat):=Am2
   go_wp2_with (at_builtin;refine K3 (v:=v) Pu Bq rfl (.tmp 10) (.tmp 15) rfl underlying22 aQ aU aS aR rfl (UInt8.ofNat (m % 128+128)) rfl (hO.out.below ((Bs wr wr).alloc Bo _)) ⟨wr,0,Ab⟩ 1 rfl (Pa _ _ _ hv _) Bl Bq (by have:=hb.size;simp;omega) ?_;intro v5 w5 o5 g5;obtain ⟨A9,c9,rfl,-⟩:=id (Rd.of_own o5);simp only [Bd,List.length_singleton] at o5;have cv:=Q0 o5;have eZ:=(hb.alloc hb.size (.cells #[.int .u8 (128+(m:Int) % 128)] 5)).grown g5 (by have:=hb.size;simp;omega) (fun g hg=>(hO.out.within g hg).1))
   exact ⟨⟨m / 128,_,_,S,fL,Bl,by go_num,rfl,o5,eZ⟩,clM⟩
end Go.Proofs.YtecnbnbopcblgaaGreat
