/-
  A run's own tasks that are written; l09Leave of the reference.  slices.Insert at []impl.Memo: one value, laid in a block of its own. Written by program (ins.py)
-/
import Derived.Test.YtecnbnbopcblgaaGreatZAk0
import Derived.Test.YtecnbnbopcblgaaGreatZAk1
import Derived.Test.YtecnbnbopcblgaaGreatZAk3
import Derived.Test.YtecnbnbopcblgaaGreatZAk5
import Derived.Test.YtecnbnbopcblgaaGreatZAk6
import Derived.Test.YtecnbnbopcblgaaGreatZAk8
import Derived.Test.YtecnbnbopcblgaaGreatZAk9
import Derived.Deep.Cut
import Derived.Laws.Externs
import Derived.Laws.NewBlocks
namespace Go.Proofs.YtecnbnbopcblgaaGreat
open Go.RowKit
set_option maxRecDepth 100000
set_option maxHeartbeats 4000000
set_option linter.unusedVariables false
set_option linter.unusedSimpArgs false
open Value renaming int->J,slice->Aa
open IntKind renaming i64->U
open Option renaming none->Ab,some->Ac
open Below renaming setCell->Ad,alloc->Ae
open Nat renaming le_trans->Ah,lt_of_lt_of_le->Ai
open Go renaming bodyPost_ret->Aj
open Go.Proofs.Tryz renaming prog->Am
open Int renaming toNat_natCast->Ao,eq_ofNat_of_zero_le->Ap
open IntWalk renaming i64_in->Aq
open List renaming length_map->Ar,mem_singleton->Au,nodup_append->Ax,length_take->Az,mem_append_right->Be,mem_append_left->Bf,take_of_length_le->Bg,length_set->Bh,mem_append->Bi
open Go.Proofs.Tryz
theorem Ah9 {p:Prop} (h:p:=by
 go_upto_region 8 with fail
 have XB:DBox wr [J U r.tasks[k].state,J U r.tasks[k].need,J U r.tasks[k].try_,J U r.tasks[k].until_] (wr.alloc (.cells #[J U r.tasks[k].state,J U r.tasks[k].need,J U r.tasks[k].try_,J U r.tasks[k].until_] 203)):=DBox.new 203 [J U r.tasks[k].state,J U r.tasks[k].need,J U r.tasks[k].try_,J U r.tasks[k].until_] wr rfl;have bw:Chg [b] wr (wr.alloc (.cells #[J U r.tasks[k].state,J U r.tasks[k].need,J U r.tasks[k].try_,J U r.tasks[k].until_] 203)):=Chg.of_below _ (Bu);have bb:Below wr wr (wr.alloc (.cells #[J U r.tasks[k].state,J U r.tasks[k].need,J U r.tasks[k].try_,J U r.tasks[k].until_] 203)):=by repeat (first | (with_reducible exact Bs _ _) | refine Ad ?_ Bp _ | refine Ae ?_ Bp _)
 have HO:=hO.out.below bb;replace X:=X.below bb;replace RES:=RES.below bb;clear bb;have hbz:=bw.size;generalize (wr.alloc (.cells #[J U r.tasks[k].state,J U r.tasks[k].need,J U r.tasks[k].try_,J U r.tasks[k].until_] 203))=W1 at *
 clear X_0 X_1 X_2 X_3 X_4 X_5 X_6 X_7 X_l;clear RES_0 RES_1 RES_2 RES_3 RES_4 RES_5 RES_6 RES_7 RES_l;obtain ⟨X_0,X_1,X_2,X_3,X_4,X_5,X_6,X_7,X_l⟩:=X.g8;have z0:=XB.cell 0 _ rfl;have z1:=XB.cell 1 _ rfl;have z2:=XB.cell 2 _ rfl;have z3:=XB.cell 3 _ rfl;have zl:=XB.lt;obtain ⟨b2,o2,eJ,mE,d0,d1,d2,d3⟩:=HO.rd.tsk jT;simp only [Option.some.injEq,Addr.mk.injEq,and_true] at eJ;obtain ⟨rfl,rfl⟩:=eJ;have hfz:=(HO.block Bl).2.2;have Y4:Hw Ge ((((W1.setCell ⟨b,o+k * 4,Ab⟩ (J U r.tasks[k].state)).setCell ⟨b,o+k * 4+1,Ab⟩ (J U r.tasks[k].need)).setCell ⟨b,o+k * 4+2,Ab⟩ (J U r.tasks[k].try_)).setCell ⟨b,o+k * 4+3,Ab⟩ (J U r.tasks[k].until_)) [b] (Aa (Ac ⟨b,o,Ab⟩) r.tasks.length c) _:=HO.task4 jT ⟨r.tasks[k].state,r.tasks[k].need,r.tasks[k].try_,r.tasks[k].until_⟩;have B4:Chg [b] w ((((W1.setCell ⟨b,o+k * 4,Ab⟩ (J U r.tasks[k].state)).setCell ⟨b,o+k * 4+1,Ab⟩ (J U r.tasks[k].need)).setCell ⟨b,o+k * 4+2,Ab⟩ (J U r.tasks[k].try_)).setCell ⟨b,o+k * 4+3,Ab⟩ (J U r.tasks[k].until_)):=(((((hb.trans bw).trans (Chg.setCell _ b _ _)).trans (Chg.setCell _ b _ _)).trans (Chg.setCell _ b _ _)).trans (Chg.setCell _ b _ _))
 have e1:w≠b:=Bl;have e2:w+1≠b:=Bl;have X4:DBox w _ ((((W1.setCell ⟨b,o+k * 4,Ab⟩ (J U r.tasks[k].state)).setCell ⟨b,o+k * 4+1,Ab⟩ (J U r.tasks[k].need)).setCell ⟨b,o+k * 4+2,Ab⟩ (J U r.tasks[k].try_)).setCell ⟨b,o+k * 4+3,Ab⟩ (J U r.tasks[k].until_)):=(((X.setOther (a:=⟨b,_,Ab⟩) e1 _).setOther (a:=⟨b,_,Ab⟩) e1 _).setOther (a:=⟨b,_,Ab⟩) e1 _).setOther (a:=⟨b,_,Ab⟩) e1 _;have R4:DBox (w+1) _ ((((W1.setCell ⟨b,o+k * 4,Ab⟩ (J U r.tasks[k].state)).setCell ⟨b,o+k * 4+1,Ab⟩ (J U r.tasks[k].need)).setCell ⟨b,o+k * 4+2,Ab⟩ (J U r.tasks[k].try_)).setCell ⟨b,o+k * 4+3,Ab⟩ (J U r.tasks[k].until_)):=(((RES.setOther (a:=⟨b,_,Ab⟩) e2 _).setOther (a:=⟨b,_,Ab⟩) e2 _).setOther (a:=⟨b,_,Ab⟩) e2 _).setOther (a:=⟨b,_,Ab⟩) e2 _;have aF:=Br (show ((r.tasks.take k).map Dr ++ r.tasks.drop k).set k ⟨r.tasks[k].state,r.tasks[k].need,r.tasks[k].try_,r.tasks[k].until_⟩=(r.tasks.take (k+1)).map Dr ++ r.tasks.drop (k+1) by rw [<-N2 aA Dr,hy.out]);clear d0 d1 d2 d3;have g0:=Br Y4;clear Y4;obtain ⟨b3,o3,gX,hbb3,d0,d1,d2,d3⟩:=HO.rd.tsk jT;simp only [Option.some.injEq,Addr.mk.injEq,and_true] at gX;obtain ⟨rfl,rfl⟩:=gX;go_wp2;exact ⟨⟨k+1,Bl,by go_num,by rw [<-aF.out];exact g0,X4,R4,B4⟩,clM⟩):p:=h
theorem Aid {p:Prop} (h:p:=by
 go_wp2_with fail
 rw [<-aH.out];clear aH;refine (CY.out _ B0).mono ?_;rintro e1 w1 ⟨rfl,b1⟩;replace X:=X.below b1;have X_:=X.g4;replace B0:=Bv B0 b1;by_cases p0:Dk y;case neg =>
  have H:=Br (show Gv y id tk tr=8 from if_pos p0);rw [Cg p0];clear p0;go_wp2;go_ret;exact ⟨by rw [H.out];rfl,B0⟩
 rw [Di p0];go_wp2_with fail
 refine (CA.out _ B0).mono ?_;rintro e1 w2 ⟨rfl,b2⟩;clear X_;replace X:=X.below b2;have X_:=X.g4;replace B0:=Bv B0 b2;by_cases p1:Dn y id<0
 ·have H:=Br (show Gv y id tk tr=10 by unfold Gv;rw [if_neg (fun h=>h p0),if_pos p1]);clear p0;go_wp2;go_ret;exact ⟨by rw [H.out];rfl,B0⟩
 go_wp2_with fail
 refine (CH.out _ B0).mono ?_;rintro e1 w3 ⟨rfl,b3⟩;replace B0:=Bv B0 b3;by_cases p2:Gq y id tk tr
 ·have H:=Br (show Gv y id tk tr=0 by unfold Gv;rw [if_neg (fun h=>h p0),if_neg Bl,if_neg (fun h=>h p2)]);rw [Di p2];clear p0 p2;go_wp2;go_ret;exact ⟨by rw [H.out];rfl,B0⟩
 ·have H:=Br (show Gv y id tk tr=11 by unfold Gv;rw [if_neg (fun h=>h p0),if_neg Bl,if_pos p2]);rw [Cg p2];clear p0 p2;go_wp2;go_ret;exact ⟨by rw [H.out];rfl,B0⟩):p:=h
theorem Aj3 {p:Prop} (h:p:=by rw [List.drop_eq_getElem_cons hk,List.set_append_right _ _ (by simp;omega)];rw [show k - ((l.take k).map f).length=0 by simp;omega,List.set_cons_zero,List.take_succ_eq_append_getElem hk,List.map_append,List.append_assoc];rfl):p:=h
theorem Ake {p:Prop} (h:p:=by
 go_wp2_with fail
 generalize (w.alloc (.cells #[J U y.now,J U y.seq,Aa A1 n1 c1,Aa A2 y.runs.length c2] 31))=W at *
 refine C.mono ?_;rintro e1 w1 ⟨rfl,b1⟩;go_wp2;go_ret;exact ⟨Bx H.out.symm,Bv B0 b1⟩):p:=h
theorem Ak5 {p:Prop} (h:p:=by
 go_wp2_with (go_at_call 90;refine (Cd _ _ _ _).mono ?_;rintro e w9 ⟨rfl,rfl⟩;rw [q])
 go_ret;exact ⟨Bx (by rw [H.out,q2];rfl),B0⟩):p:=h
theorem Alj {p:Prop} (h:p:=by subst hG;obtain ⟨h1,h2,h3⟩:=hh;refine ⟨hr,?_,fun g hg=>h3 g (by simpa using hg)⟩;rw [List.append_nil,h2,<-hm,Ar]):p:=h
theorem Alo {p:Prop} (h:p:=by rw [List.getD_eq_getElem?_getD,List.getElem?_eq_getElem h];rfl):p:=h
theorem Al4 {p:Prop} (h:p:=by
 intro x hx
 have:=nF x hx
 omega):p:=h
theorem Am3 {p:Prop} (h:p:=by
 induction h with
 | nil=>rfl
 | cons h1 _ ih=>rw [show _=[] from h1,ih];rfl):p:=h
theorem Agz {w:World} {F:List Nat} {rs:List (Task×C8.S)} (h:Ows C8 w F rs):F=[]:=Am3
theorem N1 {w:World} {F:List Nat} {v:Value} {l:List Task} (h:OwL C8 w F v l):Hw Ge w F v l:=by
 have hr:=Ub h.rd;obtain ⟨rs,H,G,hm,hh,ho,rfl,hn⟩:=h;have hG:=Agz ho;exact Alj
theorem Hb {w:World} {F:List Nat} {v:Value} {l:List Task} (h1:Hw Ge w F v l):OwL C8 w F v l:=by
 obtain ⟨⟨A,c,hv,hc,hA⟩,hF,hf⟩:=id h1;subst hv;refine ⟨l.map fun x=>(x,()),F,[],by rw [List.map_map];exact List.map_id _,⟨⟨A,c,by rw [Ar],by rw [Ar];exact hc,fun hl=>?_⟩,by rw [Ar];exact hF,hf⟩,Vq w l,(List.append_nil _).symm,h1.nodup⟩;exact Aic
theorem Hw.part {α:Type} {e:Enc α} {w:World} {F:List Nat} {b o n c:Nat} {l:List α} (h:Hw e w F (Aa (Ac ⟨b,o,Ab⟩) n c) l) {j:Nat} (hj:j<l.length) (y:α) (off:Nat) (us:List Value) (hoff:off+us.length<=e.sz)
  (cF:∀ i (hi:i<us.length),(e.cells y)[off+i]? = Ac us[i]) (fS:∀ i,i<e.sz->(i<off\/off+us.length<=i)->(e.cells y)[i]? = (e.cells l[j])[i]?) :
  Hw e (Ie w b (o+j * e.sz+off) us) F (Aa (Ac ⟨b,o,Ab⟩) n c) (l.set j y):=by
 refine ⟨?_,by rw [Bh];exact h.2.1,fun g hg i=>by rw [I7];exact h.2.2 g hg i⟩
 have:=Rd.part h.rd j hj y off us hoff cF fS
 rw [Jz];exact this
theorem Hw.block {α:Type} {e:Enc α} {w:World} {F:List Nat} {b o n c:Nat} {l:List α} (h:Hw e w F (Aa (Ac ⟨b,o,Ab⟩) n c) l) (hp:0<l.length):F=[b]/\b<w/\(∀ i,w.frozen? ⟨b,i,Ab⟩=false):=by
 obtain ⟨b',o',hA,hF,hb,hf⟩:=h.at_ hp;simp only [Option.some.injEq,Addr.mk.injEq,and_true] at hA;obtain ⟨rfl,rfl⟩:=hA;exact ⟨hF,hb,hf⟩
theorem Rd.tsk {w:World} {B:Nat} {A:Option Addr} {n c:Nat} {l:List Task} (h:Rd Ge w B (Aa A n c) l) {k:Nat} (hk:k<l.length) :
  ∃ b o,A=Ac ⟨b,o,Ab⟩/\b<B/\w.cell? ⟨b,o+k * 4,Ab⟩=Ac (J U l[k].state)/\w.cell? ⟨b,o+k * 4+1,Ab⟩=Ac (J U l[k].need)/\w.cell? ⟨b,o+k * 4+2,Ab⟩=Ac (J U l[k].try_)/\w.cell? ⟨b,o+k * 4+3,Ab⟩=Ac (J U l[k].until_):=by
 obtain ⟨A',c',hv,_,hA⟩:=h;simp only [Value.slice.injEq] at hv;obtain ⟨rfl,_,_⟩:=hv;obtain ⟨b,o,bU,hb,hc⟩:=hA Bl;exact ⟨b,o,bU,hb,hc k hk 0 _ rfl,hc k hk 1 _ rfl,hc k hk 2 _ rfl,hc k hk 3 _ rfl⟩
theorem Hw.task4 {w:World} {F:List Nat} {b o n c:Nat} {l:List Task} (h:Hw Ge w F (Aa (Ac ⟨b,o,Ab⟩) n c) l) {j:Nat} (hj:j<l.length) (y:Task) :
  Hw Ge ((((w.setCell ⟨b,o+j * 4,Ab⟩ (J U y.state)).setCell ⟨b,o+j * 4+1,Ab⟩ (J U y.need)).setCell ⟨b,o+j * 4+2,Ab⟩ (J U y.try_)).setCell ⟨b,o+j * 4+3,Ab⟩ (J U y.until_)) F (Aa (Ac ⟨b,o,Ab⟩) n c) (l.set j y) :=
 h.part hj y 0 [J U y.state,J U y.need,J U y.try_,J U y.until_] (Bt _) (fun i hi=>by rw [Nat.zero_add];exact List.getElem?_eq_getElem hi) (fun i hi ho=>by simp at ho;have:i<4:=hi;omega)
theorem Hw.taskState {w:World} {F:List Nat} {b o n c:Nat} {l:List Task} (h:Hw Ge w F (Aa (Ac ⟨b,o,Ab⟩) n c) l) {j:Nat} (hj:j<l.length) (st:Int) :
  Hw Ge (w.setCell ⟨b,o+j * 4,Ab⟩ (J U st)) F (Aa (Ac ⟨b,o,Ab⟩) n c) (l.set j ⟨st,l[j].need,l[j].try_,l[j].until_⟩) :=
 h.part hj ⟨st,l[j].need,l[j].try_,l[j].until_⟩ 0 [J U st] (show 0+1<=4 by omega) (fun i hi=>by simp at hi;subst hi;rfl) (fun i hi ho=>by
  have:i<4:=hi;rcases (show i=1\/i=2\/i=3 by simp at ho;omega) with rfl | rfl | rfl<;>rfl)
theorem Hw.taskUntil {w:World} {F:List Nat} {b o n c:Nat} {l:List Task} (h:Hw Ge w F (Aa (Ac ⟨b,o,Ab⟩) n c) l) {j:Nat} (hj:j<l.length) (u:Int) :
  Hw Ge (w.setCell ⟨b,o+j * 4+3,Ab⟩ (J U u)) F (Aa (Ac ⟨b,o,Ab⟩) n c) (l.set j ⟨l[j].state,l[j].need,l[j].try_,u⟩) :=
 h.part hj ⟨l[j].state,l[j].need,l[j].try_,u⟩ 3 [J U u] (show 3+1<=4 by omega) (fun i hi=>by simp at hi;subst hi;rfl) (fun i hi ho=>by
  have:i<4:=hi;rcases (show i=0\/i=1\/i=2 by simp at ho;omega) with rfl | rfl | rfl<;>rfl)
theorem DBox.row8 {b:Nat} {cs:List Value} {w:World} (h:DBox b cs w) (hn:cs.length=8) (u0 u1 u2 u3 u4 u5 u6 u7:Value) :
  DBox b [u0,u1,u2,u3,u4,u5,u6,u7] ((((((((w.setCell ⟨b,0,Ab⟩ u0).setCell ⟨b,1,Ab⟩ u1).setCell ⟨b,2,Ab⟩ u2).setCell ⟨b,3,Ab⟩ u3).setCell ⟨b,4,Ab⟩ u4).setCell ⟨b,5,Ab⟩ u5).setCell ⟨b,6,Ab⟩ u6).setCell ⟨b,7,Ab⟩ u7):=by
 obtain ⟨c0,c1,c2,c3,c4,c5,c6,c7,rfl⟩:∃ c0 c1 c2 c3 c4 c5 c6 c7,cs=[c0,c1,c2,c3,c4,c5,c6,c7]:=by
  match cs,hn with
  | [c0,c1,c2,c3,c4,c5,c6,c7],_=>exact ⟨c0,c1,c2,c3,c4,c5,c6,c7,rfl⟩
 exact (((((((h.set 0 Bo u0).set 1 Bo u1).set 2 Bo u2).set 3 Bo u3).set 4 Bo u4).set 5 Bo u5).set 6 Bo u6).set 7 Bo u7
theorem Af3 {b:Nat} {w:World} {u0 u1 u2 u3 u4 u5 u6 u7:Value} (X:DBox b [u0,u1,u2,u3,u4,u5,u6,u7] w) {v0 v1 v2 v3:Value} {rest:List Value} :
  (results Tryz.f295 (v0 :: v1 :: v2 :: v3 :: .pointer (Ac ⟨b,0,Ab⟩) :: rest).toArray).run Am w = .ok (.agg #[u0,u1,u2,u3,u4,u5,u6,u7]) w:=by
 have c0:=X.cell 0 _ rfl;have c1:=X.cell 1 _ rfl;have c2:=X.cell 2 _ rfl;have c3:=X.cell 3 _ rfl;have c4:=X.cell 4 _ rfl;have c5:=X.cell 5 _ rfl;have c6:=X.cell 6 _ rfl;have c7:=X.cell 7 _ rfl;simp [results,results295,go_sem,c0,c1,c2,c3,c4,c5,c6,c7]
theorem N2 {l:List Task} {k:Nat} (hk:k<l.length) (f:Task->Task):((l.take k).map f ++ l.drop k).set k (f l[k])=(l.take (k+1)).map f ++ l.drop (k+1):=Aj3
def Sa (r:Run) (st:Int) (E:Sl) (b o c:Nat) (F:List Nat) (w:World) (e:Ending) (w':World):Prop :=
 e = .returned (G7 (D6 r st) (E,⟨Ac ⟨b,o,Ab⟩,r.tasks.length,c⟩))/\Hw Ge w' F (Aa (Ac ⟨b,o,Ab⟩) r.tasks.length c) (D6 r st).tasks/\Chg [b] w w'
theorem Qa (r:Run) (E:Sl) (st:Int) (b o c:Nat) (F:List Nat) (w:World) (hl:r.tasks.length<=2000000) (hp:0<r.tasks.length) (h:Hw Ge w F (Aa (Ac ⟨b,o,Ab⟩) r.tasks.length c) r.tasks) :
  Calls Am 295 #[G7 r (E,⟨Ac ⟨b,o,Ab⟩,r.tasks.length,c⟩),J U st] w (Sa r st E b o c F w):=by
 obtain ⟨rfl,bV,qE⟩:=h.block hp;have X:=(DBox.new 67 [J U r.id,J U r.plan.prio,J U r.plan.most,J U r.plan.wait,J U r.plan.tasks,Aa E.a E.n E.c,J U r.state,Aa (Ac ⟨b,o,Ab⟩) r.tasks.length c] w (b:=w) rfl).below ((Bs _ _).alloc (Bt _) (.cells #[J U 0,J U 0,J U 0,J U 0,J U 0,Aa Ab 0 0,J U 0,Aa Ab 0 0] 67));have RES:=DBox.new 67 [J U 0,J U 0,J U 0,J U 0,J U 0,Aa Ab 0 0,J U 0,Aa Ab 0 0] (w.alloc (.cells #[J U r.id,J U r.plan.prio,J U r.plan.most,J U r.plan.wait,J U r.plan.tasks,Aa E.a E.n E.c,J U r.state,Aa (Ac ⟨b,o,Ab⟩) r.tasks.length c] 67)) (b:=w+1) Bo;have B0:Below w w ((w.alloc (.cells #[J U r.id,J U r.plan.prio,J U r.plan.most,J U r.plan.wait,J U r.plan.tasks,Aa E.a E.n E.c,J U r.state,Aa (Ac ⟨b,o,Ab⟩) r.tasks.length c] 67)).alloc (.cells #[J U 0,J U 0,J U 0,J U 0,J U 0,Aa Ab 0 0,J U 0,Aa Ab 0 0] 67)):=by repeat (first | exact Bs _ _ | refine Ae ?_ Bp _)
 go_enter func295,ntmps295;go_wp2;have C0:=Chg.of_below [b] B0;have h0:=h.below B0;generalize G7 r (E,⟨Ac ⟨b,o,Ab⟩,r.tasks.length,c⟩)=rv;generalize ((w.alloc (.cells #[J U r.id,J U r.plan.prio,J U r.plan.most,J U r.plan.wait,J U r.plan.tasks,Aa E.a E.n E.c,J U r.state,Aa (Ac ⟨b,o,Ab⟩) r.tasks.length c] 67)).alloc (.cells #[J U 0,J U 0,J U 0,J U 0,J U 0,Aa Ab 0 0,J U 0,Aa Ab 0 0] 67))=W at *
 go_loopw [5] (fun i wr=>∃ k:Nat,k<=r.tasks.length/\i = J U k/\Hid (Hw Ge wr [b] (Aa (Ac ⟨b,o,Ab⟩) r.tasks.length c) ((r.tasks.take k).map Dr ++ r.tasks.drop k))/\DBox w [J U r.id,J U r.plan.prio,J U r.plan.most,J U r.plan.wait,J U r.plan.tasks,Aa E.a E.n E.c,J U r.state,Aa (Ac ⟨b,o,Ab⟩) r.tasks.length c] wr/\DBox (w+1) [J U 0,J U 0,J U 0,J U 0,J U 0,Aa Ab 0 0,J U 0,Aa Ab 0 0] wr/\Chg [b] w wr) (fun i _=>r.tasks.length - (intOf i).toNat);case atStart=>exact ⟨0,Nat.zero_le _,rfl,by simpa using Br h0,X,RES,C0⟩
 case round =>
  clear X RES C0 h0 B0;obtain ⟨k,hk,rfl,hO,X,RES,hb⟩:=hrel;obtain ⟨X_0,X_1,X_2,X_3,X_4,X_5,X_6,X_7,X_l⟩:=X.g8;obtain ⟨RES_0,RES_1,RES_2,RES_3,RES_4,RES_5,RES_6,RES_7,RES_l⟩:=RES.g8;by_cases aA:k<r.tasks.length;case neg =>
   have aB:¬ (k:Int)<(r.tasks.length:Int):=Bl;have HO:=hO.out;rw [Bg Bl,List.drop_eq_nil_of_le Bl,List.append_nil] at HO;have xf:=X.free;have rf:=RES.free;go_wp2;have R4:=DBox.row8 (RES.setOther (a:=⟨w,6,Ab⟩) (by show w.heap.size+1≠w.heap.size;omega) (J U st)) rfl (J U r.id) (J U r.plan.prio) (J U r.plan.most) (J U r.plan.wait) (J U r.plan.tasks) (Aa E.a E.n E.c) (J U st) (Aa (Ac ⟨b,o,Ab⟩) r.tasks.length c);have tS:∀ x∈[b],x∉[w.heap.size,w.heap.size+1]:=fun x hx h2=>by
    simp only [Au] at hx;simp only [List.mem_cons,List.not_mem_nil,or_false] at h2;omega
   refine Aj (Af3 R4) rfl ⟨rfl,?_,?_⟩
   ·show Hw Ge _ [b] _ (r.tasks.map Dr);have e1:w.heap.size∉[b]:=by simp only [Au];omega
    have e2:w.heap.size+1∉[b]:=by simp only [Au];omega
    exact ((((((((HO.set (a:=⟨_,_,Ab⟩) e1 _).set (a:=⟨_,_,Ab⟩) e2 _).set (a:=⟨_,_,Ab⟩) e2 _).set (a:=⟨_,_,Ab⟩) e2 _).set (a:=⟨_,_,Ab⟩) e2 _).set (a:=⟨_,_,Ab⟩) e2 _).set (a:=⟨_,_,Ab⟩) e2 _).set (a:=⟨_,_,Ab⟩) e2 _).set (a:=⟨_,_,Ab⟩) e2 _
   ·exact ((((((((hb.high (Bt _) _ _).high Bl _ _).high Bl _ _).high Bl _ _).high Bl _ _).high Bl _ _).high Bl _ _).high Bl _ _).high Bl _ _
  have aB:(k:Int)<(r.tasks.length:Int):=Bl;have cE:(0:Int)<=(k:Int):=Bl;have jT:k<((r.tasks.take k).map Dr ++ r.tasks.drop k).length:=by simp;omega
  have tR:=Br (show ((r.tasks.take k).map Dr ++ r.tasks.drop k)[k]=r.tasks[k] by
   rw [List.getElem_append_right (by simp;omega)];simp [Nat.min_eq_left (Nat.le_of_lt aA)])
  obtain ⟨b1,o1,mR,hbb1,c0,c1,c2,c3⟩:=hO.out.rd.tsk jT;simp only [Option.some.injEq,Addr.mk.injEq,and_true] at mR;obtain ⟨rfl,rfl⟩:=mR;rw [tR.out] at c0 c1 c2 c3;have hlM:=Br (show ((r.tasks.take k).map Dr ++ r.tasks.drop k).length=r.tasks.length by simp;omega);by_cases s4:r.tasks[k].state=4
  ·have q4:(r.tasks[k].state != 4)=false:=by simp [s4]
   have hy:=Br (show Dr r.tasks[k]=⟨r.tasks[k].state,r.tasks[k].need,r.tasks[k].try_,r.tasks[k].until_⟩ by unfold Dr;rw [if_neg (by simp [s4])]);clear s4;exact Ah9
  by_cases s5:r.tasks[k].state=5
  ·have q4:(r.tasks[k].state != 4)=true:=by simp [s4]
   have q5:(r.tasks[k].state != 5)=false:=by simp [s5]
   have hy:=Br (show Dr r.tasks[k]=⟨r.tasks[k].state,r.tasks[k].need,r.tasks[k].try_,r.tasks[k].until_⟩ by unfold Dr;rw [if_neg (by simp [s5])]);clear s4 s5;exact Ah9
  have q4:(r.tasks[k].state != 4)=true:=by simp [s4]
  have q5:(r.tasks[k].state != 5)=true:=by simp [s5]
  have hy:=Br (show Dr r.tasks[k]=⟨6,r.tasks[k].need,r.tasks[k].try_,0⟩ by unfold Dr;rw [if_pos ⟨s4,s5⟩]);clear s4 s5;go_upto_region 8 with fail
  have XB:DBox wr [J U 6,J U r.tasks[k].need,J U r.tasks[k].try_,J U 0] (wr.alloc (.cells #[J U 6,J U r.tasks[k].need,J U r.tasks[k].try_,J U 0] 203)):=DBox.new 203 [J U 6,J U r.tasks[k].need,J U r.tasks[k].try_,J U 0] wr rfl;have bw:Chg [b] wr (wr.alloc (.cells #[J U 6,J U r.tasks[k].need,J U r.tasks[k].try_,J U 0] 203)):=Chg.of_below _ (by repeat (first | (with_reducible exact Bs _ _) | refine Ad ?_ Bp _ | refine Ae ?_ Bp _));have bb:Below wr wr (wr.alloc (.cells #[J U 6,J U r.tasks[k].need,J U r.tasks[k].try_,J U 0] 203)):=by repeat (first | (with_reducible exact Bs _ _) | refine Ad ?_ Bp _ | refine Ae ?_ Bp _)
  have HO:=hO.out.below bb;replace X:=X.below bb;replace RES:=RES.below bb;clear bb;have hbz:=bw.size;generalize (wr.alloc (.cells #[J U 6,J U r.tasks[k].need,J U r.tasks[k].try_,J U 0] 203))=W1 at *
  clear X_0 X_1 X_2 X_3 X_4 X_5 X_6 X_7 X_l;clear RES_0 RES_1 RES_2 RES_3 RES_4 RES_5 RES_6 RES_7 RES_l;obtain ⟨X_0,X_1,X_2,X_3,X_4,X_5,X_6,X_7,X_l⟩:=X.g8;have z0:=XB.cell 0 _ rfl;have z1:=XB.cell 1 _ rfl;have z2:=XB.cell 2 _ rfl;have z3:=XB.cell 3 _ rfl;have zl:=XB.lt;obtain ⟨b2,o2,eJ,mE,d0,d1,d2,d3⟩:=HO.rd.tsk jT;simp only [Option.some.injEq,Addr.mk.injEq,and_true] at eJ;obtain ⟨rfl,rfl⟩:=eJ;have hfz:=(HO.block Bl).2.2;have Y4:Hw Ge ((((W1.setCell ⟨b,o+k * 4,Ab⟩ (J U 6)).setCell ⟨b,o+k * 4+1,Ab⟩ (J U r.tasks[k].need)).setCell ⟨b,o+k * 4+2,Ab⟩ (J U r.tasks[k].try_)).setCell ⟨b,o+k * 4+3,Ab⟩ (J U 0)) [b] (Aa (Ac ⟨b,o,Ab⟩) r.tasks.length c) _:=HO.task4 jT ⟨6,r.tasks[k].need,r.tasks[k].try_,0⟩;have B4:Chg [b] w ((((W1.setCell ⟨b,o+k * 4,Ab⟩ (J U 6)).setCell ⟨b,o+k * 4+1,Ab⟩ (J U r.tasks[k].need)).setCell ⟨b,o+k * 4+2,Ab⟩ (J U r.tasks[k].try_)).setCell ⟨b,o+k * 4+3,Ab⟩ (J U 0)):=(((((hb.trans bw).trans (Chg.setCell _ b _ _)).trans (Chg.setCell _ b _ _)).trans (Chg.setCell _ b _ _)).trans (Chg.setCell _ b _ _))
  have e1:w≠b:=Bl;have e2:w+1≠b:=Bl;have X4:DBox w _ ((((W1.setCell ⟨b,o+k * 4,Ab⟩ (J U 6)).setCell ⟨b,o+k * 4+1,Ab⟩ (J U r.tasks[k].need)).setCell ⟨b,o+k * 4+2,Ab⟩ (J U r.tasks[k].try_)).setCell ⟨b,o+k * 4+3,Ab⟩ (J U 0)):=(((X.setOther (a:=⟨b,_,Ab⟩) e1 _).setOther (a:=⟨b,_,Ab⟩) e1 _).setOther (a:=⟨b,_,Ab⟩) e1 _).setOther (a:=⟨b,_,Ab⟩) e1 _;have R4:DBox (w+1) _ ((((W1.setCell ⟨b,o+k * 4,Ab⟩ (J U 6)).setCell ⟨b,o+k * 4+1,Ab⟩ (J U r.tasks[k].need)).setCell ⟨b,o+k * 4+2,Ab⟩ (J U r.tasks[k].try_)).setCell ⟨b,o+k * 4+3,Ab⟩ (J U 0)):=(((RES.setOther (a:=⟨b,_,Ab⟩) e2 _).setOther (a:=⟨b,_,Ab⟩) e2 _).setOther (a:=⟨b,_,Ab⟩) e2 _).setOther (a:=⟨b,_,Ab⟩) e2 _;have aF:=Br (show ((r.tasks.take k).map Dr ++ r.tasks.drop k).set k ⟨6,r.tasks[k].need,r.tasks[k].try_,0⟩=(r.tasks.take (k+1)).map Dr ++ r.tasks.drop (k+1) by rw [<-N2 aA Dr,hy.out]);clear d0 d1 d2 d3;have g0:=Br Y4;clear Y4;obtain ⟨b3,o3,gX,hbb3,d0,d1,d2,d3⟩:=HO.rd.tsk jT;simp only [Option.some.injEq,Addr.mk.injEq,and_true] at gX;obtain ⟨rfl,rfl⟩:=gX;go_wp2;exact ⟨⟨k+1,Bl,by go_num,by rw [<-aF.out];exact g0,X4,R4,B4⟩,clM⟩
theorem V3 (v:Value) (l:List Memo) (i xb:Nat) (x:Memo) (base:Nat) (w:World) (hi:i<=l.length) (hl:l.length<=1000000) (ho:Ow Ej 154 w base v l) (aV:base<=w.heap.size)
  (hx:w.heap[xb]? = Ac (.cells (Ej.cells x).toArray 154 (0,0))) (aC:v.ownBlock≠Ac xb) :
  Calls Am 86 #[v,J U (i:Int),Aa (Ac ⟨xb,0,Ab⟩) 1 1] w fun e w'=>∃ v',e = .returned v'/\Ow Ej 154 w' base v' (l.take i ++ x :: l.drop i)/\w.grownBy w' v.ownBlock/\(v'.ownBlock=v.ownBlock\/v'.ownBlock=Ac w.heap.size):=by
 obtain ⟨j0,bX,jz0,jz1,jz2⟩:=info_parts Pj;have fB:xb<w:=(Array.getElem?_eq_some_iff.1 hx).1;have nX:∀ j u,(Ej.cells x)[j]? = Ac u->w.cell? ((⟨xb,0,Ab⟩:Addr).add j)=Ac u:=fun j u hu=>by
  have h0:w.cell? ⟨xb,j,Ab⟩=(Ej.cells x).toArray[j]?:=cell_of_row _ _ j _ _ (0,0) hx;exact Alu
 have gM:Rd Ej w w (Aa (Ac ⟨xb,0,Ab⟩) 1 1) [x]:=by
  refine ⟨_,1,rfl,Bo,fun _=>⟨xb,0,rfl,fB,fun k hk j u hu=>?_⟩⟩;have cE:k=0:=by simpa using hk
  subst cE;have e:(⟨xb,0+0 * Ej.sz+j,Ab⟩:Addr)=(⟨xb,0,Ab⟩:Addr).add j:=by unfold Addr.add;split<;>simp_all
  rw [e];exact nX j u hu
 by_cases cW:i=l.length
 ·have Hl:=Br (show l.take i ++ x :: l.drop i=l ++ [x] by rw [cW,List.take_length,List.drop_length]);have HO:=Br ho;have HX:=Br hx;have HXC:=Br nX;have HNE:=Br aC;obtain ⟨A,c,rfl,hc,-⟩:=id (Rd.of_own ho);have aM:l.length<=c:=hc;subst cW;clear ho hx nX aC hi;have h0:¬ (l.length:Int)<0:=Bl;by_cases tI:c=l.length;all_goals
   (try subst tI)
   go_enter func86,ntmps86;go_wp2_with (at_builtin;refine Ci _ Ej Bq rfl (.tmp 23) (.tmp 24) rfl underlying79 bX jz0 jz1 jz2 rfl (v:=Aa A l.length _) (l:=l) rfl HO.out (A:=Ac ⟨xb,0,Ab⟩) (m:=1) (c:=1) rfl gM Bl Bo Bq Bl ?_;intro v5 w5 o5 g5 f5)
   go_ret;exact ⟨v5,rfl,by first | exact o5 | (rw [Hl.out];exact o5),g5,f5⟩
 have aA:i<l.length:=Bl;obtain ⟨g,cap,rfl,hg1,dW,-⟩:∃ g cap,v = Aa (Ac ⟨g,0,Ab⟩) l.length cap/\base<=g/\g<w.heap.size/\True:=Alk
 obtain ⟨-,-,hncap,kU,cur,cM,fM,gS⟩:=ho.row;have hne':xb≠g:=fun e=>aC (by rw [e];rfl);have bL:(Am.info? 154).map (·.size)=Ac 5:=by rw [bX];simp [jz1]
 have pD:Ej.sz=5:=rfl;have qZ:(l.flatMap Ej.cells).length=l.length * 5:=Ej.flat_length l;have dG:(Ej.cells x).length=5:=Ej.len x;have vE:((l.flatMap Ej.cells).drop (i * 5)).length=(l.length - i) * 5:=by rw [List.length_drop,qZ,Nat.sub_mul]
 have nV:∀ u∈l.flatMap Ej.cells,u.oneCell'=true:=fun u hu=>by
  obtain ⟨y,_,hy⟩:=List.mem_flatMap.1 hu;exact Ej.one y u hy
 have hfi:=Br (Mn Ej l i Bl x);rw [pD] at gS fM hfi;have aL:∀ j u,(l.flatMap Ej.cells)[j]? = Ac u->w.cell? ⟨g,j,Ab⟩=Ac u:=fun j u hu=>by
  exact Akv
 have Hone:=Br nV;have Hcell:=Br aL;have HX:=Br hx;have HXC:=Br nX;have Hrow:=Br cM;have Hclen:=Br fM;have Hcur:=Br gS;have HO:=Br ho;have Hxl:=Br dG;have Hdl:=Br vE;have HLl:=Br qZ;have HSZ:=Br bL;have mG:cap<=9223372036854775807:=by simpa [maxLen] using kU
 have fY:¬ ((i:Int)=(l.length:Int)):=Bl;have hib:((i:Int) == (l.length:Int))=false:=beq_eq_false_iff_ne.2 fY;have vV:U.wrap ((i:Int)+1)=(i:Int)+1:=Aq _ Bl;have sJ:U.wrap ((l.length:Int)+1)=(l.length:Int)+1:=Aq _ Bl;have aG:(0:Int)<=(i:Int)+1:=Bl;have uE:((i:Int)+1).toNat=i+1:=Bl;have htn2:((l.length:Int)+1).toNat=l.length+1:=Bl;have rX:¬ cap=i:=Bl;have hiI:(i:Int)<=(l.length:Int):=Bl;have hicap:(i:Int)<=(cap:Int):=Bl;clear ho hx nX aC cM fM gS nV aL kU aA cW hi gM qZ dG vE bL pD;by_cases eX:l.length+1<=cap
 ·-- there is room: in place
  have rY:¬ cap=i+1:=Bl;have hro:¬ (cap:Int)<(l.length:Int)+1:=Bl;have hi1:(i:Int)+1<=(l.length:Int)+1:=Bl;have vJ:(i:Int)<=(l.length:Int)+1:=Bl;have kJ:w.shape? xb=Ac (154,5):=by unfold World.shape?;rw [HX.out];simp [Hxl.out]
  have jZ:w.shape? g=Ac (154,cap * 5):=by unfold World.shape?;rw [Hrow.out];simp [Hclen.out]
  have rJ:∀ o,w.frozen? ⟨xb,o,Ab⟩=false:=fun o=>by unfold World.frozen?;rw [HX.out];simp
  have vH:∀ lb cb,(callFunc 158 #[Aa (Ac ⟨xb,0,Ab⟩) 1 1,Aa (Ac ⟨g,(i+1) * 5,Ab⟩) lb cb]).run Am w = .ok (.value (.bool false)) w:=fun lb cb=>by
   rw [run_callFunc_extern func158 Bm Bm Bm (e:=Extern.SlicesOverlaps.overlaps #[79,79] #[4]) Bm,
    Lib.run_overlaps_apart w 79 4 154 underlying79 5 (fun w=>by simp [sizeOf,typeInfo,bX,jz1]) ⟨xb,0,Ab⟩ ⟨g,(i+1) * 5,Ab⟩ 1 1 lb cb hne' 154 154 5 (cap * 5) kJ jZ (by have:1 * 5<=cap * 5:=Nat.mul_le_mul_right _ Bl;omega) (rJ _) (rJ _)]
   rfl
  have Hsh:=Br kJ;have Hsg:=Br jZ;have Hfx:=Br rJ;clear kJ jZ rJ;go_enter func86,ntmps86;go_wp2_with (simp only [vH])
  have e1:=Br (show ((l.flatMap Ej.cells).drop (i * 5)).length=Nat.min (l.length+1 - i) (l.length - i) * 5 by rw [Hdl.out];congr 1;simp only [Nat.min_def];split<;>omega);have e2:=Br (show ∀ j u,((l.flatMap Ej.cells).drop (i * 5))[j]? = Ac u->w.drew.cell? ((⟨g,i * 5,Ab⟩:Addr).add j)=Ac u from Ix Hrow.out _ (fun j u hu=>by
   rw [List.getElem?_drop,<-Hcur.out,List.getElem?_take] at hu;split at hu
   ·exact hu
   ·cases hu))
  have e3:=Br (show (i+1) * 5+((l.flatMap Ej.cells).drop (i * 5)).length<=cur.length by
   rw [Hdl.out,Hclen.out,<-Nat.add_mul];exact Nat.mul_le_mul_right _ Bl)
  have e4:=Br (show ∀ u∈(l.flatMap Ej.cells).drop (i * 5),u.oneCell'=true from fun u hu=>Hone.out u (List.mem_of_mem_drop hu));go_region_law (refine Lh w.drew rfl (.tmp 73) (.tmp 76) 79 79 rfl 154 5 underlying79 HSZ.out g ((i+1) * 5) (l.length - i) (cap - (i+1)) ⟨g,i * 5,Ab⟩ (l.length+1 - i) (cap - i) (by simp [Act.eval,Act.put]) (by simp [Act.eval,Act.put]) cur 154 Hrow.out ((l.flatMap Ej.cells).drop (i * 5)) e1.out e2.out e3.out e4.out ?_;intro w1 r1 g1);have f1:=Br (show (Ej.cells x).length=Nat.min 1 (l.length+1 - i) * 5 by rw [Hxl.out];simp only [Nat.min_def];split<;>omega);have f2:=Br (show ∀ j u,(Ej.cells x)[j]? = Ac u->w1.cell? ((⟨xb,0,Ab⟩:Addr).add j)=Ac u from Ix (Qx g1 (w:=w.drew) HX.out (fun e=>hne' (Option.some.inj e))) _ (fun j u hu=>by rw [Nat.zero_add];exact hu));have cF:=Br (Sp Ej l i Bl x cur Hcur.out (by rw [Hclen.out];exact Nat.mul_le_mul_right _ eX));have f3:=Br (show i * 5+(Ej.cells x).length<=(splice cur ((i+1) * 5) ((l.flatMap Ej.cells).drop (i * 5))).length by
   rw [Gi _ _ _ e3.out,Hxl.out,Hclen.out,<-Nat.succ_mul];exact Nat.mul_le_mul_right _ Bl)
  have f4:=Br (Ej.one x);clear e1 e2 e3 e4 vH;go_wp2_with (refine J8 w1 rfl (.tmp 80) (.tmp 81) 79 79 rfl 154 5 underlying79 HSZ.out g (i * 5) (l.length+1 - i) (cap - i) ⟨xb,0,Ab⟩ 1 1 (by simp [Act.eval]) (by simp [Act.eval]) _ 154 r1.out (Ej.cells x) f1.out f2.out f3.out f4.out ?_;intro w2 r2 g2)
  go_ret;have fX:=Ow.of_row (e:=Ej) (E:=154) (l:=l.take i ++ x :: l.drop i) (cap:=cap) (base:=base) r2.out (cF.out.2.trans Hclen.out) (by rw [G4 l i Bl x];exact cF.out.1) hg1 (by rw [G4 l i Bl x];exact eX) (by simpa [maxLen] using mG);rw [G4 l i Bl x] at fX;exact ⟨_,rfl,fX,(Nq g1).trans g2,.inl rfl⟩
 ·-- no room: a new row
  obtain rfl:cap=l.length:=Bl;have hro:(l.length:Int)<(l.length:Int)+1:=Bl;have fK:U.wrap ((l.length:Int)+1 - (i:Int))=(l.length:Int)+1 - (i:Int):=Aq _ Bl;have a1:=Br (show ((l.flatMap Ej.cells).take (i * 5)).length=i * 5 by
   rw [Az,HLl.out];exact Nat.min_eq_left (Nat.mul_le_mul_right _ Bl))
  have a2:=Br (show ∀ j u,((l.flatMap Ej.cells).take (i * 5))[j]? = Ac u->w.cell? ((⟨g,0,Ab⟩:Addr).add j)=Ac u from Ix Hrow.out _ (fun j u hu=>by
   rw [List.getElem?_take] at hu;split at hu
   ·exact Al6
   ·cases hu))
  have bZ:=Br (show (l.length:Int)+1 - (i:Int)=((l.length+1 - i:Nat):Int) by omega);have vD:0<l.length+1 - i:=Bl;have hGg:w≠g:=Bl;have hxG:xb≠w:=Bl;have f1:=Br (show (Ej.cells x).length=Nat.min 1 (l.length+1 - i) * 5 by rw [Hxl.out];simp only [Nat.min_def];split<;>omega);have f4:=Br (Ej.one x);have e1:=Br (show ((l.flatMap Ej.cells).drop (i * 5)).length=Nat.min (l.length - i) (l.length - i) * 5 by rw [Hdl.out];congr 1;simp only [Nat.min_def];split<;>omega);have e4:=Br (show ∀ u∈(l.flatMap Ej.cells).drop (i * 5),u.oneCell'=true from fun u hu=>Hone.out u (List.mem_of_mem_drop hu));have e2:=Br (show ∀ W:World,W.heap[g]? = w.heap[g]? -> ∀ j u,((l.flatMap Ej.cells).drop (i * 5))[j]? = Ac u->W.cell? ((⟨g,i * 5,Ab⟩:Addr).add j)=Ac u from fun W hW=>Ix (hW.trans Hrow.out) _ (fun j u hu=>by
   rw [List.getElem?_drop,<-Hcur.out,List.getElem?_take] at hu;split at hu
   ·exact hu
   ·cases hu))
  go_enter func86,ntmps86;go_wp2_with (first
   | (refine Ld w rfl (.tmp 34) (.tmp 39) 79 3 rfl 154 j0 _ 5 _ .i64 .i64 underlying79 underlying3 bX jz0 jz1 jz2 rfl Bq ⟨g,0,Ab⟩ i l.length _ (by simp [Act.eval]) (l.length+1 - i) ((l.length:Int)+1 - (i:Int)) bZ.out (by simp [Act.eval]) a1.out a2.out vD Bl Bl Bq (l.length+1) Bl ?_;intro w1 c R r1 rl rt qB hc4 g1 s1;have hci:¬ c=i:=(by omega);have hci1:¬ c=i+1:=(by omega);have vJ:(i:Int)<=(l.length:Int)+1:=(by omega);have hi1:(i:Int)+1<=(l.length:Int)+1:=(by omega);have vU:(l.length:Int)+1<=(c:Int):=(by omega);have f2:=Br (show ∀ j u,(Ej.cells x)[j]? = Ac u->w1.cell? ((⟨xb,0,Ab⟩:Addr).add j)=Ac u from Ix (Qx g1 HX.out Bo) _ (fun j u hu=>by rw [Nat.zero_add];exact hu));have f3:=Br (show i * 5+(Ej.cells x).length<=R.length by rw [Hxl.out,rl.out,<-Nat.succ_mul];exact Nat.mul_le_mul_right _ Bl);have cF:=Br (Uu Ej l i Bl x R rt.out (by rw [rl.out];exact Nat.mul_le_mul_right _ qB));have mM:=Br (g1.block g dW Bo);clear bZ)
   | (refine J8 w1 rfl (.tmp 43) (.tmp 44) 79 79 rfl 154 5 underlying79 HSZ.out w.heap.size (i * 5) (l.length+1 - i) (c - i) ⟨xb,0,Ab⟩ 1 1 (by simp [Act.eval]) (by simp [Act.eval]) _ 154 r1.out (Ej.cells x) f1.out f2.out f3.out f4.out ?_;intro w2 r2 g2))
  have e3:=Br (show (i+1) * 5+((l.flatMap Ej.cells).drop (i * 5)).length<=(splice R (i * 5) (Ej.cells x)).length by
   rw [Gi _ _ _ f3.out,Hdl.out,rl.out,<-Nat.add_mul];exact Nat.mul_le_mul_right _ Bl)
  have e2':=Br (e2.out w2.drew ((g2.block g Bl (fun e=>hGg (Option.some.inj e).symm)).trans mM.out));clear e2 mM;go_region_law (refine Lh w2.drew rfl (.tmp 50) (.tmp 53) 79 79 rfl 154 5 underlying79 HSZ.out w.heap.size ((i+1) * 5) (l.length - i) (c - (i+1)) ⟨g,i * 5,Ab⟩ (l.length - i) (l.length - i) (by simp [Act.eval,Act.put]) (by simp [Act.eval,Act.put]) _ 154 r2.out ((l.flatMap Ej.cells).drop (i * 5)) e1.out e2'.out e3.out e4.out ?_;intro w3 r3 g3);go_wp2_with fail
  go_ret;have fX:=Ow.of_row (e:=Ej) (E:=154) (l:=l.take i ++ x :: l.drop i) (cap:=c) (base:=base) r3.out (cF.out.2.trans rl.out) (by rw [G4 l i Bl x];exact cF.out.1) aV (by rw [G4 l i Bl x];exact qB) (by simpa [maxLen] using hc4);rw [G4 l i Bl x] at fX;exact ⟨_,rfl,fX,O9 (O9 (Us g1 (Ac g)) g2 (Bt _)) (Nq g3) (Bt _),.inr rfl⟩
def Ke (y:Yard) (r:Run) (l:List Nat):Yard:=l.foldl (fun y t=>Mb y r t) y
theorem Aca (y:Yard) (r:Run) (l:List Nat) (k:Nat) (h:k<l.length):Ke y r (l.take (k+1))=Mb (Ke y r (l.take k)) r l[k]:=by
 unfold Ke;exact Als
structure StockF (y z:Yard) (M n:Nat):Prop where
 now:z.now=y.now
 runs:z.runs=y.runs
 len:z.shelf.length=y.shelf.length
 seq:z.seq=y.seq+n
 all:∀ s∈z.shelf,s.length<=M+n
theorem V4 {y:Yard} {M:Nat} (hM:∀ s∈y.shelf,s.length<=M) (r:Run) (l:List Nat):StockF y (Ke y r l) M l.length:=by
 obtain ⟨h1,h2,h3,h4⟩:=Q5 r l y;exact ⟨h1,h2,h3,h4,N0 r M l y hM⟩
def Pk (z:Yard) (b g o cs n:Nat) (R:Sl) (Fs:List Nat) (w:World) (e:Ending) (w':World):Prop :=
 e = .returned (.tuple #[]) /\ ∃ F',OwL (Dt.list By) w' F' (Aa (Ac ⟨g,o,Ab⟩) n cs) z.shelf/\DBox b [J U z.now,J U z.seq,Aa (Ac ⟨g,o,Ab⟩) n cs,Aa R.a R.n R.c] w'/\(∀ x∈F',x∈Fs\/w<=x)/\Chg [b,g] w w'
theorem Qb (y:Yard) (b g o cs:Nat) (R:Sl) (r:Run) (sr:Sl×Sl) (l:List Nat) (A:Option Addr) (n c:Nat) (w:World) (Fs:List Nat) (h4:y.shelf.length=4) (hM:∀ s∈y.shelf,s.length<=100000) (hq:0<=y.seq/\y.seq<=2000000000) (hl:l.length<=1000)
  (hY:DBox b [J U y.now,J U y.seq,Aa (Ac ⟨g,o,Ab⟩) y.shelf.length cs,Aa R.a R.n R.c] w) (hs:OwL (Dt.list By) w Fs (Aa (Ac ⟨g,o,Ab⟩) y.shelf.length cs) y.shelf) (dA:b∉Fs)
  (HT:Hid (∀ W,Chg [b,g] w W->Rd E0 W W (Aa A n c) l)) :
  Calls Am 203 #[.pointer (Ac ⟨b,0,Ab⟩),G7 r sr,Aa A n c] w (Pk (Ke y r l) b g o cs y.shelf.length R Fs w):=by
 have cG:n=l.length:=by obtain ⟨A',c',hv,_⟩:=HT.out w (Chg.refl _ _);simp only [Value.slice.injEq] at hv;exact hv.2.1
 subst cG;have rF:g∈Fs/\g<w:=by
  obtain ⟨_,_,_,_,_,h5,_,_⟩:=hs.elem (j:=0) Bl;exact ⟨h5,hs.lt g h5⟩
 have hbg:b≠g:=fun e=>dA (by rw [e];exact rF.1);have jU:=Br hs.lt;have uH:C7 r.id<y.shelf.length:=by rw [h4];exact Vs _
 have mX:=hY.lt;obtain ⟨⟨ea,en,ec⟩,⟨ta,tn,tc⟩⟩:=sr;replace h4:=Br h4;have RB:=DBox.new 67 [J U r.id,J U r.plan.prio,J U r.plan.most,J U r.plan.wait,J U r.plan.tasks,Aa ea en ec,J U r.state,Aa ta tn tc] w (b:=w) rfl;have B0:Below w w (w.alloc (.cells #[J U r.id,J U r.plan.prio,J U r.plan.most,J U r.plan.wait,J U r.plan.tasks,Aa ea en ec,J U r.state,Aa ta tn tc] 67)):=by repeat (first | exact Bs _ _ | refine Ae ?_ Bp _)
 go_enter func203,ntmps203;go_wp2_with (go_at_call 273;refine (Tu r.id _).mono ?_;rintro e w1 ⟨rfl,b1⟩)
 replace RB:=RB.below b1;replace B0:=Bv B0 b1;clear b1;generalize G7 r (⟨ea,en,ec⟩,⟨ta,tn,tc⟩)=rv;have C0:=Chg.of_below [b,g] B0;have hY0:=hY.below B0;have uW:=hs.below B0;have bE:=B0.size;have eC:=RB.lt;have dX:=hs.lt;clear hY hs;go_loopw [8,14] (fun x i wr=>∃ (k:Nat) (F:List Nat),k<=l.length/\i = J U k/\Hid (OwL (Dt.list By) wr F (Aa (Ac ⟨g,o,Ab⟩) y.shelf.length cs) (Ke y r (l.take k)).shelf/\(∀ x∈F,x∈Fs\/w+1<=x))/\DBox b [J U y.now,J U (Ke y r (l.take k)).seq,Aa (Ac ⟨g,o,Ab⟩) y.shelf.length cs,Aa R.a R.n R.c] wr/\DBox w [J U r.id,J U r.plan.prio,J U r.plan.most,J U r.plan.wait,J U r.plan.tasks,Aa ea en ec,J U r.state,Aa ta tn tc] wr/\Chg [b,g] w wr/\w.heap.size+1<=wr.heap.size) (fun _ i _=>l.length - (intOf i).toNat);case atStart=>exact ⟨0,Fs,Nat.zero_le _,rfl,⟨uW,fun x hx=>.inl hx⟩,hY0,RB,C0,eC⟩
 case round =>
  clear hY0 RB C0 uW B0 bE eC;obtain ⟨k,F,hk,rfl,hO,Y,RB,hC,hwr⟩:=hrel;by_cases aA:k<l.length;case neg =>
   have aB:¬ (k:Int)<(l.length:Int):=Bl;have dC:=hO.out;have hE:=Br (show l.take k=l from Bg Bl);rw [hE.out] at dC Y;have hF:Pk (Ke y r l) b g o cs y.shelf.length R Fs w (.returned (.tuple #[])) wr:=⟨rfl,F,dC.1,by rw [(V4 hM r l).now];exact Y,fun x hx=>(dC.2 x hx).imp id (fun h=>Bl),hC⟩
   have HF:=Br hF;clear hF dC hO Y;go_wp2;exact Aj (v:=.tuple #[]) (by simp [results,results203,go_sem]) rfl HF.out
  have aB:(k:Int)<(l.length:Int):=Bl;have hf:=V4 hM r (l.take k);have aF:=Br (Aca y r l k aA);obtain ⟨b1,o1,rfl,aJ,c0⟩:=(HT.out wr hC).nat aA;have hlk:(l.take k).length<=1000:=by rw [Az];omega
  generalize Ke y r (l.take k)=Z at *
  obtain ⟨gT,aP,aE,mC,dQ⟩:=hf;replace gT:=Br gT;replace aP:=Br aP;replace aE:=Br aE;have hsq:0<=Z.seq/\Z.seq<=2000001000:=Bl;replace mC:=Br mC;obtain ⟨kz,hkzE⟩:∃ kz,kz=C7 r.id:=⟨_,rfl⟩
  rw [<-hkzE] at uH ⊢;replace hkzE:=Br hkzE;have jS:kz<Z.shelf.length:=by rw [aE.out];exact uH
  obtain ⟨_,_,sk,dD,hbb9,dI,ck⟩:=hO.out.1.rd.entryS jS;simp only [Option.some.injEq,Addr.mk.injEq,and_true] at dD;obtain ⟨rfl,rfl⟩:=dD;have gJ:(kz:Int)<(y.shelf.length:Int):=Bl;have cE:(0:Int)<=(kz:Int):=Bl;have rK:Z.shelf[kz].length<=900000:=by have:=dQ _ (List.getElem_mem jS);omega
  have dF:=Br (show Z.shelf.getD kz []=Z.shelf[kz] by rw [List.getD_eq_getElem?_getD,List.getElem?_eq_getElem jS];rfl);have gI:=hO.out.1.free0 Bl;have CP:=Br (Nh Z.shelf[kz] sk ⟨r.plan.prio,Z.seq,r.id,l[k]⟩ wr.drew rK (dI.below (Bs _ _).drew));have hgwr:g<wr:=by have:=hC.size;omega
  have hbwr:=Y.lt;obtain ⟨Y_0,Y_1,Y_2,Y_3,Y_l⟩:=Y.g4;obtain ⟨RB_0,RB_1,RB_2,RB_3,RB_4,RB_5,RB_6,RB_7,RB_l⟩:=RB.g8;generalize l[k]=tk at *
  go_upto_region 5 with fail
  have HS:=Br (show ∀ W,Below wr wr W->(fun w'=>w'.cell? ⟨b,1,Ab⟩=Ac (J U Z.seq)/\w'.cell? ⟨b,2,Ab⟩=Ac (Aa (Ac ⟨g,o,Ab⟩) y.shelf.length cs)/\w'.cell? ⟨w,0,Ab⟩=Ac (J U r.id)/\w'.cell? ⟨w,1,Ab⟩=Ac (J U r.plan.prio)/\w'.cell? ⟨g,o+kz,Ab⟩=Ac (Aa sk.a sk.n sk.c)) W from fun W hW=>⟨(hW.cell (p:=⟨_,_,Ab⟩) hbwr).trans Y_1,(hW.cell (p:=⟨_,_,Ab⟩) hbwr).trans Y_2,(hW.cell (p:=⟨_,_,Ab⟩) hwr).trans RB_0,(hW.cell (p:=⟨_,_,Ab⟩) hwr).trans RB_1,(hW.cell (p:=⟨_,_,Ab⟩) hgwr).trans ck⟩);refine Dh (fun w'=>w'.cell? ⟨b,1,Ab⟩=Ac (J U Z.seq)/\w'.cell? ⟨b,2,Ab⟩=Ac (Aa (Ac ⟨g,o,Ab⟩) y.shelf.length cs)/\w'.cell? ⟨w,0,Ab⟩=Ac (J U r.id)/\w'.cell? ⟨w,1,Ab⟩=Ac (J U r.plan.prio)/\w'.cell? ⟨g,o+kz,Ab⟩=Ac (Aa sk.a sk.n sk.c)) 25 Bm (HS.out _ (Bs _ _).drew) (fun hHeld=>?_);refine aT 0 hHeld ?_;try simp only [pS]
  refine aT 1 hHeld ?_;try simp only [pS]
  refine aT 2 hHeld ?_;try simp only [pS]
  refine aT 3 hHeld ?_;try simp only [pS]
  refine aT 4 hHeld ?_;try simp only [pS]
  refine aT 5 hHeld ?_;try simp only [pS]
  refine aT 6 hHeld ?_;try simp only [pS]
  refine aT 7 hHeld ?_;try simp only [pS]
  refine aT 8 hHeld ?_;try simp only [pS]
  refine aT 9 hHeld ?_;try simp only [pS]
  refine aT 10 hHeld ?_;try simp only [pS]
  refine aT 11 hHeld ?_;try simp only [pS]
  refine aT 12 hHeld ?_;try simp only [pS]
  refine aT 13 hHeld ?_;try simp only [pS]
  refine aT 14 hHeld ?_;try simp only [pS]
  refine aT 15 hHeld ?_;try simp only [pS]
  refine aT 16 hHeld ?_;try simp only [pS]
  refine aT 17 hHeld ?_;try simp only [pS]
  refine aT 18 hHeld ?_;try simp only [pS]
  refine aT 19 hHeld ?_;try simp only [pS]
  refine aT 20 hHeld ?_;try simp only [pS]
  refine aT 21 hHeld ?_;try simp only [pS]
  refine aT 22 hHeld ?_;try simp only [pS]
  refine oT 23 (fun K hK=>?_);go_simp;refine CP.out.mono ?_;rintro e w2 ⟨t2,F2,rfl,o2,n2,b2⟩;dsimp only [slV];have b2':Below wr wr w2:=Bv (Bs _ _).drew b2;have hwz:wr.drew.heap.size=wr.heap.size:=rfl;refine hK.out _ _ (fun _=>HS.out _ b2') ?_;clear hK K;try simp only [pS]
  have hgs:w2.cell? ⟨g,o+kz,Ab⟩=Ac (Aa sk.a sk.n sk.c):=(b2'.cell (p:=⟨_,_,Ab⟩) hgwr).trans ck;have qJ:w2.frozen? ⟨g,o+kz,Ab⟩=false:=(b2'.frozen (p:=⟨_,_,Ab⟩) hgwr).trans (gI _);refine oT 24 (fun K hK=>?_);go_simp;refine hK.out _ _ (fun _=>HS.out _ b2') ?_;clear hK K;try simp only [pS]
  refine oT 25 (fun K hK=>?_);go_simp;refine hK.out _ _ (fun aC=>absurd rfl aC) ?_;clear hK K hHeld HS;try simp only [pS]
  refine Eh Bm ?_ _;obtain ⟨F',p1,p2,p3,p4⟩:=OwL.swap (hO.out.1.below b2') jS (y:=Jk Z.shelf[kz] ⟨r.plan.prio,Z.seq,r.id,tk⟩) (s:=t2) (Fy:=F2) o2 (fun x hx bI=>by have h1:=n2 x hx;have h2:=hO.out.1.lt x bI;omega);have fK:Ie w2 g (o+kz * (Dt.list By).enc.sz) ((Dt.list By).enc.cells (Jk Z.shelf[kz] ⟨r.plan.prio,Z.seq,r.id,tk⟩,t2))=w2.setCell ⟨g,o+kz,Ab⟩ (Aa t2.a t2.n t2.c):=by
   show Ie w2 g (o+kz * 1) [Aa t2.a t2.n t2.c]=_;rw [Nat.mul_one];rfl
  rw [fK] at p1;clear fK;have jQ:Chg [b,g] w (w2.setCell ⟨g,o+kz,Ab⟩ (Aa t2.a t2.n t2.c)):=(hC.trans (Chg.of_below [b,g] b2')).trans ((Chg.setCell w2 g _ _).mono (fun x hx=>by simp only [Au] at hx;subst hx;simp));have aR:=b2'.size;clear Y_0 Y_1 Y_2 Y_3 Y_l;clear RB_0 RB_1 RB_2 RB_3 RB_4 RB_5 RB_6 RB_7 RB_l;replace Y:=(Y.below b2').setOther (a:=⟨g,o+kz,Ab⟩) hbg (Aa t2.a t2.n t2.c);replace RB:=(RB.below b2').setOther (a:=⟨g,o+kz,Ab⟩) (by show w.heap.size≠g;omega) (Aa t2.a t2.n t2.c);have sE:(w2.setCell ⟨g,o+kz,Ab⟩ (Aa t2.a t2.n t2.c)).heap.size=w2.heap.size:=by simp [World.setCell]
  generalize w2.setCell ⟨g,o+kz,Ab⟩ (Aa t2.a t2.n t2.c)=w3 at *
  have y1:=Y.cell 1 _ rfl;have yf:=Y.free;have yl:=Y.lt;have cF:∀ x∈F',x∈Fs\/w+1<=x:=fun x hx=>by
   rcases p2 x hx with h | h
   ·exact hO.out.2 x h
   ·right;have:=n2 _ h;omega
  have vI:b∉F':=fun hx=>by rcases cF _ hx with h | h;(exact dA h);omega
  have hT:=Br (show Ke y r (l.take (k+1))=⟨Z.now,Z.seq+1,Z.shelf.set kz (Jk Z.shelf[kz] ⟨r.plan.prio,Z.seq,r.id,tk⟩),Z.runs⟩ by rw [aF.out];unfold Mb;rw [<-hkzE.out,dF.out]);clear aF dF hO p2 n2 p3 p4 o2 hgs qJ CP;generalize Jk Z.shelf[kz] ⟨r.plan.prio,Z.seq,r.id,tk⟩=PE at *
  go_wp2;exact ⟨⟨k+1,F',Bl,by go_num,⟨by rw [hT.out];exact p1.set (a:=⟨b,1,Ab⟩) vI _,cF⟩,by rw [hT.out];exact Y.set 1 Bo _,RB.setOther (by show w.heap.size≠b;omega) _,jQ.trans ((Chg.setCell w3 b _ _).mono (fun x hx=>by simp only [Au] at hx;subst hx;simp)),by simp [World.setCell];omega⟩,clM⟩
theorem OwL.trade {α:Type} {d:Dt α} {w:World} {F:List Nat} {b o n c:Nat} {l:List α} (h:OwL d w F (Aa (Ac ⟨b,o,Ab⟩) n c) l) {j:Nat} (hj:j<l.length) :
  ∃ (s:d.S) (Fx:List Nat),d.ow w Fx l[j] s/\(∀ x∈Fx,x∈F)/\b∉Fx/\b∈F/\(∀ i,w.frozen? ⟨b,i,Ab⟩=false)/\(∀ i u,(d.enc.cells (l[j],s))[i]? = Ac u->w.cell? ⟨b,o+j * d.enc.sz+i,Ab⟩=Ac u) /\
   ∀ (w1:World) (y:α) (s':d.S) (Fy:List Nat),Chg Fx w w1->d.ow w1 Fy y s'->(∀ x∈Fy,x∈Fx) -> ∃ F',OwL d (Ie w1 b (o+j * d.enc.sz) (d.enc.cells (y,s'))) F' (Aa (Ac ⟨b,o,Ab⟩) n c) (l.set j y)/\(∀ x∈F',x∈F)/\b∈F':=by
 obtain ⟨rs,H,G,hm,hh,ho,rfl,hn⟩:=h;subst hm;have kV:j<rs.length:=by rw [Ar] at hj;exact hj
 obtain ⟨b',o',hA,rfl,mX,hf⟩:=hh.at_ Bl;simp only [Option.some.injEq,Addr.mk.injEq,and_true] at hA;obtain ⟨rfl,rfl⟩:=hA;obtain ⟨F1,F2,rfl,h1,h2⟩:=ho.split j Bl;rw [List.drop_eq_getElem_cons kV] at h2;obtain ⟨Fx,F3,rfl,h3,h4⟩:=h2.head;have gU:b∉F1 ++ (Fx ++ F3):=Ak0
 have rG:(F1 ++ (Fx ++ F3)).Nodup:=Amr
 have hlj:(rs.map (·.1))[j]=rs[j].1:=by rw [List.getElem_map]
 have vG:∀ x∈F1,x∉Fx:=fun x hx hx2=>(Ax.1 rG).2.2 x hx x (Bf _ hx2) rfl;have hd3:∀ x∈F3,x∉Fx:=fun x hx hx2=>(Ax.1 (Ax.1 rG).2.1).2.2 x hx2 x hx rfl;refine ⟨rs[j].2,Fx,by rw [hlj];exact h3,fun x hx=>by simp [hx],fun hx=>gU (by simp [hx]),Bo,hf,?_,?_⟩
 ·intro i u hu;rw [hlj] at hu;obtain ⟨A',c',hv,_,fP⟩:=hh.rd;simp only [Value.slice.injEq] at hv;obtain ⟨hv1,-,-⟩:=hv;obtain ⟨g',o',bU,_,aL⟩:=fP Bl;rw [<-hv1] at bU;simp only [Option.some.injEq,Addr.mk.injEq,and_true] at bU;obtain ⟨rfl,rfl⟩:=bU;exact aL j kV i u hu
 ·intro w1 y s' Fy hC hy hs;have hh1:=hh.chg hC (fun x hx hx2=>by simp only [Au] at hx;subst hx;exact gU (by simp [hx2]));have cC:b∉Fy:=fun hx=>gU (by simp [hs b hx]);have hc:=I6 (d.enc.cells (y,s')) w1 b (o+j * d.enc.sz);have hp:=Rd.part hh1.rd j kV (y,s') 0 (d.enc.cells (y,s')) (by rw [d.enc.len];omega) (fun i hi=>by rw [Nat.zero_add];exact List.getElem?_eq_getElem hi) (fun i hi ho=>by rw [d.enc.len] at ho;omega);rw [Nat.add_zero] at hp;have hz:=Jz (d.enc.cells (y,s')) w1 b (o+j * d.enc.sz);have bW:rs.set j (y,s')=rs.take j ++ ((y,s') :: rs.drop (j+1)):=by rw [List.set_eq_take_append_cons_drop,if_pos kV]
  have hf1:=hh1.2.2;have cQ:∀ x,x∈[b]->x=b:=fun x hx=>Au.1 hx;refine ⟨[b] ++ (F1 ++ (Fy ++ F3)),⟨rs.set j (y,s'),[b],F1 ++ (Fy ++ F3),?_,⟨?_,?_,fun g hg i=>?_⟩,?_,rfl,?_⟩,?_,Bo⟩
  ·rw [List.map_set]
  ·rw [hz];exact hp
  ·have:=hh1.2.1
   rw [Bh];exact this
  ·rw [I7];exact hf1 g hg i
  ·rw [bW];refine ((h1.chg hC vG).chg hc (fun x hx fB=>?_)).append (.cons (d.ow_chg hy hc (fun x hx fB=>?_)) ((h4.chg hC hd3).chg hc (fun x hx fB=>?_)))
   ·have e:=cQ x fB;subst e;exact gU (Bf _ hx)
   ·have e:=cQ x fB;subst e;exact cC hx
   ·have e:=cQ x fB;subst e;exact gU (Be _ (Be _ hx))
  ·have hyN:=d.ow_nodup hy;rw [List.singleton_append,List.nodup_cons];refine ⟨fun hx=>?_,?_⟩
   ·exact Alr
   ·rw [Ax] at rG ⊢;obtain ⟨n1,n2,n3⟩:=rG;rw [Ax] at n2;obtain ⟨m1,m2,m3⟩:=n2;refine ⟨n1,?_,fun a ha c hc=>?_⟩
    ·rw [Ax];exact ⟨hyN,m2,fun a ha c hc e=>by subst e;exact hd3 a hc (hs a ha)⟩
    ·rcases Bi.1 hc with hc | hc
     ·exact fun e=>by subst e;exact vG a ha (hs a hc)
     ·exact n3 a ha c (Be _ hc)
  ·intro x hx;simp only [Bi,Au] at hx ⊢;rcases hx with hx | hx | hx | hx
   ·exact .inl hx
   ·exact .inr (.inl hx)
   ·exact .inr (.inr (.inl (hs x hx)))
   ·exact .inr (.inr (.inr hx))
theorem Ad5 {w:World} {F:List Nat} {rs:List (Entry×By.S)} (h:Ows By w F rs):F=[]:=Am3
theorem Af4 {w:World} {B:Nat} {v:Value} {l:List Entry} (h:RdL By w B v l):Rd Cz w B v l:=Aip
theorem V5 (w:World):∀ l:List Entry,Ows By w [] (l.map fun x=>(x,()))
 | []=>.nil
 | x :: l=>by
  have:=Ows.cons (d:=By) (w:=w) (F:=[]) (r:=(x,())) rfl (V5 w l)
  exact this
theorem Ra {w:World} {F:List Nat} {v:Value} {l:List Entry} (h:OwL By w F v l):Hw Cz w F v l:=by
 have hr:=Af4 h.rd;obtain ⟨rs,H,G,hm,hh,ho,rfl,hn⟩:=h;have hG:=Ad5 ho;exact Alj
theorem Yh {w:World} {F:List Nat} {v:Value} {l:List Entry} (h1:Hw Cz w F v l):OwL By w F v l:=by
 obtain ⟨⟨A,c,hv,hc,hA⟩,hF,hf⟩:=id h1;subst hv;refine ⟨l.map fun x=>(x,()),F,[],by rw [List.map_map];exact List.map_id _,⟨⟨A,c,by rw [Ar],by rw [Ar];exact hc,fun hl=>?_⟩,by rw [Ar];exact hF,hf⟩,V5 w l,(List.append_nil _).symm,h1.nodup⟩;exact Aic
def Af5 (k:Desk) (w:World) (e:Ending) (w':World):Prop :=
 ∃ (s:Sl×Sl) (F:List Nat) (v:Sl) (base:Nat),e = .returned (Ih k (s,v))/\Bw.ow w' F k.yard s/\(∀ b∈F,w<=b/\b<base)/\Ow Ej 154 w' base (Aa v.a v.n v.c) k.memos/\w.heap.size<=base/\base<=w'.heap.size/\Below w w w'
theorem Sb (k:Desk) (s:(Sl×Sl)×Sl) (w:World) (cL:Dd k<=2000000) (h:Cj.rd w w k s) :
  Calls Am 85 #[Ih k s] w (Af5 k w):=by
 obtain ⟨⟨⟨A1,n1,c1⟩,⟨A2,n2,c2⟩⟩,⟨A3,n3,c3⟩⟩:=s;obtain rfl:n3=k.memos.length:=RdL.at1 (s:=⟨A3,n3,c3⟩) h.2;have h1:Bw.rd w w k.yard (⟨A1,n1,c1⟩,⟨A2,n2,c2⟩):=h.1;have h2:Rd Ej w w (Aa A3 k.memos.length c3) k.memos:=Zx h.2;have hl:Ca k.yard<=2000000:=by unfold Dd at cL;omega
 have bS:k.memos.length<=2000000:=Ah (Ck Ee _) (by unfold Dd at cL;omega);clear h cL;obtain ⟨W,aH,X,Z,B0⟩:=bx2 w 81 [J U k.yard.now,J U k.yard.seq,Aa A1 n1 c1,Aa A2 n2 c2,Aa A3 k.memos.length c3,J U k.fr] 81 [J U 0,J U 0,Aa Ab 0 0,Aa Ab 0 0,Aa Ab 0 0,J U 0];obtain ⟨i0,aQ,aU,aS,aR⟩:=info_parts Pj;go_enter func85,ntmps85;go_wp2_with fail
 rw [<-aH.out];clear aH;refine (Fe k.yard (⟨A1,n1,c1⟩,⟨A2,n2,c2⟩) W hl (Bw.rd_more (Bw.rd_below h1 B0) B0.size)).mono ?_;rintro e w0 ⟨⟨⟨A4,n4,c4⟩,⟨A5,n5,c5⟩⟩,F0,rfl,o0,n0,b0⟩;have hW:w.heap.size+2<=W.heap.size:=Z.lt;replace X:=X.below b0;replace Z:=Z.below b0;replace B0:=Bv B0 b0;obtain ⟨X_0,X_1,X_2,X_3,X_4,X_5,X_l⟩:=X.g6;obtain ⟨Z_0,Z_1,Z_2,Z_3,Z_4,Z_5,Z_l⟩:=Z.g6;have X_f:=X.free;have Z_f:=Z.free;have pK:w.heap.size∉F0:=fun hm=>by have:=n0 _ hm;omega
 have X1:DBox w [J U k.yard.now,J U k.yard.seq,Aa A4 n4 c4,Aa A5 n5 c5,Aa A3 k.memos.length c3,J U k.fr] ((((w0.setCell ⟨w,0,Ab⟩ (J U k.yard.now)).setCell ⟨w,1,Ab⟩ (J U k.yard.seq)).setCell ⟨w,2,Ab⟩ (Aa A4 n4 c4)).setCell ⟨w,3,Ab⟩ (Aa A5 n5 c5)):=(((X.set 0 Bo (J U k.yard.now)).set 1 Bo (J U k.yard.seq)).set 2 Bo (Aa A4 n4 c4)).set 3 Bo (Aa A5 n5 c5);have Z1:=(((Z.setOther (a:=⟨w,0,Ab⟩) Bo (J U k.yard.now)).setOther (a:=⟨w,1,Ab⟩) Bo (J U k.yard.seq)).setOther (a:=⟨w,2,Ab⟩) Bo (Aa A4 n4 c4)).setOther (a:=⟨w,3,Ab⟩) Bo (Aa A5 n5 c5);have o1:Bw.ow ((((w0.setCell ⟨w,0,Ab⟩ (J U k.yard.now)).setCell ⟨w,1,Ab⟩ (J U k.yard.seq)).setCell ⟨w,2,Ab⟩ (Aa A4 n4 c4)).setCell ⟨w,3,Ab⟩ (Aa A5 n5 c5)) F0 k.yard (⟨A4,n4,c4⟩,⟨A5,n5,c5⟩):=by repeat (first | (with_reducible exact o0) | refine Dt.ow_set Bw ?_ pK _)
 have B1:Below w w ((((w0.setCell ⟨w,0,Ab⟩ (J U k.yard.now)).setCell ⟨w,1,Ab⟩ (J U k.yard.seq)).setCell ⟨w,2,Ab⟩ (Aa A4 n4 c4)).setCell ⟨w,3,Ab⟩ (Aa A5 n5 c5)):=by repeat (first | (with_reducible exact B0) | refine Ad ?_ Bo _)
 have HZ3:=Br (show ((((w0.setCell ⟨w,0,Ab⟩ (J U k.yard.now)).setCell ⟨w,1,Ab⟩ (J U k.yard.seq)).setCell ⟨w,2,Ab⟩ (Aa A4 n4 c4)).setCell ⟨w,3,Ab⟩ (Aa A5 n5 c5)).heap.size=w0.heap.size by simp);go_wp2_with (at_builtin;generalize mQ:((((w0.setCell ⟨w,0,Ab⟩ (J U k.yard.now)).setCell ⟨w,1,Ab⟩ (J U k.yard.seq)).setCell ⟨w,2,Ab⟩ (Aa A4 n4 c4)).setCell ⟨w,3,Ab⟩ (Aa A5 n5 c5))=W3 at *;clear mQ X_0 X_1 X_2 X_3 X_4 X_5 X_l X_f Z_0 Z_1 Z_2 Z_3 Z_4 Z_5 Z_l Z_f X Z o0;have eS:=(Bs W3 W3);refine Ci _ Ej Bq rfl (.const (Aa Ab 0 0)) (.tmp 8) rfl underlying79 aQ aU aS aR rfl (v:=(Aa Ab 0 0)) (l:=[]) rfl (Ow.nil Ej 154 _ w0) rfl ((h2.below (Bv B1 eS)).more (Bv B1 eS).size) Bo Bl Bq (by have:=eS.size;have:=HZ3.out;omega) ?_;intro v1 w1 o5 g1 f1;rw [List.nil_append] at o5;have B31:Below W3 W3 w1:=eS.grown g1 eS.size (fun g hg=>by have:=HZ3.out;simp [Value.ownBlock] at hg<;>omega);clear f1 g1;obtain ⟨A6,c6,rfl,-⟩:=_root_.id (Rd.of_own o5);replace X1:=X1.below B31;replace Z1:=Z1.below B31;have y0:=X1.cell 0 _ rfl;have y1:=X1.cell 1 _ rfl;have y2:=X1.cell 2 _ rfl;have y3:=X1.cell 3 _ rfl;have y4:=X1.cell 4 _ rfl;have y5:=X1.cell 5 _ rfl;have yf:=X1.free;have yl:=X1.lt;have z0:=Z1.cell 0 _ rfl;have z1:=Z1.cell 1 _ rfl;have z2:=Z1.cell 2 _ rfl;have z3:=Z1.cell 3 _ rfl;have z4:=Z1.cell 4 _ rfl;have z5:=Z1.cell 5 _ rfl;have zf:=Z1.free;have zl:=Z1.lt)
 have B2:=Bv B1 B31;replace o1:Bw.ow W3 F0 k.yard (⟨A4,n4,c4⟩,⟨A5,n5,c5⟩):=o1;have o7:Bw.ow w1 F0 k.yard (⟨A4,n4,c4⟩,⟨A5,n5,c5⟩):=Bw.ow_below (x:=k.yard) (s:=(⟨A4,n4,c4⟩,⟨A5,n5,c5⟩)) o1 B31;have sE:=HZ3.out;have aN:=b0.size;have l0:∀ b∈F0,b<w0:=fun b hb=>by have:=Bw.ow_lt (x:=k.yard) (s:=(⟨A4,n4,c4⟩,⟨A5,n5,c5⟩)) o1 b hb;omega
 refine Aj (v:=Ih k ((⟨A4,n4,c4⟩,⟨A5,n5,c5⟩),⟨A6,k.memos.length,c6⟩)) ?_ rfl ?_
 ·simp [Ih,results,results85,go_sem,z0,z1,z2,z3,z4,z5]
 ·have dS:w.heap.size+1∉F0:=fun hm=>by have:=n0 _ hm;omega
  refine ⟨(⟨A4,n4,c4⟩,⟨A5,n5,c5⟩),F0,⟨A6,k.memos.length,c6⟩,w0.heap.size,rfl,?_,fun b hb=>⟨by have:=n0 b hb;omega,l0 b hb⟩,?_,Bl,by have:=B31.size;simp;omega,?_⟩
  ·show Bw.ow _ F0 k.yard (⟨A4,n4,c4⟩,⟨A5,n5,c5⟩);repeat (first | (with_reducible exact o7) | refine Dt.ow_set Bw ?_ (by first | exact pK | exact dS) _)
  ·have q1:w.heap.size<w0.heap.size:=Bl;have q2:w.heap.size+1<w0.heap.size:=Bl;replace o5:Ow Ej 154 w1 w0 (Aa A6 k.memos.length c6) k.memos:=o5;show Ow Ej _ _ w0.heap.size (Aa A6 k.memos.length c6) k.memos;exact (Ow.setLow (E:=154) (a:=⟨w+1,5,Ab⟩) (Ow.setLow (E:=154) (a:=⟨w+1,4,Ab⟩) (Ow.setLow (E:=154) (a:=⟨w+1,3,Ab⟩) (Ow.setLow (E:=154) (a:=⟨w+1,2,Ab⟩) (Ow.setLow (E:=154) (a:=⟨w+1,1,Ab⟩) (Ow.setLow (E:=154) (a:=⟨w+1,0,Ab⟩) (Ow.setLow (E:=154) (a:=⟨w,4,Ab⟩) o5 q1 _) q2 _) q2 _) q2 _) q2 _) q2 _) q2 _)
  ·exact Ajo
theorem V6 {b:Nat} {w:World} {u0 u1 u2 u3 u4 u5 u6 u7:Value} (X:DBox b [u0,u1,u2,u3,u4,u5,u6,u7] w) {v0 v1 v2 v3 v4 v5:Value} {rest:List Value} :
  (results Tryz.f246 (v0 :: v1 :: v2 :: v3 :: v4 :: v5 :: .pointer (Ac ⟨b,0,Ab⟩) :: rest).toArray).run Am w = .ok (.agg #[u0,u1,u2,u3,u4,u5,u6,u7]) w:=by
 have c0:=X.cell 0 _ rfl;have c1:=X.cell 1 _ rfl;have c2:=X.cell 2 _ rfl;have c3:=X.cell 3 _ rfl;have c4:=X.cell 4 _ rfl;have c5:=X.cell 5 _ rfl;have c6:=X.cell 6 _ rfl;have c7:=X.cell 7 _ rfl;simp [results,results246,go_sem,c0,c1,c2,c3,c4,c5,c6,c7]
theorem Rb {l:List Task} {t:Nat} (h:t<l.length) (f:Task->Task):Hy l t f=l.set t (f l[t]):=by
 unfold Hy;exact Alo
theorem Tw (r:Run) (s:Sl×Sl) (t:Nat) (now:Int) (w:World) (hl:Co r<=2000000) (ht:t<r.tasks.length) (hq:-1000000<=r.tasks[t].try_/\r.tasks[t].try_<=2000000000) (gT:0<=now/\now<=2000000000) (hwait:0<=r.plan.wait/\r.plan.wait<=2000000000) (h:Cf.rd w w r s) :
  Calls Am 246 #[G7 r s,J U t,J U now] w (Dv Cf G7 (Eo r t now) w):=by
 have CP:=Br (fun W (hW:Below w w W)=>Iq r s W hl (Cf.rd_more (Cf.rd_below h hW) hW.size));obtain ⟨⟨A1,n1,c1⟩,⟨A2,n2,c2⟩⟩:=s;obtain rfl:n2=r.tasks.length:=RdL.at1 (s:=⟨A2,n2,c2⟩) h.2;clear h hl;have kF:(t:Int)<(r.tasks.length:Int):=Bl;have gW:(0:Int)<=(t:Int):=Bl;have X:=(DBox.new 67 [J U r.id,J U r.plan.prio,J U r.plan.most,J U r.plan.wait,J U r.plan.tasks,Aa A1 n1 c1,J U r.state,Aa A2 r.tasks.length c2] w (b:=w) rfl).below ((Bs _ _).alloc (Bt _) (.cells #[J U 0,J U 0,J U 0,J U 0,J U 0,Aa Ab 0 0,J U 0,Aa Ab 0 0] 67));have RES:=DBox.new 67 [J U 0,J U 0,J U 0,J U 0,J U 0,Aa Ab 0 0,J U 0,Aa Ab 0 0] (w.alloc (.cells #[J U r.id,J U r.plan.prio,J U r.plan.most,J U r.plan.wait,J U r.plan.tasks,Aa A1 n1 c1,J U r.state,Aa A2 r.tasks.length c2] 67)) (b:=w+1) Bo;have B0:Below w w ((w.alloc (.cells #[J U r.id,J U r.plan.prio,J U r.plan.most,J U r.plan.wait,J U r.plan.tasks,Aa A1 n1 c1,J U r.state,Aa A2 r.tasks.length c2] 67)).alloc (.cells #[J U 0,J U 0,J U 0,J U 0,J U 0,Aa Ab 0 0,J U 0,Aa Ab 0 0] 67)):=by repeat (first | exact Bs _ _ | refine Ae ?_ Bp _)
 go_enter func246,ntmps246;go_wp2_with fail
 refine (CP.out _ B0).mono ?_;rintro e w1 ⟨⟨⟨A3,n3,c3⟩,⟨A4,n4,c4⟩⟩,F,rfl,o1,nF,b1⟩;obtain ⟨F1,F2,rfl,bP,op,ot⟩:=o1;replace ot:OwL C8 w1 F2 (Aa A4 n4 c4) r.tasks:=ot;obtain rfl:n4=r.tasks.length:=RdL.at1 (s:=⟨A4,n4,c4⟩) ot.rd;have oh:=N1 ot;clear ot CP;obtain ⟨b,o,rfl,aJ,d0,d1,d2,d3⟩:=oh.rd.tsk ht;have hBw:=B0.size;have aK:=oh.block Bl;obtain ⟨rfl,bV,qE⟩:=aK;have gU:=nF b Bo;have mU:=X.lt;have eC:=RES.lt;replace B0:=Bv B0 b1;replace X:=X.below b1;replace RES:=RES.below b1;clear b1
 -- the copy's own variable
 go_upto_region 2 with fail
 have OB:=DBox.new 67 [J U r.id,J U r.plan.prio,J U r.plan.most,J U r.plan.wait,J U r.plan.tasks,Aa A3 n3 c3,J U r.state,Aa (Ac ⟨b,o,Ab⟩) r.tasks.length c4] w1 (b:=w1) rfl;have b2:Below w1 w1 (w1.alloc (.cells #[J U r.id,J U r.plan.prio,J U r.plan.most,J U r.plan.wait,J U r.plan.tasks,Aa A3 n3 c3,J U r.state,Aa (Ac ⟨b,o,Ab⟩) r.tasks.length c4] 67)):=Bu;have B2:=Bv B0 b2;replace X:=X.below b2;replace RES:=RES.below b2;replace oh:=oh.below b2;have op2:=Ce.ow_below op b2;have eB:=b2.size;have ow1:=OB.lt;clear op d0 d1 d2 d3;generalize w1.alloc (.cells #[J U r.id,J U r.plan.prio,J U r.plan.most,J U r.plan.wait,J U r.plan.tasks,Aa A3 n3 c3,J U r.state,Aa (Ac ⟨b,o,Ab⟩) r.tasks.length c4] 67)=w2 at *
 have X_:=X.g8;have OB_:=OB.g8;obtain ⟨b',o',bU,bF,d0,d1,d2,d3⟩:=oh.rd.tsk ht;simp only [Option.some.injEq,Addr.mk.injEq,and_true] at bU;obtain ⟨rfl,rfl⟩:=bU;go_upto_region 6 with fail
 have XB:=DBox.new 203 [J U 3,J U r.tasks[t].need,J U (r.tasks[t].try_+1),J U (now+r.plan.wait)] w2 (b:=w2) rfl;have b3:Below w2 w2 (w2.alloc (.cells #[J U 3,J U r.tasks[t].need,J U (r.tasks[t].try_+1),J U (now+r.plan.wait)] 203)):=Bu;have B3:=Bv B2 b3;clear X_;clear OB_;clear d0 d1 d2 d3 bF;replace OB:=OB.below b3;replace RES:=RES.below b3;replace oh:=oh.below b3;have op3:=Ce.ow_below op2 b3;have kT:=b3.size;have ow2:=XB.lt;clear op2 X;generalize w2.alloc (.cells #[J U 3,J U r.tasks[t].need,J U (r.tasks[t].try_+1),J U (now+r.plan.wait)] 203)=w3 at *
 have OB_:=OB.g8;have XB_:=XB.g4;obtain ⟨b',o',bU,bF,d0,d1,d2,d3⟩:=oh.rd.tsk ht;simp only [Option.some.injEq,Addr.mk.injEq,and_true] at bU;obtain ⟨rfl,rfl⟩:=bU;have jV:=(oh.block Bl).2.2;go_upto_region 7 with fail
 have fG:b∉F1:=fun hx=>(Ax.1 bP).2.2 b hx b Bo rfl;have oh4:Hw Ge ((((w3.setCell ⟨b,o+t * 4,Ab⟩ (J U 3)).setCell ⟨b,o+t * 4+1,Ab⟩ (J U r.tasks[t].need)).setCell ⟨b,o+t * 4+2,Ab⟩ (J U (r.tasks[t].try_+1))).setCell ⟨b,o+t * 4+3,Ab⟩ (J U (now+r.plan.wait))) [b] (Aa (Ac ⟨b,o,Ab⟩) r.tasks.length c4) _:=oh.task4 ht ⟨3,r.tasks[t].need,r.tasks[t].try_+1,now+r.plan.wait⟩;have hC:Chg [b] w3 ((((w3.setCell ⟨b,o+t * 4,Ab⟩ (J U 3)).setCell ⟨b,o+t * 4+1,Ab⟩ (J U r.tasks[t].need)).setCell ⟨b,o+t * 4+2,Ab⟩ (J U (r.tasks[t].try_+1))).setCell ⟨b,o+t * 4+3,Ab⟩ (J U (now+r.plan.wait))):=(((Chg.setCell w3 b _ _).trans (Chg.setCell _ b _ _)).trans (Chg.setCell _ b _ _)).trans (Chg.setCell _ b _ _);have op4:=Ce.ow_chg op3 hC (fun x hx h=>by simp only [Au] at h;subst h;exact fG hx);have B4:Below w w ((((w3.setCell ⟨b,o+t * 4,Ab⟩ (J U 3)).setCell ⟨b,o+t * 4+1,Ab⟩ (J U r.tasks[t].need)).setCell ⟨b,o+t * 4+2,Ab⟩ (J U (r.tasks[t].try_+1))).setCell ⟨b,o+t * 4+3,Ab⟩ (J U (now+r.plan.wait))):=by
  have hbw2:w<=b:=Bl;exact Ajq
 clear OB_;clear XB_;clear d0 d1 d2 d3 bF jV XB;replace OB:=OB.chg hC (by simp only [Au];omega);replace RES:=RES.chg hC (by simp only [Au];omega);have pV:=hC.size;clear hC oh op3;generalize ((((w3.setCell ⟨b,o+t * 4,Ab⟩ (J U 3)).setCell ⟨b,o+t * 4+1,Ab⟩ (J U r.tasks[t].need)).setCell ⟨b,o+t * 4+2,Ab⟩ (J U (r.tasks[t].try_+1))).setCell ⟨b,o+t * 4+3,Ab⟩ (J U (now+r.plan.wait)))=w4 at *
 have OB_:=OB.g8;have RES_:=RES.g8;have rf:=RES.free;go_wp2;refine Aj (V6 (DBox.row8 RES rfl _ _ _ _ _ _ _ _)) rfl ⟨(⟨A3,n3,c3⟩,⟨Ac ⟨b,o,Ab⟩,r.tasks.length,c4⟩),F1 ++ [b],rfl,⟨F1,[b],rfl,bP,?_,?_⟩,?_,?_⟩
 ·have e2:w.heap.size+1∉F1:=fun hx=>by have:=nF _ (Bf _ hx);omega
  show Ce.ow _ F1 r.plan _;exact (by (repeat (refine Dt.ow_set Ce ?_ e2 _));exact op4)
 ·have e1:w.heap.size+1∉[b]:=by simp only [Au];omega
  show OwL C8 _ [b] _ (Hy r.tasks t fun x=>⟨3,x.need,x.try_+1,now+r.plan.wait⟩);rw [Rb ht];exact Hb ((((((((oh4.set (a:=⟨w+1,_,Ab⟩) e1 _).set (a:=⟨w+1,_,Ab⟩) e1 _).set (a:=⟨w+1,_,Ab⟩) e1 _).set (a:=⟨w+1,_,Ab⟩) e1 _).set (a:=⟨w+1,_,Ab⟩) e1 _).set (a:=⟨w+1,_,Ab⟩) e1 _).set (a:=⟨w+1,_,Ab⟩) e1 _).set (a:=⟨w+1,_,Ab⟩) e1 _)
 ·exact Al4
 ·repeat (first | (with_reducible exact B4) | refine Ad ?_ Bp _)
def I4 (r:Run) (t:Int):Prop:=Hn r/\(0<=t/\t<r.tasks.length)/\(Cv r t.toNat).state=3
theorem Re (r:Run) (s:Sl×Sl) (t:Int) (w:World) (hl:Co r<=2000000) (h:Cf.rd w w r s) :
  Calls Am 293 #[G7 r s,J U t] w fun e w'=>e = .returned (.bool (tf (I4 r t)))/\Below w w w':=by
 have CR:=Br (fun W (hW:Below w w W)=>Mx r s W hl (Cf.rd_more (Cf.rd_below h hW) hW.size));have h2:=Br (fun W (hW:Below w w W)=>(Ub h.2).below hW);have aE:r.tasks.length<=2000000:=Ah (Ck D7 _) (by unfold Co at hl;omega);obtain ⟨⟨A1,n1,c1⟩,⟨A2,n2,c2⟩⟩:=s;obtain rfl:n2=r.tasks.length:=RdL.at1 (s:=⟨A2,n2,c2⟩) h.2;clear h hl;have X:=DBox.new 67 [J U r.id,J U r.plan.prio,J U r.plan.most,J U r.plan.wait,J U r.plan.tasks,Aa A1 n1 c1,J U r.state,Aa A2 r.tasks.length c2] w (b:=w) rfl;have B0:Below w w (w.alloc (.cells #[J U r.id,J U r.plan.prio,J U r.plan.most,J U r.plan.wait,J U r.plan.tasks,Aa A1 n1 c1,J U r.state,Aa A2 r.tasks.length c2] 67)):=by repeat (first | exact Bs _ _ | refine Ae ?_ Bp _)
 cases p0:tf (Hn r);case false =>
  have H:=Br (show tf (I4 r t)=false from Cg (fun hh=>by rw [Di hh.1] at p0;cases p0));go_enter func293,ntmps293;go_wp2_with (go_at_call 234;refine (CR.out _ B0).mono ?_;rintro e w1 ⟨rfl,b1⟩;rw [p0])
  go_ret;exact ⟨Bx H.out.symm,Bv B0 b1⟩
 cases p1:inB t 0 ((r.tasks.length:Int) - 1);case false =>
  have H:=Br (show tf (I4 r t)=false from Cg (fun hh=>by have:=hh.2.1;simp [inB] at p1;omega));go_enter func293,ntmps293;go_wp2_with fail
  refine (CR.out _ B0).mono ?_;rintro e w1 ⟨rfl,b1⟩;rw [p0];replace X:=X.below b1;have X_:=X.g8;go_wp2_with (go_at_call 90;refine (Cd _ _ _ _).mono ?_;rintro e w9 ⟨rfl,rfl⟩;rw [p1])
  go_ret;exact ⟨Bx H.out.symm,Bv B0 b1⟩
 have p2:=Ct.1 p1;obtain ⟨u,rfl⟩:=Ap p2.1;have hu:u<r.tasks.length:=Bl;have huI:((u:Nat):Int)<(r.tasks.length:Int):=Bl;have hu0:(0:Int)<=((u:Nat):Int):=Bl;obtain ⟨b,o,rfl,aJ,-⟩:=(h2.out w (Bs _ _)).tsk hu;have H:=Br (show tf (I4 r (u:Int))=(r.tasks[u].state == 3) by
  by_cases h3:r.tasks[u].state=3
  ·rw [Di (show I4 r (u:Int) from ⟨Mv.1 p0,⟨Bl,Bl⟩,by rw [Ao,Cu hu];exact h3⟩)];simp [h3]
  ·rw [Cg (fun hh=>h3 (by have:=hh.2.2;rw [Ao,Cu hu] at this;exact this))];simp [h3])
 clear p2;go_enter func293,ntmps293;go_wp2_with fail
 refine (CR.out _ B0).mono ?_;rintro e w1 ⟨rfl,b1⟩;rw [p0];replace X:=X.below b1;have X_:=X.g8;have B1:=Bv B0 b1;obtain ⟨b',o',bU,-,d0,-,-,-⟩:=(h2.out w1 B1).tsk hu;simp only [Option.some.injEq,Addr.mk.injEq,and_true] at bU;obtain ⟨rfl,rfl⟩:=bU;go_wp2_with (go_at_call 90;refine (Cd _ _ _ _).mono ?_;rintro e w9 ⟨rfl,rfl⟩;rw [p1])
 go_ret;exact ⟨Bx H.out.symm,B1⟩
theorem Rf {b:Nat} {w:World} {u0 u1 u2 u3 u4 u5 u6 u7:Value} (X:DBox b [u0,u1,u2,u3,u4,u5,u6,u7] w) {v0 v1 v2 v3:Value} {rest:List Value} :
  (results Tryz.f250 (v0 :: v1 :: v2 :: v3 :: .pointer (Ac ⟨b,0,Ab⟩) :: rest).toArray).run Am w = .ok (.agg #[u0,u1,u2,u3,u4,u5,u6,u7]) w:=by
 have c0:=X.cell 0 _ rfl;have c1:=X.cell 1 _ rfl;have c2:=X.cell 2 _ rfl;have c3:=X.cell 3 _ rfl;have c4:=X.cell 4 _ rfl;have c5:=X.cell 5 _ rfl;have c6:=X.cell 6 _ rfl;have c7:=X.cell 7 _ rfl;simp [results,results250,go_sem,c0,c1,c2,c3,c4,c5,c6,c7]
theorem Hw.taskSt' {w:World} {F:List Nat} {b o n c:Nat} {l:List Task} {j:Nat} {y:Task} (h:Hw Ge w F (Aa (Ac ⟨b,o,Ab⟩) n c) (l.set j y)) (hj:j<l.length) (st:Int) :
  Hw Ge (w.setCell ⟨b,o+j * 4,Ab⟩ (J U st)) F (Aa (Ac ⟨b,o,Ab⟩) n c) (l.set j ⟨st,y.need,y.try_,y.until_⟩):=by
 have:=h.taskState (j:=j) (by rw [Bh];exact hj) st
 rw [List.getElem_set_self,List.set_set] at this;exact this
theorem My (r:Run) (s:Sl×Sl) (u:Nat) (w:World) (hl:Co r<=2000000) (hR:I4 r u) (h:Cf.rd w w r s) :
  Calls Am 250 #[G7 r s,J U u] w (Dv Cf G7 (Dp r u) w):=by
 have CP:=Br (fun W (hW:Below w w W)=>Iq r s W hl (Cf.rd_more (Cf.rd_below h hW) hW.size));have CR:=Br (fun W (hW:Below w w W)=>Re r s u W hl (Cf.rd_more (Cf.rd_below h hW) hW.size));rw [Di hR] at CR;have ht:u<r.tasks.length:=by have:=hR.2.1.2;omega
 have aE:r.tasks.length<=2000000:=Ah (Ck D7 _) (by unfold Co at hl;omega);have dE:=Br (Cu ht);obtain ⟨⟨A1,n1,c1⟩,⟨A2,n2,c2⟩⟩:=s;obtain rfl:n2=r.tasks.length:=RdL.at1 (s:=⟨A2,n2,c2⟩) h.2;clear h hl hR;have kF:(u:Int)<(r.tasks.length:Int):=Bl;have gW:(0:Int)<=(u:Int):=Bl;have X:=(DBox.new 67 [J U r.id,J U r.plan.prio,J U r.plan.most,J U r.plan.wait,J U r.plan.tasks,Aa A1 n1 c1,J U r.state,Aa A2 r.tasks.length c2] w (b:=w) rfl).below ((Bs _ _).alloc (Bt _) (.cells #[J U 0,J U 0,J U 0,J U 0,J U 0,Aa Ab 0 0,J U 0,Aa Ab 0 0] 67));have RES:=DBox.new 67 [J U 0,J U 0,J U 0,J U 0,J U 0,Aa Ab 0 0,J U 0,Aa Ab 0 0] (w.alloc (.cells #[J U r.id,J U r.plan.prio,J U r.plan.most,J U r.plan.wait,J U r.plan.tasks,Aa A1 n1 c1,J U r.state,Aa A2 r.tasks.length c2] 67)) (b:=w+1) Bo;have B0:Below w w ((w.alloc (.cells #[J U r.id,J U r.plan.prio,J U r.plan.most,J U r.plan.wait,J U r.plan.tasks,Aa A1 n1 c1,J U r.state,Aa A2 r.tasks.length c2] 67)).alloc (.cells #[J U 0,J U 0,J U 0,J U 0,J U 0,Aa Ab 0 0,J U 0,Aa Ab 0 0] 67)):=by repeat (first | exact Bs _ _ | refine Ae ?_ Bp _)
 go_enter func250,ntmps250;go_wp2_with fail
 refine (CP.out _ B0).mono ?_;rintro e w1 ⟨⟨⟨A3,n3,c3⟩,⟨A4,n4,c4⟩⟩,F,rfl,o1,nF,b1⟩;obtain ⟨F1,F2,rfl,bP,op,ot⟩:=o1;replace ot:OwL C8 w1 F2 (Aa A4 n4 c4) r.tasks:=ot;obtain rfl:n4=r.tasks.length:=RdL.at1 (s:=⟨A4,n4,c4⟩) ot.rd;have oh:=N1 ot;clear ot CP;obtain ⟨b,o,rfl,aJ,d0,d1,d2,d3⟩:=oh.rd.tsk ht;clear d0 d1 d2 d3;have hBw:=B0.size;obtain ⟨rfl,bV,qE⟩:=oh.block Bl;have gU:=nF b Bo;have mU:=X.lt;have eC:=RES.lt;replace B0:=Bv B0 b1;replace X:=X.below b1;replace RES:=RES.below b1;clear b1;go_upto_region 2 with fail
 have OB:=DBox.new 67 [J U r.id,J U r.plan.prio,J U r.plan.most,J U r.plan.wait,J U r.plan.tasks,Aa A3 n3 c3,J U r.state,Aa (Ac ⟨b,o,Ab⟩) r.tasks.length c4] w1 (b:=w1) rfl;have b2:Below w1 w1 (w1.alloc (.cells #[J U r.id,J U r.plan.prio,J U r.plan.most,J U r.plan.wait,J U r.plan.tasks,Aa A3 n3 c3,J U r.state,Aa (Ac ⟨b,o,Ab⟩) r.tasks.length c4] 67)):=Bu;have B2:=Bv B0 b2;replace X:=X.below b2;replace RES:=RES.below b2;replace oh:=oh.below b2;have op2:=Ce.ow_below op b2;have eB:=b2.size;have ow1:=OB.lt;clear op;generalize w1.alloc (.cells #[J U r.id,J U r.plan.prio,J U r.plan.most,J U r.plan.wait,J U r.plan.tasks,Aa A3 n3 c3,J U r.state,Aa (Ac ⟨b,o,Ab⟩) r.tasks.length c4] 67)=w2 at *
 have X_:=X.g8;go_wp2_with fail
 refine (CR.out _ B2).mono ?_;rintro e w3 ⟨rfl,b3⟩;have B3:=Bv B2 b3;clear X_;replace X:=X.below b3;replace RES:=RES.below b3;replace OB:=OB.below b3;replace oh:=oh.below b3;have op3:=Ce.ow_below op2 b3;have kT:=b3.size;clear op2 CR b3;have X_:=X.g8;have OB_:=OB.g8;obtain ⟨b',o',bU,bF,d0,d1,d2,d3⟩:=oh.rd.tsk ht;simp only [Option.some.injEq,Addr.mk.injEq,and_true] at bU;obtain ⟨rfl,rfl⟩:=bU;have jV:=(oh.block Bl).2.2;have fG:b∉F1:=fun hx=>(Ax.1 bP).2.2 b hx b Bo rfl;go_upto_region 6 with fail
 have oh4:Hw Ge ((w3.setCell ⟨b,o+u * 4+3,Ab⟩ (J U 0)).setCell ⟨b,o+u * 4,Ab⟩ (J U 2)) [b] (Aa (Ac ⟨b,o,Ab⟩) r.tasks.length c4) (r.tasks.set u ⟨2,r.tasks[u].need,r.tasks[u].try_,0⟩):=(oh.taskUntil ht 0).taskSt' ht 2;have hC:Chg [b] w3 ((w3.setCell ⟨b,o+u * 4+3,Ab⟩ (J U 0)).setCell ⟨b,o+u * 4,Ab⟩ (J U 2)):=(Chg.setCell w3 b _ _).trans (Chg.setCell _ b _ _);have op4:=Ce.ow_chg op3 hC (fun x hx h=>by simp only [Au] at h;subst h;exact fG hx);have B4:Below w w ((w3.setCell ⟨b,o+u * 4+3,Ab⟩ (J U 0)).setCell ⟨b,o+u * 4,Ab⟩ (J U 2)):=Ajq
 clear OB_;clear X_;clear d0 d1 d2 d3 bF jV;replace OB:=OB.chg hC (by simp only [Au];omega);replace X:=X.chg hC (by simp only [Au];omega);replace RES:=RES.chg hC (by simp only [Au];omega);have pV:=hC.size;clear hC oh op3;generalize ((w3.setCell ⟨b,o+u * 4+3,Ab⟩ (J U 0)).setCell ⟨b,o+u * 4,Ab⟩ (J U 2))=w4 at *
 have OB_:=OB.g8;have RES_:=RES.g8;have X_:=X.g8;have rf:=RES.free;have vC:u<(r.tasks.set u ⟨2,r.tasks[u].need,r.tasks[u].try_,0⟩).length:=by rw [Bh];exact ht
 obtain ⟨b',o',bU,bF,d0,d1,d2,d3⟩:=oh4.rd.tsk vC;simp only [Option.some.injEq,Addr.mk.injEq,and_true] at bU;obtain ⟨rfl,rfl⟩:=bU;rw [List.getElem_set_self] at d0 d1 d2 d3;have jV:=(oh4.block Bl).2.2;by_cases q:r.tasks[u].try_<r.plan.most
 ·have H:=Br (show Dp r u=⟨r.id,r.plan,r.state,r.tasks.set u ⟨2,r.tasks[u].need,r.tasks[u].try_,0⟩⟩ by unfold Dp;rw [if_pos (by rw [dE.out];exact q),Rb ht]);have aM:=Cw w4;have cX:b<w4:=Bl;refine Bz Bm Bm ?_;repeat (go_big_quiet_step (fail))
  refine wpQuiet_nil ?_;rintro w5 ⟨⟨_,b5⟩,rfl⟩;clear aM d0 d1 d2 d3 bF jV;clear OB_;clear RES_;clear X_;replace OB:=OB.below b5;replace RES:=RES.below b5;clear X;have oh5:=oh4.below b5;have op5:=Ce.ow_below op4 b5;have B5:=Bv B4 b5;have qD:=b5.size;clear rf;have OB_:=OB.g8;have RES_:=RES.g8;have rf:=RES.free;go_wp2;refine Aj (Rf (DBox.row8 RES rfl _ _ _ _ _ _ _ _)) rfl ⟨(⟨A3,n3,c3⟩,⟨Ac ⟨b,o,Ab⟩,r.tasks.length,c4⟩),F1 ++ [b],by rw [H.out],⟨F1,[b],rfl,bP,?_,?_⟩,?_,?_⟩
  ·have e2:w.heap.size+1∉F1:=fun hx=>by have:=nF _ (Bf _ hx);omega
   rw [H.out];show Ce.ow _ F1 r.plan _;exact (by (repeat (refine Dt.ow_set Ce ?_ e2 _));exact op5)
  ·have e1:w.heap.size+1∉[b]:=by simp only [Au];omega
   rw [H.out];show OwL C8 _ [b] _ (r.tasks.set u ⟨2,r.tasks[u].need,r.tasks[u].try_,0⟩);exact Hb ((((((((oh5.set (a:=⟨w+1,_,Ab⟩) e1 _).set (a:=⟨w+1,_,Ab⟩) e1 _).set (a:=⟨w+1,_,Ab⟩) e1 _).set (a:=⟨w+1,_,Ab⟩) e1 _).set (a:=⟨w+1,_,Ab⟩) e1 _).set (a:=⟨w+1,_,Ab⟩) e1 _).set (a:=⟨w+1,_,Ab⟩) e1 _).set (a:=⟨w+1,_,Ab⟩) e1 _)
  ·exact Al4
  ·repeat (first | (with_reducible exact B5) | refine Ad ?_ Bp _)
 ·have H:=Br (show Dp r u=D6 ⟨r.id,r.plan,r.state,r.tasks.set u ⟨5,r.tasks[u].need,r.tasks[u].try_,0⟩⟩ 3 by unfold Dp;rw [if_neg (by rw [dE.out];exact q),Rb ht]);have aM:=Cw w4;have cX:b<w4:=Bl;refine Bz Bm Bm ?_;repeat (go_big_quiet_step (fail))
  refine wpQuiet_nil ?_;rintro w5 ⟨⟨_,b5⟩,rfl⟩;clear aM d0 d1 d2 d3 bF jV;clear OB_;clear RES_;clear X_;replace OB:=OB.below b5;replace RES:=RES.below b5;clear X;have oh5:=oh4.below b5;have op5:=Ce.ow_below op4 b5;have B5:=Bv B4 b5;have qD:=b5.size;clear rf;have OB_:=OB.g8;obtain ⟨b',o',bU,bF,d0,d1,d2,d3⟩:=oh5.rd.tsk vC;simp only [Option.some.injEq,Addr.mk.injEq,and_true] at bU;obtain ⟨rfl,rfl⟩:=bU;have jV:=(oh5.block Bl).2.2;go_upto_region 9 with fail
  have oh6:=oh5.taskSt' ht 5;have hC:=Chg.setCell w5 b (o+u * 4) (J U 5);have op6:=Ce.ow_chg op5 hC (fun x hx h=>by simp only [Au] at h;subst h;exact fG hx);have B6:Below w w (w5.setCell ⟨b,o+u * 4,Ab⟩ (J U 5)):=by
   repeat (first | (with_reducible exact B5) | refine Ad ?_ Bp _)
  clear OB_;clear d0 d1 d2 d3 bF jV;replace OB:=OB.chg hC (by simp only [Au];omega);replace RES:=RES.chg hC (by simp only [Au];omega);have qL:=hC.size;generalize w5.setCell ⟨b,o+u * 4,Ab⟩ (J U 5)=w6 at *
  have OB_:=OB.g8;have hlen6:=Br (show (r.tasks.set u ⟨5,r.tasks[u].need,r.tasks[u].try_,0⟩).length=r.tasks.length from Bh);have CL:=Br (Qa ⟨r.id,r.plan,r.state,r.tasks.set u ⟨5,r.tasks[u].need,r.tasks[u].try_,0⟩⟩ ⟨A3,n3,c3⟩ 3 b o c4 [b] w6 (by show (r.tasks.set u _).length<=2000000;rw [Bh];omega) (by show 0<(r.tasks.set u _).length;rw [Bh];omega) (by show Hw Ge w6 [b] (Aa _ (r.tasks.set u _).length c4) _;rw [Bh];exact oh6));unfold Sa at CL;dsimp only at CL;rw [hlen6.out] at CL;go_wp2_with fail
  refine CL.out.mono ?_;rintro e w7 ⟨rfl,oh7,c7⟩;have op7:=Ce.ow_chg op6 c7 (fun x hx h=>by simp only [Au] at h;subst h;exact fG hx);have B7:Below w w w7:=B6.trans (c7.below Bl (fun x hx=>by simp only [Au] at hx;omega));clear OB_;replace RES:=RES.chg c7 (by simp only [Au];omega);have RES_:=RES.g8;have rf:=RES.free;go_wp2;refine Aj (Rf (DBox.row8 RES rfl _ _ _ _ _ _ _ _)) rfl ⟨(⟨A3,n3,c3⟩,⟨Ac ⟨b,o,Ab⟩,r.tasks.length,c4⟩),F1 ++ [b],by rw [H.out],⟨F1,[b],rfl,bP,?_,?_⟩,?_,?_⟩
  ·have e2:w.heap.size+1∉F1:=fun hx=>by have:=nF _ (Bf _ hx);omega
   rw [H.out];show Ce.ow _ F1 r.plan _;exact (by (repeat (refine Dt.ow_set Ce ?_ e2 _));exact op7)
  ·have e1:w.heap.size+1∉[b]:=by simp only [Au];omega
   rw [H.out];show OwL C8 _ [b] _ ((D6 ⟨r.id,r.plan,r.state,r.tasks.set u ⟨5,r.tasks[u].need,r.tasks[u].try_,0⟩⟩ 3).tasks);exact Hb ((((((((oh7.set (a:=⟨w+1,_,Ab⟩) e1 _).set (a:=⟨w+1,_,Ab⟩) e1 _).set (a:=⟨w+1,_,Ab⟩) e1 _).set (a:=⟨w+1,_,Ab⟩) e1 _).set (a:=⟨w+1,_,Ab⟩) e1 _).set (a:=⟨w+1,_,Ab⟩) e1 _).set (a:=⟨w+1,_,Ab⟩) e1 _).set (a:=⟨w+1,_,Ab⟩) e1 _)
  ·exact Al4
  ·repeat (first | (with_reducible exact B7) | refine Ad ?_ Bp _)
theorem Acb {b:Nat} {w:World} {u0 u1 u2 u3 u4 u5 u6 u7:Value} (X:DBox b [u0,u1,u2,u3,u4,u5,u6,u7] w) {v0 v1:Value} {rest:List Value} :
  (results Tryz.f252 (v0 :: v1 :: .pointer (Ac ⟨b,0,Ab⟩) :: rest).toArray).run Am w = .ok (.agg #[u0,u1,u2,u3,u4,u5,u6,u7]) w:=by
 have c0:=X.cell 0 _ rfl;have c1:=X.cell 1 _ rfl;have c2:=X.cell 2 _ rfl;have c3:=X.cell 3 _ rfl;have c4:=X.cell 4 _ rfl;have c5:=X.cell 5 _ rfl;have c6:=X.cell 6 _ rfl;have c7:=X.cell 7 _ rfl;simp [results,results252,go_sem,c0,c1,c2,c3,c4,c5,c6,c7]
theorem Zy (r:Run) (s:Sl×Sl) (w:World) (hl:Co r<=2000000) (hR:Hn r) (hS:r.state=1) (hp:0<r.tasks.length) (h:Cf.rd w w r s) :
  Calls Am 252 #[G7 r s] w (Dv Cf G7 (D6 r 4) w):=by
 have CP:=Br (fun W (hW:Below w w W)=>Iq r s W hl (Cf.rd_more (Cf.rd_below h hW) hW.size));have CR:=Br (fun W (hW:Below w w W)=>Mx r s W hl (Cf.rd_more (Cf.rd_below h hW) hW.size));rw [Di hR] at CR;have aE:r.tasks.length<=2000000:=Ah (Ck D7 _) (by unfold Co at hl;omega);obtain ⟨⟨A1,n1,c1⟩,⟨A2,n2,c2⟩⟩:=s;obtain rfl:n2=r.tasks.length:=RdL.at1 (s:=⟨A2,n2,c2⟩) h.2;clear h hl hR;have bE:(r.state != 1)=false:=by simp [hS]
 clear hS;have X:=(DBox.new 67 [J U r.id,J U r.plan.prio,J U r.plan.most,J U r.plan.wait,J U r.plan.tasks,Aa A1 n1 c1,J U r.state,Aa A2 r.tasks.length c2] w (b:=w) rfl).below ((Bs _ _).alloc (Bt _) (.cells #[J U 0,J U 0,J U 0,J U 0,J U 0,Aa Ab 0 0,J U 0,Aa Ab 0 0] 67));have RES:=DBox.new 67 [J U 0,J U 0,J U 0,J U 0,J U 0,Aa Ab 0 0,J U 0,Aa Ab 0 0] (w.alloc (.cells #[J U r.id,J U r.plan.prio,J U r.plan.most,J U r.plan.wait,J U r.plan.tasks,Aa A1 n1 c1,J U r.state,Aa A2 r.tasks.length c2] 67)) (b:=w+1) Bo;have B0:Below w w ((w.alloc (.cells #[J U r.id,J U r.plan.prio,J U r.plan.most,J U r.plan.wait,J U r.plan.tasks,Aa A1 n1 c1,J U r.state,Aa A2 r.tasks.length c2] 67)).alloc (.cells #[J U 0,J U 0,J U 0,J U 0,J U 0,Aa Ab 0 0,J U 0,Aa Ab 0 0] 67)):=by repeat (first | exact Bs _ _ | refine Ae ?_ Bp _)
 go_enter func252,ntmps252;go_wp2_with fail
 refine (CP.out _ B0).mono ?_;rintro e w1 ⟨⟨⟨A3,n3,c3⟩,⟨A4,n4,c4⟩⟩,F,rfl,o1,nF,b1⟩;obtain ⟨F1,F2,rfl,bP,op,ot⟩:=o1;replace ot:OwL C8 w1 F2 (Aa A4 n4 c4) r.tasks:=ot;obtain rfl:n4=r.tasks.length:=RdL.at1 (s:=⟨A4,n4,c4⟩) ot.rd;have oh:=N1 ot;clear ot CP;obtain ⟨b,o,rfl,aJ,d0,d1,d2,d3⟩:=oh.rd.tsk hp;clear d0 d1 d2 d3;have hBw:=B0.size;obtain ⟨rfl,bV,qE⟩:=oh.block hp;have gU:=nF b Bo;have mU:=X.lt;have eC:=RES.lt;replace B0:=Bv B0 b1;replace X:=X.below b1;replace RES:=RES.below b1;clear b1;go_upto_region 2 with fail
 have OB:=DBox.new 67 [J U r.id,J U r.plan.prio,J U r.plan.most,J U r.plan.wait,J U r.plan.tasks,Aa A3 n3 c3,J U r.state,Aa (Ac ⟨b,o,Ab⟩) r.tasks.length c4] w1 (b:=w1) rfl;have b2:Below w1 w1 (w1.alloc (.cells #[J U r.id,J U r.plan.prio,J U r.plan.most,J U r.plan.wait,J U r.plan.tasks,Aa A3 n3 c3,J U r.state,Aa (Ac ⟨b,o,Ab⟩) r.tasks.length c4] 67)):=Bu;have B2:=Bv B0 b2;replace X:=X.below b2;replace RES:=RES.below b2;replace oh:=oh.below b2;have op2:=Ce.ow_below op b2;have eB:=b2.size;have ow1:=OB.lt;clear op;generalize w1.alloc (.cells #[J U r.id,J U r.plan.prio,J U r.plan.most,J U r.plan.wait,J U r.plan.tasks,Aa A3 n3 c3,J U r.state,Aa (Ac ⟨b,o,Ab⟩) r.tasks.length c4] 67)=w2 at *
 have X_:=X.g8;go_wp2_with fail
 refine (CR.out _ B2).mono ?_;rintro e w3 ⟨rfl,b3⟩;have B3:=Bv B2 b3;clear X_;replace X:=X.below b3;replace RES:=RES.below b3;replace OB:=OB.below b3;replace oh:=oh.below b3;have op3:=Ce.ow_below op2 b3;have kT:=b3.size;clear op2 CR b3;have X_:=X.g8;have OB_:=OB.g8;have fG:b∉F1:=fun hx=>(Ax.1 bP).2.2 b hx b Bo rfl;have CL:=Br (Qa r ⟨A3,n3,c3⟩ 4 b o c4 [b] w3 aE hp oh);unfold Sa at CL;go_wp2_with fail
 refine CL.out.mono ?_;rintro e w7 ⟨rfl,oh7,c7⟩;have op7:=Ce.ow_chg op3 c7 (fun x hx h=>by simp only [Au] at h;subst h;exact fG hx);have B7:Below w w w7:=B3.trans (c7.below Bl (fun x hx=>by simp only [Au] at hx;omega));clear OB_;clear X_;replace RES:=RES.chg c7 (by simp only [Au];omega);have RES_:=RES.g8;have rf:=RES.free;go_wp2;refine Aj (Acb (DBox.row8 RES rfl _ _ _ _ _ _ _ _)) rfl ⟨(⟨A3,n3,c3⟩,⟨Ac ⟨b,o,Ab⟩,r.tasks.length,c4⟩),F1 ++ [b],rfl,⟨F1,[b],rfl,bP,?_,?_⟩,?_,?_⟩
 ·have e2:w.heap.size+1∉F1:=fun hx=>by have:=nF _ (Bf _ hx);omega
  show Ce.ow _ F1 r.plan _;exact (by (repeat (refine Dt.ow_set Ce ?_ e2 _));exact op7)
 ·have e1:w.heap.size+1∉[b]:=by simp only [Au];omega
  show OwL C8 _ [b] _ (D6 r 4).tasks;exact Hb ((((((((oh7.set (a:=⟨w+1,_,Ab⟩) e1 _).set (a:=⟨w+1,_,Ab⟩) e1 _).set (a:=⟨w+1,_,Ab⟩) e1 _).set (a:=⟨w+1,_,Ab⟩) e1 _).set (a:=⟨w+1,_,Ab⟩) e1 _).set (a:=⟨w+1,_,Ab⟩) e1 _).set (a:=⟨w+1,_,Ab⟩) e1 _).set (a:=⟨w+1,_,Ab⟩) e1 _)
 ·exact Al4
 ·repeat (first | (with_reducible exact B7) | refine Ad ?_ Bp _)
section
def Gq (y:Yard) (id task try_:Int):Prop :=
 0<=Dn y id/\(0<=task/\task<(Ko y id).tasks.length)/\(Cv (Ko y id) task.toNat).state=3/\(Cv (Ko y id) task.toNat).try_=try_
theorem Xj (y:Yard) (s:Sl×Sl) (id tk tr:Int) (w:World) (hl:Ca y<=2000000) (h:Bw.rd w w y s) :
  Calls Am 292 #[Ds y s,J U id,J U tk,J U tr] w fun e' w'=>e' = .returned (.bool (tf (Gq y id tk tr)))/\Below w w w':=by
 have HR:=Br (show ∀ W,Below w w W->Bw.rd W W y s from fun W hW=>Bw.rd_more (Bw.rd_below h hW) hW.size);obtain ⟨⟨A1,n1,c1⟩,⟨A2,n2,c2⟩⟩:=s;obtain rfl:n2=y.runs.length:=RdL.at1 (s:=⟨A2,n2,c2⟩) h.2;have h2:RdL Cf w w (Aa A2 y.runs.length c2) y.runs:=h.2;have bS:y.runs.length<=2000000:=Ah (Ck Co _) (by unfold Ca at hl;omega);have X:=DBox.new 31 [J U y.now,J U y.seq,Aa A1 n1 c1,Aa A2 y.runs.length c2] w (b:=w) rfl;have B0:Below w w (w.alloc (.cells #[J U y.now,J U y.seq,Aa A1 n1 c1,Aa A2 y.runs.length c2] 31)):=by repeat (first | exact Bs _ _ | refine Ae ?_ Bp _)
 have C:=Fi y (⟨A1,n1,c1⟩,⟨A2,y.runs.length,c2⟩) id (w.alloc (.cells #[J U y.now,J U y.seq,Aa A1 n1 c1,Aa A2 y.runs.length c2] 31)) hl (HR.out _ B0);clear h;rcases E9 y id with hr | ⟨k,hk,hr⟩
 ·have H:=Br (show tf (Gq y id tk tr)=false from Cg (fun hh=>by have:=hh.1;omega));rw [hr] at C;clear hr;go_enter func292,ntmps292;exact Ake
 ·have uR:=Hf hl hk;have HR2:=Br hr;rw [hr] at C;clear hr;have HK:=Br (Ha hk HR2.out);go_enter func292,ntmps292;go_wp2_with fail
  generalize (w.alloc (.cells #[J U y.now,J U y.seq,Aa A1 n1 c1,Aa A2 y.runs.length c2] 31))=W at *
  refine C.mono ?_;rintro e1 w1 ⟨rfl,b1⟩;replace X:=X.below b1;have X_:=X.g4;replace B0:=Bv B0 b1;obtain ⟨b,o,⟨s1,⟨At,nt,ct⟩⟩,eJ,aJ,cP,c0_,c1_,c2_,c3_,c4_,c5_,c6_,c7_⟩:=(h2.below B0).run hk;subst eJ;obtain rfl:nt=y.runs[k].tasks.length:=RdL.at1 (s:=⟨At,nt,ct⟩) cP.2;have h3:RdL C8 w1 w (Aa At y.runs[k].tasks.length ct) y.runs[k].tasks:=cP.2;have gJ:(k:Int)<(y.runs.length:Int):=Bl;have hk00:(0:Int)<=(k:Int):=Bl;have cE:decide ((0:Int)<=(k:Int))=true:=decide_eq_true Bl;have bE:b<w1:=Ai aJ B0.size;have wr1:U.wrap ((y.runs[k].tasks.length:Int) - 1)=(y.runs[k].tasks.length:Int) - 1:=Aq _ Bl;cases q:inB tk 0 ((y.runs[k].tasks.length:Int) - 1)
  ·have H:=Br (show tf (Gq y id tk tr)=false from Cg (fun hh=>by
    have h5:=hh.2.1;rw [HK.out] at h5
    have:=Ct.2 (show 0<=tk/\tk<=(y.runs[k].tasks.length:Int) - 1 by omega)
    rw [q] at this;cases this))
   go_wp2_with (go_at_call 90;refine (Cd _ _ _ _).mono ?_;rintro e w9 ⟨rfl,rfl⟩;rw [q])
   go_ret;exact ⟨Bx H.out.symm,B0⟩
  ·have qq:=Ct.1 q;obtain ⟨t,rfl⟩:=Ap qq.1;have ht:t<y.runs[k].tasks.length:=Bl;obtain ⟨b',o',_,sG,bF,_,d0,d1,d2,d3⟩:=h3.task ht;subst sG;have eB:b'<w1:=Ai bF B0.size;have kF:(t:Int)<(y.runs[k].tasks.length:Int):=Bl;have gW:(0:Int)<=(t:Int):=Bl;have H:=Br (show tf (Gq y id t tr)=((y.runs[k].tasks[t].state == 3) && (y.runs[k].tasks[t].try_ == tr)) by
    rw [Bool.eq_iff_iff,Mv,Bool.and_eq_true,beq_iff_eq,beq_iff_eq];unfold Gq;rw [HK.out,Ao,Cu ht,HR2.out];constructor
    ·intro hh;exact hh.2.2
    ·intro hh;exact ⟨Bl,⟨Bl,Bl⟩,hh⟩)
   clear qq;generalize y.runs[k].tasks[t].state=st at *
   generalize y.runs[k].tasks[t].try_=ty at *
   cases q2:(st == 3)
   ·exact Ak5
   ·exact Ak5
open Classical in
noncomputable def Gv (y:Yard) (id tk tr:Int):Int:=if ¬ Dk y then 8 else if Dn y id<0 then 10 else if ¬ Gq y id tk tr then 11 else 0
theorem S7 (y:Yard) (s:Sl×Sl) (id tk tr:Int) (w:World) (hl:Ca y<=2000000) (h:Bw.rd w w y s) :
  Calls Am 247 #[Ds y s,J U id,J U tk,J U tr] w fun e' w'=>e' = .returned (J U (Gv y id tk tr))/\Below w w w':=by
 have HR:=Br (show ∀ W,Below w w W->Bw.rd W W y s from fun W hW=>Bw.rd_more (Bw.rd_below h hW) hW.size);obtain ⟨⟨A1,n1,c1⟩,⟨A2,n2,c2⟩⟩:=s;have CY:=Br (fun W hW=>Gl y (⟨A1,n1,c1⟩,⟨A2,n2,c2⟩) W hl (HR.out W hW));have CA:=Br (fun W hW=>Fi y (⟨A1,n1,c1⟩,⟨A2,n2,c2⟩) id W hl (HR.out W hW));have CH:=Br (fun W hW=>Xj y (⟨A1,n1,c1⟩,⟨A2,n2,c2⟩) id tk tr W hl (HR.out W hW));clear h;obtain ⟨W,aH,X,B0⟩:=bx1 w 31 [J U y.now,J U y.seq,Aa A1 n1 c1,Aa A2 n2 c2];go_enter func247,ntmps247;exact Aid
end
end Go.Proofs.YtecnbnbopcblgaaGreat
