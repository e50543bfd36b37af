/-
  A run's own tasks that are written; l09Leave of the reference.  One element of a slice of one's own is changed in place: its own blocks turn, then its cells. l0
-/
import Derived.Test.YtonlnjdempbfoaaGreatZFe0
import Derived.Test.YtonlnjdempbfoaaGreatZFe4
import Derived.Test.YtonlnjdempbfoaaGreatZFe5
import Derived.Test.YtonlnjdempbfoaaGreatZFe6
import Derived.Test.YtonlnjdempbfoaaGreatZFe8
import Derived.Deep.Cut
namespace Go.Proofs.YtonlnjdempbfoaaGreat
open Go.RowKit
set_option maxRecDepth 100000
set_option maxHeartbeats 4000000
set_option linter.unusedVariables false
set_option linter.unusedSimpArgs false
open Value renaming int->J,slice->Aa
open IntKind renaming i64->U
open Option renaming none->Ab,some->Ac
open Below renaming setCell->Ad,alloc->Ae
open Nat renaming le_trans->Ah,lt_of_lt_of_le->Ai
open Go renaming bodyPost_ret->Aj,wpQuiet_nil->Ak
open Go.Proofs.Tryz renaming prog->An
open Int renaming toNat_natCast->Ap,eq_ofNat_of_zero_le->Aq
open IntWalk renaming i64_in->Ar
open List renaming length_map->Au,mem_singleton->Av,getElem_mem->Aw,nodup_append->Ax,mem_append_right->Bd,mem_append_left->Be,length_set->Bg,mem_append->Bh
theorem Aek {w:World} {F:List Nat} {rs:List (Task×Eo.S)} (h:Ows Eo w F rs):F=[]:=by
 induction h with
 | nil=>rfl
 | cons h1 _ ih=>rw [show _=[] from h1,ih];rfl
theorem N7 {w:World} {F:List Nat} {v:Value} {l:List Task} (h:OwL Eo w F v l):Hw G4 w F v l:=by
 have hr:=Ty h.rd;obtain ⟨rs,H,G,hm,hh,ho,rfl,hn⟩:=h;have hG:=Aek ho;subst hG;obtain ⟨h1,h2,h3⟩:=hh;refine ⟨hr,?_,fun g hg=>h3 g (by simpa using hg)⟩;rw [List.append_nil,h2,<-hm,Au]
theorem K1 {w:World} {F:List Nat} {v:Value} {l:List Task} (h1:Hw G4 w F v l):OwL Eo w F v l:=by
 obtain ⟨⟨A,c,hv,hc,hA⟩,hF,hf⟩:=id h1;subst hv;refine ⟨l.map fun x=>(x,()),F,[],by rw [List.map_map];exact List.map_id _,⟨⟨A,c,by rw [Au],by rw [Au];exact hc,fun hl=>?_⟩,by rw [Au];exact hF,hf⟩,Vb w l,(List.append_nil _).symm,h1.nodup⟩;rw [Au] at hl;obtain ⟨b,o,h3,h4,h5⟩:=hA hl;refine ⟨b,o,h3,h4,fun k hk j u hu=>?_⟩;rw [List.getElem_map] at hu;exact h5 k (by rw [Au] at hk;exact hk) j u hu
theorem Hw.part {α:Type} {e:Enc α} {w:World} {F:List Nat} {b o n c:Nat} {l:List α} (h:Hw e w F (Aa (Ac ⟨b,o,Ab⟩) n c) l) {j:Nat} (hj:j<l.length) (y:α) (off:Nat) (us:List Value) (hoff:off+us.length<=e.sz)
  (cR:∀ i (hi:i<us.length),(e.cells y)[off+i]? = Ac us[i]) (eZ:∀ i,i<e.sz->(i<off\/off+us.length<=i)->(e.cells y)[i]? = (e.cells l[j])[i]?) :
  Hw e (Io w b (o+j * e.sz+off) us) F (Aa (Ac ⟨b,o,Ab⟩) n c) (l.set j y):=by
 refine ⟨?_,by rw [Bg];exact h.2.1,fun g hg i=>by rw [Iy];exact h.2.2 g hg i⟩
 have:=Rd.part h.rd j hj y off us hoff cR eZ
 rw [Km];exact this
theorem Hw.block {α:Type} {e:Enc α} {w:World} {F:List Nat} {b o n c:Nat} {l:List α} (h:Hw e w F (Aa (Ac ⟨b,o,Ab⟩) n c) l) (hp:0<l.length):F=[b]/\b<w/\(∀ i,w.frozen? ⟨b,i,Ab⟩=false):=by
 obtain ⟨b',o',hA,hF,hb,hf⟩:=h.at_ hp;simp only [Option.some.injEq,Addr.mk.injEq,and_true] at hA;obtain ⟨rfl,rfl⟩:=hA;exact ⟨hF,hb,hf⟩
theorem Rd.tsk {w:World} {B:Nat} {A:Option Addr} {n c:Nat} {l:List Task} (h:Rd G4 w B (Aa A n c) l) {k:Nat} (hk:k<l.length) :
  ∃ b o,A=Ac ⟨b,o,Ab⟩/\b<B/\w.cell? ⟨b,o+k * 4,Ab⟩=Ac (J U l[k].state)/\w.cell? ⟨b,o+k * 4+1,Ab⟩=Ac (J U l[k].need)/\w.cell? ⟨b,o+k * 4+2,Ab⟩=Ac (J U l[k].try_)/\w.cell? ⟨b,o+k * 4+3,Ab⟩=Ac (J U l[k].until_):=by
 obtain ⟨A',c',hv,_,hA⟩:=h;simp only [Value.slice.injEq] at hv;obtain ⟨rfl,_,_⟩:=hv;obtain ⟨b,o,bJ,hb,hc⟩:=hA Bk;exact ⟨b,o,bJ,hb,hc k hk 0 _ rfl,hc k hk 1 _ rfl,hc k hk 2 _ rfl,hc k hk 3 _ rfl⟩
theorem Hw.task4 {w:World} {F:List Nat} {b o n c:Nat} {l:List Task} (h:Hw G4 w F (Aa (Ac ⟨b,o,Ab⟩) n c) l) {j:Nat} (hj:j<l.length) (y:Task) :
  Hw G4 ((((w.setCell ⟨b,o+j * 4,Ab⟩ (J U y.state)).setCell ⟨b,o+j * 4+1,Ab⟩ (J U y.need)).setCell ⟨b,o+j * 4+2,Ab⟩ (J U y.try_)).setCell ⟨b,o+j * 4+3,Ab⟩ (J U y.until_)) F (Aa (Ac ⟨b,o,Ab⟩) n c) (l.set j y) :=
 h.part hj y 0 [J U y.state,J U y.need,J U y.try_,J U y.until_] (Br _) (fun i hi=>by rw [Nat.zero_add];exact List.getElem?_eq_getElem hi) (fun i hi ho=>by simp at ho;have:i<4:=hi;omega)
theorem Hw.taskState {w:World} {F:List Nat} {b o n c:Nat} {l:List Task} (h:Hw G4 w F (Aa (Ac ⟨b,o,Ab⟩) n c) l) {j:Nat} (hj:j<l.length) (st:Int) :
  Hw G4 (w.setCell ⟨b,o+j * 4,Ab⟩ (J U st)) F (Aa (Ac ⟨b,o,Ab⟩) n c) (l.set j ⟨st,l[j].need,l[j].try_,l[j].until_⟩) :=
 h.part hj ⟨st,l[j].need,l[j].try_,l[j].until_⟩ 0 [J U st] (show 0+1<=4 by omega) (fun i hi=>by simp at hi;subst hi;rfl) (fun i hi ho=>by
  have:i<4:=hi;rcases (show i=1\/i=2\/i=3 by simp at ho;omega) with rfl | rfl | rfl<;>rfl)
theorem Hw.taskUntil {w:World} {F:List Nat} {b o n c:Nat} {l:List Task} (h:Hw G4 w F (Aa (Ac ⟨b,o,Ab⟩) n c) l) {j:Nat} (hj:j<l.length) (u:Int) :
  Hw G4 (w.setCell ⟨b,o+j * 4+3,Ab⟩ (J U u)) F (Aa (Ac ⟨b,o,Ab⟩) n c) (l.set j ⟨l[j].state,l[j].need,l[j].try_,u⟩) :=
 h.part hj ⟨l[j].state,l[j].need,l[j].try_,u⟩ 3 [J U u] (show 3+1<=4 by omega) (fun i hi=>by simp at hi;subst hi;rfl) (fun i hi ho=>by
  have:i<4:=hi;rcases (show i=0\/i=1\/i=2 by simp at ho;omega) with rfl | rfl | rfl<;>rfl)
theorem DBox.row8 {b:Nat} {cs:List Value} {w:World} (h:DBox b cs w) (hn:cs.length=8) (u0 u1 u2 u3 u4 u5 u6 u7:Value) :
  DBox b [u0,u1,u2,u3,u4,u5,u6,u7] ((((((((w.setCell ⟨b,0,Ab⟩ u0).setCell ⟨b,1,Ab⟩ u1).setCell ⟨b,2,Ab⟩ u2).setCell ⟨b,3,Ab⟩ u3).setCell ⟨b,4,Ab⟩ u4).setCell ⟨b,5,Ab⟩ u5).setCell ⟨b,6,Ab⟩ u6).setCell ⟨b,7,Ab⟩ u7):=by
 obtain ⟨c0,c1,c2,c3,c4,c5,c6,c7,rfl⟩:∃ c0 c1 c2 c3 c4 c5 c6 c7,cs=[c0,c1,c2,c3,c4,c5,c6,c7]:=by
  match cs,hn with
  | [c0,c1,c2,c3,c4,c5,c6,c7],_=>exact ⟨c0,c1,c2,c3,c4,c5,c6,c7,rfl⟩
 exact (((((((h.set 0 Bm u0).set 1 Bm u1).set 2 Bm u2).set 3 Bm u3).set 4 Bm u4).set 5 Bm u5).set 6 Bm u6).set 7 Bm u7
theorem Adj {b:Nat} {w:World} {u0 u1 u2 u3 u4 u5 u6 u7:Value} (X:DBox b [u0,u1,u2,u3,u4,u5,u6,u7] w) {v0 v1 v2 v3:Value} {rest:List Value} :
  (results Tryz.f244 (v0 :: v1 :: v2 :: v3 :: .pointer (Ac ⟨b,0,Ab⟩) :: rest).toArray).run An w = .ok (.agg #[u0,u1,u2,u3,u4,u5,u6,u7]) w:=by
 have c0:=X.cell 0 _ rfl;have c1:=X.cell 1 _ rfl;have c2:=X.cell 2 _ rfl;have c3:=X.cell 3 _ rfl;have c4:=X.cell 4 _ rfl;have c5:=X.cell 5 _ rfl;have c6:=X.cell 6 _ rfl;have c7:=X.cell 7 _ rfl;simp [results,Tryz.results244,go_sem,c0,c1,c2,c3,c4,c5,c6,c7]
theorem Pm {l:List Task} {k:Nat} (hk:k<l.length) (f:Task->Task):((l.take k).map f ++ l.drop k).set k (f l[k])=(l.take (k+1)).map f ++ l.drop (k+1):=by
 rw [List.drop_eq_getElem_cons hk,List.set_append_right _ _ (by simp;omega)];rw [show k - ((l.take k).map f).length=0 by simp;omega,List.set_cons_zero,List.take_succ_eq_append_getElem hk,List.map_append,List.append_assoc];rfl
def Rn (r:Run) (st:Int) (E:Sl) (b o c:Nat) (F:List Nat) (w:World) (e:Ending) (w':World):Prop :=
 e = .returned (Hc (Dp r st) (E,⟨Ac ⟨b,o,Ab⟩,r.tasks.length,c⟩))/\Hw G4 w' F (Aa (Ac ⟨b,o,Ab⟩) r.tasks.length c) (Dp r st).tasks/\Chg [b] w w'
theorem Oz (r:Run) (E:Sl) (st:Int) (b o c:Nat) (F:List Nat) (w:World) (hl:r.tasks.length<=2000000) (hp:0<r.tasks.length) (h:Hw G4 w F (Aa (Ac ⟨b,o,Ab⟩) r.tasks.length c) r.tasks) :
  Calls An 244 #[Hc r (E,⟨Ac ⟨b,o,Ab⟩,r.tasks.length,c⟩),J U st] w (Rn r st E b o c F w):=by
 obtain ⟨rfl,bI,hbf⟩:=h.block hp;have X:=(DBox.new 89 [J U r.id,J U r.plan.prio,J U r.plan.most,J U r.plan.wait,J U r.plan.tasks,Aa E.a E.n E.c,J U r.state,Aa (Ac ⟨b,o,Ab⟩) r.tasks.length c] w (b:=w.heap.size) rfl).below ((Bq _ _).alloc (Br _) (.cells #[J U 0,J U 0,J U 0,J U 0,J U 0,Aa Ab 0 0,J U 0,Aa Ab 0 0] 89));have RES:=DBox.new 89 [J U 0,J U 0,J U 0,J U 0,J U 0,Aa Ab 0 0,J U 0,Aa Ab 0 0] (w.alloc (.cells #[J U r.id,J U r.plan.prio,J U r.plan.most,J U r.plan.wait,J U r.plan.tasks,Aa E.a E.n E.c,J U r.state,Aa (Ac ⟨b,o,Ab⟩) r.tasks.length c] 89)) (b:=w.heap.size+1) Bm;have B0:Below w w ((w.alloc (.cells #[J U r.id,J U r.plan.prio,J U r.plan.most,J U r.plan.wait,J U r.plan.tasks,Aa E.a E.n E.c,J U r.state,Aa (Ac ⟨b,o,Ab⟩) r.tasks.length c] 89)).alloc (.cells #[J U 0,J U 0,J U 0,J U 0,J U 0,Aa Ab 0 0,J U 0,Aa Ab 0 0] 89)):=by repeat (first | exact Bq _ _ | refine Ae ?_ Bn _)
 go_enter Tryz.func244,Tryz.ntmps244;go_wp2;have C0:=Chg.of_below [b] B0;have h0:=h.below B0;generalize Hc r (E,⟨Ac ⟨b,o,Ab⟩,r.tasks.length,c⟩)=rv;generalize ((w.alloc (.cells #[J U r.id,J U r.plan.prio,J U r.plan.most,J U r.plan.wait,J U r.plan.tasks,Aa E.a E.n E.c,J U r.state,Aa (Ac ⟨b,o,Ab⟩) r.tasks.length c] 89)).alloc (.cells #[J U 0,J U 0,J U 0,J U 0,J U 0,Aa Ab 0 0,J U 0,Aa Ab 0 0] 89))=W at *
 go_loopw [5] (fun i wr=>∃ k:Nat,k<=r.tasks.length/\i = J U k/\Hid (Hw G4 wr [b] (Aa (Ac ⟨b,o,Ab⟩) r.tasks.length c) ((r.tasks.take k).map D9 ++ r.tasks.drop k))/\DBox w [J U r.id,J U r.plan.prio,J U r.plan.most,J U r.plan.wait,J U r.plan.tasks,Aa E.a E.n E.c,J U r.state,Aa (Ac ⟨b,o,Ab⟩) r.tasks.length c] wr/\DBox (w.heap.size+1) [J U 0,J U 0,J U 0,J U 0,J U 0,Aa Ab 0 0,J U 0,Aa Ab 0 0] wr/\Chg [b] w wr) (fun i _=>r.tasks.length - (intOf i).toNat);case atStart=>exact ⟨0,Nat.zero_le _,rfl,by simpa using Bp h0,X,RES,C0⟩
 case round =>
  clear X RES C0 h0 B0;obtain ⟨k,hk,rfl,hO,X,RES,hb⟩:=hrel;obtain ⟨X_0,X_1,X_2,X_3,X_4,X_5,X_6,X_7,X_l⟩:=X.g8;obtain ⟨RES_0,RES_1,RES_2,RES_3,RES_4,RES_5,RES_6,RES_7,RES_l⟩:=RES.g8;by_cases aA:k<r.tasks.length;case neg =>
   have aB:¬ (k:Int)<(r.tasks.length:Int):=Bk;have HO:=hO.out;rw [List.take_of_length_le Bk,List.drop_eq_nil_of_le Bk,List.append_nil] at HO;have xf:=X.free;have rf:=RES.free;go_wp2;have R4:=DBox.row8 (RES.setOther (a:=⟨w,6,Ab⟩) (by show w.heap.size+1≠w.heap.size;omega) (J U st)) rfl (J U r.id) (J U r.plan.prio) (J U r.plan.most) (J U r.plan.wait) (J U r.plan.tasks) (Aa E.a E.n E.c) (J U st) (Aa (Ac ⟨b,o,Ab⟩) r.tasks.length c);have sZ:∀ x∈[b],x∉[w.heap.size,w.heap.size+1]:=fun x hx h2=>by
    simp only [Av] at hx;simp only [List.mem_cons,List.not_mem_nil,or_false] at h2;omega
   refine Aj (Adj R4) rfl ⟨rfl,?_,?_⟩
   ·show Hw G4 _ [b] _ (r.tasks.map D9);have e1:w.heap.size∉[b]:=by simp only [Av];omega
    have e2:w.heap.size+1∉[b]:=by simp only [Av];omega
    exact ((((((((HO.set (a:=⟨_,_,Ab⟩) e1 _).set (a:=⟨_,_,Ab⟩) e2 _).set (a:=⟨_,_,Ab⟩) e2 _).set (a:=⟨_,_,Ab⟩) e2 _).set (a:=⟨_,_,Ab⟩) e2 _).set (a:=⟨_,_,Ab⟩) e2 _).set (a:=⟨_,_,Ab⟩) e2 _).set (a:=⟨_,_,Ab⟩) e2 _).set (a:=⟨_,_,Ab⟩) e2 _
   ·exact ((((((((hb.high (Br _) _ _).high Bk _ _).high Bk _ _).high Bk _ _).high Bk _ _).high Bk _ _).high Bk _ _).high Bk _ _).high Bk _ _
  have aB:(k:Int)<(r.tasks.length:Int):=Bk;have cS:(0:Int)<=(k:Int):=Bk;have mQ:k<((r.tasks.take k).map D9 ++ r.tasks.drop k).length:=by simp;omega
  have hMk:=Bp (show ((r.tasks.take k).map D9 ++ r.tasks.drop k)[k]=r.tasks[k] by
   rw [List.getElem_append_right (by simp;omega)];simp [Nat.min_eq_left (Nat.le_of_lt aA)])
  obtain ⟨b1,o1,kE,hbb1,c0,c1,c2,c3⟩:=hO.out.rd.tsk mQ;simp only [Option.some.injEq,Addr.mk.injEq,and_true] at kE;obtain ⟨rfl,rfl⟩:=kE;rw [hMk.out] at c0 c1 c2 c3;have hlM:=Bp (show ((r.tasks.take k).map D9 ++ r.tasks.drop k).length=r.tasks.length by simp;omega);by_cases s4:r.tasks[k].state=4
  ·have q4:(r.tasks[k].state != 4)=false:=by simp [s4]
   have hy:=Bp (show D9 r.tasks[k]=⟨r.tasks[k].state,r.tasks[k].need,r.tasks[k].try_,r.tasks[k].until_⟩ by unfold D9;rw [if_neg (by simp [s4])]);clear s4;go_upto_region 8 with fail
   have XB:DBox wr [J U r.tasks[k].state,J U r.tasks[k].need,J U r.tasks[k].try_,J U r.tasks[k].until_] (wr.alloc (.cells #[J U r.tasks[k].state,J U r.tasks[k].need,J U r.tasks[k].try_,J U r.tasks[k].until_] 138)):=DBox.new 138 [J U r.tasks[k].state,J U r.tasks[k].need,J U r.tasks[k].try_,J U r.tasks[k].until_] wr rfl;have bw:Chg [b] wr (wr.alloc (.cells #[J U r.tasks[k].state,J U r.tasks[k].need,J U r.tasks[k].try_,J U r.tasks[k].until_] 138)):=Chg.of_below _ ((Bq _ _).alloc (Br _) _);have bb:Below wr wr (wr.alloc (.cells #[J U r.tasks[k].state,J U r.tasks[k].need,J U r.tasks[k].try_,J U r.tasks[k].until_] 138)):=by repeat (first | (with_reducible exact Bq _ _) | refine Ad ?_ Bn _ | refine Ae ?_ Bn _)
   have HO:=hO.out.below bb;replace X:=X.below bb;replace RES:=RES.below bb;clear bb;have hbz:=bw.size;generalize (wr.alloc (.cells #[J U r.tasks[k].state,J U r.tasks[k].need,J U r.tasks[k].try_,J U r.tasks[k].until_] 138))=W1 at *
   clear X_0 X_1 X_2 X_3 X_4 X_5 X_6 X_7 X_l;clear RES_0 RES_1 RES_2 RES_3 RES_4 RES_5 RES_6 RES_7 RES_l;obtain ⟨X_0,X_1,X_2,X_3,X_4,X_5,X_6,X_7,X_l⟩:=X.g8;have z0:=XB.cell 0 _ rfl;have z1:=XB.cell 1 _ rfl;have z2:=XB.cell 2 _ rfl;have z3:=XB.cell 3 _ rfl;have zl:=XB.lt;obtain ⟨b2,o2,dL,jP,d0,d1,d2,d3⟩:=HO.rd.tsk mQ;simp only [Option.some.injEq,Addr.mk.injEq,and_true] at dL;obtain ⟨rfl,rfl⟩:=dL;have hfz:=(HO.block Bk).2.2;have Y4:Hw G4 ((((W1.setCell ⟨b,o+k * 4,Ab⟩ (J U r.tasks[k].state)).setCell ⟨b,o+k * 4+1,Ab⟩ (J U r.tasks[k].need)).setCell ⟨b,o+k * 4+2,Ab⟩ (J U r.tasks[k].try_)).setCell ⟨b,o+k * 4+3,Ab⟩ (J U r.tasks[k].until_)) [b] (Aa (Ac ⟨b,o,Ab⟩) r.tasks.length c) _:=HO.task4 mQ ⟨r.tasks[k].state,r.tasks[k].need,r.tasks[k].try_,r.tasks[k].until_⟩;have B4:Chg [b] w ((((W1.setCell ⟨b,o+k * 4,Ab⟩ (J U r.tasks[k].state)).setCell ⟨b,o+k * 4+1,Ab⟩ (J U r.tasks[k].need)).setCell ⟨b,o+k * 4+2,Ab⟩ (J U r.tasks[k].try_)).setCell ⟨b,o+k * 4+3,Ab⟩ (J U r.tasks[k].until_)):=(((((hb.trans bw).trans (Chg.setCell _ b _ _)).trans (Chg.setCell _ b _ _)).trans (Chg.setCell _ b _ _)).trans (Chg.setCell _ b _ _))
   have e1:w≠b:=Bk;have e2:w.heap.size+1≠b:=Bk;have X4:DBox w _ ((((W1.setCell ⟨b,o+k * 4,Ab⟩ (J U r.tasks[k].state)).setCell ⟨b,o+k * 4+1,Ab⟩ (J U r.tasks[k].need)).setCell ⟨b,o+k * 4+2,Ab⟩ (J U r.tasks[k].try_)).setCell ⟨b,o+k * 4+3,Ab⟩ (J U r.tasks[k].until_)):=(((X.setOther (a:=⟨b,_,Ab⟩) e1 _).setOther (a:=⟨b,_,Ab⟩) e1 _).setOther (a:=⟨b,_,Ab⟩) e1 _).setOther (a:=⟨b,_,Ab⟩) e1 _;have R4:DBox (w.heap.size+1) _ ((((W1.setCell ⟨b,o+k * 4,Ab⟩ (J U r.tasks[k].state)).setCell ⟨b,o+k * 4+1,Ab⟩ (J U r.tasks[k].need)).setCell ⟨b,o+k * 4+2,Ab⟩ (J U r.tasks[k].try_)).setCell ⟨b,o+k * 4+3,Ab⟩ (J U r.tasks[k].until_)):=(((RES.setOther (a:=⟨b,_,Ab⟩) e2 _).setOther (a:=⟨b,_,Ab⟩) e2 _).setOther (a:=⟨b,_,Ab⟩) e2 _).setOther (a:=⟨b,_,Ab⟩) e2 _;have aE:=Bp (show ((r.tasks.take k).map D9 ++ r.tasks.drop k).set k ⟨r.tasks[k].state,r.tasks[k].need,r.tasks[k].try_,r.tasks[k].until_⟩=(r.tasks.take (k+1)).map D9 ++ r.tasks.drop (k+1) by rw [<-Pm aA D9,hy.out]);clear d0 d1 d2 d3;have g0:=Bp Y4;clear Y4;obtain ⟨b3,o3,gZ,hbb3,d0,d1,d2,d3⟩:=HO.rd.tsk mQ;simp only [Option.some.injEq,Addr.mk.injEq,and_true] at gZ;obtain ⟨rfl,rfl⟩:=gZ;go_wp2;exact ⟨⟨k+1,Bk,by go_num,by rw [<-aE.out];exact g0,X4,R4,B4⟩,by simp [intOf];omega⟩
  by_cases s5:r.tasks[k].state=5
  ·have q4:(r.tasks[k].state != 4)=true:=by simp [s4]
   have q5:(r.tasks[k].state != 5)=false:=by simp [s5]
   have hy:=Bp (show D9 r.tasks[k]=⟨r.tasks[k].state,r.tasks[k].need,r.tasks[k].try_,r.tasks[k].until_⟩ by unfold D9;rw [if_neg (by simp [s5])]);clear s4 s5;go_upto_region 8 with fail
   have XB:DBox wr [J U r.tasks[k].state,J U r.tasks[k].need,J U r.tasks[k].try_,J U r.tasks[k].until_] (wr.alloc (.cells #[J U r.tasks[k].state,J U r.tasks[k].need,J U r.tasks[k].try_,J U r.tasks[k].until_] 138)):=DBox.new 138 [J U r.tasks[k].state,J U r.tasks[k].need,J U r.tasks[k].try_,J U r.tasks[k].until_] wr rfl;have bw:Chg [b] wr (wr.alloc (.cells #[J U r.tasks[k].state,J U r.tasks[k].need,J U r.tasks[k].try_,J U r.tasks[k].until_] 138)):=Chg.of_below _ ((Bq _ _).alloc (Br _) _);have bb:Below wr wr (wr.alloc (.cells #[J U r.tasks[k].state,J U r.tasks[k].need,J U r.tasks[k].try_,J U r.tasks[k].until_] 138)):=by repeat (first | (with_reducible exact Bq _ _) | refine Ad ?_ Bn _ | refine Ae ?_ Bn _)
   have HO:=hO.out.below bb;replace X:=X.below bb;replace RES:=RES.below bb;clear bb;have hbz:=bw.size;generalize (wr.alloc (.cells #[J U r.tasks[k].state,J U r.tasks[k].need,J U r.tasks[k].try_,J U r.tasks[k].until_] 138))=W1 at *
   clear X_0 X_1 X_2 X_3 X_4 X_5 X_6 X_7 X_l;clear RES_0 RES_1 RES_2 RES_3 RES_4 RES_5 RES_6 RES_7 RES_l;obtain ⟨X_0,X_1,X_2,X_3,X_4,X_5,X_6,X_7,X_l⟩:=X.g8;have z0:=XB.cell 0 _ rfl;have z1:=XB.cell 1 _ rfl;have z2:=XB.cell 2 _ rfl;have z3:=XB.cell 3 _ rfl;have zl:=XB.lt;obtain ⟨b2,o2,dL,jP,d0,d1,d2,d3⟩:=HO.rd.tsk mQ;simp only [Option.some.injEq,Addr.mk.injEq,and_true] at dL;obtain ⟨rfl,rfl⟩:=dL;have hfz:=(HO.block Bk).2.2;have Y4:Hw G4 ((((W1.setCell ⟨b,o+k * 4,Ab⟩ (J U r.tasks[k].state)).setCell ⟨b,o+k * 4+1,Ab⟩ (J U r.tasks[k].need)).setCell ⟨b,o+k * 4+2,Ab⟩ (J U r.tasks[k].try_)).setCell ⟨b,o+k * 4+3,Ab⟩ (J U r.tasks[k].until_)) [b] (Aa (Ac ⟨b,o,Ab⟩) r.tasks.length c) _:=HO.task4 mQ ⟨r.tasks[k].state,r.tasks[k].need,r.tasks[k].try_,r.tasks[k].until_⟩;have B4:Chg [b] w ((((W1.setCell ⟨b,o+k * 4,Ab⟩ (J U r.tasks[k].state)).setCell ⟨b,o+k * 4+1,Ab⟩ (J U r.tasks[k].need)).setCell ⟨b,o+k * 4+2,Ab⟩ (J U r.tasks[k].try_)).setCell ⟨b,o+k * 4+3,Ab⟩ (J U r.tasks[k].until_)):=(((((hb.trans bw).trans (Chg.setCell _ b _ _)).trans (Chg.setCell _ b _ _)).trans (Chg.setCell _ b _ _)).trans (Chg.setCell _ b _ _))
   have e1:w≠b:=Bk;have e2:w.heap.size+1≠b:=Bk;have X4:DBox w _ ((((W1.setCell ⟨b,o+k * 4,Ab⟩ (J U r.tasks[k].state)).setCell ⟨b,o+k * 4+1,Ab⟩ (J U r.tasks[k].need)).setCell ⟨b,o+k * 4+2,Ab⟩ (J U r.tasks[k].try_)).setCell ⟨b,o+k * 4+3,Ab⟩ (J U r.tasks[k].until_)):=(((X.setOther (a:=⟨b,_,Ab⟩) e1 _).setOther (a:=⟨b,_,Ab⟩) e1 _).setOther (a:=⟨b,_,Ab⟩) e1 _).setOther (a:=⟨b,_,Ab⟩) e1 _;have R4:DBox (w.heap.size+1) _ ((((W1.setCell ⟨b,o+k * 4,Ab⟩ (J U r.tasks[k].state)).setCell ⟨b,o+k * 4+1,Ab⟩ (J U r.tasks[k].need)).setCell ⟨b,o+k * 4+2,Ab⟩ (J U r.tasks[k].try_)).setCell ⟨b,o+k * 4+3,Ab⟩ (J U r.tasks[k].until_)):=(((RES.setOther (a:=⟨b,_,Ab⟩) e2 _).setOther (a:=⟨b,_,Ab⟩) e2 _).setOther (a:=⟨b,_,Ab⟩) e2 _).setOther (a:=⟨b,_,Ab⟩) e2 _;have aE:=Bp (show ((r.tasks.take k).map D9 ++ r.tasks.drop k).set k ⟨r.tasks[k].state,r.tasks[k].need,r.tasks[k].try_,r.tasks[k].until_⟩=(r.tasks.take (k+1)).map D9 ++ r.tasks.drop (k+1) by rw [<-Pm aA D9,hy.out]);clear d0 d1 d2 d3;have g0:=Bp Y4;clear Y4;obtain ⟨b3,o3,gZ,hbb3,d0,d1,d2,d3⟩:=HO.rd.tsk mQ;simp only [Option.some.injEq,Addr.mk.injEq,and_true] at gZ;obtain ⟨rfl,rfl⟩:=gZ;go_wp2;exact ⟨⟨k+1,Bk,by go_num,by rw [<-aE.out];exact g0,X4,R4,B4⟩,by simp [intOf];omega⟩
  have q4:(r.tasks[k].state != 4)=true:=by simp [s4]
  have q5:(r.tasks[k].state != 5)=true:=by simp [s5]
  have hy:=Bp (show D9 r.tasks[k]=⟨6,r.tasks[k].need,r.tasks[k].try_,0⟩ by unfold D9;rw [if_pos ⟨s4,s5⟩]);clear s4 s5;go_upto_region 8 with fail
  have XB:DBox wr [J U 6,J U r.tasks[k].need,J U r.tasks[k].try_,J U 0] (wr.alloc (.cells #[J U 6,J U r.tasks[k].need,J U r.tasks[k].try_,J U 0] 138)):=DBox.new 138 [J U 6,J U r.tasks[k].need,J U r.tasks[k].try_,J U 0] wr rfl;have bw:Chg [b] wr (wr.alloc (.cells #[J U 6,J U r.tasks[k].need,J U r.tasks[k].try_,J U 0] 138)):=Chg.of_below _ (by repeat (first | (with_reducible exact Bq _ _) | refine Ad ?_ Bn _ | refine Ae ?_ Bn _));have bb:Below wr wr (wr.alloc (.cells #[J U 6,J U r.tasks[k].need,J U r.tasks[k].try_,J U 0] 138)):=by repeat (first | (with_reducible exact Bq _ _) | refine Ad ?_ Bn _ | refine Ae ?_ Bn _)
  have HO:=hO.out.below bb;replace X:=X.below bb;replace RES:=RES.below bb;clear bb;have hbz:=bw.size;generalize (wr.alloc (.cells #[J U 6,J U r.tasks[k].need,J U r.tasks[k].try_,J U 0] 138))=W1 at *
  clear X_0 X_1 X_2 X_3 X_4 X_5 X_6 X_7 X_l;clear RES_0 RES_1 RES_2 RES_3 RES_4 RES_5 RES_6 RES_7 RES_l;obtain ⟨X_0,X_1,X_2,X_3,X_4,X_5,X_6,X_7,X_l⟩:=X.g8;have z0:=XB.cell 0 _ rfl;have z1:=XB.cell 1 _ rfl;have z2:=XB.cell 2 _ rfl;have z3:=XB.cell 3 _ rfl;have zl:=XB.lt;obtain ⟨b2,o2,dL,jP,d0,d1,d2,d3⟩:=HO.rd.tsk mQ;simp only [Option.some.injEq,Addr.mk.injEq,and_true] at dL;obtain ⟨rfl,rfl⟩:=dL;have hfz:=(HO.block Bk).2.2;have Y4:Hw G4 ((((W1.setCell ⟨b,o+k * 4,Ab⟩ (J U 6)).setCell ⟨b,o+k * 4+1,Ab⟩ (J U r.tasks[k].need)).setCell ⟨b,o+k * 4+2,Ab⟩ (J U r.tasks[k].try_)).setCell ⟨b,o+k * 4+3,Ab⟩ (J U 0)) [b] (Aa (Ac ⟨b,o,Ab⟩) r.tasks.length c) _:=HO.task4 mQ ⟨6,r.tasks[k].need,r.tasks[k].try_,0⟩;have B4:Chg [b] w ((((W1.setCell ⟨b,o+k * 4,Ab⟩ (J U 6)).setCell ⟨b,o+k * 4+1,Ab⟩ (J U r.tasks[k].need)).setCell ⟨b,o+k * 4+2,Ab⟩ (J U r.tasks[k].try_)).setCell ⟨b,o+k * 4+3,Ab⟩ (J U 0)):=(((((hb.trans bw).trans (Chg.setCell _ b _ _)).trans (Chg.setCell _ b _ _)).trans (Chg.setCell _ b _ _)).trans (Chg.setCell _ b _ _))
  have e1:w≠b:=Bk;have e2:w.heap.size+1≠b:=Bk;have X4:DBox w _ ((((W1.setCell ⟨b,o+k * 4,Ab⟩ (J U 6)).setCell ⟨b,o+k * 4+1,Ab⟩ (J U r.tasks[k].need)).setCell ⟨b,o+k * 4+2,Ab⟩ (J U r.tasks[k].try_)).setCell ⟨b,o+k * 4+3,Ab⟩ (J U 0)):=(((X.setOther (a:=⟨b,_,Ab⟩) e1 _).setOther (a:=⟨b,_,Ab⟩) e1 _).setOther (a:=⟨b,_,Ab⟩) e1 _).setOther (a:=⟨b,_,Ab⟩) e1 _;have R4:DBox (w.heap.size+1) _ ((((W1.setCell ⟨b,o+k * 4,Ab⟩ (J U 6)).setCell ⟨b,o+k * 4+1,Ab⟩ (J U r.tasks[k].need)).setCell ⟨b,o+k * 4+2,Ab⟩ (J U r.tasks[k].try_)).setCell ⟨b,o+k * 4+3,Ab⟩ (J U 0)):=(((RES.setOther (a:=⟨b,_,Ab⟩) e2 _).setOther (a:=⟨b,_,Ab⟩) e2 _).setOther (a:=⟨b,_,Ab⟩) e2 _).setOther (a:=⟨b,_,Ab⟩) e2 _;have aE:=Bp (show ((r.tasks.take k).map D9 ++ r.tasks.drop k).set k ⟨6,r.tasks[k].need,r.tasks[k].try_,0⟩=(r.tasks.take (k+1)).map D9 ++ r.tasks.drop (k+1) by rw [<-Pm aA D9,hy.out]);clear d0 d1 d2 d3;have g0:=Bp Y4;clear Y4;obtain ⟨b3,o3,gZ,hbb3,d0,d1,d2,d3⟩:=HO.rd.tsk mQ;simp only [Option.some.injEq,Addr.mk.injEq,and_true] at gZ;obtain ⟨rfl,rfl⟩:=gZ;go_wp2;exact ⟨⟨k+1,Bk,by go_num,by rw [<-aE.out];exact g0,X4,R4,B4⟩,by simp [intOf];omega⟩
theorem OwL.trade {α:Type} {d:Dt α} {w:World} {F:List Nat} {b o n c:Nat} {l:List α} (h:OwL d w F (Aa (Ac ⟨b,o,Ab⟩) n c) l) {j:Nat} (hj:j<l.length) :
  ∃ (s:d.S) (Fx:List Nat),d.ow w Fx l[j] s/\(∀ x∈Fx,x∈F)/\b∉Fx/\b∈F/\(∀ i,w.frozen? ⟨b,i,Ab⟩=false)/\(∀ i u,(d.enc.cells (l[j],s))[i]? = Ac u->w.cell? ⟨b,o+j * d.enc.sz+i,Ab⟩=Ac u) /\
   ∀ (w1:World) (y:α) (s':d.S) (Fy:List Nat),Chg Fx w w1->d.ow w1 Fy y s'->(∀ x∈Fy,x∈Fx) -> ∃ F',OwL d (Io w1 b (o+j * d.enc.sz) (d.enc.cells (y,s'))) F' (Aa (Ac ⟨b,o,Ab⟩) n c) (l.set j y)/\(∀ x∈F',x∈F)/\b∈F':=by
 obtain ⟨rs,H,G,hm,hh,ho,rfl,hn⟩:=h;subst hm;have jH:j<rs.length:=by rw [Au] at hj;exact hj
 obtain ⟨b',o',hA,rfl,mU,hf⟩:=hh.at_ Bk;simp only [Option.some.injEq,Addr.mk.injEq,and_true] at hA;obtain ⟨rfl,rfl⟩:=hA;obtain ⟨F1,F2,rfl,h1,h2⟩:=ho.split j Bk;rw [List.drop_eq_getElem_cons jH] at h2;obtain ⟨Fx,F3,rfl,h3,h4⟩:=h2.head;have eK:b∉F1 ++ (Fx ++ F3):=by
  have:=hn
  simp only [List.singleton_append,List.nodup_cons] at this;exact this.1
 have nR:(F1 ++ (Fx ++ F3)).Nodup:=by
  have:=hn
  simp only [List.singleton_append,List.nodup_cons] at this;exact this.2
 have hlj:(rs.map (·.1))[j]=rs[j].1:=by rw [List.getElem_map]
 have sD:∀ x∈F1,x∉Fx:=fun x hx aN=>(Ax.1 nR).2.2 x hx x (Be _ aN) rfl;have hd3:∀ x∈F3,x∉Fx:=fun x hx aN=>(Ax.1 (Ax.1 nR).2.1).2.2 x aN x hx rfl;refine ⟨rs[j].2,Fx,by rw [hlj];exact h3,fun x hx=>by simp [hx],fun hx=>eK (by simp [hx]),Bm,hf,?_,?_⟩
 ·intro i u hu;rw [hlj] at hu;obtain ⟨A',c',hv,_,qL⟩:=hh.rd;simp only [Value.slice.injEq] at hv;obtain ⟨hv1,-,-⟩:=hv;obtain ⟨g',o',bJ,_,aY⟩:=qL Bk;rw [<-hv1] at bJ;simp only [Option.some.injEq,Addr.mk.injEq,and_true] at bJ;obtain ⟨rfl,rfl⟩:=bJ;exact aY j jH i u hu
 ·intro w1 y s' Fy hC hy hs;have hh1:=hh.chg hC (fun x hx aN=>by simp only [Av] at hx;subst hx;exact eK (by simp [aN]));have fG:b∉Fy:=fun hx=>eK (by simp [hs b hx]);have hc:=Fb (d.enc.cells (y,s')) w1 b (o+j * d.enc.sz);have hp:=Rd.part hh1.rd j jH (y,s') 0 (d.enc.cells (y,s')) (by rw [d.enc.len];omega) (fun i hi=>by rw [Nat.zero_add];exact List.getElem?_eq_getElem hi) (fun i hi ho=>by rw [d.enc.len] at ho;omega);rw [Nat.add_zero] at hp;have hz:=Km (d.enc.cells (y,s')) w1 b (o+j * d.enc.sz);have dX:rs.set j (y,s')=rs.take j ++ ((y,s') :: rs.drop (j+1)):=by rw [List.set_eq_take_append_cons_drop,if_pos jH]
  have hf1:=hh1.2.2;have bZ:∀ x,x∈[b]->x=b:=fun x hx=>Av.1 hx;refine ⟨[b] ++ (F1 ++ (Fy ++ F3)),⟨rs.set j (y,s'),[b],F1 ++ (Fy ++ F3),?_,⟨?_,?_,fun g hg i=>?_⟩,?_,rfl,?_⟩,?_,Bm⟩
  ·rw [List.map_set]
  ·rw [hz];exact hp
  ·have:=hh1.2.1
   rw [Bg];exact this
  ·rw [Iy];exact hf1 g hg i
  ·rw [dX];refine ((h1.chg hC sD).chg hc (fun x hx dZ=>?_)).append (.cons (d.ow_chg hy hc (fun x hx dZ=>?_)) ((h4.chg hC hd3).chg hc (fun x hx dZ=>?_)))
   ·have e:=bZ x dZ;subst e;exact eK (Be _ hx)
   ·have e:=bZ x dZ;subst e;exact fG hx
   ·have e:=bZ x dZ;subst e;exact eK (Bd _ (Bd _ hx))
  ·have hyN:=d.ow_nodup hy;rw [List.singleton_append,List.nodup_cons];refine ⟨fun hx=>?_,?_⟩
   ·simp only [Bh] at hx;rcases hx with hx | hx | hx
    ·exact eK (by simp [hx])
    ·exact fG hx
    ·exact eK (by simp [hx])
   ·rw [Ax] at nR ⊢;obtain ⟨n1,n2,n3⟩:=nR;rw [Ax] at n2;obtain ⟨m1,m2,m3⟩:=n2;refine ⟨n1,?_,fun a ha c hc=>?_⟩
    ·rw [Ax];exact ⟨hyN,m2,fun a ha c hc e=>by subst e;exact hd3 a hc (hs a ha)⟩
    ·rcases Bh.1 hc with hc | hc
     ·exact fun e=>by subst e;exact sD a ha (hs a hc)
     ·exact n3 a ha c (Bd _ hc)
  ·intro x hx;simp only [Bh,Av] at hx ⊢;rcases hx with hx | hx | hx | hx
   ·exact .inl hx
   ·exact .inr (.inl hx)
   ·exact .inr (.inr (.inl (hs x hx)))
   ·exact .inr (.inr (.inr hx))
theorem Abr {w:World} {F:List Nat} {rs:List (Entry×Cg.S)} (h:Ows Cg w F rs):F=[]:=by
 induction h with
 | nil=>rfl
 | cons h1 _ ih=>rw [show _=[] from h1,ih];rfl
theorem Adk {w:World} {B:Nat} {v:Value} {l:List Entry} (h:RdL Cg w B v l):Rd Cu w B v l:=by
 obtain ⟨rs,rfl,⟨A,c,rfl,hc,hA⟩,_⟩:=h;refine ⟨A,c,by rw [Au],by rw [Au];exact hc,fun hl=>?_⟩;rw [Au] at hl;obtain ⟨b,o,h1,h2,h3⟩:=hA hl;refine ⟨b,o,h1,h2,fun k hk j u hu=>?_⟩;rw [List.getElem_map] at hu;exact h3 k (by rw [Au] at hk;exact hk) j u hu
theorem Vn (w:World):∀ l:List Entry,Ows Cg w [] (l.map fun x=>(x,()))
 | []=>.nil
 | x :: l=>by
  have:=Ows.cons (d:=Cg) (w:=w) (F:=[]) (r:=(x,())) rfl (Vn w l)
  exact this
theorem Aab {w:World} {F:List Nat} {v:Value} {l:List Entry} (h:OwL Cg w F v l):Hw Cu w F v l:=by
 have hr:=Adk h.rd;obtain ⟨rs,H,G,hm,hh,ho,rfl,hn⟩:=h;have hG:=Abr ho;subst hG;obtain ⟨h1,h2,h3⟩:=hh;refine ⟨hr,?_,fun g hg=>h3 g (by simpa using hg)⟩;rw [List.append_nil,h2,<-hm,Au]
theorem Adl {w:World} {F:List Nat} {v:Value} {l:List Entry} (h1:Hw Cu w F v l):OwL Cg w F v l:=by
 obtain ⟨⟨A,c,hv,hc,hA⟩,hF,hf⟩:=id h1;subst hv;refine ⟨l.map fun x=>(x,()),F,[],by rw [List.map_map];exact List.map_id _,⟨⟨A,c,by rw [Au],by rw [Au];exact hc,fun hl=>?_⟩,by rw [Au];exact hF,hf⟩,Vn w l,(List.append_nil _).symm,h1.nodup⟩;rw [Au] at hl;obtain ⟨b,o,h3,h4,h5⟩:=hA hl;refine ⟨b,o,h3,h4,fun k hk j u hu=>?_⟩;rw [List.getElem_map] at hu;exact h5 k (by rw [Au] at hk;exact hk) j u hu
theorem Vo {b:Nat} {w:World} {u0 u1 u2 u3 u4 u5 u6 u7:Value} (X:DBox b [u0,u1,u2,u3,u4,u5,u6,u7] w) {v0 v1 v2 v3 v4 v5:Value} {rest:List Value} :
  (results Tryz.f208 (v0 :: v1 :: v2 :: v3 :: v4 :: v5 :: .pointer (Ac ⟨b,0,Ab⟩) :: rest).toArray).run An w = .ok (.agg #[u0,u1,u2,u3,u4,u5,u6,u7]) w:=by
 have c0:=X.cell 0 _ rfl;have c1:=X.cell 1 _ rfl;have c2:=X.cell 2 _ rfl;have c3:=X.cell 3 _ rfl;have c4:=X.cell 4 _ rfl;have c5:=X.cell 5 _ rfl;have c6:=X.cell 6 _ rfl;have c7:=X.cell 7 _ rfl;simp [results,Tryz.results208,go_sem,c0,c1,c2,c3,c4,c5,c6,c7]
theorem Qp {l:List Task} {t:Nat} (h:t<l.length) (f:Task->Task):Hx l t f=l.set t (f l[t]):=by
 unfold Hx;rw [List.getD_eq_getElem?_getD,List.getElem?_eq_getElem h];rfl
theorem Tn (r:Run) (s:Sl×Sl) (t:Nat) (now:Int) (w:World) (hl:C9 r<=2000000) (ht:t<r.tasks.length) (hq:-1000000<=r.tasks[t].try_/\r.tasks[t].try_<=2000000000) (kR:0<=now/\now<=2000000000) (hwait:0<=r.plan.wait/\r.plan.wait<=2000000000) (h:Co.rd w w r s) :
  Calls An 208 #[Hc r s,J U t,J U now] w (Fc Co Hc (Cv r t now) w):=by
 have CP:=Bp (fun W (hW:Below w w W)=>Hp r s W hl (Co.rd_more (Co.rd_below h hW) hW.size));obtain ⟨⟨A1,n1,c1⟩,⟨A2,n2,c2⟩⟩:=s;obtain rfl:n2=r.tasks.length:=RdL.at1 (s:=⟨A2,n2,c2⟩) h.2;clear h hl;have jU:(t:Int)<(r.tasks.length:Int):=Bk;have gQ:(0:Int)<=(t:Int):=Bk;have X:=(DBox.new 89 [J U r.id,J U r.plan.prio,J U r.plan.most,J U r.plan.wait,J U r.plan.tasks,Aa A1 n1 c1,J U r.state,Aa A2 r.tasks.length c2] w (b:=w.heap.size) rfl).below ((Bq _ _).alloc (Br _) (.cells #[J U 0,J U 0,J U 0,J U 0,J U 0,Aa Ab 0 0,J U 0,Aa Ab 0 0] 89));have RES:=DBox.new 89 [J U 0,J U 0,J U 0,J U 0,J U 0,Aa Ab 0 0,J U 0,Aa Ab 0 0] (w.alloc (.cells #[J U r.id,J U r.plan.prio,J U r.plan.most,J U r.plan.wait,J U r.plan.tasks,Aa A1 n1 c1,J U r.state,Aa A2 r.tasks.length c2] 89)) (b:=w.heap.size+1) Bm;have B0:Below w w ((w.alloc (.cells #[J U r.id,J U r.plan.prio,J U r.plan.most,J U r.plan.wait,J U r.plan.tasks,Aa A1 n1 c1,J U r.state,Aa A2 r.tasks.length c2] 89)).alloc (.cells #[J U 0,J U 0,J U 0,J U 0,J U 0,Aa Ab 0 0,J U 0,Aa Ab 0 0] 89)):=by repeat (first | exact Bq _ _ | refine Ae ?_ Bn _)
 go_enter Tryz.func208,Tryz.ntmps208;go_wp2_with fail
 refine (CP.out _ B0).mono ?_;rintro e w1 ⟨⟨⟨A3,n3,c3⟩,⟨A4,n4,c4⟩⟩,F,rfl,o1,nF,b1⟩;obtain ⟨F1,F2,rfl,bM,op,ot⟩:=o1;replace ot:OwL Eo w1 F2 (Aa A4 n4 c4) r.tasks:=ot;obtain rfl:n4=r.tasks.length:=RdL.at1 (s:=⟨A4,n4,c4⟩) ot.rd;have oh:=N7 ot;clear ot CP;obtain ⟨b,o,rfl,aG,d0,d1,d2,d3⟩:=oh.rd.tsk ht;have hBw:=B0.size;have aF:=oh.block Bk;obtain ⟨rfl,bI,hbf⟩:=aF;have eK:=nF b Bm;have kL:=X.lt;have jQ:=RES.lt;replace B0:=Bs B0 b1;replace X:=X.below b1;replace RES:=RES.below b1;clear b1
 -- the copy's own variable
 go_upto_region 2 with fail
 have OB:=DBox.new 89 [J U r.id,J U r.plan.prio,J U r.plan.most,J U r.plan.wait,J U r.plan.tasks,Aa A3 n3 c3,J U r.state,Aa (Ac ⟨b,o,Ab⟩) r.tasks.length c4] w1 (b:=w1.heap.size) rfl;have b2:Below w1 w1 (w1.alloc (.cells #[J U r.id,J U r.plan.prio,J U r.plan.most,J U r.plan.wait,J U r.plan.tasks,Aa A3 n3 c3,J U r.state,Aa (Ac ⟨b,o,Ab⟩) r.tasks.length c4] 89)):=(Bq _ _).alloc (Br _) _;have B2:=Bs B0 b2;replace X:=X.below b2;replace RES:=RES.below b2;replace oh:=oh.below b2;have op2:=Cm.ow_below op b2;have cI:=b2.size;have ow1:=OB.lt;clear op d0 d1 d2 d3;generalize w1.alloc (.cells #[J U r.id,J U r.plan.prio,J U r.plan.most,J U r.plan.wait,J U r.plan.tasks,Aa A3 n3 c3,J U r.state,Aa (Ac ⟨b,o,Ab⟩) r.tasks.length c4] 89)=w2 at *
 have X_:=X.g8;have OB_:=OB.g8;obtain ⟨b',o',bJ,bN,d0,d1,d2,d3⟩:=oh.rd.tsk ht;simp only [Option.some.injEq,Addr.mk.injEq,and_true] at bJ;obtain ⟨rfl,rfl⟩:=bJ;go_upto_region 6 with fail
 have XB:=DBox.new 138 [J U 3,J U r.tasks[t].need,J U (r.tasks[t].try_+1),J U (now+r.plan.wait)] w2 (b:=w2.heap.size) rfl;have b3:Below w2 w2 (w2.alloc (.cells #[J U 3,J U r.tasks[t].need,J U (r.tasks[t].try_+1),J U (now+r.plan.wait)] 138)):=(Bq _ _).alloc (Br _) _;have B3:=Bs B2 b3;clear X_;clear OB_;clear d0 d1 d2 d3 bN;replace OB:=OB.below b3;replace RES:=RES.below b3;replace oh:=oh.below b3;have op3:=Cm.ow_below op2 b3;have fV:=b3.size;have ow2:=XB.lt;clear op2 X;generalize w2.alloc (.cells #[J U 3,J U r.tasks[t].need,J U (r.tasks[t].try_+1),J U (now+r.plan.wait)] 138)=w3 at *
 have OB_:=OB.g8;have XB_:=XB.g4;obtain ⟨b',o',bJ,bN,d0,d1,d2,d3⟩:=oh.rd.tsk ht;simp only [Option.some.injEq,Addr.mk.injEq,and_true] at bJ;obtain ⟨rfl,rfl⟩:=bJ;have jG:=(oh.block Bk).2.2;go_upto_region 7 with fail
 have eR:b∉F1:=fun hx=>(Ax.1 bM).2.2 b hx b Bm rfl;have oh4:Hw G4 ((((w3.setCell ⟨b,o+t * 4,Ab⟩ (J U 3)).setCell ⟨b,o+t * 4+1,Ab⟩ (J U r.tasks[t].need)).setCell ⟨b,o+t * 4+2,Ab⟩ (J U (r.tasks[t].try_+1))).setCell ⟨b,o+t * 4+3,Ab⟩ (J U (now+r.plan.wait))) [b] (Aa (Ac ⟨b,o,Ab⟩) r.tasks.length c4) _:=oh.task4 ht ⟨3,r.tasks[t].need,r.tasks[t].try_+1,now+r.plan.wait⟩;have hC:Chg [b] w3 ((((w3.setCell ⟨b,o+t * 4,Ab⟩ (J U 3)).setCell ⟨b,o+t * 4+1,Ab⟩ (J U r.tasks[t].need)).setCell ⟨b,o+t * 4+2,Ab⟩ (J U (r.tasks[t].try_+1))).setCell ⟨b,o+t * 4+3,Ab⟩ (J U (now+r.plan.wait))):=(((Chg.setCell w3 b _ _).trans (Chg.setCell _ b _ _)).trans (Chg.setCell _ b _ _)).trans (Chg.setCell _ b _ _);have op4:=Cm.ow_chg op3 hC (fun x hx h=>by simp only [Av] at h;subst h;exact eR hx);have B4:Below w w ((((w3.setCell ⟨b,o+t * 4,Ab⟩ (J U 3)).setCell ⟨b,o+t * 4+1,Ab⟩ (J U r.tasks[t].need)).setCell ⟨b,o+t * 4+2,Ab⟩ (J U (r.tasks[t].try_+1))).setCell ⟨b,o+t * 4+3,Ab⟩ (J U (now+r.plan.wait))):=by
  have hbw2:w<=b:=Bk;repeat (first | (with_reducible exact B3) | refine Ad ?_ Bn _)
 clear OB_;clear XB_;clear d0 d1 d2 d3 bN jG XB;replace OB:=OB.chg hC (by simp only [Av];omega);replace RES:=RES.chg hC (by simp only [Av];omega);have jY:=hC.size;clear hC oh op3;generalize ((((w3.setCell ⟨b,o+t * 4,Ab⟩ (J U 3)).setCell ⟨b,o+t * 4+1,Ab⟩ (J U r.tasks[t].need)).setCell ⟨b,o+t * 4+2,Ab⟩ (J U (r.tasks[t].try_+1))).setCell ⟨b,o+t * 4+3,Ab⟩ (J U (now+r.plan.wait)))=w4 at *
 have OB_:=OB.g8;have RES_:=RES.g8;have rf:=RES.free;go_wp2;refine Aj (Vo (DBox.row8 RES rfl _ _ _ _ _ _ _ _)) rfl ⟨(⟨A3,n3,c3⟩,⟨Ac ⟨b,o,Ab⟩,r.tasks.length,c4⟩),F1 ++ [b],rfl,⟨F1,[b],rfl,bM,?_,?_⟩,?_,?_⟩
 ·have e2:w.heap.size+1∉F1:=fun hx=>by have:=nF _ (Be _ hx);omega
  show Cm.ow _ F1 r.plan _;exact (by (repeat (refine Dt.ow_set Cm ?_ e2 _));exact op4)
 ·have e1:w.heap.size+1∉[b]:=by simp only [Av];omega
  show OwL Eo _ [b] _ (Hx r.tasks t fun x=>⟨3,x.need,x.try_+1,now+r.plan.wait⟩);rw [Qp ht];exact K1 ((((((((oh4.set (a:=⟨w.heap.size+1,_,Ab⟩) e1 _).set (a:=⟨w.heap.size+1,_,Ab⟩) e1 _).set (a:=⟨w.heap.size+1,_,Ab⟩) e1 _).set (a:=⟨w.heap.size+1,_,Ab⟩) e1 _).set (a:=⟨w.heap.size+1,_,Ab⟩) e1 _).set (a:=⟨w.heap.size+1,_,Ab⟩) e1 _).set (a:=⟨w.heap.size+1,_,Ab⟩) e1 _).set (a:=⟨w.heap.size+1,_,Ab⟩) e1 _)
 ·intro x hx
  have:=nF x hx
  omega
 ·repeat (first | (with_reducible exact B4) | refine Ad ?_ Bn _)
def J9 (r:Run) (t:Int):Prop:=Gg r/\(0<=t/\t<r.tasks.length)/\(Bx r t.toNat).state=3
theorem Qq (r:Run) (s:Sl×Sl) (t:Int) (w:World) (hl:C9 r<=2000000) (h:Co.rd w w r s) :
  Calls An 241 #[Hc r s,J U t] w fun e w'=>e = .returned (.bool (tf (J9 r t)))/\Below w w w':=by
 have CR:=Bp (fun W (hW:Below w w W)=>Lo r s W hl (Co.rd_more (Co.rd_below h hW) hW.size));have h2:=Bp (fun W (hW:Below w w W)=>(Ty h.2).below hW);have aK:r.tasks.length<=2000000:=Ah (Ct G8 _) (by unfold C9 at hl;omega);obtain ⟨⟨A1,n1,c1⟩,⟨A2,n2,c2⟩⟩:=s;obtain rfl:n2=r.tasks.length:=RdL.at1 (s:=⟨A2,n2,c2⟩) h.2;clear h hl;have X:=DBox.new 89 [J U r.id,J U r.plan.prio,J U r.plan.most,J U r.plan.wait,J U r.plan.tasks,Aa A1 n1 c1,J U r.state,Aa A2 r.tasks.length c2] w (b:=w.heap.size) rfl;have B0:Below w w (w.alloc (.cells #[J U r.id,J U r.plan.prio,J U r.plan.most,J U r.plan.wait,J U r.plan.tasks,Aa A1 n1 c1,J U r.state,Aa A2 r.tasks.length c2] 89)):=by repeat (first | exact Bq _ _ | refine Ae ?_ Bn _)
 cases p0:tf (Gg r);case false =>
  have H:=Bp (show tf (J9 r t)=false from Ck (fun hh=>by rw [D6 hh.1] at p0;cases p0));go_enter Tryz.func241,Tryz.ntmps241;go_wp2_with (go_at_call 216;refine (CR.out _ B0).mono ?_;rintro e w1 ⟨rfl,b1⟩;rw [p0])
  go_ret;exact ⟨Bw H.out.symm,Bs B0 b1⟩
 cases p1:inB t 0 ((r.tasks.length:Int) - 1);case false =>
  have H:=Bp (show tf (J9 r t)=false from Ck (fun hh=>by have:=hh.2.1;simp [inB] at p1;omega));go_enter Tryz.func241,Tryz.ntmps241;go_wp2_with fail
  refine (CR.out _ B0).mono ?_;rintro e w1 ⟨rfl,b1⟩;rw [p0];replace X:=X.below b1;have X_:=X.g8;go_wp2_with (go_at_call 155;refine (Cf _ _ _ _).mono ?_;rintro e w9 ⟨rfl,rfl⟩;rw [p1])
  go_ret;exact ⟨Bw H.out.symm,Bs B0 b1⟩
 have p2:=Cp.1 p1;obtain ⟨u,rfl⟩:=Aq p2.1;have hu:u<r.tasks.length:=Bk;have huI:((u:Nat):Int)<(r.tasks.length:Int):=Bk;have hu0:(0:Int)<=((u:Nat):Int):=Bk;obtain ⟨b,o,rfl,aG,-⟩:=(h2.out w (Bq _ _)).tsk hu;have H:=Bp (show tf (J9 r (u:Int))=(r.tasks[u].state == 3) by
  by_cases h3:r.tasks[u].state=3
  ·rw [D6 (show J9 r (u:Int) from ⟨Kw.1 p0,⟨Bk,Bk⟩,by rw [Ap,Cn hu];exact h3⟩)];simp [h3]
  ·rw [Ck (fun hh=>h3 (by have:=hh.2.2;rw [Ap,Cn hu] at this;exact this))];simp [h3])
 clear p2;go_enter Tryz.func241,Tryz.ntmps241;go_wp2_with fail
 refine (CR.out _ B0).mono ?_;rintro e w1 ⟨rfl,b1⟩;rw [p0];replace X:=X.below b1;have X_:=X.g8;have B1:=Bs B0 b1;obtain ⟨b',o',bJ,-,d0,-,-,-⟩:=(h2.out w1 B1).tsk hu;simp only [Option.some.injEq,Addr.mk.injEq,and_true] at bJ;obtain ⟨rfl,rfl⟩:=bJ;go_wp2_with (go_at_call 155;refine (Cf _ _ _ _).mono ?_;rintro e w9 ⟨rfl,rfl⟩;rw [p1])
 go_ret;exact ⟨Bw H.out.symm,B1⟩
theorem Qr {b:Nat} {w:World} {u0 u1 u2 u3 u4 u5 u6 u7:Value} (X:DBox b [u0,u1,u2,u3,u4,u5,u6,u7] w) {v0 v1 v2 v3:Value} {rest:List Value} :
  (results Tryz.f212 (v0 :: v1 :: v2 :: v3 :: .pointer (Ac ⟨b,0,Ab⟩) :: rest).toArray).run An w = .ok (.agg #[u0,u1,u2,u3,u4,u5,u6,u7]) w:=by
 have c0:=X.cell 0 _ rfl;have c1:=X.cell 1 _ rfl;have c2:=X.cell 2 _ rfl;have c3:=X.cell 3 _ rfl;have c4:=X.cell 4 _ rfl;have c5:=X.cell 5 _ rfl;have c6:=X.cell 6 _ rfl;have c7:=X.cell 7 _ rfl;simp [results,Tryz.results212,go_sem,c0,c1,c2,c3,c4,c5,c6,c7]
theorem Hw.taskSt' {w:World} {F:List Nat} {b o n c:Nat} {l:List Task} {j:Nat} {y:Task} (h:Hw G4 w F (Aa (Ac ⟨b,o,Ab⟩) n c) (l.set j y)) (hj:j<l.length) (st:Int) :
  Hw G4 (w.setCell ⟨b,o+j * 4,Ab⟩ (J U st)) F (Aa (Ac ⟨b,o,Ab⟩) n c) (l.set j ⟨st,y.need,y.try_,y.until_⟩):=by
 have:=h.taskState (j:=j) (by rw [Bg];exact hj) st
 rw [List.getElem_set_self,List.set_set] at this;exact this
theorem Lp (r:Run) (s:Sl×Sl) (u:Nat) (w:World) (hl:C9 r<=2000000) (hR:J9 r u) (h:Co.rd w w r s) :
  Calls An 212 #[Hc r s,J U u] w (Fc Co Hc (Eb r u) w):=by
 have CP:=Bp (fun W (hW:Below w w W)=>Hp r s W hl (Co.rd_more (Co.rd_below h hW) hW.size));have CR:=Bp (fun W (hW:Below w w W)=>Qq r s u W hl (Co.rd_more (Co.rd_below h hW) hW.size));rw [D6 hR] at CR;have ht:u<r.tasks.length:=by have:=hR.2.1.2;omega
 have aK:r.tasks.length<=2000000:=Ah (Ct G8 _) (by unfold C9 at hl;omega);have dI:=Bp (Cn ht);obtain ⟨⟨A1,n1,c1⟩,⟨A2,n2,c2⟩⟩:=s;obtain rfl:n2=r.tasks.length:=RdL.at1 (s:=⟨A2,n2,c2⟩) h.2;clear h hl hR;have jU:(u:Int)<(r.tasks.length:Int):=Bk;have gQ:(0:Int)<=(u:Int):=Bk;have X:=(DBox.new 89 [J U r.id,J U r.plan.prio,J U r.plan.most,J U r.plan.wait,J U r.plan.tasks,Aa A1 n1 c1,J U r.state,Aa A2 r.tasks.length c2] w (b:=w.heap.size) rfl).below ((Bq _ _).alloc (Br _) (.cells #[J U 0,J U 0,J U 0,J U 0,J U 0,Aa Ab 0 0,J U 0,Aa Ab 0 0] 89));have RES:=DBox.new 89 [J U 0,J U 0,J U 0,J U 0,J U 0,Aa Ab 0 0,J U 0,Aa Ab 0 0] (w.alloc (.cells #[J U r.id,J U r.plan.prio,J U r.plan.most,J U r.plan.wait,J U r.plan.tasks,Aa A1 n1 c1,J U r.state,Aa A2 r.tasks.length c2] 89)) (b:=w.heap.size+1) Bm;have B0:Below w w ((w.alloc (.cells #[J U r.id,J U r.plan.prio,J U r.plan.most,J U r.plan.wait,J U r.plan.tasks,Aa A1 n1 c1,J U r.state,Aa A2 r.tasks.length c2] 89)).alloc (.cells #[J U 0,J U 0,J U 0,J U 0,J U 0,Aa Ab 0 0,J U 0,Aa Ab 0 0] 89)):=by repeat (first | exact Bq _ _ | refine Ae ?_ Bn _)
 go_enter Tryz.func212,Tryz.ntmps212;go_wp2_with fail
 refine (CP.out _ B0).mono ?_;rintro e w1 ⟨⟨⟨A3,n3,c3⟩,⟨A4,n4,c4⟩⟩,F,rfl,o1,nF,b1⟩;obtain ⟨F1,F2,rfl,bM,op,ot⟩:=o1;replace ot:OwL Eo w1 F2 (Aa A4 n4 c4) r.tasks:=ot;obtain rfl:n4=r.tasks.length:=RdL.at1 (s:=⟨A4,n4,c4⟩) ot.rd;have oh:=N7 ot;clear ot CP;obtain ⟨b,o,rfl,aG,d0,d1,d2,d3⟩:=oh.rd.tsk ht;clear d0 d1 d2 d3;have hBw:=B0.size;obtain ⟨rfl,bI,hbf⟩:=oh.block Bk;have eK:=nF b Bm;have kL:=X.lt;have jQ:=RES.lt;replace B0:=Bs B0 b1;replace X:=X.below b1;replace RES:=RES.below b1;clear b1;go_upto_region 2 with fail
 have OB:=DBox.new 89 [J U r.id,J U r.plan.prio,J U r.plan.most,J U r.plan.wait,J U r.plan.tasks,Aa A3 n3 c3,J U r.state,Aa (Ac ⟨b,o,Ab⟩) r.tasks.length c4] w1 (b:=w1.heap.size) rfl;have b2:Below w1 w1 (w1.alloc (.cells #[J U r.id,J U r.plan.prio,J U r.plan.most,J U r.plan.wait,J U r.plan.tasks,Aa A3 n3 c3,J U r.state,Aa (Ac ⟨b,o,Ab⟩) r.tasks.length c4] 89)):=(Bq _ _).alloc (Br _) _;have B2:=Bs B0 b2;replace X:=X.below b2;replace RES:=RES.below b2;replace oh:=oh.below b2;have op2:=Cm.ow_below op b2;have cI:=b2.size;have ow1:=OB.lt;clear op;generalize w1.alloc (.cells #[J U r.id,J U r.plan.prio,J U r.plan.most,J U r.plan.wait,J U r.plan.tasks,Aa A3 n3 c3,J U r.state,Aa (Ac ⟨b,o,Ab⟩) r.tasks.length c4] 89)=w2 at *
 have X_:=X.g8;go_wp2_with fail
 refine (CR.out _ B2).mono ?_;rintro e w3 ⟨rfl,b3⟩;have B3:=Bs B2 b3;clear X_;replace X:=X.below b3;replace RES:=RES.below b3;replace OB:=OB.below b3;replace oh:=oh.below b3;have op3:=Cm.ow_below op2 b3;have fV:=b3.size;clear op2 CR b3;have X_:=X.g8;have OB_:=OB.g8;obtain ⟨b',o',bJ,bN,d0,d1,d2,d3⟩:=oh.rd.tsk ht;simp only [Option.some.injEq,Addr.mk.injEq,and_true] at bJ;obtain ⟨rfl,rfl⟩:=bJ;have jG:=(oh.block Bk).2.2;have eR:b∉F1:=fun hx=>(Ax.1 bM).2.2 b hx b Bm rfl;go_upto_region 6 with fail
 have oh4:Hw G4 ((w3.setCell ⟨b,o+u * 4+3,Ab⟩ (J U 0)).setCell ⟨b,o+u * 4,Ab⟩ (J U 2)) [b] (Aa (Ac ⟨b,o,Ab⟩) r.tasks.length c4) (r.tasks.set u ⟨2,r.tasks[u].need,r.tasks[u].try_,0⟩):=(oh.taskUntil ht 0).taskSt' ht 2;have hC:Chg [b] w3 ((w3.setCell ⟨b,o+u * 4+3,Ab⟩ (J U 0)).setCell ⟨b,o+u * 4,Ab⟩ (J U 2)):=(Chg.setCell w3 b _ _).trans (Chg.setCell _ b _ _);have op4:=Cm.ow_chg op3 hC (fun x hx h=>by simp only [Av] at h;subst h;exact eR hx);have B4:Below w w ((w3.setCell ⟨b,o+u * 4+3,Ab⟩ (J U 0)).setCell ⟨b,o+u * 4,Ab⟩ (J U 2)):=by
  repeat (first | (with_reducible exact B3) | refine Ad ?_ Bn _)
 clear OB_;clear X_;clear d0 d1 d2 d3 bN jG;replace OB:=OB.chg hC (by simp only [Av];omega);replace X:=X.chg hC (by simp only [Av];omega);replace RES:=RES.chg hC (by simp only [Av];omega);have jY:=hC.size;clear hC oh op3;generalize ((w3.setCell ⟨b,o+u * 4+3,Ab⟩ (J U 0)).setCell ⟨b,o+u * 4,Ab⟩ (J U 2))=w4 at *
 have OB_:=OB.g8;have RES_:=RES.g8;have X_:=X.g8;have rf:=RES.free;have hu2:u<(r.tasks.set u ⟨2,r.tasks[u].need,r.tasks[u].try_,0⟩).length:=by rw [Bg];exact ht
 obtain ⟨b',o',bJ,bN,d0,d1,d2,d3⟩:=oh4.rd.tsk hu2;simp only [Option.some.injEq,Addr.mk.injEq,and_true] at bJ;obtain ⟨rfl,rfl⟩:=bJ;rw [List.getElem_set_self] at d0 d1 d2 d3;have jG:=(oh4.block Bk).2.2;by_cases q:r.tasks[u].try_<r.plan.most
 ·have H:=Bp (show Eb r u=⟨r.id,r.plan,r.state,r.tasks.set u ⟨2,r.tasks[u].need,r.tasks[u].try_,0⟩⟩ by unfold Eb;rw [if_pos (by rw [dI.out];exact q),Qp ht]);have aJ:=Cy w4;have cB:b<w4:=Bk;refine Bv Bl Bl ?_;repeat (go_big_quiet_step (fail))
  refine Ak ?_;rintro w5 ⟨⟨_,b5⟩,rfl⟩;clear aJ d0 d1 d2 d3 bN jG;clear OB_;clear RES_;clear X_;replace OB:=OB.below b5;replace RES:=RES.below b5;clear X;have oh5:=oh4.below b5;have op5:=Cm.ow_below op4 b5;have B5:=Bs B4 b5;have nJ:=b5.size;clear rf;have OB_:=OB.g8;have RES_:=RES.g8;have rf:=RES.free;go_wp2;refine Aj (Qr (DBox.row8 RES rfl _ _ _ _ _ _ _ _)) rfl ⟨(⟨A3,n3,c3⟩,⟨Ac ⟨b,o,Ab⟩,r.tasks.length,c4⟩),F1 ++ [b],by rw [H.out],⟨F1,[b],rfl,bM,?_,?_⟩,?_,?_⟩
  ·have e2:w.heap.size+1∉F1:=fun hx=>by have:=nF _ (Be _ hx);omega
   rw [H.out];show Cm.ow _ F1 r.plan _;exact (by (repeat (refine Dt.ow_set Cm ?_ e2 _));exact op5)
  ·have e1:w.heap.size+1∉[b]:=by simp only [Av];omega
   rw [H.out];show OwL Eo _ [b] _ (r.tasks.set u ⟨2,r.tasks[u].need,r.tasks[u].try_,0⟩);exact K1 ((((((((oh5.set (a:=⟨w.heap.size+1,_,Ab⟩) e1 _).set (a:=⟨w.heap.size+1,_,Ab⟩) e1 _).set (a:=⟨w.heap.size+1,_,Ab⟩) e1 _).set (a:=⟨w.heap.size+1,_,Ab⟩) e1 _).set (a:=⟨w.heap.size+1,_,Ab⟩) e1 _).set (a:=⟨w.heap.size+1,_,Ab⟩) e1 _).set (a:=⟨w.heap.size+1,_,Ab⟩) e1 _).set (a:=⟨w.heap.size+1,_,Ab⟩) e1 _)
  ·intro x hx
   have:=nF x hx
   omega
  ·repeat (first | (with_reducible exact B5) | refine Ad ?_ Bn _)
 ·have H:=Bp (show Eb r u=Dp ⟨r.id,r.plan,r.state,r.tasks.set u ⟨5,r.tasks[u].need,r.tasks[u].try_,0⟩⟩ 3 by unfold Eb;rw [if_neg (by rw [dI.out];exact q),Qp ht]);have aJ:=Cy w4;have cB:b<w4:=Bk;refine Bv Bl Bl ?_;repeat (go_big_quiet_step (fail))
  refine Ak ?_;rintro w5 ⟨⟨_,b5⟩,rfl⟩;clear aJ d0 d1 d2 d3 bN jG;clear OB_;clear RES_;clear X_;replace OB:=OB.below b5;replace RES:=RES.below b5;clear X;have oh5:=oh4.below b5;have op5:=Cm.ow_below op4 b5;have B5:=Bs B4 b5;have nJ:=b5.size;clear rf;have OB_:=OB.g8;obtain ⟨b',o',bJ,bN,d0,d1,d2,d3⟩:=oh5.rd.tsk hu2;simp only [Option.some.injEq,Addr.mk.injEq,and_true] at bJ;obtain ⟨rfl,rfl⟩:=bJ;have jG:=(oh5.block Bk).2.2;go_upto_region 9 with fail
  have oh6:=oh5.taskSt' ht 5;have hC:=Chg.setCell w5 b (o+u * 4) (J U 5);have op6:=Cm.ow_chg op5 hC (fun x hx h=>by simp only [Av] at h;subst h;exact eR hx);have B6:Below w w (w5.setCell ⟨b,o+u * 4,Ab⟩ (J U 5)):=by
   repeat (first | (with_reducible exact B5) | refine Ad ?_ Bn _)
  clear OB_;clear d0 d1 d2 d3 bN jG;replace OB:=OB.chg hC (by simp only [Av];omega);replace RES:=RES.chg hC (by simp only [Av];omega);have nD:=hC.size;generalize w5.setCell ⟨b,o+u * 4,Ab⟩ (J U 5)=w6 at *
  have OB_:=OB.g8;have hlen6:=Bp (show (r.tasks.set u ⟨5,r.tasks[u].need,r.tasks[u].try_,0⟩).length=r.tasks.length from Bg);have CL:=Bp (Oz ⟨r.id,r.plan,r.state,r.tasks.set u ⟨5,r.tasks[u].need,r.tasks[u].try_,0⟩⟩ ⟨A3,n3,c3⟩ 3 b o c4 [b] w6 (by show (r.tasks.set u _).length<=2000000;rw [Bg];omega) (by show 0<(r.tasks.set u _).length;rw [Bg];omega) (by show Hw G4 w6 [b] (Aa _ (r.tasks.set u _).length c4) _;rw [Bg];exact oh6));unfold Rn at CL;dsimp only at CL;rw [hlen6.out] at CL;go_wp2_with fail
  refine CL.out.mono ?_;rintro e w7 ⟨rfl,oh7,c7⟩;have op7:=Cm.ow_chg op6 c7 (fun x hx h=>by simp only [Av] at h;subst h;exact eR hx);have B7:Below w w w7:=B6.trans (c7.below Bk (fun x hx=>by simp only [Av] at hx;omega));clear OB_;replace RES:=RES.chg c7 (by simp only [Av];omega);have RES_:=RES.g8;have rf:=RES.free;go_wp2;refine Aj (Qr (DBox.row8 RES rfl _ _ _ _ _ _ _ _)) rfl ⟨(⟨A3,n3,c3⟩,⟨Ac ⟨b,o,Ab⟩,r.tasks.length,c4⟩),F1 ++ [b],by rw [H.out],⟨F1,[b],rfl,bM,?_,?_⟩,?_,?_⟩
  ·have e2:w.heap.size+1∉F1:=fun hx=>by have:=nF _ (Be _ hx);omega
   rw [H.out];show Cm.ow _ F1 r.plan _;exact (by (repeat (refine Dt.ow_set Cm ?_ e2 _));exact op7)
  ·have e1:w.heap.size+1∉[b]:=by simp only [Av];omega
   rw [H.out];show OwL Eo _ [b] _ ((Dp ⟨r.id,r.plan,r.state,r.tasks.set u ⟨5,r.tasks[u].need,r.tasks[u].try_,0⟩⟩ 3).tasks);exact K1 ((((((((oh7.set (a:=⟨w.heap.size+1,_,Ab⟩) e1 _).set (a:=⟨w.heap.size+1,_,Ab⟩) e1 _).set (a:=⟨w.heap.size+1,_,Ab⟩) e1 _).set (a:=⟨w.heap.size+1,_,Ab⟩) e1 _).set (a:=⟨w.heap.size+1,_,Ab⟩) e1 _).set (a:=⟨w.heap.size+1,_,Ab⟩) e1 _).set (a:=⟨w.heap.size+1,_,Ab⟩) e1 _).set (a:=⟨w.heap.size+1,_,Ab⟩) e1 _)
  ·intro x hx
   have:=nF x hx
   omega
  ·repeat (first | (with_reducible exact B7) | refine Ad ?_ Bn _)
theorem Aac {b:Nat} {w:World} {u0 u1 u2 u3 u4 u5 u6 u7:Value} (X:DBox b [u0,u1,u2,u3,u4,u5,u6,u7] w) {v0 v1:Value} {rest:List Value} :
  (results Tryz.f214 (v0 :: v1 :: .pointer (Ac ⟨b,0,Ab⟩) :: rest).toArray).run An w = .ok (.agg #[u0,u1,u2,u3,u4,u5,u6,u7]) w:=by
 have c0:=X.cell 0 _ rfl;have c1:=X.cell 1 _ rfl;have c2:=X.cell 2 _ rfl;have c3:=X.cell 3 _ rfl;have c4:=X.cell 4 _ rfl;have c5:=X.cell 5 _ rfl;have c6:=X.cell 6 _ rfl;have c7:=X.cell 7 _ rfl;simp [results,Tryz.results214,go_sem,c0,c1,c2,c3,c4,c5,c6,c7]
theorem Yk (r:Run) (s:Sl×Sl) (w:World) (hl:C9 r<=2000000) (hR:Gg r) (hS:r.state=1) (hp:0<r.tasks.length) (h:Co.rd w w r s) :
  Calls An 214 #[Hc r s] w (Fc Co Hc (Dp r 4) w):=by
 have CP:=Bp (fun W (hW:Below w w W)=>Hp r s W hl (Co.rd_more (Co.rd_below h hW) hW.size));have CR:=Bp (fun W (hW:Below w w W)=>Lo r s W hl (Co.rd_more (Co.rd_below h hW) hW.size));rw [D6 hR] at CR;have aK:r.tasks.length<=2000000:=Ah (Ct G8 _) (by unfold C9 at hl;omega);obtain ⟨⟨A1,n1,c1⟩,⟨A2,n2,c2⟩⟩:=s;obtain rfl:n2=r.tasks.length:=RdL.at1 (s:=⟨A2,n2,c2⟩) h.2;clear h hl hR;have bL:(r.state != 1)=false:=by simp [hS]
 clear hS;have X:=(DBox.new 89 [J U r.id,J U r.plan.prio,J U r.plan.most,J U r.plan.wait,J U r.plan.tasks,Aa A1 n1 c1,J U r.state,Aa A2 r.tasks.length c2] w (b:=w.heap.size) rfl).below ((Bq _ _).alloc (Br _) (.cells #[J U 0,J U 0,J U 0,J U 0,J U 0,Aa Ab 0 0,J U 0,Aa Ab 0 0] 89));have RES:=DBox.new 89 [J U 0,J U 0,J U 0,J U 0,J U 0,Aa Ab 0 0,J U 0,Aa Ab 0 0] (w.alloc (.cells #[J U r.id,J U r.plan.prio,J U r.plan.most,J U r.plan.wait,J U r.plan.tasks,Aa A1 n1 c1,J U r.state,Aa A2 r.tasks.length c2] 89)) (b:=w.heap.size+1) Bm;have B0:Below w w ((w.alloc (.cells #[J U r.id,J U r.plan.prio,J U r.plan.most,J U r.plan.wait,J U r.plan.tasks,Aa A1 n1 c1,J U r.state,Aa A2 r.tasks.length c2] 89)).alloc (.cells #[J U 0,J U 0,J U 0,J U 0,J U 0,Aa Ab 0 0,J U 0,Aa Ab 0 0] 89)):=by repeat (first | exact Bq _ _ | refine Ae ?_ Bn _)
 go_enter Tryz.func214,Tryz.ntmps214;go_wp2_with fail
 refine (CP.out _ B0).mono ?_;rintro e w1 ⟨⟨⟨A3,n3,c3⟩,⟨A4,n4,c4⟩⟩,F,rfl,o1,nF,b1⟩;obtain ⟨F1,F2,rfl,bM,op,ot⟩:=o1;replace ot:OwL Eo w1 F2 (Aa A4 n4 c4) r.tasks:=ot;obtain rfl:n4=r.tasks.length:=RdL.at1 (s:=⟨A4,n4,c4⟩) ot.rd;have oh:=N7 ot;clear ot CP;obtain ⟨b,o,rfl,aG,d0,d1,d2,d3⟩:=oh.rd.tsk hp;clear d0 d1 d2 d3;have hBw:=B0.size;obtain ⟨rfl,bI,hbf⟩:=oh.block hp;have eK:=nF b Bm;have kL:=X.lt;have jQ:=RES.lt;replace B0:=Bs B0 b1;replace X:=X.below b1;replace RES:=RES.below b1;clear b1;go_upto_region 2 with fail
 have OB:=DBox.new 89 [J U r.id,J U r.plan.prio,J U r.plan.most,J U r.plan.wait,J U r.plan.tasks,Aa A3 n3 c3,J U r.state,Aa (Ac ⟨b,o,Ab⟩) r.tasks.length c4] w1 (b:=w1.heap.size) rfl;have b2:Below w1 w1 (w1.alloc (.cells #[J U r.id,J U r.plan.prio,J U r.plan.most,J U r.plan.wait,J U r.plan.tasks,Aa A3 n3 c3,J U r.state,Aa (Ac ⟨b,o,Ab⟩) r.tasks.length c4] 89)):=(Bq _ _).alloc (Br _) _;have B2:=Bs B0 b2;replace X:=X.below b2;replace RES:=RES.below b2;replace oh:=oh.below b2;have op2:=Cm.ow_below op b2;have cI:=b2.size;have ow1:=OB.lt;clear op;generalize w1.alloc (.cells #[J U r.id,J U r.plan.prio,J U r.plan.most,J U r.plan.wait,J U r.plan.tasks,Aa A3 n3 c3,J U r.state,Aa (Ac ⟨b,o,Ab⟩) r.tasks.length c4] 89)=w2 at *
 have X_:=X.g8;go_wp2_with fail
 refine (CR.out _ B2).mono ?_;rintro e w3 ⟨rfl,b3⟩;have B3:=Bs B2 b3;clear X_;replace X:=X.below b3;replace RES:=RES.below b3;replace OB:=OB.below b3;replace oh:=oh.below b3;have op3:=Cm.ow_below op2 b3;have fV:=b3.size;clear op2 CR b3;have X_:=X.g8;have OB_:=OB.g8;have eR:b∉F1:=fun hx=>(Ax.1 bM).2.2 b hx b Bm rfl;have CL:=Bp (Oz r ⟨A3,n3,c3⟩ 4 b o c4 [b] w3 aK hp oh);unfold Rn at CL;go_wp2_with fail
 refine CL.out.mono ?_;rintro e w7 ⟨rfl,oh7,c7⟩;have op7:=Cm.ow_chg op3 c7 (fun x hx h=>by simp only [Av] at h;subst h;exact eR hx);have B7:Below w w w7:=B3.trans (c7.below Bk (fun x hx=>by simp only [Av] at hx;omega));clear OB_;clear X_;replace RES:=RES.chg c7 (by simp only [Av];omega);have RES_:=RES.g8;have rf:=RES.free;go_wp2;refine Aj (Aac (DBox.row8 RES rfl _ _ _ _ _ _ _ _)) rfl ⟨(⟨A3,n3,c3⟩,⟨Ac ⟨b,o,Ab⟩,r.tasks.length,c4⟩),F1 ++ [b],rfl,⟨F1,[b],rfl,bM,?_,?_⟩,?_,?_⟩
 ·have e2:w.heap.size+1∉F1:=fun hx=>by have:=nF _ (Be _ hx);omega
  show Cm.ow _ F1 r.plan _;exact (by (repeat (refine Dt.ow_set Cm ?_ e2 _));exact op7)
 ·have e1:w.heap.size+1∉[b]:=by simp only [Av];omega
  show OwL Eo _ [b] _ (Dp r 4).tasks;exact K1 ((((((((oh7.set (a:=⟨w.heap.size+1,_,Ab⟩) e1 _).set (a:=⟨w.heap.size+1,_,Ab⟩) e1 _).set (a:=⟨w.heap.size+1,_,Ab⟩) e1 _).set (a:=⟨w.heap.size+1,_,Ab⟩) e1 _).set (a:=⟨w.heap.size+1,_,Ab⟩) e1 _).set (a:=⟨w.heap.size+1,_,Ab⟩) e1 _).set (a:=⟨w.heap.size+1,_,Ab⟩) e1 _).set (a:=⟨w.heap.size+1,_,Ab⟩) e1 _)
 ·intro x hx
  have:=nF x hx
  omega
 ·repeat (first | (with_reducible exact B7) | refine Ad ?_ Bn _)
section
def Iw (y:Yard) (id task try_:Int):Prop :=
 0<=Dh y id/\(0<=task/\task<(Ip y id).tasks.length)/\(Bx (Ip y id) task.toNat).state=3/\(Bx (Ip y id) task.toNat).try_=try_
theorem Wm (y:Yard) (s:Sl×Sl) (id tk tr:Int) (w:World) (hl:Ci y<=2000000) (h:Bu.rd w w y s) :
  Calls An 240 #[Du y s,J U id,J U tk,J U tr] w fun e' w'=>e' = .returned (.bool (tf (Iw y id tk tr)))/\Below w w w':=by
 have HR:=Bp (show ∀ W,Below w w W->Bu.rd W W y s from fun W hW=>Bu.rd_more (Bu.rd_below h hW) hW.size);obtain ⟨⟨A1,n1,c1⟩,⟨A2,n2,c2⟩⟩:=s;obtain rfl:n2=y.runs.length:=RdL.at1 (s:=⟨A2,n2,c2⟩) h.2;have h2:RdL Co w w (Aa A2 y.runs.length c2) y.runs:=h.2;have eD:y.runs.length<=2000000:=Ah (Ct C9 _) (by unfold Ci at hl;omega);have X:=DBox.new 31 [J U y.now,J U y.seq,Aa A1 n1 c1,Aa A2 y.runs.length c2] w (b:=w.heap.size) rfl;have B0:Below w w (w.alloc (.cells #[J U y.now,J U y.seq,Aa A1 n1 c1,Aa A2 y.runs.length c2] 31)):=by repeat (first | exact Bq _ _ | refine Ae ?_ Bn _)
 have C:=Ew y (⟨A1,n1,c1⟩,⟨A2,y.runs.length,c2⟩) id (w.alloc (.cells #[J U y.now,J U y.seq,Aa A1 n1 c1,Aa A2 y.runs.length c2] 31)) hl (HR.out _ B0);clear h;rcases Eu y id with hr | ⟨k,hk,hr⟩
 ·have H:=Bp (show tf (Iw y id tk tr)=false from Ck (fun hh=>by have:=hh.1;omega));rw [hr] at C;clear hr;go_enter Tryz.func240,Tryz.ntmps240;go_wp2_with fail
  generalize (w.alloc (.cells #[J U y.now,J U y.seq,Aa A1 n1 c1,Aa A2 y.runs.length c2] 31))=W at *
  refine C.mono ?_;rintro e1 w1 ⟨rfl,b1⟩;go_wp2;go_ret;exact ⟨Bw H.out.symm,Bs B0 b1⟩
 ·have kA:=Gu hl hk;have HR2:=Bp hr;rw [hr] at C;clear hr;have HK:=Bp (Gq hk HR2.out);go_enter Tryz.func240,Tryz.ntmps240;go_wp2_with fail
  generalize (w.alloc (.cells #[J U y.now,J U y.seq,Aa A1 n1 c1,Aa A2 y.runs.length c2] 31))=W at *
  refine C.mono ?_;rintro e1 w1 ⟨rfl,b1⟩;replace X:=X.below b1;have X_:=X.g4;replace B0:=Bs B0 b1;obtain ⟨b,o,⟨s1,⟨At,nt,ct⟩⟩,dL,aG,cE,c0_,c1_,c2_,c3_,c4_,c5_,c6_,c7_⟩:=(h2.below B0).run hk;subst dL;obtain rfl:nt=y.runs[k].tasks.length:=RdL.at1 (s:=⟨At,nt,ct⟩) cE.2;have h3:RdL Eo w1 w (Aa At y.runs[k].tasks.length ct) y.runs[k].tasks:=cE.2;have eC:(k:Int)<(y.runs.length:Int):=Bk;have hk00:(0:Int)<=(k:Int):=Bk;have cS:decide ((0:Int)<=(k:Int))=true:=decide_eq_true Bk;have bL:b<w1:=Ai aG B0.size;have wr1:U.wrap ((y.runs[k].tasks.length:Int) - 1)=(y.runs[k].tasks.length:Int) - 1:=Ar _ Bk;cases q:inB tk 0 ((y.runs[k].tasks.length:Int) - 1)
  ·have H:=Bp (show tf (Iw y id tk tr)=false from Ck (fun hh=>by
    have h5:=hh.2.1;rw [HK.out] at h5
    have:=Cp.2 (show 0<=tk/\tk<=(y.runs[k].tasks.length:Int) - 1 by omega)
    rw [q] at this;cases this))
   go_wp2_with (go_at_call 155;refine (Cf _ _ _ _).mono ?_;rintro e w9 ⟨rfl,rfl⟩;rw [q])
   go_ret;exact ⟨Bw H.out.symm,B0⟩
  ·have qq:=Cp.1 q;obtain ⟨t,rfl⟩:=Aq qq.1;have ht:t<y.runs[k].tasks.length:=Bk;obtain ⟨b',o',_,rY,bN,_,d0,d1,d2,d3⟩:=h3.task ht;subst rY;have cI:b'<w1:=Ai bN B0.size;have jU:(t:Int)<(y.runs[k].tasks.length:Int):=Bk;have gQ:(0:Int)<=(t:Int):=Bk;have H:=Bp (show tf (Iw y id t tr)=((y.runs[k].tasks[t].state == 3) && (y.runs[k].tasks[t].try_ == tr)) by
    rw [Bool.eq_iff_iff,Kw,Bool.and_eq_true,beq_iff_eq,beq_iff_eq];unfold Iw;rw [HK.out,Ap,Cn ht,HR2.out];constructor
    ·intro hh;exact hh.2.2
    ·intro hh;exact ⟨Bk,⟨Bk,Bk⟩,hh⟩)
   clear qq;generalize y.runs[k].tasks[t].state=st at *
   generalize y.runs[k].tasks[t].try_=ty at *
   cases q2:(st == 3)
   ·go_wp2_with (go_at_call 155;refine (Cf _ _ _ _).mono ?_;rintro e w9 ⟨rfl,rfl⟩;rw [q])
    go_ret;exact ⟨Bw (by rw [H.out,q2];rfl),B0⟩
   ·go_wp2_with (go_at_call 155;refine (Cf _ _ _ _).mono ?_;rintro e w9 ⟨rfl,rfl⟩;rw [q])
    go_ret;exact ⟨Bw (by rw [H.out,q2];rfl),B0⟩
open Classical in
noncomputable def Iq (y:Yard) (id tk tr:Int):Int:=if ¬ Dn y then 8 else if Dh y id<0 then 10 else if ¬ Iw y id tk tr then 11 else 0
theorem Sj (y:Yard) (s:Sl×Sl) (id tk tr:Int) (w:World) (hl:Ci y<=2000000) (h:Bu.rd w w y s) :
  Calls An 209 #[Du y s,J U id,J U tk,J U tr] w fun e' w'=>e' = .returned (J U (Iq y id tk tr))/\Below w w w':=by
 have HR:=Bp (show ∀ W,Below w w W->Bu.rd W W y s from fun W hW=>Bu.rd_more (Bu.rd_below h hW) hW.size);obtain ⟨⟨A1,n1,c1⟩,⟨A2,n2,c2⟩⟩:=s;have CY:=Bp (fun W hW=>Gj y (⟨A1,n1,c1⟩,⟨A2,n2,c2⟩) W hl (HR.out W hW));have CA:=Bp (fun W hW=>Ew y (⟨A1,n1,c1⟩,⟨A2,n2,c2⟩) id W hl (HR.out W hW));have CH:=Bp (fun W hW=>Wm y (⟨A1,n1,c1⟩,⟨A2,n2,c2⟩) id tk tr W hl (HR.out W hW));clear h;obtain ⟨W,aH,X,B0⟩:=bx1 w 31 [J U y.now,J U y.seq,Aa A1 n1 c1,Aa A2 n2 c2];go_enter Tryz.func209,Tryz.ntmps209;go_wp2_with fail
 rw [<-aH.out];clear aH;refine (CY.out _ B0).mono ?_;rintro e1 w1 ⟨rfl,b1⟩;replace X:=X.below b1;have X_:=X.g4;replace B0:=Bs B0 b1;by_cases p0:Dn y;case neg =>
  have H:=Bp (show Iq y id tk tr=8 from if_pos p0);rw [Ck p0];clear p0;go_wp2;go_ret;exact ⟨by rw [H.out];rfl,B0⟩
 rw [D6 p0];go_wp2_with fail
 refine (CA.out _ B0).mono ?_;rintro e1 w2 ⟨rfl,b2⟩;clear X_;replace X:=X.below b2;have X_:=X.g4;replace B0:=Bs B0 b2;by_cases p1:Dh y id<0
 ·have H:=Bp (show Iq y id tk tr=10 by unfold Iq;rw [if_neg (fun h=>h p0),if_pos p1]);clear p0;go_wp2;go_ret;exact ⟨by rw [H.out];rfl,B0⟩
 go_wp2_with fail
 refine (CH.out _ B0).mono ?_;rintro e1 w3 ⟨rfl,b3⟩;replace B0:=Bs B0 b3;by_cases p2:Iw y id tk tr
 ·have H:=Bp (show Iq y id tk tr=0 by unfold Iq;rw [if_neg (fun h=>h p0),if_neg Bk,if_neg (fun h=>h p2)]);rw [D6 p2];clear p0 p2;go_wp2;go_ret;exact ⟨by rw [H.out];rfl,B0⟩
 ·have H:=Bp (show Iq y id tk tr=11 by unfold Iq;rw [if_neg (fun h=>h p0),if_neg Bk,if_pos p2]);rw [Ck p2];clear p0 p2;go_wp2;go_ret;exact ⟨by rw [H.out];rfl,B0⟩
end
section
def Ma (z:Yard) (c:Int) (w:World) (e:Ending) (w':World):Prop :=
 ∃ s F,e = .returned (.tuple #[Du z s,J U c])/\Bu.ow w' F z s/\(∀ b∈F,w<=b)/\Below w w w'
theorem Aad {b:Nat} {w:World} {u0 u1 u2 u3:Value} (X:DBox b [u0,u1,u2,u3] w) {v0 v1 v2 v3 v4 v5 v6 v7 v9:Value} {rest:List Value} :
  (results Tryz.f146 (v0 :: v1 :: v2 :: v3 :: v4 :: v5 :: v6 :: v7 :: .pointer (Ac ⟨b,0,Ab⟩) :: v9 :: rest).toArray).run An w = .ok (.tuple #[.agg #[u0,u1,u2,u3],v9]) w:=by
 have c0:=X.cell 0 _ rfl;have c1:=X.cell 1 _ rfl;have c2:=X.cell 2 _ rfl;have c3:=X.cell 3 _ rfl;simp [results,Tryz.results146,go_sem,c0,c1,c2,c3]
theorem E0 {y:Yard} (h:Dn y) {k:Nat} (hk:k<y.runs.length):Gg y.runs[k]:=(h.2.2.2.2.2.2.2.1 k hk).1
theorem Fo {r:Run} (h:Gg r):1<=r.tasks.length/\r.tasks.length<=12:=by
 have h1:=Ee (C8.1 h.2.1).1;have h2:=h.2.2.1;omega
theorem Ho (r:Run) (t:Nat):(Eb r t).tasks.length=r.tasks.length:=by
 unfold Eb;split<;>simp [Dp,Hd]
open Classical in
noncomputable def M7 (y:Yard) (id tk tr:Int):Yard:=if Iq y id tk tr=0 then Gr y (Dh y id).toNat (Eb (Ip y id) tk.toNat) else y
theorem Yl (y:Yard) (s:Sl×Sl) (id tk tr:Int) (w:World) (hl:Ci y<=2000000) (h:Bu.rd w w y s) :
  Calls An 146 #[Du y s,J U id,J U tk,J U tr] w (Ma (M7 y id tk tr) (Iq y id tk tr) w):=by
 have HR:=Bp (show ∀ W,Below w w W->Bu.rd W W y s from fun W hW=>Bu.rd_more (Bu.rd_below h hW) hW.size);obtain ⟨⟨A1,n1,c1⟩,⟨A2,n2,c2⟩⟩:=s;have CC:=Bp (fun W hW=>Er y (⟨A1,n1,c1⟩,⟨A2,n2,c2⟩) W hl (HR.out W hW));have CK:=Bp (fun W hW=>Sj y (⟨A1,n1,c1⟩,⟨A2,n2,c2⟩) id tk tr W hl (HR.out W hW));have CA:=Bp (fun W hW=>Ew y (⟨A1,n1,c1⟩,⟨A2,n2,c2⟩) id W hl (HR.out W hW));clear h;obtain ⟨W,aH,X,RES,B0⟩:=bx2 w 31 [J U y.now,J U y.seq,Aa A1 n1 c1,Aa A2 n2 c2] 31 [J U 0,J U 0,Aa Ab 0 0,Aa Ab 0 0];go_enter Tryz.func146,Tryz.ntmps146;go_wp2_with fail
 rw [<-aH.out];clear aH;refine (CC.out _ B0).mono ?_;rintro e1 w1 ⟨⟨⟨B1,m1,e1⟩,⟨B2,m2,e2⟩⟩,F,rfl,oy,nF,b1⟩;have kL:=X.lt;have jQ:=RES.lt;replace X:=X.below b1;replace RES:=RES.below b1;replace B0:=Bs B0 b1;have cJ:=Bu.ow_lt (F:=F) (x:=y) (s:=(⟨B1,m1,e1⟩,⟨B2,m2,e2⟩)) oy;have bL:=b1.size;clear b1;go_upto_region 2 with fail
 have OB:=DBox.new 31 [J U y.now,J U y.seq,Aa B1 m1 e1,Aa B2 m2 e2] w1 (b:=w1.heap.size) rfl;have b2:Below w1 w1 (w1.alloc (.cells #[J U y.now,J U y.seq,Aa B1 m1 e1,Aa B2 m2 e2] 31)):=(Bq _ _).alloc (Br _) _;replace B0:=Bs B0 b2;replace X:=X.below b2;replace RES:=RES.below b2;replace oy:=Bu.ow_below (F:=F) (x:=y) (s:=(⟨B1,m1,e1⟩,⟨B2,m2,e2⟩)) oy b2;have cI:=b2.size;have ow1:=OB.lt;generalize w1.alloc (.cells #[J U y.now,J U y.seq,Aa B1 m1 e1,Aa B2 m2 e2] 31)=w2 at *
 have X_:=X.g4;go_wp2_with fail
 refine (CK.out _ B0).mono ?_;rintro e1 w3 ⟨rfl,b3⟩;replace B0:=Bs B0 b3;clear X_;replace X:=X.below b3;replace RES:=RES.below b3;replace OB:=OB.below b3;replace oy:=Bu.ow_below (F:=F) (x:=y) (s:=(⟨B1,m1,e1⟩,⟨B2,m2,e2⟩)) oy b3;have fV:=b3.size;clear b3 b2 CC CK;have X_:=X.g4;have OB_:=OB.g4;by_cases q:Iq y id tk tr=0;case neg =>
  have q2:(Iq y id tk tr != 0)=true:=by simp [q]
  have H:=Bp (show M7 y id tk tr=y from if_neg q);clear q;have RES_:=RES.g4;have rf:=RES.free;go_wp2;have en1:w.heap.size+1∉F:=fun hx=>by have:=nF _ hx;omega
  refine Aj (Aad (DBox.row4 RES rfl _ _ _ _)) rfl ⟨(⟨B1,m1,e1⟩,⟨B2,m2,e2⟩),F,by rw [H.out],by rw [H.out];exact (Bu.set4 (F:=F) (x:=y) (s:=(⟨B1,m1,e1⟩,⟨B2,m2,e2⟩)) oy en1),fun x hx=>by have:=nF x hx;omega,?_⟩;repeat (first | (with_reducible exact B0) | refine Ad ?_ Bn _)
 have q2:(Iq y id tk tr != 0)=false:=by simp [q]
 have H:=Bp (show M7 y id tk tr=Gr y (Dh y id).toNat (Eb (Ip y id) tk.toNat) from if_pos q);have HP:Hid (Dn y/\0<=Dh y id/\Iw y id tk tr):=by
  unfold Iq at q;by_cases p0:Dn y
  ·by_cases p1:Dh y id<0
   ·rw [if_neg (fun h=>h p0),if_pos p1] at q;cases q
   ·by_cases p2:Iw y id tk tr
    ·exact ⟨p0,Bk,p2⟩
    ·rw [if_neg (fun h=>h p0),if_neg p1,if_pos p2] at q;cases q
  ·rw [if_pos p0] at q;cases q
 have Hq:=Bp q;clear q;rcases Eu y id with hr | ⟨k,hk,hr⟩
 ·exact absurd HP.out.2.1 Bk
 have HK:=Bp (Gq hk hr);have HR2:=Bp hr;clear hr;have bH:=Bp (E0 HP.out.1 hk);have hth:=Bp HP.out.2.2;have dI:Hid ((0<=tk/\tk<(y.runs[k].tasks.length:Int))/\(Bx y.runs[k] tk.toNat).state=3):=by
  have:=hth.out
  unfold Iw at this;rw [HK.out] at this;exact ⟨this.2.1,this.2.2.1⟩
 obtain ⟨u,rfl⟩:=Aq dI.out.1.1;have hu:u<y.runs[k].tasks.length:=by have:=dI.out.1.2;omega
 have eJ:Hid (J9 y.runs[k] u):=⟨bH.out,⟨Bk,Bk⟩,dI.out.2⟩
 go_wp2_with fail
 refine (CA.out _ B0).mono ?_;rintro e2' w4 ⟨rfl,b4⟩;rw [HR2.out];replace B0:=Bs B0 b4;clear X_;clear OB_;clear X;replace RES:=RES.below b4;replace OB:=OB.below b4;replace oy:Bu.ow w4 F y (⟨B1,m1,e1⟩,⟨B2,m2,e2⟩):=owB oy b4;have jY:=b4.size;clear b4 CA;have oy2:=oy;obtain ⟨F1,F2,rfl,bM,os,orr⟩:=oy2;replace orr:OwL Co w4 F2 (Aa B2 m2 e2) y.runs:=orr;obtain rfl:m2=y.runs.length:=RdL.at1 (s:=⟨B2,m2,e2⟩) orr.rd;obtain ⟨gr,o2,sk,rfl,cC,bP,c0,c1_,c2_,c3,c4,c5,c6,c7⟩:=orr.rd.run hk;have eC:(k:Int)<(y.runs.length:Int):=Bk;have cS:(0:Int)<=(k:Int):=Bk;go_wp2;refine Go.wp_region_noPanic ?_;refine wp_region_held_drew (S:=(fun w'=>DBox w1 [J U y.now,J U y.seq,Aa B1 m1 e1,Aa (Ac ⟨gr,o2,Ab⟩) y.runs.length e2] w')) Bl (DBox.drew4 OB) (fun hHeld=>?_);refine tY 0 ?_
 (try simp only [pS])
 refine tY 1 ?_
 (try simp only [pS])
 refine tY 2 ?_
 (try simp only [pS])
 refine tY 3 ?_
 (try simp only [pS])
 refine tY 4 ?_
 (try simp only [pS])
 refine tY 5 ?_
 (try simp only [pS])
 refine tY 7 ?_
 (try simp only [pS])
 have bd:Below w4 w4 w4.drew:=(Bq _ _).drew;replace B0:=Bs B0 bd;replace RES:=RES.below bd;replace OB:=OB.below bd;replace oy:Bu.ow w4.drew (F1 ++ F2) y (⟨B1,m1,e1⟩,⟨Ac ⟨gr,o2,Ab⟩,y.runs.length,e2⟩):=Bu.ow_below (F:=F1 ++ F2) (x:=y) (s:=(⟨B1,m1,e1⟩,⟨Ac ⟨gr,o2,Ab⟩,y.runs.length,e2⟩)) oy bd;refine rC 6 (fun K_ hK=>?_);go_simp;refine hK.out _ _ OB (fun hHeld=>?_);clear hK K_
 (try simp only [pS])
 have jA:=Gu hl hk;have hrk2:Co.rd w4.drew w4.drew y.runs[k] sk:=Co.rd_below bP bd;have hcrun:C9 y.runs[k]<=2000000:=by
  have h1:=Fk (cnt:=C9) (Aw hk);unfold Ci at hl;omega
 have CF:=Bp (Lp y.runs[k] sk u w4.drew hcrun eJ.out hrk2);clear c0 c1_ c2_ c3 c4 c5 c6 c7;refine rC 8 (fun K_ hK=>?_);go_simp;refine CF.out.mono ?_;rintro e3 w5 ⟨sr,Fr,rfl,orn,nFr,b5⟩;refine hK.out _ _ (OB.below b5) (fun hHeld=>?_);clear hK K_
 (try simp only [pS])
 have pN:w4.drew.heap.size=w4.heap.size:=rfl;have nJ:=b5.size;have qM:=Fo bH.out;have CT:=Bp (Kk y (⟨B1,m1,e1⟩,⟨Ac ⟨gr,o2,Ab⟩,y.runs.length,e2⟩) k (Eb y.runs[k] u) sr w5 (F1 ++ F2) Fr HP.out.1.2.2.1 (fun s hs=>by have:=(HP.out.1.2.2.2.1 s hs).1;omega) (by have:=HP.out.1.2.1;omega) hk (by rw [Ho];omega) Bk (Bu.ow_below (F:=F1 ++ F2) (x:=y) (s:=(⟨B1,m1,e1⟩,⟨Ac ⟨gr,o2,Ab⟩,y.runs.length,e2⟩)) oy b5) orn (fun x hx bF=>by have h1:=nFr x hx;have h2:=cJ x bF;omega));have HF:=Bp (show M7 y id u tr=Gr y k (Eb y.runs[k] u) by rw [H.out,HR2.out,HK.out,Ap,Ap]);clear H;refine rC 9 (fun K_ hK=>?_);go_simp;refine CT.out.mono ?_;rintro e4 w6 ⟨s5,F5,rfl,oy7,n5,c6⟩;have aC:w1.heap.size∉F1 ++ F2:=fun h=>by have:=cJ _ h;omega
 have gE:w.heap.size+1∉F1 ++ F2:=fun h=>by have:=nF _ h;omega
 have OB6:=(OB.below b5).chg c6 aC;have RES6:=(RES.below b5).chg c6 gE;have B6:Below w w w6:=(Bs B0 b5).trans (c6.below (by have:=(Bs B0 b5).size;omega) (fun x hx=>by have:=nF _ hx;omega));generalize Gr y k (Eb y.runs[k] u)=Z at *
 refine hK.out _ _ OB6 (fun hHeld=>?_);clear hK K_
 (try simp only [pS])
 have r0:=RES6.cell 0 _ rfl;have r1:=RES6.cell 1 _ rfl;have r2:=RES6.cell 2 _ rfl;have r3:=RES6.cell 3 _ rfl;have rl:=RES6.lt;have rf:=RES6.free;refine rC 10 (fun K_ hK=>?_);go_simp;have dQ:w1.heap.size≠w.heap.size+1:=Bk;refine hK.out _ _ ((((OB6.setOther (a:=⟨w.heap.size+1,_,Ab⟩) dQ _).setOther (a:=⟨w.heap.size+1,_,Ab⟩) dQ _).setOther (a:=⟨w.heap.size+1,_,Ab⟩) dQ _).setOther (a:=⟨w.heap.size+1,_,Ab⟩) dQ _) (fun hHeld=>?_);clear hK K_
 (try simp only [pS])
 refine rC 11 (fun K_ hK=>?_);go_simp;refine hK.out _ _ hHeld (fun hHeld=>?_);clear hK K_
 (try simp only [pS])
 refine wpAnyH_done Bl ?_ _;refine NoPanic.normal ?_;clear hHeld r0 r1 r2 r3 rf;have en5:w.heap.size+1∉F5:=fun hx=>by
  rcases n5 _ hx with h | h | h
  ·exact gE h
  ·have:=nFr _ h;omega
  ·omega
 have hZ:M7 y id u tr=Z:=HF.out;have H2:=Bp hZ;clear hZ;have Hq2:=Bp (show Iq y id u tr=0 from Hq.out);go_wp2;refine Aj (Aad (DBox.row4 RES6 rfl _ _ _ _)) rfl ⟨s5,F5,by rw [H2.out,Hq2.out],by rw [H2.out];exact (Bu.set4 (F:=F5) (x:=Z) (s:=s5) oy7 en5),fun x hx=>?_,?_⟩
 ·rcases n5 x hx with h | h | h
  ·have:=nF x h;omega
  ·have:=nFr x h;omega
  ·omega
 ·repeat (first | (with_reducible exact B6) | refine Ad ?_ Bn _)
end
noncomputable def M8 (y:Yard) (p:Plan):Bool:=decide (y.runs.length<8) && (inB p.tasks 0 12 && (decide ((Gt y:Int)+p.tasks<=40) && decide (y.seq<=999999000 - p.tasks)))
theorem Ym (y:Yard) (s:Sl×Sl) (p:Plan) (ve:Value) (w:World) (hl:Ci y<=2000000) (hS:Gt y<=40) (hq:0<=y.seq/\y.seq<=2000000000) (h:Bu.rd w w y s) :
  Calls An 200 #[Du y s,Gd p ve] w fun e' w'=>e' = .returned (.bool (M8 y p))/\Below w w w':=by
 have HR:=Bp (show ∀ W,Below w w W->Bu.rd W W y s from fun W hW=>Bu.rd_more (Bu.rd_below h hW) hW.size);obtain ⟨⟨A1,n1,c1⟩,⟨A2,n2,c2⟩⟩:=s;obtain rfl:n2=y.runs.length:=RdL.at1 (s:=⟨A2,n2,c2⟩) h.2;have CS:=Bp (fun W hW=>Ov y (⟨A1,n1,c1⟩,⟨A2,y.runs.length,c2⟩) W hl (HR.out W hW));clear h HR;have HD:=Bp (show M8 y p=(decide (y.runs.length<8) && (inB p.tasks 0 12 && (decide ((Gt y:Int)+p.tasks<=40) && decide (y.seq<=999999000 - p.tasks)))) from rfl);generalize M8 y p=D at *
 generalize Gt y=sn at *
 obtain ⟨W,aH,X,P,B0⟩:=bx2 w 31 [J U y.now,J U y.seq,Aa A1 n1 c1,Aa A2 y.runs.length c2] 43 [J U p.prio,J U p.most,J U p.wait,J U p.tasks,ve];go_enter Tryz.func200,Tryz.ntmps200;go_wp2;rw [<-aH.out];clear aH;have X_:=X.g4;have P_:=P.g5;have aJ:=Cy W;by_cases a:y.runs.length<8;case neg =>
  have aI:¬ (y.runs.length:Int)<8:=Bk;have aD:decide ((y.runs.length:Int)<8)=false:=decide_eq_false aI;have H:=Bp (show D=false by rw [HD.out,decide_eq_false a,Bool.false_and]);clear HD a;refine Bv Bl Bl ?_;repeat (go_big_quiet_step ((first | (go_at_call 155;exact Ed (fun u=>Cf _ _ _ u.1)) | (go_at_call 218;rename_i x;have h1:=CS.out x.1 (Bs B0 x.2);exact Ea h1))))
  refine Ak ?_;rintro _ ⟨⟨w3,b3⟩,rfl⟩;clear aJ;go_wp2;go_ret;exact ⟨Bw H.out.symm,Bs B0 b3⟩
 have aI:(y.runs.length:Int)<8:=Bk;have aD:decide ((y.runs.length:Int)<8)=true:=decide_eq_true aI;have HD:=Bp (HD.out.trans (by rw [decide_eq_true a,Bool.true_and]));clear a;cases c:inB p.tasks 0 12;case false =>
  have H:=Bp (show D=false by rw [HD.out,c,Bool.false_and]);clear HD;refine Bv Bl Bl ?_;repeat (go_big_quiet_step ((first | (go_at_call 155;exact Ed (fun u=>Cf _ _ _ u.1)) | (go_at_call 218;rename_i x;have h1:=CS.out x.1 (Bs B0 x.2);exact Ea h1))))
  refine Ak ?_;rintro _ ⟨⟨w3,b3⟩,rfl⟩;clear aJ;go_wp2;go_ret;exact ⟨Bw H.out.symm,Bs B0 b3⟩
 have cc:=Cp.1 c;have HD:=Bp (HD.out.trans (by rw [c,Bool.true_and]));have wr1:U.wrap ((sn:Int)+p.tasks)=(sn:Int)+p.tasks:=Ar _ Bk;have wr2:U.wrap (999999000 - p.tasks)=999999000 - p.tasks:=Ar _ Bk;cases d:decide ((sn:Int)+p.tasks<=40);case false =>
  have H:=Bp (show D=false by rw [HD.out,d,Bool.false_and]);clear HD cc;refine Bv Bl Bl ?_;repeat (go_big_quiet_step ((first | (go_at_call 155;exact Ed (fun u=>Cf _ _ _ u.1)) | (go_at_call 218;rename_i x;have h1:=CS.out x.1 (Bs B0 x.2);exact Ea h1))))
  refine Ak ?_;rintro _ ⟨⟨w3,b3⟩,rfl⟩;clear aJ;go_wp2;go_ret;exact ⟨Bw H.out.symm,Bs B0 b3⟩
 have H:=Bp (show D=decide (y.seq<=999999000 - p.tasks) by rw [HD.out,d,Bool.true_and]);clear HD cc;cases e:decide (y.seq<=999999000 - p.tasks);all_goals
  rw [e] at H;refine Bv Bl Bl ?_;repeat (go_big_quiet_step ((first | (go_at_call 155;exact Ed (fun u=>Cf _ _ _ u.1)) | (go_at_call 218;rename_i x;have h1:=CS.out x.1 (Bs B0 x.2);exact Ea h1))))
  refine Ak ?_;rintro _ ⟨⟨w3,b3⟩,rfl⟩;clear aJ;go_wp2;go_ret;exact ⟨Bw H.out.symm,Bs B0 b3⟩
theorem Pn (es:List (Nat×Nat)) (T t:Nat):∀ x∈Eg es T t,x<T:=by
 induction T with
 | zero =>
  intro x hx
  have:=Nh es 0 t
  have h0:Eg es 0 t=[]:=List.eq_nil_of_length_eq_zero Bk;rw [h0] at hx;cases hx
 | succ T ih =>
  intro x hx;rw [Qb] at hx;rcases Bh.1 hx with h | h
  ·have:=ih x h;omega
  ·unfold H8 at h;split at h
   ·simp at h;omega
   ·cases h
def Ael (r:Run) (u:Nat) (L:List Nat):List Task:=L.foldl (fun l b=>Hx l b Ds) (Hx r.tasks u fun x=>⟨4,x.need,x.try_,0⟩)
theorem N8 (r:Run) (u:Nat):∀ (L:List Nat) (l:List Task),(L.foldl (fun l b=>Hx l b Ds) l).length=l.length
 | [],l=>rfl
 | b :: L,l=>by rw [List.foldl_cons,N8 r u L,Hd]
theorem Xe (L:List Nat):∀ (l:List Task) (m:Int),(∀ x∈l,-m<=x.need/\x.need<=1000/\1<=x.state/\x.state<=6)->(0<=m) -> ∀ x∈L.foldl (fun l b=>Hx l b Ds) l,-(m+L.length)<=x.need/\x.need<=1000/\1<=x.state/\x.state<=6:=by
 induction L with
 | nil=>intro l m h _ x hx;have:=h x hx;simp;exact this
 | cons b L ih =>
  intro l m h hm x hx;rw [List.foldl_cons] at hx;have h1:∀ x∈Hx l b Ds,-(m+1)<=x.need/\x.need<=1000/\1<=x.state/\x.state<=6:=by
   intro x hx;unfold Hx at hx;rcases List.mem_or_eq_of_mem_set hx with h2 | h2
   ·have:=h x h2;omega
   ·subst h2;by_cases hb:b<l.length
    ·rw [List.getD_eq_getElem?_getD,List.getElem?_eq_getElem hb]
     have:=h _ (Aw hb)
     simp only [Option.getD_some,Ds];split<;>omega
    ·rw [List.set_eq_of_length_le Bk] at hx
     have:=h _ hx
     omega
  have:=ih _ (m+1) h1 Bk x hx
  rw [List.length_cons];omega
theorem Nr (s:Int) (y:Task):∀ (l:List Task) (k:Nat) (hk:k<l.length),Dd (l.set k y) s+(if l[k].state=s then 1 else 0)=Dd l s+(if y.state=s then 1 else 0)
 | x :: l,0,_=>by
  unfold Dd;by_cases h1:x.state=s<;>by_cases h2:y.state=s<;>simp [h1,h2]
 | x :: l,k+1,hk=>by
  have ih:=Nr s y l k (by simpa using hk);unfold Dd at *
  by_cases h1:x.state=s
  ·simp only [List.set_cons_succ,List.getElem_cons_succ,List.filter_cons,beq_iff_eq,h1,if_true,List.length_cons];omega
  ·simp only [List.set_cons_succ,List.getElem_cons_succ,List.filter_cons,beq_iff_eq,h1,if_false];exact ih
theorem Ie {l:List Task} {t:Nat} (h:t<l.length) (f:Task->Task):Hx l t f=l.set t (f l[t]):=by
 unfold Hx;rw [List.getD_eq_getElem?_getD,List.getElem?_eq_getElem h];rfl
theorem Kl {r r':Run} {l:List Nat} (h:∀ b,(Bx r b).state=4 ↔ (Bx r' b).state=4):Fi r l=Fi r' l:=by
 unfold Fi;congr 1;apply List.filter_congr;intro b _;by_cases q:(Bx r b).state=4
 ·simp [q,(h b).1 q]
 ·have q':¬ (Bx r' b).state=4:=fun hh=>q ((h b).2 hh);rw [show ((Bx r b).state != 4)=true from bne_iff_ne.2 q,show ((Bx r' b).state != 4)=true from bne_iff_ne.2 q']
theorem Mb (x:Task):(D9 x).state=4/\x.state=4\/(D9 x).state=5/\x.state=5\/(D9 x).state=6/\x.state≠4/\x.state≠5:=by
 unfold D9;by_cases h4:x.state=4
 ·simp [h4]
 ·by_cases h5:x.state=5
  ·simp [h5]
  ·simp [h4,h5]
theorem Xf (l:List Task):Dd (l.map D9) 4=Dd l 4/\Dd (l.map D9) 5=Dd l 5/\Ja (l.map D9)=0:=by
 induction l with
 | nil=>exact ⟨rfl,rfl,rfl⟩
 | cons x l ih =>
  have hc:∀ (y:Task) (l:List Task) s,Dd (y :: l) s=(if y.state=s then 1 else 0)+Dd l s:=by
   intro y l s;unfold Dd;by_cases h:y.state=s<;>simp [h];omega
  obtain ⟨h1,h2,h3⟩:=ih;unfold Ja at *
  simp only [List.map_cons,hc];rcases Mb x with ⟨a,b⟩ | ⟨a,b⟩ | ⟨a,b,c⟩
  ·simp [a,b,h1,h2];omega
  ·simp [a,b,h1,h2];omega
  ·simp [a,b,c,h1,h2];omega
theorem I1 (i:Int) (p:Plan) (s:Int) (l:List Task) (k:Nat):Bx ⟨i,p,s,l⟩ k=l.getD k ⟨0,0,0,0⟩:=rfl
theorem Mc {l:List Task} {s:Int} {k:Nat} (hk:k<l.length) (h:l[k].state=s):1<=Dd l s:=by
 unfold Dd;apply List.length_pos_of_mem (a:=l[k]);rw [List.mem_filter];exact ⟨Aw hk,by simp [h]⟩
theorem Afi {l:List Task} {s:Int} {k:Nat} (hk:k<l.length) (h:¬ l[k].state=s):Dd l s<l.length:=by
 unfold Dd;rcases Nat.lt_or_ge (l.filter fun x=>x.state == s).length l.length with h1 | h1
 ·exact h1
 ·have h2:=List.filter_sublist (p:=fun x:Task=>x.state == s) (l:=l);have h3:=h2.eq_of_length_le h1;have h4:l[k]∈(l.filter fun x=>x.state == s):=by rw [h3];exact Aw hk
  rw [List.mem_filter] at h4;exact absurd (by simpa using h4.2) h
theorem Po {r:Run} {u:Nat} (h:J9 r u):Dd r.tasks 5=0/\Dd r.tasks 6=0/\Dd r.tasks 4<r.tasks.length/\r.state=1:=by
 obtain ⟨hr,⟨_,hu⟩,hs⟩:=h;have gX:u<r.tasks.length:=Bk;rw [Ap,Cn gX] at hs;have h3:=Mc gX hs;have h4:=Afi (s:=4) gX Bk;have h5:=hr.2.2.2.2.1;have h6:=hr.2.2.2.2.2;have hR:¬ Ja r.tasks=0:=by unfold Ja;omega
 unfold stL at h5;rw [if_neg Bk,if_neg (fun hh=>hR hh.2),if_neg (fun hh=>hR hh.2.2)] at h5;by_cases q:Dd r.tasks 5=0/\Dd r.tasks 6=0
 ·rw [if_pos q] at h5;exact ⟨q.1,q.2,h4,h5⟩
 ·rw [if_neg q] at h5;exact absurd h5 h6
theorem Md (r:Run) (u:Nat):(Eb r u).id=r.id/\(Eb r u).plan=r.plan:=by
 unfold Eb;split<;>exact ⟨rfl,rfl⟩
theorem Sk {r:Run} {u:Nat} (h:J9 r u):Gg (Eb r u):=by
 obtain ⟨l5,l6,l4,ls⟩:=Po h;obtain ⟨hr,⟨_,hu⟩,hs⟩:=h;have gX:u<r.tasks.length:=Bk;rw [Ap] at hs;have hsu:=hs;rw [Cn gX] at hs;obtain ⟨a1,a2,a3,a4,a5,a6⟩:=hr;have hq:=a4 u gX;unfold Gl at hq;rw [Cn gX] at hq;obtain ⟨q1,q2,q3,q4,q5,q6,q7,q8⟩:=hq;have hgetS:∀ (y:Task) b,(r.tasks.set u y).getD b ⟨0,0,0,0⟩=if b=u then y else Bx r b:=by
  intro y b;unfold Bx;rw [List.getD_eq_getElem?_getD,List.getD_eq_getElem?_getD,List.getElem?_set];by_cases e:u=b
  ·subst e;simp [gX]
  ·rw [if_neg e,if_neg (fun hh=>e hh.symm)]
 unfold Eb;split
 ·next ht =>
  rw [Cn gX] at ht;rw [Ie gX];refine ⟨a1,a2,by simpa using a3,?_,?_,a6⟩
  ·intro t cU;have htl':t<r.tasks.length:=by simpa using cU
   have hN:Fu ⟨r.id,r.plan,r.state,r.tasks.set u ⟨2,r.tasks[u].need,r.tasks[u].try_,0⟩⟩ t=Fu r t:=by
    unfold Fu;apply Kl;intro b;rw [I1,hgetS];by_cases e:b=u
    ·subst e;rw [if_pos rfl];simp [hsu]
    ·rw [if_neg e]
   unfold Gl;rw [hN,I1,hgetS];by_cases e:t=u
   ·subst e;rw [if_pos rfl]
    have:=q8 (.inl hs)
    refine ⟨Bm,q2,q3,Bm,Bm,Bm,?_,Bm⟩;intro _;exact ⟨this.1,ht⟩
   ·rw [if_neg e];exact a4 t htl'
  ·have c:=fun s=>Nr s ⟨2,r.tasks[u].need,r.tasks[u].try_,0⟩ r.tasks u gX;have c1:=c 1;have c2:=c 2;have c3:=c 3;have c4:=c 4;have c5:=c 5;have c6:=c 6;simp only [hs] at c1 c2 c3 c4 c5 c6;simp at c1 c2 c3 c4 c5 c6;show r.state=stL (r.tasks.set u ⟨2,r.tasks[u].need,r.tasks[u].try_,0⟩);rw [ls];unfold stL;have hR:¬ Ja (r.tasks.set u ⟨2,r.tasks[u].need,r.tasks[u].try_,0⟩)=0:=by unfold Ja;omega
   rw [if_neg (by rw [Bg];omega),if_neg (fun hh=>hR hh.2),if_neg (fun hh=>hR hh.2.2),if_pos Bk]
 ·next ht =>
  rw [Cn gX] at ht;rw [Ie gX];have hX:∀ b,Bx (Dp ⟨r.id,r.plan,r.state,r.tasks.set u ⟨5,r.tasks[u].need,r.tasks[u].try_,0⟩⟩ 3) b=if b<r.tasks.length then D9 (if b=u then ⟨5,r.tasks[u].need,r.tasks[u].try_,0⟩ else Bx r b) else ⟨0,0,0,0⟩:=by
   intro b;unfold Dp;rw [I1,List.getD_eq_getElem?_getD,List.getElem?_map];by_cases e:b<r.tasks.length
   ·rw [if_pos e,<-hgetS,List.getD_eq_getElem?_getD,List.getElem?_eq_getElem (by rw [Bg];exact e)];rfl
   ·rw [if_neg e,List.getElem?_eq_none (by rw [Bg];omega)];rfl
  refine ⟨a1,a2,by simpa [Dp] using a3,?_,?_,by simp [Dp]⟩
  ·intro t cU;have htl':t<r.tasks.length:=by simpa [Dp] using cU
   have hN:Fu (Dp ⟨r.id,r.plan,r.state,r.tasks.set u ⟨5,r.tasks[u].need,r.tasks[u].try_,0⟩⟩ 3) t=Fu r t:=by
    show Fi _ _=Fi _ _;apply Kl;intro b;rw [hX];by_cases e:b<r.tasks.length
    ·rw [if_pos e];by_cases e2:b=u
     ·subst e2;rw [if_pos rfl];simp [hsu,D9]
     ·rw [if_neg e2];rcases Mb (Bx r b) with ⟨a,b⟩ | ⟨a,b⟩ | ⟨a,b,c⟩
      ·simp [a,b]
      ·simp [a,b]
      ·simp [a,b]
    ·rw [if_neg e];unfold Bx;rw [List.getD_eq_getElem?_getD,List.getElem?_eq_none Bk];simp
   unfold Gl;rw [hN,hX,if_pos htl'];show Lh _ _ r.plan.most;by_cases e:t=u
   ·subst e;rw [if_pos rfl]
    have:=q8 (.inl hs)
    unfold D9;rw [if_neg Bm];refine ⟨Bm,q2,q3,Bm,Bm,Bm,Bm,?_⟩;intro _;exact this
   ·rw [if_neg e];obtain ⟨p1,p2,p3,p4,p5,p6,p7,p8⟩:=a4 t htl';unfold D9;split
    ·refine ⟨Bm,p2,p3,Bm,Bm,Bm,Bm,Bm⟩
    ·exact ⟨p1,p2,p3,p4,p5,p6,p7,p8⟩
  ·have c:=fun s=>Nr s ⟨5,r.tasks[u].need,r.tasks[u].try_,0⟩ r.tasks u gX;have c4:=c 4;have c5:=c 5;simp only [hs] at c4 c5;simp at c4 c5;obtain ⟨m1,m2,m3⟩:=Xf (r.tasks.set u ⟨5,r.tasks[u].need,r.tasks[u].try_,0⟩);show (3:Int)=stL ((r.tasks.set u ⟨5,r.tasks[u].need,r.tasks[u].try_,0⟩).map D9);unfold stL;rw [if_neg (by rw [Au,Bg];omega),if_pos Bk]
theorem Qs {α:Type} {cnt:α->Nat} {K:Nat} : ∀ {l:List α},(∀ x∈l,cnt x<=K)->Jx cnt l<=l.length * (K+1)
 | [],_=>by simp [Jx]
 | x :: l,h=>by
  have ih:=Qs (cnt:=cnt) (K:=K) (l:=l) (fun y hy=>h y (List.mem_cons_of_mem _ hy))
  have:=h x (List.mem_cons_self ..)
  unfold Jx at *
  rw [List.map_cons,List.sum_cons,List.length_cons,Nat.succ_mul];omega
theorem Kp {r:Run} (h:Gg r):C9 r<=42:=by
 have h1:=E9 (C8.1 h.2.1).1;have h2:=Fo h;have e1:Js r.plan=r.plan.edges.length:=Iz (fun _=>rfl) _;have e2:Jx G8 r.tasks=r.tasks.length:=Iz (fun _=>rfl) _;unfold C9;omega
theorem N9 {y:Yard} {M:Nat} (h4:y.shelf.length=4) (hM:∀ s∈y.shelf,s.length<=M) (h8:y.runs.length<=8) (hr:∀ k (h:k<y.runs.length),Gg y.runs[k]):Ci y<=4 * (M+1)+344:=by
 have h1:Jx De y.shelf<=y.shelf.length * (M+1):=Qs (fun s hs=>by
  have e:De s=s.length:=Iz (fun _=>rfl) _;rw [e];exact hM s hs)
 have h2:Jx C9 y.runs<=y.runs.length * (42+1):=Qs (fun r jW=>by
  obtain ⟨k,hk,rfl⟩:=List.getElem_of_mem jW;exact Kp (hr k hk))
 rw [h4] at h1;have h3:y.runs.length * (42+1)<=8 * 43:=Nat.mul_le_mul_right _ h8;unfold Ci;omega
structure Trn (y:Yard) (m:Nat) (z:Yard):Prop where
 now:z.now=y.now
 four:z.shelf.length=4
 all:∀ s∈z.shelf,s.length<=80+12 * m
 seq:1<=z.seq/\z.seq<=1000000000+12 * m
 len:z.runs.length=y.runs.length
 le8:z.runs.length<=8
 run:∀ k (h:k<z.runs.length) (h':k<y.runs.length),Gg z.runs[k]/\z.runs[k].id=y.runs[k].id/\z.runs[k].tasks.length=y.runs[k].tasks.length
theorem Trn.start {y:Yard} (h:Dn y):Trn y 0 y :=
 ⟨rfl,h.2.2.1,fun s hs=>by have:=(h.2.2.2.1 s hs).1;omega,by have:=h.2.1;omega,rfl,h.2.2.2.2.2.2.1,fun k hk _=>⟨E0 h hk,rfl,rfl⟩⟩
theorem Trn.mono {y z:Yard} {m n:Nat} (h:Trn y m z) (hm:m<=n):Trn y n z :=
 ⟨h.now,h.four,fun s hs=>by have:=h.all s hs;omega,by have:=h.seq;omega,h.len,h.le8,h.run⟩
theorem Xg (y:Yard) (k:Nat) (r:Run) (hk:k<y.runs.length):Gr y k r=Hr ⟨y.now,y.seq,y.shelf,y.runs.set k r⟩ y.runs[k] r r.tasks.length:=by
 unfold Gr;rw [List.getD_eq_getElem?_getD,List.getElem?_eq_getElem hk];rfl
theorem Trn.step {y z:Yard} {m:Nat} (h:Trn y m z) {k u:Nat} (hk:k<z.runs.length) (hr:J9 z.runs[k] u):Trn y (m+1) (Gr z k (Eb z.runs[k] u)):=by
 have hR:=Sk hr;have hL:=Fo hR;rw [Xg _ _ _ hk];have hF:=Rm (y:=⟨z.now,z.seq,z.shelf,z.runs.set k (Eb z.runs[k] u)⟩) (was:=z.runs[k]) (r:=Eb z.runs[k] u) h.all (Eb z.runs[k] u).tasks.length;generalize Hr ⟨z.now,z.seq,z.shelf,z.runs.set k (Eb z.runs[k] u)⟩ z.runs[k] (Eb z.runs[k] u) (Eb z.runs[k] u).tasks.length=Z at *
 have e:Z.runs=z.runs.set k (Eb z.runs[k] u):=hF.runs;refine ⟨hF.now.trans h.now,hF.len.trans h.four,fun s hs=>by have:=hF.all s hs;omega,?_,by rw [e,Bg];exact h.len,by rw [e,Bg];exact h.le8,fun j hj hj'=>?_⟩
 ·have h1:=hF.seq;have h2:=h.seq;dsimp only at h1;omega
 ·have hjz:j<z.runs.length:=by rw [h.len];exact hj'
  have e2:Z.runs[j]=if k=j then Eb z.runs[k] u else z.runs[j]:=by
   rw [show Z.runs[j]=(z.runs.set k (Eb z.runs[k] u))[j]'(by rw [Bg];exact hjz) by simp only [e],List.getElem_set]
  rw [e2];have h1:=h.run j hjz hj';split
  ·next hkj =>
   subst hkj;exact ⟨hR,(Md _ _).1.trans h1.2.1,(Ho _ _).trans h1.2.2⟩
  ·exact h1
theorem Trn.cnt {y z:Yard} {m:Nat} (h:Trn y m z) (hm:m<=1000):Ci z<=2000000:=by
 have:=N9 h.four h.all h.le8 (fun k hk=>(h.run k hk (by rw [<-h.len];exact hk)).1)
 omega
theorem Aae {α:Type} {p:α->Bool} {l l':List α} (hl:l.length=l'.length) (h:∀ k (h1:k<l.length) (h2:k<l'.length),p l[k]=p l'[k]):E6 p l=E6 p l':=by
 rcases Lg p l' with e | ⟨k,hk,e⟩
 ·rw [e];refine Hg (fun j hj=>?_);rw [h j hj Bk];unfold E6 at e;cases q:l'.findIdx? p with
  | none =>
   rw [List.findIdx?_eq_none_iff] at q;exact q _ (Aw _)
  | some i=>rw [q] at e;exact absurd e Bm
 ·rw [e];unfold E6 at e;cases q:l'.findIdx? p with
  | none=>rw [q] at e;exact absurd e Bm
  | some i =>
   rw [q] at e;have e':i=k:=Int.ofNat.inj e;subst e';obtain ⟨h1,h2,h3⟩:=List.findIdx?_eq_some_iff_getElem.1 q;exact G7 Bk (fun j hj=>by rw [h j Bk Bk];simpa using h3 j hj) (by rw [h i Bk hk];exact h2)
theorem Trn.runAt {y z:Yard} {m:Nat} (h:Trn y m z) (id:Int):Dh z id=Dh y id:=by
 rw [Id h.le8,Id (by rw [<-h.len];exact h.le8)];exact Aae h.len (fun k h1 h2=>by unfold J1;rw [(h.run k h1 h2).2.1])
end Go.Proofs.YtonlnjdempbfoaaGreat
