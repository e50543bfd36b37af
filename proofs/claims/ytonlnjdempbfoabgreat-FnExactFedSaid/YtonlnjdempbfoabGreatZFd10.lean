/-
  l13Turn of the reference: a run of the yard is otherwise. Shelves of the program: Merged. A run's own tasks that are written; l09Leave of the reference.  stock 
-/
import Derived.Test.YtonlnjdempbfoabGreatZFd0
import Derived.Test.YtonlnjdempbfoabGreatZFd5
import Derived.Test.YtonlnjdempbfoabGreatZFd6
import Derived.Test.YtonlnjdempbfoabGreatZFd9
import Derived.Deep.Cut
namespace Go.Proofs.YtonlnjdempbfoabGreat
open Go.RowKit
set_option maxRecDepth 100000
set_option maxHeartbeats 4000000
set_option linter.unusedVariables false
set_option linter.unusedSimpArgs false
open Value renaming int->J,slice->Aa
open IntKind renaming i64->U
open Option renaming none->Ab,some->Ac
open Below renaming setCell->Ad,alloc->Ae
open Nat renaming zero_le->Ag,le_trans->Ah,lt_of_lt_of_le->Ai
open Go renaming bodyPost_ret->Aj
open Go.Proofs.Tryz renaming prog->Am
open Int renaming toNat_natCast->Ao,eq_ofNat_of_zero_le->Ap
open List renaming length_map->Ar,mem_singleton->Au,nodup_append->Ax,mem_append_right->Be,mem_append_left->Bf,take_of_length_le->Bg,length_set->Bh,mem_append->Bi
open Go.Proofs.Tryz
theorem OwL.elem {α:Type} {d:Dt α} {w:World} {F:List Nat} {b o n c:Nat} {l:List α} (h:OwL d w F (Aa (Ac ⟨b,o,Ab⟩) n c) l) {j:Nat} (hj:j<l.length) :
  ∃ (s:d.S) (Fx:List Nat),d.ow w Fx l[j] s/\(∀ x∈Fx,x∈F)/\b∉Fx/\b∈F/\(∀ i,w.frozen? ⟨b,i,Ab⟩=false)/\(∀ i u,(d.enc.cells (l[j],s))[i]? = Ac u->w.cell? ⟨b,o+j * d.enc.sz+i,Ab⟩=Ac u):=by
 obtain ⟨rs,H,G,hm,hh,ho,rfl,hn⟩:=h;subst hm;have kW:j<rs.length:=by rw [Ar] at hj;exact hj
 obtain ⟨b',o',hA,rfl,mP,hf⟩:=hh.at_ Bl;simp only [Option.some.injEq,Addr.mk.injEq,and_true] at hA;obtain ⟨rfl,rfl⟩:=hA;obtain ⟨F1,F2,rfl,h1,h2⟩:=ho.split j Bl;rw [List.drop_eq_getElem_cons kW] at h2;obtain ⟨Fx,F3,rfl,h3,h4⟩:=h2.head;have gK:b∉F1 ++ (Fx ++ F3):=by
  have:=hn
  simp only [List.singleton_append,List.nodup_cons] at this;exact this.1
 have e:(rs.map (·.1))[j]'(by rw [Ar];exact kW)=rs[j].1:=by rw [List.getElem_map]
 refine ⟨rs[j].2,Fx,by rw [e];exact h3,fun x hx=>by simp [hx],fun hx=>gK (by simp [hx]),Bn,hf,fun i u hu=>?_⟩;rw [e] at hu;obtain ⟨A',c',hv,_,hA⟩:=hh.rd;simp only [Value.slice.injEq] at hv;obtain ⟨rfl,_,_⟩:=hv;obtain ⟨b2,o2,eN,_,hc⟩:=hA Bl;simp only [Option.some.injEq,Addr.mk.injEq,and_true] at eN;obtain ⟨rfl,rfl⟩:=eN;exact hc j kW i u hu
theorem Af9 {b:Nat} {w:World} {u0 u1 u2 u3:Value} (X:DBox b [u0,u1,u2,u3] w) {v0 v1 v2 v3 v4 v5:Value} {rest:List Value} :
  (results Tryz.f212 (v0 :: v1 :: v2 :: v3 :: v4 :: v5 :: .pointer (Ac ⟨b,0,Ab⟩) :: rest).toArray).run Am w = .ok (.agg #[u0,u1,u2,u3]) w:=by
 have c0:=X.cell 0 _ rfl;have c1:=X.cell 1 _ rfl;have c2:=X.cell 2 _ rfl;have c3:=X.cell 3 _ rfl;simp [results,results212,go_sem,c0,c1,c2,c3]
def Aga (z:Yard) (F Fr:List Nat) (w:World) (e:Ending) (w':World):Prop :=
 ∃ (s':Sl×Sl) (F':List Nat),e = .returned (Dm z s')/\Bv.ow w' F' z s'/\(∀ x∈F',x∈F\/x∈Fr\/w<=x)/\Chg F w w'
theorem Le (y:Yard) (s:Sl×Sl) (k:Nat) (r:Run) (sr:Sl×Sl) (w:World) (F Fr:List Nat) (h4:y.shelf.length=4) (hM:∀ s∈y.shelf,s.length<=1000000) (hq:0<=y.seq/\y.seq<=2000000000) (hk:k<y.runs.length) (hT:r.tasks.length<=1000) (rI:y.runs[k].tasks.length<=1000)
  (hy:Bv.ow w F y s) (hr:Ce.ow w Fr r sr) (hd:∀ x∈Fr,x∉F) :
  Calls Am 212 #[Dm y s,J U k,Gt r sr] w (Aga (Gd y k r) F Fr w):=by
 obtain ⟨F1,F2,rfl,hn,hs,fT⟩:=hy;obtain ⟨⟨sa,sn,sc⟩,⟨ra,rn,rc⟩⟩:=s;replace hs:OwL (Dt.list Bx) w F1 (Aa sa sn sc) y.shelf:=hs;replace fT:OwL Ce w F2 (Aa ra rn rc) y.runs:=fT;obtain rfl:sn=y.shelf.length:=RdL.at1 (s:=⟨sa,sn,sc⟩) hs.rd;obtain rfl:rn=y.runs.length:=RdL.at1 (s:=⟨ra,rn,rc⟩) fT.rd;have rL:0<y.shelf.length:=Bl;replace h4:=Bq h4;obtain ⟨g,o,_,rfl,fX,_,_⟩:=hs.rd.entryS (k:=0) rL;obtain ⟨gr,o2,_,rfl,dQ,_⟩:=fT.rd.run hk;obtain ⟨sw,Fx,hx,bJ,kJ,fK,pZ,mZ⟩:=fT.elem hk;obtain ⟨_,_,_,_,_,eY,hgfr,_⟩:=hs.elem (j:=0) rL;have c0:w.cell? ⟨gr,o2+k * 8,Ab⟩=Ac (J U y.runs[k].id):=mZ 0 _ rfl;have c1:w.cell? ⟨gr,o2+k * 8+1,Ab⟩=Ac (J U y.runs[k].plan.prio):=mZ 1 _ rfl;have c2:w.cell? ⟨gr,o2+k * 8+2,Ab⟩=Ac (J U y.runs[k].plan.most):=mZ 2 _ rfl;have c3:w.cell? ⟨gr,o2+k * 8+3,Ab⟩=Ac (J U y.runs[k].plan.wait):=mZ 3 _ rfl;have c4:w.cell? ⟨gr,o2+k * 8+4,Ab⟩=Ac (J U y.runs[k].plan.tasks):=mZ 4 _ rfl;have c5:w.cell? ⟨gr,o2+k * 8+5,Ab⟩=Ac (Aa sw.1.a sw.1.n sw.1.c):=mZ 5 _ rfl;have c6:w.cell? ⟨gr,o2+k * 8+6,Ab⟩=Ac (J U y.runs[k].state):=mZ 6 _ rfl;have c7:w.cell? ⟨gr,o2+k * 8+7,Ab⟩=Ac (Aa sw.2.a sw.2.n sw.2.c):=mZ 7 _ rfl;have gL:(k:Int)<(y.runs.length:Int):=Bl;have cL:(0:Int)<=(k:Int):=Bl;obtain ⟨W,aH,Y,RB,RES,B0⟩:=bx3 w 27 [J U y.now,J U y.seq,Aa (Ac ⟨g,o,Ab⟩) y.shelf.length sc,Aa (Ac ⟨gr,o2,Ab⟩) y.runs.length rc] 167 [J U r.id,J U r.plan.prio,J U r.plan.most,J U r.plan.wait,J U r.plan.tasks,Aa sr.1.a sr.1.n sr.1.c,J U r.state,Aa sr.2.a sr.2.n sr.2.c] 27 [J U 0,J U 0,Aa Ab 0 0,Aa Ab 0 0];go_enter func212,ntmps212;go_upto_region 1 with fail
 rw [<-aH.out];clear aH;have Y_:=Y.g4;have RB_:=RB.g8;obtain ⟨RES_0,RES_1,RES_2,RES_3,RES_l⟩:=RES.g4;replace c0:=(B0.cell (p:=⟨gr,o2+k * 8,Ab⟩) dQ).trans c0;replace c1:=(B0.cell (p:=⟨gr,o2+k * 8+1,Ab⟩) dQ).trans c1;replace c2:=(B0.cell (p:=⟨gr,o2+k * 8+2,Ab⟩) dQ).trans c2;replace c3:=(B0.cell (p:=⟨gr,o2+k * 8+3,Ab⟩) dQ).trans c3;replace c4:=(B0.cell (p:=⟨gr,o2+k * 8+4,Ab⟩) dQ).trans c4;replace c5:=(B0.cell (p:=⟨gr,o2+k * 8+5,Ab⟩) dQ).trans c5;replace c6:=(B0.cell (p:=⟨gr,o2+k * 8+6,Ab⟩) dQ).trans c6;replace c7:=(B0.cell (p:=⟨gr,o2+k * 8+7,Ab⟩) dQ).trans c7;have hfW:=fun i=>(B0.frozen (p:=⟨gr,i,Ab⟩) dQ).trans (pZ i);have hsW:=B0.size;have qH:gr<W:=Bl;go_upto_region 2 with fail
 have b1:Below W W (W.alloc (.cells #[J U y.runs[k].id,J U y.runs[k].plan.prio,J U y.runs[k].plan.most,J U y.runs[k].plan.wait,J U y.runs[k].plan.tasks,Aa sw.1.a sw.1.n sw.1.c,J U y.runs[k].state,Aa sw.2.a sw.2.n sw.2.c] 167)):=Bt;have WB:=DBox.new 167 [J U y.runs[k].id,J U y.runs[k].plan.prio,J U y.runs[k].plan.most,J U y.runs[k].plan.wait,J U y.runs[k].plan.tasks,Aa sw.1.a sw.1.n sw.1.c,J U y.runs[k].state,Aa sw.2.a sw.2.n sw.2.c] W (b:=W) rfl;clear Y_;clear RB_;clear RES_0 RES_1 RES_2 RES_3 RES_l;replace Y:=Y.below b1;replace RB:=RB.below b1;replace RES:=RES.below b1;have B1:=Bu B0 b1;replace c0:=(b1.cell (p:=⟨gr,o2+k * 8,Ab⟩) qH).trans c0;replace c1:=(b1.cell (p:=⟨gr,o2+k * 8+1,Ab⟩) qH).trans c1;replace c2:=(b1.cell (p:=⟨gr,o2+k * 8+2,Ab⟩) qH).trans c2;replace c3:=(b1.cell (p:=⟨gr,o2+k * 8+3,Ab⟩) qH).trans c3;replace c4:=(b1.cell (p:=⟨gr,o2+k * 8+4,Ab⟩) qH).trans c4;replace c5:=(b1.cell (p:=⟨gr,o2+k * 8+5,Ab⟩) qH).trans c5;replace c6:=(b1.cell (p:=⟨gr,o2+k * 8+6,Ab⟩) qH).trans c6;replace c7:=(b1.cell (p:=⟨gr,o2+k * 8+7,Ab⟩) qH).trans c7;replace hfW:=fun i=>(b1.frozen (p:=⟨gr,i,Ab⟩) qH).trans (hfW i);obtain ⟨hwb,hwbE⟩:∃ x,x=W.heap.size:=⟨_,rfl⟩
 rw [<-hwbE] at WB ⊢;have hwb1:=Nat.le_of_eq hwbE;have hwb2:=Nat.le_of_eq hwbE.symm;clear hwbE;generalize W.alloc (.cells #[J U y.runs[k].id,J U y.runs[k].plan.prio,J U y.runs[k].plan.most,J U y.runs[k].plan.wait,J U y.runs[k].plan.tasks,Aa sw.1.a sw.1.n sw.1.c,J U y.runs[k].state,Aa sw.2.a sw.2.n sw.2.c] 167)=W2 at *
 have Y_:=Y.g4;have RB_:=RB.g8;obtain ⟨RES_0,RES_1,RES_2,RES_3,RES_l⟩:=RES.g4;have WB_:=WB.g8;have hrn2:=fT.below B1;have sL:=Ce.ow_below hr B1;have gX:gr∉Fr:=fun h=>hd _ h (Be _ fK);have kT:g∉Fr:=fun h=>hd _ h (Bf _ eY);have eI:∀ x∈F1,x∉F2:=fun x h1 h2=>(Ax.1 hn).2.2 x h1 x h2 rfl;obtain ⟨F2',p1,p2,p3,p4⟩:=OwL.swap hrn2 hk (y:=r) (s:=sr) sL (fun x hx hx2=>hd x hx (Be _ hx2));have fP:Hz W2 gr (o2+k * Ce.enc.sz) (Ce.enc.cells (r,sr))=((((((((W2.setCell ⟨gr,o2+k * 8,Ab⟩ (J U r.id)).setCell ⟨gr,o2+k * 8+1,Ab⟩ (J U r.plan.prio)).setCell ⟨gr,o2+k * 8+2,Ab⟩ (J U r.plan.most)).setCell ⟨gr,o2+k * 8+3,Ab⟩ (J U r.plan.wait)).setCell ⟨gr,o2+k * 8+4,Ab⟩ (J U r.plan.tasks)).setCell ⟨gr,o2+k * 8+5,Ab⟩ (Aa sr.1.a sr.1.n sr.1.c)).setCell ⟨gr,o2+k * 8+6,Ab⟩ (J U r.state)).setCell ⟨gr,o2+k * 8+7,Ab⟩ (Aa sr.2.a sr.2.n sr.2.c)):=rfl;have hC:Chg [gr] W2 ((((((((W2.setCell ⟨gr,o2+k * 8,Ab⟩ (J U r.id)).setCell ⟨gr,o2+k * 8+1,Ab⟩ (J U r.plan.prio)).setCell ⟨gr,o2+k * 8+2,Ab⟩ (J U r.plan.most)).setCell ⟨gr,o2+k * 8+3,Ab⟩ (J U r.plan.wait)).setCell ⟨gr,o2+k * 8+4,Ab⟩ (J U r.plan.tasks)).setCell ⟨gr,o2+k * 8+5,Ab⟩ (Aa sr.1.a sr.1.n sr.1.c)).setCell ⟨gr,o2+k * 8+6,Ab⟩ (J U r.state)).setCell ⟨gr,o2+k * 8+7,Ab⟩ (Aa sr.2.a sr.2.n sr.2.c)):=by rw [<-fP];exact Iv _ _ _ _
 rw [fP] at p1;clear fP;have nR:gr∉F1:=fun h=>eI _ h fK;have hgx2:g∉Fx:=fun h=>eI _ eY (bJ _ h);have kI:=(hs.below B1).chg hC (fun x hx h=>by simp only [Au] at h;subst h;exact nR hx);have hx3:=Ce.ow_chg (Ce.ow_below hx B1) hC (fun x hx h=>by simp only [Au] at h;subst h;exact kJ hx);have hr3:=Ce.ow_chg sL hC (fun x hx h=>by simp only [Au] at h;subst h;exact gX hx);have hYl:=RES_l;have hsz2:=B1.size;have hszb:=b1.size;go_upto_region 3 with fail
 clear Y_;clear RB_;clear RES_0 RES_1 RES_2 RES_3 RES_l;clear WB_;replace Y:=Y.chg hC (by simp only [Au];omega);replace RB:=RB.chg hC (by simp only [Au];omega);replace RES:=RES.chg hC (by simp only [Au];omega);replace WB:=WB.chg hC (by simp only [Au];omega);have hsz3:=hC.size;generalize ((((((((W2.setCell ⟨gr,o2+k * 8,Ab⟩ (J U r.id)).setCell ⟨gr,o2+k * 8+1,Ab⟩ (J U r.plan.prio)).setCell ⟨gr,o2+k * 8+2,Ab⟩ (J U r.plan.most)).setCell ⟨gr,o2+k * 8+3,Ab⟩ (J U r.plan.wait)).setCell ⟨gr,o2+k * 8+4,Ab⟩ (J U r.plan.tasks)).setCell ⟨gr,o2+k * 8+5,Ab⟩ (Aa sr.1.a sr.1.n sr.1.c)).setCell ⟨gr,o2+k * 8+6,Ab⟩ (J U r.state)).setCell ⟨gr,o2+k * 8+7,Ab⟩ (Aa sr.2.a sr.2.n sr.2.c))=W3 at *
 have Y_:=Y.g4;have RB_:=RB.g8;obtain ⟨RES_0,RES_1,RES_2,RES_3,RES_l⟩:=RES.g4;have WB_:=WB.g8;clear c0 c1 c2 c3 c4 c5 c6 c7 hfW;go_wp2_with fail
 refine (Sh ⟨y.now,y.seq,y.shelf,y.runs.set k r⟩ g o sc ⟨Ac ⟨gr,o2,Ab⟩,y.runs.length,rc⟩ y.runs[k] sw r sr W3 F1 h4.out hM hq hT rI kI (Bq fun W hW=>(Ce.ow_rd (Ce.ow_chg hr3 hW (fun x hx h=>by simp only [Au] at h;subst h;exact kT hx))).2) (Bq fun W hW=>(Ce.ow_rd (Ce.ow_chg hx3 hW (fun x hx h=>by simp only [Au] at h;subst h;exact hgx2 hx))).2)).mono ?_;rintro e W4 ⟨F1',rfl,q1,q2,q3⟩;have HE:=Bq (show Gd y k r=Nj ⟨y.now,y.seq,y.shelf,y.runs.set k r⟩ y.runs[k] r by unfold Gd;rw [List.getD_eq_getElem?_getD,List.getElem?_eq_getElem hk];rfl);have fZ:=Bq (show (Nj ⟨y.now,y.seq,y.shelf,y.runs.set k r⟩ y.runs[k] r).runs=y.runs.set k r from (Qb (y:=⟨y.now,y.seq,y.shelf,y.runs.set k r⟩) (was:=y.runs[k]) (r:=r) hM r.tasks.length).runs);dsimp only at q1;generalize Nj ⟨y.now,y.seq,y.shelf,y.runs.set k r⟩ y.runs[k] r=Z at *
 have hsz4:=q3.size;clear Y_;clear RB_;clear RES_0 RES_1 RES_2 RES_3 RES_l;clear WB_;replace RES:=RES.chg q3 (by simp only [Au];omega);obtain ⟨RES_0,RES_1,RES_2,RES_3,RES_l⟩:=RES.g4;have rf:=RES.free;have hg1':∀ x∈F1',x∈F1\/W3<=x:=q2;have dL:∀ x∈F1,x<w:=hs.lt;have aZ:∀ x∈F2,x<w:=fT.lt;have hltr:∀ x∈Fr,x<w:=Ce.ow_lt hr;have pQ:w.heap.size+1+1∉F1':=fun h=>by
  rcases q2 _ h with h | h
  ·have:=dL _ h;omega
  ·omega
 have fY:w.heap.size+1+1∉F2':=fun h=>by
  rcases p2 _ h with h | h
  ·have:=aZ _ h;omega
  ·have:=hltr _ h;omega
 have p5:=p1.chg q3 (fun x hx h=>by
  simp only [Au] at h;subst h;rcases p2 _ hx with h | h
  ·exact eI _ eY h
  ·exact kT h)
 have bT:(F1' ++ F2').Nodup:=by
  rw [Ax];refine ⟨q1.nodup,p1.nodup,fun a ha c hc e=>?_⟩;subst e;rcases q2 _ ha with h | h<;>rcases p2 _ hc with h' | h'
  ·exact eI _ h h'
  ·exact hd _ h' (Bf _ h)
  ·have:=aZ _ h';omega
  ·have:=hltr _ h';omega
 have hcw:Chg (F1 ++ F2) w W4:=(((Chg.of_below (F1 ++ F2) B1).trans (hC.mono (fun x hx=>by simp only [Au] at hx;subst hx;exact Be _ fK))).trans (q3.mono (fun x hx=>by simp only [Au] at hx;subst hx;exact Bf _ eY)))
 go_wp2;refine Aj (Af9 (DBox.row4 RES rfl _ _ _ _)) rfl ⟨(⟨Ac ⟨g,o,Ab⟩,y.shelf.length,sc⟩,⟨Ac ⟨gr,o2,Ab⟩,y.runs.length,rc⟩),F1' ++ F2',by rw [HE.out],⟨F1',F2',rfl,bT,?_,?_⟩,?_,?_⟩
 ·rw [HE.out];show OwL (Dt.list Bx) _ F1' (Aa (Ac ⟨g,o,Ab⟩) y.shelf.length sc) Z.shelf;exact (((q1.set (a:=⟨_,_,Ab⟩) pQ _).set (a:=⟨_,_,Ab⟩) pQ _).set (a:=⟨_,_,Ab⟩) pQ _).set (a:=⟨_,_,Ab⟩) pQ _
 ·rw [HE.out];show OwL Ce _ F2' (Aa (Ac ⟨gr,o2,Ab⟩) y.runs.length rc) Z.runs;rw [fZ.out];exact (((p5.set (a:=⟨_,_,Ab⟩) fY _).set (a:=⟨_,_,Ab⟩) fY _).set (a:=⟨_,_,Ab⟩) fY _).set (a:=⟨_,_,Ab⟩) fY _
 ·intro x hx;rcases Bi.1 hx with hx | hx
  ·rcases q2 _ hx with h | h
   ·exact .inl (Bf _ h)
   ·right;right;omega
  ·rcases p2 _ hx with h | h
   ·exact .inl (Be _ h)
   ·exact .inr (.inl h)
 ·exact (((hcw.high Bl _ _).high Bl _ _).high Bl _ _).high Bl _ _
theorem Vk (a b:List Entry) (s r:Sl) (w:World) (hl:a.length<=400000) (hl':b.length<=400000) (h:RdL Bx w w s.v a) (h':RdL Bx w w r.v b) :
  Calls Am 184 #[Aa s.a s.n s.c,Aa r.a r.n r.c] w (Df (Dt.list Bx) slV (Gq a b) w):=by
 have CC:=Bq (Jc a s w Bl h);obtain ⟨A,n,c⟩:=s;obtain rfl:n=a.length:=RdL.at1 (s:=⟨A,n,c⟩) h;obtain ⟨A',n',c'⟩:=r;obtain rfl:n'=b.length:=RdL.at1 (s:=⟨A',n',c'⟩) h';by_cases h8:80<a.length+b.length
 ·have hI:(80:Int)<(a.length:Int)+(b.length:Int):=Bl;have H:=Bq (show Gq a b=a from if_pos h8);go_enter func184,ntmps184;go_wp2_with fail
  refine CC.out.mono ?_;rintro e w1 ⟨s9,F9,rfl,o9,n9,b1⟩;dsimp only [slV];go_wp2;go_ret;exact ⟨s9,F9,rfl,by rw [H.out];exact o9,n9,b1⟩
 have hI:¬ (80:Int)<(a.length:Int)+(b.length:Int):=Bl;have H:=Bq (show Gq a b=b.foldl Jd a from if_neg h8);go_enter func184,ntmps184;go_wp2_with fail
 refine CC.out.mono ?_;rintro e w1 ⟨s9,F9,rfl,o9,n9,d1⟩;dsimp only [slV];go_wp2;clear CC;go_loopw [5,19] (fun x i wr=>∃ (k:Nat) (t:Sl) (F:List Nat),k<=b.length/\x = Aa t.a t.n t.c/\i = J U k/\Hid (OwL Bx wr F t.v ((b.take k).foldl Jd a)/\(∀ x∈F,w<=x))/\Below w w wr) (fun _ i _=>b.length - (intOf i).toNat);case atStart=>exact ⟨0,s9,F9,Ag _,rfl,rfl,⟨o9,n9⟩,d1⟩
 case round =>
  clear o9 n9 d1;obtain ⟨k,t,F,hk,rfl,rfl,hO,hb⟩:=hrel;by_cases aA:k<b.length
  ·have aB:(k:Int)<(b.length:Int):=Bl;obtain ⟨b1,o,_,rfl,aK,_,c0,c1,c2,c3⟩:=(h'.below hb).entry aA;have hs:=hb.size;have bW:b1<wr:=Bl;have HT:=Bq (Kq Jd a b k aA);have aF:((b.take k).foldl Jd a).length<=900000:=by rw [Lv];simp;omega
   have ha:Below wr wr (wr.alloc (.cells #[J U b[k].prio,J U b[k].seq,J U b[k].run,J U b[k].task] 163)):=Bt;have CP:=Bq (M5 ((b.take k).foldl Jd a) t b[k] _ aF ((hO.out.1.below ha).rd));generalize (b.take k).foldl Jd a=L at *
   go_wp2_with (go_at_call 251;refine CP.out.mono ?_;rintro e w2 ⟨t2,F2,rfl,o2,n2,b2⟩)
   have hE:=Bu hb (Bu ha b2);have hz:=ha.size;exact ⟨⟨k+1,t2,F2,Bl,rfl,by go_num,⟨by rw [HT.out];exact o2,fun x hx=>by have:=n2 x hx;omega⟩,hE⟩,by simp [intOf];omega⟩
  ·have aB:¬ (k:Int)<(b.length:Int):=Bl;have HO:=hO.out.1;rw [Bg Bl] at HO;go_wp2;go_ret;exact ⟨t,F,rfl,by rw [H.out];exact HO,hO.out.2,hb⟩
theorem Agb {w:World} {F:List Nat} {rs:List (Task×C7.S)} (h:Ows C7 w F rs):F=[]:=by
 induction h with
 | nil=>rfl
 | cons h1 _ ih=>rw [show _=[] from h1,ih];rfl
theorem Nm {w:World} {F:List Nat} {v:Value} {l:List Task} (h:OwL C7 w F v l):Hw Fj w F v l:=by
 have hr:=Tn h.rd;obtain ⟨rs,H,G,hm,hh,ho,rfl,hn⟩:=h;have hG:=Agb ho;subst hG;obtain ⟨h1,h2,h3⟩:=hh;refine ⟨hr,?_,fun g hg=>h3 g (by simpa using hg)⟩;rw [List.append_nil,h2,<-hm,Ar]
theorem Gz {w:World} {F:List Nat} {v:Value} {l:List Task} (h1:Hw Fj w F v l):OwL C7 w F v l:=by
 obtain ⟨⟨A,c,hv,hc,hA⟩,hF,hf⟩:=id h1;subst hv;refine ⟨l.map fun x=>(x,()),F,[],by rw [List.map_map];exact List.map_id _,⟨⟨A,c,by rw [Ar],by rw [Ar];exact hc,fun hl=>?_⟩,by rw [Ar];exact hF,hf⟩,U9 w l,(List.append_nil _).symm,h1.nodup⟩;rw [Ar] at hl;obtain ⟨b,o,h3,h4,h5⟩:=hA hl;refine ⟨b,o,h3,h4,fun k hk j u hu=>?_⟩;rw [List.getElem_map] at hu;exact h5 k (by rw [Ar] at hk;exact hk) j u hu
theorem Hw.part {α:Type} {e:Enc α} {w:World} {F:List Nat} {b o n c:Nat} {l:List α} (h:Hw e w F (Aa (Ac ⟨b,o,Ab⟩) n c) l) {j:Nat} (hj:j<l.length) (y:α) (off:Nat) (us:List Value) (hoff:off+us.length<=e.sz)
  (cP:∀ i (hi:i<us.length),(e.cells y)[off+i]? = Ac us[i]) (fN:∀ i,i<e.sz->(i<off\/off+us.length<=i)->(e.cells y)[i]? = (e.cells l[j])[i]?) :
  Hw e (Hz w b (o+j * e.sz+off) us) F (Aa (Ac ⟨b,o,Ab⟩) n c) (l.set j y):=by
 refine ⟨?_,by rw [Bh];exact h.2.1,fun g hg i=>by rw [Iw];exact h.2.2 g hg i⟩
 have:=Rd.part h.rd j hj y off us hoff cP fN
 rw [Jq];exact this
theorem Hw.block {α:Type} {e:Enc α} {w:World} {F:List Nat} {b o n c:Nat} {l:List α} (h:Hw e w F (Aa (Ac ⟨b,o,Ab⟩) n c) l) (hp:0<l.length):F=[b]/\b<w/\(∀ i,w.frozen? ⟨b,i,Ab⟩=false):=by
 obtain ⟨b',o',hA,hF,hb,hf⟩:=h.at_ hp;simp only [Option.some.injEq,Addr.mk.injEq,and_true] at hA;obtain ⟨rfl,rfl⟩:=hA;exact ⟨hF,hb,hf⟩
theorem Rd.tsk {w:World} {B:Nat} {A:Option Addr} {n c:Nat} {l:List Task} (h:Rd Fj w B (Aa A n c) l) {k:Nat} (hk:k<l.length) :
  ∃ b o,A=Ac ⟨b,o,Ab⟩/\b<B/\w.cell? ⟨b,o+k * 4,Ab⟩=Ac (J U l[k].state)/\w.cell? ⟨b,o+k * 4+1,Ab⟩=Ac (J U l[k].need)/\w.cell? ⟨b,o+k * 4+2,Ab⟩=Ac (J U l[k].try_)/\w.cell? ⟨b,o+k * 4+3,Ab⟩=Ac (J U l[k].until_):=by
 obtain ⟨A',c',hv,_,hA⟩:=h;simp only [Value.slice.injEq] at hv;obtain ⟨rfl,_,_⟩:=hv;obtain ⟨b,o,cC,hb,hc⟩:=hA Bl;exact ⟨b,o,cC,hb,hc k hk 0 _ rfl,hc k hk 1 _ rfl,hc k hk 2 _ rfl,hc k hk 3 _ rfl⟩
theorem Hw.task4 {w:World} {F:List Nat} {b o n c:Nat} {l:List Task} (h:Hw Fj w F (Aa (Ac ⟨b,o,Ab⟩) n c) l) {j:Nat} (hj:j<l.length) (y:Task) :
  Hw Fj ((((w.setCell ⟨b,o+j * 4,Ab⟩ (J U y.state)).setCell ⟨b,o+j * 4+1,Ab⟩ (J U y.need)).setCell ⟨b,o+j * 4+2,Ab⟩ (J U y.try_)).setCell ⟨b,o+j * 4+3,Ab⟩ (J U y.until_)) F (Aa (Ac ⟨b,o,Ab⟩) n c) (l.set j y) :=
 h.part hj y 0 [J U y.state,J U y.need,J U y.try_,J U y.until_] (Bs _) (fun i hi=>by rw [Nat.zero_add];exact List.getElem?_eq_getElem hi) (fun i hi ho=>by simp at ho;have:i<4:=hi;omega)
theorem Hw.taskState {w:World} {F:List Nat} {b o n c:Nat} {l:List Task} (h:Hw Fj w F (Aa (Ac ⟨b,o,Ab⟩) n c) l) {j:Nat} (hj:j<l.length) (st:Int) :
  Hw Fj (w.setCell ⟨b,o+j * 4,Ab⟩ (J U st)) F (Aa (Ac ⟨b,o,Ab⟩) n c) (l.set j ⟨st,l[j].need,l[j].try_,l[j].until_⟩) :=
 h.part hj ⟨st,l[j].need,l[j].try_,l[j].until_⟩ 0 [J U st] (show 0+1<=4 by omega) (fun i hi=>by simp at hi;subst hi;rfl) (fun i hi ho=>by
  have:i<4:=hi;rcases (show i=1\/i=2\/i=3 by simp at ho;omega) with rfl | rfl | rfl<;>rfl)
theorem Hw.taskUntil {w:World} {F:List Nat} {b o n c:Nat} {l:List Task} (h:Hw Fj w F (Aa (Ac ⟨b,o,Ab⟩) n c) l) {j:Nat} (hj:j<l.length) (u:Int) :
  Hw Fj (w.setCell ⟨b,o+j * 4+3,Ab⟩ (J U u)) F (Aa (Ac ⟨b,o,Ab⟩) n c) (l.set j ⟨l[j].state,l[j].need,l[j].try_,u⟩) :=
 h.part hj ⟨l[j].state,l[j].need,l[j].try_,u⟩ 3 [J U u] (show 3+1<=4 by omega) (fun i hi=>by simp at hi;subst hi;rfl) (fun i hi ho=>by
  have:i<4:=hi;rcases (show i=0\/i=1\/i=2 by simp at ho;omega) with rfl | rfl | rfl<;>rfl)
theorem DBox.row8 {b:Nat} {cs:List Value} {w:World} (h:DBox b cs w) (hn:cs.length=8) (u0 u1 u2 u3 u4 u5 u6 u7:Value) :
  DBox b [u0,u1,u2,u3,u4,u5,u6,u7] ((((((((w.setCell ⟨b,0,Ab⟩ u0).setCell ⟨b,1,Ab⟩ u1).setCell ⟨b,2,Ab⟩ u2).setCell ⟨b,3,Ab⟩ u3).setCell ⟨b,4,Ab⟩ u4).setCell ⟨b,5,Ab⟩ u5).setCell ⟨b,6,Ab⟩ u6).setCell ⟨b,7,Ab⟩ u7):=by
 obtain ⟨c0,c1,c2,c3,c4,c5,c6,c7,rfl⟩:∃ c0 c1 c2 c3 c4 c5 c6 c7,cs=[c0,c1,c2,c3,c4,c5,c6,c7]:=by
  match cs,hn with
  | [c0,c1,c2,c3,c4,c5,c6,c7],_=>exact ⟨c0,c1,c2,c3,c4,c5,c6,c7,rfl⟩
 exact (((((((h.set 0 Bn u0).set 1 Bn u1).set 2 Bn u2).set 3 Bn u3).set 4 Bn u4).set 5 Bn u5).set 6 Bn u6).set 7 Bn u7
theorem Afi {b:Nat} {w:World} {u0 u1 u2 u3 u4 u5 u6 u7:Value} (X:DBox b [u0,u1,u2,u3,u4,u5,u6,u7] w) {v0 v1 v2 v3:Value} {rest:List Value} :
  (results Tryz.f266 (v0 :: v1 :: v2 :: v3 :: .pointer (Ac ⟨b,0,Ab⟩) :: rest).toArray).run Am w = .ok (.agg #[u0,u1,u2,u3,u4,u5,u6,u7]) w:=by
 have c0:=X.cell 0 _ rfl;have c1:=X.cell 1 _ rfl;have c2:=X.cell 2 _ rfl;have c3:=X.cell 3 _ rfl;have c4:=X.cell 4 _ rfl;have c5:=X.cell 5 _ rfl;have c6:=X.cell 6 _ rfl;have c7:=X.cell 7 _ rfl;simp [results,results266,go_sem,c0,c1,c2,c3,c4,c5,c6,c7]
theorem Nn {l:List Task} {k:Nat} (hk:k<l.length) (f:Task->Task):((l.take k).map f ++ l.drop k).set k (f l[k])=(l.take (k+1)).map f ++ l.drop (k+1):=by
 rw [List.drop_eq_getElem_cons hk,List.set_append_right _ _ (by simp;omega)];rw [show k - ((l.take k).map f).length=0 by simp;omega,List.set_cons_zero,List.take_succ_eq_append_getElem hk,List.map_append,List.append_assoc];rfl
def Ro (r:Run) (st:Int) (E:Sl) (b o c:Nat) (F:List Nat) (w:World) (e:Ending) (w':World):Prop :=
 e = .returned (Gt (Dx r st) (E,⟨Ac ⟨b,o,Ab⟩,r.tasks.length,c⟩))/\Hw Fj w' F (Aa (Ac ⟨b,o,Ab⟩) r.tasks.length c) (Dx r st).tasks/\Chg [b] w w'
theorem Pr (r:Run) (E:Sl) (st:Int) (b o c:Nat) (F:List Nat) (w:World) (hl:r.tasks.length<=2000000) (hp:0<r.tasks.length) (h:Hw Fj w F (Aa (Ac ⟨b,o,Ab⟩) r.tasks.length c) r.tasks) :
  Calls Am 266 #[Gt r (E,⟨Ac ⟨b,o,Ab⟩,r.tasks.length,c⟩),J U st] w (Ro r st E b o c F w):=by
 obtain ⟨rfl,bW,pV⟩:=h.block hp;have X:=(DBox.new 167 [J U r.id,J U r.plan.prio,J U r.plan.most,J U r.plan.wait,J U r.plan.tasks,Aa E.a E.n E.c,J U r.state,Aa (Ac ⟨b,o,Ab⟩) r.tasks.length c] w (b:=w) rfl).below ((Br _ _).alloc (Bs _) (.cells #[J U 0,J U 0,J U 0,J U 0,J U 0,Aa Ab 0 0,J U 0,Aa Ab 0 0] 167));have RES:=DBox.new 167 [J U 0,J U 0,J U 0,J U 0,J U 0,Aa Ab 0 0,J U 0,Aa Ab 0 0] (w.alloc (.cells #[J U r.id,J U r.plan.prio,J U r.plan.most,J U r.plan.wait,J U r.plan.tasks,Aa E.a E.n E.c,J U r.state,Aa (Ac ⟨b,o,Ab⟩) r.tasks.length c] 167)) (b:=w+1) Bn;have B0:Below w w ((w.alloc (.cells #[J U r.id,J U r.plan.prio,J U r.plan.most,J U r.plan.wait,J U r.plan.tasks,Aa E.a E.n E.c,J U r.state,Aa (Ac ⟨b,o,Ab⟩) r.tasks.length c] 167)).alloc (.cells #[J U 0,J U 0,J U 0,J U 0,J U 0,Aa Ab 0 0,J U 0,Aa Ab 0 0] 167)):=by repeat (first | exact Br _ _ | refine Ae ?_ Bo _)
 go_enter func266,ntmps266;go_wp2;have C0:=Chg.of_below [b] B0;have h0:=h.below B0;generalize Gt r (E,⟨Ac ⟨b,o,Ab⟩,r.tasks.length,c⟩)=rv;generalize ((w.alloc (.cells #[J U r.id,J U r.plan.prio,J U r.plan.most,J U r.plan.wait,J U r.plan.tasks,Aa E.a E.n E.c,J U r.state,Aa (Ac ⟨b,o,Ab⟩) r.tasks.length c] 167)).alloc (.cells #[J U 0,J U 0,J U 0,J U 0,J U 0,Aa Ab 0 0,J U 0,Aa Ab 0 0] 167))=W at *
 go_loopw [5] (fun i wr=>∃ k:Nat,k<=r.tasks.length/\i = J U k/\Hid (Hw Fj wr [b] (Aa (Ac ⟨b,o,Ab⟩) r.tasks.length c) ((r.tasks.take k).map Dq ++ r.tasks.drop k))/\DBox w [J U r.id,J U r.plan.prio,J U r.plan.most,J U r.plan.wait,J U r.plan.tasks,Aa E.a E.n E.c,J U r.state,Aa (Ac ⟨b,o,Ab⟩) r.tasks.length c] wr/\DBox (w+1) [J U 0,J U 0,J U 0,J U 0,J U 0,Aa Ab 0 0,J U 0,Aa Ab 0 0] wr/\Chg [b] w wr) (fun i _=>r.tasks.length - (intOf i).toNat);case atStart=>exact ⟨0,Ag _,rfl,by simpa using Bq h0,X,RES,C0⟩
 case round =>
  clear X RES C0 h0 B0;obtain ⟨k,hk,rfl,hO,X,RES,hb⟩:=hrel;obtain ⟨X_0,X_1,X_2,X_3,X_4,X_5,X_6,X_7,X_l⟩:=X.g8;obtain ⟨RES_0,RES_1,RES_2,RES_3,RES_4,RES_5,RES_6,RES_7,RES_l⟩:=RES.g8;by_cases aA:k<r.tasks.length;case neg =>
   have aB:¬ (k:Int)<(r.tasks.length:Int):=Bl;have HO:=hO.out;rw [Bg Bl,List.drop_eq_nil_of_le Bl,List.append_nil] at HO;have xf:=X.free;have rf:=RES.free;go_wp2;have R4:=DBox.row8 (RES.setOther (a:=⟨w,6,Ab⟩) (by show w.heap.size+1≠w.heap.size;omega) (J U st)) rfl (J U r.id) (J U r.plan.prio) (J U r.plan.most) (J U r.plan.wait) (J U r.plan.tasks) (Aa E.a E.n E.c) (J U st) (Aa (Ac ⟨b,o,Ab⟩) r.tasks.length c);have vA:∀ x∈[b],x∉[w.heap.size,w.heap.size+1]:=fun x hx h2=>by
    simp only [Au] at hx;simp only [List.mem_cons,List.not_mem_nil,or_false] at h2;omega
   refine Aj (Afi R4) rfl ⟨rfl,?_,?_⟩
   ·show Hw Fj _ [b] _ (r.tasks.map Dq);have e1:w.heap.size∉[b]:=by simp only [Au];omega
    have e2:w.heap.size+1∉[b]:=by simp only [Au];omega
    exact ((((((((HO.set (a:=⟨_,_,Ab⟩) e1 _).set (a:=⟨_,_,Ab⟩) e2 _).set (a:=⟨_,_,Ab⟩) e2 _).set (a:=⟨_,_,Ab⟩) e2 _).set (a:=⟨_,_,Ab⟩) e2 _).set (a:=⟨_,_,Ab⟩) e2 _).set (a:=⟨_,_,Ab⟩) e2 _).set (a:=⟨_,_,Ab⟩) e2 _).set (a:=⟨_,_,Ab⟩) e2 _
   ·exact ((((((((hb.high (Bs _) _ _).high Bl _ _).high Bl _ _).high Bl _ _).high Bl _ _).high Bl _ _).high Bl _ _).high Bl _ _).high Bl _ _
  have aB:(k:Int)<(r.tasks.length:Int):=Bl;have cL:(0:Int)<=(k:Int):=Bl;have jM:k<((r.tasks.take k).map Dq ++ r.tasks.drop k).length:=by simp;omega
  have tD:=Bq (show ((r.tasks.take k).map Dq ++ r.tasks.drop k)[k]=r.tasks[k] by
   rw [List.getElem_append_right (by simp;omega)];simp [Nat.min_eq_left (Nat.le_of_lt aA)])
  obtain ⟨b1,o1,mM,hbb1,c0,c1,c2,c3⟩:=hO.out.rd.tsk jM;simp only [Option.some.injEq,Addr.mk.injEq,and_true] at mM;obtain ⟨rfl,rfl⟩:=mM;rw [tD.out] at c0 c1 c2 c3;have hlM:=Bq (show ((r.tasks.take k).map Dq ++ r.tasks.drop k).length=r.tasks.length by simp;omega);by_cases s4:r.tasks[k].state=4
  ·have q4:(r.tasks[k].state != 4)=false:=by simp [s4]
   have hy:=Bq (show Dq r.tasks[k]=⟨r.tasks[k].state,r.tasks[k].need,r.tasks[k].try_,r.tasks[k].until_⟩ by unfold Dq;rw [if_neg (by simp [s4])]);clear s4;go_upto_region 8 with fail
   have XB:DBox wr [J U r.tasks[k].state,J U r.tasks[k].need,J U r.tasks[k].try_,J U r.tasks[k].until_] (wr.alloc (.cells #[J U r.tasks[k].state,J U r.tasks[k].need,J U r.tasks[k].try_,J U r.tasks[k].until_] 217)):=DBox.new 217 [J U r.tasks[k].state,J U r.tasks[k].need,J U r.tasks[k].try_,J U r.tasks[k].until_] wr rfl;have bw:Chg [b] wr (wr.alloc (.cells #[J U r.tasks[k].state,J U r.tasks[k].need,J U r.tasks[k].try_,J U r.tasks[k].until_] 217)):=Chg.of_below _ (Bt);have bb:Below wr wr (wr.alloc (.cells #[J U r.tasks[k].state,J U r.tasks[k].need,J U r.tasks[k].try_,J U r.tasks[k].until_] 217)):=by repeat (first | (with_reducible exact Br _ _) | refine Ad ?_ Bo _ | refine Ae ?_ Bo _)
   have HO:=hO.out.below bb;replace X:=X.below bb;replace RES:=RES.below bb;clear bb;have hbz:=bw.size;generalize (wr.alloc (.cells #[J U r.tasks[k].state,J U r.tasks[k].need,J U r.tasks[k].try_,J U r.tasks[k].until_] 217))=W1 at *
   clear X_0 X_1 X_2 X_3 X_4 X_5 X_6 X_7 X_l;clear RES_0 RES_1 RES_2 RES_3 RES_4 RES_5 RES_6 RES_7 RES_l;obtain ⟨X_0,X_1,X_2,X_3,X_4,X_5,X_6,X_7,X_l⟩:=X.g8;have z0:=XB.cell 0 _ rfl;have z1:=XB.cell 1 _ rfl;have z2:=XB.cell 2 _ rfl;have z3:=XB.cell 3 _ rfl;have zl:=XB.lt;obtain ⟨b2,o2,eN,mG,d0,d1,d2,d3⟩:=HO.rd.tsk jM;simp only [Option.some.injEq,Addr.mk.injEq,and_true] at eN;obtain ⟨rfl,rfl⟩:=eN;have hfz:=(HO.block Bl).2.2;have Y4:Hw Fj ((((W1.setCell ⟨b,o+k * 4,Ab⟩ (J U r.tasks[k].state)).setCell ⟨b,o+k * 4+1,Ab⟩ (J U r.tasks[k].need)).setCell ⟨b,o+k * 4+2,Ab⟩ (J U r.tasks[k].try_)).setCell ⟨b,o+k * 4+3,Ab⟩ (J U r.tasks[k].until_)) [b] (Aa (Ac ⟨b,o,Ab⟩) r.tasks.length c) _:=HO.task4 jM ⟨r.tasks[k].state,r.tasks[k].need,r.tasks[k].try_,r.tasks[k].until_⟩;have B4:Chg [b] w ((((W1.setCell ⟨b,o+k * 4,Ab⟩ (J U r.tasks[k].state)).setCell ⟨b,o+k * 4+1,Ab⟩ (J U r.tasks[k].need)).setCell ⟨b,o+k * 4+2,Ab⟩ (J U r.tasks[k].try_)).setCell ⟨b,o+k * 4+3,Ab⟩ (J U r.tasks[k].until_)):=(((((hb.trans bw).trans (Chg.setCell _ b _ _)).trans (Chg.setCell _ b _ _)).trans (Chg.setCell _ b _ _)).trans (Chg.setCell _ b _ _))
   have e1:w≠b:=Bl;have e2:w+1≠b:=Bl;have X4:DBox w _ ((((W1.setCell ⟨b,o+k * 4,Ab⟩ (J U r.tasks[k].state)).setCell ⟨b,o+k * 4+1,Ab⟩ (J U r.tasks[k].need)).setCell ⟨b,o+k * 4+2,Ab⟩ (J U r.tasks[k].try_)).setCell ⟨b,o+k * 4+3,Ab⟩ (J U r.tasks[k].until_)):=(((X.setOther (a:=⟨b,_,Ab⟩) e1 _).setOther (a:=⟨b,_,Ab⟩) e1 _).setOther (a:=⟨b,_,Ab⟩) e1 _).setOther (a:=⟨b,_,Ab⟩) e1 _;have R4:DBox (w+1) _ ((((W1.setCell ⟨b,o+k * 4,Ab⟩ (J U r.tasks[k].state)).setCell ⟨b,o+k * 4+1,Ab⟩ (J U r.tasks[k].need)).setCell ⟨b,o+k * 4+2,Ab⟩ (J U r.tasks[k].try_)).setCell ⟨b,o+k * 4+3,Ab⟩ (J U r.tasks[k].until_)):=(((RES.setOther (a:=⟨b,_,Ab⟩) e2 _).setOther (a:=⟨b,_,Ab⟩) e2 _).setOther (a:=⟨b,_,Ab⟩) e2 _).setOther (a:=⟨b,_,Ab⟩) e2 _;have aE:=Bq (show ((r.tasks.take k).map Dq ++ r.tasks.drop k).set k ⟨r.tasks[k].state,r.tasks[k].need,r.tasks[k].try_,r.tasks[k].until_⟩=(r.tasks.take (k+1)).map Dq ++ r.tasks.drop (k+1) by rw [<-Nn aA Dq,hy.out]);clear d0 d1 d2 d3;have g0:=Bq Y4;clear Y4;obtain ⟨b3,o3,kK,hbb3,d0,d1,d2,d3⟩:=HO.rd.tsk jM;simp only [Option.some.injEq,Addr.mk.injEq,and_true] at kK;obtain ⟨rfl,rfl⟩:=kK;go_wp2;exact ⟨⟨k+1,Bl,by go_num,by rw [<-aE.out];exact g0,X4,R4,B4⟩,by simp [intOf];omega⟩
  by_cases s5:r.tasks[k].state=5
  ·have q4:(r.tasks[k].state != 4)=true:=by simp [s4]
   have q5:(r.tasks[k].state != 5)=false:=by simp [s5]
   have hy:=Bq (show Dq r.tasks[k]=⟨r.tasks[k].state,r.tasks[k].need,r.tasks[k].try_,r.tasks[k].until_⟩ by unfold Dq;rw [if_neg (by simp [s5])]);clear s4 s5;go_upto_region 8 with fail
   have XB:DBox wr [J U r.tasks[k].state,J U r.tasks[k].need,J U r.tasks[k].try_,J U r.tasks[k].until_] (wr.alloc (.cells #[J U r.tasks[k].state,J U r.tasks[k].need,J U r.tasks[k].try_,J U r.tasks[k].until_] 217)):=DBox.new 217 [J U r.tasks[k].state,J U r.tasks[k].need,J U r.tasks[k].try_,J U r.tasks[k].until_] wr rfl;have bw:Chg [b] wr (wr.alloc (.cells #[J U r.tasks[k].state,J U r.tasks[k].need,J U r.tasks[k].try_,J U r.tasks[k].until_] 217)):=Chg.of_below _ (Bt);have bb:Below wr wr (wr.alloc (.cells #[J U r.tasks[k].state,J U r.tasks[k].need,J U r.tasks[k].try_,J U r.tasks[k].until_] 217)):=by repeat (first | (with_reducible exact Br _ _) | refine Ad ?_ Bo _ | refine Ae ?_ Bo _)
   have HO:=hO.out.below bb;replace X:=X.below bb;replace RES:=RES.below bb;clear bb;have hbz:=bw.size;generalize (wr.alloc (.cells #[J U r.tasks[k].state,J U r.tasks[k].need,J U r.tasks[k].try_,J U r.tasks[k].until_] 217))=W1 at *
   clear X_0 X_1 X_2 X_3 X_4 X_5 X_6 X_7 X_l;clear RES_0 RES_1 RES_2 RES_3 RES_4 RES_5 RES_6 RES_7 RES_l;obtain ⟨X_0,X_1,X_2,X_3,X_4,X_5,X_6,X_7,X_l⟩:=X.g8;have z0:=XB.cell 0 _ rfl;have z1:=XB.cell 1 _ rfl;have z2:=XB.cell 2 _ rfl;have z3:=XB.cell 3 _ rfl;have zl:=XB.lt;obtain ⟨b2,o2,eN,mG,d0,d1,d2,d3⟩:=HO.rd.tsk jM;simp only [Option.some.injEq,Addr.mk.injEq,and_true] at eN;obtain ⟨rfl,rfl⟩:=eN;have hfz:=(HO.block Bl).2.2;have Y4:Hw Fj ((((W1.setCell ⟨b,o+k * 4,Ab⟩ (J U r.tasks[k].state)).setCell ⟨b,o+k * 4+1,Ab⟩ (J U r.tasks[k].need)).setCell ⟨b,o+k * 4+2,Ab⟩ (J U r.tasks[k].try_)).setCell ⟨b,o+k * 4+3,Ab⟩ (J U r.tasks[k].until_)) [b] (Aa (Ac ⟨b,o,Ab⟩) r.tasks.length c) _:=HO.task4 jM ⟨r.tasks[k].state,r.tasks[k].need,r.tasks[k].try_,r.tasks[k].until_⟩;have B4:Chg [b] w ((((W1.setCell ⟨b,o+k * 4,Ab⟩ (J U r.tasks[k].state)).setCell ⟨b,o+k * 4+1,Ab⟩ (J U r.tasks[k].need)).setCell ⟨b,o+k * 4+2,Ab⟩ (J U r.tasks[k].try_)).setCell ⟨b,o+k * 4+3,Ab⟩ (J U r.tasks[k].until_)):=(((((hb.trans bw).trans (Chg.setCell _ b _ _)).trans (Chg.setCell _ b _ _)).trans (Chg.setCell _ b _ _)).trans (Chg.setCell _ b _ _))
   have e1:w≠b:=Bl;have e2:w+1≠b:=Bl;have X4:DBox w _ ((((W1.setCell ⟨b,o+k * 4,Ab⟩ (J U r.tasks[k].state)).setCell ⟨b,o+k * 4+1,Ab⟩ (J U r.tasks[k].need)).setCell ⟨b,o+k * 4+2,Ab⟩ (J U r.tasks[k].try_)).setCell ⟨b,o+k * 4+3,Ab⟩ (J U r.tasks[k].until_)):=(((X.setOther (a:=⟨b,_,Ab⟩) e1 _).setOther (a:=⟨b,_,Ab⟩) e1 _).setOther (a:=⟨b,_,Ab⟩) e1 _).setOther (a:=⟨b,_,Ab⟩) e1 _;have R4:DBox (w+1) _ ((((W1.setCell ⟨b,o+k * 4,Ab⟩ (J U r.tasks[k].state)).setCell ⟨b,o+k * 4+1,Ab⟩ (J U r.tasks[k].need)).setCell ⟨b,o+k * 4+2,Ab⟩ (J U r.tasks[k].try_)).setCell ⟨b,o+k * 4+3,Ab⟩ (J U r.tasks[k].until_)):=(((RES.setOther (a:=⟨b,_,Ab⟩) e2 _).setOther (a:=⟨b,_,Ab⟩) e2 _).setOther (a:=⟨b,_,Ab⟩) e2 _).setOther (a:=⟨b,_,Ab⟩) e2 _;have aE:=Bq (show ((r.tasks.take k).map Dq ++ r.tasks.drop k).set k ⟨r.tasks[k].state,r.tasks[k].need,r.tasks[k].try_,r.tasks[k].until_⟩=(r.tasks.take (k+1)).map Dq ++ r.tasks.drop (k+1) by rw [<-Nn aA Dq,hy.out]);clear d0 d1 d2 d3;have g0:=Bq Y4;clear Y4;obtain ⟨b3,o3,kK,hbb3,d0,d1,d2,d3⟩:=HO.rd.tsk jM;simp only [Option.some.injEq,Addr.mk.injEq,and_true] at kK;obtain ⟨rfl,rfl⟩:=kK;go_wp2;exact ⟨⟨k+1,Bl,by go_num,by rw [<-aE.out];exact g0,X4,R4,B4⟩,by simp [intOf];omega⟩
  have q4:(r.tasks[k].state != 4)=true:=by simp [s4]
  have q5:(r.tasks[k].state != 5)=true:=by simp [s5]
  have hy:=Bq (show Dq r.tasks[k]=⟨6,r.tasks[k].need,r.tasks[k].try_,0⟩ by unfold Dq;rw [if_pos ⟨s4,s5⟩]);clear s4 s5;go_upto_region 8 with fail
  have XB:DBox wr [J U 6,J U r.tasks[k].need,J U r.tasks[k].try_,J U 0] (wr.alloc (.cells #[J U 6,J U r.tasks[k].need,J U r.tasks[k].try_,J U 0] 217)):=DBox.new 217 [J U 6,J U r.tasks[k].need,J U r.tasks[k].try_,J U 0] wr rfl;have bw:Chg [b] wr (wr.alloc (.cells #[J U 6,J U r.tasks[k].need,J U r.tasks[k].try_,J U 0] 217)):=Chg.of_below _ (by repeat (first | (with_reducible exact Br _ _) | refine Ad ?_ Bo _ | refine Ae ?_ Bo _));have bb:Below wr wr (wr.alloc (.cells #[J U 6,J U r.tasks[k].need,J U r.tasks[k].try_,J U 0] 217)):=by repeat (first | (with_reducible exact Br _ _) | refine Ad ?_ Bo _ | refine Ae ?_ Bo _)
  have HO:=hO.out.below bb;replace X:=X.below bb;replace RES:=RES.below bb;clear bb;have hbz:=bw.size;generalize (wr.alloc (.cells #[J U 6,J U r.tasks[k].need,J U r.tasks[k].try_,J U 0] 217))=W1 at *
  clear X_0 X_1 X_2 X_3 X_4 X_5 X_6 X_7 X_l;clear RES_0 RES_1 RES_2 RES_3 RES_4 RES_5 RES_6 RES_7 RES_l;obtain ⟨X_0,X_1,X_2,X_3,X_4,X_5,X_6,X_7,X_l⟩:=X.g8;have z0:=XB.cell 0 _ rfl;have z1:=XB.cell 1 _ rfl;have z2:=XB.cell 2 _ rfl;have z3:=XB.cell 3 _ rfl;have zl:=XB.lt;obtain ⟨b2,o2,eN,mG,d0,d1,d2,d3⟩:=HO.rd.tsk jM;simp only [Option.some.injEq,Addr.mk.injEq,and_true] at eN;obtain ⟨rfl,rfl⟩:=eN;have hfz:=(HO.block Bl).2.2;have Y4:Hw Fj ((((W1.setCell ⟨b,o+k * 4,Ab⟩ (J U 6)).setCell ⟨b,o+k * 4+1,Ab⟩ (J U r.tasks[k].need)).setCell ⟨b,o+k * 4+2,Ab⟩ (J U r.tasks[k].try_)).setCell ⟨b,o+k * 4+3,Ab⟩ (J U 0)) [b] (Aa (Ac ⟨b,o,Ab⟩) r.tasks.length c) _:=HO.task4 jM ⟨6,r.tasks[k].need,r.tasks[k].try_,0⟩;have B4:Chg [b] w ((((W1.setCell ⟨b,o+k * 4,Ab⟩ (J U 6)).setCell ⟨b,o+k * 4+1,Ab⟩ (J U r.tasks[k].need)).setCell ⟨b,o+k * 4+2,Ab⟩ (J U r.tasks[k].try_)).setCell ⟨b,o+k * 4+3,Ab⟩ (J U 0)):=(((((hb.trans bw).trans (Chg.setCell _ b _ _)).trans (Chg.setCell _ b _ _)).trans (Chg.setCell _ b _ _)).trans (Chg.setCell _ b _ _))
  have e1:w≠b:=Bl;have e2:w+1≠b:=Bl;have X4:DBox w _ ((((W1.setCell ⟨b,o+k * 4,Ab⟩ (J U 6)).setCell ⟨b,o+k * 4+1,Ab⟩ (J U r.tasks[k].need)).setCell ⟨b,o+k * 4+2,Ab⟩ (J U r.tasks[k].try_)).setCell ⟨b,o+k * 4+3,Ab⟩ (J U 0)):=(((X.setOther (a:=⟨b,_,Ab⟩) e1 _).setOther (a:=⟨b,_,Ab⟩) e1 _).setOther (a:=⟨b,_,Ab⟩) e1 _).setOther (a:=⟨b,_,Ab⟩) e1 _;have R4:DBox (w+1) _ ((((W1.setCell ⟨b,o+k * 4,Ab⟩ (J U 6)).setCell ⟨b,o+k * 4+1,Ab⟩ (J U r.tasks[k].need)).setCell ⟨b,o+k * 4+2,Ab⟩ (J U r.tasks[k].try_)).setCell ⟨b,o+k * 4+3,Ab⟩ (J U 0)):=(((RES.setOther (a:=⟨b,_,Ab⟩) e2 _).setOther (a:=⟨b,_,Ab⟩) e2 _).setOther (a:=⟨b,_,Ab⟩) e2 _).setOther (a:=⟨b,_,Ab⟩) e2 _;have aE:=Bq (show ((r.tasks.take k).map Dq ++ r.tasks.drop k).set k ⟨6,r.tasks[k].need,r.tasks[k].try_,0⟩=(r.tasks.take (k+1)).map Dq ++ r.tasks.drop (k+1) by rw [<-Nn aA Dq,hy.out]);clear d0 d1 d2 d3;have g0:=Bq Y4;clear Y4;obtain ⟨b3,o3,kK,hbb3,d0,d1,d2,d3⟩:=HO.rd.tsk jM;simp only [Option.some.injEq,Addr.mk.injEq,and_true] at kK;obtain ⟨rfl,rfl⟩:=kK;go_wp2;exact ⟨⟨k+1,Bl,by go_num,by rw [<-aE.out];exact g0,X4,R4,B4⟩,by simp [intOf];omega⟩
def J6 (y:Yard) (r:Run) (l:List Nat):Yard:=l.foldl (fun y t=>Lw y r t) y
theorem Abm (y:Yard) (r:Run) (l:List Nat) (k:Nat) (h:k<l.length):J6 y r (l.take (k+1))=Lw (J6 y r (l.take k)) r l[k]:=by
 unfold J6;rw [List.take_succ_eq_append_getElem h,List.foldl_append];rfl
structure StockF (y z:Yard) (M n:Nat):Prop where
 now:z.now=y.now
 runs:z.runs=y.runs
 len:z.shelf.length=y.shelf.length
 seq:z.seq=y.seq+n
 all:∀ s∈z.shelf,s.length<=M+n
theorem Vl {y:Yard} {M:Nat} (hM:∀ s∈y.shelf,s.length<=M) (r:Run) (l:List Nat):StockF y (J6 y r l) M l.length:=by
 obtain ⟨h1,h2,h3,h4⟩:=Qr r l y;exact ⟨h1,h2,h3,h4,Nl r M l y hM⟩
def Ox (z:Yard) (b g o cs n:Nat) (R:Sl) (Fs:List Nat) (w:World) (e:Ending) (w':World):Prop :=
 e = .returned (.tuple #[]) /\ ∃ F',OwL (Dt.list Bx) w' F' (Aa (Ac ⟨g,o,Ab⟩) n cs) z.shelf/\DBox b [J U z.now,J U z.seq,Aa (Ac ⟨g,o,Ab⟩) n cs,Aa R.a R.n R.c] w'/\(∀ x∈F',x∈Fs\/w<=x)/\Chg [b,g] w w'
theorem Ps (y:Yard) (b g o cs:Nat) (R:Sl) (r:Run) (sr:Sl×Sl) (l:List Nat) (A:Option Addr) (n c:Nat) (w:World) (Fs:List Nat) (h4:y.shelf.length=4) (hM:∀ s∈y.shelf,s.length<=100000) (hq:0<=y.seq/\y.seq<=2000000000) (hl:l.length<=1000)
  (hY:DBox b [J U y.now,J U y.seq,Aa (Ac ⟨g,o,Ab⟩) y.shelf.length cs,Aa R.a R.n R.c] w) (hs:OwL (Dt.list Bx) w Fs (Aa (Ac ⟨g,o,Ab⟩) y.shelf.length cs) y.shelf) (dA:b∉Fs)
  (HT:Hid (∀ W,Chg [b,g] w W->Rd Eu W W (Aa A n c) l)) :
  Calls Am 179 #[.pointer (Ac ⟨b,0,Ab⟩),Gt r sr,Aa A n c] w (Ox (J6 y r l) b g o cs y.shelf.length R Fs w):=by
 have cS:n=l.length:=by obtain ⟨A',c',hv,_⟩:=HT.out w (Chg.refl _ _);simp only [Value.slice.injEq] at hv;exact hv.2.1
 subst cS;have hg0:g∈Fs/\g<w:=by
  obtain ⟨_,_,_,_,_,h5,_,_⟩:=hs.elem (j:=0) Bl;exact ⟨h5,hs.lt g h5⟩
 have hbg:b≠g:=fun e=>dA (by rw [e];exact hg0.1);have jK:=Bq hs.lt;have tX:C6 r.id<y.shelf.length:=by rw [h4];exact Vb _
 have mP:=hY.lt;obtain ⟨⟨ea,en,ec⟩,⟨ta,tn,tc⟩⟩:=sr;replace h4:=Bq h4;have RB:=DBox.new 167 [J U r.id,J U r.plan.prio,J U r.plan.most,J U r.plan.wait,J U r.plan.tasks,Aa ea en ec,J U r.state,Aa ta tn tc] w (b:=w) rfl;have B0:Below w w (w.alloc (.cells #[J U r.id,J U r.plan.prio,J U r.plan.most,J U r.plan.wait,J U r.plan.tasks,Aa ea en ec,J U r.state,Aa ta tn tc] 167)):=by repeat (first | exact Br _ _ | refine Ae ?_ Bo _)
 go_enter func179,ntmps179;go_wp2_with (go_at_call 250;refine (Tc r.id _).mono ?_;rintro e w1 ⟨rfl,b1⟩)
 replace RB:=RB.below b1;replace B0:=Bu B0 b1;clear b1;generalize Gt r (⟨ea,en,ec⟩,⟨ta,tn,tc⟩)=rv;have C0:=Chg.of_below [b,g] B0;have hY0:=hY.below B0;have uR:=hs.below B0;have bS:=B0.size;have dP:=RB.lt;have eB:=hs.lt;clear hY hs;go_loopw [8,14] (fun x i wr=>∃ (k:Nat) (F:List Nat),k<=l.length/\i = J U k/\Hid (OwL (Dt.list Bx) wr F (Aa (Ac ⟨g,o,Ab⟩) y.shelf.length cs) (J6 y r (l.take k)).shelf/\(∀ x∈F,x∈Fs\/w+1<=x))/\DBox b [J U y.now,J U (J6 y r (l.take k)).seq,Aa (Ac ⟨g,o,Ab⟩) y.shelf.length cs,Aa R.a R.n R.c] wr/\DBox w [J U r.id,J U r.plan.prio,J U r.plan.most,J U r.plan.wait,J U r.plan.tasks,Aa ea en ec,J U r.state,Aa ta tn tc] wr/\Chg [b,g] w wr/\w.heap.size+1<=wr.heap.size) (fun _ i _=>l.length - (intOf i).toNat);case atStart=>exact ⟨0,Fs,Ag _,rfl,⟨uR,fun x hx=>.inl hx⟩,hY0,RB,C0,dP⟩
 case round =>
  clear hY0 RB C0 uR B0 bS dP;obtain ⟨k,F,hk,rfl,hO,Y,RB,hC,hwr⟩:=hrel;by_cases aA:k<l.length;case neg =>
   have aB:¬ (k:Int)<(l.length:Int):=Bl;have cX:=hO.out;have hE:=Bq (show l.take k=l from Bg Bl);rw [hE.out] at cX Y;have hF:Ox (J6 y r l) b g o cs y.shelf.length R Fs w (.returned (.tuple #[])) wr:=⟨rfl,F,cX.1,by rw [(Vl hM r l).now];exact Y,fun x hx=>(cX.2 x hx).imp id (fun h=>Bl),hC⟩
   have HF:=Bq hF;clear hF cX hO Y;go_wp2;exact Aj (v:=.tuple #[]) (by simp [results,results179,go_sem]) rfl HF.out
  have aB:(k:Int)<(l.length:Int):=Bl;have hf:=Vl hM r (l.take k);have aE:=Bq (Abm y r l k aA);obtain ⟨b1,o1,rfl,aK,c0⟩:=(HT.out wr hC).nat aA;have hlk:(l.take k).length<=1000:=by rw [List.length_take];omega
  generalize J6 y r (l.take k)=Z at *
  obtain ⟨gF,aP,aF,mI,dK⟩:=hf;replace gF:=Bq gF;replace aP:=Bq aP;replace aF:=Bq aF;have hsq:0<=Z.seq/\Z.seq<=2000001000:=Bl;replace mI:=Bq mI;obtain ⟨kz,hkzE⟩:∃ kz,kz=C6 r.id:=⟨_,rfl⟩
  rw [<-hkzE] at tX ⊢;replace hkzE:=Bq hkzE;have kP:kz<Z.shelf.length:=by rw [aF.out];exact tX
  obtain ⟨_,_,sk,dB,hbb9,dF,ck⟩:=hO.out.1.rd.entryS kP;simp only [Option.some.injEq,Addr.mk.injEq,and_true] at dB;obtain ⟨rfl,rfl⟩:=dB;have gL:(kz:Int)<(y.shelf.length:Int):=Bl;have cL:(0:Int)<=(kz:Int):=Bl;have qP:Z.shelf[kz].length<=900000:=by have:=dK _ (List.getElem_mem kP);omega
  have dJ:=Bq (show Z.shelf.getD kz []=Z.shelf[kz] by rw [List.getD_eq_getElem?_getD,List.getElem?_eq_getElem kP];rfl);have fZ:=hO.out.1.free0 Bl;have CP:=Bq (M5 Z.shelf[kz] sk ⟨r.plan.prio,Z.seq,r.id,l[k]⟩ wr.drew qP (dF.below (Br _ _).drew));have hgwr:g<wr:=by have:=hC.size;omega
  have hbwr:=Y.lt;obtain ⟨Y_0,Y_1,Y_2,Y_3,Y_l⟩:=Y.g4;obtain ⟨RB_0,RB_1,RB_2,RB_3,RB_4,RB_5,RB_6,RB_7,RB_l⟩:=RB.g8;generalize l[k]=tk at *
  go_upto_region 5 with fail
  have HS:=Bq (show ∀ W,Below wr wr W->(fun w'=>w'.cell? ⟨b,1,Ab⟩=Ac (J U Z.seq)/\w'.cell? ⟨b,2,Ab⟩=Ac (Aa (Ac ⟨g,o,Ab⟩) y.shelf.length cs)/\w'.cell? ⟨w,0,Ab⟩=Ac (J U r.id)/\w'.cell? ⟨w,1,Ab⟩=Ac (J U r.plan.prio)/\w'.cell? ⟨g,o+kz,Ab⟩=Ac (Aa sk.a sk.n sk.c)) W from fun W hW=>⟨(hW.cell (p:=⟨_,_,Ab⟩) hbwr).trans Y_1,(hW.cell (p:=⟨_,_,Ab⟩) hbwr).trans Y_2,(hW.cell (p:=⟨_,_,Ab⟩) hwr).trans RB_0,(hW.cell (p:=⟨_,_,Ab⟩) hwr).trans RB_1,(hW.cell (p:=⟨_,_,Ab⟩) hgwr).trans ck⟩);refine Db (fun w'=>w'.cell? ⟨b,1,Ab⟩=Ac (J U Z.seq)/\w'.cell? ⟨b,2,Ab⟩=Ac (Aa (Ac ⟨g,o,Ab⟩) y.shelf.length cs)/\w'.cell? ⟨w,0,Ab⟩=Ac (J U r.id)/\w'.cell? ⟨w,1,Ab⟩=Ac (J U r.plan.prio)/\w'.cell? ⟨g,o+kz,Ab⟩=Ac (Aa sk.a sk.n sk.c)) 25 Bm (HS.out _ (Br _ _).drew) (fun hHeld=>?_);refine aT 0 hHeld ?_;try simp only [pS]
  refine aT 1 hHeld ?_;try simp only [pS]
  refine aT 2 hHeld ?_;try simp only [pS]
  refine aT 3 hHeld ?_;try simp only [pS]
  refine aT 4 hHeld ?_;try simp only [pS]
  refine aT 5 hHeld ?_;try simp only [pS]
  refine aT 6 hHeld ?_;try simp only [pS]
  refine aT 7 hHeld ?_;try simp only [pS]
  refine aT 8 hHeld ?_;try simp only [pS]
  refine aT 9 hHeld ?_;try simp only [pS]
  refine aT 10 hHeld ?_;try simp only [pS]
  refine aT 11 hHeld ?_;try simp only [pS]
  refine aT 12 hHeld ?_;try simp only [pS]
  refine aT 13 hHeld ?_;try simp only [pS]
  refine aT 14 hHeld ?_;try simp only [pS]
  refine aT 15 hHeld ?_;try simp only [pS]
  refine aT 16 hHeld ?_;try simp only [pS]
  refine aT 17 hHeld ?_;try simp only [pS]
  refine aT 18 hHeld ?_;try simp only [pS]
  refine aT 19 hHeld ?_;try simp only [pS]
  refine aT 20 hHeld ?_;try simp only [pS]
  refine aT 21 hHeld ?_;try simp only [pS]
  refine aT 22 hHeld ?_;try simp only [pS]
  refine oT 23 (fun K hK=>?_);go_simp;refine CP.out.mono ?_;rintro e w2 ⟨t2,F2,rfl,o2,n2,b2⟩;dsimp only [slV];have b2':Below wr wr w2:=Bu (Br _ _).drew b2;have hwz:wr.drew.heap.size=wr.heap.size:=rfl;refine hK.out _ _ (fun _=>HS.out _ b2') ?_;clear hK K;try simp only [pS]
  have hgs:w2.cell? ⟨g,o+kz,Ab⟩=Ac (Aa sk.a sk.n sk.c):=(b2'.cell (p:=⟨_,_,Ab⟩) hgwr).trans ck;have pZ:w2.frozen? ⟨g,o+kz,Ab⟩=false:=(b2'.frozen (p:=⟨_,_,Ab⟩) hgwr).trans (fZ _);refine oT 24 (fun K hK=>?_);go_simp;refine hK.out _ _ (fun _=>HS.out _ b2') ?_;clear hK K;try simp only [pS]
  refine oT 25 (fun K hK=>?_);go_simp;refine hK.out _ _ (fun aC=>absurd rfl aC) ?_;clear hK K hHeld HS;try simp only [pS]
  refine D6 Bm ?_ _;obtain ⟨F',p1,p2,p3,p4⟩:=OwL.swap (hO.out.1.below b2') kP (y:=Jd Z.shelf[kz] ⟨r.plan.prio,Z.seq,r.id,tk⟩) (s:=t2) (Fy:=F2) o2 (fun x hx bJ=>by have h1:=n2 x hx;have h2:=hO.out.1.lt x bJ;omega);have fP:Hz w2 g (o+kz * (Dt.list Bx).enc.sz) ((Dt.list Bx).enc.cells (Jd Z.shelf[kz] ⟨r.plan.prio,Z.seq,r.id,tk⟩,t2))=w2.setCell ⟨g,o+kz,Ab⟩ (Aa t2.a t2.n t2.c):=by
   show Hz w2 g (o+kz * 1) [Aa t2.a t2.n t2.c]=_;rw [Nat.mul_one];rfl
  rw [fP] at p1;clear fP;have jI:Chg [b,g] w (w2.setCell ⟨g,o+kz,Ab⟩ (Aa t2.a t2.n t2.c)):=(hC.trans (Chg.of_below [b,g] b2')).trans ((Chg.setCell w2 g _ _).mono (fun x hx=>by simp only [Au] at hx;subst hx;simp));have aU:=b2'.size;clear Y_0 Y_1 Y_2 Y_3 Y_l;clear RB_0 RB_1 RB_2 RB_3 RB_4 RB_5 RB_6 RB_7 RB_l;replace Y:=(Y.below b2').setOther (a:=⟨g,o+kz,Ab⟩) hbg (Aa t2.a t2.n t2.c);replace RB:=(RB.below b2').setOther (a:=⟨g,o+kz,Ab⟩) (by show w.heap.size≠g;omega) (Aa t2.a t2.n t2.c);have uH:(w2.setCell ⟨g,o+kz,Ab⟩ (Aa t2.a t2.n t2.c)).heap.size=w2.heap.size:=by simp [World.setCell]
  generalize w2.setCell ⟨g,o+kz,Ab⟩ (Aa t2.a t2.n t2.c)=w3 at *
  have y1:=Y.cell 1 _ rfl;have yf:=Y.free;have yl:=Y.lt;have cP:∀ x∈F',x∈Fs\/w+1<=x:=fun x hx=>by
   rcases p2 x hx with h | h
   ·exact hO.out.2 x h
   ·right;have:=n2 _ h;omega
  have uF:b∉F':=fun hx=>by rcases cP _ hx with h | h;(exact dA h);omega
  have hT:=Bq (show J6 y r (l.take (k+1))=⟨Z.now,Z.seq+1,Z.shelf.set kz (Jd Z.shelf[kz] ⟨r.plan.prio,Z.seq,r.id,tk⟩),Z.runs⟩ by rw [aE.out];unfold Lw;rw [<-hkzE.out,dJ.out]);clear aE dJ hO p2 n2 p3 p4 o2 hgs pZ CP;generalize Jd Z.shelf[kz] ⟨r.plan.prio,Z.seq,r.id,tk⟩=PE at *
  go_wp2;exact ⟨⟨k+1,F',Bl,by go_num,⟨by rw [hT.out];exact p1.set (a:=⟨b,1,Ab⟩) uF _,cP⟩,by rw [hT.out];exact Y.set 1 Bn _,RB.setOther (by show w.heap.size≠b;omega) _,jI.trans ((Chg.setCell w3 b _ _).mono (fun x hx=>by simp only [Au] at hx;subst hx;simp)),by simp [World.setCell];omega⟩,by simp [intOf];omega⟩
theorem OwL.trade {α:Type} {d:Dt α} {w:World} {F:List Nat} {b o n c:Nat} {l:List α} (h:OwL d w F (Aa (Ac ⟨b,o,Ab⟩) n c) l) {j:Nat} (hj:j<l.length) :
  ∃ (s:d.S) (Fx:List Nat),d.ow w Fx l[j] s/\(∀ x∈Fx,x∈F)/\b∉Fx/\b∈F/\(∀ i,w.frozen? ⟨b,i,Ab⟩=false)/\(∀ i u,(d.enc.cells (l[j],s))[i]? = Ac u->w.cell? ⟨b,o+j * d.enc.sz+i,Ab⟩=Ac u) /\
   ∀ (w1:World) (y:α) (s':d.S) (Fy:List Nat),Chg Fx w w1->d.ow w1 Fy y s'->(∀ x∈Fy,x∈Fx) -> ∃ F',OwL d (Hz w1 b (o+j * d.enc.sz) (d.enc.cells (y,s'))) F' (Aa (Ac ⟨b,o,Ab⟩) n c) (l.set j y)/\(∀ x∈F',x∈F)/\b∈F':=by
 obtain ⟨rs,H,G,hm,hh,ho,rfl,hn⟩:=h;subst hm;have kW:j<rs.length:=by rw [Ar] at hj;exact hj
 obtain ⟨b',o',hA,rfl,mP,hf⟩:=hh.at_ Bl;simp only [Option.some.injEq,Addr.mk.injEq,and_true] at hA;obtain ⟨rfl,rfl⟩:=hA;obtain ⟨F1,F2,rfl,h1,h2⟩:=ho.split j Bl;rw [List.drop_eq_getElem_cons kW] at h2;obtain ⟨Fx,F3,rfl,h3,h4⟩:=h2.head;have gK:b∉F1 ++ (Fx ++ F3):=by
  have:=hn
  simp only [List.singleton_append,List.nodup_cons] at this;exact this.1
 have qQ:(F1 ++ (Fx ++ F3)).Nodup:=by
  have:=hn
  simp only [List.singleton_append,List.nodup_cons] at this;exact this.2
 have hlj:(rs.map (·.1))[j]=rs[j].1:=by rw [List.getElem_map]
 have uG:∀ x∈F1,x∉Fx:=fun x hx hx2=>(Ax.1 qQ).2.2 x hx x (Bf _ hx2) rfl;have hd3:∀ x∈F3,x∉Fx:=fun x hx hx2=>(Ax.1 (Ax.1 qQ).2.1).2.2 x hx2 x hx rfl;refine ⟨rs[j].2,Fx,by rw [hlj];exact h3,fun x hx=>by simp [hx],fun hx=>gK (by simp [hx]),Bn,hf,?_,?_⟩
 ·intro i u hu;rw [hlj] at hu;obtain ⟨A',c',hv,_,gN⟩:=hh.rd;simp only [Value.slice.injEq] at hv;obtain ⟨hv1,-,-⟩:=hv;obtain ⟨g',o',cC,_,aN⟩:=gN Bl;rw [<-hv1] at cC;simp only [Option.some.injEq,Addr.mk.injEq,and_true] at cC;obtain ⟨rfl,rfl⟩:=cC;exact aN j kW i u hu
 ·intro w1 y s' Fy hC hy hs;have hh1:=hh.chg hC (fun x hx hx2=>by simp only [Au] at hx;subst hx;exact gK (by simp [hx2]));have cF:b∉Fy:=fun hx=>gK (by simp [hs b hx]);have hc:=Iv (d.enc.cells (y,s')) w1 b (o+j * d.enc.sz);have hp:=Rd.part hh1.rd j kW (y,s') 0 (d.enc.cells (y,s')) (by rw [d.enc.len];omega) (fun i hi=>by rw [Nat.zero_add];exact List.getElem?_eq_getElem hi) (fun i hi ho=>by rw [d.enc.len] at ho;omega);rw [Nat.add_zero] at hp;have hz:=Jq (d.enc.cells (y,s')) w1 b (o+j * d.enc.sz);have bX:rs.set j (y,s')=rs.take j ++ ((y,s') :: rs.drop (j+1)):=by rw [List.set_eq_take_append_cons_drop,if_pos kW]
  have hf1:=hh1.2.2;have dX:∀ x,x∈[b]->x=b:=fun x hx=>Au.1 hx;refine ⟨[b] ++ (F1 ++ (Fy ++ F3)),⟨rs.set j (y,s'),[b],F1 ++ (Fy ++ F3),?_,⟨?_,?_,fun g hg i=>?_⟩,?_,rfl,?_⟩,?_,Bn⟩
  ·rw [List.map_set]
  ·rw [hz];exact hp
  ·have:=hh1.2.1
   rw [Bh];exact this
  ·rw [Iw];exact hf1 g hg i
  ·rw [bX];refine ((h1.chg hC uG).chg hc (fun x hx fG=>?_)).append (.cons (d.ow_chg hy hc (fun x hx fG=>?_)) ((h4.chg hC hd3).chg hc (fun x hx fG=>?_)))
   ·have e:=dX x fG;subst e;exact gK (Bf _ hx)
   ·have e:=dX x fG;subst e;exact cF hx
   ·have e:=dX x fG;subst e;exact gK (Be _ (Be _ hx))
  ·have hyN:=d.ow_nodup hy;rw [List.singleton_append,List.nodup_cons];refine ⟨fun hx=>?_,?_⟩
   ·simp only [Bi] at hx;rcases hx with hx | hx | hx
    ·exact gK (by simp [hx])
    ·exact cF hx
    ·exact gK (by simp [hx])
   ·rw [Ax] at qQ ⊢;obtain ⟨n1,n2,n3⟩:=qQ;rw [Ax] at n2;obtain ⟨m1,m2,m3⟩:=n2;refine ⟨n1,?_,fun a ha c hc=>?_⟩
    ·rw [Ax];exact ⟨hyN,m2,fun a ha c hc e=>by subst e;exact hd3 a hc (hs a ha)⟩
    ·rcases Bi.1 hc with hc | hc
     ·exact fun e=>by subst e;exact uG a ha (hs a hc)
     ·exact n3 a ha c (Be _ hc)
  ·intro x hx;simp only [Bi,Au] at hx ⊢;rcases hx with hx | hx | hx | hx
   ·exact .inl hx
   ·exact .inr (.inl hx)
   ·exact .inr (.inr (.inl (hs x hx)))
   ·exact .inr (.inr (.inr hx))
theorem Ado {w:World} {F:List Nat} {rs:List (Entry×Bx.S)} (h:Ows Bx w F rs):F=[]:=by
 induction h with
 | nil=>rfl
 | cons h1 _ ih=>rw [show _=[] from h1,ih];rfl
theorem Afj {w:World} {B:Nat} {v:Value} {l:List Entry} (h:RdL Bx w B v l):Rd Cy w B v l:=by
 obtain ⟨rs,rfl,⟨A,c,rfl,hc,hA⟩,_⟩:=h;refine ⟨A,c,by rw [Ar],by rw [Ar];exact hc,fun hl=>?_⟩;rw [Ar] at hl;obtain ⟨b,o,h1,h2,h3⟩:=hA hl;refine ⟨b,o,h1,h2,fun k hk j u hu=>?_⟩;rw [List.getElem_map] at hu;exact h3 k (by rw [Ar] at hk;exact hk) j u hu
theorem Vm (w:World):∀ l:List Entry,Ows Bx w [] (l.map fun x=>(x,()))
 | []=>.nil
 | x :: l=>by
  have:=Ows.cons (d:=Bx) (w:=w) (F:=[]) (r:=(x,())) rfl (Vm w l)
  exact this
theorem Qv {w:World} {F:List Nat} {v:Value} {l:List Entry} (h:OwL Bx w F v l):Hw Cy w F v l:=by
 have hr:=Afj h.rd;obtain ⟨rs,H,G,hm,hh,ho,rfl,hn⟩:=h;have hG:=Ado ho;subst hG;obtain ⟨h1,h2,h3⟩:=hh;refine ⟨hr,?_,fun g hg=>h3 g (by simpa using hg)⟩;rw [List.append_nil,h2,<-hm,Ar]
theorem Xt {w:World} {F:List Nat} {v:Value} {l:List Entry} (h1:Hw Cy w F v l):OwL Bx w F v l:=by
 obtain ⟨⟨A,c,hv,hc,hA⟩,hF,hf⟩:=id h1;subst hv;refine ⟨l.map fun x=>(x,()),F,[],by rw [List.map_map];exact List.map_id _,⟨⟨A,c,by rw [Ar],by rw [Ar];exact hc,fun hl=>?_⟩,by rw [Ar];exact hF,hf⟩,Vm w l,(List.append_nil _).symm,h1.nodup⟩;rw [Ar] at hl;obtain ⟨b,o,h3,h4,h5⟩:=hA hl;refine ⟨b,o,h3,h4,fun k hk j u hu=>?_⟩;rw [List.getElem_map] at hu;exact h5 k (by rw [Ar] at hk;exact hk) j u hu
theorem Vn {b:Nat} {w:World} {u0 u1 u2 u3 u4 u5 u6 u7:Value} (X:DBox b [u0,u1,u2,u3,u4,u5,u6,u7] w) {v0 v1 v2 v3 v4 v5:Value} {rest:List Value} :
  (results Tryz.f210 (v0 :: v1 :: v2 :: v3 :: v4 :: v5 :: .pointer (Ac ⟨b,0,Ab⟩) :: rest).toArray).run Am w = .ok (.agg #[u0,u1,u2,u3,u4,u5,u6,u7]) w:=by
 have c0:=X.cell 0 _ rfl;have c1:=X.cell 1 _ rfl;have c2:=X.cell 2 _ rfl;have c3:=X.cell 3 _ rfl;have c4:=X.cell 4 _ rfl;have c5:=X.cell 5 _ rfl;have c6:=X.cell 6 _ rfl;have c7:=X.cell 7 _ rfl;simp [results,results210,go_sem,c0,c1,c2,c3,c4,c5,c6,c7]
theorem Qw {l:List Task} {t:Nat} (h:t<l.length) (f:Task->Task):Hn l t f=l.set t (f l[t]):=by
 unfold Hn;rw [List.getD_eq_getElem?_getD,List.getElem?_eq_getElem h];rfl
theorem Te (r:Run) (s:Sl×Sl) (t:Nat) (now:Int) (w:World) (hl:Cn r<=2000000) (ht:t<r.tasks.length) (hq:-1000000<=r.tasks[t].try_/\r.tasks[t].try_<=2000000000) (gF:0<=now/\now<=2000000000) (hwait:0<=r.plan.wait/\r.plan.wait<=2000000000) (h:Ce.rd w w r s) :
  Calls Am 210 #[Gt r s,J U t,J U now] w (Df Ce Gt (Ee r t now) w):=by
 have CP:=Bq (fun W (hW:Below w w W)=>Ih r s W hl (Ce.rd_more (Ce.rd_below h hW) hW.size));obtain ⟨⟨A1,n1,c1⟩,⟨A2,n2,c2⟩⟩:=s;obtain rfl:n2=r.tasks.length:=RdL.at1 (s:=⟨A2,n2,c2⟩) h.2;clear h hl;have jR:(t:Int)<(r.tasks.length:Int):=Bl;have gM:(0:Int)<=(t:Int):=Bl;have X:=(DBox.new 167 [J U r.id,J U r.plan.prio,J U r.plan.most,J U r.plan.wait,J U r.plan.tasks,Aa A1 n1 c1,J U r.state,Aa A2 r.tasks.length c2] w (b:=w) rfl).below ((Br _ _).alloc (Bs _) (.cells #[J U 0,J U 0,J U 0,J U 0,J U 0,Aa Ab 0 0,J U 0,Aa Ab 0 0] 167));have RES:=DBox.new 167 [J U 0,J U 0,J U 0,J U 0,J U 0,Aa Ab 0 0,J U 0,Aa Ab 0 0] (w.alloc (.cells #[J U r.id,J U r.plan.prio,J U r.plan.most,J U r.plan.wait,J U r.plan.tasks,Aa A1 n1 c1,J U r.state,Aa A2 r.tasks.length c2] 167)) (b:=w+1) Bn;have B0:Below w w ((w.alloc (.cells #[J U r.id,J U r.plan.prio,J U r.plan.most,J U r.plan.wait,J U r.plan.tasks,Aa A1 n1 c1,J U r.state,Aa A2 r.tasks.length c2] 167)).alloc (.cells #[J U 0,J U 0,J U 0,J U 0,J U 0,Aa Ab 0 0,J U 0,Aa Ab 0 0] 167)):=by repeat (first | exact Br _ _ | refine Ae ?_ Bo _)
 go_enter func210,ntmps210;go_wp2_with fail
 refine (CP.out _ B0).mono ?_;rintro e w1 ⟨⟨⟨A3,n3,c3⟩,⟨A4,n4,c4⟩⟩,F,rfl,o1,nF,b1⟩;obtain ⟨F1,F2,rfl,bT,op,ot⟩:=o1;replace ot:OwL C7 w1 F2 (Aa A4 n4 c4) r.tasks:=ot;obtain rfl:n4=r.tasks.length:=RdL.at1 (s:=⟨A4,n4,c4⟩) ot.rd;have oh:=Nm ot;clear ot CP;obtain ⟨b,o,rfl,aK,d0,d1,d2,d3⟩:=oh.rd.tsk ht;have hBw:=B0.size;have aG:=oh.block Bl;obtain ⟨rfl,bW,pV⟩:=aG;have gK:=nF b Bn;have mX:=X.lt;have dP:=RES.lt;replace B0:=Bu B0 b1;replace X:=X.below b1;replace RES:=RES.below b1;clear b1
 -- the copy's own variable
 go_upto_region 2 with fail
 have OB:=DBox.new 167 [J U r.id,J U r.plan.prio,J U r.plan.most,J U r.plan.wait,J U r.plan.tasks,Aa A3 n3 c3,J U r.state,Aa (Ac ⟨b,o,Ab⟩) r.tasks.length c4] w1 (b:=w1) rfl;have b2:Below w1 w1 (w1.alloc (.cells #[J U r.id,J U r.plan.prio,J U r.plan.most,J U r.plan.wait,J U r.plan.tasks,Aa A3 n3 c3,J U r.state,Aa (Ac ⟨b,o,Ab⟩) r.tasks.length c4] 167)):=Bt;have B2:=Bu B0 b2;replace X:=X.below b2;replace RES:=RES.below b2;replace oh:=oh.below b2;have op2:=Cd.ow_below op b2;have eV:=b2.size;have ow1:=OB.lt;clear op d0 d1 d2 d3;generalize w1.alloc (.cells #[J U r.id,J U r.plan.prio,J U r.plan.most,J U r.plan.wait,J U r.plan.tasks,Aa A3 n3 c3,J U r.state,Aa (Ac ⟨b,o,Ab⟩) r.tasks.length c4] 167)=w2 at *
 have X_:=X.g8;have OB_:=OB.g8;obtain ⟨b',o',cC,bI,d0,d1,d2,d3⟩:=oh.rd.tsk ht;simp only [Option.some.injEq,Addr.mk.injEq,and_true] at cC;obtain ⟨rfl,rfl⟩:=cC;go_upto_region 6 with fail
 have XB:=DBox.new 217 [J U 3,J U r.tasks[t].need,J U (r.tasks[t].try_+1),J U (now+r.plan.wait)] w2 (b:=w2) rfl;have b3:Below w2 w2 (w2.alloc (.cells #[J U 3,J U r.tasks[t].need,J U (r.tasks[t].try_+1),J U (now+r.plan.wait)] 217)):=Bt;have B3:=Bu B2 b3;clear X_;clear OB_;clear d0 d1 d2 d3 bI;replace OB:=OB.below b3;replace RES:=RES.below b3;replace oh:=oh.below b3;have op3:=Cd.ow_below op2 b3;have kI:=b3.size;have ow2:=XB.lt;clear op2 X;generalize w2.alloc (.cells #[J U 3,J U r.tasks[t].need,J U (r.tasks[t].try_+1),J U (now+r.plan.wait)] 217)=w3 at *
 have OB_:=OB.g8;have XB_:=XB.g4;obtain ⟨b',o',cC,bI,d0,d1,d2,d3⟩:=oh.rd.tsk ht;simp only [Option.some.injEq,Addr.mk.injEq,and_true] at cC;obtain ⟨rfl,rfl⟩:=cC;have jL:=(oh.block Bl).2.2;go_upto_region 7 with fail
 have fA:b∉F1:=fun hx=>(Ax.1 bT).2.2 b hx b Bn rfl;have oh4:Hw Fj ((((w3.setCell ⟨b,o+t * 4,Ab⟩ (J U 3)).setCell ⟨b,o+t * 4+1,Ab⟩ (J U r.tasks[t].need)).setCell ⟨b,o+t * 4+2,Ab⟩ (J U (r.tasks[t].try_+1))).setCell ⟨b,o+t * 4+3,Ab⟩ (J U (now+r.plan.wait))) [b] (Aa (Ac ⟨b,o,Ab⟩) r.tasks.length c4) _:=oh.task4 ht ⟨3,r.tasks[t].need,r.tasks[t].try_+1,now+r.plan.wait⟩;have hC:Chg [b] w3 ((((w3.setCell ⟨b,o+t * 4,Ab⟩ (J U 3)).setCell ⟨b,o+t * 4+1,Ab⟩ (J U r.tasks[t].need)).setCell ⟨b,o+t * 4+2,Ab⟩ (J U (r.tasks[t].try_+1))).setCell ⟨b,o+t * 4+3,Ab⟩ (J U (now+r.plan.wait))):=(((Chg.setCell w3 b _ _).trans (Chg.setCell _ b _ _)).trans (Chg.setCell _ b _ _)).trans (Chg.setCell _ b _ _);have op4:=Cd.ow_chg op3 hC (fun x hx h=>by simp only [Au] at h;subst h;exact fA hx);have B4:Below w w ((((w3.setCell ⟨b,o+t * 4,Ab⟩ (J U 3)).setCell ⟨b,o+t * 4+1,Ab⟩ (J U r.tasks[t].need)).setCell ⟨b,o+t * 4+2,Ab⟩ (J U (r.tasks[t].try_+1))).setCell ⟨b,o+t * 4+3,Ab⟩ (J U (now+r.plan.wait))):=by
  have hbw2:w<=b:=Bl;repeat (first | (with_reducible exact B3) | refine Ad ?_ Bo _)
 clear OB_;clear XB_;clear d0 d1 d2 d3 bI jL XB;replace OB:=OB.chg hC (by simp only [Au];omega);replace RES:=RES.chg hC (by simp only [Au];omega);have mR:=hC.size;clear hC oh op3;generalize ((((w3.setCell ⟨b,o+t * 4,Ab⟩ (J U 3)).setCell ⟨b,o+t * 4+1,Ab⟩ (J U r.tasks[t].need)).setCell ⟨b,o+t * 4+2,Ab⟩ (J U (r.tasks[t].try_+1))).setCell ⟨b,o+t * 4+3,Ab⟩ (J U (now+r.plan.wait)))=w4 at *
 have OB_:=OB.g8;have RES_:=RES.g8;have rf:=RES.free;go_wp2;refine Aj (Vn (DBox.row8 RES rfl _ _ _ _ _ _ _ _)) rfl ⟨(⟨A3,n3,c3⟩,⟨Ac ⟨b,o,Ab⟩,r.tasks.length,c4⟩),F1 ++ [b],rfl,⟨F1,[b],rfl,bT,?_,?_⟩,?_,?_⟩
 ·have e2:w.heap.size+1∉F1:=fun hx=>by have:=nF _ (Bf _ hx);omega
  show Cd.ow _ F1 r.plan _;exact (by (repeat (refine Dt.ow_set Cd ?_ e2 _));exact op4)
 ·have e1:w.heap.size+1∉[b]:=by simp only [Au];omega
  show OwL C7 _ [b] _ (Hn r.tasks t fun x=>⟨3,x.need,x.try_+1,now+r.plan.wait⟩);rw [Qw ht];exact Gz ((((((((oh4.set (a:=⟨w+1,_,Ab⟩) e1 _).set (a:=⟨w+1,_,Ab⟩) e1 _).set (a:=⟨w+1,_,Ab⟩) e1 _).set (a:=⟨w+1,_,Ab⟩) e1 _).set (a:=⟨w+1,_,Ab⟩) e1 _).set (a:=⟨w+1,_,Ab⟩) e1 _).set (a:=⟨w+1,_,Ab⟩) e1 _).set (a:=⟨w+1,_,Ab⟩) e1 _)
 ·intro x hx
  have:=nF x hx
  omega
 ·repeat (first | (with_reducible exact B4) | refine Ad ?_ Bo _)
def Is (r:Run) (t:Int):Prop:=Hd r/\(0<=t/\t<r.tasks.length)/\(Cv r t.toNat).state=3
theorem Qx (r:Run) (s:Sl×Sl) (t:Int) (w:World) (hl:Cn r<=2000000) (h:Ce.rd w w r s) :
  Calls Am 264 #[Gt r s,J U t] w fun e w'=>e = .returned (.bool (tf (Is r t)))/\Below w w w':=by
 have CR:=Bq (fun W (hW:Below w w W)=>Ml r s W hl (Ce.rd_more (Ce.rd_below h hW) hW.size));have h2:=Bq (fun W (hW:Below w w W)=>(Tn h.2).below hW);have aF:r.tasks.length<=2000000:=Ah (Cj Dz _) (by unfold Cn at hl;omega);obtain ⟨⟨A1,n1,c1⟩,⟨A2,n2,c2⟩⟩:=s;obtain rfl:n2=r.tasks.length:=RdL.at1 (s:=⟨A2,n2,c2⟩) h.2;clear h hl;have X:=DBox.new 167 [J U r.id,J U r.plan.prio,J U r.plan.most,J U r.plan.wait,J U r.plan.tasks,Aa A1 n1 c1,J U r.state,Aa A2 r.tasks.length c2] w (b:=w) rfl;have B0:Below w w (w.alloc (.cells #[J U r.id,J U r.plan.prio,J U r.plan.most,J U r.plan.wait,J U r.plan.tasks,Aa A1 n1 c1,J U r.state,Aa A2 r.tasks.length c2] 167)):=by repeat (first | exact Br _ _ | refine Ae ?_ Bo _)
 cases p0:tf (Hd r);case false =>
  have H:=Bq (show tf (Is r t)=false from Ci (fun hh=>by rw [Dp hh.1] at p0;cases p0));go_enter func264,ntmps264;go_wp2_with (go_at_call 152;refine (CR.out _ B0).mono ?_;rintro e w1 ⟨rfl,b1⟩;rw [p0])
  go_ret;exact ⟨Bw H.out.symm,Bu B0 b1⟩
 cases p1:inB t 0 ((r.tasks.length:Int) - 1);case false =>
  have H:=Bq (show tf (Is r t)=false from Ci (fun hh=>by have:=hh.2.1;simp [inB] at p1;omega));go_enter func264,ntmps264;go_wp2_with fail
  refine (CR.out _ B0).mono ?_;rintro e w1 ⟨rfl,b1⟩;rw [p0];replace X:=X.below b1;have X_:=X.g8;go_wp2_with (go_at_call 63;refine (Cg _ _ _ _).mono ?_;rintro e w9 ⟨rfl,rfl⟩;rw [p1])
  go_ret;exact ⟨Bw H.out.symm,Bu B0 b1⟩
 have p2:=Cw.1 p1;obtain ⟨u,rfl⟩:=Ap p2.1;have hu:u<r.tasks.length:=Bl;have huI:((u:Nat):Int)<(r.tasks.length:Int):=Bl;have hu0:(0:Int)<=((u:Nat):Int):=Bl;obtain ⟨b,o,rfl,aK,-⟩:=(h2.out w (Br _ _)).tsk hu;have H:=Bq (show tf (Is r (u:Int))=(r.tasks[u].state == 3) by
  by_cases h3:r.tasks[u].state=3
  ·rw [Dp (show Is r (u:Int) from ⟨Mj.1 p0,⟨Bl,Bl⟩,by rw [Ao,Cu hu];exact h3⟩)];simp [h3]
  ·rw [Ci (fun hh=>h3 (by have:=hh.2.2;rw [Ao,Cu hu] at this;exact this))];simp [h3])
 clear p2;go_enter func264,ntmps264;go_wp2_with fail
 refine (CR.out _ B0).mono ?_;rintro e w1 ⟨rfl,b1⟩;rw [p0];replace X:=X.below b1;have X_:=X.g8;have B1:=Bu B0 b1;obtain ⟨b',o',cC,-,d0,-,-,-⟩:=(h2.out w1 B1).tsk hu;simp only [Option.some.injEq,Addr.mk.injEq,and_true] at cC;obtain ⟨rfl,rfl⟩:=cC;go_wp2_with (go_at_call 63;refine (Cg _ _ _ _).mono ?_;rintro e w9 ⟨rfl,rfl⟩;rw [p1])
 go_ret;exact ⟨Bw H.out.symm,B1⟩
theorem Qy {b:Nat} {w:World} {u0 u1 u2 u3 u4 u5 u6 u7:Value} (X:DBox b [u0,u1,u2,u3,u4,u5,u6,u7] w) {v0 v1 v2 v3:Value} {rest:List Value} :
  (results Tryz.f214 (v0 :: v1 :: v2 :: v3 :: .pointer (Ac ⟨b,0,Ab⟩) :: rest).toArray).run Am w = .ok (.agg #[u0,u1,u2,u3,u4,u5,u6,u7]) w:=by
 have c0:=X.cell 0 _ rfl;have c1:=X.cell 1 _ rfl;have c2:=X.cell 2 _ rfl;have c3:=X.cell 3 _ rfl;have c4:=X.cell 4 _ rfl;have c5:=X.cell 5 _ rfl;have c6:=X.cell 6 _ rfl;have c7:=X.cell 7 _ rfl;simp [results,results214,go_sem,c0,c1,c2,c3,c4,c5,c6,c7]
theorem Hw.taskSt' {w:World} {F:List Nat} {b o n c:Nat} {l:List Task} {j:Nat} {y:Task} (h:Hw Fj w F (Aa (Ac ⟨b,o,Ab⟩) n c) (l.set j y)) (hj:j<l.length) (st:Int) :
  Hw Fj (w.setCell ⟨b,o+j * 4,Ab⟩ (J U st)) F (Aa (Ac ⟨b,o,Ab⟩) n c) (l.set j ⟨st,y.need,y.try_,y.until_⟩):=by
 have:=h.taskState (j:=j) (by rw [Bh];exact hj) st
 rw [List.getElem_set_self,List.set_set] at this;exact this
theorem Mm (r:Run) (s:Sl×Sl) (u:Nat) (w:World) (hl:Cn r<=2000000) (hR:Is r u) (h:Ce.rd w w r s) :
  Calls Am 214 #[Gt r s,J U u] w (Df Ce Gt (Dn r u) w):=by
 have CP:=Bq (fun W (hW:Below w w W)=>Ih r s W hl (Ce.rd_more (Ce.rd_below h hW) hW.size));have CR:=Bq (fun W (hW:Below w w W)=>Qx r s u W hl (Ce.rd_more (Ce.rd_below h hW) hW.size));rw [Dp hR] at CR;have ht:u<r.tasks.length:=by have:=hR.2.1.2;omega
 have aF:r.tasks.length<=2000000:=Ah (Cj Dz _) (by unfold Cn at hl;omega);have dC:=Bq (Cu ht);obtain ⟨⟨A1,n1,c1⟩,⟨A2,n2,c2⟩⟩:=s;obtain rfl:n2=r.tasks.length:=RdL.at1 (s:=⟨A2,n2,c2⟩) h.2;clear h hl hR;have jR:(u:Int)<(r.tasks.length:Int):=Bl;have gM:(0:Int)<=(u:Int):=Bl;have X:=(DBox.new 167 [J U r.id,J U r.plan.prio,J U r.plan.most,J U r.plan.wait,J U r.plan.tasks,Aa A1 n1 c1,J U r.state,Aa A2 r.tasks.length c2] w (b:=w) rfl).below ((Br _ _).alloc (Bs _) (.cells #[J U 0,J U 0,J U 0,J U 0,J U 0,Aa Ab 0 0,J U 0,Aa Ab 0 0] 167));have RES:=DBox.new 167 [J U 0,J U 0,J U 0,J U 0,J U 0,Aa Ab 0 0,J U 0,Aa Ab 0 0] (w.alloc (.cells #[J U r.id,J U r.plan.prio,J U r.plan.most,J U r.plan.wait,J U r.plan.tasks,Aa A1 n1 c1,J U r.state,Aa A2 r.tasks.length c2] 167)) (b:=w+1) Bn;have B0:Below w w ((w.alloc (.cells #[J U r.id,J U r.plan.prio,J U r.plan.most,J U r.plan.wait,J U r.plan.tasks,Aa A1 n1 c1,J U r.state,Aa A2 r.tasks.length c2] 167)).alloc (.cells #[J U 0,J U 0,J U 0,J U 0,J U 0,Aa Ab 0 0,J U 0,Aa Ab 0 0] 167)):=by repeat (first | exact Br _ _ | refine Ae ?_ Bo _)
 go_enter func214,ntmps214;go_wp2_with fail
 refine (CP.out _ B0).mono ?_;rintro e w1 ⟨⟨⟨A3,n3,c3⟩,⟨A4,n4,c4⟩⟩,F,rfl,o1,nF,b1⟩;obtain ⟨F1,F2,rfl,bT,op,ot⟩:=o1;replace ot:OwL C7 w1 F2 (Aa A4 n4 c4) r.tasks:=ot;obtain rfl:n4=r.tasks.length:=RdL.at1 (s:=⟨A4,n4,c4⟩) ot.rd;have oh:=Nm ot;clear ot CP;obtain ⟨b,o,rfl,aK,d0,d1,d2,d3⟩:=oh.rd.tsk ht;clear d0 d1 d2 d3;have hBw:=B0.size;obtain ⟨rfl,bW,pV⟩:=oh.block Bl;have gK:=nF b Bn;have mX:=X.lt;have dP:=RES.lt;replace B0:=Bu B0 b1;replace X:=X.below b1;replace RES:=RES.below b1;clear b1;go_upto_region 2 with fail
 have OB:=DBox.new 167 [J U r.id,J U r.plan.prio,J U r.plan.most,J U r.plan.wait,J U r.plan.tasks,Aa A3 n3 c3,J U r.state,Aa (Ac ⟨b,o,Ab⟩) r.tasks.length c4] w1 (b:=w1) rfl;have b2:Below w1 w1 (w1.alloc (.cells #[J U r.id,J U r.plan.prio,J U r.plan.most,J U r.plan.wait,J U r.plan.tasks,Aa A3 n3 c3,J U r.state,Aa (Ac ⟨b,o,Ab⟩) r.tasks.length c4] 167)):=Bt;have B2:=Bu B0 b2;replace X:=X.below b2;replace RES:=RES.below b2;replace oh:=oh.below b2;have op2:=Cd.ow_below op b2;have eV:=b2.size;have ow1:=OB.lt;clear op;generalize w1.alloc (.cells #[J U r.id,J U r.plan.prio,J U r.plan.most,J U r.plan.wait,J U r.plan.tasks,Aa A3 n3 c3,J U r.state,Aa (Ac ⟨b,o,Ab⟩) r.tasks.length c4] 167)=w2 at *
 have X_:=X.g8;go_wp2_with fail
 refine (CR.out _ B2).mono ?_;rintro e w3 ⟨rfl,b3⟩;have B3:=Bu B2 b3;clear X_;replace X:=X.below b3;replace RES:=RES.below b3;replace OB:=OB.below b3;replace oh:=oh.below b3;have op3:=Cd.ow_below op2 b3;have kI:=b3.size;clear op2 CR b3;have X_:=X.g8;have OB_:=OB.g8;obtain ⟨b',o',cC,bI,d0,d1,d2,d3⟩:=oh.rd.tsk ht;simp only [Option.some.injEq,Addr.mk.injEq,and_true] at cC;obtain ⟨rfl,rfl⟩:=cC;have jL:=(oh.block Bl).2.2;have fA:b∉F1:=fun hx=>(Ax.1 bT).2.2 b hx b Bn rfl;go_upto_region 6 with fail
 have oh4:Hw Fj ((w3.setCell ⟨b,o+u * 4+3,Ab⟩ (J U 0)).setCell ⟨b,o+u * 4,Ab⟩ (J U 2)) [b] (Aa (Ac ⟨b,o,Ab⟩) r.tasks.length c4) (r.tasks.set u ⟨2,r.tasks[u].need,r.tasks[u].try_,0⟩):=(oh.taskUntil ht 0).taskSt' ht 2;have hC:Chg [b] w3 ((w3.setCell ⟨b,o+u * 4+3,Ab⟩ (J U 0)).setCell ⟨b,o+u * 4,Ab⟩ (J U 2)):=(Chg.setCell w3 b _ _).trans (Chg.setCell _ b _ _);have op4:=Cd.ow_chg op3 hC (fun x hx h=>by simp only [Au] at h;subst h;exact fA hx);have B4:Below w w ((w3.setCell ⟨b,o+u * 4+3,Ab⟩ (J U 0)).setCell ⟨b,o+u * 4,Ab⟩ (J U 2)):=by
  repeat (first | (with_reducible exact B3) | refine Ad ?_ Bo _)
 clear OB_;clear X_;clear d0 d1 d2 d3 bI jL;replace OB:=OB.chg hC (by simp only [Au];omega);replace X:=X.chg hC (by simp only [Au];omega);replace RES:=RES.chg hC (by simp only [Au];omega);have mR:=hC.size;clear hC oh op3;generalize ((w3.setCell ⟨b,o+u * 4+3,Ab⟩ (J U 0)).setCell ⟨b,o+u * 4,Ab⟩ (J U 2))=w4 at *
 have OB_:=OB.g8;have RES_:=RES.g8;have X_:=X.g8;have rf:=RES.free;have uM:u<(r.tasks.set u ⟨2,r.tasks[u].need,r.tasks[u].try_,0⟩).length:=by rw [Bh];exact ht
 obtain ⟨b',o',cC,bI,d0,d1,d2,d3⟩:=oh4.rd.tsk uM;simp only [Option.some.injEq,Addr.mk.injEq,and_true] at cC;obtain ⟨rfl,rfl⟩:=cC;rw [List.getElem_set_self] at d0 d1 d2 d3;have jL:=(oh4.block Bl).2.2;by_cases q:r.tasks[u].try_<r.plan.most
 ·have H:=Bq (show Dn r u=⟨r.id,r.plan,r.state,r.tasks.set u ⟨2,r.tasks[u].need,r.tasks[u].try_,0⟩⟩ by unfold Dn;rw [if_pos (by rw [dC.out];exact q),Qw ht]);have aQ:=Di w4;have bY:b<w4:=Bl;refine Bz Bm Bm ?_;repeat (go_big_quiet_step (fail))
  refine wpQuiet_nil ?_;rintro w5 ⟨⟨_,b5⟩,rfl⟩;clear aQ d0 d1 d2 d3 bI jL;clear OB_;clear RES_;clear X_;replace OB:=OB.below b5;replace RES:=RES.below b5;clear X;have oh5:=oh4.below b5;have op5:=Cd.ow_below op4 b5;have B5:=Bu B4 b5;have pT:=b5.size;clear rf;have OB_:=OB.g8;have RES_:=RES.g8;have rf:=RES.free;go_wp2;refine Aj (Qy (DBox.row8 RES rfl _ _ _ _ _ _ _ _)) rfl ⟨(⟨A3,n3,c3⟩,⟨Ac ⟨b,o,Ab⟩,r.tasks.length,c4⟩),F1 ++ [b],by rw [H.out],⟨F1,[b],rfl,bT,?_,?_⟩,?_,?_⟩
  ·have e2:w.heap.size+1∉F1:=fun hx=>by have:=nF _ (Bf _ hx);omega
   rw [H.out];show Cd.ow _ F1 r.plan _;exact (by (repeat (refine Dt.ow_set Cd ?_ e2 _));exact op5)
  ·have e1:w.heap.size+1∉[b]:=by simp only [Au];omega
   rw [H.out];show OwL C7 _ [b] _ (r.tasks.set u ⟨2,r.tasks[u].need,r.tasks[u].try_,0⟩);exact Gz ((((((((oh5.set (a:=⟨w+1,_,Ab⟩) e1 _).set (a:=⟨w+1,_,Ab⟩) e1 _).set (a:=⟨w+1,_,Ab⟩) e1 _).set (a:=⟨w+1,_,Ab⟩) e1 _).set (a:=⟨w+1,_,Ab⟩) e1 _).set (a:=⟨w+1,_,Ab⟩) e1 _).set (a:=⟨w+1,_,Ab⟩) e1 _).set (a:=⟨w+1,_,Ab⟩) e1 _)
  ·intro x hx
   have:=nF x hx
   omega
  ·repeat (first | (with_reducible exact B5) | refine Ad ?_ Bo _)
 ·have H:=Bq (show Dn r u=Dx ⟨r.id,r.plan,r.state,r.tasks.set u ⟨5,r.tasks[u].need,r.tasks[u].try_,0⟩⟩ 3 by unfold Dn;rw [if_neg (by rw [dC.out];exact q),Qw ht]);have aQ:=Di w4;have bY:b<w4:=Bl;refine Bz Bm Bm ?_;repeat (go_big_quiet_step (fail))
  refine wpQuiet_nil ?_;rintro w5 ⟨⟨_,b5⟩,rfl⟩;clear aQ d0 d1 d2 d3 bI jL;clear OB_;clear RES_;clear X_;replace OB:=OB.below b5;replace RES:=RES.below b5;clear X;have oh5:=oh4.below b5;have op5:=Cd.ow_below op4 b5;have B5:=Bu B4 b5;have pT:=b5.size;clear rf;have OB_:=OB.g8;obtain ⟨b',o',cC,bI,d0,d1,d2,d3⟩:=oh5.rd.tsk uM;simp only [Option.some.injEq,Addr.mk.injEq,and_true] at cC;obtain ⟨rfl,rfl⟩:=cC;have jL:=(oh5.block Bl).2.2;go_upto_region 9 with fail
  have oh6:=oh5.taskSt' ht 5;have hC:=Chg.setCell w5 b (o+u * 4) (J U 5);have op6:=Cd.ow_chg op5 hC (fun x hx h=>by simp only [Au] at h;subst h;exact fA hx);have B6:Below w w (w5.setCell ⟨b,o+u * 4,Ab⟩ (J U 5)):=by
   repeat (first | (with_reducible exact B5) | refine Ad ?_ Bo _)
  clear OB_;clear d0 d1 d2 d3 bI jL;replace OB:=OB.chg hC (by simp only [Au];omega);replace RES:=RES.chg hC (by simp only [Au];omega);have pP:=hC.size;generalize w5.setCell ⟨b,o+u * 4,Ab⟩ (J U 5)=w6 at *
  have OB_:=OB.g8;have hlen6:=Bq (show (r.tasks.set u ⟨5,r.tasks[u].need,r.tasks[u].try_,0⟩).length=r.tasks.length from Bh);have CL:=Bq (Pr ⟨r.id,r.plan,r.state,r.tasks.set u ⟨5,r.tasks[u].need,r.tasks[u].try_,0⟩⟩ ⟨A3,n3,c3⟩ 3 b o c4 [b] w6 (by show (r.tasks.set u _).length<=2000000;rw [Bh];omega) (by show 0<(r.tasks.set u _).length;rw [Bh];omega) (by show Hw Fj w6 [b] (Aa _ (r.tasks.set u _).length c4) _;rw [Bh];exact oh6));unfold Ro at CL;dsimp only at CL;rw [hlen6.out] at CL;go_wp2_with fail
  refine CL.out.mono ?_;rintro e w7 ⟨rfl,oh7,c7⟩;have op7:=Cd.ow_chg op6 c7 (fun x hx h=>by simp only [Au] at h;subst h;exact fA hx);have B7:Below w w w7:=B6.trans (c7.below Bl (fun x hx=>by simp only [Au] at hx;omega));clear OB_;replace RES:=RES.chg c7 (by simp only [Au];omega);have RES_:=RES.g8;have rf:=RES.free;go_wp2;refine Aj (Qy (DBox.row8 RES rfl _ _ _ _ _ _ _ _)) rfl ⟨(⟨A3,n3,c3⟩,⟨Ac ⟨b,o,Ab⟩,r.tasks.length,c4⟩),F1 ++ [b],by rw [H.out],⟨F1,[b],rfl,bT,?_,?_⟩,?_,?_⟩
  ·have e2:w.heap.size+1∉F1:=fun hx=>by have:=nF _ (Bf _ hx);omega
   rw [H.out];show Cd.ow _ F1 r.plan _;exact (by (repeat (refine Dt.ow_set Cd ?_ e2 _));exact op7)
  ·have e1:w.heap.size+1∉[b]:=by simp only [Au];omega
   rw [H.out];show OwL C7 _ [b] _ ((Dx ⟨r.id,r.plan,r.state,r.tasks.set u ⟨5,r.tasks[u].need,r.tasks[u].try_,0⟩⟩ 3).tasks);exact Gz ((((((((oh7.set (a:=⟨w+1,_,Ab⟩) e1 _).set (a:=⟨w+1,_,Ab⟩) e1 _).set (a:=⟨w+1,_,Ab⟩) e1 _).set (a:=⟨w+1,_,Ab⟩) e1 _).set (a:=⟨w+1,_,Ab⟩) e1 _).set (a:=⟨w+1,_,Ab⟩) e1 _).set (a:=⟨w+1,_,Ab⟩) e1 _).set (a:=⟨w+1,_,Ab⟩) e1 _)
  ·intro x hx
   have:=nF x hx
   omega
  ·repeat (first | (with_reducible exact B7) | refine Ad ?_ Bo _)
theorem Abn {b:Nat} {w:World} {u0 u1 u2 u3 u4 u5 u6 u7:Value} (X:DBox b [u0,u1,u2,u3,u4,u5,u6,u7] w) {v0 v1:Value} {rest:List Value} :
  (results Tryz.f216 (v0 :: v1 :: .pointer (Ac ⟨b,0,Ab⟩) :: rest).toArray).run Am w = .ok (.agg #[u0,u1,u2,u3,u4,u5,u6,u7]) w:=by
 have c0:=X.cell 0 _ rfl;have c1:=X.cell 1 _ rfl;have c2:=X.cell 2 _ rfl;have c3:=X.cell 3 _ rfl;have c4:=X.cell 4 _ rfl;have c5:=X.cell 5 _ rfl;have c6:=X.cell 6 _ rfl;have c7:=X.cell 7 _ rfl;simp [results,results216,go_sem,c0,c1,c2,c3,c4,c5,c6,c7]
theorem Zb (r:Run) (s:Sl×Sl) (w:World) (hl:Cn r<=2000000) (hR:Hd r) (hS:r.state=1) (hp:0<r.tasks.length) (h:Ce.rd w w r s) :
  Calls Am 216 #[Gt r s] w (Df Ce Gt (Dx r 4) w):=by
 have CP:=Bq (fun W (hW:Below w w W)=>Ih r s W hl (Ce.rd_more (Ce.rd_below h hW) hW.size));have CR:=Bq (fun W (hW:Below w w W)=>Ml r s W hl (Ce.rd_more (Ce.rd_below h hW) hW.size));rw [Dp hR] at CR;have aF:r.tasks.length<=2000000:=Ah (Cj Dz _) (by unfold Cn at hl;omega);obtain ⟨⟨A1,n1,c1⟩,⟨A2,n2,c2⟩⟩:=s;obtain rfl:n2=r.tasks.length:=RdL.at1 (s:=⟨A2,n2,c2⟩) h.2;clear h hl hR;have bS:(r.state != 1)=false:=by simp [hS]
 clear hS;have X:=(DBox.new 167 [J U r.id,J U r.plan.prio,J U r.plan.most,J U r.plan.wait,J U r.plan.tasks,Aa A1 n1 c1,J U r.state,Aa A2 r.tasks.length c2] w (b:=w) rfl).below ((Br _ _).alloc (Bs _) (.cells #[J U 0,J U 0,J U 0,J U 0,J U 0,Aa Ab 0 0,J U 0,Aa Ab 0 0] 167));have RES:=DBox.new 167 [J U 0,J U 0,J U 0,J U 0,J U 0,Aa Ab 0 0,J U 0,Aa Ab 0 0] (w.alloc (.cells #[J U r.id,J U r.plan.prio,J U r.plan.most,J U r.plan.wait,J U r.plan.tasks,Aa A1 n1 c1,J U r.state,Aa A2 r.tasks.length c2] 167)) (b:=w+1) Bn;have B0:Below w w ((w.alloc (.cells #[J U r.id,J U r.plan.prio,J U r.plan.most,J U r.plan.wait,J U r.plan.tasks,Aa A1 n1 c1,J U r.state,Aa A2 r.tasks.length c2] 167)).alloc (.cells #[J U 0,J U 0,J U 0,J U 0,J U 0,Aa Ab 0 0,J U 0,Aa Ab 0 0] 167)):=by repeat (first | exact Br _ _ | refine Ae ?_ Bo _)
 go_enter func216,ntmps216;go_wp2_with fail
 refine (CP.out _ B0).mono ?_;rintro e w1 ⟨⟨⟨A3,n3,c3⟩,⟨A4,n4,c4⟩⟩,F,rfl,o1,nF,b1⟩;obtain ⟨F1,F2,rfl,bT,op,ot⟩:=o1;replace ot:OwL C7 w1 F2 (Aa A4 n4 c4) r.tasks:=ot;obtain rfl:n4=r.tasks.length:=RdL.at1 (s:=⟨A4,n4,c4⟩) ot.rd;have oh:=Nm ot;clear ot CP;obtain ⟨b,o,rfl,aK,d0,d1,d2,d3⟩:=oh.rd.tsk hp;clear d0 d1 d2 d3;have hBw:=B0.size;obtain ⟨rfl,bW,pV⟩:=oh.block hp;have gK:=nF b Bn;have mX:=X.lt;have dP:=RES.lt;replace B0:=Bu B0 b1;replace X:=X.below b1;replace RES:=RES.below b1;clear b1;go_upto_region 2 with fail
 have OB:=DBox.new 167 [J U r.id,J U r.plan.prio,J U r.plan.most,J U r.plan.wait,J U r.plan.tasks,Aa A3 n3 c3,J U r.state,Aa (Ac ⟨b,o,Ab⟩) r.tasks.length c4] w1 (b:=w1) rfl;have b2:Below w1 w1 (w1.alloc (.cells #[J U r.id,J U r.plan.prio,J U r.plan.most,J U r.plan.wait,J U r.plan.tasks,Aa A3 n3 c3,J U r.state,Aa (Ac ⟨b,o,Ab⟩) r.tasks.length c4] 167)):=Bt;have B2:=Bu B0 b2;replace X:=X.below b2;replace RES:=RES.below b2;replace oh:=oh.below b2;have op2:=Cd.ow_below op b2;have eV:=b2.size;have ow1:=OB.lt;clear op;generalize w1.alloc (.cells #[J U r.id,J U r.plan.prio,J U r.plan.most,J U r.plan.wait,J U r.plan.tasks,Aa A3 n3 c3,J U r.state,Aa (Ac ⟨b,o,Ab⟩) r.tasks.length c4] 167)=w2 at *
 have X_:=X.g8;go_wp2_with fail
 refine (CR.out _ B2).mono ?_;rintro e w3 ⟨rfl,b3⟩;have B3:=Bu B2 b3;clear X_;replace X:=X.below b3;replace RES:=RES.below b3;replace OB:=OB.below b3;replace oh:=oh.below b3;have op3:=Cd.ow_below op2 b3;have kI:=b3.size;clear op2 CR b3;have X_:=X.g8;have OB_:=OB.g8;have fA:b∉F1:=fun hx=>(Ax.1 bT).2.2 b hx b Bn rfl;have CL:=Bq (Pr r ⟨A3,n3,c3⟩ 4 b o c4 [b] w3 aF hp oh);unfold Ro at CL;go_wp2_with fail
 refine CL.out.mono ?_;rintro e w7 ⟨rfl,oh7,c7⟩;have op7:=Cd.ow_chg op3 c7 (fun x hx h=>by simp only [Au] at h;subst h;exact fA hx);have B7:Below w w w7:=B3.trans (c7.below Bl (fun x hx=>by simp only [Au] at hx;omega));clear OB_;clear X_;replace RES:=RES.chg c7 (by simp only [Au];omega);have RES_:=RES.g8;have rf:=RES.free;go_wp2;refine Aj (Abn (DBox.row8 RES rfl _ _ _ _ _ _ _ _)) rfl ⟨(⟨A3,n3,c3⟩,⟨Ac ⟨b,o,Ab⟩,r.tasks.length,c4⟩),F1 ++ [b],rfl,⟨F1,[b],rfl,bT,?_,?_⟩,?_,?_⟩
 ·have e2:w.heap.size+1∉F1:=fun hx=>by have:=nF _ (Bf _ hx);omega
  show Cd.ow _ F1 r.plan _;exact (by (repeat (refine Dt.ow_set Cd ?_ e2 _));exact op7)
 ·have e1:w.heap.size+1∉[b]:=by simp only [Au];omega
  show OwL C7 _ [b] _ (Dx r 4).tasks;exact Gz ((((((((oh7.set (a:=⟨w+1,_,Ab⟩) e1 _).set (a:=⟨w+1,_,Ab⟩) e1 _).set (a:=⟨w+1,_,Ab⟩) e1 _).set (a:=⟨w+1,_,Ab⟩) e1 _).set (a:=⟨w+1,_,Ab⟩) e1 _).set (a:=⟨w+1,_,Ab⟩) e1 _).set (a:=⟨w+1,_,Ab⟩) e1 _).set (a:=⟨w+1,_,Ab⟩) e1 _)
 ·intro x hx
  have:=nF x hx
  omega
 ·repeat (first | (with_reducible exact B7) | refine Ad ?_ Bo _)
section
def Gh (y:Yard) (id task try_:Int):Prop :=
 0<=Dk y id/\(0<=task/\task<(Kh y id).tasks.length)/\(Cv (Kh y id) task.toNat).state=3/\(Cv (Kh y id) task.toNat).try_=try_
theorem Wz (y:Yard) (s:Sl×Sl) (id tk tr:Int) (w:World) (hl:Ca y<=2000000) (h:Bv.rd w w y s) :
  Calls Am 263 #[Dm y s,J U id,J U tk,J U tr] w fun e' w'=>e' = .returned (.bool (tf (Gh y id tk tr)))/\Below w w w':=by
 have HR:=Bq (show ∀ W,Below w w W->Bv.rd W W y s from fun W hW=>Bv.rd_more (Bv.rd_below h hW) hW.size);obtain ⟨⟨A1,n1,c1⟩,⟨A2,n2,c2⟩⟩:=s;obtain rfl:n2=y.runs.length:=RdL.at1 (s:=⟨A2,n2,c2⟩) h.2;have h2:RdL Ce w w (Aa A2 y.runs.length c2) y.runs:=h.2;have bZ:y.runs.length<=2000000:=Ah (Cj Cn _) (by unfold Ca at hl;omega);have X:=DBox.new 27 [J U y.now,J U y.seq,Aa A1 n1 c1,Aa A2 y.runs.length c2] w (b:=w) rfl;have B0:Below w w (w.alloc (.cells #[J U y.now,J U y.seq,Aa A1 n1 c1,Aa A2 y.runs.length c2] 27)):=by repeat (first | exact Br _ _ | refine Ae ?_ Bo _)
 have C:=E8 y (⟨A1,n1,c1⟩,⟨A2,y.runs.length,c2⟩) id (w.alloc (.cells #[J U y.now,J U y.seq,Aa A1 n1 c1,Aa A2 y.runs.length c2] 27)) hl (HR.out _ B0);clear h;rcases Ez y id with hr | ⟨k,hk,hr⟩
 ·have H:=Bq (show tf (Gh y id tk tr)=false from Ci (fun hh=>by have:=hh.1;omega));rw [hr] at C;clear hr;go_enter func263,ntmps263;go_wp2_with fail
  generalize (w.alloc (.cells #[J U y.now,J U y.seq,Aa A1 n1 c1,Aa A2 y.runs.length c2] 27))=W at *
  refine C.mono ?_;rintro e1 w1 ⟨rfl,b1⟩;go_wp2;go_ret;exact ⟨Bw H.out.symm,Bu B0 b1⟩
 ·have tS:=G8 hl hk;have HR2:=Bq hr;rw [hr] at C;clear hr;have HK:=Bq (Gy hk HR2.out);go_enter func263,ntmps263;go_wp2_with fail
  generalize (w.alloc (.cells #[J U y.now,J U y.seq,Aa A1 n1 c1,Aa A2 y.runs.length c2] 27))=W at *
  refine C.mono ?_;rintro e1 w1 ⟨rfl,b1⟩;replace X:=X.below b1;have X_:=X.g4;replace B0:=Bu B0 b1;obtain ⟨b,o,⟨s1,⟨At,nt,ct⟩⟩,eN,aK,cM,c0_,c1_,c2_,c3_,c4_,c5_,c6_,c7_⟩:=(h2.below B0).run hk;subst eN;obtain rfl:nt=y.runs[k].tasks.length:=RdL.at1 (s:=⟨At,nt,ct⟩) cM.2;have h3:RdL C7 w1 w (Aa At y.runs[k].tasks.length ct) y.runs[k].tasks:=cM.2;have gL:(k:Int)<(y.runs.length:Int):=Bl;have hk00:(0:Int)<=(k:Int):=Bl;have cL:decide ((0:Int)<=(k:Int))=true:=decide_eq_true Bl;have bS:b<w1:=Ai aK B0.size;have wr1:U.wrap ((y.runs[k].tasks.length:Int) - 1)=(y.runs[k].tasks.length:Int) - 1:=IntWalk.i64_in _ Bl;cases q:inB tk 0 ((y.runs[k].tasks.length:Int) - 1)
  ·have H:=Bq (show tf (Gh y id tk tr)=false from Ci (fun hh=>by
    have h5:=hh.2.1;rw [HK.out] at h5
    have:=Cw.2 (show 0<=tk/\tk<=(y.runs[k].tasks.length:Int) - 1 by omega)
    rw [q] at this;cases this))
   go_wp2_with (go_at_call 63;refine (Cg _ _ _ _).mono ?_;rintro e w9 ⟨rfl,rfl⟩;rw [q])
   go_ret;exact ⟨Bw H.out.symm,B0⟩
  ·have qq:=Cw.1 q;obtain ⟨t,rfl⟩:=Ap qq.1;have ht:t<y.runs[k].tasks.length:=Bl;obtain ⟨b',o',_,sR,bI,_,d0,d1,d2,d3⟩:=h3.task ht;subst sR;have eV:b'<w1:=Ai bI B0.size;have jR:(t:Int)<(y.runs[k].tasks.length:Int):=Bl;have gM:(0:Int)<=(t:Int):=Bl;have H:=Bq (show tf (Gh y id t tr)=((y.runs[k].tasks[t].state == 3) && (y.runs[k].tasks[t].try_ == tr)) by
    rw [Bool.eq_iff_iff,Mj,Bool.and_eq_true,beq_iff_eq,beq_iff_eq];unfold Gh;rw [HK.out,Ao,Cu ht,HR2.out];constructor
    ·intro hh;exact hh.2.2
    ·intro hh;exact ⟨Bl,⟨Bl,Bl⟩,hh⟩)
   clear qq;generalize y.runs[k].tasks[t].state=st at *
   generalize y.runs[k].tasks[t].try_=ty at *
   cases q2:(st == 3)
   ·go_wp2_with (go_at_call 63;refine (Cg _ _ _ _).mono ?_;rintro e w9 ⟨rfl,rfl⟩;rw [q])
    go_ret;exact ⟨Bw (by rw [H.out,q2];rfl),B0⟩
   ·go_wp2_with (go_at_call 63;refine (Cg _ _ _ _).mono ?_;rintro e w9 ⟨rfl,rfl⟩;rw [q])
    go_ret;exact ⟨Bw (by rw [H.out,q2];rfl),B0⟩
open Classical in
noncomputable def Gn (y:Yard) (id tk tr:Int):Int:=if ¬ Dh y then 8 else if Dk y id<0 then 10 else if ¬ Gh y id tk tr then 11 else 0
theorem Si (y:Yard) (s:Sl×Sl) (id tk tr:Int) (w:World) (hl:Ca y<=2000000) (h:Bv.rd w w y s) :
  Calls Am 211 #[Dm y s,J U id,J U tk,J U tr] w fun e' w'=>e' = .returned (J U (Gn y id tk tr))/\Below w w w':=by
 have HR:=Bq (show ∀ W,Below w w W->Bv.rd W W y s from fun W hW=>Bv.rd_more (Bv.rd_below h hW) hW.size);obtain ⟨⟨A1,n1,c1⟩,⟨A2,n2,c2⟩⟩:=s;have CY:=Bq (fun W hW=>Fz y (⟨A1,n1,c1⟩,⟨A2,n2,c2⟩) W hl (HR.out W hW));have CA:=Bq (fun W hW=>E8 y (⟨A1,n1,c1⟩,⟨A2,n2,c2⟩) id W hl (HR.out W hW));have CH:=Bq (fun W hW=>Wz y (⟨A1,n1,c1⟩,⟨A2,n2,c2⟩) id tk tr W hl (HR.out W hW));clear h;obtain ⟨W,aH,X,B0⟩:=bx1 w 27 [J U y.now,J U y.seq,Aa A1 n1 c1,Aa A2 n2 c2];go_enter func211,ntmps211;go_wp2_with fail
 rw [<-aH.out];clear aH;refine (CY.out _ B0).mono ?_;rintro e1 w1 ⟨rfl,b1⟩;replace X:=X.below b1;have X_:=X.g4;replace B0:=Bu B0 b1;by_cases p0:Dh y;case neg =>
  have H:=Bq (show Gn y id tk tr=8 from if_pos p0);rw [Ci p0];clear p0;go_wp2;go_ret;exact ⟨by rw [H.out];rfl,B0⟩
 rw [Dp p0];go_wp2_with fail
 refine (CA.out _ B0).mono ?_;rintro e1 w2 ⟨rfl,b2⟩;clear X_;replace X:=X.below b2;have X_:=X.g4;replace B0:=Bu B0 b2;by_cases p1:Dk y id<0
 ·have H:=Bq (show Gn y id tk tr=10 by unfold Gn;rw [if_neg (fun h=>h p0),if_pos p1]);clear p0;go_wp2;go_ret;exact ⟨by rw [H.out];rfl,B0⟩
 go_wp2_with fail
 refine (CH.out _ B0).mono ?_;rintro e1 w3 ⟨rfl,b3⟩;replace B0:=Bu B0 b3;by_cases p2:Gh y id tk tr
 ·have H:=Bq (show Gn y id tk tr=0 by unfold Gn;rw [if_neg (fun h=>h p0),if_neg Bl,if_neg (fun h=>h p2)]);rw [Dp p2];clear p0 p2;go_wp2;go_ret;exact ⟨by rw [H.out];rfl,B0⟩
 ·have H:=Bq (show Gn y id tk tr=11 by unfold Gn;rw [if_neg (fun h=>h p0),if_neg Bl,if_pos p2]);rw [Ci p2];clear p0 p2;go_wp2;go_ret;exact ⟨by rw [H.out];rfl,B0⟩
end
end Go.Proofs.YtonlnjdempbfoabGreat
