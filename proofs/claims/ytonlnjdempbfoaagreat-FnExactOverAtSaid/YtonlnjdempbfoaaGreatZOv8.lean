/-
  l13Turn of the reference: a run of the yard is otherwise. Shelves of the program: Merged. A run's own tasks that are written; l09Leave of the reference.  stock 
-/
import Derived.Test.YtonlnjdempbfoaaGreatZOv0
import Derived.Test.YtonlnjdempbfoaaGreatZOv3
import Derived.Test.YtonlnjdempbfoaaGreatZOv4
import Derived.Test.YtonlnjdempbfoaaGreatZOv7
import Derived.Deep.Cut
namespace Go.Proofs.YtonlnjdempbfoaaGreat
open Go.RowKit
set_option maxRecDepth 100000
set_option maxHeartbeats 4000000
set_option linter.unusedVariables false
set_option linter.unusedSimpArgs false
theorem OwL.elem {α:Type} {d:Dt α} {w:World} {F:List Nat} {b o n c:Nat} {l:List α} (h:OwL d w F (.slice (some ⟨b,o,none⟩) n c) l) {j:Nat} (hj:j<l.length) :
  ∃ (s:d.S) (Fx:List Nat),d.ow w Fx l[j] s/\(∀ x∈Fx,x∈F)/\b∉Fx/\b∈F/\(∀ i,w.frozen? ⟨b,i,none⟩=false)/\(∀ i u,(d.enc.cells (l[j],s))[i]? = some u->w.cell? ⟨b,o+j * d.enc.sz+i,none⟩=some u):=by
 obtain ⟨rs,H,G,hm,hh,ho,rfl,hn⟩:=h
 subst hm
 have jX:j<rs.length:=by rw [List.length_map] at hj;exact hj
 obtain ⟨b',o',hA,rfl,mE,hf⟩:=hh.at_ (by omega)
 simp only [Option.some.injEq,Addr.mk.injEq,and_true] at hA
 obtain ⟨rfl,rfl⟩:=hA
 obtain ⟨F1,F2,rfl,h1,h2⟩:=ho.split j (by omega)
 rw [List.drop_eq_getElem_cons jX] at h2
 obtain ⟨Fx,F3,rfl,h3,h4⟩:=h2.head
 have fX:b∉F1 ++ (Fx ++ F3):=by
  have:=hn
  simp only [List.singleton_append,List.nodup_cons] at this
  exact this.1
 have e:(rs.map (·.1))[j]'(by rw [List.length_map];exact jX)=rs[j].1:=by rw [List.getElem_map]
 refine ⟨rs[j].2,Fx,by rw [e];exact h3,fun x hx=>by simp [hx],fun hx=>fX (by simp [hx]),by simp,hf,fun i u hu=>?_⟩
 rw [e] at hu
 obtain ⟨A',c',hv,_,hA⟩:=hh.rd
 simp only [Value.slice.injEq] at hv
 obtain ⟨rfl,_,_⟩:=hv
 obtain ⟨b2,o2,dW,_,hc⟩:=hA (by omega)
 simp only [Option.some.injEq,Addr.mk.injEq,and_true] at dW
 obtain ⟨rfl,rfl⟩:=dW
 exact hc j jX i u hu
theorem Abk {b:Nat} {w:World} {u0 u1 u2 u3:Value} (X:DBox b [u0,u1,u2,u3] w) {v0 v1 v2 v3 v4 v5:Value} {rest:List Value} :
  (results Tryz.f210 (v0 :: v1 :: v2 :: v3 :: v4 :: v5 :: .pointer (some ⟨b,0,none⟩) :: rest).toArray).run Tryz.prog w = .ok (.agg #[u0,u1,u2,u3]) w:=by
 have c0:=X.cell 0 _ rfl
 have c1:=X.cell 1 _ rfl
 have c2:=X.cell 2 _ rfl
 have c3:=X.cell 3 _ rfl
 simp [results,Tryz.results210,go_sem,c0,c1,c2,c3]
def Abl (z:Yard) (F Fr:List Nat) (w:World) (e:Ending) (w':World):Prop :=
 ∃ (s':Sl×Sl) (F':List Nat),e = .returned (By z s')/\Ab.ow w' F' z s'/\(∀ x∈F',x∈F\/x∈Fr\/w.heap.size<=x)/\Chg F w w'
theorem I9 (y:Yard) (s:Sl×Sl) (k:Nat) (r:Run) (sr:Sl×Sl) (w:World) (F Fr:List Nat) (h4:y.shelf.length=4) (hM:∀ s∈y.shelf,s.length<=1000000) (hq:0<=y.seq/\y.seq<=2000000000) (hk:k<y.runs.length) (hT:r.tasks.length<=1000) (qG:y.runs[k].tasks.length<=1000)
  (hy:Ab.ow w F y s) (hr:Am.ow w Fr r sr) (hd:∀ x∈Fr,x∉F) :
  Calls Tryz.prog 210 #[By y s,.int .i64 k,Ey r sr] w (Abl (Dq y k r) F Fr w):=by
 obtain ⟨F1,F2,rfl,hn,hs,fH⟩:=hy
 obtain ⟨⟨sa,sn,sc⟩,⟨ra,rn,rc⟩⟩:=s
 replace hs:OwL (Dt.list Af) w F1 (.slice sa sn sc) y.shelf:=hs
 replace fH:OwL Am w F2 (.slice ra rn rc) y.runs:=fH
 obtain rfl:sn=y.shelf.length:=RdL.at1 (s:=⟨sa,sn,sc⟩) hs.rd
 obtain rfl:rn=y.runs.length:=RdL.at1 (s:=⟨ra,rn,rc⟩) fH.rd
 have qQ:0<y.shelf.length:=by omega
 replace h4:=Lib.hid h4
 obtain ⟨g,o,_,rfl,fL,_,_⟩:=hs.rd.entryS (k:=0) qQ
 obtain ⟨gr,o2,_,rfl,dD,_⟩:=fH.rd.run hk
 obtain ⟨sw,Fx,hx,aY,jZ,fA,pE,mR⟩:=fH.elem hk
 obtain ⟨_,_,_,_,_,eF,hgfr,_⟩:=hs.elem (j:=0) qQ
 have c0:w.cell? ⟨gr,o2+k * 8,none⟩=some (.int .i64 y.runs[k].id):=mR 0 _ rfl
 have c1:w.cell? ⟨gr,o2+k * 8+1,none⟩=some (.int .i64 y.runs[k].plan.prio):=mR 1 _ rfl
 have c2:w.cell? ⟨gr,o2+k * 8+2,none⟩=some (.int .i64 y.runs[k].plan.most):=mR 2 _ rfl
 have c3:w.cell? ⟨gr,o2+k * 8+3,none⟩=some (.int .i64 y.runs[k].plan.wait):=mR 3 _ rfl
 have c4:w.cell? ⟨gr,o2+k * 8+4,none⟩=some (.int .i64 y.runs[k].plan.tasks):=mR 4 _ rfl
 have c5:w.cell? ⟨gr,o2+k * 8+5,none⟩=some (.slice sw.1.a sw.1.n sw.1.c):=mR 5 _ rfl
 have c6:w.cell? ⟨gr,o2+k * 8+6,none⟩=some (.int .i64 y.runs[k].state):=mR 6 _ rfl
 have c7:w.cell? ⟨gr,o2+k * 8+7,none⟩=some (.slice sw.2.a sw.2.n sw.2.c):=mR 7 _ rfl
 have fY:(k:Int)<(y.runs.length:Int):=by omega
 have dG:(0:Int)<=(k:Int):=by omega
 obtain ⟨W,aG,Y,RB,RES,B0⟩:=bx3 w 31 [.int .i64 y.now,.int .i64 y.seq,.slice (some ⟨g,o,none⟩) y.shelf.length sc,.slice (some ⟨gr,o2,none⟩) y.runs.length rc] 89 [.int .i64 r.id,.int .i64 r.plan.prio,.int .i64 r.plan.most,.int .i64 r.plan.wait,.int .i64 r.plan.tasks,.slice sr.1.a sr.1.n sr.1.c,.int .i64 r.state,.slice sr.2.a sr.2.n sr.2.c] 31 [.int .i64 0,.int .i64 0,.slice none 0 0,.slice none 0 0]
 go_enter Tryz.func210,Tryz.ntmps210
 go_upto_region 1 with fail
 rw [<-aG.out]
 clear aG
 obtain ⟨Y_0,Y_1,Y_2,Y_3,Y_l⟩:=Y.g4
 obtain ⟨RB_0,RB_1,RB_2,RB_3,RB_4,RB_5,RB_6,RB_7,RB_l⟩:=RB.g8
 obtain ⟨RES_0,RES_1,RES_2,RES_3,RES_l⟩:=RES.g4
 replace c0:=(B0.cell (p:=⟨gr,o2+k * 8,none⟩) dD).trans c0
 replace c1:=(B0.cell (p:=⟨gr,o2+k * 8+1,none⟩) dD).trans c1
 replace c2:=(B0.cell (p:=⟨gr,o2+k * 8+2,none⟩) dD).trans c2
 replace c3:=(B0.cell (p:=⟨gr,o2+k * 8+3,none⟩) dD).trans c3
 replace c4:=(B0.cell (p:=⟨gr,o2+k * 8+4,none⟩) dD).trans c4
 replace c5:=(B0.cell (p:=⟨gr,o2+k * 8+5,none⟩) dD).trans c5
 replace c6:=(B0.cell (p:=⟨gr,o2+k * 8+6,none⟩) dD).trans c6
 replace c7:=(B0.cell (p:=⟨gr,o2+k * 8+7,none⟩) dD).trans c7
 have hfW:=fun i=>(B0.frozen (p:=⟨gr,i,none⟩) dD).trans (pE i)
 have hsW:=B0.size
 have pK:gr<W.heap.size:=by omega
 go_upto_region 2 with fail
 have b1:Below W.heap.size W (W.alloc (.cells #[.int .i64 y.runs[k].id,.int .i64 y.runs[k].plan.prio,.int .i64 y.runs[k].plan.most,.int .i64 y.runs[k].plan.wait,.int .i64 y.runs[k].plan.tasks,.slice sw.1.a sw.1.n sw.1.c,.int .i64 y.runs[k].state,.slice sw.2.a sw.2.n sw.2.c] 89)):=(Below.refl _ _).alloc (Nat.le_refl _) _
 have WB:=DBox.new 89 [.int .i64 y.runs[k].id,.int .i64 y.runs[k].plan.prio,.int .i64 y.runs[k].plan.most,.int .i64 y.runs[k].plan.wait,.int .i64 y.runs[k].plan.tasks,.slice sw.1.a sw.1.n sw.1.c,.int .i64 y.runs[k].state,.slice sw.2.a sw.2.n sw.2.c] W (b:=W.heap.size) rfl
 clear Y_0 Y_1 Y_2 Y_3 Y_l
 clear RB_0 RB_1 RB_2 RB_3 RB_4 RB_5 RB_6 RB_7 RB_l
 clear RES_0 RES_1 RES_2 RES_3 RES_l
 replace Y:=Y.below b1
 replace RB:=RB.below b1
 replace RES:=RES.below b1
 have B1:=Aa B0 b1
 replace c0:=(b1.cell (p:=⟨gr,o2+k * 8,none⟩) pK).trans c0
 replace c1:=(b1.cell (p:=⟨gr,o2+k * 8+1,none⟩) pK).trans c1
 replace c2:=(b1.cell (p:=⟨gr,o2+k * 8+2,none⟩) pK).trans c2
 replace c3:=(b1.cell (p:=⟨gr,o2+k * 8+3,none⟩) pK).trans c3
 replace c4:=(b1.cell (p:=⟨gr,o2+k * 8+4,none⟩) pK).trans c4
 replace c5:=(b1.cell (p:=⟨gr,o2+k * 8+5,none⟩) pK).trans c5
 replace c6:=(b1.cell (p:=⟨gr,o2+k * 8+6,none⟩) pK).trans c6
 replace c7:=(b1.cell (p:=⟨gr,o2+k * 8+7,none⟩) pK).trans c7
 replace hfW:=fun i=>(b1.frozen (p:=⟨gr,i,none⟩) pK).trans (hfW i)
 obtain ⟨hwb,hwbE⟩:∃ x,x=W.heap.size:=⟨_,rfl⟩
 rw [<-hwbE] at WB ⊢
 have hwb1:=Nat.le_of_eq hwbE
 have hwb2:=Nat.le_of_eq hwbE.symm
 clear hwbE
 generalize W.alloc (.cells #[.int .i64 y.runs[k].id,.int .i64 y.runs[k].plan.prio,.int .i64 y.runs[k].plan.most,.int .i64 y.runs[k].plan.wait,.int .i64 y.runs[k].plan.tasks,.slice sw.1.a sw.1.n sw.1.c,.int .i64 y.runs[k].state,.slice sw.2.a sw.2.n sw.2.c] 89)=W2 at *
 obtain ⟨Y_0,Y_1,Y_2,Y_3,Y_l⟩:=Y.g4
 obtain ⟨RB_0,RB_1,RB_2,RB_3,RB_4,RB_5,RB_6,RB_7,RB_l⟩:=RB.g8
 obtain ⟨RES_0,RES_1,RES_2,RES_3,RES_l⟩:=RES.g4
 obtain ⟨WB_0,WB_1,WB_2,WB_3,WB_4,WB_5,WB_6,WB_7,WB_l⟩:=WB.g8
 have hrn2:=fH.below B1
 have tR:=Am.ow_below hr B1
 have gC:gr∉Fr:=fun h=>hd _ h (List.mem_append_right _ fA)
 have jU:g∉Fr:=fun h=>hd _ h (List.mem_append_left _ eF)
 have dU:∀ x∈F1,x∉F2:=fun x h1 h2=>(List.nodup_append.1 hn).2.2 x h1 x h2 rfl
 obtain ⟨F2',p1,p2,p3,p4⟩:=OwL.swap hrn2 hk (y:=r) (s:=sr) tR (fun x hx hx2=>hd x hx (List.mem_append_right _ hx2))
 have eZ:E9 W2 gr (o2+k * Am.enc.sz) (Am.enc.cells (r,sr))=((((((((W2.setCell ⟨gr,o2+k * 8,none⟩ (.int .i64 r.id)).setCell ⟨gr,o2+k * 8+1,none⟩ (.int .i64 r.plan.prio)).setCell ⟨gr,o2+k * 8+2,none⟩ (.int .i64 r.plan.most)).setCell ⟨gr,o2+k * 8+3,none⟩ (.int .i64 r.plan.wait)).setCell ⟨gr,o2+k * 8+4,none⟩ (.int .i64 r.plan.tasks)).setCell ⟨gr,o2+k * 8+5,none⟩ (.slice sr.1.a sr.1.n sr.1.c)).setCell ⟨gr,o2+k * 8+6,none⟩ (.int .i64 r.state)).setCell ⟨gr,o2+k * 8+7,none⟩ (.slice sr.2.a sr.2.n sr.2.c)):=rfl
 have hC:Chg [gr] W2 ((((((((W2.setCell ⟨gr,o2+k * 8,none⟩ (.int .i64 r.id)).setCell ⟨gr,o2+k * 8+1,none⟩ (.int .i64 r.plan.prio)).setCell ⟨gr,o2+k * 8+2,none⟩ (.int .i64 r.plan.most)).setCell ⟨gr,o2+k * 8+3,none⟩ (.int .i64 r.plan.wait)).setCell ⟨gr,o2+k * 8+4,none⟩ (.int .i64 r.plan.tasks)).setCell ⟨gr,o2+k * 8+5,none⟩ (.slice sr.1.a sr.1.n sr.1.c)).setCell ⟨gr,o2+k * 8+6,none⟩ (.int .i64 r.state)).setCell ⟨gr,o2+k * 8+7,none⟩ (.slice sr.2.a sr.2.n sr.2.c)):=by rw [<-eZ];exact Gk _ _ _ _
 rw [eZ] at p1
 clear eZ
 have nB:gr∉F1:=fun h=>dU _ h fA
 have hgx2:g∉Fx:=fun h=>dU _ eF (aY _ h)
 have jP:=(hs.below B1).chg hC (fun x hx h=>by simp only [List.mem_singleton] at h;subst h;exact nB hx)
 have hx3:=Am.ow_chg (Am.ow_below hx B1) hC (fun x hx h=>by simp only [List.mem_singleton] at h;subst h;exact jZ hx)
 have hr3:=Am.ow_chg tR hC (fun x hx h=>by simp only [List.mem_singleton] at h;subst h;exact gC hx)
 have nY:=RES_l
 have hsz2:=B1.size
 have hszb:=b1.size
 go_upto_region 3 with fail
 clear Y_0 Y_1 Y_2 Y_3 Y_l
 clear RB_0 RB_1 RB_2 RB_3 RB_4 RB_5 RB_6 RB_7 RB_l
 clear RES_0 RES_1 RES_2 RES_3 RES_l
 clear WB_0 WB_1 WB_2 WB_3 WB_4 WB_5 WB_6 WB_7 WB_l
 replace Y:=Y.chg hC (by simp only [List.mem_singleton];omega)
 replace RB:=RB.chg hC (by simp only [List.mem_singleton];omega)
 replace RES:=RES.chg hC (by simp only [List.mem_singleton];omega)
 replace WB:=WB.chg hC (by simp only [List.mem_singleton];omega)
 have hsz3:=hC.size
 generalize ((((((((W2.setCell ⟨gr,o2+k * 8,none⟩ (.int .i64 r.id)).setCell ⟨gr,o2+k * 8+1,none⟩ (.int .i64 r.plan.prio)).setCell ⟨gr,o2+k * 8+2,none⟩ (.int .i64 r.plan.most)).setCell ⟨gr,o2+k * 8+3,none⟩ (.int .i64 r.plan.wait)).setCell ⟨gr,o2+k * 8+4,none⟩ (.int .i64 r.plan.tasks)).setCell ⟨gr,o2+k * 8+5,none⟩ (.slice sr.1.a sr.1.n sr.1.c)).setCell ⟨gr,o2+k * 8+6,none⟩ (.int .i64 r.state)).setCell ⟨gr,o2+k * 8+7,none⟩ (.slice sr.2.a sr.2.n sr.2.c))=W3 at *
 obtain ⟨Y_0,Y_1,Y_2,Y_3,Y_l⟩:=Y.g4
 obtain ⟨RB_0,RB_1,RB_2,RB_3,RB_4,RB_5,RB_6,RB_7,RB_l⟩:=RB.g8
 obtain ⟨RES_0,RES_1,RES_2,RES_3,RES_l⟩:=RES.g4
 obtain ⟨WB_0,WB_1,WB_2,WB_3,WB_4,WB_5,WB_6,WB_7,WB_l⟩:=WB.g8
 clear c0 c1 c2 c3 c4 c5 c6 c7 hfW
 go_wp2_with fail
 refine (Pa ⟨y.now,y.seq,y.shelf,y.runs.set k r⟩ g o sc ⟨some ⟨gr,o2,none⟩,y.runs.length,rc⟩ y.runs[k] sw r sr W3 F1 h4.out hM hq hT qG jP (Lib.hid fun W hW=>(Am.ow_rd (Am.ow_chg hr3 hW (fun x hx h=>by simp only [List.mem_singleton] at h;subst h;exact jU hx))).2) (Lib.hid fun W hW=>(Am.ow_rd (Am.ow_chg hx3 hW (fun x hx h=>by simp only [List.mem_singleton] at h;subst h;exact hgx2 hx))).2)).mono ?_
 rintro e W4 ⟨F1',rfl,q1,q2,q3⟩
 have HE:=Lib.hid (show Dq y k r=Kr ⟨y.now,y.seq,y.shelf,y.runs.set k r⟩ y.runs[k] r by unfold Dq;rw [List.getD_eq_getElem?_getD,List.getElem?_eq_getElem hk];rfl)
 have fK:=Lib.hid (show (Kr ⟨y.now,y.seq,y.shelf,y.runs.set k r⟩ y.runs[k] r).runs=y.runs.set k r from (M8 (y:=⟨y.now,y.seq,y.shelf,y.runs.set k r⟩) (was:=y.runs[k]) (r:=r) hM r.tasks.length).runs)
 dsimp only at q1
 generalize Kr ⟨y.now,y.seq,y.shelf,y.runs.set k r⟩ y.runs[k] r=Z at *
 have hsz4:=q3.size
 clear Y_0 Y_1 Y_2 Y_3 Y_l
 clear RB_0 RB_1 RB_2 RB_3 RB_4 RB_5 RB_6 RB_7 RB_l
 clear RES_0 RES_1 RES_2 RES_3 RES_l
 clear WB_0 WB_1 WB_2 WB_3 WB_4 WB_5 WB_6 WB_7 WB_l
 replace RES:=RES.chg q3 (by simp only [List.mem_singleton];omega)
 obtain ⟨RES_0,RES_1,RES_2,RES_3,RES_l⟩:=RES.g4
 have rf:=RES.free
 have hg1':∀ x∈F1',x∈F1\/W3.heap.size<=x:=q2
 have cU:∀ x∈F1,x<w.heap.size:=hs.lt
 have aR:∀ x∈F2,x<w.heap.size:=fH.lt
 have hltr:∀ x∈Fr,x<w.heap.size:=Am.ow_lt hr
 have pA:w.heap.size+1+1∉F1':=fun h=>by
  rcases q2 _ h with h | h
  ·have:=cU _ h;omega
  ·omega
 have fM:w.heap.size+1+1∉F2':=fun h=>by
  rcases p2 _ h with h | h
  ·have:=aR _ h;omega
  ·have:=hltr _ h;omega
 have p5:=p1.chg q3 (fun x hx h=>by
  simp only [List.mem_singleton] at h
  subst h
  rcases p2 _ hx with h | h
  ·exact dU _ eF h
  ·exact jU h)
 have bK:(F1' ++ F2').Nodup:=by
  rw [List.nodup_append]
  refine ⟨q1.nodup,p1.nodup,fun a ha c hc e=>?_⟩
  subst e
  rcases q2 _ ha with h | h<;>rcases p2 _ hc with h' | h'
  ·exact dU _ h h'
  ·exact hd _ h' (List.mem_append_left _ h)
  ·have:=aR _ h';omega
  ·have:=hltr _ h';omega
 have hcw:Chg (F1 ++ F2) w W4:=(((Chg.of_below (F1 ++ F2) B1).trans (hC.mono (fun x hx=>by simp only [List.mem_singleton] at hx;subst hx;exact List.mem_append_right _ fA))).trans (q3.mono (fun x hx=>by simp only [List.mem_singleton] at hx;subst hx;exact List.mem_append_left _ eF)))
 go_wp2
 refine bodyPost_ret (Abk (DBox.row4 RES rfl _ _ _ _)) rfl ⟨(⟨some ⟨g,o,none⟩,y.shelf.length,sc⟩,⟨some ⟨gr,o2,none⟩,y.runs.length,rc⟩),F1' ++ F2',by rw [HE.out],⟨F1',F2',rfl,bK,?_,?_⟩,?_,?_⟩
 ·rw [HE.out]
  show OwL (Dt.list Af) _ F1' (.slice (some ⟨g,o,none⟩) y.shelf.length sc) Z.shelf
  exact (((q1.set (a:=⟨_,_,none⟩) pA _).set (a:=⟨_,_,none⟩) pA _).set (a:=⟨_,_,none⟩) pA _).set (a:=⟨_,_,none⟩) pA _
 ·rw [HE.out]
  show OwL Am _ F2' (.slice (some ⟨gr,o2,none⟩) y.runs.length rc) Z.runs
  rw [fK.out]
  exact (((p5.set (a:=⟨_,_,none⟩) fM _).set (a:=⟨_,_,none⟩) fM _).set (a:=⟨_,_,none⟩) fM _).set (a:=⟨_,_,none⟩) fM _
 ·intro x hx
  rcases List.mem_append.1 hx with hx | hx
  ·rcases q2 _ hx with h | h
   ·exact .inl (List.mem_append_left _ h)
   ·right;right;omega
  ·rcases p2 _ hx with h | h
   ·exact .inl (List.mem_append_right _ h)
   ·exact .inr (.inl h)
 ·exact (((hcw.high (by omega) _ _).high (by omega) _ _).high (by omega) _ _).high (by omega) _ _
theorem Rx (a b:List Entry) (s r:Sl) (w:World) (hl:a.length<=400000) (hl':b.length<=400000) (h:RdL Af w w.heap.size s.v a) (h':RdL Af w w.heap.size r.v b) :
  Calls Tryz.prog 73 #[.slice s.a s.n s.c,.slice r.a r.n r.c] w (Cj (Dt.list Af) slV (Eb a b) w):=by
 have CC:=Lib.hid (Gz a s w (by omega) h)
 obtain ⟨A,n,c⟩:=s
 obtain rfl:n=a.length:=RdL.at1 (s:=⟨A,n,c⟩) h
 obtain ⟨A',n',c'⟩:=r
 obtain rfl:n'=b.length:=RdL.at1 (s:=⟨A',n',c'⟩) h'
 by_cases h8:80<a.length+b.length
 ·have hI:(80:Int)<(a.length:Int)+(b.length:Int):=by omega
  have H:=Lib.hid (show Eb a b=a from if_pos h8)
  go_enter Tryz.func73,Tryz.ntmps73
  go_wp2_with fail
  refine CC.out.mono ?_
  rintro e w1 ⟨s9,F9,rfl,o9,n9,b1⟩
  dsimp only [slV]
  go_wp2
  go_ret
  exact ⟨s9,F9,rfl,by rw [H.out];exact o9,n9,b1⟩
 have hI:¬ (80:Int)<(a.length:Int)+(b.length:Int):=by omega
 have H:=Lib.hid (show Eb a b=b.foldl G4 a from if_neg h8)
 go_enter Tryz.func73,Tryz.ntmps73
 go_wp2_with fail
 refine CC.out.mono ?_
 rintro e w1 ⟨s9,F9,rfl,o9,n9,d1⟩
 dsimp only [slV]
 go_wp2
 clear CC
 go_loopw [5,19] (fun x i wr=>∃ (k:Nat) (t:Sl) (F:List Nat),k<=b.length/\x = .slice t.a t.n t.c/\i = .int .i64 k/\Hid (OwL Af wr F t.v ((b.take k).foldl G4 a)/\(∀ x∈F,w.heap.size<=x))/\Below w.heap.size w wr) (fun _ i _=>b.length - (intOf i).toNat)
 case atStart=>exact ⟨0,s9,F9,Nat.zero_le _,rfl,rfl,⟨o9,n9⟩,d1⟩
 case round =>
  clear o9 n9 d1
  obtain ⟨k,t,F,hk,rfl,rfl,hO,hb⟩:=hrel
  by_cases aA:k<b.length
  ·have aB:(k:Int)<(b.length:Int):=by omega
   obtain ⟨b1,o,_,rfl,aH,_,c0,c1,c2,c3⟩:=(h'.below hb).entry aA
   have hs:=hb.size
   have bN:b1<wr.heap.size:=by omega
   have HT:=Lib.hid (Il G4 a b k aA)
   have aJ:((b.take k).foldl G4 a).length<=900000:=by rw [Jl];simp;omega
   have ha:Below wr.heap.size wr (wr.alloc (.cells #[.int .i64 b[k].prio,.int .i64 b[k].seq,.int .i64 b[k].run,.int .i64 b[k].task] 93)):=(Below.refl _ _).alloc (Nat.le_refl _) _
   have CP:=Lib.hid (Ki ((b.take k).foldl G4 a) t b[k] _ aJ ((hO.out.1.below ha).rd))
   generalize (b.take k).foldl G4 a=L at *
   go_wp2_with (go_at_call 137;refine CP.out.mono ?_;rintro e w2 ⟨t2,F2,rfl,o2,n2,b2⟩)
   have hE:=Aa hb (Aa ha b2)
   have hz:=ha.size
   exact ⟨⟨k+1,t2,F2,by omega,rfl,by go_num,⟨by rw [HT.out];exact o2,fun x hx=>by have:=n2 x hx;omega⟩,hE⟩,by simp [intOf];omega⟩
  ·have aB:¬ (k:Int)<(b.length:Int):=by omega
   have HO:=hO.out.1
   rw [List.take_of_length_le (by omega)] at HO
   go_wp2
   go_ret
   exact ⟨t,F,rfl,by rw [H.out];exact HO,hO.out.2,hb⟩
theorem Abm {w:World} {F:List Nat} {rs:List (Task×Cv.S)} (h:Ows Cv w F rs):F=[]:=by
 induction h with
 | nil=>rfl
 | cons h1 _ ih=>rw [show _=[] from h1,ih];rfl
theorem Ku {w:World} {F:List Nat} {v:Value} {l:List Task} (h:OwL Cv w F v l):Hw Dj w F v l:=by
 have hr:=Qf h.rd
 obtain ⟨rs,H,G,hm,hh,ho,rfl,hn⟩:=h
 have hG:=Abm ho
 subst hG
 obtain ⟨h1,h2,h3⟩:=hh
 refine ⟨hr,?_,fun g hg=>h3 g (by simpa using hg)⟩
 rw [List.append_nil,h2,<-hm,List.length_map]
theorem Eg {w:World} {F:List Nat} {v:Value} {l:List Task} (h1:Hw Dj w F v l):OwL Cv w F v l:=by
 obtain ⟨⟨A,c,hv,hc,hA⟩,hF,hf⟩:=id h1
 subst hv
 refine ⟨l.map fun x=>(x,()),F,[],by rw [List.map_map];exact List.map_id _,⟨⟨A,c,by rw [List.length_map],by rw [List.length_map];exact hc,fun hl=>?_⟩,by rw [List.length_map];exact hF,hf⟩,Rl w l,(List.append_nil _).symm,h1.nodup⟩
 rw [List.length_map] at hl
 obtain ⟨b,o,h3,h4,h5⟩:=hA hl
 refine ⟨b,o,h3,h4,fun k hk j u hu=>?_⟩
 rw [List.getElem_map] at hu
 exact h5 k (by rw [List.length_map] at hk;exact hk) j u hu
theorem Hw.part {α:Type} {e:Enc α} {w:World} {F:List Nat} {b o n c:Nat} {l:List α} (h:Hw e w F (.slice (some ⟨b,o,none⟩) n c) l) {j:Nat} (hj:j<l.length) (y:α) (off:Nat) (us:List Value) (hoff:off+us.length<=e.sz)
  (cC:∀ i (hi:i<us.length),(e.cells y)[off+i]? = some us[i]) (eX:∀ i,i<e.sz->(i<off\/off+us.length<=i)->(e.cells y)[i]? = (e.cells l[j])[i]?) :
  Hw e (E9 w b (o+j * e.sz+off) us) F (.slice (some ⟨b,o,none⟩) n c) (l.set j y):=by
 refine ⟨?_,by rw [List.length_set];exact h.2.1,fun g hg i=>by rw [Gl];exact h.2.2 g hg i⟩
 have:=Rd.part h.rd j hj y off us hoff cC eX
 rw [Hg]
 exact this
theorem Hw.block {α:Type} {e:Enc α} {w:World} {F:List Nat} {b o n c:Nat} {l:List α} (h:Hw e w F (.slice (some ⟨b,o,none⟩) n c) l) (hp:0<l.length):F=[b]/\b<w.heap.size/\(∀ i,w.frozen? ⟨b,i,none⟩=false):=by
 obtain ⟨b',o',hA,hF,hb,hf⟩:=h.at_ hp
 simp only [Option.some.injEq,Addr.mk.injEq,and_true] at hA
 obtain ⟨rfl,rfl⟩:=hA
 exact ⟨hF,hb,hf⟩
theorem Rd.tsk {w:World} {B:Nat} {A:Option Addr} {n c:Nat} {l:List Task} (h:Rd Dj w B (.slice A n c) l) {k:Nat} (hk:k<l.length) :
  ∃ b o,A=some ⟨b,o,none⟩/\b<B/\w.cell? ⟨b,o+k * 4,none⟩=some (.int .i64 l[k].state)/\w.cell? ⟨b,o+k * 4+1,none⟩=some (.int .i64 l[k].need)/\w.cell? ⟨b,o+k * 4+2,none⟩=some (.int .i64 l[k].try_)/\w.cell? ⟨b,o+k * 4+3,none⟩=some (.int .i64 l[k].until_):=by
 obtain ⟨A',c',hv,_,hA⟩:=h
 simp only [Value.slice.injEq] at hv
 obtain ⟨rfl,_,_⟩:=hv
 obtain ⟨b,o,bS,hb,hc⟩:=hA (by omega)
 exact ⟨b,o,bS,hb,hc k hk 0 _ rfl,hc k hk 1 _ rfl,hc k hk 2 _ rfl,hc k hk 3 _ rfl⟩
theorem Hw.task4 {w:World} {F:List Nat} {b o n c:Nat} {l:List Task} (h:Hw Dj w F (.slice (some ⟨b,o,none⟩) n c) l) {j:Nat} (hj:j<l.length) (y:Task) :
  Hw Dj ((((w.setCell ⟨b,o+j * 4,none⟩ (.int .i64 y.state)).setCell ⟨b,o+j * 4+1,none⟩ (.int .i64 y.need)).setCell ⟨b,o+j * 4+2,none⟩ (.int .i64 y.try_)).setCell ⟨b,o+j * 4+3,none⟩ (.int .i64 y.until_)) F (.slice (some ⟨b,o,none⟩) n c) (l.set j y) :=
 h.part hj y 0 [.int .i64 y.state,.int .i64 y.need,.int .i64 y.try_,.int .i64 y.until_] (Nat.le_refl _) (fun i hi=>by rw [Nat.zero_add];exact List.getElem?_eq_getElem hi) (fun i hi ho=>by simp at ho;have:i<4:=hi;omega)
theorem Hw.taskState {w:World} {F:List Nat} {b o n c:Nat} {l:List Task} (h:Hw Dj w F (.slice (some ⟨b,o,none⟩) n c) l) {j:Nat} (hj:j<l.length) (st:Int) :
  Hw Dj (w.setCell ⟨b,o+j * 4,none⟩ (.int .i64 st)) F (.slice (some ⟨b,o,none⟩) n c) (l.set j ⟨st,l[j].need,l[j].try_,l[j].until_⟩) :=
 h.part hj ⟨st,l[j].need,l[j].try_,l[j].until_⟩ 0 [.int .i64 st] (show 0+1<=4 by omega) (fun i hi=>by simp at hi;subst hi;rfl) (fun i hi ho=>by
  have:i<4:=hi
  rcases (show i=1\/i=2\/i=3 by simp at ho;omega) with rfl | rfl | rfl<;>rfl)
theorem Hw.taskUntil {w:World} {F:List Nat} {b o n c:Nat} {l:List Task} (h:Hw Dj w F (.slice (some ⟨b,o,none⟩) n c) l) {j:Nat} (hj:j<l.length) (u:Int) :
  Hw Dj (w.setCell ⟨b,o+j * 4+3,none⟩ (.int .i64 u)) F (.slice (some ⟨b,o,none⟩) n c) (l.set j ⟨l[j].state,l[j].need,l[j].try_,u⟩) :=
 h.part hj ⟨l[j].state,l[j].need,l[j].try_,u⟩ 3 [.int .i64 u] (show 3+1<=4 by omega) (fun i hi=>by simp at hi;subst hi;rfl) (fun i hi ho=>by
  have:i<4:=hi
  rcases (show i=0\/i=1\/i=2 by simp at ho;omega) with rfl | rfl | rfl<;>rfl)
theorem DBox.row8 {b:Nat} {cs:List Value} {w:World} (h:DBox b cs w) (hn:cs.length=8) (u0 u1 u2 u3 u4 u5 u6 u7:Value) :
  DBox b [u0,u1,u2,u3,u4,u5,u6,u7] ((((((((w.setCell ⟨b,0,none⟩ u0).setCell ⟨b,1,none⟩ u1).setCell ⟨b,2,none⟩ u2).setCell ⟨b,3,none⟩ u3).setCell ⟨b,4,none⟩ u4).setCell ⟨b,5,none⟩ u5).setCell ⟨b,6,none⟩ u6).setCell ⟨b,7,none⟩ u7):=by
 obtain ⟨c0,c1,c2,c3,c4,c5,c6,c7,rfl⟩:∃ c0 c1 c2 c3 c4 c5 c6 c7,cs=[c0,c1,c2,c3,c4,c5,c6,c7]:=by
  match cs,hn with
  | [c0,c1,c2,c3,c4,c5,c6,c7],_=>exact ⟨c0,c1,c2,c3,c4,c5,c6,c7,rfl⟩
 exact (((((((h.set 0 (by simp) u0).set 1 (by simp) u1).set 2 (by simp) u2).set 3 (by simp) u3).set 4 (by simp) u4).set 5 (by simp) u5).set 6 (by simp) u6).set 7 (by simp) u7
theorem Aat {b:Nat} {w:World} {u0 u1 u2 u3 u4 u5 u6 u7:Value} (X:DBox b [u0,u1,u2,u3,u4,u5,u6,u7] w) {v0 v1 v2 v3:Value} {rest:List Value} :
  (results Tryz.f244 (v0 :: v1 :: v2 :: v3 :: .pointer (some ⟨b,0,none⟩) :: rest).toArray).run Tryz.prog w = .ok (.agg #[u0,u1,u2,u3,u4,u5,u6,u7]) w:=by
 have c0:=X.cell 0 _ rfl
 have c1:=X.cell 1 _ rfl
 have c2:=X.cell 2 _ rfl
 have c3:=X.cell 3 _ rfl
 have c4:=X.cell 4 _ rfl
 have c5:=X.cell 5 _ rfl
 have c6:=X.cell 6 _ rfl
 have c7:=X.cell 7 _ rfl
 simp [results,Tryz.results244,go_sem,c0,c1,c2,c3,c4,c5,c6,c7]
theorem Kv {l:List Task} {k:Nat} (hk:k<l.length) (f:Task->Task):((l.take k).map f ++ l.drop k).set k (f l[k])=(l.take (k+1)).map f ++ l.drop (k+1):=by
 rw [List.drop_eq_getElem_cons hk,List.set_append_right _ _ (by simp;omega)]
 rw [show k - ((l.take k).map f).length=0 by simp;omega,List.set_cons_zero,List.take_succ_eq_append_getElem hk,List.map_append,List.append_assoc]
 rfl
def Of (r:Run) (st:Int) (E:Sl) (b o c:Nat) (F:List Nat) (w:World) (e:Ending) (w':World):Prop :=
 e = .returned (Ey (Bz r st) (E,⟨some ⟨b,o,none⟩,r.tasks.length,c⟩))/\Hw Dj w' F (.slice (some ⟨b,o,none⟩) r.tasks.length c) (Bz r st).tasks/\Chg [b] w w'
theorem Ms (r:Run) (E:Sl) (st:Int) (b o c:Nat) (F:List Nat) (w:World) (hl:r.tasks.length<=2000000) (hp:0<r.tasks.length) (h:Hw Dj w F (.slice (some ⟨b,o,none⟩) r.tasks.length c) r.tasks) :
  Calls Tryz.prog 244 #[Ey r (E,⟨some ⟨b,o,none⟩,r.tasks.length,c⟩),.int .i64 st] w (Of r st E b o c F w):=by
 obtain ⟨rfl,bN,pF⟩:=h.block hp
 have X:=(DBox.new 89 [.int .i64 r.id,.int .i64 r.plan.prio,.int .i64 r.plan.most,.int .i64 r.plan.wait,.int .i64 r.plan.tasks,.slice E.a E.n E.c,.int .i64 r.state,.slice (some ⟨b,o,none⟩) r.tasks.length c] w (b:=w.heap.size) rfl).below ((Below.refl _ _).alloc (Nat.le_refl _) (.cells #[.int .i64 0,.int .i64 0,.int .i64 0,.int .i64 0,.int .i64 0,.slice none 0 0,.int .i64 0,.slice none 0 0] 89))
 have RES:=DBox.new 89 [.int .i64 0,.int .i64 0,.int .i64 0,.int .i64 0,.int .i64 0,.slice none 0 0,.int .i64 0,.slice none 0 0] (w.alloc (.cells #[.int .i64 r.id,.int .i64 r.plan.prio,.int .i64 r.plan.most,.int .i64 r.plan.wait,.int .i64 r.plan.tasks,.slice E.a E.n E.c,.int .i64 r.state,.slice (some ⟨b,o,none⟩) r.tasks.length c] 89)) (b:=w.heap.size+1) (by simp)
 have B0:Below w.heap.size w ((w.alloc (.cells #[.int .i64 r.id,.int .i64 r.plan.prio,.int .i64 r.plan.most,.int .i64 r.plan.wait,.int .i64 r.plan.tasks,.slice E.a E.n E.c,.int .i64 r.state,.slice (some ⟨b,o,none⟩) r.tasks.length c] 89)).alloc (.cells #[.int .i64 0,.int .i64 0,.int .i64 0,.int .i64 0,.int .i64 0,.slice none 0 0,.int .i64 0,.slice none 0 0] 89)):=by repeat (first | exact Below.refl _ _ | refine Below.alloc ?_ (by simp<;>omega) _)
 go_enter Tryz.func244,Tryz.ntmps244
 go_wp2
 have C0:=Chg.of_below [b] B0
 have h0:=h.below B0
 generalize Ey r (E,⟨some ⟨b,o,none⟩,r.tasks.length,c⟩)=rv
 generalize ((w.alloc (.cells #[.int .i64 r.id,.int .i64 r.plan.prio,.int .i64 r.plan.most,.int .i64 r.plan.wait,.int .i64 r.plan.tasks,.slice E.a E.n E.c,.int .i64 r.state,.slice (some ⟨b,o,none⟩) r.tasks.length c] 89)).alloc (.cells #[.int .i64 0,.int .i64 0,.int .i64 0,.int .i64 0,.int .i64 0,.slice none 0 0,.int .i64 0,.slice none 0 0] 89))=W at *
 go_loopw [5] (fun i wr=>∃ k:Nat,k<=r.tasks.length/\i = .int .i64 k/\Hid (Hw Dj wr [b] (.slice (some ⟨b,o,none⟩) r.tasks.length c) ((r.tasks.take k).map Bt ++ r.tasks.drop k))/\DBox w.heap.size [.int .i64 r.id,.int .i64 r.plan.prio,.int .i64 r.plan.most,.int .i64 r.plan.wait,.int .i64 r.plan.tasks,.slice E.a E.n E.c,.int .i64 r.state,.slice (some ⟨b,o,none⟩) r.tasks.length c] wr/\DBox (w.heap.size+1) [.int .i64 0,.int .i64 0,.int .i64 0,.int .i64 0,.int .i64 0,.slice none 0 0,.int .i64 0,.slice none 0 0] wr/\Chg [b] w wr) (fun i _=>r.tasks.length - (intOf i).toNat)
 case atStart=>exact ⟨0,Nat.zero_le _,rfl,by simpa using Lib.hid h0,X,RES,C0⟩
 case round =>
  clear X RES C0 h0 B0
  obtain ⟨k,hk,rfl,hO,X,RES,hb⟩:=hrel
  obtain ⟨X_0,X_1,X_2,X_3,X_4,X_5,X_6,X_7,X_l⟩:=X.g8
  obtain ⟨RES_0,RES_1,RES_2,RES_3,RES_4,RES_5,RES_6,RES_7,RES_l⟩:=RES.g8
  by_cases aA:k<r.tasks.length
  case neg =>
   have aB:¬ (k:Int)<(r.tasks.length:Int):=by omega
   have HO:=hO.out
   rw [List.take_of_length_le (by omega),List.drop_eq_nil_of_le (by omega),List.append_nil] at HO
   have xf:=X.free
   have rf:=RES.free
   go_wp2
   have R4:=DBox.row8 (RES.setOther (a:=⟨w.heap.size,6,none⟩) (by show w.heap.size+1≠w.heap.size;omega) (.int .i64 st)) rfl (.int .i64 r.id) (.int .i64 r.plan.prio) (.int .i64 r.plan.most) (.int .i64 r.plan.wait) (.int .i64 r.plan.tasks) (.slice E.a E.n E.c) (.int .i64 st) (.slice (some ⟨b,o,none⟩) r.tasks.length c)
   have sY:∀ x∈[b],x∉[w.heap.size,w.heap.size+1]:=fun x hx h2=>by
    simp only [List.mem_singleton] at hx
    simp only [List.mem_cons,List.not_mem_nil,or_false] at h2
    omega
   refine bodyPost_ret (Aat R4) rfl ⟨rfl,?_,?_⟩
   ·show Hw Dj _ [b] _ (r.tasks.map Bt)
    have e1:w.heap.size∉[b]:=by simp only [List.mem_singleton];omega
    have e2:w.heap.size+1∉[b]:=by simp only [List.mem_singleton];omega
    exact ((((((((HO.set (a:=⟨_,_,none⟩) e1 _).set (a:=⟨_,_,none⟩) e2 _).set (a:=⟨_,_,none⟩) e2 _).set (a:=⟨_,_,none⟩) e2 _).set (a:=⟨_,_,none⟩) e2 _).set (a:=⟨_,_,none⟩) e2 _).set (a:=⟨_,_,none⟩) e2 _).set (a:=⟨_,_,none⟩) e2 _).set (a:=⟨_,_,none⟩) e2 _
   ·exact ((((((((hb.high (Nat.le_refl _) _ _).high (by omega) _ _).high (by omega) _ _).high (by omega) _ _).high (by omega) _ _).high (by omega) _ _).high (by omega) _ _).high (by omega) _ _).high (by omega) _ _
  have aB:(k:Int)<(r.tasks.length:Int):=by omega
  have dG:(0:Int)<=(k:Int):=by omega
  have gR:k<((r.tasks.take k).map Bt ++ r.tasks.drop k).length:=by simp;omega
  have sC:=Lib.hid (show ((r.tasks.take k).map Bt ++ r.tasks.drop k)[k]=r.tasks[k] by
   rw [List.getElem_append_right (by simp;omega)]
   simp [Nat.min_eq_left (Nat.le_of_lt aA)])
  obtain ⟨b1,o1,mA,hbb1,c0,c1,c2,c3⟩:=hO.out.rd.tsk gR
  simp only [Option.some.injEq,Addr.mk.injEq,and_true] at mA
  obtain ⟨rfl,rfl⟩:=mA
  rw [sC.out] at c0 c1 c2 c3
  have hlM:=Lib.hid (show ((r.tasks.take k).map Bt ++ r.tasks.drop k).length=r.tasks.length by simp;omega)
  by_cases s4:r.tasks[k].state=4
  ·have q4:(r.tasks[k].state != 4)=false:=by simp [s4]
   have hy:=Lib.hid (show Bt r.tasks[k]=⟨r.tasks[k].state,r.tasks[k].need,r.tasks[k].try_,r.tasks[k].until_⟩ by unfold Bt;rw [if_neg (by simp [s4])])
   clear s4
   go_upto_region 8 with fail
   have XB:DBox wr.heap.size [.int .i64 r.tasks[k].state,.int .i64 r.tasks[k].need,.int .i64 r.tasks[k].try_,.int .i64 r.tasks[k].until_] (wr.alloc (.cells #[.int .i64 r.tasks[k].state,.int .i64 r.tasks[k].need,.int .i64 r.tasks[k].try_,.int .i64 r.tasks[k].until_] 138)):=DBox.new 138 [.int .i64 r.tasks[k].state,.int .i64 r.tasks[k].need,.int .i64 r.tasks[k].try_,.int .i64 r.tasks[k].until_] wr rfl
   have bw:Chg [b] wr (wr.alloc (.cells #[.int .i64 r.tasks[k].state,.int .i64 r.tasks[k].need,.int .i64 r.tasks[k].try_,.int .i64 r.tasks[k].until_] 138)):=Chg.of_below _ ((Below.refl _ _).alloc (Nat.le_refl _) _)
   have bb:Below wr.heap.size wr (wr.alloc (.cells #[.int .i64 r.tasks[k].state,.int .i64 r.tasks[k].need,.int .i64 r.tasks[k].try_,.int .i64 r.tasks[k].until_] 138)):=by repeat (first | (with_reducible exact Below.refl _ _) | refine Below.setCell ?_ (by simp<;>omega) _ | refine Below.alloc ?_ (by simp<;>omega) _)
   have HO:=hO.out.below bb
   replace X:=X.below bb
   replace RES:=RES.below bb
   clear bb
   have hbz:=bw.size
   generalize (wr.alloc (.cells #[.int .i64 r.tasks[k].state,.int .i64 r.tasks[k].need,.int .i64 r.tasks[k].try_,.int .i64 r.tasks[k].until_] 138))=W1 at *
   clear X_0 X_1 X_2 X_3 X_4 X_5 X_6 X_7 X_l
   clear RES_0 RES_1 RES_2 RES_3 RES_4 RES_5 RES_6 RES_7 RES_l
   obtain ⟨X_0,X_1,X_2,X_3,X_4,X_5,X_6,X_7,X_l⟩:=X.g8
   have z0:=XB.cell 0 _ rfl
   have z1:=XB.cell 1 _ rfl
   have z2:=XB.cell 2 _ rfl
   have z3:=XB.cell 3 _ rfl
   have zl:=XB.lt
   obtain ⟨b2,o2,dW,kF,d0,d1,d2,d3⟩:=HO.rd.tsk gR
   simp only [Option.some.injEq,Addr.mk.injEq,and_true] at dW
   obtain ⟨rfl,rfl⟩:=dW
   have hfz:=(HO.block (by omega)).2.2
   have Y4:Hw Dj ((((W1.setCell ⟨b,o+k * 4,none⟩ (.int .i64 r.tasks[k].state)).setCell ⟨b,o+k * 4+1,none⟩ (.int .i64 r.tasks[k].need)).setCell ⟨b,o+k * 4+2,none⟩ (.int .i64 r.tasks[k].try_)).setCell ⟨b,o+k * 4+3,none⟩ (.int .i64 r.tasks[k].until_)) [b] (.slice (some ⟨b,o,none⟩) r.tasks.length c) _:=HO.task4 gR ⟨r.tasks[k].state,r.tasks[k].need,r.tasks[k].try_,r.tasks[k].until_⟩
   have B4:Chg [b] w ((((W1.setCell ⟨b,o+k * 4,none⟩ (.int .i64 r.tasks[k].state)).setCell ⟨b,o+k * 4+1,none⟩ (.int .i64 r.tasks[k].need)).setCell ⟨b,o+k * 4+2,none⟩ (.int .i64 r.tasks[k].try_)).setCell ⟨b,o+k * 4+3,none⟩ (.int .i64 r.tasks[k].until_)):=(((((hb.trans bw).trans (Chg.setCell _ b _ _)).trans (Chg.setCell _ b _ _)).trans (Chg.setCell _ b _ _)).trans (Chg.setCell _ b _ _))
   have e1:w.heap.size≠b:=by omega
   have e2:w.heap.size+1≠b:=by omega
   have X4:DBox w.heap.size _ ((((W1.setCell ⟨b,o+k * 4,none⟩ (.int .i64 r.tasks[k].state)).setCell ⟨b,o+k * 4+1,none⟩ (.int .i64 r.tasks[k].need)).setCell ⟨b,o+k * 4+2,none⟩ (.int .i64 r.tasks[k].try_)).setCell ⟨b,o+k * 4+3,none⟩ (.int .i64 r.tasks[k].until_)):=(((X.setOther (a:=⟨b,_,none⟩) e1 _).setOther (a:=⟨b,_,none⟩) e1 _).setOther (a:=⟨b,_,none⟩) e1 _).setOther (a:=⟨b,_,none⟩) e1 _
   have R4:DBox (w.heap.size+1) _ ((((W1.setCell ⟨b,o+k * 4,none⟩ (.int .i64 r.tasks[k].state)).setCell ⟨b,o+k * 4+1,none⟩ (.int .i64 r.tasks[k].need)).setCell ⟨b,o+k * 4+2,none⟩ (.int .i64 r.tasks[k].try_)).setCell ⟨b,o+k * 4+3,none⟩ (.int .i64 r.tasks[k].until_)):=(((RES.setOther (a:=⟨b,_,none⟩) e2 _).setOther (a:=⟨b,_,none⟩) e2 _).setOther (a:=⟨b,_,none⟩) e2 _).setOther (a:=⟨b,_,none⟩) e2 _
   have aE:=Lib.hid (show ((r.tasks.take k).map Bt ++ r.tasks.drop k).set k ⟨r.tasks[k].state,r.tasks[k].need,r.tasks[k].try_,r.tasks[k].until_⟩=(r.tasks.take (k+1)).map Bt ++ r.tasks.drop (k+1) by rw [<-Kv aA Bt,hy.out])
   clear d0 d1 d2 d3
   have g0:=Lib.hid Y4
   clear Y4
   obtain ⟨b3,o3,jY,hbb3,d0,d1,d2,d3⟩:=HO.rd.tsk gR
   simp only [Option.some.injEq,Addr.mk.injEq,and_true] at jY
   obtain ⟨rfl,rfl⟩:=jY
   go_wp2
   exact ⟨⟨k+1,by omega,by go_num,by rw [<-aE.out];exact g0,X4,R4,B4⟩,by simp [intOf];omega⟩
  by_cases s5:r.tasks[k].state=5
  ·have q4:(r.tasks[k].state != 4)=true:=by simp [s4]
   have q5:(r.tasks[k].state != 5)=false:=by simp [s5]
   have hy:=Lib.hid (show Bt r.tasks[k]=⟨r.tasks[k].state,r.tasks[k].need,r.tasks[k].try_,r.tasks[k].until_⟩ by unfold Bt;rw [if_neg (by simp [s5])])
   clear s4 s5
   go_upto_region 8 with fail
   have XB:DBox wr.heap.size [.int .i64 r.tasks[k].state,.int .i64 r.tasks[k].need,.int .i64 r.tasks[k].try_,.int .i64 r.tasks[k].until_] (wr.alloc (.cells #[.int .i64 r.tasks[k].state,.int .i64 r.tasks[k].need,.int .i64 r.tasks[k].try_,.int .i64 r.tasks[k].until_] 138)):=DBox.new 138 [.int .i64 r.tasks[k].state,.int .i64 r.tasks[k].need,.int .i64 r.tasks[k].try_,.int .i64 r.tasks[k].until_] wr rfl
   have bw:Chg [b] wr (wr.alloc (.cells #[.int .i64 r.tasks[k].state,.int .i64 r.tasks[k].need,.int .i64 r.tasks[k].try_,.int .i64 r.tasks[k].until_] 138)):=Chg.of_below _ ((Below.refl _ _).alloc (Nat.le_refl _) _)
   have bb:Below wr.heap.size wr (wr.alloc (.cells #[.int .i64 r.tasks[k].state,.int .i64 r.tasks[k].need,.int .i64 r.tasks[k].try_,.int .i64 r.tasks[k].until_] 138)):=by repeat (first | (with_reducible exact Below.refl _ _) | refine Below.setCell ?_ (by simp<;>omega) _ | refine Below.alloc ?_ (by simp<;>omega) _)
   have HO:=hO.out.below bb
   replace X:=X.below bb
   replace RES:=RES.below bb
   clear bb
   have hbz:=bw.size
   generalize (wr.alloc (.cells #[.int .i64 r.tasks[k].state,.int .i64 r.tasks[k].need,.int .i64 r.tasks[k].try_,.int .i64 r.tasks[k].until_] 138))=W1 at *
   clear X_0 X_1 X_2 X_3 X_4 X_5 X_6 X_7 X_l
   clear RES_0 RES_1 RES_2 RES_3 RES_4 RES_5 RES_6 RES_7 RES_l
   obtain ⟨X_0,X_1,X_2,X_3,X_4,X_5,X_6,X_7,X_l⟩:=X.g8
   have z0:=XB.cell 0 _ rfl
   have z1:=XB.cell 1 _ rfl
   have z2:=XB.cell 2 _ rfl
   have z3:=XB.cell 3 _ rfl
   have zl:=XB.lt
   obtain ⟨b2,o2,dW,kF,d0,d1,d2,d3⟩:=HO.rd.tsk gR
   simp only [Option.some.injEq,Addr.mk.injEq,and_true] at dW
   obtain ⟨rfl,rfl⟩:=dW
   have hfz:=(HO.block (by omega)).2.2
   have Y4:Hw Dj ((((W1.setCell ⟨b,o+k * 4,none⟩ (.int .i64 r.tasks[k].state)).setCell ⟨b,o+k * 4+1,none⟩ (.int .i64 r.tasks[k].need)).setCell ⟨b,o+k * 4+2,none⟩ (.int .i64 r.tasks[k].try_)).setCell ⟨b,o+k * 4+3,none⟩ (.int .i64 r.tasks[k].until_)) [b] (.slice (some ⟨b,o,none⟩) r.tasks.length c) _:=HO.task4 gR ⟨r.tasks[k].state,r.tasks[k].need,r.tasks[k].try_,r.tasks[k].until_⟩
   have B4:Chg [b] w ((((W1.setCell ⟨b,o+k * 4,none⟩ (.int .i64 r.tasks[k].state)).setCell ⟨b,o+k * 4+1,none⟩ (.int .i64 r.tasks[k].need)).setCell ⟨b,o+k * 4+2,none⟩ (.int .i64 r.tasks[k].try_)).setCell ⟨b,o+k * 4+3,none⟩ (.int .i64 r.tasks[k].until_)):=(((((hb.trans bw).trans (Chg.setCell _ b _ _)).trans (Chg.setCell _ b _ _)).trans (Chg.setCell _ b _ _)).trans (Chg.setCell _ b _ _))
   have e1:w.heap.size≠b:=by omega
   have e2:w.heap.size+1≠b:=by omega
   have X4:DBox w.heap.size _ ((((W1.setCell ⟨b,o+k * 4,none⟩ (.int .i64 r.tasks[k].state)).setCell ⟨b,o+k * 4+1,none⟩ (.int .i64 r.tasks[k].need)).setCell ⟨b,o+k * 4+2,none⟩ (.int .i64 r.tasks[k].try_)).setCell ⟨b,o+k * 4+3,none⟩ (.int .i64 r.tasks[k].until_)):=(((X.setOther (a:=⟨b,_,none⟩) e1 _).setOther (a:=⟨b,_,none⟩) e1 _).setOther (a:=⟨b,_,none⟩) e1 _).setOther (a:=⟨b,_,none⟩) e1 _
   have R4:DBox (w.heap.size+1) _ ((((W1.setCell ⟨b,o+k * 4,none⟩ (.int .i64 r.tasks[k].state)).setCell ⟨b,o+k * 4+1,none⟩ (.int .i64 r.tasks[k].need)).setCell ⟨b,o+k * 4+2,none⟩ (.int .i64 r.tasks[k].try_)).setCell ⟨b,o+k * 4+3,none⟩ (.int .i64 r.tasks[k].until_)):=(((RES.setOther (a:=⟨b,_,none⟩) e2 _).setOther (a:=⟨b,_,none⟩) e2 _).setOther (a:=⟨b,_,none⟩) e2 _).setOther (a:=⟨b,_,none⟩) e2 _
   have aE:=Lib.hid (show ((r.tasks.take k).map Bt ++ r.tasks.drop k).set k ⟨r.tasks[k].state,r.tasks[k].need,r.tasks[k].try_,r.tasks[k].until_⟩=(r.tasks.take (k+1)).map Bt ++ r.tasks.drop (k+1) by rw [<-Kv aA Bt,hy.out])
   clear d0 d1 d2 d3
   have g0:=Lib.hid Y4
   clear Y4
   obtain ⟨b3,o3,jY,hbb3,d0,d1,d2,d3⟩:=HO.rd.tsk gR
   simp only [Option.some.injEq,Addr.mk.injEq,and_true] at jY
   obtain ⟨rfl,rfl⟩:=jY
   go_wp2
   exact ⟨⟨k+1,by omega,by go_num,by rw [<-aE.out];exact g0,X4,R4,B4⟩,by simp [intOf];omega⟩
  have q4:(r.tasks[k].state != 4)=true:=by simp [s4]
  have q5:(r.tasks[k].state != 5)=true:=by simp [s5]
  have hy:=Lib.hid (show Bt r.tasks[k]=⟨6,r.tasks[k].need,r.tasks[k].try_,0⟩ by unfold Bt;rw [if_pos ⟨s4,s5⟩])
  clear s4 s5
  go_upto_region 8 with fail
  have XB:DBox wr.heap.size [.int .i64 6,.int .i64 r.tasks[k].need,.int .i64 r.tasks[k].try_,.int .i64 0] (wr.alloc (.cells #[.int .i64 6,.int .i64 r.tasks[k].need,.int .i64 r.tasks[k].try_,.int .i64 0] 138)):=DBox.new 138 [.int .i64 6,.int .i64 r.tasks[k].need,.int .i64 r.tasks[k].try_,.int .i64 0] wr rfl
  have bw:Chg [b] wr (wr.alloc (.cells #[.int .i64 6,.int .i64 r.tasks[k].need,.int .i64 r.tasks[k].try_,.int .i64 0] 138)):=Chg.of_below _ (by repeat (first | (with_reducible exact Below.refl _ _) | refine Below.setCell ?_ (by simp<;>omega) _ | refine Below.alloc ?_ (by simp<;>omega) _))
  have bb:Below wr.heap.size wr (wr.alloc (.cells #[.int .i64 6,.int .i64 r.tasks[k].need,.int .i64 r.tasks[k].try_,.int .i64 0] 138)):=by repeat (first | (with_reducible exact Below.refl _ _) | refine Below.setCell ?_ (by simp<;>omega) _ | refine Below.alloc ?_ (by simp<;>omega) _)
  have HO:=hO.out.below bb
  replace X:=X.below bb
  replace RES:=RES.below bb
  clear bb
  have hbz:=bw.size
  generalize (wr.alloc (.cells #[.int .i64 6,.int .i64 r.tasks[k].need,.int .i64 r.tasks[k].try_,.int .i64 0] 138))=W1 at *
  clear X_0 X_1 X_2 X_3 X_4 X_5 X_6 X_7 X_l
  clear RES_0 RES_1 RES_2 RES_3 RES_4 RES_5 RES_6 RES_7 RES_l
  obtain ⟨X_0,X_1,X_2,X_3,X_4,X_5,X_6,X_7,X_l⟩:=X.g8
  have z0:=XB.cell 0 _ rfl
  have z1:=XB.cell 1 _ rfl
  have z2:=XB.cell 2 _ rfl
  have z3:=XB.cell 3 _ rfl
  have zl:=XB.lt
  obtain ⟨b2,o2,dW,kF,d0,d1,d2,d3⟩:=HO.rd.tsk gR
  simp only [Option.some.injEq,Addr.mk.injEq,and_true] at dW
  obtain ⟨rfl,rfl⟩:=dW
  have hfz:=(HO.block (by omega)).2.2
  have Y4:Hw Dj ((((W1.setCell ⟨b,o+k * 4,none⟩ (.int .i64 6)).setCell ⟨b,o+k * 4+1,none⟩ (.int .i64 r.tasks[k].need)).setCell ⟨b,o+k * 4+2,none⟩ (.int .i64 r.tasks[k].try_)).setCell ⟨b,o+k * 4+3,none⟩ (.int .i64 0)) [b] (.slice (some ⟨b,o,none⟩) r.tasks.length c) _:=HO.task4 gR ⟨6,r.tasks[k].need,r.tasks[k].try_,0⟩
  have B4:Chg [b] w ((((W1.setCell ⟨b,o+k * 4,none⟩ (.int .i64 6)).setCell ⟨b,o+k * 4+1,none⟩ (.int .i64 r.tasks[k].need)).setCell ⟨b,o+k * 4+2,none⟩ (.int .i64 r.tasks[k].try_)).setCell ⟨b,o+k * 4+3,none⟩ (.int .i64 0)):=(((((hb.trans bw).trans (Chg.setCell _ b _ _)).trans (Chg.setCell _ b _ _)).trans (Chg.setCell _ b _ _)).trans (Chg.setCell _ b _ _))
  have e1:w.heap.size≠b:=by omega
  have e2:w.heap.size+1≠b:=by omega
  have X4:DBox w.heap.size _ ((((W1.setCell ⟨b,o+k * 4,none⟩ (.int .i64 6)).setCell ⟨b,o+k * 4+1,none⟩ (.int .i64 r.tasks[k].need)).setCell ⟨b,o+k * 4+2,none⟩ (.int .i64 r.tasks[k].try_)).setCell ⟨b,o+k * 4+3,none⟩ (.int .i64 0)):=(((X.setOther (a:=⟨b,_,none⟩) e1 _).setOther (a:=⟨b,_,none⟩) e1 _).setOther (a:=⟨b,_,none⟩) e1 _).setOther (a:=⟨b,_,none⟩) e1 _
  have R4:DBox (w.heap.size+1) _ ((((W1.setCell ⟨b,o+k * 4,none⟩ (.int .i64 6)).setCell ⟨b,o+k * 4+1,none⟩ (.int .i64 r.tasks[k].need)).setCell ⟨b,o+k * 4+2,none⟩ (.int .i64 r.tasks[k].try_)).setCell ⟨b,o+k * 4+3,none⟩ (.int .i64 0)):=(((RES.setOther (a:=⟨b,_,none⟩) e2 _).setOther (a:=⟨b,_,none⟩) e2 _).setOther (a:=⟨b,_,none⟩) e2 _).setOther (a:=⟨b,_,none⟩) e2 _
  have aE:=Lib.hid (show ((r.tasks.take k).map Bt ++ r.tasks.drop k).set k ⟨6,r.tasks[k].need,r.tasks[k].try_,0⟩=(r.tasks.take (k+1)).map Bt ++ r.tasks.drop (k+1) by rw [<-Kv aA Bt,hy.out])
  clear d0 d1 d2 d3
  have g0:=Lib.hid Y4
  clear Y4
  obtain ⟨b3,o3,jY,hbb3,d0,d1,d2,d3⟩:=HO.rd.tsk gR
  simp only [Option.some.injEq,Addr.mk.injEq,and_true] at jY
  obtain ⟨rfl,rfl⟩:=jY
  go_wp2
  exact ⟨⟨k+1,by omega,by go_num,by rw [<-aE.out];exact g0,X4,R4,B4⟩,by simp [intOf];omega⟩
def Hy (y:Yard) (r:Run) (l:List Nat):Yard:=l.foldl (fun y t=>Jm y r t) y
theorem Xb (y:Yard) (r:Run) (l:List Nat) (k:Nat) (h:k<l.length):Hy y r (l.take (k+1))=Jm (Hy y r (l.take k)) r l[k]:=by
 unfold Hy
 rw [List.take_succ_eq_append_getElem h,List.foldl_append]
 rfl
structure StockF (y z:Yard) (M n:Nat):Prop where
 now:z.now=y.now
 runs:z.runs=y.runs
 len:z.shelf.length=y.shelf.length
 seq:z.seq=y.seq+n
 all:∀ s∈z.shelf,s.length<=M+n
theorem Ry {y:Yard} {M:Nat} (hM:∀ s∈y.shelf,s.length<=M) (r:Run) (l:List Nat):StockF y (Hy y r l) M l.length:=by
 obtain ⟨h1,h2,h3,h4⟩:=Nn r l y
 exact ⟨h1,h2,h3,h4,Kt r M l y hM⟩
def L9 (z:Yard) (b g o cs n:Nat) (R:Sl) (Fs:List Nat) (w:World) (e:Ending) (w':World):Prop :=
 e = .returned (.tuple #[]) /\ ∃ F',OwL (Dt.list Af) w' F' (.slice (some ⟨g,o,none⟩) n cs) z.shelf/\DBox b [.int .i64 z.now,.int .i64 z.seq,.slice (some ⟨g,o,none⟩) n cs,.slice R.a R.n R.c] w'/\(∀ x∈F',x∈Fs\/w.heap.size<=x)/\Chg [b,g] w w'
theorem Mt (y:Yard) (b g o cs:Nat) (R:Sl) (r:Run) (sr:Sl×Sl) (l:List Nat) (A:Option Addr) (n c:Nat) (w:World) (Fs:List Nat) (h4:y.shelf.length=4) (hM:∀ s∈y.shelf,s.length<=100000) (hq:0<=y.seq/\y.seq<=2000000000) (hl:l.length<=1000)
  (hY:DBox b [.int .i64 y.now,.int .i64 y.seq,.slice (some ⟨g,o,none⟩) y.shelf.length cs,.slice R.a R.n R.c] w) (hs:OwL (Dt.list Af) w Fs (.slice (some ⟨g,o,none⟩) y.shelf.length cs) y.shelf) (cP:b∉Fs)
  (HT:Hid (∀ W,Chg [b,g] w W->Rd Cs W W.heap.size (.slice A n c) l)) :
  Calls Tryz.prog 167 #[.pointer (some ⟨b,0,none⟩),Ey r sr,.slice A n c] w (L9 (Hy y r l) b g o cs y.shelf.length R Fs w):=by
 have kU:n=l.length:=by obtain ⟨A',c',hv,_⟩:=HT.out w (Chg.refl _ _);simp only [Value.slice.injEq] at hv;exact hv.2.1
 subst kU
 have hg0:g∈Fs/\g<w.heap.size:=by
  obtain ⟨_,_,_,_,_,h5,_,_⟩:=hs.elem (j:=0) (by omega)
  exact ⟨h5,hs.lt g h5⟩
 have hbg:b≠g:=fun e=>cP (by rw [e];exact hg0.1)
 have gS:=Lib.hid hs.lt
 have qV:Bd r.id<y.shelf.length:=by rw [h4];exact Rn _
 have mE:=hY.lt
 obtain ⟨⟨ea,en,ec⟩,⟨ta,tn,tc⟩⟩:=sr
 replace h4:=Lib.hid h4
 have RB:=DBox.new 89 [.int .i64 r.id,.int .i64 r.plan.prio,.int .i64 r.plan.most,.int .i64 r.plan.wait,.int .i64 r.plan.tasks,.slice ea en ec,.int .i64 r.state,.slice ta tn tc] w (b:=w.heap.size) rfl
 have B0:Below w.heap.size w (w.alloc (.cells #[.int .i64 r.id,.int .i64 r.plan.prio,.int .i64 r.plan.most,.int .i64 r.plan.wait,.int .i64 r.plan.tasks,.slice ea en ec,.int .i64 r.state,.slice ta tn tc] 89)):=by repeat (first | exact Below.refl _ _ | refine Below.alloc ?_ (by simp<;>omega) _)
 go_enter Tryz.func167,Tryz.ntmps167
 go_wp2_with (go_at_call 227;refine (P5 r.id _).mono ?_;rintro e w1 ⟨rfl,b1⟩)
 replace RB:=RB.below b1
 replace B0:=Aa B0 b1
 clear b1
 generalize Ey r (⟨ea,en,ec⟩,⟨ta,tn,tc⟩)=rv
 have C0:=Chg.of_below [b,g] B0
 have hY0:=hY.below B0
 have sZ:=hs.below B0
 have bJ:=B0.size
 have dM:=RB.lt
 have cF:=hs.lt
 clear hY hs
 go_loopw [8,14] (fun x i wr=>∃ (k:Nat) (F:List Nat),k<=l.length/\i = .int .i64 k/\Hid (OwL (Dt.list Af) wr F (.slice (some ⟨g,o,none⟩) y.shelf.length cs) (Hy y r (l.take k)).shelf/\(∀ x∈F,x∈Fs\/w.heap.size+1<=x))/\DBox b [.int .i64 y.now,.int .i64 (Hy y r (l.take k)).seq,.slice (some ⟨g,o,none⟩) y.shelf.length cs,.slice R.a R.n R.c] wr/\DBox w.heap.size [.int .i64 r.id,.int .i64 r.plan.prio,.int .i64 r.plan.most,.int .i64 r.plan.wait,.int .i64 r.plan.tasks,.slice ea en ec,.int .i64 r.state,.slice ta tn tc] wr/\Chg [b,g] w wr/\w.heap.size+1<=wr.heap.size) (fun _ i _=>l.length - (intOf i).toNat)
 case atStart=>exact ⟨0,Fs,Nat.zero_le _,rfl,⟨sZ,fun x hx=>.inl hx⟩,hY0,RB,C0,dM⟩
 case round =>
  clear hY0 RB C0 sZ B0 bJ dM
  obtain ⟨k,F,hk,rfl,hO,Y,RB,hC,hwr⟩:=hrel
  by_cases aA:k<l.length
  case neg =>
   have aB:¬ (k:Int)<(l.length:Int):=by omega
   have cL:=hO.out
   have hE:=Lib.hid (show l.take k=l from List.take_of_length_le (by omega))
   rw [hE.out] at cL Y
   have hF:L9 (Hy y r l) b g o cs y.shelf.length R Fs w (.returned (.tuple #[])) wr:=⟨rfl,F,cL.1,by rw [(Ry hM r l).now];exact Y,fun x hx=>(cL.2 x hx).imp id (fun h=>by omega),hC⟩
   have HF:=Lib.hid hF
   clear hF cL hO Y
   go_wp2
   exact bodyPost_ret (v:=.tuple #[]) (by simp [results,Tryz.results167,go_sem]) rfl HF.out
  have aB:(k:Int)<(l.length:Int):=by omega
  have hf:=Ry hM r (l.take k)
  have aE:=Lib.hid (Xb y r l k aA)
  obtain ⟨b1,o1,rfl,aH,c0⟩:=(HT.out wr hC).nat aA
  have hlk:(l.take k).length<=1000:=by rw [List.length_take];omega
  generalize Hy y r (l.take k)=Z at *
  obtain ⟨fW,aK,aJ,kT,cS⟩:=hf
  replace fW:=Lib.hid fW
  replace aK:=Lib.hid aK
  replace aJ:=Lib.hid aJ
  have hsq:0<=Z.seq/\Z.seq<=2000001000:=by omega
  replace kT:=Lib.hid kT
  obtain ⟨kz,hkzE⟩:∃ kz,kz=Bd r.id:=⟨_,rfl⟩
  rw [<-hkzE] at qV ⊢
  replace hkzE:=Lib.hid hkzE
  have kC:kz<Z.shelf.length:=by rw [aJ.out];exact qV
  obtain ⟨_,_,sk,cQ,hbb9,cA,ck⟩:=hO.out.1.rd.entryS kC
  simp only [Option.some.injEq,Addr.mk.injEq,and_true] at cQ
  obtain ⟨rfl,rfl⟩:=cQ
  have fY:(kz:Int)<(y.shelf.length:Int):=by omega
  have dG:(0:Int)<=(kz:Int):=by omega
  have pX:Z.shelf[kz].length<=900000:=by have:=cS _ (List.getElem_mem kC);omega
  have cV:=Lib.hid (show Z.shelf.getD kz []=Z.shelf[kz] by rw [List.getD_eq_getElem?_getD,List.getElem?_eq_getElem kC];rfl)
  have fK:=hO.out.1.free0 (by omega)
  have CP:=Lib.hid (Ki Z.shelf[kz] sk ⟨r.plan.prio,Z.seq,r.id,l[k]⟩ wr.drew pX (cA.below (Below.refl _ _).drew))
  have hgwr:g<wr.heap.size:=by have:=hC.size;omega
  have hbwr:=Y.lt
  obtain ⟨Y_0,Y_1,Y_2,Y_3,Y_l⟩:=Y.g4
  obtain ⟨RB_0,RB_1,RB_2,RB_3,RB_4,RB_5,RB_6,RB_7,RB_l⟩:=RB.g8
  generalize l[k]=tk at *
  go_upto_region 5 with fail
  have HS:=Lib.hid (show ∀ W,Below wr.heap.size wr W->(fun w'=>w'.cell? ⟨b,1,none⟩=some (.int .i64 Z.seq)/\w'.cell? ⟨b,2,none⟩=some (.slice (some ⟨g,o,none⟩) y.shelf.length cs)/\w'.cell? ⟨w.heap.size,0,none⟩=some (.int .i64 r.id)/\w'.cell? ⟨w.heap.size,1,none⟩=some (.int .i64 r.plan.prio)/\w'.cell? ⟨g,o+kz,none⟩=some (.slice sk.a sk.n sk.c)) W from fun W hW=>⟨(hW.cell (p:=⟨_,_,none⟩) hbwr).trans Y_1,(hW.cell (p:=⟨_,_,none⟩) hbwr).trans Y_2,(hW.cell (p:=⟨_,_,none⟩) hwr).trans RB_0,(hW.cell (p:=⟨_,_,none⟩) hwr).trans RB_1,(hW.cell (p:=⟨_,_,none⟩) hgwr).trans ck⟩)
  refine Bj (fun w'=>w'.cell? ⟨b,1,none⟩=some (.int .i64 Z.seq)/\w'.cell? ⟨b,2,none⟩=some (.slice (some ⟨g,o,none⟩) y.shelf.length cs)/\w'.cell? ⟨w.heap.size,0,none⟩=some (.int .i64 r.id)/\w'.cell? ⟨w.heap.size,1,none⟩=some (.int .i64 r.plan.prio)/\w'.cell? ⟨g,o+kz,none⟩=some (.slice sk.a sk.n sk.c)) 25 (by kernel_rfl) (HS.out _ (Below.refl _ _).drew) (fun hHeld=>?_)
  refine aT 0 hHeld ?_
  try simp only [pS]
  refine aT 1 hHeld ?_
  try simp only [pS]
  refine aT 2 hHeld ?_
  try simp only [pS]
  refine aT 3 hHeld ?_
  try simp only [pS]
  refine aT 4 hHeld ?_
  try simp only [pS]
  refine aT 5 hHeld ?_
  try simp only [pS]
  refine aT 6 hHeld ?_
  try simp only [pS]
  refine aT 7 hHeld ?_
  try simp only [pS]
  refine aT 8 hHeld ?_
  try simp only [pS]
  refine aT 9 hHeld ?_
  try simp only [pS]
  refine aT 10 hHeld ?_
  try simp only [pS]
  refine aT 11 hHeld ?_
  try simp only [pS]
  refine aT 12 hHeld ?_
  try simp only [pS]
  refine aT 13 hHeld ?_
  try simp only [pS]
  refine aT 14 hHeld ?_
  try simp only [pS]
  refine aT 15 hHeld ?_
  try simp only [pS]
  refine aT 16 hHeld ?_
  try simp only [pS]
  refine aT 17 hHeld ?_
  try simp only [pS]
  refine aT 18 hHeld ?_
  try simp only [pS]
  refine aT 19 hHeld ?_
  try simp only [pS]
  refine aT 20 hHeld ?_
  try simp only [pS]
  refine aT 21 hHeld ?_
  try simp only [pS]
  refine aT 22 hHeld ?_
  try simp only [pS]
  refine oT 23 (fun K hK=>?_)
  go_simp
  refine CP.out.mono ?_
  rintro e w2 ⟨t2,F2,rfl,o2,n2,b2⟩
  dsimp only [slV]
  have b2':Below wr.heap.size wr w2:=Aa (Below.refl _ _).drew b2
  have hwz:wr.drew.heap.size=wr.heap.size:=rfl
  refine hK.out _ _ (fun _=>HS.out _ b2') ?_
  clear hK K
  try simp only [pS]
  have hgs:w2.cell? ⟨g,o+kz,none⟩=some (.slice sk.a sk.n sk.c):=(b2'.cell (p:=⟨_,_,none⟩) hgwr).trans ck
  have pE:w2.frozen? ⟨g,o+kz,none⟩=false:=(b2'.frozen (p:=⟨_,_,none⟩) hgwr).trans (fK _)
  refine oT 24 (fun K hK=>?_)
  go_simp
  refine hK.out _ _ (fun _=>HS.out _ b2') ?_
  clear hK K
  try simp only [pS]
  refine oT 25 (fun K hK=>?_)
  go_simp
  refine hK.out _ _ (fun aC=>absurd rfl aC) ?_
  clear hK K hHeld HS
  try simp only [pS]
  refine Cg (by kernel_rfl) ?_ _
  obtain ⟨F',p1,p2,p3,p4⟩:=OwL.swap (hO.out.1.below b2') kC (y:=G4 Z.shelf[kz] ⟨r.plan.prio,Z.seq,r.id,tk⟩) (s:=t2) (Fy:=F2) o2 (fun x hx aY=>by have h1:=n2 x hx;have h2:=hO.out.1.lt x aY;omega)
  have eZ:E9 w2 g (o+kz * (Dt.list Af).enc.sz) ((Dt.list Af).enc.cells (G4 Z.shelf[kz] ⟨r.plan.prio,Z.seq,r.id,tk⟩,t2))=w2.setCell ⟨g,o+kz,none⟩ (.slice t2.a t2.n t2.c):=by
   show E9 w2 g (o+kz * 1) [.slice t2.a t2.n t2.c]=_
   rw [Nat.mul_one];rfl
  rw [eZ] at p1
  clear eZ
  have gX:Chg [b,g] w (w2.setCell ⟨g,o+kz,none⟩ (.slice t2.a t2.n t2.c)):=(hC.trans (Chg.of_below [b,g] b2')).trans ((Chg.setCell w2 g _ _).mono (fun x hx=>by simp only [List.mem_singleton] at hx;subst hx;simp))
  have aQ:=b2'.size
  clear Y_0 Y_1 Y_2 Y_3 Y_l
  clear RB_0 RB_1 RB_2 RB_3 RB_4 RB_5 RB_6 RB_7 RB_l
  replace Y:=(Y.below b2').setOther (a:=⟨g,o+kz,none⟩) hbg (.slice t2.a t2.n t2.c)
  replace RB:=(RB.below b2').setOther (a:=⟨g,o+kz,none⟩) (by show w.heap.size≠g;omega) (.slice t2.a t2.n t2.c)
  have uD:(w2.setCell ⟨g,o+kz,none⟩ (.slice t2.a t2.n t2.c)).heap.size=w2.heap.size:=by simp [World.setCell]
  generalize w2.setCell ⟨g,o+kz,none⟩ (.slice t2.a t2.n t2.c)=w3 at *
  have y1:=Y.cell 1 _ rfl
  have yf:=Y.free
  have yl:=Y.lt
  have cC:∀ x∈F',x∈Fs\/w.heap.size+1<=x:=fun x hx=>by
   rcases p2 x hx with h | h
   ·exact hO.out.2 x h
   ·right;have:=n2 _ h;omega
  have tJ:b∉F':=fun hx=>by rcases cC _ hx with h | h;(exact cP h);omega
  have hT:=Lib.hid (show Hy y r (l.take (k+1))=⟨Z.now,Z.seq+1,Z.shelf.set kz (G4 Z.shelf[kz] ⟨r.plan.prio,Z.seq,r.id,tk⟩),Z.runs⟩ by rw [aE.out];unfold Jm;rw [<-hkzE.out,cV.out])
  clear aE cV hO p2 n2 p3 p4 o2 hgs pE CP
  generalize G4 Z.shelf[kz] ⟨r.plan.prio,Z.seq,r.id,tk⟩=PE at *
  go_wp2
  exact ⟨⟨k+1,F',by omega,by go_num,⟨by rw [hT.out];exact p1.set (a:=⟨b,1,none⟩) tJ _,cC⟩,by rw [hT.out];exact Y.set 1 (by simp) _,RB.setOther (by show w.heap.size≠b;omega) _,gX.trans ((Chg.setCell w3 b _ _).mono (fun x hx=>by simp only [List.mem_singleton] at hx;subst hx;simp)),by simp [World.setCell];omega⟩,by simp [intOf];omega⟩
theorem OwL.trade {α:Type} {d:Dt α} {w:World} {F:List Nat} {b o n c:Nat} {l:List α} (h:OwL d w F (.slice (some ⟨b,o,none⟩) n c) l) {j:Nat} (hj:j<l.length) :
  ∃ (s:d.S) (Fx:List Nat),d.ow w Fx l[j] s/\(∀ x∈Fx,x∈F)/\b∉Fx/\b∈F/\(∀ i,w.frozen? ⟨b,i,none⟩=false)/\(∀ i u,(d.enc.cells (l[j],s))[i]? = some u->w.cell? ⟨b,o+j * d.enc.sz+i,none⟩=some u) /\
   ∀ (w1:World) (y:α) (s':d.S) (Fy:List Nat),Chg Fx w w1->d.ow w1 Fy y s'->(∀ x∈Fy,x∈Fx) -> ∃ F',OwL d (E9 w1 b (o+j * d.enc.sz) (d.enc.cells (y,s'))) F' (.slice (some ⟨b,o,none⟩) n c) (l.set j y)/\(∀ x∈F',x∈F)/\b∈F':=by
 obtain ⟨rs,H,G,hm,hh,ho,rfl,hn⟩:=h
 subst hm
 have jX:j<rs.length:=by rw [List.length_map] at hj;exact hj
 obtain ⟨b',o',hA,rfl,mE,hf⟩:=hh.at_ (by omega)
 simp only [Option.some.injEq,Addr.mk.injEq,and_true] at hA
 obtain ⟨rfl,rfl⟩:=hA
 obtain ⟨F1,F2,rfl,h1,h2⟩:=ho.split j (by omega)
 rw [List.drop_eq_getElem_cons jX] at h2
 obtain ⟨Fx,F3,rfl,h3,h4⟩:=h2.head
 have fX:b∉F1 ++ (Fx ++ F3):=by
  have:=hn
  simp only [List.singleton_append,List.nodup_cons] at this
  exact this.1
 have pT:(F1 ++ (Fx ++ F3)).Nodup:=by
  have:=hn
  simp only [List.singleton_append,List.nodup_cons] at this
  exact this.2
 have hlj:(rs.map (·.1))[j]=rs[j].1:=by rw [List.getElem_map]
 have uI:∀ x∈F1,x∉Fx:=fun x hx hx2=>(List.nodup_append.1 pT).2.2 x hx x (List.mem_append_left _ hx2) rfl
 have hd3:∀ x∈F3,x∉Fx:=fun x hx hx2=>(List.nodup_append.1 (List.nodup_append.1 pT).2.1).2.2 x hx2 x hx rfl
 refine ⟨rs[j].2,Fx,by rw [hlj];exact h3,fun x hx=>by simp [hx],fun hx=>fX (by simp [hx]),by simp,hf,?_,?_⟩
 ·intro i u hu
  rw [hlj] at hu
  obtain ⟨A',c',hv,_,rW⟩:=hh.rd
  simp only [Value.slice.injEq] at hv
  obtain ⟨hv1,-,-⟩:=hv
  obtain ⟨g',o',bS,_,bP⟩:=rW (by omega)
  rw [<-hv1] at bS
  simp only [Option.some.injEq,Addr.mk.injEq,and_true] at bS
  obtain ⟨rfl,rfl⟩:=bS
  exact bP j jX i u hu
 ·intro w1 y s' Fy hC hy hs
  have hh1:=hh.chg hC (fun x hx hx2=>by simp only [List.mem_singleton] at hx;subst hx;exact fX (by simp [hx2]))
  have cK:b∉Fy:=fun hx=>fX (by simp [hs b hx])
  have hc:=Gk (d.enc.cells (y,s')) w1 b (o+j * d.enc.sz)
  have hp:=Rd.part hh1.rd j jX (y,s') 0 (d.enc.cells (y,s')) (by rw [d.enc.len];omega) (fun i hi=>by rw [Nat.zero_add];exact List.getElem?_eq_getElem hi) (fun i hi ho=>by rw [d.enc.len] at ho;omega)
  rw [Nat.add_zero] at hp
  have hz:=Hg (d.enc.cells (y,s')) w1 b (o+j * d.enc.sz)
  have eP:rs.set j (y,s')=rs.take j ++ ((y,s') :: rs.drop (j+1)):=by rw [List.set_eq_take_append_cons_drop,if_pos jX]
  have hf1:=hh1.2.2
  have cI:∀ x,x∈[b]->x=b:=fun x hx=>List.mem_singleton.1 hx
  refine ⟨[b] ++ (F1 ++ (Fy ++ F3)),⟨rs.set j (y,s'),[b],F1 ++ (Fy ++ F3),?_,⟨?_,?_,fun g hg i=>?_⟩,?_,rfl,?_⟩,?_,by simp⟩
  ·rw [List.map_set]
  ·rw [hz];exact hp
  ·have:=hh1.2.1
   rw [List.length_set]
   exact this
  ·rw [Gl];exact hf1 g hg i
  ·rw [eP]
   refine ((h1.chg hC uI).chg hc (fun x hx eT=>?_)).append (.cons (d.ow_chg hy hc (fun x hx eT=>?_)) ((h4.chg hC hd3).chg hc (fun x hx eT=>?_)))
   ·have e:=cI x eT;subst e;exact fX (List.mem_append_left _ hx)
   ·have e:=cI x eT;subst e;exact cK hx
   ·have e:=cI x eT;subst e;exact fX (List.mem_append_right _ (List.mem_append_right _ hx))
  ·have hyN:=d.ow_nodup hy
   rw [List.singleton_append,List.nodup_cons]
   refine ⟨fun hx=>?_,?_⟩
   ·simp only [List.mem_append] at hx
    rcases hx with hx | hx | hx
    ·exact fX (by simp [hx])
    ·exact cK hx
    ·exact fX (by simp [hx])
   ·rw [List.nodup_append] at pT ⊢
    obtain ⟨n1,n2,n3⟩:=pT
    rw [List.nodup_append] at n2
    obtain ⟨m1,m2,m3⟩:=n2
    refine ⟨n1,?_,fun a ha c hc=>?_⟩
    ·rw [List.nodup_append]
     exact ⟨hyN,m2,fun a ha c hc e=>by subst e;exact hd3 a hc (hs a ha)⟩
    ·rcases List.mem_append.1 hc with hc | hc
     ·exact fun e=>by subst e;exact uI a ha (hs a hc)
     ·exact n3 a ha c (List.mem_append_right _ hc)
  ·intro x hx
   simp only [List.mem_append,List.mem_singleton] at hx ⊢
   rcases hx with hx | hx | hx | hx
   ·exact .inl hx
   ·exact .inr (.inl hx)
   ·exact .inr (.inr (.inl (hs x hx)))
   ·exact .inr (.inr (.inr hx))
theorem Yz {w:World} {F:List Nat} {rs:List (Entry×Af.S)} (h:Ows Af w F rs):F=[]:=by
 induction h with
 | nil=>rfl
 | cons h1 _ ih=>rw [show _=[] from h1,ih];rfl
theorem Aau {w:World} {B:Nat} {v:Value} {l:List Entry} (h:RdL Af w B v l):Rd Az w B v l:=by
 obtain ⟨rs,rfl,⟨A,c,rfl,hc,hA⟩,_⟩:=h
 refine ⟨A,c,by rw [List.length_map],by rw [List.length_map];exact hc,fun hl=>?_⟩
 rw [List.length_map] at hl
 obtain ⟨b,o,h1,h2,h3⟩:=hA hl
 refine ⟨b,o,h1,h2,fun k hk j u hu=>?_⟩
 rw [List.getElem_map] at hu
 exact h3 k (by rw [List.length_map] at hk;exact hk) j u hu
theorem Rz (w:World):∀ l:List Entry,Ows Af w [] (l.map fun x=>(x,()))
 | []=>.nil
 | x :: l=>by
  have:=Ows.cons (d:=Af) (w:=w) (F:=[]) (r:=(x,())) rfl (Rz w l)
  exact this
theorem Ns {w:World} {F:List Nat} {v:Value} {l:List Entry} (h:OwL Af w F v l):Hw Az w F v l:=by
 have hr:=Aau h.rd
 obtain ⟨rs,H,G,hm,hh,ho,rfl,hn⟩:=h
 have hG:=Yz ho
 subst hG
 obtain ⟨h1,h2,h3⟩:=hh
 refine ⟨hr,?_,fun g hg=>h3 g (by simpa using hg)⟩
 rw [List.append_nil,h2,<-hm,List.length_map]
theorem Uc {w:World} {F:List Nat} {v:Value} {l:List Entry} (h1:Hw Az w F v l):OwL Af w F v l:=by
 obtain ⟨⟨A,c,hv,hc,hA⟩,hF,hf⟩:=id h1
 subst hv
 refine ⟨l.map fun x=>(x,()),F,[],by rw [List.map_map];exact List.map_id _,⟨⟨A,c,by rw [List.length_map],by rw [List.length_map];exact hc,fun hl=>?_⟩,by rw [List.length_map];exact hF,hf⟩,Rz w l,(List.append_nil _).symm,h1.nodup⟩
 rw [List.length_map] at hl
 obtain ⟨b,o,h3,h4,h5⟩:=hA hl
 refine ⟨b,o,h3,h4,fun k hk j u hu=>?_⟩
 rw [List.getElem_map] at hu
 exact h5 k (by rw [List.length_map] at hk;exact hk) j u hu
theorem R0 {b:Nat} {w:World} {u0 u1 u2 u3 u4 u5 u6 u7:Value} (X:DBox b [u0,u1,u2,u3,u4,u5,u6,u7] w) {v0 v1 v2 v3 v4 v5:Value} {rest:List Value} :
  (results Tryz.f208 (v0 :: v1 :: v2 :: v3 :: v4 :: v5 :: .pointer (some ⟨b,0,none⟩) :: rest).toArray).run Tryz.prog w = .ok (.agg #[u0,u1,u2,u3,u4,u5,u6,u7]) w:=by
 have c0:=X.cell 0 _ rfl
 have c1:=X.cell 1 _ rfl
 have c2:=X.cell 2 _ rfl
 have c3:=X.cell 3 _ rfl
 have c4:=X.cell 4 _ rfl
 have c5:=X.cell 5 _ rfl
 have c6:=X.cell 6 _ rfl
 have c7:=X.cell 7 _ rfl
 simp [results,Tryz.results208,go_sem,c0,c1,c2,c3,c4,c5,c6,c7]
theorem Nt {l:List Task} {t:Nat} (h:t<l.length) (f:Task->Task):Ew l t f=l.set t (f l[t]):=by
 unfold Ew
 rw [List.getD_eq_getElem?_getD,List.getElem?_eq_getElem h]
 rfl
theorem P7 (r:Run) (s:Sl×Sl) (t:Nat) (now:Int) (w:World) (hl:Bg r<=2000000) (ht:t<r.tasks.length) (hq:-1000000<=r.tasks[t].try_/\r.tasks[t].try_<=2000000000) (fW:0<=now/\now<=2000000000) (hwait:0<=r.plan.wait/\r.plan.wait<=2000000000) (h:Am.rd w w.heap.size r s) :
  Calls Tryz.prog 208 #[Ey r s,.int .i64 t,.int .i64 now] w (Cj Am Ey (Cd r t now) w):=by
 have CP:=Lib.hid (fun W (hW:Below w.heap.size w W)=>Fj r s W hl (Am.rd_more (Am.rd_below h hW) hW.size))
 obtain ⟨⟨A1,n1,c1⟩,⟨A2,n2,c2⟩⟩:=s
 obtain rfl:n2=r.tasks.length:=RdL.at1 (s:=⟨A2,n2,c2⟩) h.2
 clear h hl
 have jR:(t:Int)<(r.tasks.length:Int):=by omega
 have fZ:(0:Int)<=(t:Int):=by omega
 have X:=(DBox.new 89 [.int .i64 r.id,.int .i64 r.plan.prio,.int .i64 r.plan.most,.int .i64 r.plan.wait,.int .i64 r.plan.tasks,.slice A1 n1 c1,.int .i64 r.state,.slice A2 r.tasks.length c2] w (b:=w.heap.size) rfl).below ((Below.refl _ _).alloc (Nat.le_refl _) (.cells #[.int .i64 0,.int .i64 0,.int .i64 0,.int .i64 0,.int .i64 0,.slice none 0 0,.int .i64 0,.slice none 0 0] 89))
 have RES:=DBox.new 89 [.int .i64 0,.int .i64 0,.int .i64 0,.int .i64 0,.int .i64 0,.slice none 0 0,.int .i64 0,.slice none 0 0] (w.alloc (.cells #[.int .i64 r.id,.int .i64 r.plan.prio,.int .i64 r.plan.most,.int .i64 r.plan.wait,.int .i64 r.plan.tasks,.slice A1 n1 c1,.int .i64 r.state,.slice A2 r.tasks.length c2] 89)) (b:=w.heap.size+1) (by simp)
 have B0:Below w.heap.size w ((w.alloc (.cells #[.int .i64 r.id,.int .i64 r.plan.prio,.int .i64 r.plan.most,.int .i64 r.plan.wait,.int .i64 r.plan.tasks,.slice A1 n1 c1,.int .i64 r.state,.slice A2 r.tasks.length c2] 89)).alloc (.cells #[.int .i64 0,.int .i64 0,.int .i64 0,.int .i64 0,.int .i64 0,.slice none 0 0,.int .i64 0,.slice none 0 0] 89)):=by repeat (first | exact Below.refl _ _ | refine Below.alloc ?_ (by simp<;>omega) _)
 go_enter Tryz.func208,Tryz.ntmps208
 go_wp2_with fail
 refine (CP.out _ B0).mono ?_
 rintro e w1 ⟨⟨⟨A3,n3,c3⟩,⟨A4,n4,c4⟩⟩,F,rfl,o1,nF,b1⟩
 obtain ⟨F1,F2,rfl,bK,op,ot⟩:=o1
 replace ot:OwL Cv w1 F2 (.slice A4 n4 c4) r.tasks:=ot
 obtain rfl:n4=r.tasks.length:=RdL.at1 (s:=⟨A4,n4,c4⟩) ot.rd
 have oh:=Ku ot
 clear ot CP
 obtain ⟨b,o,rfl,aH,d0,d1,d2,d3⟩:=oh.rd.tsk ht
 have hBw:=B0.size
 have aF:=oh.block (by omega)
 obtain ⟨rfl,bN,pF⟩:=aF
 have fX:=nF b (by simp)
 have mB:=X.lt
 have dM:=RES.lt
 replace B0:=Aa B0 b1
 replace X:=X.below b1
 replace RES:=RES.below b1
 clear b1
 -- the copy's own variable
 go_upto_region 2 with fail
 have OB:=DBox.new 89 [.int .i64 r.id,.int .i64 r.plan.prio,.int .i64 r.plan.most,.int .i64 r.plan.wait,.int .i64 r.plan.tasks,.slice A3 n3 c3,.int .i64 r.state,.slice (some ⟨b,o,none⟩) r.tasks.length c4] w1 (b:=w1.heap.size) rfl
 have b2:Below w1.heap.size w1 (w1.alloc (.cells #[.int .i64 r.id,.int .i64 r.plan.prio,.int .i64 r.plan.most,.int .i64 r.plan.wait,.int .i64 r.plan.tasks,.slice A3 n3 c3,.int .i64 r.state,.slice (some ⟨b,o,none⟩) r.tasks.length c4] 89)):=(Below.refl _ _).alloc (Nat.le_refl _) _
 have B2:=Aa B0 b2
 replace X:=X.below b2
 replace RES:=RES.below b2
 replace oh:=oh.below b2
 have op2:=Ag.ow_below op b2
 have eG:=b2.size
 have ow1:=OB.lt
 clear op d0 d1 d2 d3
 generalize w1.alloc (.cells #[.int .i64 r.id,.int .i64 r.plan.prio,.int .i64 r.plan.most,.int .i64 r.plan.wait,.int .i64 r.plan.tasks,.slice A3 n3 c3,.int .i64 r.state,.slice (some ⟨b,o,none⟩) r.tasks.length c4] 89)=w2 at *
 obtain ⟨X_0,X_1,X_2,X_3,X_4,X_5,X_6,X_7,X_l⟩:=X.g8
 obtain ⟨OB_0,OB_1,OB_2,OB_3,OB_4,OB_5,OB_6,OB_7,OB_l⟩:=OB.g8
 obtain ⟨b',o',bS,bI,d0,d1,d2,d3⟩:=oh.rd.tsk ht
 simp only [Option.some.injEq,Addr.mk.injEq,and_true] at bS
 obtain ⟨rfl,rfl⟩:=bS
 go_upto_region 6 with fail
 have XB:=DBox.new 138 [.int .i64 3,.int .i64 r.tasks[t].need,.int .i64 (r.tasks[t].try_+1),.int .i64 (now+r.plan.wait)] w2 (b:=w2.heap.size) rfl
 have b3:Below w2.heap.size w2 (w2.alloc (.cells #[.int .i64 3,.int .i64 r.tasks[t].need,.int .i64 (r.tasks[t].try_+1),.int .i64 (now+r.plan.wait)] 138)):=(Below.refl _ _).alloc (Nat.le_refl _) _
 have B3:=Aa B2 b3
 clear X_0 X_1 X_2 X_3 X_4 X_5 X_6 X_7 X_l
 clear OB_0 OB_1 OB_2 OB_3 OB_4 OB_5 OB_6 OB_7 OB_l
 clear d0 d1 d2 d3 bI
 replace OB:=OB.below b3
 replace RES:=RES.below b3
 replace oh:=oh.below b3
 have op3:=Ag.ow_below op2 b3
 have jP:=b3.size
 have ow2:=XB.lt
 clear op2 X
 generalize w2.alloc (.cells #[.int .i64 3,.int .i64 r.tasks[t].need,.int .i64 (r.tasks[t].try_+1),.int .i64 (now+r.plan.wait)] 138)=w3 at *
 obtain ⟨OB_0,OB_1,OB_2,OB_3,OB_4,OB_5,OB_6,OB_7,OB_l⟩:=OB.g8
 obtain ⟨XB_0,XB_1,XB_2,XB_3,XB_l⟩:=XB.g4
 obtain ⟨b',o',bS,bI,d0,d1,d2,d3⟩:=oh.rd.tsk ht
 simp only [Option.some.injEq,Addr.mk.injEq,and_true] at bS
 obtain ⟨rfl,rfl⟩:=bS
 have gV:=(oh.block (by omega)).2.2
 go_upto_region 7 with fail
 have eM:b∉F1:=fun hx=>(List.nodup_append.1 bK).2.2 b hx b (by simp) rfl
 have oh4:Hw Dj ((((w3.setCell ⟨b,o+t * 4,none⟩ (.int .i64 3)).setCell ⟨b,o+t * 4+1,none⟩ (.int .i64 r.tasks[t].need)).setCell ⟨b,o+t * 4+2,none⟩ (.int .i64 (r.tasks[t].try_+1))).setCell ⟨b,o+t * 4+3,none⟩ (.int .i64 (now+r.plan.wait))) [b] (.slice (some ⟨b,o,none⟩) r.tasks.length c4) _:=oh.task4 ht ⟨3,r.tasks[t].need,r.tasks[t].try_+1,now+r.plan.wait⟩
 have hC:Chg [b] w3 ((((w3.setCell ⟨b,o+t * 4,none⟩ (.int .i64 3)).setCell ⟨b,o+t * 4+1,none⟩ (.int .i64 r.tasks[t].need)).setCell ⟨b,o+t * 4+2,none⟩ (.int .i64 (r.tasks[t].try_+1))).setCell ⟨b,o+t * 4+3,none⟩ (.int .i64 (now+r.plan.wait))):=(((Chg.setCell w3 b _ _).trans (Chg.setCell _ b _ _)).trans (Chg.setCell _ b _ _)).trans (Chg.setCell _ b _ _)
 have op4:=Ag.ow_chg op3 hC (fun x hx h=>by simp only [List.mem_singleton] at h;subst h;exact eM hx)
 have B4:Below w.heap.size w ((((w3.setCell ⟨b,o+t * 4,none⟩ (.int .i64 3)).setCell ⟨b,o+t * 4+1,none⟩ (.int .i64 r.tasks[t].need)).setCell ⟨b,o+t * 4+2,none⟩ (.int .i64 (r.tasks[t].try_+1))).setCell ⟨b,o+t * 4+3,none⟩ (.int .i64 (now+r.plan.wait))):=by
  have hbw2:w.heap.size<=b:=by omega
  repeat (first | (with_reducible exact B3) | refine Below.setCell ?_ (by simp<;>omega) _)
 clear OB_0 OB_1 OB_2 OB_3 OB_4 OB_5 OB_6 OB_7 OB_l
 clear XB_0 XB_1 XB_2 XB_3 XB_l
 clear d0 d1 d2 d3 bI gV XB
 replace OB:=OB.chg hC (by simp only [List.mem_singleton];omega)
 replace RES:=RES.chg hC (by simp only [List.mem_singleton];omega)
 have kV:=hC.size
 clear hC oh op3
 generalize ((((w3.setCell ⟨b,o+t * 4,none⟩ (.int .i64 3)).setCell ⟨b,o+t * 4+1,none⟩ (.int .i64 r.tasks[t].need)).setCell ⟨b,o+t * 4+2,none⟩ (.int .i64 (r.tasks[t].try_+1))).setCell ⟨b,o+t * 4+3,none⟩ (.int .i64 (now+r.plan.wait)))=w4 at *
 obtain ⟨OB_0,OB_1,OB_2,OB_3,OB_4,OB_5,OB_6,OB_7,OB_l⟩:=OB.g8
 obtain ⟨RES_0,RES_1,RES_2,RES_3,RES_4,RES_5,RES_6,RES_7,RES_l⟩:=RES.g8
 have rf:=RES.free
 go_wp2
 refine bodyPost_ret (R0 (DBox.row8 RES rfl _ _ _ _ _ _ _ _)) rfl ⟨(⟨A3,n3,c3⟩,⟨some ⟨b,o,none⟩,r.tasks.length,c4⟩),F1 ++ [b],rfl,⟨F1,[b],rfl,bK,?_,?_⟩,?_,?_⟩
 ·have e2:w.heap.size+1∉F1:=fun hx=>by have:=nF _ (List.mem_append_left _ hx);omega
  show Ag.ow _ F1 r.plan _
  exact (by (repeat (refine Dt.ow_set Ag ?_ e2 _));exact op4)
 ·have e1:w.heap.size+1∉[b]:=by simp only [List.mem_singleton];omega
  show OwL Cv _ [b] _ (Ew r.tasks t fun x=>⟨3,x.need,x.try_+1,now+r.plan.wait⟩)
  rw [Nt ht]
  exact Eg ((((((((oh4.set (a:=⟨w.heap.size+1,_,none⟩) e1 _).set (a:=⟨w.heap.size+1,_,none⟩) e1 _).set (a:=⟨w.heap.size+1,_,none⟩) e1 _).set (a:=⟨w.heap.size+1,_,none⟩) e1 _).set (a:=⟨w.heap.size+1,_,none⟩) e1 _).set (a:=⟨w.heap.size+1,_,none⟩) e1 _).set (a:=⟨w.heap.size+1,_,none⟩) e1 _).set (a:=⟨w.heap.size+1,_,none⟩) e1 _)
 ·intro x hx
  have:=nF x hx
  omega
 ·repeat (first | (with_reducible exact B4) | refine Below.setCell ?_ (by simp<;>omega) _)
def Gg (r:Run) (t:Int):Prop:=Er r/\(0<=t/\t<r.tasks.length)/\(Ax r t.toNat).state=3
theorem Nu (r:Run) (s:Sl×Sl) (t:Int) (w:World) (hl:Bg r<=2000000) (h:Am.rd w w.heap.size r s) :
  Calls Tryz.prog 241 #[Ey r s,.int .i64 t] w fun e w'=>e = .returned (.bool (tf (Gg r t)))/\Below w.heap.size w w':=by
 have CR:=Lib.hid (fun W (hW:Below w.heap.size w W)=>J2 r s W hl (Am.rd_more (Am.rd_below h hW) hW.size))
 have h2:=Lib.hid (fun W (hW:Below w.heap.size w W)=>(Qf h.2).below hW)
 have aJ:r.tasks.length<=2000000:=Nat.le_trans (Ar Fc _) (by unfold Bg at hl;omega)
 obtain ⟨⟨A1,n1,c1⟩,⟨A2,n2,c2⟩⟩:=s
 obtain rfl:n2=r.tasks.length:=RdL.at1 (s:=⟨A2,n2,c2⟩) h.2
 clear h hl
 have X:=DBox.new 89 [.int .i64 r.id,.int .i64 r.plan.prio,.int .i64 r.plan.most,.int .i64 r.plan.wait,.int .i64 r.plan.tasks,.slice A1 n1 c1,.int .i64 r.state,.slice A2 r.tasks.length c2] w (b:=w.heap.size) rfl
 have B0:Below w.heap.size w (w.alloc (.cells #[.int .i64 r.id,.int .i64 r.plan.prio,.int .i64 r.plan.most,.int .i64 r.plan.wait,.int .i64 r.plan.tasks,.slice A1 n1 c1,.int .i64 r.state,.slice A2 r.tasks.length c2] 89)):=by repeat (first | exact Below.refl _ _ | refine Below.alloc ?_ (by simp<;>omega) _)
 cases p0:tf (Er r)
 case false =>
  have H:=Lib.hid (show tf (Gg r t)=false from Al (fun hh=>by rw [Bs hh.1] at p0;cases p0))
  go_enter Tryz.func241,Tryz.ntmps241
  go_wp2_with (go_at_call 216;refine (CR.out _ B0).mono ?_;rintro e w1 ⟨rfl,b1⟩;rw [p0])
  go_ret
  exact ⟨Ac H.out.symm,Aa B0 b1⟩
 cases p1:inB t 0 ((r.tasks.length:Int) - 1)
 case false =>
  have H:=Lib.hid (show tf (Gg r t)=false from Al (fun hh=>by have:=hh.2.1;simp [inB] at p1;omega))
  go_enter Tryz.func241,Tryz.ntmps241
  go_wp2_with fail
  refine (CR.out _ B0).mono ?_
  rintro e w1 ⟨rfl,b1⟩
  rw [p0]
  replace X:=X.below b1
  obtain ⟨X_0,X_1,X_2,X_3,X_4,X_5,X_6,X_7,X_l⟩:=X.g8
  go_wp2_with (go_at_call 155;refine (Aj _ _ _ _).mono ?_;rintro e w9 ⟨rfl,rfl⟩;rw [p1])
  go_ret
  exact ⟨Ac H.out.symm,Aa B0 b1⟩
 have p2:=Bf.1 p1
 obtain ⟨u,rfl⟩:=Int.eq_ofNat_of_zero_le p2.1
 have hu:u<r.tasks.length:=by omega
 have huI:((u:Nat):Int)<(r.tasks.length:Int):=by omega
 have hu0:(0:Int)<=((u:Nat):Int):=by omega
 obtain ⟨b,o,rfl,aH,-⟩:=(h2.out w (Below.refl _ _)).tsk hu
 have H:=Lib.hid (show tf (Gg r (u:Int))=(r.tasks[u].state == 3) by
  by_cases h3:r.tasks[u].state=3
  ·rw [Bs (show Gg r (u:Int) from ⟨J0.1 p0,⟨by omega,by omega⟩,by rw [Int.toNat_natCast,Aw hu];exact h3⟩)];simp [h3]
  ·rw [Al (fun hh=>h3 (by have:=hh.2.2;rw [Int.toNat_natCast,Aw hu] at this;exact this))];simp [h3])
 clear p2
 go_enter Tryz.func241,Tryz.ntmps241
 go_wp2_with fail
 refine (CR.out _ B0).mono ?_
 rintro e w1 ⟨rfl,b1⟩
 rw [p0]
 replace X:=X.below b1
 obtain ⟨X_0,X_1,X_2,X_3,X_4,X_5,X_6,X_7,X_l⟩:=X.g8
 have B1:=Aa B0 b1
 obtain ⟨b',o',bS,-,d0,-,-,-⟩:=(h2.out w1 B1).tsk hu
 simp only [Option.some.injEq,Addr.mk.injEq,and_true] at bS
 obtain ⟨rfl,rfl⟩:=bS
 go_wp2_with (go_at_call 155;refine (Aj _ _ _ _).mono ?_;rintro e w9 ⟨rfl,rfl⟩;rw [p1])
 go_ret
 exact ⟨Ac H.out.symm,B1⟩
theorem Nv {b:Nat} {w:World} {u0 u1 u2 u3 u4 u5 u6 u7:Value} (X:DBox b [u0,u1,u2,u3,u4,u5,u6,u7] w) {v0 v1 v2 v3:Value} {rest:List Value} :
  (results Tryz.f212 (v0 :: v1 :: v2 :: v3 :: .pointer (some ⟨b,0,none⟩) :: rest).toArray).run Tryz.prog w = .ok (.agg #[u0,u1,u2,u3,u4,u5,u6,u7]) w:=by
 have c0:=X.cell 0 _ rfl
 have c1:=X.cell 1 _ rfl
 have c2:=X.cell 2 _ rfl
 have c3:=X.cell 3 _ rfl
 have c4:=X.cell 4 _ rfl
 have c5:=X.cell 5 _ rfl
 have c6:=X.cell 6 _ rfl
 have c7:=X.cell 7 _ rfl
 simp [results,Tryz.results212,go_sem,c0,c1,c2,c3,c4,c5,c6,c7]
theorem Hw.taskSt' {w:World} {F:List Nat} {b o n c:Nat} {l:List Task} {j:Nat} {y:Task} (h:Hw Dj w F (.slice (some ⟨b,o,none⟩) n c) (l.set j y)) (hj:j<l.length) (st:Int) :
  Hw Dj (w.setCell ⟨b,o+j * 4,none⟩ (.int .i64 st)) F (.slice (some ⟨b,o,none⟩) n c) (l.set j ⟨st,y.need,y.try_,y.until_⟩):=by
 have:=h.taskState (j:=j) (by rw [List.length_set];exact hj) st
 rw [List.getElem_set_self,List.set_set] at this
 exact this
theorem J3 (r:Run) (s:Sl×Sl) (u:Nat) (w:World) (hl:Bg r<=2000000) (hR:Gg r u) (h:Am.rd w w.heap.size r s) :
  Calls Tryz.prog 212 #[Ey r s,.int .i64 u] w (Cj Am Ey (Br r u) w):=by
 have CP:=Lib.hid (fun W (hW:Below w.heap.size w W)=>Fj r s W hl (Am.rd_more (Am.rd_below h hW) hW.size))
 have CR:=Lib.hid (fun W (hW:Below w.heap.size w W)=>Nu r s u W hl (Am.rd_more (Am.rd_below h hW) hW.size))
 rw [Bs hR] at CR
 have ht:u<r.tasks.length:=by have:=hR.2.1.2;omega
 have aJ:r.tasks.length<=2000000:=Nat.le_trans (Ar Fc _) (by unfold Bg at hl;omega)
 have cR:=Lib.hid (Aw ht)
 obtain ⟨⟨A1,n1,c1⟩,⟨A2,n2,c2⟩⟩:=s
 obtain rfl:n2=r.tasks.length:=RdL.at1 (s:=⟨A2,n2,c2⟩) h.2
 clear h hl hR
 have jR:(u:Int)<(r.tasks.length:Int):=by omega
 have fZ:(0:Int)<=(u:Int):=by omega
 have X:=(DBox.new 89 [.int .i64 r.id,.int .i64 r.plan.prio,.int .i64 r.plan.most,.int .i64 r.plan.wait,.int .i64 r.plan.tasks,.slice A1 n1 c1,.int .i64 r.state,.slice A2 r.tasks.length c2] w (b:=w.heap.size) rfl).below ((Below.refl _ _).alloc (Nat.le_refl _) (.cells #[.int .i64 0,.int .i64 0,.int .i64 0,.int .i64 0,.int .i64 0,.slice none 0 0,.int .i64 0,.slice none 0 0] 89))
 have RES:=DBox.new 89 [.int .i64 0,.int .i64 0,.int .i64 0,.int .i64 0,.int .i64 0,.slice none 0 0,.int .i64 0,.slice none 0 0] (w.alloc (.cells #[.int .i64 r.id,.int .i64 r.plan.prio,.int .i64 r.plan.most,.int .i64 r.plan.wait,.int .i64 r.plan.tasks,.slice A1 n1 c1,.int .i64 r.state,.slice A2 r.tasks.length c2] 89)) (b:=w.heap.size+1) (by simp)
 have B0:Below w.heap.size w ((w.alloc (.cells #[.int .i64 r.id,.int .i64 r.plan.prio,.int .i64 r.plan.most,.int .i64 r.plan.wait,.int .i64 r.plan.tasks,.slice A1 n1 c1,.int .i64 r.state,.slice A2 r.tasks.length c2] 89)).alloc (.cells #[.int .i64 0,.int .i64 0,.int .i64 0,.int .i64 0,.int .i64 0,.slice none 0 0,.int .i64 0,.slice none 0 0] 89)):=by repeat (first | exact Below.refl _ _ | refine Below.alloc ?_ (by simp<;>omega) _)
 go_enter Tryz.func212,Tryz.ntmps212
 go_wp2_with fail
 refine (CP.out _ B0).mono ?_
 rintro e w1 ⟨⟨⟨A3,n3,c3⟩,⟨A4,n4,c4⟩⟩,F,rfl,o1,nF,b1⟩
 obtain ⟨F1,F2,rfl,bK,op,ot⟩:=o1
 replace ot:OwL Cv w1 F2 (.slice A4 n4 c4) r.tasks:=ot
 obtain rfl:n4=r.tasks.length:=RdL.at1 (s:=⟨A4,n4,c4⟩) ot.rd
 have oh:=Ku ot
 clear ot CP
 obtain ⟨b,o,rfl,aH,d0,d1,d2,d3⟩:=oh.rd.tsk ht
 clear d0 d1 d2 d3
 have hBw:=B0.size
 obtain ⟨rfl,bN,pF⟩:=oh.block (by omega)
 have fX:=nF b (by simp)
 have mB:=X.lt
 have dM:=RES.lt
 replace B0:=Aa B0 b1
 replace X:=X.below b1
 replace RES:=RES.below b1
 clear b1
 go_upto_region 2 with fail
 have OB:=DBox.new 89 [.int .i64 r.id,.int .i64 r.plan.prio,.int .i64 r.plan.most,.int .i64 r.plan.wait,.int .i64 r.plan.tasks,.slice A3 n3 c3,.int .i64 r.state,.slice (some ⟨b,o,none⟩) r.tasks.length c4] w1 (b:=w1.heap.size) rfl
 have b2:Below w1.heap.size w1 (w1.alloc (.cells #[.int .i64 r.id,.int .i64 r.plan.prio,.int .i64 r.plan.most,.int .i64 r.plan.wait,.int .i64 r.plan.tasks,.slice A3 n3 c3,.int .i64 r.state,.slice (some ⟨b,o,none⟩) r.tasks.length c4] 89)):=(Below.refl _ _).alloc (Nat.le_refl _) _
 have B2:=Aa B0 b2
 replace X:=X.below b2
 replace RES:=RES.below b2
 replace oh:=oh.below b2
 have op2:=Ag.ow_below op b2
 have eG:=b2.size
 have ow1:=OB.lt
 clear op
 generalize w1.alloc (.cells #[.int .i64 r.id,.int .i64 r.plan.prio,.int .i64 r.plan.most,.int .i64 r.plan.wait,.int .i64 r.plan.tasks,.slice A3 n3 c3,.int .i64 r.state,.slice (some ⟨b,o,none⟩) r.tasks.length c4] 89)=w2 at *
 obtain ⟨X_0,X_1,X_2,X_3,X_4,X_5,X_6,X_7,X_l⟩:=X.g8
 go_wp2_with fail
 refine (CR.out _ B2).mono ?_
 rintro e w3 ⟨rfl,b3⟩
 have B3:=Aa B2 b3
 clear X_0 X_1 X_2 X_3 X_4 X_5 X_6 X_7 X_l
 replace X:=X.below b3
 replace RES:=RES.below b3
 replace OB:=OB.below b3
 replace oh:=oh.below b3
 have op3:=Ag.ow_below op2 b3
 have jP:=b3.size
 clear op2 CR b3
 obtain ⟨X_0,X_1,X_2,X_3,X_4,X_5,X_6,X_7,X_l⟩:=X.g8
 obtain ⟨OB_0,OB_1,OB_2,OB_3,OB_4,OB_5,OB_6,OB_7,OB_l⟩:=OB.g8
 obtain ⟨b',o',bS,bI,d0,d1,d2,d3⟩:=oh.rd.tsk ht
 simp only [Option.some.injEq,Addr.mk.injEq,and_true] at bS
 obtain ⟨rfl,rfl⟩:=bS
 have gV:=(oh.block (by omega)).2.2
 have eM:b∉F1:=fun hx=>(List.nodup_append.1 bK).2.2 b hx b (by simp) rfl
 go_upto_region 6 with fail
 have oh4:Hw Dj ((w3.setCell ⟨b,o+u * 4+3,none⟩ (.int .i64 0)).setCell ⟨b,o+u * 4,none⟩ (.int .i64 2)) [b] (.slice (some ⟨b,o,none⟩) r.tasks.length c4) (r.tasks.set u ⟨2,r.tasks[u].need,r.tasks[u].try_,0⟩):=(oh.taskUntil ht 0).taskSt' ht 2
 have hC:Chg [b] w3 ((w3.setCell ⟨b,o+u * 4+3,none⟩ (.int .i64 0)).setCell ⟨b,o+u * 4,none⟩ (.int .i64 2)):=(Chg.setCell w3 b _ _).trans (Chg.setCell _ b _ _)
 have op4:=Ag.ow_chg op3 hC (fun x hx h=>by simp only [List.mem_singleton] at h;subst h;exact eM hx)
 have B4:Below w.heap.size w ((w3.setCell ⟨b,o+u * 4+3,none⟩ (.int .i64 0)).setCell ⟨b,o+u * 4,none⟩ (.int .i64 2)):=by
  repeat (first | (with_reducible exact B3) | refine Below.setCell ?_ (by simp<;>omega) _)
 clear OB_0 OB_1 OB_2 OB_3 OB_4 OB_5 OB_6 OB_7 OB_l
 clear X_0 X_1 X_2 X_3 X_4 X_5 X_6 X_7 X_l
 clear d0 d1 d2 d3 bI gV
 replace OB:=OB.chg hC (by simp only [List.mem_singleton];omega)
 replace X:=X.chg hC (by simp only [List.mem_singleton];omega)
 replace RES:=RES.chg hC (by simp only [List.mem_singleton];omega)
 have kV:=hC.size
 clear hC oh op3
 generalize ((w3.setCell ⟨b,o+u * 4+3,none⟩ (.int .i64 0)).setCell ⟨b,o+u * 4,none⟩ (.int .i64 2))=w4 at *
 obtain ⟨OB_0,OB_1,OB_2,OB_3,OB_4,OB_5,OB_6,OB_7,OB_l⟩:=OB.g8
 obtain ⟨RES_0,RES_1,RES_2,RES_3,RES_4,RES_5,RES_6,RES_7,RES_l⟩:=RES.g8
 obtain ⟨X_0,X_1,X_2,X_3,X_4,X_5,X_6,X_7,X_l⟩:=X.g8
 have rf:=RES.free
 have tT:u<(r.tasks.set u ⟨2,r.tasks[u].need,r.tasks[u].try_,0⟩).length:=by rw [List.length_set];exact ht
 obtain ⟨b',o',bS,bI,d0,d1,d2,d3⟩:=oh4.rd.tsk tT
 simp only [Option.some.injEq,Addr.mk.injEq,and_true] at bS
 obtain ⟨rfl,rfl⟩:=bS
 rw [List.getElem_set_self] at d0 d1 d2 d3
 have gV:=(oh4.block (by omega)).2.2
 by_cases q:r.tasks[u].try_<r.plan.most
 ·have H:=Lib.hid (show Br r u=⟨r.id,r.plan,r.state,r.tasks.set u ⟨2,r.tasks[u].need,r.tasks[u].try_,0⟩⟩ by unfold Br;rw [if_pos (by rw [cR.out];exact q),Nt ht])
  have aN:=Bk w4
  have bQ:b<w4.heap.size:=by omega
  refine Ad (by kernel_rfl) (by kernel_rfl) ?_
  repeat (go_big_quiet_step (fail))
  refine wpQuiet_nil ?_
  rintro w5 ⟨⟨_,b5⟩,rfl⟩
  clear aN d0 d1 d2 d3 bI gV
  clear OB_0 OB_1 OB_2 OB_3 OB_4 OB_5 OB_6 OB_7 OB_l
  clear RES_0 RES_1 RES_2 RES_3 RES_4 RES_5 RES_6 RES_7 RES_l
  clear X_0 X_1 X_2 X_3 X_4 X_5 X_6 X_7 X_l
  replace OB:=OB.below b5
  replace RES:=RES.below b5
  clear X
  have oh5:=oh4.below b5
  have op5:=Ag.ow_below op4 b5
  have B5:=Aa B4 b5
  have pC:=b5.size
  clear rf
  obtain ⟨OB_0,OB_1,OB_2,OB_3,OB_4,OB_5,OB_6,OB_7,OB_l⟩:=OB.g8
  obtain ⟨RES_0,RES_1,RES_2,RES_3,RES_4,RES_5,RES_6,RES_7,RES_l⟩:=RES.g8
  have rf:=RES.free
  go_wp2
  refine bodyPost_ret (Nv (DBox.row8 RES rfl _ _ _ _ _ _ _ _)) rfl ⟨(⟨A3,n3,c3⟩,⟨some ⟨b,o,none⟩,r.tasks.length,c4⟩),F1 ++ [b],by rw [H.out],⟨F1,[b],rfl,bK,?_,?_⟩,?_,?_⟩
  ·have e2:w.heap.size+1∉F1:=fun hx=>by have:=nF _ (List.mem_append_left _ hx);omega
   rw [H.out]
   show Ag.ow _ F1 r.plan _
   exact (by (repeat (refine Dt.ow_set Ag ?_ e2 _));exact op5)
  ·have e1:w.heap.size+1∉[b]:=by simp only [List.mem_singleton];omega
   rw [H.out]
   show OwL Cv _ [b] _ (r.tasks.set u ⟨2,r.tasks[u].need,r.tasks[u].try_,0⟩)
   exact Eg ((((((((oh5.set (a:=⟨w.heap.size+1,_,none⟩) e1 _).set (a:=⟨w.heap.size+1,_,none⟩) e1 _).set (a:=⟨w.heap.size+1,_,none⟩) e1 _).set (a:=⟨w.heap.size+1,_,none⟩) e1 _).set (a:=⟨w.heap.size+1,_,none⟩) e1 _).set (a:=⟨w.heap.size+1,_,none⟩) e1 _).set (a:=⟨w.heap.size+1,_,none⟩) e1 _).set (a:=⟨w.heap.size+1,_,none⟩) e1 _)
  ·intro x hx
   have:=nF x hx
   omega
  ·repeat (first | (with_reducible exact B5) | refine Below.setCell ?_ (by simp<;>omega) _)
 ·have H:=Lib.hid (show Br r u=Bz ⟨r.id,r.plan,r.state,r.tasks.set u ⟨5,r.tasks[u].need,r.tasks[u].try_,0⟩⟩ 3 by unfold Br;rw [if_neg (by rw [cR.out];exact q),Nt ht])
  have aN:=Bk w4
  have bQ:b<w4.heap.size:=by omega
  refine Ad (by kernel_rfl) (by kernel_rfl) ?_
  repeat (go_big_quiet_step (fail))
  refine wpQuiet_nil ?_
  rintro w5 ⟨⟨_,b5⟩,rfl⟩
  clear aN d0 d1 d2 d3 bI gV
  clear OB_0 OB_1 OB_2 OB_3 OB_4 OB_5 OB_6 OB_7 OB_l
  clear RES_0 RES_1 RES_2 RES_3 RES_4 RES_5 RES_6 RES_7 RES_l
  clear X_0 X_1 X_2 X_3 X_4 X_5 X_6 X_7 X_l
  replace OB:=OB.below b5
  replace RES:=RES.below b5
  clear X
  have oh5:=oh4.below b5
  have op5:=Ag.ow_below op4 b5
  have B5:=Aa B4 b5
  have pC:=b5.size
  clear rf
  obtain ⟨OB_0,OB_1,OB_2,OB_3,OB_4,OB_5,OB_6,OB_7,OB_l⟩:=OB.g8
  obtain ⟨b',o',bS,bI,d0,d1,d2,d3⟩:=oh5.rd.tsk tT
  simp only [Option.some.injEq,Addr.mk.injEq,and_true] at bS
  obtain ⟨rfl,rfl⟩:=bS
  have gV:=(oh5.block (by omega)).2.2
  go_upto_region 9 with fail
  have oh6:=oh5.taskSt' ht 5
  have hC:=Chg.setCell w5 b (o+u * 4) (.int .i64 5)
  have op6:=Ag.ow_chg op5 hC (fun x hx h=>by simp only [List.mem_singleton] at h;subst h;exact eM hx)
  have B6:Below w.heap.size w (w5.setCell ⟨b,o+u * 4,none⟩ (.int .i64 5)):=by
   repeat (first | (with_reducible exact B5) | refine Below.setCell ?_ (by simp<;>omega) _)
  clear OB_0 OB_1 OB_2 OB_3 OB_4 OB_5 OB_6 OB_7 OB_l
  clear d0 d1 d2 d3 bI gV
  replace OB:=OB.chg hC (by simp only [List.mem_singleton];omega)
  replace RES:=RES.chg hC (by simp only [List.mem_singleton];omega)
  have pG:=hC.size
  generalize w5.setCell ⟨b,o+u * 4,none⟩ (.int .i64 5)=w6 at *
  obtain ⟨OB_0,OB_1,OB_2,OB_3,OB_4,OB_5,OB_6,OB_7,OB_l⟩:=OB.g8
  have hlen6:=Lib.hid (show (r.tasks.set u ⟨5,r.tasks[u].need,r.tasks[u].try_,0⟩).length=r.tasks.length from List.length_set)
  have CL:=Lib.hid (Ms ⟨r.id,r.plan,r.state,r.tasks.set u ⟨5,r.tasks[u].need,r.tasks[u].try_,0⟩⟩ ⟨A3,n3,c3⟩ 3 b o c4 [b] w6 (by show (r.tasks.set u _).length<=2000000;rw [List.length_set];omega) (by show 0<(r.tasks.set u _).length;rw [List.length_set];omega) (by show Hw Dj w6 [b] (.slice _ (r.tasks.set u _).length c4) _;rw [List.length_set];exact oh6))
  unfold Of at CL
  dsimp only at CL
  rw [hlen6.out] at CL
  go_wp2_with fail
  refine CL.out.mono ?_
  rintro e w7 ⟨rfl,oh7,c7⟩
  have op7:=Ag.ow_chg op6 c7 (fun x hx h=>by simp only [List.mem_singleton] at h;subst h;exact eM hx)
  have B7:Below w.heap.size w w7:=B6.trans (c7.below (by omega) (fun x hx=>by simp only [List.mem_singleton] at hx;omega))
  clear OB_0 OB_1 OB_2 OB_3 OB_4 OB_5 OB_6 OB_7 OB_l
  replace RES:=RES.chg c7 (by simp only [List.mem_singleton];omega)
  obtain ⟨RES_0,RES_1,RES_2,RES_3,RES_4,RES_5,RES_6,RES_7,RES_l⟩:=RES.g8
  have rf:=RES.free
  go_wp2
  refine bodyPost_ret (Nv (DBox.row8 RES rfl _ _ _ _ _ _ _ _)) rfl ⟨(⟨A3,n3,c3⟩,⟨some ⟨b,o,none⟩,r.tasks.length,c4⟩),F1 ++ [b],by rw [H.out],⟨F1,[b],rfl,bK,?_,?_⟩,?_,?_⟩
  ·have e2:w.heap.size+1∉F1:=fun hx=>by have:=nF _ (List.mem_append_left _ hx);omega
   rw [H.out]
   show Ag.ow _ F1 r.plan _
   exact (by (repeat (refine Dt.ow_set Ag ?_ e2 _));exact op7)
  ·have e1:w.heap.size+1∉[b]:=by simp only [List.mem_singleton];omega
   rw [H.out]
   show OwL Cv _ [b] _ ((Bz ⟨r.id,r.plan,r.state,r.tasks.set u ⟨5,r.tasks[u].need,r.tasks[u].try_,0⟩⟩ 3).tasks)
   exact Eg ((((((((oh7.set (a:=⟨w.heap.size+1,_,none⟩) e1 _).set (a:=⟨w.heap.size+1,_,none⟩) e1 _).set (a:=⟨w.heap.size+1,_,none⟩) e1 _).set (a:=⟨w.heap.size+1,_,none⟩) e1 _).set (a:=⟨w.heap.size+1,_,none⟩) e1 _).set (a:=⟨w.heap.size+1,_,none⟩) e1 _).set (a:=⟨w.heap.size+1,_,none⟩) e1 _).set (a:=⟨w.heap.size+1,_,none⟩) e1 _)
  ·intro x hx
   have:=nF x hx
   omega
  ·repeat (first | (with_reducible exact B7) | refine Below.setCell ?_ (by simp<;>omega) _)
theorem Xc {b:Nat} {w:World} {u0 u1 u2 u3 u4 u5 u6 u7:Value} (X:DBox b [u0,u1,u2,u3,u4,u5,u6,u7] w) {v0 v1:Value} {rest:List Value} :
  (results Tryz.f214 (v0 :: v1 :: .pointer (some ⟨b,0,none⟩) :: rest).toArray).run Tryz.prog w = .ok (.agg #[u0,u1,u2,u3,u4,u5,u6,u7]) w:=by
 have c0:=X.cell 0 _ rfl
 have c1:=X.cell 1 _ rfl
 have c2:=X.cell 2 _ rfl
 have c3:=X.cell 3 _ rfl
 have c4:=X.cell 4 _ rfl
 have c5:=X.cell 5 _ rfl
 have c6:=X.cell 6 _ rfl
 have c7:=X.cell 7 _ rfl
 simp [results,Tryz.results214,go_sem,c0,c1,c2,c3,c4,c5,c6,c7]
theorem Va (r:Run) (s:Sl×Sl) (w:World) (hl:Bg r<=2000000) (hR:Er r) (hS:r.state=1) (hp:0<r.tasks.length) (h:Am.rd w w.heap.size r s) :
  Calls Tryz.prog 214 #[Ey r s] w (Cj Am Ey (Bz r 4) w):=by
 have CP:=Lib.hid (fun W (hW:Below w.heap.size w W)=>Fj r s W hl (Am.rd_more (Am.rd_below h hW) hW.size))
 have CR:=Lib.hid (fun W (hW:Below w.heap.size w W)=>J2 r s W hl (Am.rd_more (Am.rd_below h hW) hW.size))
 rw [Bs hR] at CR
 have aJ:r.tasks.length<=2000000:=Nat.le_trans (Ar Fc _) (by unfold Bg at hl;omega)
 obtain ⟨⟨A1,n1,c1⟩,⟨A2,n2,c2⟩⟩:=s
 obtain rfl:n2=r.tasks.length:=RdL.at1 (s:=⟨A2,n2,c2⟩) h.2
 clear h hl hR
 have bJ:(r.state != 1)=false:=by simp [hS]
 clear hS
 have X:=(DBox.new 89 [.int .i64 r.id,.int .i64 r.plan.prio,.int .i64 r.plan.most,.int .i64 r.plan.wait,.int .i64 r.plan.tasks,.slice A1 n1 c1,.int .i64 r.state,.slice A2 r.tasks.length c2] w (b:=w.heap.size) rfl).below ((Below.refl _ _).alloc (Nat.le_refl _) (.cells #[.int .i64 0,.int .i64 0,.int .i64 0,.int .i64 0,.int .i64 0,.slice none 0 0,.int .i64 0,.slice none 0 0] 89))
 have RES:=DBox.new 89 [.int .i64 0,.int .i64 0,.int .i64 0,.int .i64 0,.int .i64 0,.slice none 0 0,.int .i64 0,.slice none 0 0] (w.alloc (.cells #[.int .i64 r.id,.int .i64 r.plan.prio,.int .i64 r.plan.most,.int .i64 r.plan.wait,.int .i64 r.plan.tasks,.slice A1 n1 c1,.int .i64 r.state,.slice A2 r.tasks.length c2] 89)) (b:=w.heap.size+1) (by simp)
 have B0:Below w.heap.size w ((w.alloc (.cells #[.int .i64 r.id,.int .i64 r.plan.prio,.int .i64 r.plan.most,.int .i64 r.plan.wait,.int .i64 r.plan.tasks,.slice A1 n1 c1,.int .i64 r.state,.slice A2 r.tasks.length c2] 89)).alloc (.cells #[.int .i64 0,.int .i64 0,.int .i64 0,.int .i64 0,.int .i64 0,.slice none 0 0,.int .i64 0,.slice none 0 0] 89)):=by repeat (first | exact Below.refl _ _ | refine Below.alloc ?_ (by simp<;>omega) _)
 go_enter Tryz.func214,Tryz.ntmps214
 go_wp2_with fail
 refine (CP.out _ B0).mono ?_
 rintro e w1 ⟨⟨⟨A3,n3,c3⟩,⟨A4,n4,c4⟩⟩,F,rfl,o1,nF,b1⟩
 obtain ⟨F1,F2,rfl,bK,op,ot⟩:=o1
 replace ot:OwL Cv w1 F2 (.slice A4 n4 c4) r.tasks:=ot
 obtain rfl:n4=r.tasks.length:=RdL.at1 (s:=⟨A4,n4,c4⟩) ot.rd
 have oh:=Ku ot
 clear ot CP
 obtain ⟨b,o,rfl,aH,d0,d1,d2,d3⟩:=oh.rd.tsk hp
 clear d0 d1 d2 d3
 have hBw:=B0.size
 obtain ⟨rfl,bN,pF⟩:=oh.block hp
 have fX:=nF b (by simp)
 have mB:=X.lt
 have dM:=RES.lt
 replace B0:=Aa B0 b1
 replace X:=X.below b1
 replace RES:=RES.below b1
 clear b1
 go_upto_region 2 with fail
 have OB:=DBox.new 89 [.int .i64 r.id,.int .i64 r.plan.prio,.int .i64 r.plan.most,.int .i64 r.plan.wait,.int .i64 r.plan.tasks,.slice A3 n3 c3,.int .i64 r.state,.slice (some ⟨b,o,none⟩) r.tasks.length c4] w1 (b:=w1.heap.size) rfl
 have b2:Below w1.heap.size w1 (w1.alloc (.cells #[.int .i64 r.id,.int .i64 r.plan.prio,.int .i64 r.plan.most,.int .i64 r.plan.wait,.int .i64 r.plan.tasks,.slice A3 n3 c3,.int .i64 r.state,.slice (some ⟨b,o,none⟩) r.tasks.length c4] 89)):=(Below.refl _ _).alloc (Nat.le_refl _) _
 have B2:=Aa B0 b2
 replace X:=X.below b2
 replace RES:=RES.below b2
 replace oh:=oh.below b2
 have op2:=Ag.ow_below op b2
 have eG:=b2.size
 have ow1:=OB.lt
 clear op
 generalize w1.alloc (.cells #[.int .i64 r.id,.int .i64 r.plan.prio,.int .i64 r.plan.most,.int .i64 r.plan.wait,.int .i64 r.plan.tasks,.slice A3 n3 c3,.int .i64 r.state,.slice (some ⟨b,o,none⟩) r.tasks.length c4] 89)=w2 at *
 obtain ⟨X_0,X_1,X_2,X_3,X_4,X_5,X_6,X_7,X_l⟩:=X.g8
 go_wp2_with fail
 refine (CR.out _ B2).mono ?_
 rintro e w3 ⟨rfl,b3⟩
 have B3:=Aa B2 b3
 clear X_0 X_1 X_2 X_3 X_4 X_5 X_6 X_7 X_l
 replace X:=X.below b3
 replace RES:=RES.below b3
 replace OB:=OB.below b3
 replace oh:=oh.below b3
 have op3:=Ag.ow_below op2 b3
 have jP:=b3.size
 clear op2 CR b3
 obtain ⟨X_0,X_1,X_2,X_3,X_4,X_5,X_6,X_7,X_l⟩:=X.g8
 obtain ⟨OB_0,OB_1,OB_2,OB_3,OB_4,OB_5,OB_6,OB_7,OB_l⟩:=OB.g8
 have eM:b∉F1:=fun hx=>(List.nodup_append.1 bK).2.2 b hx b (by simp) rfl
 have CL:=Lib.hid (Ms r ⟨A3,n3,c3⟩ 4 b o c4 [b] w3 aJ hp oh)
 unfold Of at CL
 go_wp2_with fail
 refine CL.out.mono ?_
 rintro e w7 ⟨rfl,oh7,c7⟩
 have op7:=Ag.ow_chg op3 c7 (fun x hx h=>by simp only [List.mem_singleton] at h;subst h;exact eM hx)
 have B7:Below w.heap.size w w7:=B3.trans (c7.below (by omega) (fun x hx=>by simp only [List.mem_singleton] at hx;omega))
 clear OB_0 OB_1 OB_2 OB_3 OB_4 OB_5 OB_6 OB_7 OB_l
 clear X_0 X_1 X_2 X_3 X_4 X_5 X_6 X_7 X_l
 replace RES:=RES.chg c7 (by simp only [List.mem_singleton];omega)
 obtain ⟨RES_0,RES_1,RES_2,RES_3,RES_4,RES_5,RES_6,RES_7,RES_l⟩:=RES.g8
 have rf:=RES.free
 go_wp2
 refine bodyPost_ret (Xc (DBox.row8 RES rfl _ _ _ _ _ _ _ _)) rfl ⟨(⟨A3,n3,c3⟩,⟨some ⟨b,o,none⟩,r.tasks.length,c4⟩),F1 ++ [b],rfl,⟨F1,[b],rfl,bK,?_,?_⟩,?_,?_⟩
 ·have e2:w.heap.size+1∉F1:=fun hx=>by have:=nF _ (List.mem_append_left _ hx);omega
  show Ag.ow _ F1 r.plan _
  exact (by (repeat (refine Dt.ow_set Ag ?_ e2 _));exact op7)
 ·have e1:w.heap.size+1∉[b]:=by simp only [List.mem_singleton];omega
  show OwL Cv _ [b] _ (Bz r 4).tasks
  exact Eg ((((((((oh7.set (a:=⟨w.heap.size+1,_,none⟩) e1 _).set (a:=⟨w.heap.size+1,_,none⟩) e1 _).set (a:=⟨w.heap.size+1,_,none⟩) e1 _).set (a:=⟨w.heap.size+1,_,none⟩) e1 _).set (a:=⟨w.heap.size+1,_,none⟩) e1 _).set (a:=⟨w.heap.size+1,_,none⟩) e1 _).set (a:=⟨w.heap.size+1,_,none⟩) e1 _).set (a:=⟨w.heap.size+1,_,none⟩) e1 _)
 ·intro x hx
  have:=nF x hx
  omega
 ·repeat (first | (with_reducible exact B7) | refine Below.setCell ?_ (by simp<;>omega) _)
section
def Du (y:Yard) (id task try_:Int):Prop :=
 0<=Bo y id/\(0<=task/\task<(H8 y id).tasks.length)/\(Ax (H8 y id) task.toNat).state=3/\(Ax (H8 y id) task.toNat).try_=try_
theorem Ti (y:Yard) (s:Sl×Sl) (id tk tr:Int) (w:World) (hl:Ai y<=2000000) (h:Ab.rd w w.heap.size y s) :
  Calls Tryz.prog 240 #[By y s,.int .i64 id,.int .i64 tk,.int .i64 tr] w fun e' w'=>e' = .returned (.bool (tf (Du y id tk tr)))/\Below w.heap.size w w':=by
 have HR:=Lib.hid (show ∀ W,Below w.heap.size w W->Ab.rd W W.heap.size y s from fun W hW=>Ab.rd_more (Ab.rd_below h hW) hW.size)
 obtain ⟨⟨A1,n1,c1⟩,⟨A2,n2,c2⟩⟩:=s
 obtain rfl:n2=y.runs.length:=RdL.at1 (s:=⟨A2,n2,c2⟩) h.2
 have h2:RdL Am w w.heap.size (.slice A2 y.runs.length c2) y.runs:=h.2
 have dI:y.runs.length<=2000000:=Nat.le_trans (Ar Bg _) (by unfold Ai at hl;omega)
 have X:=DBox.new 31 [.int .i64 y.now,.int .i64 y.seq,.slice A1 n1 c1,.slice A2 y.runs.length c2] w (b:=w.heap.size) rfl
 have B0:Below w.heap.size w (w.alloc (.cells #[.int .i64 y.now,.int .i64 y.seq,.slice A1 n1 c1,.slice A2 y.runs.length c2] 31)):=by repeat (first | exact Below.refl _ _ | refine Below.alloc ?_ (by simp<;>omega) _)
 have C:=Cz y (⟨A1,n1,c1⟩,⟨A2,y.runs.length,c2⟩) id (w.alloc (.cells #[.int .i64 y.now,.int .i64 y.seq,.slice A1 n1 c1,.slice A2 y.runs.length c2] 31)) hl (HR.out _ B0)
 clear h
 rcases Cn y id with hr | ⟨k,hk,hr⟩
 ·have H:=Lib.hid (show tf (Du y id tk tr)=false from Al (fun hh=>by have:=hh.1;omega))
  rw [hr] at C
  clear hr
  go_enter Tryz.func240,Tryz.ntmps240
  go_wp2_with fail
  generalize (w.alloc (.cells #[.int .i64 y.now,.int .i64 y.seq,.slice A1 n1 c1,.slice A2 y.runs.length c2] 31))=W at *
  refine C.mono ?_
  rintro e1 w1 ⟨rfl,b1⟩
  go_wp2
  go_ret
  exact ⟨Ac H.out.symm,Aa B0 b1⟩
 ·have uJ:=Ek hl hk
  have HR2:=Lib.hid hr
  rw [hr] at C
  clear hr
  have HK:=Lib.hid (Dr hk HR2.out)
  go_enter Tryz.func240,Tryz.ntmps240
  go_wp2_with fail
  generalize (w.alloc (.cells #[.int .i64 y.now,.int .i64 y.seq,.slice A1 n1 c1,.slice A2 y.runs.length c2] 31))=W at *
  refine C.mono ?_
  rintro e1 w1 ⟨rfl,b1⟩
  replace X:=X.below b1
  obtain ⟨X_0,X_1,X_2,X_3,X_l⟩:=X.g4
  replace B0:=Aa B0 b1
  obtain ⟨b,o,⟨s1,⟨At,nt,ct⟩⟩,dW,aH,cB,c0_,c1_,c2_,c3_,c4_,c5_,c6_,c7_⟩:=(h2.below B0).run hk
  subst dW
  obtain rfl:nt=y.runs[k].tasks.length:=RdL.at1 (s:=⟨At,nt,ct⟩) cB.2
  have h3:RdL Cv w1 w.heap.size (.slice At y.runs[k].tasks.length ct) y.runs[k].tasks:=cB.2
  have fY:(k:Int)<(y.runs.length:Int):=by omega
  have hk00:(0:Int)<=(k:Int):=by omega
  have dG:decide ((0:Int)<=(k:Int))=true:=decide_eq_true (by omega)
  have bJ:b<w1.heap.size:=Nat.lt_of_lt_of_le aH B0.size
  have wr1:IntKind.i64.wrap ((y.runs[k].tasks.length:Int) - 1)=(y.runs[k].tasks.length:Int) - 1:=IntWalk.i64_in _ (by omega)
  cases q:inB tk 0 ((y.runs[k].tasks.length:Int) - 1)
  ·have H:=Lib.hid (show tf (Du y id tk tr)=false from Al (fun hh=>by
    have h5:=hh.2.1
    rw [HK.out] at h5
    have:=Bf.2 (show 0<=tk/\tk<=(y.runs[k].tasks.length:Int) - 1 by omega)
    rw [q] at this
    cases this))
   go_wp2_with (go_at_call 155;refine (Aj _ _ _ _).mono ?_;rintro e w9 ⟨rfl,rfl⟩;rw [q])
   go_ret
   exact ⟨Ac H.out.symm,B0⟩
  ·have qq:=Bf.1 q
   obtain ⟨t,rfl⟩:=Int.eq_ofNat_of_zero_le qq.1
   have ht:t<y.runs[k].tasks.length:=by omega
   obtain ⟨b',o',_,rV,bI,_,d0,d1,d2,d3⟩:=h3.task ht
   subst rV
   have eG:b'<w1.heap.size:=Nat.lt_of_lt_of_le bI B0.size
   have jR:(t:Int)<(y.runs[k].tasks.length:Int):=by omega
   have fZ:(0:Int)<=(t:Int):=by omega
   have H:=Lib.hid (show tf (Du y id t tr)=((y.runs[k].tasks[t].state == 3) && (y.runs[k].tasks[t].try_ == tr)) by
    rw [Bool.eq_iff_iff,J0,Bool.and_eq_true,beq_iff_eq,beq_iff_eq]
    unfold Du
    rw [HK.out,Int.toNat_natCast,Aw ht,HR2.out]
    constructor
    ·intro hh;exact hh.2.2
    ·intro hh;exact ⟨by omega,⟨by omega,by omega⟩,hh⟩)
   clear qq
   generalize y.runs[k].tasks[t].state=st at *
   generalize y.runs[k].tasks[t].try_=ty at *
   cases q2:(st == 3)
   ·go_wp2_with (go_at_call 155;refine (Aj _ _ _ _).mono ?_;rintro e w9 ⟨rfl,rfl⟩;rw [q])
    go_ret
    exact ⟨Ac (by rw [H.out,q2];rfl),B0⟩
   ·go_wp2_with (go_at_call 155;refine (Aj _ _ _ _).mono ?_;rintro e w9 ⟨rfl,rfl⟩;rw [q])
    go_ret
    exact ⟨Ac (by rw [H.out,q2];rfl),B0⟩
open Classical in
noncomputable def D8 (y:Yard) (id tk tr:Int):Int:=if ¬ Bq y then 8 else if Bo y id<0 then 10 else if ¬ Du y id tk tr then 11 else 0
theorem Pb (y:Yard) (s:Sl×Sl) (id tk tr:Int) (w:World) (hl:Ai y<=2000000) (h:Ab.rd w w.heap.size y s) :
  Calls Tryz.prog 209 #[By y s,.int .i64 id,.int .i64 tk,.int .i64 tr] w fun e' w'=>e' = .returned (.int .i64 (D8 y id tk tr))/\Below w.heap.size w w':=by
 have HR:=Lib.hid (show ∀ W,Below w.heap.size w W->Ab.rd W W.heap.size y s from fun W hW=>Ab.rd_more (Ab.rd_below h hW) hW.size)
 obtain ⟨⟨A1,n1,c1⟩,⟨A2,n2,c2⟩⟩:=s
 have CY:=Lib.hid (fun W hW=>D7 y (⟨A1,n1,c1⟩,⟨A2,n2,c2⟩) W hl (HR.out W hW))
 have CA:=Lib.hid (fun W hW=>Cz y (⟨A1,n1,c1⟩,⟨A2,n2,c2⟩) id W hl (HR.out W hW))
 have CH:=Lib.hid (fun W hW=>Ti y (⟨A1,n1,c1⟩,⟨A2,n2,c2⟩) id tk tr W hl (HR.out W hW))
 clear h
 obtain ⟨W,aG,X,B0⟩:=bx1 w 31 [.int .i64 y.now,.int .i64 y.seq,.slice A1 n1 c1,.slice A2 n2 c2]
 go_enter Tryz.func209,Tryz.ntmps209
 go_wp2_with fail
 rw [<-aG.out]
 clear aG
 refine (CY.out _ B0).mono ?_
 rintro e1 w1 ⟨rfl,b1⟩
 replace X:=X.below b1
 obtain ⟨X_0,X_1,X_2,X_3,X_l⟩:=X.g4
 replace B0:=Aa B0 b1
 by_cases p0:Bq y
 case neg =>
  have H:=Lib.hid (show D8 y id tk tr=8 from if_pos p0)
  rw [Al p0]
  clear p0
  go_wp2
  go_ret
  exact ⟨by rw [H.out];rfl,B0⟩
 rw [Bs p0]
 go_wp2_with fail
 refine (CA.out _ B0).mono ?_
 rintro e1 w2 ⟨rfl,b2⟩
 clear X_0 X_1 X_2 X_3 X_l
 replace X:=X.below b2
 obtain ⟨X_0,X_1,X_2,X_3,X_l⟩:=X.g4
 replace B0:=Aa B0 b2
 by_cases p1:Bo y id<0
 ·have H:=Lib.hid (show D8 y id tk tr=10 by unfold D8;rw [if_neg (fun h=>h p0),if_pos p1])
  clear p0
  go_wp2
  go_ret
  exact ⟨by rw [H.out];rfl,B0⟩
 go_wp2_with fail
 refine (CH.out _ B0).mono ?_
 rintro e1 w3 ⟨rfl,b3⟩
 replace B0:=Aa B0 b3
 by_cases p2:Du y id tk tr
 ·have H:=Lib.hid (show D8 y id tk tr=0 by unfold D8;rw [if_neg (fun h=>h p0),if_neg (by omega),if_neg (fun h=>h p2)])
  rw [Bs p2]
  clear p0 p2
  go_wp2
  go_ret
  exact ⟨by rw [H.out];rfl,B0⟩
 ·have H:=Lib.hid (show D8 y id tk tr=11 by unfold D8;rw [if_neg (fun h=>h p0),if_neg (by omega),if_pos p2])
  rw [Al p2]
  clear p0 p2
  go_wp2
  go_ret
  exact ⟨by rw [H.out];rfl,B0⟩
end
end Go.Proofs.YtonlnjdempbfoaaGreat
