/-
  One element of a slice of one's own is changed in place: its own blocks turn, then its cells. l09Started of the reference: a run of which a task was handed out.
-/
import Derived.Test.YtecnbnbopcblgaaGreatZVw0
import Derived.Test.YtecnbnbopcblgaaGreatZVw3
import Derived.Test.YtecnbnbopcblgaaGreatZVw4
import Derived.Test.YtecnbnbopcblgaaGreatZVw5
import Derived.Test.YtecnbnbopcblgaaGreatZVw6
import Derived.Test.YtecnbnbopcblgaaGreatZVw7
import Derived.Test.YtecnbnbopcblgaaGreatZVw8
namespace Go.Proofs.YtecnbnbopcblgaaGreat
open Go.RowKit
set_option maxRecDepth 100000
set_option maxHeartbeats 4000000
set_option linter.unusedVariables false
set_option linter.unusedSimpArgs false
open Value renaming int->J,slice->Aa
open IntKind renaming i64->Ab
open Option renaming none->Ac,some->Ad
open Below renaming setCell->Ae,alloc->Af
open Nat renaming le_trans->Ai,lt_of_lt_of_le->Aj
open Go renaming bodyPost_ret->Ak,wpQuiet_nil->Al
open Go.Proofs.Tryz renaming prog->An
open Int renaming toNat_natCast->Ap,eq_ofNat_of_zero_le->Aq
open IntWalk renaming i64_in->Ar
open List renaming length_map->Au,mem_singleton->Aw,getElem_mem->Ax,nodup_append->Ay,mem_append_right->Be,mem_append_left->Bf,length_set->Bh,mem_append->Bi
open Go.Proofs.Tryz
theorem OwL.trade {α:Type} {d:Dt α} {w:World} {F:List Nat} {b o n c:Nat} {l:List α} (h:OwL d w F (Aa (Ad ⟨b,o,Ac⟩) n c) l) {j:Nat} (hj:j<l.length) :
  ∃ (s:d.S) (Fx:List Nat),d.ow w Fx l[j] s/\(∀ x∈Fx,x∈F)/\b∉Fx/\b∈F/\(∀ i,w.frozen? ⟨b,i,Ac⟩=false)/\(∀ i u,(d.enc.cells (l[j],s))[i]? = Ad u->w.cell? ⟨b,o+j * d.enc.sz+i,Ac⟩=Ad u) /\
   ∀ (w1:World) (y:α) (s':d.S) (Fy:List Nat),Chg Fx w w1->d.ow w1 Fy y s'->(∀ x∈Fy,x∈Fx) -> ∃ F',OwL d (Is w1 b (o+j * d.enc.sz) (d.enc.cells (y,s'))) F' (Aa (Ad ⟨b,o,Ac⟩) n c) (l.set j y)/\(∀ x∈F',x∈F)/\b∈F':=by
 obtain ⟨rs,H,G,hm,hh,ho,rfl,hn⟩:=h;subst hm;have kL:j<rs.length:=by rw [Au] at hj;exact hj
 obtain ⟨b',o',hA,rfl,kG,hf⟩:=hh.at_ Bl;simp only [Option.some.injEq,Addr.mk.injEq,and_true] at hA;obtain ⟨rfl,rfl⟩:=hA;obtain ⟨F1,F2,rfl,h1,h2⟩:=ho.split j Bl;rw [List.drop_eq_getElem_cons kL] at h2;obtain ⟨Fx,F3,rfl,h3,h4⟩:=h2.head;have dP:b∉F1 ++ (Fx ++ F3):=by
  have:=hn
  simp only [List.singleton_append,List.nodup_cons] at this;exact this.1
 have qN:(F1 ++ (Fx ++ F3)).Nodup:=by
  have:=hn
  simp only [List.singleton_append,List.nodup_cons] at this;exact this.2
 have hlj:(rs.map (·.1))[j]=rs[j].1:=by rw [List.getElem_map]
 have uR:∀ x∈F1,x∉Fx:=fun x hx hx2=>(Ay.1 qN).2.2 x hx x (Bf _ hx2) rfl;have hd3:∀ x∈F3,x∉Fx:=fun x hx hx2=>(Ay.1 (Ay.1 qN).2.1).2.2 x hx2 x hx rfl;refine ⟨rs[j].2,Fx,by rw [hlj];exact h3,fun x hx=>by simp [hx],fun hx=>dP (by simp [hx]),Bn,hf,?_,?_⟩
 ·intro i u hu;rw [hlj] at hu;obtain ⟨A',c',hv,_,mW⟩:=hh.rd;simp only [Value.slice.injEq] at hv;obtain ⟨hv1,-,-⟩:=hv;obtain ⟨g',o',bW,_,bV⟩:=mW Bl;rw [<-hv1] at bW;simp only [Option.some.injEq,Addr.mk.injEq,and_true] at bW;obtain ⟨rfl,rfl⟩:=bW;exact bV j kL i u hu
 ·intro w1 y s' Fy hC hy hs;have hh1:=hh.chg hC (fun x hx hx2=>by simp only [Aw] at hx;subst hx;exact dP (by simp [hx2]));have dG:b∉Fy:=fun hx=>dP (by simp [hs b hx]);have hc:=Fn (d.enc.cells (y,s')) w1 b (o+j * d.enc.sz);have hp:=Rd.part hh1.rd j kL (y,s') 0 (d.enc.cells (y,s')) (by rw [d.enc.len];omega) (fun i hi=>by rw [Nat.zero_add];exact List.getElem?_eq_getElem hi) (fun i hi ho=>by rw [d.enc.len] at ho;omega);rw [Nat.add_zero] at hp;have hz:=J8 (d.enc.cells (y,s')) w1 b (o+j * d.enc.sz);have eZ:rs.set j (y,s')=rs.take j ++ ((y,s') :: rs.drop (j+1)):=by rw [List.set_eq_take_append_cons_drop,if_pos kL]
  have hf1:=hh1.2.2;have bY:∀ x,x∈[b]->x=b:=fun x hx=>Aw.1 hx;refine ⟨[b] ++ (F1 ++ (Fy ++ F3)),⟨rs.set j (y,s'),[b],F1 ++ (Fy ++ F3),?_,⟨?_,?_,fun g hg i=>?_⟩,?_,rfl,?_⟩,?_,Bn⟩
  ·rw [List.map_set]
  ·rw [hz];exact hp
  ·have:=hh1.2.1
   rw [Bh];exact this
  ·rw [Jf];exact hf1 g hg i
  ·rw [eZ];refine ((h1.chg hC uR).chg hc (fun x hx fA=>?_)).append (.cons (d.ow_chg hy hc (fun x hx fA=>?_)) ((h4.chg hC hd3).chg hc (fun x hx fA=>?_)))
   ·have e:=bY x fA;subst e;exact dP (Bf _ hx)
   ·have e:=bY x fA;subst e;exact dG hx
   ·have e:=bY x fA;subst e;exact dP (Be _ (Be _ hx))
  ·have hyN:=d.ow_nodup hy;rw [List.singleton_append,List.nodup_cons];refine ⟨fun hx=>?_,?_⟩
   ·simp only [Bi] at hx;rcases hx with hx | hx | hx
    ·exact dP (by simp [hx])
    ·exact dG hx
    ·exact dP (by simp [hx])
   ·rw [Ay] at qN ⊢;obtain ⟨n1,n2,n3⟩:=qN;rw [Ay] at n2;obtain ⟨m1,m2,m3⟩:=n2;refine ⟨n1,?_,fun a ha c hc=>?_⟩
    ·rw [Ay];exact ⟨hyN,m2,fun a ha c hc e=>by subst e;exact hd3 a hc (hs a ha)⟩
    ·rcases Bi.1 hc with hc | hc
     ·exact fun e=>by subst e;exact uR a ha (hs a hc)
     ·exact n3 a ha c (Be _ hc)
  ·intro x hx;simp only [Bi,Aw] at hx ⊢;rcases hx with hx | hx | hx | hx
   ·exact .inl hx
   ·exact .inr (.inl hx)
   ·exact .inr (.inr (.inl (hs x hx)))
   ·exact .inr (.inr (.inr hx))
theorem Aeq {w:World} {F:List Nat} {rs:List (Entry×Ch.S)} (h:Ows Ch w F rs):F=[]:=by
 induction h with
 | nil=>rfl
 | cons h1 _ ih=>rw [show _=[] from h1,ih];rfl
theorem Ago {w:World} {B:Nat} {v:Value} {l:List Entry} (h:RdL Ch w B v l):Rd Cw w B v l:=by
 obtain ⟨rs,rfl,⟨A,c,rfl,hc,hA⟩,_⟩:=h;refine ⟨A,c,by rw [Au],by rw [Au];exact hc,fun hl=>?_⟩;rw [Au] at hl;obtain ⟨b,o,h1,h2,h3⟩:=hA hl;refine ⟨b,o,h1,h2,fun k hk j u hu=>?_⟩;rw [List.getElem_map] at hu;exact h3 k (by rw [Au] at hk;exact hk) j u hu
theorem W9 (w:World):∀ l:List Entry,Ows Ch w [] (l.map fun x=>(x,()))
 | []=>.nil
 | x :: l=>by
  have:=Ows.cons (d:=Ch) (w:=w) (F:=[]) (r:=(x,())) rfl (W9 w l)
  exact this
theorem Se {w:World} {F:List Nat} {v:Value} {l:List Entry} (h:OwL Ch w F v l):Hw Cw w F v l:=by
 have hr:=Ago h.rd;obtain ⟨rs,H,G,hm,hh,ho,rfl,hn⟩:=h;have hG:=Aeq ho;subst hG;obtain ⟨h1,h2,h3⟩:=hh;refine ⟨hr,?_,fun g hg=>h3 g (by simpa using hg)⟩;rw [List.append_nil,h2,<-hm,Au]
theorem Zu {w:World} {F:List Nat} {v:Value} {l:List Entry} (h1:Hw Cw w F v l):OwL Ch w F v l:=by
 obtain ⟨⟨A,c,hv,hc,hA⟩,hF,hf⟩:=id h1;subst hv;refine ⟨l.map fun x=>(x,()),F,[],by rw [List.map_map];exact List.map_id _,⟨⟨A,c,by rw [Au],by rw [Au];exact hc,fun hl=>?_⟩,by rw [Au];exact hF,hf⟩,W9 w l,(List.append_nil _).symm,h1.nodup⟩;rw [Au] at hl;obtain ⟨b,o,h3,h4,h5⟩:=hA hl;refine ⟨b,o,h3,h4,fun k hk j u hu=>?_⟩;rw [List.getElem_map] at hu;exact h5 k (by rw [Au] at hk;exact hk) j u hu
theorem Xa {b:Nat} {w:World} {u0 u1 u2 u3 u4 u5 u6 u7:Value} (X:DBox b [u0,u1,u2,u3,u4,u5,u6,u7] w) {v0 v1 v2 v3 v4 v5:Value} {rest:List Value} :
  (results Tryz.f246 (v0 :: v1 :: v2 :: v3 :: v4 :: v5 :: .pointer (Ad ⟨b,0,Ac⟩) :: rest).toArray).run An w = .ok (.agg #[u0,u1,u2,u3,u4,u5,u6,u7]) w:=by
 have c0:=X.cell 0 _ rfl;have c1:=X.cell 1 _ rfl;have c2:=X.cell 2 _ rfl;have c3:=X.cell 3 _ rfl;have c4:=X.cell 4 _ rfl;have c5:=X.cell 5 _ rfl;have c6:=X.cell 6 _ rfl;have c7:=X.cell 7 _ rfl;simp [results,results246,go_sem,c0,c1,c2,c3,c4,c5,c6,c7]
theorem Sg {l:List Task} {t:Nat} (h:t<l.length) (f:Task->Task):Hc l t f=l.set t (f l[t]):=by
 unfold Hc;rw [List.getD_eq_getElem?_getD,List.getElem?_eq_getElem h];rfl
theorem Vc (r:Run) (s:Sl×Sl) (t:Nat) (now:Int) (w:World) (hl:Dc r<=2000000) (ht:t<r.tasks.length) (hq:-1000000<=r.tasks[t].try_/\r.tasks[t].try_<=2000000000) (gI:0<=now/\now<=2000000000) (hwait:0<=r.plan.wait/\r.plan.wait<=2000000000) (h:Cn.rd w w r s) :
  Calls An 246 #[Hx r s,J Ab t,J Ab now] w (Fa Cn Hx (De r t now) w):=by
 have CP:=Bq (fun W (hW:Below w w W)=>I4 r s W hl (Cn.rd_more (Cn.rd_below h hW) hW.size));obtain ⟨⟨A1,n1,c1⟩,⟨A2,n2,c2⟩⟩:=s;obtain rfl:n2=r.tasks.length:=RdL.at1 (s:=⟨A2,n2,c2⟩) h.2;clear h hl;have jX:(t:Int)<(r.tasks.length:Int):=Bl;have gK:(0:Int)<=(t:Int):=Bl;have X:=(DBox.new 67 [J Ab r.id,J Ab r.plan.prio,J Ab r.plan.most,J Ab r.plan.wait,J Ab r.plan.tasks,Aa A1 n1 c1,J Ab r.state,Aa A2 r.tasks.length c2] w (b:=w) rfl).below ((Br _ _).alloc (Bs _) (.cells #[J Ab 0,J Ab 0,J Ab 0,J Ab 0,J Ab 0,Aa Ac 0 0,J Ab 0,Aa Ac 0 0] 67));have RES:=DBox.new 67 [J Ab 0,J Ab 0,J Ab 0,J Ab 0,J Ab 0,Aa Ac 0 0,J Ab 0,Aa Ac 0 0] (w.alloc (.cells #[J Ab r.id,J Ab r.plan.prio,J Ab r.plan.most,J Ab r.plan.wait,J Ab r.plan.tasks,Aa A1 n1 c1,J Ab r.state,Aa A2 r.tasks.length c2] 67)) (b:=w+1) Bn;have B0:Below w w ((w.alloc (.cells #[J Ab r.id,J Ab r.plan.prio,J Ab r.plan.most,J Ab r.plan.wait,J Ab r.plan.tasks,Aa A1 n1 c1,J Ab r.state,Aa A2 r.tasks.length c2] 67)).alloc (.cells #[J Ab 0,J Ab 0,J Ab 0,J Ab 0,J Ab 0,Aa Ac 0 0,J Ab 0,Aa Ac 0 0] 67)):=by repeat (first | exact Br _ _ | refine Af ?_ Bo _)
 go_enter func246,ntmps246;go_wp2_with fail
 refine (CP.out _ B0).mono ?_;rintro e w1 ⟨⟨⟨A3,n3,c3⟩,⟨A4,n4,c4⟩⟩,F,rfl,o1,nF,b1⟩;obtain ⟨F1,F2,rfl,bI,op,ot⟩:=o1;replace ot:OwL Eu w1 F2 (Aa A4 n4 c4) r.tasks:=ot;obtain rfl:n4=r.tasks.length:=RdL.at1 (s:=⟨A4,n4,c4⟩) ot.rd;have oh:=N2 ot;clear ot CP;obtain ⟨b,o,rfl,aH,d0,d1,d2,d3⟩:=oh.rd.tsk ht;have hBw:=B0.size;have aJ:=oh.block Bl;obtain ⟨rfl,bN,pJ⟩:=aJ;have dP:=nF b Bn;have jY:=X.lt;have dL:=RES.lt;replace B0:=Bv B0 b1;replace X:=X.below b1;replace RES:=RES.below b1;clear b1
 -- the copy's own variable
 go_upto_region 2 with fail
 have OB:=DBox.new 67 [J Ab r.id,J Ab r.plan.prio,J Ab r.plan.most,J Ab r.plan.wait,J Ab r.plan.tasks,Aa A3 n3 c3,J Ab r.state,Aa (Ad ⟨b,o,Ac⟩) r.tasks.length c4] w1 (b:=w1) rfl;have b2:Below w1 w1 (w1.alloc (.cells #[J Ab r.id,J Ab r.plan.prio,J Ab r.plan.most,J Ab r.plan.wait,J Ab r.plan.tasks,Aa A3 n3 c3,J Ab r.state,Aa (Ad ⟨b,o,Ac⟩) r.tasks.length c4] 67)):=Bt;have B2:=Bv B0 b2;replace X:=X.below b2;replace RES:=RES.below b2;replace oh:=oh.below b2;have op2:=Ck.ow_below op b2;have cN:=b2.size;have ow1:=OB.lt;clear op d0 d1 d2 d3;generalize w1.alloc (.cells #[J Ab r.id,J Ab r.plan.prio,J Ab r.plan.most,J Ab r.plan.wait,J Ab r.plan.tasks,Aa A3 n3 c3,J Ab r.state,Aa (Ad ⟨b,o,Ac⟩) r.tasks.length c4] 67)=w2 at *
 have X_:=X.g8;have OB_:=OB.g8;obtain ⟨b',o',bW,bS,d0,d1,d2,d3⟩:=oh.rd.tsk ht;simp only [Option.some.injEq,Addr.mk.injEq,and_true] at bW;obtain ⟨rfl,rfl⟩:=bW;go_upto_region 6 with fail
 have XB:=DBox.new 203 [J Ab 3,J Ab r.tasks[t].need,J Ab (r.tasks[t].try_+1),J Ab (now+r.plan.wait)] w2 (b:=w2) rfl;have b3:Below w2 w2 (w2.alloc (.cells #[J Ab 3,J Ab r.tasks[t].need,J Ab (r.tasks[t].try_+1),J Ab (now+r.plan.wait)] 203)):=Bt;have B3:=Bv B2 b3;clear X_;clear OB_;clear d0 d1 d2 d3 bS;replace OB:=OB.below b3;replace RES:=RES.below b3;replace oh:=oh.below b3;have op3:=Ck.ow_below op2 b3;have fS:=b3.size;have ow2:=XB.lt;clear op2 X;generalize w2.alloc (.cells #[J Ab 3,J Ab r.tasks[t].need,J Ab (r.tasks[t].try_+1),J Ab (now+r.plan.wait)] 203)=w3 at *
 have OB_:=OB.g8;have XB_:=XB.g4;obtain ⟨b',o',bW,bS,d0,d1,d2,d3⟩:=oh.rd.tsk ht;simp only [Option.some.injEq,Addr.mk.injEq,and_true] at bW;obtain ⟨rfl,rfl⟩:=bW;have jJ:=(oh.block Bl).2.2;go_upto_region 7 with fail
 have eV:b∉F1:=fun hx=>(Ay.1 bI).2.2 b hx b Bn rfl;have oh4:Hw Fz ((((w3.setCell ⟨b,o+t * 4,Ac⟩ (J Ab 3)).setCell ⟨b,o+t * 4+1,Ac⟩ (J Ab r.tasks[t].need)).setCell ⟨b,o+t * 4+2,Ac⟩ (J Ab (r.tasks[t].try_+1))).setCell ⟨b,o+t * 4+3,Ac⟩ (J Ab (now+r.plan.wait))) [b] (Aa (Ad ⟨b,o,Ac⟩) r.tasks.length c4) _:=oh.task4 ht ⟨3,r.tasks[t].need,r.tasks[t].try_+1,now+r.plan.wait⟩;have hC:Chg [b] w3 ((((w3.setCell ⟨b,o+t * 4,Ac⟩ (J Ab 3)).setCell ⟨b,o+t * 4+1,Ac⟩ (J Ab r.tasks[t].need)).setCell ⟨b,o+t * 4+2,Ac⟩ (J Ab (r.tasks[t].try_+1))).setCell ⟨b,o+t * 4+3,Ac⟩ (J Ab (now+r.plan.wait))):=(((Chg.setCell w3 b _ _).trans (Chg.setCell _ b _ _)).trans (Chg.setCell _ b _ _)).trans (Chg.setCell _ b _ _);have op4:=Ck.ow_chg op3 hC (fun x hx h=>by simp only [Aw] at h;subst h;exact eV hx);have B4:Below w w ((((w3.setCell ⟨b,o+t * 4,Ac⟩ (J Ab 3)).setCell ⟨b,o+t * 4+1,Ac⟩ (J Ab r.tasks[t].need)).setCell ⟨b,o+t * 4+2,Ac⟩ (J Ab (r.tasks[t].try_+1))).setCell ⟨b,o+t * 4+3,Ac⟩ (J Ab (now+r.plan.wait))):=by
  have hbw2:w<=b:=Bl;repeat (first | (with_reducible exact B3) | refine Ae ?_ Bo _)
 clear OB_;clear XB_;clear d0 d1 d2 d3 bS jJ XB;replace OB:=OB.chg hC (by simp only [Aw];omega);replace RES:=RES.chg hC (by simp only [Aw];omega);have kH:=hC.size;clear hC oh op3;generalize ((((w3.setCell ⟨b,o+t * 4,Ac⟩ (J Ab 3)).setCell ⟨b,o+t * 4+1,Ac⟩ (J Ab r.tasks[t].need)).setCell ⟨b,o+t * 4+2,Ac⟩ (J Ab (r.tasks[t].try_+1))).setCell ⟨b,o+t * 4+3,Ac⟩ (J Ab (now+r.plan.wait)))=w4 at *
 have OB_:=OB.g8;have RES_:=RES.g8;have rf:=RES.free;go_wp2;refine Ak (Xa (DBox.row8 RES rfl _ _ _ _ _ _ _ _)) rfl ⟨(⟨A3,n3,c3⟩,⟨Ad ⟨b,o,Ac⟩,r.tasks.length,c4⟩),F1 ++ [b],rfl,⟨F1,[b],rfl,bI,?_,?_⟩,?_,?_⟩
 ·have e2:w.heap.size+1∉F1:=fun hx=>by have:=nF _ (Bf _ hx);omega
  show Ck.ow _ F1 r.plan _;exact (by (repeat (refine Dt.ow_set Ck ?_ e2 _));exact op4)
 ·have e1:w.heap.size+1∉[b]:=by simp only [Aw];omega
  show OwL Eu _ [b] _ (Hc r.tasks t fun x=>⟨3,x.need,x.try_+1,now+r.plan.wait⟩);rw [Sg ht];exact Hf ((((((((oh4.set (a:=⟨w+1,_,Ac⟩) e1 _).set (a:=⟨w+1,_,Ac⟩) e1 _).set (a:=⟨w+1,_,Ac⟩) e1 _).set (a:=⟨w+1,_,Ac⟩) e1 _).set (a:=⟨w+1,_,Ac⟩) e1 _).set (a:=⟨w+1,_,Ac⟩) e1 _).set (a:=⟨w+1,_,Ac⟩) e1 _).set (a:=⟨w+1,_,Ac⟩) e1 _)
 ·intro x hx
  have:=nF x hx
  omega
 ·repeat (first | (with_reducible exact B4) | refine Ae ?_ Bo _)
def Iu (r:Run) (t:Int):Prop:=Gr r/\(0<=t/\t<r.tasks.length)/\(By r t.toNat).state=3
theorem Sh (r:Run) (s:Sl×Sl) (t:Int) (w:World) (hl:Dc r<=2000000) (h:Cn.rd w w r s) :
  Calls An 293 #[Hx r s,J Ab t] w fun e w'=>e = .returned (.bool (tf (Iu r t)))/\Below w w w':=by
 have CR:=Bq (fun W (hW:Below w w W)=>M5 r s W hl (Cn.rd_more (Cn.rd_below h hW) hW.size));have h2:=Bq (fun W (hW:Below w w W)=>(Vm h.2).below hW);have aK:r.tasks.length<=2000000:=Ai (Cv Ix _) (by unfold Dc at hl;omega);obtain ⟨⟨A1,n1,c1⟩,⟨A2,n2,c2⟩⟩:=s;obtain rfl:n2=r.tasks.length:=RdL.at1 (s:=⟨A2,n2,c2⟩) h.2;clear h hl;have X:=DBox.new 67 [J Ab r.id,J Ab r.plan.prio,J Ab r.plan.most,J Ab r.plan.wait,J Ab r.plan.tasks,Aa A1 n1 c1,J Ab r.state,Aa A2 r.tasks.length c2] w (b:=w) rfl;have B0:Below w w (w.alloc (.cells #[J Ab r.id,J Ab r.plan.prio,J Ab r.plan.most,J Ab r.plan.wait,J Ab r.plan.tasks,Aa A1 n1 c1,J Ab r.state,Aa A2 r.tasks.length c2] 67)):=by repeat (first | exact Br _ _ | refine Af ?_ Bo _)
 cases p0:tf (Gr r);case false =>
  have H:=Bq (show tf (Iu r t)=false from Cm (fun hh=>by rw [Ds hh.1] at p0;cases p0));go_enter func293,ntmps293;go_wp2_with (go_at_call 234;refine (CR.out _ B0).mono ?_;rintro e w1 ⟨rfl,b1⟩;rw [p0])
  go_ret;exact ⟨Bx H.out.symm,Bv B0 b1⟩
 cases p1:inB t 0 ((r.tasks.length:Int) - 1);case false =>
  have H:=Bq (show tf (Iu r t)=false from Cm (fun hh=>by have:=hh.2.1;simp [inB] at p1;omega));go_enter func293,ntmps293;go_wp2_with fail
  refine (CR.out _ B0).mono ?_;rintro e w1 ⟨rfl,b1⟩;rw [p0];replace X:=X.below b1;have X_:=X.g8;go_wp2_with (go_at_call 90;refine (Cl _ _ _ _).mono ?_;rintro e w9 ⟨rfl,rfl⟩;rw [p1])
  go_ret;exact ⟨Bx H.out.symm,Bv B0 b1⟩
 have p2:=Ct.1 p1;obtain ⟨u,rfl⟩:=Aq p2.1;have hu:u<r.tasks.length:=Bl;have huI:((u:Nat):Int)<(r.tasks.length:Int):=Bl;have hu0:(0:Int)<=((u:Nat):Int):=Bl;obtain ⟨b,o,rfl,aH,-⟩:=(h2.out w (Br _ _)).tsk hu;have H:=Bq (show tf (Iu r (u:Int))=(r.tasks[u].state == 3) by
  by_cases h3:r.tasks[u].state=3
  ·rw [Ds (show Iu r (u:Int) from ⟨Ll.1 p0,⟨Bl,Bl⟩,by rw [Ap,Co hu];exact h3⟩)];simp [h3]
  ·rw [Cm (fun hh=>h3 (by have:=hh.2.2;rw [Ap,Co hu] at this;exact this))];simp [h3])
 clear p2;go_enter func293,ntmps293;go_wp2_with fail
 refine (CR.out _ B0).mono ?_;rintro e w1 ⟨rfl,b1⟩;rw [p0];replace X:=X.below b1;have X_:=X.g8;have B1:=Bv B0 b1;obtain ⟨b',o',bW,-,d0,-,-,-⟩:=(h2.out w1 B1).tsk hu;simp only [Option.some.injEq,Addr.mk.injEq,and_true] at bW;obtain ⟨rfl,rfl⟩:=bW;go_wp2_with (go_at_call 90;refine (Cl _ _ _ _).mono ?_;rintro e w9 ⟨rfl,rfl⟩;rw [p1])
 go_ret;exact ⟨Bx H.out.symm,B1⟩
theorem Si {b:Nat} {w:World} {u0 u1 u2 u3 u4 u5 u6 u7:Value} (X:DBox b [u0,u1,u2,u3,u4,u5,u6,u7] w) {v0 v1 v2 v3:Value} {rest:List Value} :
  (results Tryz.f250 (v0 :: v1 :: v2 :: v3 :: .pointer (Ad ⟨b,0,Ac⟩) :: rest).toArray).run An w = .ok (.agg #[u0,u1,u2,u3,u4,u5,u6,u7]) w:=by
 have c0:=X.cell 0 _ rfl;have c1:=X.cell 1 _ rfl;have c2:=X.cell 2 _ rfl;have c3:=X.cell 3 _ rfl;have c4:=X.cell 4 _ rfl;have c5:=X.cell 5 _ rfl;have c6:=X.cell 6 _ rfl;have c7:=X.cell 7 _ rfl;simp [results,results250,go_sem,c0,c1,c2,c3,c4,c5,c6,c7]
theorem Hw.taskSt' {w:World} {F:List Nat} {b o n c:Nat} {l:List Task} {j:Nat} {y:Task} (h:Hw Fz w F (Aa (Ad ⟨b,o,Ac⟩) n c) (l.set j y)) (hj:j<l.length) (st:Int) :
  Hw Fz (w.setCell ⟨b,o+j * 4,Ac⟩ (J Ab st)) F (Aa (Ad ⟨b,o,Ac⟩) n c) (l.set j ⟨st,y.need,y.try_,y.until_⟩):=by
 have:=h.taskState (j:=j) (by rw [Bh];exact hj) st
 rw [List.getElem_set_self,List.set_set] at this;exact this
theorem M6 (r:Run) (s:Sl×Sl) (u:Nat) (w:World) (hl:Dc r<=2000000) (hR:Iu r u) (h:Cn.rd w w r s) :
  Calls An 250 #[Hx r s,J Ab u] w (Fa Cn Hx (Dm r u) w):=by
 have CP:=Bq (fun W (hW:Below w w W)=>I4 r s W hl (Cn.rd_more (Cn.rd_below h hW) hW.size));have CR:=Bq (fun W (hW:Below w w W)=>Sh r s u W hl (Cn.rd_more (Cn.rd_below h hW) hW.size));rw [Ds hR] at CR;have ht:u<r.tasks.length:=by have:=hR.2.1.2;omega
 have aK:r.tasks.length<=2000000:=Ai (Cv Ix _) (by unfold Dc at hl;omega);have cU:=Bq (Co ht);obtain ⟨⟨A1,n1,c1⟩,⟨A2,n2,c2⟩⟩:=s;obtain rfl:n2=r.tasks.length:=RdL.at1 (s:=⟨A2,n2,c2⟩) h.2;clear h hl hR;have jX:(u:Int)<(r.tasks.length:Int):=Bl;have gK:(0:Int)<=(u:Int):=Bl;have X:=(DBox.new 67 [J Ab r.id,J Ab r.plan.prio,J Ab r.plan.most,J Ab r.plan.wait,J Ab r.plan.tasks,Aa A1 n1 c1,J Ab r.state,Aa A2 r.tasks.length c2] w (b:=w) rfl).below ((Br _ _).alloc (Bs _) (.cells #[J Ab 0,J Ab 0,J Ab 0,J Ab 0,J Ab 0,Aa Ac 0 0,J Ab 0,Aa Ac 0 0] 67));have RES:=DBox.new 67 [J Ab 0,J Ab 0,J Ab 0,J Ab 0,J Ab 0,Aa Ac 0 0,J Ab 0,Aa Ac 0 0] (w.alloc (.cells #[J Ab r.id,J Ab r.plan.prio,J Ab r.plan.most,J Ab r.plan.wait,J Ab r.plan.tasks,Aa A1 n1 c1,J Ab r.state,Aa A2 r.tasks.length c2] 67)) (b:=w+1) Bn;have B0:Below w w ((w.alloc (.cells #[J Ab r.id,J Ab r.plan.prio,J Ab r.plan.most,J Ab r.plan.wait,J Ab r.plan.tasks,Aa A1 n1 c1,J Ab r.state,Aa A2 r.tasks.length c2] 67)).alloc (.cells #[J Ab 0,J Ab 0,J Ab 0,J Ab 0,J Ab 0,Aa Ac 0 0,J Ab 0,Aa Ac 0 0] 67)):=by repeat (first | exact Br _ _ | refine Af ?_ Bo _)
 go_enter func250,ntmps250;go_wp2_with fail
 refine (CP.out _ B0).mono ?_;rintro e w1 ⟨⟨⟨A3,n3,c3⟩,⟨A4,n4,c4⟩⟩,F,rfl,o1,nF,b1⟩;obtain ⟨F1,F2,rfl,bI,op,ot⟩:=o1;replace ot:OwL Eu w1 F2 (Aa A4 n4 c4) r.tasks:=ot;obtain rfl:n4=r.tasks.length:=RdL.at1 (s:=⟨A4,n4,c4⟩) ot.rd;have oh:=N2 ot;clear ot CP;obtain ⟨b,o,rfl,aH,d0,d1,d2,d3⟩:=oh.rd.tsk ht;clear d0 d1 d2 d3;have hBw:=B0.size;obtain ⟨rfl,bN,pJ⟩:=oh.block Bl;have dP:=nF b Bn;have jY:=X.lt;have dL:=RES.lt;replace B0:=Bv B0 b1;replace X:=X.below b1;replace RES:=RES.below b1;clear b1;go_upto_region 2 with fail
 have OB:=DBox.new 67 [J Ab r.id,J Ab r.plan.prio,J Ab r.plan.most,J Ab r.plan.wait,J Ab r.plan.tasks,Aa A3 n3 c3,J Ab r.state,Aa (Ad ⟨b,o,Ac⟩) r.tasks.length c4] w1 (b:=w1) rfl;have b2:Below w1 w1 (w1.alloc (.cells #[J Ab r.id,J Ab r.plan.prio,J Ab r.plan.most,J Ab r.plan.wait,J Ab r.plan.tasks,Aa A3 n3 c3,J Ab r.state,Aa (Ad ⟨b,o,Ac⟩) r.tasks.length c4] 67)):=Bt;have B2:=Bv B0 b2;replace X:=X.below b2;replace RES:=RES.below b2;replace oh:=oh.below b2;have op2:=Ck.ow_below op b2;have cN:=b2.size;have ow1:=OB.lt;clear op;generalize w1.alloc (.cells #[J Ab r.id,J Ab r.plan.prio,J Ab r.plan.most,J Ab r.plan.wait,J Ab r.plan.tasks,Aa A3 n3 c3,J Ab r.state,Aa (Ad ⟨b,o,Ac⟩) r.tasks.length c4] 67)=w2 at *
 have X_:=X.g8;go_wp2_with fail
 refine (CR.out _ B2).mono ?_;rintro e w3 ⟨rfl,b3⟩;have B3:=Bv B2 b3;clear X_;replace X:=X.below b3;replace RES:=RES.below b3;replace OB:=OB.below b3;replace oh:=oh.below b3;have op3:=Ck.ow_below op2 b3;have fS:=b3.size;clear op2 CR b3;have X_:=X.g8;have OB_:=OB.g8;obtain ⟨b',o',bW,bS,d0,d1,d2,d3⟩:=oh.rd.tsk ht;simp only [Option.some.injEq,Addr.mk.injEq,and_true] at bW;obtain ⟨rfl,rfl⟩:=bW;have jJ:=(oh.block Bl).2.2;have eV:b∉F1:=fun hx=>(Ay.1 bI).2.2 b hx b Bn rfl;go_upto_region 6 with fail
 have oh4:Hw Fz ((w3.setCell ⟨b,o+u * 4+3,Ac⟩ (J Ab 0)).setCell ⟨b,o+u * 4,Ac⟩ (J Ab 2)) [b] (Aa (Ad ⟨b,o,Ac⟩) r.tasks.length c4) (r.tasks.set u ⟨2,r.tasks[u].need,r.tasks[u].try_,0⟩):=(oh.taskUntil ht 0).taskSt' ht 2;have hC:Chg [b] w3 ((w3.setCell ⟨b,o+u * 4+3,Ac⟩ (J Ab 0)).setCell ⟨b,o+u * 4,Ac⟩ (J Ab 2)):=(Chg.setCell w3 b _ _).trans (Chg.setCell _ b _ _);have op4:=Ck.ow_chg op3 hC (fun x hx h=>by simp only [Aw] at h;subst h;exact eV hx);have B4:Below w w ((w3.setCell ⟨b,o+u * 4+3,Ac⟩ (J Ab 0)).setCell ⟨b,o+u * 4,Ac⟩ (J Ab 2)):=by
  repeat (first | (with_reducible exact B3) | refine Ae ?_ Bo _)
 clear OB_;clear X_;clear d0 d1 d2 d3 bS jJ;replace OB:=OB.chg hC (by simp only [Aw];omega);replace X:=X.chg hC (by simp only [Aw];omega);replace RES:=RES.chg hC (by simp only [Aw];omega);have kH:=hC.size;clear hC oh op3;generalize ((w3.setCell ⟨b,o+u * 4+3,Ac⟩ (J Ab 0)).setCell ⟨b,o+u * 4,Ac⟩ (J Ab 2))=w4 at *
 have OB_:=OB.g8;have RES_:=RES.g8;have X_:=X.g8;have rf:=RES.free;have uJ:u<(r.tasks.set u ⟨2,r.tasks[u].need,r.tasks[u].try_,0⟩).length:=by rw [Bh];exact ht
 obtain ⟨b',o',bW,bS,d0,d1,d2,d3⟩:=oh4.rd.tsk uJ;simp only [Option.some.injEq,Addr.mk.injEq,and_true] at bW;obtain ⟨rfl,rfl⟩:=bW;rw [List.getElem_set_self] at d0 d1 d2 d3;have jJ:=(oh4.block Bl).2.2;by_cases q:r.tasks[u].try_<r.plan.most
 ·have H:=Bq (show Dm r u=⟨r.id,r.plan,r.state,r.tasks.set u ⟨2,r.tasks[u].need,r.tasks[u].try_,0⟩⟩ by unfold Dm;rw [if_pos (by rw [cU.out];exact q),Sg ht]);have aN:=Df w4;have cL:b<w4:=Bl;refine Bz Bm Bm ?_;repeat (go_big_quiet_step (fail))
  refine Al ?_;rintro w5 ⟨⟨_,b5⟩,rfl⟩;clear aN d0 d1 d2 d3 bS jJ;clear OB_;clear RES_;clear X_;replace OB:=OB.below b5;replace RES:=RES.below b5;clear X;have oh5:=oh4.below b5;have op5:=Ck.ow_below op4 b5;have B5:=Bv B4 b5;have mK:=b5.size;clear rf;have OB_:=OB.g8;have RES_:=RES.g8;have rf:=RES.free;go_wp2;refine Ak (Si (DBox.row8 RES rfl _ _ _ _ _ _ _ _)) rfl ⟨(⟨A3,n3,c3⟩,⟨Ad ⟨b,o,Ac⟩,r.tasks.length,c4⟩),F1 ++ [b],by rw [H.out],⟨F1,[b],rfl,bI,?_,?_⟩,?_,?_⟩
  ·have e2:w.heap.size+1∉F1:=fun hx=>by have:=nF _ (Bf _ hx);omega
   rw [H.out];show Ck.ow _ F1 r.plan _;exact (by (repeat (refine Dt.ow_set Ck ?_ e2 _));exact op5)
  ·have e1:w.heap.size+1∉[b]:=by simp only [Aw];omega
   rw [H.out];show OwL Eu _ [b] _ (r.tasks.set u ⟨2,r.tasks[u].need,r.tasks[u].try_,0⟩);exact Hf ((((((((oh5.set (a:=⟨w+1,_,Ac⟩) e1 _).set (a:=⟨w+1,_,Ac⟩) e1 _).set (a:=⟨w+1,_,Ac⟩) e1 _).set (a:=⟨w+1,_,Ac⟩) e1 _).set (a:=⟨w+1,_,Ac⟩) e1 _).set (a:=⟨w+1,_,Ac⟩) e1 _).set (a:=⟨w+1,_,Ac⟩) e1 _).set (a:=⟨w+1,_,Ac⟩) e1 _)
  ·intro x hx
   have:=nF x hx
   omega
  ·repeat (first | (with_reducible exact B5) | refine Ae ?_ Bo _)
 ·have H:=Bq (show Dm r u=C8 ⟨r.id,r.plan,r.state,r.tasks.set u ⟨5,r.tasks[u].need,r.tasks[u].try_,0⟩⟩ 3 by unfold Dm;rw [if_neg (by rw [cU.out];exact q),Sg ht]);have aN:=Df w4;have cL:b<w4:=Bl;refine Bz Bm Bm ?_;repeat (go_big_quiet_step (fail))
  refine Al ?_;rintro w5 ⟨⟨_,b5⟩,rfl⟩;clear aN d0 d1 d2 d3 bS jJ;clear OB_;clear RES_;clear X_;replace OB:=OB.below b5;replace RES:=RES.below b5;clear X;have oh5:=oh4.below b5;have op5:=Ck.ow_below op4 b5;have B5:=Bv B4 b5;have mK:=b5.size;clear rf;have OB_:=OB.g8;obtain ⟨b',o',bW,bS,d0,d1,d2,d3⟩:=oh5.rd.tsk uJ;simp only [Option.some.injEq,Addr.mk.injEq,and_true] at bW;obtain ⟨rfl,rfl⟩:=bW;have jJ:=(oh5.block Bl).2.2;go_upto_region 9 with fail
  have oh6:=oh5.taskSt' ht 5;have hC:=Chg.setCell w5 b (o+u * 4) (J Ab 5);have op6:=Ck.ow_chg op5 hC (fun x hx h=>by simp only [Aw] at h;subst h;exact eV hx);have B6:Below w w (w5.setCell ⟨b,o+u * 4,Ac⟩ (J Ab 5)):=by
   repeat (first | (with_reducible exact B5) | refine Ae ?_ Bo _)
  clear OB_;clear d0 d1 d2 d3 bS jJ;replace OB:=OB.chg hC (by simp only [Aw];omega);replace RES:=RES.chg hC (by simp only [Aw];omega);have nY:=hC.size;generalize w5.setCell ⟨b,o+u * 4,Ac⟩ (J Ab 5)=w6 at *
  have OB_:=OB.g8;have hlen6:=Bq (show (r.tasks.set u ⟨5,r.tasks[u].need,r.tasks[u].try_,0⟩).length=r.tasks.length from Bh);have CL:=Bq (Qs ⟨r.id,r.plan,r.state,r.tasks.set u ⟨5,r.tasks[u].need,r.tasks[u].try_,0⟩⟩ ⟨A3,n3,c3⟩ 3 b o c4 [b] w6 (by show (r.tasks.set u _).length<=2000000;rw [Bh];omega) (by show 0<(r.tasks.set u _).length;rw [Bh];omega) (by show Hw Fz w6 [b] (Aa _ (r.tasks.set u _).length c4) _;rw [Bh];exact oh6));unfold Te at CL;dsimp only at CL;rw [hlen6.out] at CL;go_wp2_with fail
  refine CL.out.mono ?_;rintro e w7 ⟨rfl,oh7,c7⟩;have op7:=Ck.ow_chg op6 c7 (fun x hx h=>by simp only [Aw] at h;subst h;exact eV hx);have B7:Below w w w7:=B6.trans (c7.below Bl (fun x hx=>by simp only [Aw] at hx;omega));clear OB_;replace RES:=RES.chg c7 (by simp only [Aw];omega);have RES_:=RES.g8;have rf:=RES.free;go_wp2;refine Ak (Si (DBox.row8 RES rfl _ _ _ _ _ _ _ _)) rfl ⟨(⟨A3,n3,c3⟩,⟨Ad ⟨b,o,Ac⟩,r.tasks.length,c4⟩),F1 ++ [b],by rw [H.out],⟨F1,[b],rfl,bI,?_,?_⟩,?_,?_⟩
  ·have e2:w.heap.size+1∉F1:=fun hx=>by have:=nF _ (Bf _ hx);omega
   rw [H.out];show Ck.ow _ F1 r.plan _;exact (by (repeat (refine Dt.ow_set Ck ?_ e2 _));exact op7)
  ·have e1:w.heap.size+1∉[b]:=by simp only [Aw];omega
   rw [H.out];show OwL Eu _ [b] _ ((C8 ⟨r.id,r.plan,r.state,r.tasks.set u ⟨5,r.tasks[u].need,r.tasks[u].try_,0⟩⟩ 3).tasks);exact Hf ((((((((oh7.set (a:=⟨w+1,_,Ac⟩) e1 _).set (a:=⟨w+1,_,Ac⟩) e1 _).set (a:=⟨w+1,_,Ac⟩) e1 _).set (a:=⟨w+1,_,Ac⟩) e1 _).set (a:=⟨w+1,_,Ac⟩) e1 _).set (a:=⟨w+1,_,Ac⟩) e1 _).set (a:=⟨w+1,_,Ac⟩) e1 _).set (a:=⟨w+1,_,Ac⟩) e1 _)
  ·intro x hx
   have:=nF x hx
   omega
  ·repeat (first | (with_reducible exact B7) | refine Ae ?_ Bo _)
theorem Ac1 {b:Nat} {w:World} {u0 u1 u2 u3 u4 u5 u6 u7:Value} (X:DBox b [u0,u1,u2,u3,u4,u5,u6,u7] w) {v0 v1:Value} {rest:List Value} :
  (results Tryz.f252 (v0 :: v1 :: .pointer (Ad ⟨b,0,Ac⟩) :: rest).toArray).run An w = .ok (.agg #[u0,u1,u2,u3,u4,u5,u6,u7]) w:=by
 have c0:=X.cell 0 _ rfl;have c1:=X.cell 1 _ rfl;have c2:=X.cell 2 _ rfl;have c3:=X.cell 3 _ rfl;have c4:=X.cell 4 _ rfl;have c5:=X.cell 5 _ rfl;have c6:=X.cell 6 _ rfl;have c7:=X.cell 7 _ rfl;simp [results,results252,go_sem,c0,c1,c2,c3,c4,c5,c6,c7]
theorem Aa3 (r:Run) (s:Sl×Sl) (w:World) (hl:Dc r<=2000000) (hR:Gr r) (hS:r.state=1) (hp:0<r.tasks.length) (h:Cn.rd w w r s) :
  Calls An 252 #[Hx r s] w (Fa Cn Hx (C8 r 4) w):=by
 have CP:=Bq (fun W (hW:Below w w W)=>I4 r s W hl (Cn.rd_more (Cn.rd_below h hW) hW.size));have CR:=Bq (fun W (hW:Below w w W)=>M5 r s W hl (Cn.rd_more (Cn.rd_below h hW) hW.size));rw [Ds hR] at CR;have aK:r.tasks.length<=2000000:=Ai (Cv Ix _) (by unfold Dc at hl;omega);obtain ⟨⟨A1,n1,c1⟩,⟨A2,n2,c2⟩⟩:=s;obtain rfl:n2=r.tasks.length:=RdL.at1 (s:=⟨A2,n2,c2⟩) h.2;clear h hl hR;have bG:(r.state != 1)=false:=by simp [hS]
 clear hS;have X:=(DBox.new 67 [J Ab r.id,J Ab r.plan.prio,J Ab r.plan.most,J Ab r.plan.wait,J Ab r.plan.tasks,Aa A1 n1 c1,J Ab r.state,Aa A2 r.tasks.length c2] w (b:=w) rfl).below ((Br _ _).alloc (Bs _) (.cells #[J Ab 0,J Ab 0,J Ab 0,J Ab 0,J Ab 0,Aa Ac 0 0,J Ab 0,Aa Ac 0 0] 67));have RES:=DBox.new 67 [J Ab 0,J Ab 0,J Ab 0,J Ab 0,J Ab 0,Aa Ac 0 0,J Ab 0,Aa Ac 0 0] (w.alloc (.cells #[J Ab r.id,J Ab r.plan.prio,J Ab r.plan.most,J Ab r.plan.wait,J Ab r.plan.tasks,Aa A1 n1 c1,J Ab r.state,Aa A2 r.tasks.length c2] 67)) (b:=w+1) Bn;have B0:Below w w ((w.alloc (.cells #[J Ab r.id,J Ab r.plan.prio,J Ab r.plan.most,J Ab r.plan.wait,J Ab r.plan.tasks,Aa A1 n1 c1,J Ab r.state,Aa A2 r.tasks.length c2] 67)).alloc (.cells #[J Ab 0,J Ab 0,J Ab 0,J Ab 0,J Ab 0,Aa Ac 0 0,J Ab 0,Aa Ac 0 0] 67)):=by repeat (first | exact Br _ _ | refine Af ?_ Bo _)
 go_enter func252,ntmps252;go_wp2_with fail
 refine (CP.out _ B0).mono ?_;rintro e w1 ⟨⟨⟨A3,n3,c3⟩,⟨A4,n4,c4⟩⟩,F,rfl,o1,nF,b1⟩;obtain ⟨F1,F2,rfl,bI,op,ot⟩:=o1;replace ot:OwL Eu w1 F2 (Aa A4 n4 c4) r.tasks:=ot;obtain rfl:n4=r.tasks.length:=RdL.at1 (s:=⟨A4,n4,c4⟩) ot.rd;have oh:=N2 ot;clear ot CP;obtain ⟨b,o,rfl,aH,d0,d1,d2,d3⟩:=oh.rd.tsk hp;clear d0 d1 d2 d3;have hBw:=B0.size;obtain ⟨rfl,bN,pJ⟩:=oh.block hp;have dP:=nF b Bn;have jY:=X.lt;have dL:=RES.lt;replace B0:=Bv B0 b1;replace X:=X.below b1;replace RES:=RES.below b1;clear b1;go_upto_region 2 with fail
 have OB:=DBox.new 67 [J Ab r.id,J Ab r.plan.prio,J Ab r.plan.most,J Ab r.plan.wait,J Ab r.plan.tasks,Aa A3 n3 c3,J Ab r.state,Aa (Ad ⟨b,o,Ac⟩) r.tasks.length c4] w1 (b:=w1) rfl;have b2:Below w1 w1 (w1.alloc (.cells #[J Ab r.id,J Ab r.plan.prio,J Ab r.plan.most,J Ab r.plan.wait,J Ab r.plan.tasks,Aa A3 n3 c3,J Ab r.state,Aa (Ad ⟨b,o,Ac⟩) r.tasks.length c4] 67)):=Bt;have B2:=Bv B0 b2;replace X:=X.below b2;replace RES:=RES.below b2;replace oh:=oh.below b2;have op2:=Ck.ow_below op b2;have cN:=b2.size;have ow1:=OB.lt;clear op;generalize w1.alloc (.cells #[J Ab r.id,J Ab r.plan.prio,J Ab r.plan.most,J Ab r.plan.wait,J Ab r.plan.tasks,Aa A3 n3 c3,J Ab r.state,Aa (Ad ⟨b,o,Ac⟩) r.tasks.length c4] 67)=w2 at *
 have X_:=X.g8;go_wp2_with fail
 refine (CR.out _ B2).mono ?_;rintro e w3 ⟨rfl,b3⟩;have B3:=Bv B2 b3;clear X_;replace X:=X.below b3;replace RES:=RES.below b3;replace OB:=OB.below b3;replace oh:=oh.below b3;have op3:=Ck.ow_below op2 b3;have fS:=b3.size;clear op2 CR b3;have X_:=X.g8;have OB_:=OB.g8;have eV:b∉F1:=fun hx=>(Ay.1 bI).2.2 b hx b Bn rfl;have CL:=Bq (Qs r ⟨A3,n3,c3⟩ 4 b o c4 [b] w3 aK hp oh);unfold Te at CL;go_wp2_with fail
 refine CL.out.mono ?_;rintro e w7 ⟨rfl,oh7,c7⟩;have op7:=Ck.ow_chg op3 c7 (fun x hx h=>by simp only [Aw] at h;subst h;exact eV hx);have B7:Below w w w7:=B3.trans (c7.below Bl (fun x hx=>by simp only [Aw] at hx;omega));clear OB_;clear X_;replace RES:=RES.chg c7 (by simp only [Aw];omega);have RES_:=RES.g8;have rf:=RES.free;go_wp2;refine Ak (Ac1 (DBox.row8 RES rfl _ _ _ _ _ _ _ _)) rfl ⟨(⟨A3,n3,c3⟩,⟨Ad ⟨b,o,Ac⟩,r.tasks.length,c4⟩),F1 ++ [b],rfl,⟨F1,[b],rfl,bI,?_,?_⟩,?_,?_⟩
 ·have e2:w.heap.size+1∉F1:=fun hx=>by have:=nF _ (Bf _ hx);omega
  show Ck.ow _ F1 r.plan _;exact (by (repeat (refine Dt.ow_set Ck ?_ e2 _));exact op7)
 ·have e1:w.heap.size+1∉[b]:=by simp only [Aw];omega
  show OwL Eu _ [b] _ (C8 r 4).tasks;exact Hf ((((((((oh7.set (a:=⟨w+1,_,Ac⟩) e1 _).set (a:=⟨w+1,_,Ac⟩) e1 _).set (a:=⟨w+1,_,Ac⟩) e1 _).set (a:=⟨w+1,_,Ac⟩) e1 _).set (a:=⟨w+1,_,Ac⟩) e1 _).set (a:=⟨w+1,_,Ac⟩) e1 _).set (a:=⟨w+1,_,Ac⟩) e1 _).set (a:=⟨w+1,_,Ac⟩) e1 _)
 ·intro x hx
  have:=nF x hx
  omega
 ·repeat (first | (with_reducible exact B7) | refine Ae ?_ Bo _)
section
def Gq (y:Yard) (id task try_:Int):Prop :=
 0<=Db y id/\(0<=task/\task<(Ij y id).tasks.length)/\(By (Ij y id) task.toNat).state=3/\(By (Ij y id) task.toNat).try_=try_
theorem Yz (y:Yard) (s:Sl×Sl) (id tk tr:Int) (w:World) (hl:Cf y<=2000000) (h:Bu.rd w w y s) :
  Calls An 292 #[Dh y s,J Ab id,J Ab tk,J Ab tr] w fun e' w'=>e' = .returned (.bool (tf (Gq y id tk tr)))/\Below w w w':=by
 have HR:=Bq (show ∀ W,Below w w W->Bu.rd W W y s from fun W hW=>Bu.rd_more (Bu.rd_below h hW) hW.size);obtain ⟨⟨A1,n1,c1⟩,⟨A2,n2,c2⟩⟩:=s;obtain rfl:n2=y.runs.length:=RdL.at1 (s:=⟨A2,n2,c2⟩) h.2;have h2:RdL Cn w w (Aa A2 y.runs.length c2) y.runs:=h.2;have eJ:y.runs.length<=2000000:=Ai (Cv Dc _) (by unfold Cf at hl;omega);have X:=DBox.new 31 [J Ab y.now,J Ab y.seq,Aa A1 n1 c1,Aa A2 y.runs.length c2] w (b:=w) rfl;have B0:Below w w (w.alloc (.cells #[J Ab y.now,J Ab y.seq,Aa A1 n1 c1,Aa A2 y.runs.length c2] 31)):=by repeat (first | exact Br _ _ | refine Af ?_ Bo _)
 have C:=Fo y (⟨A1,n1,c1⟩,⟨A2,y.runs.length,c2⟩) id (w.alloc (.cells #[J Ab y.now,J Ab y.seq,Aa A1 n1 c1,Aa A2 y.runs.length c2] 31)) hl (HR.out _ B0);clear h;rcases Ek y id with hr | ⟨k,hk,hr⟩
 ·have H:=Bq (show tf (Gq y id tk tr)=false from Cm (fun hh=>by have:=hh.1;omega));rw [hr] at C;clear hr;go_enter func292,ntmps292;go_wp2_with fail
  generalize (w.alloc (.cells #[J Ab y.now,J Ab y.seq,Aa A1 n1 c1,Aa A2 y.runs.length c2] 31))=W at *
  refine C.mono ?_;rintro e1 w1 ⟨rfl,b1⟩;go_wp2;go_ret;exact ⟨Bx H.out.symm,Bv B0 b1⟩
 ·have pC:=Fc hl hk;have HR2:=Bq hr;rw [hr] at C;clear hr;have HK:=Bq (Ey hk HR2.out);go_enter func292,ntmps292;go_wp2_with fail
  generalize (w.alloc (.cells #[J Ab y.now,J Ab y.seq,Aa A1 n1 c1,Aa A2 y.runs.length c2] 31))=W at *
  refine C.mono ?_;rintro e1 w1 ⟨rfl,b1⟩;replace X:=X.below b1;have X_:=X.g4;replace B0:=Bv B0 b1;obtain ⟨b,o,⟨s1,⟨At,nt,ct⟩⟩,eG,aH,bP,c0_,c1_,c2_,c3_,c4_,c5_,c6_,c7_⟩:=(h2.below B0).run hk;subst eG;obtain rfl:nt=y.runs[k].tasks.length:=RdL.at1 (s:=⟨At,nt,ct⟩) bP.2;have h3:RdL Eu w1 w (Aa At y.runs[k].tasks.length ct) y.runs[k].tasks:=bP.2;have gJ:(k:Int)<(y.runs.length:Int):=Bl;have hk00:(0:Int)<=(k:Int):=Bl;have dF:decide ((0:Int)<=(k:Int))=true:=decide_eq_true Bl;have bG:b<w1:=Aj aH B0.size;have wr1:Ab.wrap ((y.runs[k].tasks.length:Int) - 1)=(y.runs[k].tasks.length:Int) - 1:=Ar _ Bl;cases q:inB tk 0 ((y.runs[k].tasks.length:Int) - 1)
  ·have H:=Bq (show tf (Gq y id tk tr)=false from Cm (fun hh=>by
    have h5:=hh.2.1;rw [HK.out] at h5
    have:=Ct.2 (show 0<=tk/\tk<=(y.runs[k].tasks.length:Int) - 1 by omega)
    rw [q] at this;cases this))
   go_wp2_with (go_at_call 90;refine (Cl _ _ _ _).mono ?_;rintro e w9 ⟨rfl,rfl⟩;rw [q])
   go_ret;exact ⟨Bx H.out.symm,B0⟩
  ·have qq:=Ct.1 q;obtain ⟨t,rfl⟩:=Aq qq.1;have ht:t<y.runs[k].tasks.length:=Bl;obtain ⟨b',o',_,pP,bS,_,d0,d1,d2,d3⟩:=h3.task ht;subst pP;have cN:b'<w1:=Aj bS B0.size;have jX:(t:Int)<(y.runs[k].tasks.length:Int):=Bl;have gK:(0:Int)<=(t:Int):=Bl;have H:=Bq (show tf (Gq y id t tr)=((y.runs[k].tasks[t].state == 3) && (y.runs[k].tasks[t].try_ == tr)) by
    rw [Bool.eq_iff_iff,Ll,Bool.and_eq_true,beq_iff_eq,beq_iff_eq];unfold Gq;rw [HK.out,Ap,Co ht,HR2.out];constructor
    ·intro hh;exact hh.2.2
    ·intro hh;exact ⟨Bl,⟨Bl,Bl⟩,hh⟩)
   clear qq;generalize y.runs[k].tasks[t].state=st at *
   generalize y.runs[k].tasks[t].try_=ty at *
   cases q2:(st == 3)
   ·go_wp2_with (go_at_call 90;refine (Cl _ _ _ _).mono ?_;rintro e w9 ⟨rfl,rfl⟩;rw [q])
    go_ret;exact ⟨Bx (by rw [H.out,q2];rfl),B0⟩
   ·go_wp2_with (go_at_call 90;refine (Cl _ _ _ _).mono ?_;rintro e w9 ⟨rfl,rfl⟩;rw [q])
    go_ret;exact ⟨Bx (by rw [H.out,q2];rfl),B0⟩
open Classical in
noncomputable def G6 (y:Yard) (id tk tr:Int):Int:=if ¬ Dn y then 8 else if Db y id<0 then 10 else if ¬ Gq y id tk tr then 11 else 0
theorem Ud (y:Yard) (s:Sl×Sl) (id tk tr:Int) (w:World) (hl:Cf y<=2000000) (h:Bu.rd w w y s) :
  Calls An 247 #[Dh y s,J Ab id,J Ab tk,J Ab tr] w fun e' w'=>e' = .returned (J Ab (G6 y id tk tr))/\Below w w w':=by
 have HR:=Bq (show ∀ W,Below w w W->Bu.rd W W y s from fun W hW=>Bu.rd_more (Bu.rd_below h hW) hW.size);obtain ⟨⟨A1,n1,c1⟩,⟨A2,n2,c2⟩⟩:=s;have CY:=Bq (fun W hW=>G9 y (⟨A1,n1,c1⟩,⟨A2,n2,c2⟩) W hl (HR.out W hW));have CA:=Bq (fun W hW=>Fo y (⟨A1,n1,c1⟩,⟨A2,n2,c2⟩) id W hl (HR.out W hW));have CH:=Bq (fun W hW=>Yz y (⟨A1,n1,c1⟩,⟨A2,n2,c2⟩) id tk tr W hl (HR.out W hW));clear h;obtain ⟨W,aG,X,B0⟩:=bx1 w 31 [J Ab y.now,J Ab y.seq,Aa A1 n1 c1,Aa A2 n2 c2];go_enter func247,ntmps247;go_wp2_with fail
 rw [<-aG.out];clear aG;refine (CY.out _ B0).mono ?_;rintro e1 w1 ⟨rfl,b1⟩;replace X:=X.below b1;have X_:=X.g4;replace B0:=Bv B0 b1;by_cases p0:Dn y;case neg =>
  have H:=Bq (show G6 y id tk tr=8 from if_pos p0);rw [Cm p0];clear p0;go_wp2;go_ret;exact ⟨by rw [H.out];rfl,B0⟩
 rw [Ds p0];go_wp2_with fail
 refine (CA.out _ B0).mono ?_;rintro e1 w2 ⟨rfl,b2⟩;clear X_;replace X:=X.below b2;have X_:=X.g4;replace B0:=Bv B0 b2;by_cases p1:Db y id<0
 ·have H:=Bq (show G6 y id tk tr=10 by unfold G6;rw [if_neg (fun h=>h p0),if_pos p1]);clear p0;go_wp2;go_ret;exact ⟨by rw [H.out];rfl,B0⟩
 go_wp2_with fail
 refine (CH.out _ B0).mono ?_;rintro e1 w3 ⟨rfl,b3⟩;replace B0:=Bv B0 b3;by_cases p2:Gq y id tk tr
 ·have H:=Bq (show G6 y id tk tr=0 by unfold G6;rw [if_neg (fun h=>h p0),if_neg Bl,if_neg (fun h=>h p2)]);rw [Ds p2];clear p0 p2;go_wp2;go_ret;exact ⟨by rw [H.out];rfl,B0⟩
 ·have H:=Bq (show G6 y id tk tr=11 by unfold G6;rw [if_neg (fun h=>h p0),if_neg Bl,if_pos p2]);rw [Cm p2];clear p0 p2;go_wp2;go_ret;exact ⟨by rw [H.out];rfl,B0⟩
end
section
def I7 (z:Yard) (c:Int) (w:World) (e:Ending) (w':World):Prop :=
 ∃ s F,e = .returned (.tuple #[Dh z s,J Ab c])/\Bu.ow w' F z s/\(∀ b∈F,w<=b)/\Below w w w'
theorem Ac2 {b:Nat} {w:World} {u0 u1 u2 u3:Value} (X:DBox b [u0,u1,u2,u3] w) {v0 v1 v2 v3 v4 v5 v6 v7 v9:Value} {rest:List Value} :
  (results Tryz.f167 (v0 :: v1 :: v2 :: v3 :: v4 :: v5 :: v6 :: v7 :: .pointer (Ad ⟨b,0,Ac⟩) :: v9 :: rest).toArray).run An w = .ok (.tuple #[.agg #[u0,u1,u2,u3],v9]) w:=by
 have c0:=X.cell 0 _ rfl;have c1:=X.cell 1 _ rfl;have c2:=X.cell 2 _ rfl;have c3:=X.cell 3 _ rfl;simp [results,results167,go_sem,c0,c1,c2,c3]
theorem Er {y:Yard} (h:Dn y) {k:Nat} (hk:k<y.runs.length):Gr y.runs[k]:=(h.2.2.2.2.2.2.2.1 k hk).1
theorem D4 {r:Run} (h:Gr r):1<=r.tasks.length/\r.tasks.length<=12:=by
 have h1:=Dx (Cs.1 h.2.1).1;have h2:=h.2.2.1;omega
theorem Hd (r:Run) (t:Nat):(Dm r t).tasks.length=r.tasks.length:=by
 unfold Dm;split<;>simp [C8,Ic]
open Classical in
noncomputable def Ka (y:Yard) (id tk tr:Int):Yard:=if G6 y id tk tr=0 then E0 y (Db y id).toNat (Dm (Ij y id) tk.toNat) else y
theorem Aa4 (y:Yard) (s:Sl×Sl) (id tk tr:Int) (w:World) (hl:Cf y<=2000000) (h:Bu.rd w w y s) :
  Calls An 167 #[Dh y s,J Ab id,J Ab tk,J Ab tr] w (I7 (Ka y id tk tr) (G6 y id tk tr) w):=by
 have HR:=Bq (show ∀ W,Below w w W->Bu.rd W W y s from fun W hW=>Bu.rd_more (Bu.rd_below h hW) hW.size);obtain ⟨⟨A1,n1,c1⟩,⟨A2,n2,c2⟩⟩:=s;have CC:=Bq (fun W hW=>Fh y (⟨A1,n1,c1⟩,⟨A2,n2,c2⟩) W hl (HR.out W hW));have CK:=Bq (fun W hW=>Ud y (⟨A1,n1,c1⟩,⟨A2,n2,c2⟩) id tk tr W hl (HR.out W hW));have CA:=Bq (fun W hW=>Fo y (⟨A1,n1,c1⟩,⟨A2,n2,c2⟩) id W hl (HR.out W hW));clear h;obtain ⟨W,aG,X,RES,B0⟩:=bx2 w 31 [J Ab y.now,J Ab y.seq,Aa A1 n1 c1,Aa A2 n2 c2] 31 [J Ab 0,J Ab 0,Aa Ac 0 0,Aa Ac 0 0];go_enter func167,ntmps167;go_wp2_with fail
 rw [<-aG.out];clear aG;refine (CC.out _ B0).mono ?_;rintro e1 w1 ⟨⟨⟨B1,m1,e1⟩,⟨B2,m2,e2⟩⟩,F,rfl,oy,nF,b1⟩;have jY:=X.lt;have dL:=RES.lt;replace X:=X.below b1;replace RES:=RES.below b1;replace B0:=Bv B0 b1;have bM:=Bu.ow_lt (F:=F) (x:=y) (s:=(⟨B1,m1,e1⟩,⟨B2,m2,e2⟩)) oy;have bG:=b1.size;clear b1;go_upto_region 2 with fail
 have OB:=DBox.new 31 [J Ab y.now,J Ab y.seq,Aa B1 m1 e1,Aa B2 m2 e2] w1 (b:=w1) rfl;have b2:Below w1 w1 (w1.alloc (.cells #[J Ab y.now,J Ab y.seq,Aa B1 m1 e1,Aa B2 m2 e2] 31)):=Bt;replace B0:=Bv B0 b2;replace X:=X.below b2;replace RES:=RES.below b2;replace oy:=Bu.ow_below (F:=F) (x:=y) (s:=(⟨B1,m1,e1⟩,⟨B2,m2,e2⟩)) oy b2;have cN:=b2.size;have ow1:=OB.lt;generalize w1.alloc (.cells #[J Ab y.now,J Ab y.seq,Aa B1 m1 e1,Aa B2 m2 e2] 31)=w2 at *
 have X_:=X.g4;go_wp2_with fail
 refine (CK.out _ B0).mono ?_;rintro e1 w3 ⟨rfl,b3⟩;replace B0:=Bv B0 b3;clear X_;replace X:=X.below b3;replace RES:=RES.below b3;replace OB:=OB.below b3;replace oy:=Bu.ow_below (F:=F) (x:=y) (s:=(⟨B1,m1,e1⟩,⟨B2,m2,e2⟩)) oy b3;have fS:=b3.size;clear b3 b2 CC CK;have X_:=X.g4;have OB_:=OB.g4;by_cases q:G6 y id tk tr=0;case neg =>
  have q2:(G6 y id tk tr != 0)=true:=by simp [q]
  have H:=Bq (show Ka y id tk tr=y from if_neg q);clear q;have RES_:=RES.g4;have rf:=RES.free;go_wp2;have en1:w.heap.size+1∉F:=fun hx=>by have:=nF _ hx;omega
  refine Ak (Ac2 (DBox.row4 RES rfl _ _ _ _)) rfl ⟨(⟨B1,m1,e1⟩,⟨B2,m2,e2⟩),F,by rw [H.out],by rw [H.out];exact (Bu.set4 (F:=F) (x:=y) (s:=(⟨B1,m1,e1⟩,⟨B2,m2,e2⟩)) oy en1),fun x hx=>by have:=nF x hx;omega,?_⟩;repeat (first | (with_reducible exact B0) | refine Ae ?_ Bo _)
 have q2:(G6 y id tk tr != 0)=false:=by simp [q]
 have H:=Bq (show Ka y id tk tr=E0 y (Db y id).toNat (Dm (Ij y id) tk.toNat) from if_pos q);have HP:Hid (Dn y/\0<=Db y id/\Gq y id tk tr):=by
  unfold G6 at q;by_cases p0:Dn y
  ·by_cases p1:Db y id<0
   ·rw [if_neg (fun h=>h p0),if_pos p1] at q;cases q
   ·by_cases p2:Gq y id tk tr
    ·exact ⟨p0,Bl,p2⟩
    ·rw [if_neg (fun h=>h p0),if_neg p1,if_pos p2] at q;cases q
  ·rw [if_pos p0] at q;cases q
 have Hq:=Bq q;clear q;rcases Ek y id with hr | ⟨k,hk,hr⟩
 ·exact absurd HP.out.2.1 Bl
 have HK:=Bq (Ey hk hr);have HR2:=Bq hr;clear hr;have bK:=Bq (Er HP.out.1 hk);have hth:=Bq HP.out.2.2;have cU:Hid ((0<=tk/\tk<(y.runs[k].tasks.length:Int))/\(By y.runs[k] tk.toNat).state=3):=by
  have:=hth.out
  unfold Gq at this;rw [HK.out] at this;exact ⟨this.2.1,this.2.2.1⟩
 obtain ⟨u,rfl⟩:=Aq cU.out.1.1;have hu:u<y.runs[k].tasks.length:=by have:=cU.out.1.2;omega
 have aL:Hid (Iu y.runs[k] u):=⟨bK.out,⟨Bl,Bl⟩,cU.out.2⟩
 go_wp2_with fail
 refine (CA.out _ B0).mono ?_;rintro e2' w4 ⟨rfl,b4⟩;rw [HR2.out];replace B0:=Bv B0 b4;clear X_;clear OB_;clear X;replace RES:=RES.below b4;replace OB:=OB.below b4;replace oy:Bu.ow w4 F y (⟨B1,m1,e1⟩,⟨B2,m2,e2⟩):=owB oy b4;have kH:=b4.size;clear b4 CA;have oy2:=oy;obtain ⟨F1,F2,rfl,bI,os,orr⟩:=oy2;replace orr:OwL Cn w4 F2 (Aa B2 m2 e2) y.runs:=orr;obtain rfl:m2=y.runs.length:=RdL.at1 (s:=⟨B2,m2,e2⟩) orr.rd;obtain ⟨gr,o2,sk,rfl,cQ,bR,c0,c1_,c2_,c3,c4,c5,c6,c7⟩:=orr.rd.run hk;have gJ:(k:Int)<(y.runs.length:Int):=Bl;have dF:(0:Int)<=(k:Int):=Bl;go_wp2;refine Go.wp_region_noPanic ?_;refine wp_region_held_drew (S:=(fun w'=>DBox w1 [J Ab y.now,J Ab y.seq,Aa B1 m1 e1,Aa (Ad ⟨gr,o2,Ac⟩) y.runs.length e2] w')) Bm (DBox.drew4 OB) (fun aA=>?_);refine tY 0 ?_
 (try simp only [pS])
 refine tY 1 ?_
 (try simp only [pS])
 refine tY 2 ?_
 (try simp only [pS])
 refine tY 3 ?_
 (try simp only [pS])
 refine tY 4 ?_
 (try simp only [pS])
 refine tY 5 ?_
 (try simp only [pS])
 refine tY 7 ?_
 (try simp only [pS])
 have bd:Below w4 w4 w4.drew:=(Br _ _).drew;replace B0:=Bv B0 bd;replace RES:=RES.below bd;replace OB:=OB.below bd;replace oy:Bu.ow w4.drew (F1 ++ F2) y (⟨B1,m1,e1⟩,⟨Ad ⟨gr,o2,Ac⟩,y.runs.length,e2⟩):=Bu.ow_below (F:=F1 ++ F2) (x:=y) (s:=(⟨B1,m1,e1⟩,⟨Ad ⟨gr,o2,Ac⟩,y.runs.length,e2⟩)) oy bd;refine rC 6 (fun K_ hK=>?_);go_simp;refine hK.out _ _ OB (fun aA=>?_);clear hK K_
 (try simp only [pS])
 have kQ:=Fc hl hk;have hrk2:Cn.rd w4.drew w4.drew y.runs[k] sk:=Cn.rd_below bR bd;have hcrun:Dc y.runs[k]<=2000000:=by
  have h1:=Gw (cnt:=Dc) (Ax hk);unfold Cf at hl;omega
 have CF:=Bq (M6 y.runs[k] sk u w4.drew hcrun aL.out hrk2);clear c0 c1_ c2_ c3 c4 c5 c6 c7;refine rC 8 (fun K_ hK=>?_);go_simp;refine CF.out.mono ?_;rintro e3 w5 ⟨sr,Fr,rfl,orn,nFr,b5⟩;refine hK.out _ _ (OB.below b5) (fun aA=>?_);clear hK K_
 (try simp only [pS])
 have mU:w4.drew.heap.size=w4.heap.size:=rfl;have mK:=b5.size;have qA:=D4 bK.out;have CT:=Bq (L7 y (⟨B1,m1,e1⟩,⟨Ad ⟨gr,o2,Ac⟩,y.runs.length,e2⟩) k (Dm y.runs[k] u) sr w5 (F1 ++ F2) Fr HP.out.1.2.2.1 (fun s hs=>by have:=(HP.out.1.2.2.2.1 s hs).1;omega) (by have:=HP.out.1.2.1;omega) hk (by rw [Hd];omega) Bl (Bu.ow_below (F:=F1 ++ F2) (x:=y) (s:=(⟨B1,m1,e1⟩,⟨Ad ⟨gr,o2,Ac⟩,y.runs.length,e2⟩)) oy b5) orn (fun x hx bF=>by have h1:=nFr x hx;have h2:=bM x bF;omega));have HF:=Bq (show Ka y id u tr=E0 y k (Dm y.runs[k] u) by rw [H.out,HR2.out,HK.out,Ap,Ap]);clear H;refine rC 9 (fun K_ hK=>?_);go_simp;refine CT.out.mono ?_;rintro e4 w6 ⟨s5,F5,rfl,oy7,n5,c6⟩;have aE:w1.heap.size∉F1 ++ F2:=fun h=>by have:=bM _ h;omega
 have kD:w.heap.size+1∉F1 ++ F2:=fun h=>by have:=nF _ h;omega
 have OB6:=(OB.below b5).chg c6 aE;have RES6:=(RES.below b5).chg c6 kD;have B6:Below w w w6:=(Bv B0 b5).trans (c6.below (by have:=(Bv B0 b5).size;omega) (fun x hx=>by have:=nF _ hx;omega));generalize E0 y k (Dm y.runs[k] u)=Z at *
 refine hK.out _ _ OB6 (fun aA=>?_);clear hK K_
 (try simp only [pS])
 have r0:=RES6.cell 0 _ rfl;have r1:=RES6.cell 1 _ rfl;have r2:=RES6.cell 2 _ rfl;have r3:=RES6.cell 3 _ rfl;have rl:=RES6.lt;have rf:=RES6.free;refine rC 10 (fun K_ hK=>?_);go_simp;have cR:w1.heap.size≠w.heap.size+1:=Bl;refine hK.out _ _ ((((OB6.setOther (a:=⟨w+1,_,Ac⟩) cR _).setOther (a:=⟨w+1,_,Ac⟩) cR _).setOther (a:=⟨w+1,_,Ac⟩) cR _).setOther (a:=⟨w+1,_,Ac⟩) cR _) (fun aA=>?_);clear hK K_
 (try simp only [pS])
 refine rC 11 (fun K_ hK=>?_);go_simp;refine hK.out _ _ aA (fun aA=>?_);clear hK K_
 (try simp only [pS])
 refine wpAnyH_done Bm ?_ _;refine NoPanic.normal ?_;clear aA r0 r1 r2 r3 rf;have en5:w.heap.size+1∉F5:=fun hx=>by
  rcases n5 _ hx with h | h | h
  ·exact kD h
  ·have:=nFr _ h;omega
  ·omega
 have hZ:Ka y id u tr=Z:=HF.out;have H2:=Bq hZ;clear hZ;have Hq2:=Bq (show G6 y id u tr=0 from Hq.out);go_wp2;refine Ak (Ac2 (DBox.row4 RES6 rfl _ _ _ _)) rfl ⟨s5,F5,by rw [H2.out,Hq2.out],by rw [H2.out];exact (Bu.set4 (F:=F5) (x:=Z) (s:=s5) oy7 en5),fun x hx=>?_,?_⟩
 ·rcases n5 x hx with h | h | h
  ·have:=nF x h;omega
  ·have:=nFr x h;omega
  ·omega
 ·repeat (first | (with_reducible exact B6) | refine Ae ?_ Bo _)
end
noncomputable def Kr (y:Yard) (p:Plan):Bool:=decide (y.runs.length<8) && (inB p.tasks 0 12 && (decide ((Gv y:Int)+p.tasks<=40) && decide (y.seq<=999999000 - p.tasks)))
theorem Aa5 (y:Yard) (s:Sl×Sl) (p:Plan) (ve:Value) (w:World) (hl:Cf y<=2000000) (hS:Gv y<=40) (hq:0<=y.seq/\y.seq<=2000000000) (h:Bu.rd w w y s) :
  Calls An 238 #[Dh y s,Gl p ve] w fun e' w'=>e' = .returned (.bool (Kr y p))/\Below w w w':=by
 have HR:=Bq (show ∀ W,Below w w W->Bu.rd W W y s from fun W hW=>Bu.rd_more (Bu.rd_below h hW) hW.size);obtain ⟨⟨A1,n1,c1⟩,⟨A2,n2,c2⟩⟩:=s;obtain rfl:n2=y.runs.length:=RdL.at1 (s:=⟨A2,n2,c2⟩) h.2;have CS:=Bq (fun W hW=>Qq y (⟨A1,n1,c1⟩,⟨A2,y.runs.length,c2⟩) W hl (HR.out W hW));clear h HR;have HD:=Bq (show Kr y p=(decide (y.runs.length<8) && (inB p.tasks 0 12 && (decide ((Gv y:Int)+p.tasks<=40) && decide (y.seq<=999999000 - p.tasks)))) from rfl);generalize Kr y p=D at *
 generalize Gv y=sn at *
 obtain ⟨W,aG,X,P,B0⟩:=bx2 w 31 [J Ab y.now,J Ab y.seq,Aa A1 n1 c1,Aa A2 y.runs.length c2] 43 [J Ab p.prio,J Ab p.most,J Ab p.wait,J Ab p.tasks,ve];go_enter func238,ntmps238;go_wp2;rw [<-aG.out];clear aG;have X_:=X.g4;have P_:=P.g5;have aN:=Df W;by_cases a:y.runs.length<8;case neg =>
  have aI:¬ (y.runs.length:Int)<8:=Bl;have aD:decide ((y.runs.length:Int)<8)=false:=decide_eq_false aI;have H:=Bq (show D=false by rw [HD.out,decide_eq_false a,Bool.false_and]);clear HD a;refine Bz Bm Bm ?_;repeat (go_big_quiet_step ((first | (go_at_call 90;exact Dy (fun u=>Cl _ _ _ u.1)) | (go_at_call 236;rename_i x;have h1:=CS.out x.1 (Bv B0 x.2);exact Fk h1))))
  refine Al ?_;rintro _ ⟨⟨w3,b3⟩,rfl⟩;clear aN;go_wp2;go_ret;exact ⟨Bx H.out.symm,Bv B0 b3⟩
 have aI:(y.runs.length:Int)<8:=Bl;have aD:decide ((y.runs.length:Int)<8)=true:=decide_eq_true aI;have HD:=Bq (HD.out.trans (by rw [decide_eq_true a,Bool.true_and]));clear a;cases c:inB p.tasks 0 12;case false =>
  have H:=Bq (show D=false by rw [HD.out,c,Bool.false_and]);clear HD;refine Bz Bm Bm ?_;repeat (go_big_quiet_step ((first | (go_at_call 90;exact Dy (fun u=>Cl _ _ _ u.1)) | (go_at_call 236;rename_i x;have h1:=CS.out x.1 (Bv B0 x.2);exact Fk h1))))
  refine Al ?_;rintro _ ⟨⟨w3,b3⟩,rfl⟩;clear aN;go_wp2;go_ret;exact ⟨Bx H.out.symm,Bv B0 b3⟩
 have cc:=Ct.1 c;have HD:=Bq (HD.out.trans (by rw [c,Bool.true_and]));have wr1:Ab.wrap ((sn:Int)+p.tasks)=(sn:Int)+p.tasks:=Ar _ Bl;have wr2:Ab.wrap (999999000 - p.tasks)=999999000 - p.tasks:=Ar _ Bl;cases d:decide ((sn:Int)+p.tasks<=40);case false =>
  have H:=Bq (show D=false by rw [HD.out,d,Bool.false_and]);clear HD cc;refine Bz Bm Bm ?_;repeat (go_big_quiet_step ((first | (go_at_call 90;exact Dy (fun u=>Cl _ _ _ u.1)) | (go_at_call 236;rename_i x;have h1:=CS.out x.1 (Bv B0 x.2);exact Fk h1))))
  refine Al ?_;rintro _ ⟨⟨w3,b3⟩,rfl⟩;clear aN;go_wp2;go_ret;exact ⟨Bx H.out.symm,Bv B0 b3⟩
 have H:=Bq (show D=decide (y.seq<=999999000 - p.tasks) by rw [HD.out,d,Bool.true_and]);clear HD cc;cases e:decide (y.seq<=999999000 - p.tasks);all_goals
  rw [e] at H;refine Bz Bm Bm ?_;repeat (go_big_quiet_step ((first | (go_at_call 90;exact Dy (fun u=>Cl _ _ _ u.1)) | (go_at_call 236;rename_i x;have h1:=CS.out x.1 (Bv B0 x.2);exact Fk h1))))
  refine Al ?_;rintro _ ⟨⟨w3,b3⟩,rfl⟩;clear aN;go_wp2;go_ret;exact ⟨Bx H.out.symm,Bv B0 b3⟩
theorem M7 (y:Yard) (s:Sl×Sl) (id tk tr:Int) (w:World) (hl:Cf y<=2000000) (h:Bu.rd w w y s) :
  Calls An 216 #[Dh y s,J Ab id,J Ab tk,J Ab tr] w fun e' w'=>e' = .returned (.bool (tf (Gq y id tk tr)))/\Below w w w':=by
 have HR:=Bq (show ∀ W,Below w w W->Bu.rd W W y s from fun W hW=>Bu.rd_more (Bu.rd_below h hW) hW.size);obtain ⟨⟨A1,n1,c1⟩,⟨A2,n2,c2⟩⟩:=s;obtain rfl:n2=y.runs.length:=RdL.at1 (s:=⟨A2,n2,c2⟩) h.2;have h2:RdL Cn w w (Aa A2 y.runs.length c2) y.runs:=h.2;have eJ:y.runs.length<=2000000:=Ai (Cv Dc _) (by unfold Cf at hl;omega);have X:=DBox.new 31 [J Ab y.now,J Ab y.seq,Aa A1 n1 c1,Aa A2 y.runs.length c2] w (b:=w) rfl;have B0:Below w w (w.alloc (.cells #[J Ab y.now,J Ab y.seq,Aa A1 n1 c1,Aa A2 y.runs.length c2] 31)):=by repeat (first | exact Br _ _ | refine Af ?_ Bo _)
 have C:=Ep y (⟨A1,n1,c1⟩,⟨A2,y.runs.length,c2⟩) id (w.alloc (.cells #[J Ab y.now,J Ab y.seq,Aa A1 n1 c1,Aa A2 y.runs.length c2] 31)) hl (HR.out _ B0);clear h;rcases Ek y id with hr | ⟨k,hk,hr⟩
 ·have H:=Bq (show tf (Gq y id tk tr)=false from Cm (fun hh=>by have:=hh.1;omega));rw [hr] at C;clear hr;go_enter func216,ntmps216;go_wp2_with fail
  generalize (w.alloc (.cells #[J Ab y.now,J Ab y.seq,Aa A1 n1 c1,Aa A2 y.runs.length c2] 31))=W at *
  refine C.mono ?_;rintro e1 w1 ⟨rfl,b1⟩;go_wp2;go_ret;exact ⟨Bx H.out.symm,Bv B0 b1⟩
 ·have pC:=Fc hl hk;have HR2:=Bq hr;rw [hr] at C;clear hr;have HK:=Bq (Ey hk HR2.out);go_enter func216,ntmps216;go_wp2_with fail
  generalize (w.alloc (.cells #[J Ab y.now,J Ab y.seq,Aa A1 n1 c1,Aa A2 y.runs.length c2] 31))=W at *
  refine C.mono ?_;rintro e1 w1 ⟨rfl,b1⟩;replace X:=X.below b1;have X_:=X.g4;replace B0:=Bv B0 b1;obtain ⟨b,o,⟨s1,⟨At,nt,ct⟩⟩,eG,aH,bP,c0_,c1_,c2_,c3_,c4_,c5_,c6_,c7_⟩:=(h2.below B0).run hk;subst eG;obtain rfl:nt=y.runs[k].tasks.length:=RdL.at1 (s:=⟨At,nt,ct⟩) bP.2;have h3:RdL Eu w1 w (Aa At y.runs[k].tasks.length ct) y.runs[k].tasks:=bP.2;have gJ:(k:Int)<(y.runs.length:Int):=Bl;have hk00:(0:Int)<=(k:Int):=Bl;have dF:¬ (k:Int)<0:=Bl;have bG:b<w1:=Aj aH B0.size;have wr1:Ab.wrap ((y.runs[k].tasks.length:Int) - 1)=(y.runs[k].tasks.length:Int) - 1:=Ar _ Bl;cases q:inB tk 0 ((y.runs[k].tasks.length:Int) - 1)
  ·have H:=Bq (show tf (Gq y id tk tr)=false from Cm (fun hh=>by
    have h5:=hh.2.1;rw [HK.out] at h5
    have:=Ct.2 (show 0<=tk/\tk<=(y.runs[k].tasks.length:Int) - 1 by omega)
    rw [q] at this;cases this))
   go_wp2_with (go_at_call 72;refine (Cq _ _ _ _).mono ?_;rintro e w9 ⟨rfl,rfl⟩;rw [q])
   go_ret;exact ⟨Bx H.out.symm,B0⟩
  ·have qq:=Ct.1 q;obtain ⟨t,rfl⟩:=Aq qq.1;have ht:t<y.runs[k].tasks.length:=Bl;obtain ⟨b',o',_,pP,bS,_,d0,d1,d2,d3⟩:=h3.task ht;subst pP;have cN:b'<w1:=Aj bS B0.size;have jX:(t:Int)<(y.runs[k].tasks.length:Int):=Bl;have gK:(0:Int)<=(t:Int):=Bl;have H:=Bq (show tf (Gq y id t tr)=((y.runs[k].tasks[t].state == 3) && (y.runs[k].tasks[t].try_ == tr)) by
    rw [Bool.eq_iff_iff,Ll,Bool.and_eq_true,beq_iff_eq,beq_iff_eq];unfold Gq;rw [HK.out,Ap,Co ht,HR2.out];constructor
    ·intro hh;exact hh.2.2
    ·intro hh;exact ⟨Bl,⟨Bl,Bl⟩,hh⟩)
   clear qq;generalize y.runs[k].tasks[t].state=st at *
   generalize y.runs[k].tasks[t].try_=ty at *
   cases q2:(st == 3)
   ·go_wp2_with (go_at_call 72;refine (Cq _ _ _ _).mono ?_;rintro e w9 ⟨rfl,rfl⟩;rw [q])
    go_ret;exact ⟨Bx (by rw [H.out,q2];rfl),B0.alloc B0.size _⟩
   ·go_wp2_with (go_at_call 72;refine (Cq _ _ _ _).mono ?_;rintro e w9 ⟨rfl,rfl⟩;rw [q])
    go_ret;exact ⟨Bx (by rw [H.out,q2];rfl),B0.alloc B0.size _⟩
theorem Sj (y:Yard) (s:Sl×Sl) (id tk tr:Int) (w:World) (hl:Cf y<=2000000) (h:Bu.rd w w y s) :
  Calls An 209 #[Dh y s,J Ab id,J Ab tk,J Ab tr] w fun e' w'=>e' = .returned (J Ab (G6 y id tk tr))/\Below w w w':=by
 have HR:=Bq (show ∀ W,Below w w W->Bu.rd W W y s from fun W hW=>Bu.rd_more (Bu.rd_below h hW) hW.size);obtain ⟨⟨A1,n1,c1⟩,⟨A2,n2,c2⟩⟩:=s;have CY:=Bq (fun W hW=>G8 y (⟨A1,n1,c1⟩,⟨A2,n2,c2⟩) W hl (HR.out W hW));have CA:=Bq (fun W hW=>Ep y (⟨A1,n1,c1⟩,⟨A2,n2,c2⟩) id W hl (HR.out W hW));have CH:=Bq (fun W hW=>M7 y (⟨A1,n1,c1⟩,⟨A2,n2,c2⟩) id tk tr W hl (HR.out W hW));clear h;obtain ⟨W,aG,X,B0⟩:=bx1 w 31 [J Ab y.now,J Ab y.seq,Aa A1 n1 c1,Aa A2 n2 c2];go_enter func209,ntmps209;go_wp2_with fail
 rw [<-aG.out];clear aG;refine (CY.out _ B0).mono ?_;rintro e1 w1 ⟨rfl,b1⟩;replace X:=X.below b1;have X_:=X.g4;replace B0:=Bv B0 b1;by_cases p0:Dn y;case neg =>
  have H:=Bq (show G6 y id tk tr=8 from if_pos p0);rw [Cm p0];clear p0;go_wp2;go_ret;exact ⟨by rw [H.out];rfl,B0⟩
 rw [Ds p0];go_wp2_with fail
 refine (CA.out _ B0).mono ?_;rintro e1 w2 ⟨rfl,b2⟩;clear X_;replace X:=X.below b2;have X_:=X.g4;replace B0:=Bv B0 b2;by_cases p1:Db y id<0
 ·have H:=Bq (show G6 y id tk tr=10 by unfold G6;rw [if_neg (fun h=>h p0),if_pos p1]);clear p0;go_wp2;go_ret;exact ⟨by rw [H.out];rfl,B0⟩
 go_wp2_with fail
 refine (CH.out _ B0).mono ?_;rintro e1 w3 ⟨rfl,b3⟩;replace B0:=Bv B0 b3;by_cases p2:Gq y id tk tr
 ·have H:=Bq (show G6 y id tk tr=0 by unfold G6;rw [if_neg (fun h=>h p0),if_neg Bl,if_neg (fun h=>h p2)]);rw [Ds p2];clear p0 p2;go_wp2;go_ret;exact ⟨by rw [H.out];rfl,B0⟩
 ·have H:=Bq (show G6 y id tk tr=11 by unfold G6;rw [if_neg (fun h=>h p0),if_neg Bl,if_pos p2]);rw [Cm p2];clear p0 p2;go_wp2;go_ret;exact ⟨by rw [H.out];rfl,B0⟩
theorem N4 (es:List (Nat×Nat)) (T t:Nat):∀ x∈D9 es T t,x<T:=by
 induction T with
 | zero =>
  intro x hx
  have:=Mu es 0 t
  have h0:D9 es 0 t=[]:=List.eq_nil_of_length_eq_zero Bl;rw [h0] at hx;cases hx
 | succ T ih =>
  intro x hx;rw [Rt] at hx;rcases Bi.1 hx with h | h
  ·have:=ih x h;omega
  ·unfold Jg at h;split at h
   ·simp at h;omega
   ·cases h
def Ahv (r:Run) (u:Nat) (L:List Nat):List Task:=L.foldl (fun l b=>Hc l b Da) (Hc r.tasks u fun x=>⟨4,x.need,x.try_,0⟩)
theorem Mc (r:Run) (u:Nat):∀ (L:List Nat) (l:List Task),(L.foldl (fun l b=>Hc l b Da) l).length=l.length
 | [],l=>rfl
 | b :: L,l=>by rw [List.foldl_cons,Mc r u L,Ic]
theorem Tf (L:List Nat):∀ (l:List Task) (m:Int),(∀ x∈l,-m<=x.need/\x.need<=1000/\1<=x.state/\x.state<=6)->(0<=m) -> ∀ x∈L.foldl (fun l b=>Hc l b Da) l,-(m+L.length)<=x.need/\x.need<=1000/\1<=x.state/\x.state<=6:=by
 induction L with
 | nil=>intro l m h _ x hx;have:=h x hx;simp;exact this
 | cons b L ih =>
  intro l m h hm x hx;rw [List.foldl_cons] at hx;have h1:∀ x∈Hc l b Da,-(m+1)<=x.need/\x.need<=1000/\1<=x.state/\x.state<=6:=by
   intro x hx;unfold Hc at hx;rcases List.mem_or_eq_of_mem_set hx with h2 | h2
   ·have:=h x h2;omega
   ·subst h2;by_cases hb:b<l.length
    ·rw [List.getD_eq_getElem?_getD,List.getElem?_eq_getElem hb]
     have:=h _ (Ax hb)
     simp only [Option.getD_some,Da];split<;>omega
    ·rw [List.set_eq_of_length_le Bl] at hx
     have:=h _ hx
     omega
  have:=ih _ (m+1) h1 Bl x hx
  rw [List.length_cons];omega
theorem O9 (s:Int) (y:Task):∀ (l:List Task) (k:Nat) (hk:k<l.length),Cp (l.set k y) s+(if l[k].state=s then 1 else 0)=Cp l s+(if y.state=s then 1 else 0)
 | x :: l,0,_=>by
  unfold Cp;by_cases h1:x.state=s<;>by_cases h2:y.state=s<;>simp [h1,h2]
 | x :: l,k+1,hk=>by
  have ih:=O9 s y l k (by simpa using hk);unfold Cp at *
  by_cases h1:x.state=s
  ·simp only [List.set_cons_succ,List.getElem_cons_succ,List.filter_cons,beq_iff_eq,h1,if_true,List.length_cons];omega
  ·simp only [List.set_cons_succ,List.getElem_cons_succ,List.filter_cons,beq_iff_eq,h1,if_false];exact ih
theorem Ig {l:List Task} {t:Nat} (h:t<l.length) (f:Task->Task):Hc l t f=l.set t (f l[t]):=by
 unfold Hc;rw [List.getD_eq_getElem?_getD,List.getElem?_eq_getElem h];rfl
theorem L8 {r r':Run} {l:List Nat} (h:∀ b,(By r b).state=4 ↔ (By r' b).state=4):Gn r l=Gn r' l:=by
 unfold Gn;congr 1;apply List.filter_congr;intro b _;by_cases q:(By r b).state=4
 ·simp [q,(h b).1 q]
 ·have q':¬ (By r' b).state=4:=fun hh=>q ((h b).2 hh);rw [show ((By r b).state != 4)=true from bne_iff_ne.2 q,show ((By r' b).state != 4)=true from bne_iff_ne.2 q']
theorem Np (x:Task):(Dj x).state=4/\x.state=4\/(Dj x).state=5/\x.state=5\/(Dj x).state=6/\x.state≠4/\x.state≠5:=by
 unfold Dj;by_cases h4:x.state=4
 ·simp [h4]
 ·by_cases h5:x.state=5
  ·simp [h5]
  ·simp [h4,h5]
theorem Zv (l:List Task):Cp (l.map Dj) 4=Cp l 4/\Cp (l.map Dj) 5=Cp l 5/\Km (l.map Dj)=0:=by
 induction l with
 | nil=>exact ⟨rfl,rfl,rfl⟩
 | cons x l ih =>
  have hc:∀ (y:Task) (l:List Task) s,Cp (y :: l) s=(if y.state=s then 1 else 0)+Cp l s:=by
   intro y l s;unfold Cp;by_cases h:y.state=s<;>simp [h];omega
  obtain ⟨h1,h2,h3⟩:=ih;unfold Km at *
  simp only [List.map_cons,hc];rcases Np x with ⟨a,b⟩ | ⟨a,b⟩ | ⟨a,b,c⟩
  ·simp [a,b,h1,h2];omega
  ·simp [a,b,h1,h2];omega
  ·simp [a,b,c,h1,h2];omega
theorem Kb (i:Int) (p:Plan) (s:Int) (l:List Task) (k:Nat):By ⟨i,p,s,l⟩ k=l.getD k ⟨0,0,0,0⟩:=rfl
theorem J0 {l:List Task} {s:Int} {k:Nat} (hk:k<l.length) (h:l[k].state=s):1<=Cp l s:=by
 unfold Cp;apply List.length_pos_of_mem (a:=l[k]);rw [List.mem_filter];exact ⟨Ax hk,by simp [h]⟩
theorem Aiv {l:List Task} {s:Int} {k:Nat} (hk:k<l.length) (h:¬ l[k].state=s):Cp l s<l.length:=by
 unfold Cp;rcases Nat.lt_or_ge (l.filter fun x=>x.state == s).length l.length with h1 | h1
 ·exact h1
 ·have h2:=List.filter_sublist (p:=fun x:Task=>x.state == s) (l:=l);have h3:=h2.eq_of_length_le h1;have h4:l[k]∈(l.filter fun x=>x.state == s):=by rw [h3];exact Ax hk
  rw [List.mem_filter] at h4;exact absurd (by simpa using h4.2) h
theorem Mo {r:Run} {u:Nat} (h:Iu r u):Cp r.tasks 5=0/\Cp r.tasks 6=0/\Cp r.tasks 4<r.tasks.length/\r.state=1:=by
 obtain ⟨hr,⟨_,hu⟩,hs⟩:=h;have kM:u<r.tasks.length:=Bl;rw [Ap,Co kM] at hs;have h3:=J0 kM hs;have h4:=Aiv (s:=4) kM Bl;have h5:=hr.2.2.2.2.1;have h6:=hr.2.2.2.2.2;have hR:¬ Km r.tasks=0:=by unfold Km;omega
 unfold stL at h5;rw [if_neg Bl,if_neg (fun hh=>hR hh.2),if_neg (fun hh=>hR hh.2.2)] at h5;by_cases q:Cp r.tasks 5=0/\Cp r.tasks 6=0
 ·rw [if_pos q] at h5;exact ⟨q.1,q.2,h4,h5⟩
 ·rw [if_neg q] at h5;exact absurd h5 h6
theorem K6 (r:Run) (u:Nat):(Dm r u).id=r.id/\(Dm r u).plan=r.plan:=by
 unfold Dm;split<;>exact ⟨rfl,rfl⟩
theorem Ue {r:Run} {u:Nat} (h:Iu r u):Gr (Dm r u):=by
 obtain ⟨l5,l6,l4,ls⟩:=Mo h;obtain ⟨hr,⟨_,hu⟩,hs⟩:=h;have kM:u<r.tasks.length:=Bl;rw [Ap] at hs;have hsu:=hs;rw [Co kM] at hs;obtain ⟨a1,a2,a3,a4,a5,a6⟩:=hr;have hq:=a4 u kM;unfold Gz at hq;rw [Co kM] at hq;obtain ⟨q1,q2,q3,q4,q5,q6,q7,q8⟩:=hq;have hgetS:∀ (y:Task) b,(r.tasks.set u y).getD b ⟨0,0,0,0⟩=if b=u then y else By r b:=by
  intro y b;unfold By;rw [List.getD_eq_getElem?_getD,List.getD_eq_getElem?_getD,List.getElem?_set];by_cases e:u=b
  ·subst e;simp [kM]
  ·rw [if_neg e,if_neg (fun hh=>e hh.symm)]
 unfold Dm;split
 ·next ht =>
  rw [Co kM] at ht;rw [Ig kM];refine ⟨a1,a2,by simpa using a3,?_,?_,a6⟩
  ·intro t dN;have htl':t<r.tasks.length:=by simpa using dN
   have hN:Ge ⟨r.id,r.plan,r.state,r.tasks.set u ⟨2,r.tasks[u].need,r.tasks[u].try_,0⟩⟩ t=Ge r t:=by
    unfold Ge;apply L8;intro b;rw [Kb,hgetS];by_cases e:b=u
    ·subst e;rw [if_pos rfl];simp [hsu]
    ·rw [if_neg e]
   unfold Gz;rw [hN,Kb,hgetS];by_cases e:t=u
   ·subst e;rw [if_pos rfl]
    have:=q8 (.inl hs)
    refine ⟨Bn,q2,q3,Bn,Bn,Bn,?_,Bn⟩;intro _;exact ⟨this.1,ht⟩
   ·rw [if_neg e];exact a4 t htl'
  ·have c:=fun s=>O9 s ⟨2,r.tasks[u].need,r.tasks[u].try_,0⟩ r.tasks u kM;have c1:=c 1;have c2:=c 2;have c3:=c 3;have c4:=c 4;have c5:=c 5;have c6:=c 6;simp only [hs] at c1 c2 c3 c4 c5 c6;simp at c1 c2 c3 c4 c5 c6;show r.state=stL (r.tasks.set u ⟨2,r.tasks[u].need,r.tasks[u].try_,0⟩);rw [ls];unfold stL;have hR:¬ Km (r.tasks.set u ⟨2,r.tasks[u].need,r.tasks[u].try_,0⟩)=0:=by unfold Km;omega
   rw [if_neg (by rw [Bh];omega),if_neg (fun hh=>hR hh.2),if_neg (fun hh=>hR hh.2.2),if_pos Bl]
 ·next ht =>
  rw [Co kM] at ht;rw [Ig kM];have hX:∀ b,By (C8 ⟨r.id,r.plan,r.state,r.tasks.set u ⟨5,r.tasks[u].need,r.tasks[u].try_,0⟩⟩ 3) b=if b<r.tasks.length then Dj (if b=u then ⟨5,r.tasks[u].need,r.tasks[u].try_,0⟩ else By r b) else ⟨0,0,0,0⟩:=by
   intro b;unfold C8;rw [Kb,List.getD_eq_getElem?_getD,List.getElem?_map];by_cases e:b<r.tasks.length
   ·rw [if_pos e,<-hgetS,List.getD_eq_getElem?_getD,List.getElem?_eq_getElem (by rw [Bh];exact e)];rfl
   ·rw [if_neg e,List.getElem?_eq_none (by rw [Bh];omega)];rfl
  refine ⟨a1,a2,by simpa [C8] using a3,?_,?_,by simp [C8]⟩
  ·intro t dN;have htl':t<r.tasks.length:=by simpa [C8] using dN
   have hN:Ge (C8 ⟨r.id,r.plan,r.state,r.tasks.set u ⟨5,r.tasks[u].need,r.tasks[u].try_,0⟩⟩ 3) t=Ge r t:=by
    show Gn _ _=Gn _ _;apply L8;intro b;rw [hX];by_cases e:b<r.tasks.length
    ·rw [if_pos e];by_cases e2:b=u
     ·subst e2;rw [if_pos rfl];simp [hsu,Dj]
     ·rw [if_neg e2];rcases Np (By r b) with ⟨a,b⟩ | ⟨a,b⟩ | ⟨a,b,c⟩
      ·simp [a,b]
      ·simp [a,b]
      ·simp [a,b]
    ·rw [if_neg e];unfold By;rw [List.getD_eq_getElem?_getD,List.getElem?_eq_none Bl];simp
   unfold Gz;rw [hN,hX,if_pos htl'];show Ls _ _ r.plan.most;by_cases e:t=u
   ·subst e;rw [if_pos rfl]
    have:=q8 (.inl hs)
    unfold Dj;rw [if_neg Bn];refine ⟨Bn,q2,q3,Bn,Bn,Bn,Bn,?_⟩;intro _;exact this
   ·rw [if_neg e];obtain ⟨p1,p2,p3,p4,p5,p6,p7,p8⟩:=a4 t htl';unfold Dj;split
    ·refine ⟨Bn,p2,p3,Bn,Bn,Bn,Bn,Bn⟩
    ·exact ⟨p1,p2,p3,p4,p5,p6,p7,p8⟩
  ·have c:=fun s=>O9 s ⟨5,r.tasks[u].need,r.tasks[u].try_,0⟩ r.tasks u kM;have c4:=c 4;have c5:=c 5;simp only [hs] at c4 c5;simp at c4 c5;obtain ⟨m1,m2,m3⟩:=Zv (r.tasks.set u ⟨5,r.tasks[u].need,r.tasks[u].try_,0⟩);show (3:Int)=stL ((r.tasks.set u ⟨5,r.tasks[u].need,r.tasks[u].try_,0⟩).map Dj);unfold stL;rw [if_neg (by rw [Au,Bh];omega),if_pos Bl]
theorem Sk {α:Type} {cnt:α->Nat} {K:Nat} : ∀ {l:List α},(∀ x∈l,cnt x<=K)->Kv cnt l<=l.length * (K+1)
 | [],_=>by simp [Kv]
 | x :: l,h=>by
  have ih:=Sk (cnt:=cnt) (K:=K) (l:=l) (fun y hy=>h y (List.mem_cons_of_mem _ hy))
  have:=h x (List.mem_cons_self ..)
  unfold Kv at *
  rw [List.map_cons,List.sum_cons,List.length_cons,Nat.succ_mul];omega
theorem K7 {r:Run} (h:Gr r):Dc r<=42:=by
 have h1:=Es (Cs.1 h.2.1).1;have h2:=D4 h;have e1:Hi r.plan=r.plan.edges.length:=Hz (fun _=>rfl) _;have e2:Kv Ix r.tasks=r.tasks.length:=Hz (fun _=>rfl) _;unfold Dc;omega
theorem P9 {y:Yard} {M:Nat} (h4:y.shelf.length=4) (hM:∀ s∈y.shelf,s.length<=M) (h8:y.runs.length<=8) (hr:∀ k (h:k<y.runs.length),Gr y.runs[k]):Cf y<=4 * (M+1)+344:=by
 have h1:Kv Dp y.shelf<=y.shelf.length * (M+1):=Sk (fun s hs=>by
  have e:Dp s=s.length:=Hz (fun _=>rfl) _;rw [e];exact hM s hs)
 have h2:Kv Dc y.runs<=y.runs.length * (42+1):=Sk (fun r kC=>by
  obtain ⟨k,hk,rfl⟩:=List.getElem_of_mem kC;exact K7 (hr k hk))
 rw [h4] at h1;have h3:y.runs.length * (42+1)<=8 * 43:=Nat.mul_le_mul_right _ h8;unfold Cf;omega
structure Trn (y:Yard) (m:Nat) (z:Yard):Prop where
 now:z.now=y.now
 four:z.shelf.length=4
 all:∀ s∈z.shelf,s.length<=80+12 * m
 seq:1<=z.seq/\z.seq<=1000000000+12 * m
 len:z.runs.length=y.runs.length
 le8:z.runs.length<=8
 run:∀ k (h:k<z.runs.length) (h':k<y.runs.length),Gr z.runs[k]/\z.runs[k].id=y.runs[k].id/\z.runs[k].tasks.length=y.runs[k].tasks.length
theorem Trn.start {y:Yard} (h:Dn y):Trn y 0 y :=
 ⟨rfl,h.2.2.1,fun s hs=>by have:=(h.2.2.2.1 s hs).1;omega,by have:=h.2.1;omega,rfl,h.2.2.2.2.2.2.1,fun k hk _=>⟨Er h hk,rfl,rfl⟩⟩
theorem Trn.mono {y z:Yard} {m n:Nat} (h:Trn y m z) (hm:m<=n):Trn y n z :=
 ⟨h.now,h.four,fun s hs=>by have:=h.all s hs;omega,by have:=h.seq;omega,h.len,h.le8,h.run⟩
theorem Zw (y:Yard) (k:Nat) (r:Run) (hk:k<y.runs.length):E0 y k r=I6 ⟨y.now,y.seq,y.shelf,y.runs.set k r⟩ y.runs[k] r r.tasks.length:=by
 unfold E0;rw [List.getD_eq_getElem?_getD,List.getElem?_eq_getElem hk];rfl
theorem Trn.step {y z:Yard} {m:Nat} (h:Trn y m z) {k u:Nat} (hk:k<z.runs.length) (hr:Iu z.runs[k] u):Trn y (m+1) (E0 z k (Dm z.runs[k] u)):=by
 have hR:=Ue hr;have hL:=D4 hR;rw [Zw _ _ _ hk];have hF:=Rf (y:=⟨z.now,z.seq,z.shelf,z.runs.set k (Dm z.runs[k] u)⟩) (was:=z.runs[k]) (r:=Dm z.runs[k] u) h.all (Dm z.runs[k] u).tasks.length;generalize I6 ⟨z.now,z.seq,z.shelf,z.runs.set k (Dm z.runs[k] u)⟩ z.runs[k] (Dm z.runs[k] u) (Dm z.runs[k] u).tasks.length=Z at *
 have e:Z.runs=z.runs.set k (Dm z.runs[k] u):=hF.runs;refine ⟨hF.now.trans h.now,hF.len.trans h.four,fun s hs=>by have:=hF.all s hs;omega,?_,by rw [e,Bh];exact h.len,by rw [e,Bh];exact h.le8,fun j hj hj'=>?_⟩
 ·have h1:=hF.seq;have h2:=h.seq;dsimp only at h1;omega
 ·have hjz:j<z.runs.length:=by rw [h.len];exact hj'
  have e2:Z.runs[j]=if k=j then Dm z.runs[k] u else z.runs[j]:=by
   rw [show Z.runs[j]=(z.runs.set k (Dm z.runs[k] u))[j]'(by rw [Bh];exact hjz) by simp only [e],List.getElem_set]
  rw [e2];have h1:=h.run j hjz hj';split
  ·next hkj =>
   subst hkj;exact ⟨hR,(K6 _ _).1.trans h1.2.1,(Hd _ _).trans h1.2.2⟩
  ·exact h1
theorem Trn.cnt {y z:Yard} {m:Nat} (h:Trn y m z) (hm:m<=1000):Cf z<=2000000:=by
 have:=P9 h.four h.all h.le8 (fun k hk=>(h.run k hk (by rw [<-h.len];exact hk)).1)
 omega
theorem Ac3 {α:Type} {p:α->Bool} {l l':List α} (hl:l.length=l'.length) (h:∀ k (h1:k<l.length) (h2:k<l'.length),p l[k]=p l'[k]):He p l=He p l':=by
 rcases Mv p l' with e | ⟨k,hk,e⟩
 ·rw [e];refine Jd (fun j hj=>?_);rw [h j hj Bl];unfold He at e;cases q:l'.findIdx? p with
  | none =>
   rw [List.findIdx?_eq_none_iff] at q;exact q _ (Ax _)
  | some i=>rw [q] at e;exact absurd e Bn
 ·rw [e];unfold He at e;cases q:l'.findIdx? p with
  | none=>rw [q] at e;exact absurd e Bn
  | some i =>
   rw [q] at e;have e':i=k:=Int.ofNat.inj e;subst e';obtain ⟨h1,h2,h3⟩:=List.findIdx?_eq_some_iff_getElem.1 q;exact It Bl (fun j hj=>by rw [h j Bl Bl];simpa using h3 j hj) (by rw [h i Bl hk];exact h2)
theorem Trn.runAt {y z:Yard} {m:Nat} (h:Trn y m z) (id:Int):Db z id=Db y id:=by
 rw [Jq h.le8,Jq (by rw [<-h.len];exact h.le8)];exact Ac3 h.len (fun k h1 h2=>by unfold Lg;rw [(h.run k h1 h2).2.1])
theorem Aa6 (y:Yard) (s:Sl×Sl) (p:Plan) (ve:Value) (w:World) (hl:Cf y<=2000000) (hS:Gv y<=40) (hq:0<=y.seq/\y.seq<=2000000000) (h:Bu.rd w w y s) :
  Calls An 201 #[Dh y s,Gl p ve] w fun e' w'=>e' = .returned (.bool (Kr y p))/\Below w w w':=by
 have HR:=Bq (show ∀ W,Below w w W->Bu.rd W W y s from fun W hW=>Bu.rd_more (Bu.rd_below h hW) hW.size);obtain ⟨⟨A1,n1,c1⟩,⟨A2,n2,c2⟩⟩:=s;obtain rfl:n2=y.runs.length:=RdL.at1 (s:=⟨A2,n2,c2⟩) h.2;have CS:=Bq (fun W hW=>Qp y (⟨A1,n1,c1⟩,⟨A2,y.runs.length,c2⟩) W hl (HR.out W hW));clear h HR;have HD:=Bq (show Kr y p=(decide (y.runs.length<8) && (inB p.tasks 0 12 && (decide ((Gv y:Int)+p.tasks<=40) && decide (y.seq<=999999000 - p.tasks)))) from rfl);generalize Kr y p=D at *
 generalize Gv y=sn at *
 obtain ⟨W,aG,X,P,B0⟩:=bx2 w 31 [J Ab y.now,J Ab y.seq,Aa A1 n1 c1,Aa A2 y.runs.length c2] 43 [J Ab p.prio,J Ab p.most,J Ab p.wait,J Ab p.tasks,ve];go_enter func201,ntmps201;go_wp2;rw [<-aG.out];clear aG;have X_:=X.g4;have P_:=P.g5;have aN:=Df W;by_cases a:y.runs.length<8;case neg =>
  have aI:¬ (y.runs.length:Int)<8:=Bl;have aD:decide ((y.runs.length:Int)<8)=false:=decide_eq_false aI;have H:=Bq (show D=false by rw [HD.out,decide_eq_false a,Bool.false_and]);clear HD a;refine Bz Bm Bm ?_;repeat (go_big_quiet_step ((first | (go_at_call 72;exact Dy (fun u=>Cq _ _ _ u.1)) | (go_at_call 144;rename_i x;have h1:=CS.out x.1 (Bv B0 x.2);exact Fk h1))))
  refine Al ?_;rintro _ ⟨⟨w3,b3⟩,rfl⟩;clear aN;go_wp2;go_ret;exact ⟨Bx H.out.symm,Bv B0 b3⟩
 have aI:(y.runs.length:Int)<8:=Bl;have aD:decide ((y.runs.length:Int)<8)=true:=decide_eq_true aI;have HD:=Bq (HD.out.trans (by rw [decide_eq_true a,Bool.true_and]));clear a;cases c:inB p.tasks 0 12;case false =>
  have H:=Bq (show D=false by rw [HD.out,c,Bool.false_and]);clear HD;refine Bz Bm Bm ?_;repeat (go_big_quiet_step ((first | (go_at_call 72;exact Dy (fun u=>Cq _ _ _ u.1)) | (go_at_call 144;rename_i x;have h1:=CS.out x.1 (Bv B0 x.2);exact Fk h1))))
  refine Al ?_;rintro _ ⟨⟨w3,b3⟩,rfl⟩;clear aN;go_wp2;go_ret;exact ⟨Bx H.out.symm,Bv B0 b3⟩
 have cc:=Ct.1 c;have HD:=Bq (HD.out.trans (by rw [c,Bool.true_and]));have wr1:Ab.wrap ((sn:Int)+p.tasks)=(sn:Int)+p.tasks:=Ar _ Bl;have wr2:Ab.wrap (999999000 - p.tasks)=999999000 - p.tasks:=Ar _ Bl;cases d:decide ((sn:Int)+p.tasks<=40);case false =>
  have H:=Bq (show D=false by rw [HD.out,d,Bool.false_and]);clear HD cc;refine Bz Bm Bm ?_;repeat (go_big_quiet_step ((first | (go_at_call 72;exact Dy (fun u=>Cq _ _ _ u.1)) | (go_at_call 144;rename_i x;have h1:=CS.out x.1 (Bv B0 x.2);exact Fk h1))))
  refine Al ?_;rintro _ ⟨⟨w3,b3⟩,rfl⟩;clear aN;go_wp2;go_ret;exact ⟨Bx H.out.symm,Bv B0 b3⟩
 have H:=Bq (show D=decide (y.seq<=999999000 - p.tasks) by rw [HD.out,d,Bool.true_and]);clear HD cc;cases e:decide (y.seq<=999999000 - p.tasks);all_goals
  rw [e] at H;refine Bz Bm Bm ?_;repeat (go_big_quiet_step ((first | (go_at_call 72;exact Dy (fun u=>Cq _ _ _ u.1)) | (go_at_call 144;rename_i x;have h1:=CS.out x.1 (Bv B0 x.2);exact Fk h1))))
  refine Al ?_;rintro _ ⟨⟨w3,b3⟩,rfl⟩;clear aN;go_wp2;go_ret;exact ⟨Bx H.out.symm,Bv B0 b3⟩
end Go.Proofs.YtecnbnbopcblgaaGreat
