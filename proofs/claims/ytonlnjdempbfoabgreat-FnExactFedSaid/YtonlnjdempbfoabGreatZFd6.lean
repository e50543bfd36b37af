/-
  Copies of shelves and of runs, of the program and of the reference. Written by program (yx.py). Since of the program and of the reference. Written by program (s
-/
import Derived.Test.YtonlnjdempbfoabGreatZFd0
import Derived.Test.YtonlnjdempbfoabGreatZFd1
import Derived.Test.YtonlnjdempbfoabGreatZFd4
import Derived.Test.YtonlnjdempbfoabGreatZFd5
namespace Go.Proofs.YtonlnjdempbfoabGreat
open Go.RowKit
set_option maxRecDepth 100000
set_option maxHeartbeats 4000000
set_option linter.unusedVariables false
set_option linter.unusedSimpArgs false
open Value renaming int->J,slice->Aa
open IntKind renaming i64->U
open Option renaming none->Ab,some->Ac
open Below renaming setCell->Ad,alloc->Ae
open Nat renaming zero_le->Ag,le_trans->Ah,lt_of_lt_of_le->Ai
open Go renaming wpQuiet_nil->Ak
open Go.Proofs.Tryz renaming prog->Am
open IntWalk renaming i64_in->Aq
open List renaming length_map->Ar,mem_singleton->Au,getElem_mem->Aw,nodup_append->Ax,length_take->Az,length_append->Bd,mem_append_right->Be,mem_append->Bi
open World renaming size_alloc->Bj
open Go.Proofs.Tryz
theorem Rn (w:World):∀ l:List Entry,Ows Bx w [] (l.map fun x=>(x,()))
 | []=>.nil
 | x :: l=>by
  have:=Ows.cons (d:=Bx) (w:=w) (F:=[]) (r:=(x,())) rfl (Rn w l)
  exact this
theorem Hr {w:World} {E:TypeId} {base:Nat} {v:Value} {l:List Entry} (h:Ow Cy E w base v l):∃ (s:Sl) (F:List Nat),v = Aa s.a s.n s.c/\OwL Bx w F s.v l /\ ∀ b∈F,base<=b:=by
 obtain ⟨h1,h2⟩:=Hw.of_ow h;obtain ⟨⟨A,c,hv,hc,hA⟩,hF,hf⟩:=id h1;subst hv;refine ⟨⟨A,l.length,c⟩,_,rfl,⟨l.map fun x=>(x,()),Ek (Aa A l.length c) l.length,[],by rw [List.map_map];exact List.map_id _,⟨⟨A,c,by rw [Ar],by rw [Ar];exact hc,fun hl=>?_⟩,by rw [Ar],hf⟩,Rn w l,(List.append_nil _).symm,h1.nodup⟩,h2⟩;rw [Ar] at hl;obtain ⟨b,o,h3,h4,h5⟩:=hA hl;refine ⟨b,o,h3,h4,fun k hk j u hu=>?_⟩;rw [List.getElem_map] at hu;exact h5 k (by rw [Ar] at hk;exact hk) j u hu
def Fj:Enc Task:={ cells:=fun x=>[J U x.state,J U x.need,J U x.try_,J U x.until_],sz:=4,len:=fun _=>rfl,one:=fun _ u hu=>by simp at hu;rcases hu with rfl | rfl | rfl | rfl<;>rfl }
theorem Tn {w:World} {B:Nat} {v:Value} {l:List Task} (h:RdL C7 w B v l):Rd Fj w B v l:=by
 obtain ⟨rs,rfl,⟨A,c,rfl,hc,hA⟩,_⟩:=h;refine ⟨A,c,by rw [Ar],by rw [Ar];exact hc,fun hl=>?_⟩;rw [Ar] at hl;obtain ⟨b,o,h1,h2,h3⟩:=hA hl;refine ⟨b,o,h1,h2,fun k hk j u hu=>?_⟩;rw [List.getElem_map] at hu;exact h3 k (by rw [Ar] at hk;exact hk) j u hu
theorem U9 (w:World):∀ l:List Task,Ows C7 w [] (l.map fun x=>(x,()))
 | []=>.nil
 | x :: l=>by
  have:=Ows.cons (d:=C7) (w:=w) (F:=[]) (r:=(x,())) rfl (U9 w l)
  exact this
theorem To {w:World} {E:TypeId} {base:Nat} {v:Value} {l:List Task} (h:Ow Fj E w base v l):∃ (s:Sl) (F:List Nat),v = Aa s.a s.n s.c/\OwL C7 w F s.v l /\ ∀ b∈F,base<=b:=by
 obtain ⟨h1,h2⟩:=Hw.of_ow h;obtain ⟨⟨A,c,hv,hc,hA⟩,hF,hf⟩:=id h1;subst hv;refine ⟨⟨A,l.length,c⟩,_,rfl,⟨l.map fun x=>(x,()),Ek (Aa A l.length c) l.length,[],by rw [List.map_map];exact List.map_id _,⟨⟨A,c,by rw [Ar],by rw [Ar];exact hc,fun hl=>?_⟩,by rw [Ar],hf⟩,U9 w l,(List.append_nil _).symm,h1.nodup⟩,h2⟩;rw [Ar] at hl;obtain ⟨b,o,h3,h4,h5⟩:=hA hl;refine ⟨b,o,h3,h4,fun k hk j u hu=>?_⟩;rw [List.getElem_map] at hu;exact h5 k (by rw [Ar] at hk;exact hk) j u hu
theorem Ov:(Am.info? 217).map (fun i=>(i.zero,i.size,i.bytes))=Ac (Ac (.agg #[J U 0,J U 0,J U 0,J U 0]),4,32):=Bm
theorem Jc (l:List Entry) (s:Sl) (w:World) (hl:l.length<=2000000) (h:RdL Bx w w s.v l) :
  Calls Am 141 #[Aa s.a s.n s.c] w (Df (Dt.list Bx) slV l w):=by
 obtain ⟨A,n,c⟩:=s;obtain rfl:n=l.length:=RdL.at1 (s:=⟨A,n,c⟩) h;obtain ⟨i0,aR,aX,aW,aU⟩:=info_parts Gg;go_enter func141,ntmps141;go_wp2_with (at_builtin;refine Ch _ Cy Bp rfl (.const (Aa Ab 0 0)) (.tmp 3) rfl underlying122 aR aX aW aU rfl (v:=Aa Ab 0 0) (l:=[]) rfl (Ow.nil Cy 163 _ w) rfl (Jm h) Bn Bl Bp (Bs _) ?_;intro v1 w1 o1 g1 _;rw [List.nil_append] at o1)
 obtain ⟨s1,F1,rfl,o2,n2⟩:=Hr o1;go_ret;exact ⟨s1,F1,rfl,o2,n2,(Br w w).grown g1 (Bs _) (fun g hg=>by cases hg)⟩
theorem Nx (r:Run) (s:Sl×Sl) (w:World) (hl:Cn r<=2000000) (h:Ce.rd w w r s) :
  Calls Am 142 #[Gt r s] w (Df Ce Gt r w):=by
 obtain ⟨⟨A1,n1,c1⟩,⟨A2,n2,c2⟩⟩:=s;obtain rfl:n2=r.tasks.length:=RdL.at1 (s:=⟨A2,n2,c2⟩) h.2;have h1:Cd.rd w w r.plan ⟨A1,n1,c1⟩:=h.1;have h2:Rd Fj w w (Aa A2 r.tasks.length c2) r.tasks:=Tn h.2;have jX:Ed r.plan<=2000000:=by unfold Cn at hl;omega
 have fH:r.tasks.length<=2000000:=Ah (Cj Dz _) (by unfold Cn at hl;omega);clear h hl;obtain ⟨W,aH,X,Z,B0⟩:=bx2 w 167 [J U r.id,J U r.plan.prio,J U r.plan.most,J U r.plan.wait,J U r.plan.tasks,Aa A1 n1 c1,J U r.state,Aa A2 r.tasks.length c2] 167 [J U 0,J U 0,J U 0,J U 0,J U 0,Aa Ab 0 0,J U 0,Aa Ab 0 0];obtain ⟨i0,aR,aX,aW,aU⟩:=info_parts Ov;go_enter func142,ntmps142;go_wp2_with fail
 rw [<-aH.out];clear aH;refine (Kj r.plan ⟨A1,n1,c1⟩ W jX (Cd.rd_more (Cd.rd_below h1 B0) B0.size)).mono ?_;rintro e w0 ⟨⟨A3,n3,c3⟩,F0,rfl,o0,n0,b0⟩;have hW:w.heap.size+2<=W.heap.size:=Z.lt;replace X:=X.below b0;replace Z:=Z.below b0;replace B0:=Bu B0 b0;obtain ⟨X_0,X_1,X_2,X_3,X_4,X_5,X_6,X_7,X_l⟩:=X.g8;obtain ⟨Z_0,Z_1,Z_2,Z_3,Z_4,Z_5,Z_6,Z_7,Z_l⟩:=Z.g8;have X_f:=X.free;have Z_f:=Z.free;have vC:w.heap.size∉F0:=fun hm=>by have:=n0 _ hm;omega
 have X1:DBox w [J U r.id,J U r.plan.prio,J U r.plan.most,J U r.plan.wait,J U r.plan.tasks,Aa A3 n3 c3,J U r.state,Aa A2 r.tasks.length c2] (((((w0.setCell ⟨w,1,Ab⟩ (J U r.plan.prio)).setCell ⟨w,2,Ab⟩ (J U r.plan.most)).setCell ⟨w,3,Ab⟩ (J U r.plan.wait)).setCell ⟨w,4,Ab⟩ (J U r.plan.tasks)).setCell ⟨w,5,Ab⟩ (Aa A3 n3 c3)):=((((X.set 1 Bn (J U r.plan.prio)).set 2 Bn (J U r.plan.most)).set 3 Bn (J U r.plan.wait)).set 4 Bn (J U r.plan.tasks)).set 5 Bn (Aa A3 n3 c3);have Z1:=((((Z.setOther (a:=⟨w,1,Ab⟩) Bn (J U r.plan.prio)).setOther (a:=⟨w,2,Ab⟩) Bn (J U r.plan.most)).setOther (a:=⟨w,3,Ab⟩) Bn (J U r.plan.wait)).setOther (a:=⟨w,4,Ab⟩) Bn (J U r.plan.tasks)).setOther (a:=⟨w,5,Ab⟩) Bn (Aa A3 n3 c3);have o1:Cd.ow (((((w0.setCell ⟨w,1,Ab⟩ (J U r.plan.prio)).setCell ⟨w,2,Ab⟩ (J U r.plan.most)).setCell ⟨w,3,Ab⟩ (J U r.plan.wait)).setCell ⟨w,4,Ab⟩ (J U r.plan.tasks)).setCell ⟨w,5,Ab⟩ (Aa A3 n3 c3)) F0 r.plan ⟨A3,n3,c3⟩:=by repeat (first | (with_reducible exact o0) | refine Dt.ow_set Cd ?_ vC _)
 have B1:Below w w (((((w0.setCell ⟨w,1,Ab⟩ (J U r.plan.prio)).setCell ⟨w,2,Ab⟩ (J U r.plan.most)).setCell ⟨w,3,Ab⟩ (J U r.plan.wait)).setCell ⟨w,4,Ab⟩ (J U r.plan.tasks)).setCell ⟨w,5,Ab⟩ (Aa A3 n3 c3)):=by repeat (first | (with_reducible exact B0) | refine Ad ?_ Bn _)
 have HZ3:=Bq (show (((((w0.setCell ⟨w,1,Ab⟩ (J U r.plan.prio)).setCell ⟨w,2,Ab⟩ (J U r.plan.most)).setCell ⟨w,3,Ab⟩ (J U r.plan.wait)).setCell ⟨w,4,Ab⟩ (J U r.plan.tasks)).setCell ⟨w,5,Ab⟩ (Aa A3 n3 c3)).heap.size=w0.heap.size by simp);go_wp2_with (at_builtin;generalize qS:(((((w0.setCell ⟨w,1,Ab⟩ (J U r.plan.prio)).setCell ⟨w,2,Ab⟩ (J U r.plan.most)).setCell ⟨w,3,Ab⟩ (J U r.plan.wait)).setCell ⟨w,4,Ab⟩ (J U r.plan.tasks)).setCell ⟨w,5,Ab⟩ (Aa A3 n3 c3))=W3 at *;clear qS X_0 X_1 X_2 X_3 X_4 X_5 X_6 X_7 X_l X_f Z_0 Z_1 Z_2 Z_3 Z_4 Z_5 Z_6 Z_7 Z_l Z_f X Z o0;have jY:=(Br W3 W3);refine Ch _ Fj Bp rfl (.const (Aa Ab 0 0)) (.tmp 8) rfl underlying165 aR aX aW aU rfl (v:=(Aa Ab 0 0)) (l:=[]) rfl (Ow.nil Fj 217 _ w0) rfl ((h2.below (Bu B1 jY)).more (Bu B1 jY).size) Bn Bl Bp (by have:=jY.size;have:=HZ3.out;omega) ?_;intro v1 w1 o5 g1 f1;rw [List.nil_append] at o5;have B31:Below W3 W3 w1:=jY.grown g1 jY.size (fun g hg=>by have:=HZ3.out;simp [Value.ownBlock] at hg<;>omega);clear f1 g1;obtain ⟨⟨A5,n5,c5⟩,F5,rfl,o6,n6⟩:=To o5;replace X1:=X1.below B31;replace Z1:=Z1.below B31;have y0:=X1.cell 0 _ rfl;have y1:=X1.cell 1 _ rfl;have y2:=X1.cell 2 _ rfl;have y3:=X1.cell 3 _ rfl;have y4:=X1.cell 4 _ rfl;have y5:=X1.cell 5 _ rfl;have y6:=X1.cell 6 _ rfl;have y7:=X1.cell 7 _ rfl;have yf:=X1.free;have yl:=X1.lt;have z0:=Z1.cell 0 _ rfl;have z1:=Z1.cell 1 _ rfl;have z2:=Z1.cell 2 _ rfl;have z3:=Z1.cell 3 _ rfl;have z4:=Z1.cell 4 _ rfl;have z5:=Z1.cell 5 _ rfl;have z6:=Z1.cell 6 _ rfl;have z7:=Z1.cell 7 _ rfl;have zf:=Z1.free;have zl:=Z1.lt)
 have B2:=Bu B1 B31;have o7:=Cd.ow_below o1 B31;have uH:=HZ3.out;have aL:=b0.size;have l0:∀ b∈F0,b<w0:=fun b hb=>by have:=Cd.ow_lt o1 b hb;omega
 refine bodyPost_ret (v:=Gt r (⟨A3,n3,c3⟩,⟨A5,n5,c5⟩)) ?_ rfl ?_
 ·simp [Gt,results,results142,go_sem,z0,z1,z2,z3,z4,z5,z6,z7]
 ·refine ⟨(⟨A3,n3,c3⟩,⟨A5,n5,c5⟩),F0 ++ F5,rfl,⟨F0,F5,rfl,?_,?_,?_⟩,?_,?_⟩
  ·rw [Ax];refine ⟨Cd.ow_nodup o1,o6.nodup,fun u hu u' hu' e=>?_⟩
   have:=l0 u hu
   have:=n6 u' hu'
   omega
  ·have fY:w.heap.size+1∉F0:=fun hm=>by have:=n0 _ hm;omega
   repeat (first | (with_reducible exact o7) | refine Dt.ow_set Cd ?_ (by first | exact vC | exact fY) _)
  ·have pQ:w.heap.size∉F5:=fun hm=>by have:=n6 _ hm;omega
   have fY:w.heap.size+1∉F5:=fun hm=>by have:=n6 _ hm;omega
   show OwL C7 _ F5 (Aa A5 n5 c5) r.tasks;repeat (first | (with_reducible exact o6) | refine OwL.set ?_ (by first | exact pQ | exact fY) _)
  ·intro b hb;rcases Bi.1 hb with hb | hb
   ·have:=n0 b hb;omega
   ·have:=n6 b hb;omega
  ·repeat (first | (with_reducible exact B2) | refine Ad ?_ (by first | (simp;done) | (simp;omega)) _)
theorem Ih (r:Run) (s:Sl×Sl) (w:World) (hl:Cn r<=2000000) (h:Ce.rd w w r s) :
  Calls Am 143 #[Gt r s] w (Df Ce Gt r w):=by
 obtain ⟨⟨A1,n1,c1⟩,⟨A2,n2,c2⟩⟩:=s;obtain rfl:n2=r.tasks.length:=RdL.at1 (s:=⟨A2,n2,c2⟩) h.2;have h1:Cd.rd w w r.plan ⟨A1,n1,c1⟩:=h.1;have h2:Rd Fj w w (Aa A2 r.tasks.length c2) r.tasks:=Tn h.2;have jX:Ed r.plan<=2000000:=by unfold Cn at hl;omega
 have fH:r.tasks.length<=2000000:=Ah (Cj Dz _) (by unfold Cn at hl;omega);clear h hl;obtain ⟨W,aH,X,Z,B0⟩:=bx2 w 167 [J U r.id,J U r.plan.prio,J U r.plan.most,J U r.plan.wait,J U r.plan.tasks,Aa A1 n1 c1,J U r.state,Aa A2 r.tasks.length c2] 167 [J U 0,J U 0,J U 0,J U 0,J U 0,Aa Ab 0 0,J U 0,Aa Ab 0 0];obtain ⟨i0,aR,aX,aW,aU⟩:=info_parts Ov;go_enter func143,ntmps143;go_wp2_with fail
 rw [<-aH.out];clear aH;refine (Kk r.plan ⟨A1,n1,c1⟩ W jX (Cd.rd_more (Cd.rd_below h1 B0) B0.size)).mono ?_;rintro e w0 ⟨⟨A3,n3,c3⟩,F0,rfl,o0,n0,b0⟩;have hW:w.heap.size+2<=W.heap.size:=Z.lt;replace X:=X.below b0;replace Z:=Z.below b0;replace B0:=Bu B0 b0;obtain ⟨X_0,X_1,X_2,X_3,X_4,X_5,X_6,X_7,X_l⟩:=X.g8;obtain ⟨Z_0,Z_1,Z_2,Z_3,Z_4,Z_5,Z_6,Z_7,Z_l⟩:=Z.g8;have X_f:=X.free;have Z_f:=Z.free;have vC:w.heap.size∉F0:=fun hm=>by have:=n0 _ hm;omega
 have X1:DBox w [J U r.id,J U r.plan.prio,J U r.plan.most,J U r.plan.wait,J U r.plan.tasks,Aa A3 n3 c3,J U r.state,Aa A2 r.tasks.length c2] (((((w0.setCell ⟨w,1,Ab⟩ (J U r.plan.prio)).setCell ⟨w,2,Ab⟩ (J U r.plan.most)).setCell ⟨w,3,Ab⟩ (J U r.plan.wait)).setCell ⟨w,4,Ab⟩ (J U r.plan.tasks)).setCell ⟨w,5,Ab⟩ (Aa A3 n3 c3)):=((((X.set 1 Bn (J U r.plan.prio)).set 2 Bn (J U r.plan.most)).set 3 Bn (J U r.plan.wait)).set 4 Bn (J U r.plan.tasks)).set 5 Bn (Aa A3 n3 c3);have Z1:=((((Z.setOther (a:=⟨w,1,Ab⟩) Bn (J U r.plan.prio)).setOther (a:=⟨w,2,Ab⟩) Bn (J U r.plan.most)).setOther (a:=⟨w,3,Ab⟩) Bn (J U r.plan.wait)).setOther (a:=⟨w,4,Ab⟩) Bn (J U r.plan.tasks)).setOther (a:=⟨w,5,Ab⟩) Bn (Aa A3 n3 c3);have o1:Cd.ow (((((w0.setCell ⟨w,1,Ab⟩ (J U r.plan.prio)).setCell ⟨w,2,Ab⟩ (J U r.plan.most)).setCell ⟨w,3,Ab⟩ (J U r.plan.wait)).setCell ⟨w,4,Ab⟩ (J U r.plan.tasks)).setCell ⟨w,5,Ab⟩ (Aa A3 n3 c3)) F0 r.plan ⟨A3,n3,c3⟩:=by repeat (first | (with_reducible exact o0) | refine Dt.ow_set Cd ?_ vC _)
 have B1:Below w w (((((w0.setCell ⟨w,1,Ab⟩ (J U r.plan.prio)).setCell ⟨w,2,Ab⟩ (J U r.plan.most)).setCell ⟨w,3,Ab⟩ (J U r.plan.wait)).setCell ⟨w,4,Ab⟩ (J U r.plan.tasks)).setCell ⟨w,5,Ab⟩ (Aa A3 n3 c3)):=by repeat (first | (with_reducible exact B0) | refine Ad ?_ Bn _)
 have HZ3:=Bq (show (((((w0.setCell ⟨w,1,Ab⟩ (J U r.plan.prio)).setCell ⟨w,2,Ab⟩ (J U r.plan.most)).setCell ⟨w,3,Ab⟩ (J U r.plan.wait)).setCell ⟨w,4,Ab⟩ (J U r.plan.tasks)).setCell ⟨w,5,Ab⟩ (Aa A3 n3 c3)).heap.size=w0.heap.size by simp);go_wp2_with (at_builtin;generalize qS:(((((w0.setCell ⟨w,1,Ab⟩ (J U r.plan.prio)).setCell ⟨w,2,Ab⟩ (J U r.plan.most)).setCell ⟨w,3,Ab⟩ (J U r.plan.wait)).setCell ⟨w,4,Ab⟩ (J U r.plan.tasks)).setCell ⟨w,5,Ab⟩ (Aa A3 n3 c3))=W3 at *;clear qS X_0 X_1 X_2 X_3 X_4 X_5 X_6 X_7 X_l X_f Z_0 Z_1 Z_2 Z_3 Z_4 Z_5 Z_6 Z_7 Z_l Z_f X Z o0;have jY:=((Br W3 W3).alloc (Bs _) (.cells #[] 217));refine Ch _ Fj Bp rfl (.tmp 7) (.tmp 9) rfl underlying165 aR aX aW aU rfl (v:=(Aa (Ac ⟨w0,0,Ab⟩) 0 0)) (l:=[]) rfl (Ow.empty Fj 217 W3 HZ3.out.symm) rfl ((h2.below (Bu B1 jY)).more (Bu B1 jY).size) Bn Bl Bp (by have:=jY.size;have:=HZ3.out;omega) ?_;intro v1 w1 o5 g1 f1;rw [List.nil_append] at o5;have B31:Below W3 W3 w1:=jY.grown g1 jY.size (fun g hg=>by have:=HZ3.out;simp [Value.ownBlock] at hg<;>omega);clear f1 g1;obtain ⟨⟨A5,n5,c5⟩,F5,rfl,o6,n6⟩:=To o5;replace X1:=X1.below B31;replace Z1:=Z1.below B31;have y0:=X1.cell 0 _ rfl;have y1:=X1.cell 1 _ rfl;have y2:=X1.cell 2 _ rfl;have y3:=X1.cell 3 _ rfl;have y4:=X1.cell 4 _ rfl;have y5:=X1.cell 5 _ rfl;have y6:=X1.cell 6 _ rfl;have y7:=X1.cell 7 _ rfl;have yf:=X1.free;have yl:=X1.lt;have z0:=Z1.cell 0 _ rfl;have z1:=Z1.cell 1 _ rfl;have z2:=Z1.cell 2 _ rfl;have z3:=Z1.cell 3 _ rfl;have z4:=Z1.cell 4 _ rfl;have z5:=Z1.cell 5 _ rfl;have z6:=Z1.cell 6 _ rfl;have z7:=Z1.cell 7 _ rfl;have zf:=Z1.free;have zl:=Z1.lt)
 have B2:=Bu B1 B31;have o7:=Cd.ow_below o1 B31;have uH:=HZ3.out;have aL:=b0.size;have l0:∀ b∈F0,b<w0:=fun b hb=>by have:=Cd.ow_lt o1 b hb;omega
 refine bodyPost_ret (v:=Gt r (⟨A3,n3,c3⟩,⟨A5,n5,c5⟩)) ?_ rfl ?_
 ·simp [Gt,results,results143,go_sem,z0,z1,z2,z3,z4,z5,z6,z7]
 ·refine ⟨(⟨A3,n3,c3⟩,⟨A5,n5,c5⟩),F0 ++ F5,rfl,⟨F0,F5,rfl,?_,?_,?_⟩,?_,?_⟩
  ·rw [Ax];refine ⟨Cd.ow_nodup o1,o6.nodup,fun u hu u' hu' e=>?_⟩
   have:=l0 u hu
   have:=n6 u' hu'
   omega
  ·have fY:w.heap.size+1∉F0:=fun hm=>by have:=n0 _ hm;omega
   repeat (first | (with_reducible exact o7) | refine Dt.ow_set Cd ?_ (by first | exact vC | exact fY) _)
  ·have pQ:w.heap.size∉F5:=fun hm=>by have:=n6 _ hm;omega
   have fY:w.heap.size+1∉F5:=fun hm=>by have:=n6 _ hm;omega
   show OwL C7 _ F5 (Aa A5 n5 c5) r.tasks;repeat (first | (with_reducible exact o6) | refine OwL.set ?_ (by first | exact pQ | exact fY) _)
  ·intro b hb;rcases Bi.1 hb with hb | hb
   ·have:=n0 b hb;omega
   ·have:=n6 b hb;omega
  ·repeat (first | (with_reducible exact B2) | refine Ad ?_ (by first | (simp;done) | (simp;omega)) _)
theorem Aa4 {l:List Note} {k:Nat} (h:k<l.length) (q:Int):Ea (l.drop k) q=if l[k].seq<=q then Ea (l.drop (k+1)) q else if l[k].seq - 1=q then l[k] :: Ea (l.drop (k+1)) l[k].seq else []:=by
 rw [List.drop_eq_getElem_cons h,Ea]
theorem Lj:∀ (l:List Note) (q:Int),D8 Cz (Ea l q)<=D8 Cz l
 | [],q=>by simp [Ea,D8]
 | x :: l,q=>by
  have e:∀ (x:Note) l,D8 Cz (x :: l)=1+Cz x+D8 Cz l:=fun x l=>by unfold D8;simp;omega
  have h1:=Lj l q;have h2:=Lj l x.seq;rw [Ea,e];split
  ·omega
  ·split
   ·rw [e];omega
   ·simp [D8]
theorem Wv (l:List Note) (s:Sl) (q:Int) (w:World) (hl:D8 Cz l<=2000000) (hq:0<=q/\q<=9223372036854775807) (hw:∀ x∈l,x.seq<=9223372036854775807) (h:RdL Ct w w s.v l) :
  Calls Am 89 #[Aa s.a s.n s.c,J U q] w (Df (Dt.list Ct) slV (Ea l q) w):=by
 obtain ⟨A,n,c⟩:=s;obtain ⟨A',c',hv,-⟩:=h.form;simp only [Sl.v,Value.slice.injEq] at hv;obtain ⟨rfl,rfl,rfl⟩:=hv;have bZ:l.length<=2000000:=Ah (Cj _ _) hl;have dH:∀ k (hk:k<l.length),Cz l[k]<=2000000:=fun k hk=>by have:=C9 (cnt:=Cz) (Aw hk);omega
 have hww:=Bq (fun k (hk:k<l.length)=>hw _ (Aw hk));clear hl hw;obtain ⟨i0,aR,aX,aW,aU⟩:=info_parts P6;go_enter func89,ntmps89;go_wp2;go_loopw [5,6,12] (fun t lastv i wr=>∃ (k:Nat) (v:Value) (u:Int) (acc:List Note),k<=l.length/\i = J U k/\v=t/\lastv = J U u/\0<=u/\acc.length<=k/\Hid (Ea l q=acc ++ Ea (l.drop k) u)/\Hid (Bls Ct 125 wr w v acc)/\Below w w wr) (fun _ _ i _=>l.length - (intOf i).toNat);case atStart=>exact ⟨0,_,q,[],Ag _,rfl,rfl,rfl,hq.1,Bs _,(by show Ea l q=_;simp),⟨[],rfl,Bld.nil _ _ _ _⟩,Br _ _⟩
 case round =>
  clear hq;obtain ⟨k,v,u,acc,hk,rfl,rfl,rfl,hu0,hak,hS,eF,hb⟩:=hrel;by_cases aA:k<l.length
  ·obtain ⟨b,o,s',rfl,aK,hr,c0,c1,c2,c3,c4,c5,c6,c7,c8,c9,c10,c11⟩:=(h.below hb).note aA;have hx:∀ W,Below wr wr W->Ct.rd W W l[k] s':=fun W hW=>Ct.rd_more (Ct.rd_below (Ct.rd_more hr hb.size) hW) hW.size;have aB:(k:Int)<(l.length:Int):=Bl;have aL:b<wr:=by have:=hb.size;omega
   have hat:=Bq (Aa4 aA u);have rK:=hww.out k aA;by_cases h1:l[k].seq<=u
   ·have e1:=Bq (show Ea l q=acc ++ Ea (l.drop (k+1)) u by rw [hS.out,hat.out,if_pos h1]);go_wp2;exact ⟨⟨k+1,_,u,acc,Bl,by go_num,rfl,rfl,hu0,Bl,e1,⟨eF.out.choose,eF.out.choose_spec.1,eF.out.choose_spec.2.below (Bt)⟩,hb.alloc (hb.size) _⟩,by simp [intOf];omega⟩
   have ew:U.wrap (l[k].seq - 1)=l[k].seq - 1:=Aq _ Bl;by_cases h2:l[k].seq - 1=u;case neg =>
    have h2':(l[k].seq - 1 == u)=false:=beq_eq_false_iff_ne.2 h2;have e1:=Bq (show Ea l q=acc by rw [hS.out,hat.out,if_neg h1,if_neg h2,List.append_nil]);clear h2;go_wp2;go_ret;have h3:=eF.out;rw [<-e1.out] at h3;obtain ⟨rs,hm,hB⟩:=h3;exact (show Bls Ct 125 _ _ _ _ from ⟨rs,hm,hB.below (Bt)⟩).own (hb.alloc hb.size _)
   have e1:=Bq (show Ea l q=(acc ++ [l[k]]) ++ Ea (l.drop (k+1)) l[k].seq by rw [hS.out,hat.out,if_neg h1,if_pos h2,List.append_assoc,List.singleton_append]);have rP:0<=l[k].seq:=Bl;have hB1:=eF.out;obtain ⟨rs,hm,hB⟩:=hB1;have bG:rs.length=acc.length:=by have:=congrArg List.length hm;simpa using this
   have hO:=hB.ow;have bM:=hb.size;subst h2;have B1:=(Br wr wr).alloc (Bs _) (.cells #[J U l[k].seq,J U l[k].deed.kind,J U l[k].deed.run,J U l[k].deed.plan.prio,J U l[k].deed.plan.most,J U l[k].deed.plan.wait,J U l[k].deed.plan.tasks,Aa s'.a s'.n s'.c,J U l[k].deed.task,J U l[k].deed.try_,J U l[k].deed.worker,J U l[k].deed.draw] 125);have X:=DBox.new 125 [J U l[k].seq,J U l[k].deed.kind,J U l[k].deed.run,J U l[k].deed.plan.prio,J U l[k].deed.plan.most,J U l[k].deed.plan.wait,J U l[k].deed.plan.tasks,Aa s'.a s'.n s'.c,J U l[k].deed.task,J U l[k].deed.try_,J U l[k].deed.worker,J U l[k].deed.draw] wr rfl;go_wp2_with (first | (go_at_call 160;refine (Rm l[k] s' _ (dH k aA) (hx _ B1)).mono ?_;rintro e w2 ⟨s2,F2,rfl,o2,n2,b2⟩;have B2:=Bu B1 b2;have z2:=b2.size;(try simp only [Bj] at z2 n2);have X2:=X.below b2;have B2a:=(Br w2 w2).alloc (Bs _) (.cells (Ct.enc.cells (l[k],s2)).toArray 125);have x0:=(X2.below B2a).cell 0 _ rfl) | (at_builtin;go_loud (refine Ch _ Ct.enc Bp rfl (.tmp 25) (.tmp 28) rfl underlying57 aR aX aW aU rfl (v:=v) (l:=rs) rfl (hO.below (B2.alloc Bl _)) rfl (Rd.one Ct.enc _ _ (l[k],s2) rfl rfl 1 (Bs _) (Nat.lt_succ_self _)) Bl Bn Bp (by (try simp only [Bj]);omega) ?_);intro v5 w5 o5 g5 f5;go_loud (have x5:w5.cell? ⟨wr,0,Ab⟩=Ac (J U l[k].seq):=(g5.cell_far ⟨wr,0,Ab⟩ (by simp;omega) (fun e=>by (have h6:wr.heap.size<wr.heap.size:=(hO.within _ e.symm).2);omega)).trans x0);go_loud (have x5l:wr.heap.size<w5.heap.size:=(by have:=g5.size;simp at this;omega))))
   have hP:=Bld.push1 hB B2 o2 (fun b aV=>by have:=n2 b aV;omega) bM (Bt) o5 g5 f5;exact ⟨⟨k+1,v5,l[k].seq,acc ++ [l[k]],Bl,by go_num,rfl,rfl,rP,by simp;omega,e1,⟨rs ++ [(l[k],s2)],by rw [List.map_append,hm];rfl,hP⟩,((hb.trans (B2.mono hb.size)).alloc Bl _).grown g5 Bo (fun g hg=>(hO.within g hg).1)⟩,by simp [intOf];omega⟩
  ·have aB:¬ (k:Int)<(l.length:Int):=Bl;have e1:=Bq (show Ea l q=acc by rw [hS.out,List.drop_eq_nil_of_le Bl,Ea,List.append_nil]);go_wp2;go_ret;have h1:=eF.out;rw [<-e1.out] at h1;exact h1.own hb
theorem Ww (l:List Note) (s:Sl) (q:Int) (w:World) (hl:D8 Cz l<=2000000) (hq:0<=q/\q<=9223372036854775807) (hw:∀ x∈l,x.seq<=9223372036854775807) (h:RdL Ct w w s.v l) :
  Calls Am 85 #[Aa s.a s.n s.c,J U q] w (Df (Dt.list Ct) slV (Ea l q) w):=by
 obtain ⟨A,n,c⟩:=s;obtain ⟨A',c',hv,-⟩:=h.form;simp only [Sl.v,Value.slice.injEq] at hv;obtain ⟨rfl,rfl,rfl⟩:=hv;have bZ:l.length<=2000000:=Ah (Cj _ _) hl;have dH:∀ k (hk:k<l.length),Cz l[k]<=2000000:=fun k hk=>by have:=C9 (cnt:=Cz) (Aw hk);omega
 have hww:=Bq (fun k (hk:k<l.length)=>hw _ (Aw hk));clear hl hw;obtain ⟨i0,aR,aX,aW,aU⟩:=info_parts P6;go_enter func85,ntmps85;go_wp2;go_loopw [1,5,6] (fun lastv t i wr=>∃ (k:Nat) (v:Value) (u:Int) (acc:List Note),k<=l.length/\i = J U k/\v=t/\lastv = J U u/\0<=u/\acc.length<=k/\Hid (Ea l q=acc ++ Ea (l.drop k) u)/\Hid (Bls Ct 125 wr w v acc)/\Below w w wr) (fun _ _ i _=>l.length - (intOf i).toNat);case atStart=>exact ⟨0,_,q,[],Ag _,rfl,rfl,rfl,hq.1,Bs _,(by show Ea l q=_;simp),⟨[],rfl,Bld.of_empty (Ow.empty Ct.enc 125 w rfl)⟩,Bt⟩
 case round =>
  clear hq;obtain ⟨k,v,u,acc,hk,rfl,rfl,rfl,hu0,hak,hS,eF,hb⟩:=hrel;by_cases aA:k<l.length
  ·obtain ⟨b,o,s',rfl,aK,hr,c0,c1,c2,c3,c4,c5,c6,c7,c8,c9,c10,c11⟩:=(h.below hb).note aA;have hx:∀ W,Below wr wr W->Ct.rd W W l[k] s':=fun W hW=>Ct.rd_more (Ct.rd_below (Ct.rd_more hr hb.size) hW) hW.size;have aB:(k:Int)<(l.length:Int):=Bl;have aL:b<wr:=by have:=hb.size;omega
   have hat:=Bq (Aa4 aA u);have rK:=hww.out k aA;by_cases h1:l[k].seq<=u
   ·have e1:=Bq (show Ea l q=acc ++ Ea (l.drop (k+1)) u by rw [hS.out,hat.out,if_pos h1]);go_wp2;exact ⟨⟨k+1,_,u,acc,Bl,by go_num,rfl,rfl,hu0,Bl,e1,⟨eF.out.choose,eF.out.choose_spec.1,eF.out.choose_spec.2⟩,hb⟩,by simp [intOf];omega⟩
   have ew:U.wrap (l[k].seq - 1)=l[k].seq - 1:=Aq _ Bl;by_cases h2:l[k].seq - 1=u;case neg =>
    have h2':(l[k].seq - 1 == u)=false:=beq_eq_false_iff_ne.2 h2;have e1:=Bq (show Ea l q=acc by rw [hS.out,hat.out,if_neg h1,if_neg h2,List.append_nil]);clear h2;go_wp2;go_ret;have h3:=eF.out;rw [<-e1.out] at h3;exact h3.own hb
   have e1:=Bq (show Ea l q=(acc ++ [l[k]]) ++ Ea (l.drop (k+1)) l[k].seq by rw [hS.out,hat.out,if_neg h1,if_pos h2,List.append_assoc,List.singleton_append]);have rP:0<=l[k].seq:=Bl;have hB1:=eF.out;obtain ⟨rs,hm,hB⟩:=hB1;have bG:rs.length=acc.length:=by have:=congrArg List.length hm;simpa using this
   have hO:=hB.ow;have bM:=hb.size;subst h2;have B1:=Br wr wr;go_wp2_with (first | (go_at_call 157;refine (Ys l[k] s' _ (dH k aA) (hx _ B1)).mono ?_;rintro e w2 ⟨s2,F2,rfl,o2,n2,b2⟩;have B2:=Bu B1 b2;have z2:=b2.size;(try simp only [Bj] at z2 n2)) | (at_builtin;refine Ch _ Ct.enc Bp rfl (.tmp 34) (.tmp 40) rfl underlying57 aR aX aW aU rfl (v:=v) (l:=rs) rfl (hO.below (B2.alloc Bl _)) rfl (Rd.one Ct.enc _ _ (l[k],s2) rfl rfl 1 (Bs _) (Nat.lt_succ_self _)) Bl Bn Bp (by (try simp only [Bj]);omega) ?_;intro v5 w5 o5 g5 f5))
   have hP:=Bld.push1 hB B2 o2 (fun b aV=>by have:=n2 b aV;omega) bM (Bt) o5 g5 f5;exact ⟨⟨k+1,v5,l[k].seq,acc ++ [l[k]],Bl,by go_num,rfl,rfl,rP,by simp;omega,e1,⟨rs ++ [(l[k],s2)],by rw [List.map_append,hm];rfl,hP⟩,((hb.trans (B2.mono hb.size)).alloc Bl _).grown g5 Bo (fun g hg=>(hO.within g hg).1)⟩,by simp [intOf];omega⟩
  ·have aB:¬ (k:Int)<(l.length:Int):=Bl;have e1:=Bq (show Ea l q=acc by rw [hS.out,List.drop_eq_nil_of_le Bl,Ea,List.append_nil]);go_wp2;go_ret;have h1:=eF.out;rw [<-e1.out] at h1;exact h1.own hb
theorem Yz (s k:Int) (hk:k≠0):decide (s=k/\s≠0)=(s == k):=by
 by_cases h:s=k
 ·subst h;simp [hk]
 ·simp [h]
theorem Y0 (s:Int):decide (s=0/\s≠0)=false:=Bn
theorem Aa5 {r:Run} (h1:inB r.id 1 9999=true) (h2:Cs r.plan=0) (h3:(r.tasks.length:Int)=r.plan.tasks) (h4:∀ t,t<r.tasks.length->Hk r t) :
  tf (Hd r)=decide (r.state=stL r.tasks/\r.state≠0):=by
 rw [Bool.eq_iff_iff,Mj,decide_eq_true_eq];unfold Hd;exact ⟨fun h=>h.2.2.2.2,fun h=>⟨Cw.1 h1,h2,h3,h4,h⟩⟩
theorem Af4 {r:Run} (h4:∀ t,t<r.tasks.length->Hk r t):Dv r.tasks 1+Dv r.tasks 2+Dv r.tasks 3+Dv r.tasks 4+Dv r.tasks 5+Dv r.tasks 6=r.tasks.length:=by
 have:=Af2 (l:=r.tasks) (fun x hx=>by
  obtain ⟨t,ht,rfl⟩:=List.getElem_of_mem hx
  have:=(h4 t ht).1
  rwa [Cu ht] at this)
 unfold K6 at this;exact this
theorem Km (r:Run) (s:Sl×Sl) (st:Int) (w:World) (hl:r.tasks.length<=2000000) (h:Ce.rd w w r s) :
  Calls Am 180 #[Gt r s,J U st] w fun e w'=>∃ A c,e = .returned (Aa A (Dv r.tasks st) c)/\Below w w w' :=
 (Ig r s st w hl h).mono fun e w' ⟨v,he,ho,hb⟩=>by
  obtain ⟨A,c,hv,-⟩:=id (Rd.of_own ho);rw [Sc] at hv;exact ⟨A,c,by rw [he,hv],hb⟩
theorem Pn (r:Run) (s:Sl×Sl) (w:World) (hl:Cn r<=2000000) (h:Ce.rd w w r s) :
  Calls Am 135 #[Gt r s] w fun e w'=>e = .returned (.bool (tf (Hd r)))/\Below w w w':=by
 have HR:=Bq (show ∀ W,Below w w W->Ce.rd W W r s from fun W hW=>Ce.rd_more (Ce.rd_below h hW) hW.size);obtain ⟨⟨A1,n1,c1⟩,⟨A2,n2,c2⟩⟩:=s;obtain rfl:n2=r.tasks.length:=RdL.at1 (s:=⟨A2,n2,c2⟩) h.2;have h1:Rd G6 w w (Aa A1 n1 c1) r.plan.edges:=Ir h.1;have jX:r.plan.edges.length<=2000000:=Ah (Cj Eb _) (by unfold Cn Ed at hl;omega);have fH:r.tasks.length<=2000000:=Ah (Cj Dz _) (by unfold Cn at hl;omega);clear h hl;have X:=DBox.new 167 [J U r.id,J U r.plan.prio,J U r.plan.most,J U r.plan.wait,J U r.plan.tasks,Aa A1 n1 c1,J U r.state,Aa A2 r.tasks.length c2] w (b:=w) rfl;have B0:Below w w (w.alloc (.cells #[J U r.id,J U r.plan.prio,J U r.plan.most,J U r.plan.wait,J U r.plan.tasks,Aa A1 n1 c1,J U r.state,Aa A2 r.tasks.length c2] 167)):=by repeat (first | exact Br _ _ | refine Ae ?_ Bo _)
 have C1:=Ho r.plan (Aa A1 n1 c1) (w.alloc (.cells #[J U r.id,J U r.plan.prio,J U r.plan.most,J U r.plan.wait,J U r.plan.tasks,Aa A1 n1 c1,J U r.state,Aa A2 r.tasks.length c2] 167)) jX ((h1.below B0).more B0.size);cases a1:inB r.id 1 9999;case false =>
  have H:=Bq (show tf (Hd r)=false from Ci (fun h=>by have:=Cw.2 h.1;rw [a1] at this;cases this));go_enter func135,ntmps135;go_wp2_with (go_at_call 56;refine (Co _ _ _ _).mono ?_;rintro e w' ⟨rfl,rfl⟩)
  go_ret;exact ⟨Bw H.out.symm,B0⟩
 by_cases e2:Cs r.plan=0;case neg =>
  have a2:(Cs r.plan != 0)=true:=by simp [e2]
  have H:=Bq (show tf (Hd r)=false from Ci (fun h=>e2 h.2.1));clear e2;go_enter func135,ntmps135;go_wp2_with (first | (go_at_call 56;refine (Co _ _ _ _).mono ?_;rintro e w' ⟨rfl,rfl⟩) | (go_at_call 176;refine C1.mono ?_;rintro e w1 ⟨rfl,b1⟩;have q1:=(Gl b1).1))
  go_ret;exact ⟨Bw H.out.symm,Bu B0 b1⟩
 have E2:=Bq e2;rw [e2] at C1;clear e2;by_cases e3:(r.tasks.length:Int)=r.plan.tasks;case neg =>
  have a3:((r.tasks.length:Int) != r.plan.tasks)=true:=by simp [e3]
  have H:=Bq (show tf (Hd r)=false from Ci (fun h=>e3 h.2.2.1));clear e3;go_enter func135,ntmps135;have X_3:=X.cell 3 _ rfl;have X_4:=X.cell 4 _ rfl;have X_7:=X.cell 7 _ rfl;have X_l:=X.lt;go_wp2_with fail
  go_wp2_with (first | (go_at_call 56;refine (Co _ _ _ _).mono ?_;rintro e w' ⟨rfl,rfl⟩) | (go_at_call 176;refine C1.mono ?_;rintro e w1 ⟨rfl,b1⟩;have q1:=fun j=>(Gl b1).1 w.heap.size j X_l))
  go_ret;exact ⟨Bw H.out.symm,Bu B0 b1⟩
 have a3:((r.tasks.length:Int) != r.plan.tasks)=false:=by simp [e3]
 have E3:=Bq e3;clear e3;have X_l:=X.lt;go_enter func135,ntmps135;go_wp2_with fail
 go_wp2_with (first | (go_at_call 56;refine (Co _ _ _ _).mono ?_;rintro e w' ⟨rfl,rfl⟩) | (go_at_call 176;refine C1.mono ?_;rintro e w1 ⟨rfl,b1⟩;have q1:=fun j=>(Gl b1).1 w.heap.size j X_l))
 clear q1;replace X:=X.below b1;replace B0:=Bu B0 b1;clear X_l C1 b1 a3;have A1_:=Bq a1;clear a1;go_loopw [30] (fun i wr=>∃ k:Nat,k<=r.tasks.length/\i = J U k/\Hid (∀ t,t<k->Hk r t)/\Below w1 w1 wr) (fun i _=>r.tasks.length - (intOf i).toNat);case atStart=>exact ⟨0,Ag _,rfl,fun t ht=>absurd ht Bl,Br _ _⟩
 case round =>
  obtain ⟨k,hk,rfl,bL,hb⟩:=hrel;replace X:=X.below hb;replace B0:=Bu B0 hb;obtain ⟨X_0,X_1,X_2,X_3,X_4,X_5,X_6,X_7,X_l⟩:=X.g8;by_cases aA:k<r.tasks.length
  ·have aB:(k:Int)<(r.tasks.length:Int):=Bl;have C:=U5 r (⟨A1,n1,c1⟩,⟨A2,r.tasks.length,c2⟩) k wr E2.out E3.out aA (HR.out _ B0);by_cases tk:Hk r k
   ·have S:Hid (∀ t,t<k+1->Hk r t):=by
     intro t ht;by_cases e:t=k
     ·subst e;exact tk
     ·exact bL.out t Bl
    rw [Dp tk] at C;clear tk;go_wp2_with fail
    refine C.mono ?_;rintro e w2 ⟨rfl,b2⟩;go_wp2;exact ⟨⟨k+1,Bl,by go_num,S,Bu hb b2⟩,by simp [intOf];omega⟩
   ·have H:=Bq (show tf (Hd r)=false from Ci (fun h=>tk (h.2.2.2.1 k aA)));rw [Ci tk] at C;clear tk;go_wp2_with fail
    refine C.mono ?_;rintro e w2 ⟨rfl,b2⟩;go_wp2;go_ret;exact ⟨Bw H.out.symm,Bu B0 b2⟩
  ·have aB:¬ (k:Int)<(r.tasks.length:Int):=Bl;have bF:k=r.tasks.length:=Bl;subst bF;have HF:=Bq (Aa5 A1_.out E2.out E3.out bL.out);have HI:=Bq (Ad7 r.tasks);have HSum:=Bq (Af4 bL.out);go_wp2;go_region_held3 (fun w'=>w'.cell? ⟨w,0,Ab⟩=Ac (J U r.id)/\w'.cell? ⟨w,1,Ab⟩=Ac (J U r.plan.prio)/\w'.cell? ⟨w,2,Ab⟩=Ac (J U r.plan.most)/\w'.cell? ⟨w,3,Ab⟩=Ac (J U r.plan.wait)/\w'.cell? ⟨w,4,Ab⟩=Ac (J U r.plan.tasks)/\w'.cell? ⟨w,5,Ab⟩=Ac (Aa A1 n1 c1)/\w'.cell? ⟨w,6,Ab⟩=Ac (J U r.state)/\w'.cell? ⟨w,7,Ab⟩=Ac (Aa A2 r.tasks.length c2))
    (first | (refine ⟨?_,?_,?_,?_,?_,?_,?_,?_⟩<;>first | assumption | go_keep) | go_keep)
    (first
     | (go_at_call 180;(with_reducible refine (Km r (⟨A1,n1,c1⟩,⟨A2,r.tasks.length,c2⟩) 4 _ fH (HR.out _ B0.drew)).mono ?_);rintro e w5 ⟨A5,c5,rfl,b5⟩;have B5:=Bu B0 (Bu ((Br wr wr).drew) b5);have X5:=X.below (Bu ((Br wr wr).drew) b5);have x50:=X5.cell 0 _ rfl;have x51:=X5.cell 1 _ rfl;have x52:=X5.cell 2 _ rfl;have x53:=X5.cell 3 _ rfl;have x54:=X5.cell 4 _ rfl;have x55:=X5.cell 5 _ rfl;have x56:=X5.cell 6 _ rfl;have x57:=X5.cell 7 _ rfl;have x5l:=X5.lt)
     | (go_at_call 180;(with_reducible refine (Km r (⟨A1,n1,c1⟩,⟨A2,r.tasks.length,c2⟩) 5 _ fH (HR.out _ B5)).mono ?_);rintro e w6 ⟨A6,c6,rfl,b6⟩;have B6:=Bu B5 b6;have X6:=X5.below b6;have x60:=X6.cell 0 _ rfl;have x61:=X6.cell 1 _ rfl;have x62:=X6.cell 2 _ rfl;have x63:=X6.cell 3 _ rfl;have x64:=X6.cell 4 _ rfl;have x65:=X6.cell 5 _ rfl;have x66:=X6.cell 6 _ rfl;have x67:=X6.cell 7 _ rfl;have x6l:=X6.lt)
     | (go_at_call 180;(with_reducible refine (Km r (⟨A1,n1,c1⟩,⟨A2,r.tasks.length,c2⟩) 6 _ fH (HR.out _ B6)).mono ?_);rintro e w7 ⟨A7,c7,rfl,b7⟩;have B7:=Bu B6 b7;have X7:=X6.below b7;have x70:=X7.cell 0 _ rfl;have x71:=X7.cell 1 _ rfl;have x72:=X7.cell 2 _ rfl;have x73:=X7.cell 3 _ rfl;have x74:=X7.cell 4 _ rfl;have x75:=X7.cell 5 _ rfl;have x76:=X7.cell 6 _ rfl;have x77:=X7.cell 7 _ rfl;have x7l:=X7.lt))
   clear X_0 X_1 X_2 X_3 X_4 X_5 X_6 X_7 X_l x50 x51 x52 x53 x54 x55 x56 x57 x5l x60 x61 x62 x63 x64 x65 x66 x67 x6l;have jU:((Dv r.tasks 1:Nat):Int)+(Dv r.tasks 2:Nat)+(Dv r.tasks 3:Nat)+(Dv r.tasks 4:Nat)+(Dv r.tasks 5:Nat)+(Dv r.tasks 6:Nat)=r.tasks.length:=by have:=HSum.out;omega
   generalize sB:((Dv r.tasks 1:Nat):Int)=c1' at *
   generalize uN:((Dv r.tasks 2:Nat):Int)=c2' at *
   generalize sJ:((Dv r.tasks 3:Nat):Int)=c3' at *
   generalize hc4:((Dv r.tasks 4:Nat):Int)=c4' at *
   generalize hc5:((Dv r.tasks 5:Nat):Int)=c5' at *
   generalize hc6:((Dv r.tasks 6:Nat):Int)=c6' at *
   have m1:0<=c1':=Bl;have m2:0<=c2':=Bl;have m3:0<=c3':=Bl;have m4:0<=c4'/\c4'<=2000000:=Bl;have m5:0<=c5'/\c5'<=2000000:=Bl;have m6:0<=c6'/\c6'<=2000000:=Bl;clear sB uN sJ hc4 hc5 hc6;have HV:Hid (tf (Hd r)=decide (r.state=stI c1' c2' c3' c4' c5' c6' r.tasks.length/\r.state≠0)):=by
    show tf (Hd r)=_;rw [HF.out,HI.out]
   clear HF HI;generalize r.state=rs at *
   by_cases q1:c4'=(r.tasks.length:Int)
   ·have H:=Bq (show tf (Hd r)=(rs == 2) by rw [HV.out];unfold stI;rw [if_pos q1];exact Yz _ _ Bl);have q1':(c4' == (r.tasks.length:Int))=true:=beq_iff_eq.2 q1;clear q1 jU;go_wp2;go_ret;exact ⟨Bw H.out.symm,B7⟩
   have q1':(c4' == (r.tasks.length:Int))=false:=beq_eq_false_iff_ne.2 q1;by_cases q2:c4'+c5'+c6'=(r.tasks.length:Int)
   ·have q2':(c4'+c5'+c6' == (r.tasks.length:Int))=true:=beq_iff_eq.2 q2;have r0:c1'+c2'+c3'=0:=Bl;by_cases q3:c5'=1
    ·have q3':(c5' == 1)=true:=beq_iff_eq.2 q3;have q4':(c5' == 0)=false:=beq_eq_false_iff_ne.2 Bl;have H:=Bq (show tf (Hd r)=(rs == 3) by rw [HV.out];unfold stI;rw [if_neg q1,if_pos ⟨q3,r0⟩];exact Yz _ _ Bl);clear q1 q2 q3 jU r0;go_wp2;go_ret;exact ⟨Bw H.out.symm,B7⟩
    have q3':(c5' == 1)=false:=beq_eq_false_iff_ne.2 q3;by_cases q4:c5'=0
    ·have q4':(c5' == 0)=true:=beq_iff_eq.2 q4;by_cases q5:c6'=0
     ·exact absurd (show c4'=(r.tasks.length:Int) by omega) q1
     ·have q5':(c6' == 0)=false:=beq_eq_false_iff_ne.2 q5;have q6:0<c6':=Bl;have q6':decide (0<c6')=true:=decide_eq_true q6;have H:=Bq (show tf (Hd r)=(rs == 4) by rw [HV.out];unfold stI;rw [if_neg q1,if_neg (fun h=>q3 h.1),if_pos ⟨q4,q6,r0⟩];exact Yz _ _ Bl);clear q1 q2 q3 q4 q5 q6 jU r0;go_wp2;go_ret;exact ⟨Bw H.out.symm,B7⟩
    ·have q4':(c5' == 0)=false:=beq_eq_false_iff_ne.2 q4;have H:=Bq (show tf (Hd r)=false by rw [HV.out];unfold stI;rw [if_neg q1,if_neg (fun h=>q3 h.1),if_neg (fun h=>q4 h.1),if_neg (fun h=>q4 h.1)];exact Y0 _);clear q1 q2 q3 q4 jU r0;cases q7:(rs == 1)
     all_goals
      go_wp2;go_ret;exact ⟨Bw H.out.symm,B7⟩
   ·have q2':(c4'+c5'+c6' == (r.tasks.length:Int))=false:=beq_eq_false_iff_ne.2 q2;have r0:¬ c1'+c2'+c3'=0:=Bl;by_cases q4:c5'=0
    ·have q4':(c5' == 0)=true:=beq_iff_eq.2 q4;have q3':(c5' == 1)=false:=beq_eq_false_iff_ne.2 Bl;by_cases q5:c6'=0
     ·have q5':(c6' == 0)=true:=beq_iff_eq.2 q5;have q6':decide (0<c6')=false:=decide_eq_false Bl;have H:=Bq (show tf (Hd r)=(rs == 1) by rw [HV.out];unfold stI;rw [if_neg q1,if_neg (fun h=>r0 h.2),if_neg (fun h=>r0 h.2.2),if_pos ⟨q4,q5⟩];exact Yz _ _ Bl);clear q1 q2 q4 q5 jU r0;cases q7:(rs == 1)
      all_goals
       rw [q7] at H;go_wp2;go_ret;exact ⟨Bw H.out.symm,B7⟩
     ·have q5':(c6' == 0)=false:=beq_eq_false_iff_ne.2 q5;have q6':decide (0<c6')=true:=decide_eq_true Bl;have H:=Bq (show tf (Hd r)=false by rw [HV.out];unfold stI;rw [if_neg q1,if_neg (fun h=>r0 h.2),if_neg (fun h=>r0 h.2.2),if_neg (fun h=>q5 h.2)];exact Y0 _);clear q1 q2 q4 q5 jU r0;cases q7:(rs == 1)
      all_goals
       go_wp2;go_ret;exact ⟨Bw H.out.symm,B7⟩
    ·have q4':(c5' == 0)=false:=beq_eq_false_iff_ne.2 q4;have H:=Bq (show tf (Hd r)=false by rw [HV.out];unfold stI;rw [if_neg q1,if_neg (fun h=>r0 h.2),if_neg (fun h=>r0 h.2.2),if_neg (fun h=>q4 h.1)];exact Y0 _);clear q1 q2 q4 jU r0;cases q7:(rs == 1)<;>cases q3':(c5' == 1)
     all_goals
      go_wp2;go_ret;exact ⟨Bw H.out.symm,B7⟩
theorem Ml (r:Run) (s:Sl×Sl) (w:World) (hl:Cn r<=2000000) (h:Ce.rd w w r s) :
  Calls Am 152 #[Gt r s] w fun e w'=>e = .returned (.bool (tf (Hd r)))/\Below w w w':=by
 have HR:=Bq (show ∀ W,Below w w W->Ce.rd W W r s from fun W hW=>Ce.rd_more (Ce.rd_below h hW) hW.size);obtain ⟨⟨A1,n1,c1⟩,⟨A2,n2,c2⟩⟩:=s;obtain rfl:n2=r.tasks.length:=RdL.at1 (s:=⟨A2,n2,c2⟩) h.2;have h1:Rd G6 w w (Aa A1 n1 c1) r.plan.edges:=Ir h.1;have h2:RdL C7 w w (Aa A2 r.tasks.length c2) r.tasks:=h.2;have jX:r.plan.edges.length<=2000000:=Ah (Cj Eb _) (by unfold Cn Ed at hl;omega);have fH:r.tasks.length<=2000000:=Ah (Cj Dz _) (by unfold Cn at hl;omega);clear h hl;have X:=DBox.new 167 [J U r.id,J U r.plan.prio,J U r.plan.most,J U r.plan.wait,J U r.plan.tasks,Aa A1 n1 c1,J U r.state,Aa A2 r.tasks.length c2] w (b:=w) rfl;have B0:Below w w (w.alloc (.cells #[J U r.id,J U r.plan.prio,J U r.plan.most,J U r.plan.wait,J U r.plan.tasks,Aa A1 n1 c1,J U r.state,Aa A2 r.tasks.length c2] 167)):=by repeat (first | exact Br _ _ | refine Ae ?_ Bo _)
 have C1:=Jz r.plan (Aa A1 n1 c1) (w.alloc (.cells #[J U r.id,J U r.plan.prio,J U r.plan.most,J U r.plan.wait,J U r.plan.tasks,Aa A1 n1 c1,J U r.state,Aa A2 r.tasks.length c2] 167)) jX ((h1.below B0).more B0.size);have X_l:=X.lt;cases a1:inB r.id 1 9999;case false =>
  have H:=Bq (show tf (Hd r)=false from Ci (fun h=>by have:=Cw.2 h.1;rw [a1] at this;cases this));go_enter func152,ntmps152;go_wp2_with (go_at_call 63;refine (Cg _ _ _ _).mono ?_;rintro e w' ⟨rfl,rfl⟩)
  go_ret;exact ⟨Bw H.out.symm,B0⟩
 by_cases e2:Cs r.plan=0;case neg =>
  have a2:(Cs r.plan != 0)=true:=by simp [e2]
  have H:=Bq (show tf (Hd r)=false from Ci (fun h=>e2 h.2.1));clear e2;go_enter func152,ntmps152;go_wp2_with (first | (go_at_call 63;refine (Cg _ _ _ _).mono ?_;rintro e w' ⟨rfl,rfl⟩) | (go_at_call 201;refine C1.mono ?_;rintro e w1 ⟨rfl,b1⟩;have q1:=fun j=>(Gl b1).1 w.heap.size j X_l))
  go_ret;exact ⟨Bw H.out.symm,Bu B0 b1⟩
 have E2:=Bq e2;rw [e2] at C1;clear e2;by_cases e3:(r.tasks.length:Int)=r.plan.tasks;case neg =>
  have a3:((r.tasks.length:Int) != r.plan.tasks)=true:=by simp [e3]
  have H:=Bq (show tf (Hd r)=false from Ci (fun h=>e3 h.2.2.1));clear e3;go_enter func152,ntmps152;go_wp2_with (first | (go_at_call 63;refine (Cg _ _ _ _).mono ?_;rintro e w' ⟨rfl,rfl⟩) | (go_at_call 201;refine C1.mono ?_;rintro e w1 ⟨rfl,b1⟩;have q1:=fun j=>(Gl b1).1 w.heap.size j X_l))
  go_ret;exact ⟨Bw H.out.symm,Bu B0 b1⟩
 have a3:((r.tasks.length:Int) != r.plan.tasks)=false:=by simp [e3]
 have E3:=Bq e3;clear e3;go_enter func152,ntmps152;go_wp2_with (first | (go_at_call 63;refine (Cg _ _ _ _).mono ?_;rintro e w' ⟨rfl,rfl⟩) | (go_at_call 201;refine C1.mono ?_;rintro e w1 ⟨rfl,b1⟩;have q1:=fun j=>(Gl b1).1 w.heap.size j X_l))
 clear q1;replace X:=X.below b1;replace B0:=Bu B0 b1;clear X_l C1 b1 a3;have A1_:=Bq a1;clear a1;obtain ⟨X_0,X_1,X_2,X_3,X_4,X_5,X_6,X_7,X_l⟩:=X.g8;go_loop [3] (fun i=>∃ k:Nat,k<=r.tasks.length/\i = J U k/\Hid (∀ t (ht:t<r.tasks.length),t<k->1<=r.tasks[t].state/\r.tasks[t].state<=6)) (fun i=>r.tasks.length - (intOf i).toNat);case atStart=>exact ⟨0,Ag _,rfl,fun t _ ht=>absurd ht Bl⟩
 case round =>
  obtain ⟨k,hk,rfl,bL⟩:=hrel;by_cases aA:k<r.tasks.length
  ·have aB:(k:Int)<(r.tasks.length:Int):=Bl;obtain ⟨b,o,_,rfl,aK,_,d0,d1,d2,d3⟩:=(h2.below B0).task aA;cases tk:inB r.tasks[k].state 1 6
   ·have H:=Bq (show tf (Hd r)=false from Ci (fun h=>by
     have h3:=(h.2.2.2.1 k aA).1;rw [Cu aA] at h3
     have:=Cw.2 h3
     rw [tk] at this;cases this))
    go_wp2_with (go_at_call 63;refine (Cg _ _ _ _).mono ?_;rintro e w' ⟨rfl,rfl⟩)
    go_ret;exact ⟨Bw H.out.symm,B0⟩
   ·have S:Hid (∀ t (ht:t<r.tasks.length),t<k+1->1<=r.tasks[t].state/\r.tasks[t].state<=6):=by
     intro t ht dC;by_cases e:t=k
     ·subst e;exact Cw.1 tk
     ·exact bL.out t ht Bl
    go_wp2_with (go_at_call 63;refine (Cg _ _ _ _).mono ?_;rintro e w' ⟨rfl,rfl⟩)
    exact ⟨⟨k+1,Bl,by go_num,S⟩,by simp [intOf];omega⟩
  ·have aB:¬ (k:Int)<(r.tasks.length:Int):=Bl;have bF:k=r.tasks.length:=Bl;subst bF;have HT:=bL;go_wp2;clear X_0 X_1 X_2 X_3 X_4 X_5 X_6 X_7 X_l bL aA hk aB;go_loopw [4] (fun i wr=>∃ k:Nat,k<=r.tasks.length/\i = J U k/\Hid (∀ t,t<k->Hk r t)/\Below w1 w1 wr) (fun i _=>r.tasks.length - (intOf i).toNat);case atStart=>exact ⟨0,Ag _,rfl,fun t ht=>absurd ht Bl,Br _ _⟩
   case round =>
    obtain ⟨k,hk,rfl,bL,hb⟩:=hrel;replace X:=X.below hb;replace B0:=Bu B0 hb;obtain ⟨X_0,X_1,X_2,X_3,X_4,X_5,X_6,X_7,X_l⟩:=X.g8;by_cases aA:k<r.tasks.length
    ·have aB:(k:Int)<(r.tasks.length:Int):=Bl;have C:=Yy r (⟨A1,n1,c1⟩,⟨A2,r.tasks.length,c2⟩) k wr E2.out E3.out aA (HT.out k aA aA) (HR.out _ B0);by_cases tk:Hk r k
     ·have S:Hid (∀ t,t<k+1->Hk r t):=by
       intro t ht;by_cases e:t=k
       ·subst e;exact tk
       ·exact bL.out t Bl
      rw [Dp tk] at C;clear tk;go_wp2_with fail
      refine C.mono ?_;rintro e w2 ⟨rfl,b2⟩;go_wp2;exact ⟨⟨k+1,Bl,by go_num,S,Bu hb b2⟩,by simp [intOf];omega⟩
     ·have H:=Bq (show tf (Hd r)=false from Ci (fun h=>tk (h.2.2.2.1 k aA)));rw [Ci tk] at C;clear tk;go_wp2_with fail
      refine C.mono ?_;rintro e w2 ⟨rfl,b2⟩;go_wp2;go_ret;exact ⟨Bw H.out.symm,Bu B0 b2⟩
    ·have aB:¬ (k:Int)<(r.tasks.length:Int):=Bl;have bF:k=r.tasks.length:=Bl;subst bF;have HF:=Bq (Aa5 A1_.out E2.out E3.out bL.out);have aQ:=Di wr;have C:=fun u:Ju wr=>Pm r (⟨A1,n1,c1⟩,⟨A2,r.tasks.length,c2⟩) u.1 fH (fun x hx=>by
      obtain ⟨t,ht,rfl⟩:=List.getElem_of_mem hx;exact HT.out t ht ht) (HR.out _ (Bu B0 u.2))
     have C2:=Bq C;clear C;generalize stL r.tasks=S at *
     have HG:Hid (tf (Hd r)=((r.state == S) && (r.state != 0))):=by
      show tf (Hd r)=_;rw [HF.out,Bool.eq_iff_iff];simp
     clear HF;cases q1:(r.state == S)<;>cases q2:(r.state != 0)
     all_goals
      rw [q1,q2] at HG;go_wp2;refine Bz Bm Bm ?_;repeat (go_big_quiet_step ((go_at_call 231;(with_reducible exact I7 C2.out))))
      refine Ak ?_;rintro _ ⟨⟨w2,b2⟩,rfl⟩;clear aQ;go_wp2;go_ret;exact ⟨Bw HG.out.symm,Bu B0 b2⟩
theorem Ld {y:Yard} (hl:Ca y<=2000000) (k:Nat):He (y.runs.take k)+y.runs.length<=2000000/\He (y.runs.take k)+(Cf y).length<=2000000:=by
 have h1:=Aev (y.runs.take k);have h2:((y.runs.take k).map fun r=>r.tasks.length).sum<=(y.runs.map fun r=>r.tasks.length).sum:=by
  conv=>rhs;rw [<-List.take_append_drop k y.runs,List.map_append,List.sum_append]
  omega
 have h3:(y.runs.map fun r=>r.tasks.length).sum+y.runs.length<=D8 Cn y.runs:=by
  unfold D8;have:∀ l:List Run,(l.map fun r=>r.tasks.length).sum<=(l.map Cn).sum:=by
   intro l;induction l with
   | nil=>simp
   | cons r l ih =>
    simp only [List.map_cons,List.sum_cons];have:r.tasks.length<=Cn r:=by unfold Cn;have:=Cj Dz r.tasks;omega
    omega
  have:=this y.runs
  omega
 have h4:=Ib y.shelf y.shelf.length;rw [List.take_length] at h4;unfold Ca at hl;unfold Cf;omega
theorem Aa6 {y:Yard} (hl:Ca y<=2000000):Gp y<=2000000:=by
 have h1:=(Ld hl y.runs.length).2;rw [List.take_length] at h1;have h2:=Oq y (Cf y);unfold Gp;omega
theorem Po (y:Yard) (s:Sl×Sl) (w:World) (hl:Ca y<=2000000) (h:Bv.rd w w y s) :
  Calls Am 138 #[Dm y s] w fun e w'=>e = .returned (J U (Gp y:Nat))/\Below w w w':=by
 have HR:=Bq (show ∀ W,Below w w W->Bv.rd W W y s from fun W hW=>Bv.rd_more (Bv.rd_below h hW) hW.size);obtain ⟨⟨A1,n1,c1⟩,⟨A2,n2,c2⟩⟩:=s;obtain rfl:n2=y.runs.length:=RdL.at1 (s:=⟨A2,n2,c2⟩) h.2;have h2:RdL Ce w w (Aa A2 y.runs.length c2) y.runs:=h.2;have bZ:y.runs.length<=2000000:=Ah (Cj Cn _) (by unfold Ca at hl;omega);have HB:=Bq (Ld hl);have HD:=Bq (show Gp y=He y.runs+Gm y (Cf y) from rfl);clear h;obtain ⟨W,aH,X,B0⟩:=bx1 w 27 [J U y.now,J U y.seq,Aa A1 n1 c1,Aa A2 y.runs.length c2];have X_l:=X.lt;go_enter func138,ntmps138;go_wp2;rw [<-aH.out];clear aH;go_loopw [3,11] (fun n i wr=>∃ k:Nat,k<=y.runs.length/\i = J U k/\n = J U (He (y.runs.take k):Nat)/\Below W W wr) (fun _ i _=>y.runs.length - (intOf i).toNat);case atStart=>exact ⟨0,Ag _,rfl,rfl,Br _ _⟩
 case round =>
  obtain ⟨k,hk,rfl,rfl,hb⟩:=hrel;have tH:=(HB.out k).1;by_cases aA:k<y.runs.length
  ·have aB:(k:Int)<(y.runs.length:Int):=Bl;obtain ⟨b,o,⟨s1,⟨At,nt,ct⟩⟩,rfl,aK,cM,c0_,c1_,c2_,c3_,c4_,c5_,c6_,c7_⟩:=(h2.below (Bu B0 hb)).run aA;obtain rfl:nt=y.runs[k].tasks.length:=RdL.at1 (s:=⟨At,nt,ct⟩) cM.2;have tS:=G8 hl aA;have bS:b<wr:=Ai aK (Bu B0 hb).size;by_cases q:y.runs[k].state=1
   ·have S:=Bq (Uy aA q);have q':(y.runs[k].state == 1)=true:=beq_iff_eq.2 q;clear q;go_wp2;refine ⟨⟨k+1,Bl,by go_num,by rw [S.out];go_num,?_⟩,by simp [intOf];omega⟩;exact Bu hb (by repeat (first | exact Br _ _ | refine Ae ?_ Bo _))
   ·have S:=Bq (Xl aA q);have q':(y.runs[k].state == 1)=false:=beq_eq_false_iff_ne.2 q;clear q;go_wp2;refine ⟨⟨k+1,Bl,by go_num,by rw [S.out],?_⟩,by simp [intOf];omega⟩;exact Bu hb (by repeat (first | exact Br _ _ | refine Ae ?_ Bo _))
  ·have aB:¬ (k:Int)<(y.runs.length:Int):=Bl;have bF:k=y.runs.length:=Bl;subst bF;have hbe:=(HB.out y.runs.length).2;rw [List.take_length] at hbe tH;replace X:=X.below hb;replace B0:=Bu B0 hb;clear X_l;obtain ⟨X_0,X_1,X_2,X_3,X_l⟩:=X.g4;have C:=Nv y (⟨A1,n1,c1⟩,⟨A2,y.runs.length,c2⟩) wr hl (HR.out _ B0);have HW:=Bq (Oq y);generalize Cf y=L at *
   go_wp2_with fail
   refine C.mono ?_;rintro e w2 ⟨v,rfl,o2,b2⟩;obtain ⟨A3,c3,rfl,-⟩:=id (Rd.of_own o2);replace X:=X.below b2;replace B0:=Bu B0 b2;clear X_0 X_1 X_2 X_3 X_l;go_wp2;generalize He y.runs=M at *
   go_loopw [3,27] (fun n i wr=>∃ k:Nat,k<=L.length/\i = J U k/\n = J U ((M+Gm y (L.take k):Nat))/\Below w2 w2 wr) (fun _ i _=>L.length - (intOf i).toNat);case atStart=>exact ⟨0,Ag _,rfl,by simp [Gm],Br _ _⟩
   case round =>
    obtain ⟨k,hk,rfl,rfl,aG⟩:=hrel;have eB:=HW.out (L.take k);rw [Az] at eB;replace X:=X.below aG;obtain ⟨X_0,X_1,X_2,X_3,X_l⟩:=X.g4;by_cases aA:k<L.length
    ·have aB:(k:Int)<(L.length:Int):=Bl;obtain ⟨b,o,_,kK,aK,_,d0,d1,d2,d3⟩:=RdL.entry (Lc (Rd.of_own (o2.below aG))) aA;subst kK;have ha:Below wr wr (wr.alloc (.cells #[J U L[k].prio,J U L[k].seq,J U L[k].run,J U L[k].task] 163)):=Bt;have C:=Pj y (⟨A1,n1,c1⟩,⟨A2,y.runs.length,c2⟩) L[k] _ hl (HR.out _ (Bu (Bu B0 aG) ha));have HY:=Bq (Ux (y:=y) aA);have HN:=Bq (Xj (y:=y) aA);cases q:E0 y L[k]
     ·have S:=Bq (HY.out q);rw [q] at C;go_wp2_with fail
      refine C.mono ?_;rintro e w3 ⟨rfl,b3⟩;go_wp2;exact ⟨⟨k+1,Bl,by go_num,by rw [S.out];go_num,Bu (Bu aG ha) b3⟩,by simp [intOf];omega⟩
     ·have S:=Bq (HN.out q);rw [q] at C;go_wp2_with fail
      refine C.mono ?_;rintro e w3 ⟨rfl,b3⟩;go_wp2;exact ⟨⟨k+1,Bl,by go_num,by rw [S.out];go_num,Bu (Bu aG ha) b3⟩,by simp [intOf];omega⟩
    ·have aB:¬ (k:Int)<(L.length:Int):=Bl;have bF:k=L.length:=Bl;subst bF;go_wp2;go_ret;exact ⟨C8 (by have:=HD.out;omega),Bu B0 aG⟩
theorem Pp (y:Yard) (s:Sl×Sl) (w:World) (hl:Ca y<=2000000) (h:Bv.rd w w y s) :
  Calls Am 156 #[Dm y s] w fun e w'=>e = .returned (J U (Gp y:Nat))/\Below w w w':=by
 have HR:=Bq (show ∀ W,Below w w W->Bv.rd W W y s from fun W hW=>Bv.rd_more (Bv.rd_below h hW) hW.size);obtain ⟨⟨A1,n1,c1⟩,⟨A2,n2,c2⟩⟩:=s;obtain rfl:n1=y.shelf.length:=RdL.at1 (s:=⟨A1,n1,c1⟩) h.1;obtain rfl:n2=y.runs.length:=RdL.at1 (s:=⟨A2,n2,c2⟩) h.2;have h1:RdL (Dt.list Bx) w w (Aa A1 y.shelf.length c1) y.shelf:=h.1;have h2:RdL Ce w w (Aa A2 y.runs.length c2) y.runs:=h.2;have bZ:y.runs.length<=2000000:=Ah (Cj Cn _) (by unfold Ca at hl;omega);have hls:y.shelf.length<=2000000:=Ah (Cj Cl _) (by unfold Ca at hl;omega);have HE:=Bq (show ∀ k (hk:k<y.shelf.length),y.shelf[k].length<=2000000 from fun k hk=>by
  have:=C9 (cnt:=Cl) (Aw hk)
  have h2:y.shelf[k].length<=Cl y.shelf[k]:=Cj Dw _;unfold Ca at hl;omega)
 have HB:=Bq (Ld hl);have HD:=Bq (show Gp y=He y.runs+Gm y y.shelf.flatten from rfl);have HW:=Bq (show ∀ k,He y.runs+Gm y (y.shelf.take k).flatten<=4000000 from fun k=>by
  have h3:=(Ld hl y.runs.length).2;rw [List.take_length] at h3;have h4:=Ib y.shelf k;have h5:=Oq y (y.shelf.take k).flatten;unfold Ca at hl;omega)
 clear h;obtain ⟨W,aH,X,B0⟩:=bx1 w 27 [J U y.now,J U y.seq,Aa A1 y.shelf.length c1,Aa A2 y.runs.length c2];go_enter func156,ntmps156;go_wp2;rw [<-aH.out];clear aH;obtain ⟨X_0,X_1,X_2,X_3,X_l⟩:=X.g4;go_loop [3,4] (fun n i=>∃ k:Nat,k<=y.runs.length/\i = J U k/\n = J U (He (y.runs.take k):Nat)) (fun _ i=>y.runs.length - (intOf i).toNat);case atStart=>exact ⟨0,Ag _,rfl,rfl⟩
 case round =>
  obtain ⟨k,hk,rfl,rfl⟩:=hrel;have tH:=(HB.out k).1;by_cases aA:k<y.runs.length
  ·have aB:(k:Int)<(y.runs.length:Int):=Bl;obtain ⟨b,o,⟨s1,⟨At,nt,ct⟩⟩,rfl,aK,cM,c0_,c1_,c2_,c3_,c4_,c5_,c6_,c7_⟩:=(h2.below B0).run aA;obtain rfl:nt=y.runs[k].tasks.length:=RdL.at1 (s:=⟨At,nt,ct⟩) cM.2;have tS:=G8 hl aA;by_cases q:y.runs[k].state=1
   ·have S:=Bq (Uy aA q);have q':(y.runs[k].state == 1)=true:=beq_iff_eq.2 q;clear q;go_wp2;exact ⟨⟨k+1,Bl,by go_num,by rw [S.out];go_num⟩,by simp [intOf];omega⟩
   ·have S:=Bq (Xl aA q);have q':(y.runs[k].state == 1)=false:=beq_eq_false_iff_ne.2 q;clear q;go_wp2;exact ⟨⟨k+1,Bl,by go_num,by rw [S.out]⟩,by simp [intOf];omega⟩
  ·have aB:¬ (k:Int)<(y.runs.length:Int):=Bl;have bF:k=y.runs.length:=Bl;subst bF;have HS:=Bq (show He (y.runs.take y.runs.length)=He y.runs by rw [List.take_length]);go_wp2;clear X_0 X_1 X_2 X_3 X_l tH aA hk aB;go_loopw [3,5] (fun n i wr=>∃ k:Nat,k<=y.shelf.length/\i = J U k/\n = J U (He y.runs+Gm y (y.shelf.take k).flatten:Nat)/\Below W W wr) (fun _ i _=>y.shelf.length - (intOf i).toNat);case atStart=>exact ⟨0,Ag _,rfl,by simp [Gm],Br _ _⟩
   case round =>
    obtain ⟨k,hk,rfl,rfl,hb⟩:=hrel;have rK:=HW.out k;by_cases aA:k<y.shelf.length
    ·have aB:(k:Int)<(y.shelf.length:Int):=Bl;have hez:=HE.out k aA;have pX:=Bq (Lu y.shelf k aA);have hwk1:=HW.out (k+1);rw [pX.out,Pf] at hwk1;have HWj:=Bq (show ∀ j,Gm y (y.shelf[k].take j)<=y.shelf[k].length from fun j=>Ah (Oq _ _) (by rw [Az];omega));have X1:=X.below hb;have rW:wr.cell? ⟨w,2,Ab⟩=Ac (Aa A1 y.shelf.length c1):=X1.cell 2 _ rfl;have uP:=X1.lt;go_wp2;clear rW uP X1;go_loopw [3,6] (fun n i wq=>∃ j:Nat,j<=y.shelf[k].length/\i = J U j/\n = J U (He y.runs+Gm y (y.shelf.take k).flatten+Gm y (y.shelf[k].take j):Nat)/\Below W W wq) (fun _ i _=>y.shelf[k].length - (intOf i).toNat);case atStart=>exact ⟨0,Ag _,rfl,by simp [Gm],hb⟩
     case round =>
      clear hb;obtain ⟨j,hj,rfl,rfl,hb⟩:=hrel;have hsj:=HWj.out j;have X:=X.below hb;obtain ⟨X_0,X_1,X_2,X_3,X_l⟩:=X.g4;obtain ⟨b,o,⟨As,ns,cs⟩,mM,aK,hr,d0⟩:=(h1.below (Bu B0 hb)).entryS aA;obtain rfl:ns=y.shelf[k].length:=RdL.at1 (s:=⟨As,ns,cs⟩) hr;subst mM;have bS:b<wr:=Ai aK (Bu B0 hb).size;by_cases dM:j<y.shelf[k].length
      ·have gS:(j:Int)<(y.shelf[k].length:Int):=Bl;obtain ⟨b2,o2,_,hAs,mG,_,f0,f1,f2,f3⟩:=RdL.entry hr dM;subst hAs;have eV:b2<wr:=Ai mG (Bu B0 hb).size;have aQ:=Di wr;have C:=Bq (show ∀ u:Ju wr,_ from fun u=>Pk y (⟨Ac ⟨b,o,Ab⟩,y.shelf.length,c1⟩,⟨A2,y.runs.length,c2⟩) y.shelf[k][j] u.1 hl (HR.out _ (Bu (Bu B0 hb) u.2)));have HY:=Bq (Ux (y:=y) dM);have HN:=Bq (Xj (y:=y) dM);cases q:E0 y y.shelf[k][j]
       ·have S:=Bq (HY.out q);rw [q] at C;go_wp2;refine Bz Bm Bm ?_;repeat (go_big_quiet_step ((go_at_call 232;(with_reducible exact I7 C.out))))
        refine Ak ?_;rintro _ ⟨⟨w3,b3⟩,rfl⟩;clear aQ;go_wp2;exact ⟨⟨j+1,Bl,by go_num,by rw [S.out];go_num,Bu hb b3⟩,by simp [intOf];omega⟩
       ·have S:=Bq (HN.out q);rw [q] at C;go_wp2;refine Bz Bm Bm ?_;repeat (go_big_quiet_step ((go_at_call 232;(with_reducible exact I7 C.out))))
        refine Ak ?_;rintro _ ⟨⟨w3,b3⟩,rfl⟩;clear aQ;go_wp2;exact ⟨⟨j+1,Bl,by go_num,by rw [S.out];go_num,Bu hb b3⟩,by simp [intOf];omega⟩
      ·have gS:¬ (j:Int)<(y.shelf[k].length:Int):=Bl;have hj':j=y.shelf[k].length:=Bl;subst hj';have S:=Bq (show He y.runs+Gm y (y.shelf.take (k+1)).flatten=He y.runs+Gm y (y.shelf.take k).flatten+Gm y (y.shelf[k].take y.shelf[k].length) by rw [pX.out,Pf,List.take_length];omega);go_wp2;exact ⟨⟨k+1,Bl,by go_num,by rw [S.out],hb⟩,by simp [intOf];omega⟩
    ·have aB:¬ (k:Int)<(y.shelf.length:Int):=Bl;have bF:k=y.shelf.length:=Bl;subst bF;have X1:=X.below hb;have rW:wr.cell? ⟨w,2,Ab⟩=Ac (Aa A1 y.shelf.length c1):=X1.cell 2 _ rfl;have uP:=X1.lt;go_wp2;go_ret;exact ⟨C8 (by have:=HD.out;omega),Bu B0 hb⟩
def Jd (l:List Entry) (e:Entry):List Entry:=l.takeWhile (fun x=>E7 x e) ++ e :: l.dropWhile (fun x=>E7 x e)
theorem Va {α:Type} {p:α->Bool} : ∀ {l:List α} {k:Nat},k<=l.length->(∀ j (hj:j<l.length),j<k->p l[j]=true)->(∀ h:k<l.length,p l[k]=false)->l.takeWhile p=l.take k/\l.dropWhile p=l.drop k
 | [],k,hk,_,_=>by
  obtain rfl:k=0:=by simpa using hk
  exact ⟨rfl,rfl⟩
 | x :: l,0,_,_,h=>by
  have:=h Bn
  simp only [List.getElem_cons_zero] at this;simp [List.takeWhile_cons,List.dropWhile_cons,this]
 | x :: l,k+1,hk,ha,h=>by
  have h0:=ha 0 Bn Bl;simp only [List.getElem_cons_zero] at h0;obtain ⟨i1,i2⟩:=Va (p:=p) (l:=l) (k:=k) (by simpa using hk) (fun j hj fS=>by have:=ha (j+1) (by simpa using hj) Bl;simpa using this) (fun kU=>by have:=h (by simpa using kU);simpa using this);simp [List.takeWhile_cons,List.dropWhile_cons,h0,i1,i2]
theorem Tp {l:List Entry} {e:Entry} {k:Nat} (hk:k<=l.length) (ha:∀ j (hj:j<l.length),j<k->E7 l[j] e=true) (h:∀ h:k<l.length,E7 l[k] e=false):Jd l e=l.take k ++ [e] ++ l.drop k:=by
 unfold Jd;obtain ⟨h1,h2⟩:=Va (p:=fun x=>E7 x e) hk ha h;rw [h1,h2,List.append_assoc];rfl
theorem Aa7 (l:List Entry) (e:Entry):(Jd l e).length=l.length+1:=by
 unfold Jd;rw [Bd,List.length_cons];have:(l.takeWhile (fun x=>E7 x e) ++ l.dropWhile (fun x=>E7 x e)).length=l.length:=by rw [List.takeWhile_append_dropWhile]
 rw [Bd] at this;omega
def Gq (a b:List Entry):List Entry:=if 80<a.length+b.length then a else b.foldl Jd a
theorem Lv (b:List Entry):∀ a:List Entry,(b.foldl Jd a).length=a.length+b.length:=by
 induction b with
 | nil=>intro a;rfl
 | cons x b ih=>intro a;rw [List.foldl_cons,ih,Aa7,List.length_cons];omega
theorem Aa8 (a b:List Entry):(Gq a b).length<=a.length+b.length:=by
 unfold Gq;split
 ·omega
 ·rw [Lv];omega
def Dd (l:List Entry):Nat:=(l.length+1) / 2
theorem Aa9 (l:List Entry):Dd l<=l.length:=by unfold Dd;omega
def C6 (id:Int):Nat:=if (En id).length=0 then 0 else (K8 (En id) % 4).toNat
theorem Vb (id:Int):C6 id<4:=by
 unfold C6;split
 ·decide
 ·have:=Int.emod_lt_of_pos (K8 (En id)) (show (0:Int)<4 by decide)
  have:=Int.emod_nonneg (K8 (En id)) (show (4:Int)≠0 by decide)
  omega
theorem OwL.swap {α:Type} {d:Dt α} {w:World} {F Fy:List Nat} {b o n c:Nat} {l:List α} (h:OwL d w F (Aa (Ac ⟨b,o,Ab⟩) n c) l) {j:Nat} (hj:j<l.length) {y:α} {s:d.S} (hy:d.ow w Fy y s) (hd:∀ x∈Fy,x∉F) :
  ∃ F',OwL d (Hz w b (o+j * d.enc.sz) (d.enc.cells (y,s))) F' (Aa (Ac ⟨b,o,Ab⟩) n c) (l.set j y)/\(∀ x∈F',x∈F\/x∈Fy)/\b∈F/\b∈F':=by
 obtain ⟨rs,H,G,hm,hh,ho,rfl,hn⟩:=h;have kW:j<rs.length:=by rw [<-hm,Ar] at hj;exact hj
 obtain ⟨b',o',hA,rfl,mP,hf⟩:=hh.at_ Bl;simp only [Option.some.injEq,Addr.mk.injEq,and_true] at hA;obtain ⟨rfl,rfl⟩:=hA;obtain ⟨F1,F2,rfl,h1,h2⟩:=ho.split j Bl;rw [List.drop_eq_getElem_cons kW] at h2;obtain ⟨Fx,F3,rfl,h3,h4⟩:=h2.head;have gK:b∉F1 ++ (Fx ++ F3):=by
  have:=hn
  simp only [List.singleton_append,List.nodup_cons] at this;exact this.1
 have qQ:(F1 ++ (Fx ++ F3)).Nodup:=by
  have:=hn
  simp only [List.singleton_append,List.nodup_cons] at this;exact this.2
 have cF:b∉Fy:=fun hx=>hd b hx Bn;have hc:=Iv (d.enc.cells (y,s)) w b (o+j * d.enc.sz);have hp:=Rd.part hh.rd j kW (y,s) 0 (d.enc.cells (y,s)) (by rw [d.enc.len];omega) (fun i hi=>by rw [Nat.zero_add];exact List.getElem?_eq_getElem hi) (fun i hi ho=>by rw [d.enc.len] at ho;omega);rw [Nat.add_zero] at hp;have hz:=Jq (d.enc.cells (y,s)) w b (o+j * d.enc.sz);have bX:rs.set j (y,s)=rs.take j ++ ((y,s) :: rs.drop (j+1)):=by rw [List.set_eq_take_append_cons_drop,if_pos kW]
 refine ⟨[b] ++ (F1 ++ (Fy ++ F3)),⟨rs.set j (y,s),[b],F1 ++ (Fy ++ F3),?_,⟨?_,?_,fun g hg i=>?_⟩,?_,rfl,?_⟩,?_,Bn,Bn⟩
 ·rw [List.map_set,hm]
 ·rw [hz];exact hp
 ·have:=hh.2.1
  rw [List.length_set];exact this
 ·rw [Iw];simp only [Au] at hg;subst hg;exact hf i
 ·rw [bX];refine (h1.chg hc (fun x hx fG=>?_)).append (.cons (d.ow_chg hy hc (fun x hx fG=>?_)) (h4.chg hc (fun x hx fG=>?_)))
  ·simp only [Au] at fG;subst fG;exact gK (List.mem_append_left _ hx)
  ·simp only [Au] at fG;subst fG;exact cF hx
  ·simp only [Au] at fG;subst fG;exact gK (Be _ (Be _ hx))
 ·have hyN:=d.ow_nodup hy;rw [List.singleton_append,List.nodup_cons];refine ⟨fun hx=>?_,?_⟩
  ·simp only [Bi] at hx;rcases hx with hx | hx | hx
   ·exact gK (by simp [hx])
   ·exact cF hx
   ·exact gK (by simp [hx])
  ·rw [Ax] at qQ ⊢;obtain ⟨n1,n2,n3⟩:=qQ;rw [Ax] at n2;obtain ⟨m1,m2,m3⟩:=n2;refine ⟨n1,?_,fun a ha c hc=>?_⟩
   ·rw [Ax];exact ⟨hyN,m2,fun a ha c hc e=>hd a ha (by subst e;simp [hc])⟩
   ·rcases Bi.1 hc with hc | hc
    ·exact fun e=>hd c hc (by subst e;simp [ha])
    ·exact n3 a ha c (Be _ hc)
 ·intro x hx;simp only [Bi,Au] at hx ⊢;rcases hx with hx | hx | hx | hx
  ·exact .inl (.inl hx)
  ·exact .inl (.inr (.inl hx))
  ·exact .inr hx
  ·exact .inl (.inr (.inr (.inr hx)))
end Go.Proofs.YtonlnjdempbfoabGreat
