/-
  What a task waits for, what waits for it: the plain lists; l06Before and l06Behind of the reference. How long a slice is that reads as a list. Data of the type 
-/
import Derived.Test.YtonlnjdempbfoabGreatZFd0
import Derived.Test.YtonlnjdempbfoabGreatZFd1
import Derived.Test.YtonlnjdempbfoabGreatZFd2
import Derived.IntWalk
namespace Go.Proofs.YtonlnjdempbfoabGreat
open Go.RowKit
set_option maxRecDepth 100000
set_option maxHeartbeats 4000000
set_option linter.unusedVariables false
set_option linter.unusedSimpArgs false
open Value renaming int->J,slice->Aa
open IntKind renaming i64->U
open Option renaming none->Ab,some->Ac
open Below renaming setCell->Ad,alloc->Ae
open Nat renaming zero_le->Ag,le_trans->Ah,lt_of_lt_of_le->Ai
open Go renaming bodyPost_ret->Aj
open Go.Proofs.Tryz renaming prog->Am
open Int renaming toNat_natCast->Ao,eq_ofNat_of_zero_le->Ap
open List renaming getElem_mem->Aw,nodup_append->Ax,length_append->Bd,take_of_length_le->Bg,mem_append->Bi
open World renaming size_alloc->Bj,size_setCell->Bk
open Go.Proofs.Tryz
def D9 (es:List (Nat×Nat)) (T t:Nat):List Nat:=(List.range T).filter fun s=>decide ((s,t)∈es)
def Fq (es:List (Nat×Nat)) (T t:Nat):List Nat:=(List.range T).filter fun s=>decide ((t,s)∈es)
def Iy (l:List (Nat×Nat)) (q:Nat×Nat) (x:Nat):List Nat:=if q∈l then [x] else []
theorem Yl (es:List (Nat×Nat)) (k t:Nat):D9 es (k+1) t=D9 es k t ++ Iy es (k,t) k:=by
 unfold D9 Iy;rw [List.range_succ,List.filter_append];by_cases h:(k,t)∈es<;>simp [h]
theorem Qo (es:List (Nat×Nat)) (k t:Nat):Fq es (k+1) t=Fq es k t ++ Iy es (t,k) k:=by
 unfold Fq Iy;rw [List.range_succ,List.filter_append];by_cases h:(t,k)∈es<;>simp [h]
theorem Iz (es:List (Nat×Nat)) (T t:Nat):(D9 es T t).length<=T:=by
 have:=List.length_filter_le (fun s=>decide ((s,t)∈es)) (List.range T)
 simpa [D9] using this
theorem Mc (es:List (Nat×Nat)) (T t:Nat):(Fq es T t).length<=T:=by
 have:=List.length_filter_le (fun s=>decide ((t,s)∈es)) (List.range T)
 simpa [Fq] using this
theorem Xc (l:List (Nat×Nat)) (q:Nat×Nat) (x:Nat):(Iy l q x).length<=1:=by
 unfold Iy;split<;>simp
theorem Xe {l l':List (Nat×Nat)} {q:Nat×Nat} {x:Nat} (h:l'=l ++ [q]) (hq:q∉l):Iy l' q x=Iy l q x ++ [x]:=by
 subst h;simp [Iy,hq]
theorem Aan {l l':List (Nat×Nat)} {q e:Nat×Nat} {x:Nat} (h:l'=l ++ [e]) (hq:e≠q):Iy l' q x=Iy l q x:=by
 subst h;simp [Iy,Ne.symm hq]
theorem Ad4 {p:Plan} (he:Hg p) (hn:p.edges.Nodup) {j:Nat} (hj:j<p.edges.length):(p.edges[j].fr.toNat,p.edges[j].to.toNat)∉esL (p.edges.take j):=by
 intro hm;simp only [esL,List.mem_map] at hm;obtain ⟨e,qK,hee⟩:=hm;obtain ⟨i,hi,rfl⟩:=List.getElem_of_mem qK;have hi2:i<j:=by
  rw [List.length_take] at hi;omega
 rw [List.getElem_take] at hee;have h1:=H8 he (k:=i) Bl;have h2:=H8 he hj;simp only [Prod.mk.injEq] at hee;have e1:p.edges[i].fr=p.edges[j].fr:=Bl;have e2:p.edges[i].to=p.edges[j].to:=Bl;have:p.edges[i]=p.edges[j]:=by
  cases hx:p.edges[i];cases hy:p.edges[j];rw [hx,hy] at e1 e2;simp only at e1 e2;rw [e1,e2]
 exact List.pairwise_iff_getElem.1 hn i j Bl hj hi2 this
theorem Oa (p:Plan) (ve:Value) (t:Nat) (w:World) (hm:Ew p=true) (he:Hg p) (hn:p.edges.Nodup) (h:Rd G6 w w ve p.edges) :
  Calls Am 260 #[Gw p ve,J U (t:Int)] w fun e w'=>∃ v,e = .returned v/\Ow Eu 3 w' w v (D9 (D4 p) p.tasks.toNat t)/\Below w w w':=by
 obtain ⟨A,c,rfl,-⟩:=id h;obtain ⟨t1,t2⟩:=Eh hm;have aF:=Fh hm;obtain ⟨T,hT⟩:=Ap (show 0<=p.tasks by omega);have HT:=Bq hT;have HTn:=Bq (show p.tasks.toNat=T by omega);have fI:T<=12:=Bl;clear hT;obtain ⟨j0,cJ,jz0,jz1,jz2⟩:=info_parts K0;unfold Gw;go_enter func260,ntmps260;go_wp2;go_loopw [5,6] (fun vl i wr=>∃ k:Nat,k<=T/\i = J U k/\Ow Eu 3 wr (w+1) vl (D9 (D4 p) k t)/\BoxAt w p (Aa A p.edges.length c) wr/\Below w w wr) (fun _ i _=>T - (intOf i).toNat);case atStart =>
  have D:=BoxAt.new 36 p (Aa A p.edges.length c) w;refine ⟨0,Ag _,rfl,?_,D.below (Bt),?_⟩
  ·exact (Ow.empty Eu 3 (Ei 36 p (Aa A p.edges.length c) w) (g:=w+1) (by rw [Fi]))
  ·repeat (first | exact Br _ _ | refine Ae ?_ Bo _)
 case round =>
  obtain ⟨k,hk,rfl,ho,D,hb⟩:=hrel;obtain ⟨x0,x1,x2,x3,x4,xs⟩:=D.cells;by_cases aA:k<T
  ·have aB:(k:Int)<p.tasks:=by rw [HT.out];omega
   obtain ⟨wo,rfl⟩:∃ wo:World,wo=wr:=⟨_,rfl⟩
   go_wp2;clear x0 x1 x2 x3 x4 xs;go_loopw [5,7] (fun vl i wr=>∃ j:Nat,j<=p.edges.length/\i = J U j/\Ow Eu 3 wr (w+1) vl (D9 (D4 p) k t ++ Iy (esL (p.edges.take j)) (k,t) k)/\BoxAt w p (Aa A p.edges.length c) wr/\Below w w wr) (fun _ i _=>p.edges.length - (intOf i).toNat);case atStart=>exact ⟨0,Ag _,rfl,by simpa [Iy,esL] using ho,D,hb⟩
   case round =>
    clear ho D hb;obtain ⟨j,hj,rfl,ho,D,hb⟩:=hrel;obtain ⟨x0,x1,x2,x3,x4,xs⟩:=D.cells;by_cases dM:j<p.edges.length
    ·have gS:(j:Int)<(p.edges.length:Int):=Bl;obtain ⟨b,o,rfl,aK,c0,c1⟩:=(h.below hb).edge dM;obtain ⟨f1,f2,f3,f4⟩:=H8 he dM;have dC:=Bq (show esL (p.edges.take (j+1))=esL (p.edges.take j) ++ [(p.edges[j].fr.toNat,p.edges[j].to.toNat)] by unfold esL;rw [Cp _ j dM,List.map_append];rfl);have gZ:=Bq (Ad4 he hn dM);generalize p.edges[j].fr=fx at *
     generalize p.edges[j].to=tx at *
     obtain ⟨a,rfl⟩:=Ap f1;obtain ⟨d,rfl⟩:=Ap f3;simp only [Ao] at dC gZ;by_cases hxy:a=k/\d=t
     ·obtain ⟨e1,e2⟩:=hxy;subst e1;subst e2;have S:=Bq (Xe (l:=esL (p.edges.take j)) (l':=esL (p.edges.take (j+1))) (q:=(a,d)) (x:=a) dC.out gZ.out);have Hl:=Bq (show (D9 (D4 p) a d ++ Iy (esL (p.edges.take j)) (a,d) a).length<=3000000 by
       have h1:=Iz (D4 p) a d;have h2:=Xc (esL (p.edges.take j)) (a,d) a;rw [Bd];omega)
      have mF:((a:Int) == (a:Int))=true:=Bn;have hab2:((d:Int) == (d:Int))=true:=Bn;have ha:Hid (∀ w:World,Below w w (w.alloc (.cells #[J U (a:Int)] 3))):=fun w=>Bt;go_wp2_with (at_builtin;refine Ch _ Eu Bp rfl (.tmp 40) (.tmp 42) rfl underlying32 cJ jz0 jz1 jz2 rfl (l:=D9 (D4 p) a d ++ Iy (esL (p.edges.take j)) (a,d) a) rfl (ho.below (ha.out wr)) rfl (Rd.one Eu _ _ a rfl rfl 1 (Bs _) (Nat.lt_succ_self _)) Hl.out Bn Bp (by simp;omega) ?_;intro v5 w5 o5 g5 _)
      have D5:=(D.below (ha.out wr)).far g5 (fun e=>by have:=ho.within _ e.symm;omega);have aV:=Bu hb (ha.out wr);have W5:=aV.grown g5 aV.size (fun g hg=>by have:=ho.within _ hg;omega);refine ⟨⟨j+1,Bl,by go_num,?_,D5,W5⟩,by simp [intOf];omega⟩;rw [S.out,<-List.append_assoc];exact o5
     ·have S:=Bq (Aan (l:=esL (p.edges.take j)) (l':=esL (p.edges.take (j+1))) (q:=(k,t)) (e:=(a,d)) (x:=k) dC.out (fun e=>hxy (by simp only [Prod.mk.injEq] at e;omega)));have fN:∀ w',Below wr wr w'->(∃ j_1:Nat,j_1<=p.edges.length/\Value.int .i64 ((j:Int)+1)=Value.int .i64 (j_1:Int)/\Ow Eu 3 w' (w+1) u5 (D9 (D4 p) k t ++ Iy (esL (p.edges.take j_1)) (k,t) k)/\BoxAt w p (Aa (Ac ⟨b,o,Ab⟩) p.edges.length c) w'/\Below w w w'):=fun w' pE=>⟨j+1,Bl,by go_num,by rw [S.out];exact ho.below pE,D.below pE,Bu hb pE⟩
      have Hout:=Bq fN;clear fN;by_cases hfa:a=k
      ·have mF:((a:Int) == ((k:Nat):Int))=true:=by simp [hfa]
       have hdb:((d:Int) == ((t:Nat):Int))=false:=beq_eq_false_iff_ne.2 Bl;clear hfa hxy;go_wp2;exact ⟨Hout.out _ (Br _ _),by simp [intOf];omega⟩
      ·have mF:((a:Int) == ((k:Nat):Int))=false:=beq_eq_false_iff_ne.2 Bl;clear hfa hxy;go_wp2;exact ⟨Hout.out _ (Br _ _),by simp [intOf];omega⟩
    ·have gS:¬ (j:Int)<(p.edges.length:Int):=Bl;have hj':j=p.edges.length:=Bl;subst hj';rw [List.take_length] at ho;have S:=Bq (Yl (D4 p) k t);go_wp2;exact ⟨⟨k+1,Bl,by go_num,by rw [S.out];exact ho,D,hb⟩,by simp [intOf];omega⟩
  ·have aB:¬ (k:Int)<p.tasks:=by rw [HT.out];omega
   have bF:k=T:=Bl;subst bF;go_wp2;go_ret;refine ⟨_,rfl,?_,hb⟩;rw [HTn.out];exact ho.more Bl
theorem Ui (p:Plan) (ve:Value) (t:Nat) (w:World) (hm:Ew p=true) (he:Hg p) (hn:p.edges.Nodup) (h:Rd G6 w w ve p.edges) :
  Calls Am 265 #[Gw p ve,J U (t:Int)] w fun e w'=>∃ v,e = .returned v/\Ow Eu 3 w' w v (Fq (D4 p) p.tasks.toNat t)/\Below w w w':=by
 obtain ⟨A,c,rfl,-⟩:=id h;obtain ⟨t1,t2⟩:=Eh hm;have aF:=Fh hm;obtain ⟨T,hT⟩:=Ap (show 0<=p.tasks by omega);have HT:=Bq hT;have HTn:=Bq (show p.tasks.toNat=T by omega);have fI:T<=12:=Bl;clear hT;obtain ⟨j0,cJ,jz0,jz1,jz2⟩:=info_parts K0;unfold Gw;go_enter func265,ntmps265;go_wp2;go_loopw [5,6] (fun vl i wr=>∃ k:Nat,k<=T/\i = J U k/\Ow Eu 3 wr (w+1) vl (Fq (D4 p) k t)/\BoxAt w p (Aa A p.edges.length c) wr/\Below w w wr) (fun _ i _=>T - (intOf i).toNat);case atStart =>
  have D:=BoxAt.new 36 p (Aa A p.edges.length c) w;refine ⟨0,Ag _,rfl,?_,D.below (Bt),?_⟩
  ·exact (Ow.empty Eu 3 (Ei 36 p (Aa A p.edges.length c) w) (g:=w+1) (by rw [Fi]))
  ·repeat (first | exact Br _ _ | refine Ae ?_ Bo _)
 case round =>
  obtain ⟨k,hk,rfl,ho,D,hb⟩:=hrel;obtain ⟨x0,x1,x2,x3,x4,xs⟩:=D.cells;by_cases aA:k<T
  ·have aB:(k:Int)<p.tasks:=by rw [HT.out];omega
   obtain ⟨wo,rfl⟩:∃ wo:World,wo=wr:=⟨_,rfl⟩
   go_wp2;clear x0 x1 x2 x3 x4 xs;go_loopw [5,7] (fun vl i wr=>∃ j:Nat,j<=p.edges.length/\i = J U j/\Ow Eu 3 wr (w+1) vl (Fq (D4 p) k t ++ Iy (esL (p.edges.take j)) (t,k) k)/\BoxAt w p (Aa A p.edges.length c) wr/\Below w w wr) (fun _ i _=>p.edges.length - (intOf i).toNat);case atStart=>exact ⟨0,Ag _,rfl,by simpa [Iy,esL] using ho,D,hb⟩
   case round =>
    clear ho D hb;obtain ⟨j,hj,rfl,ho,D,hb⟩:=hrel;obtain ⟨x0,x1,x2,x3,x4,xs⟩:=D.cells;by_cases dM:j<p.edges.length
    ·have gS:(j:Int)<(p.edges.length:Int):=Bl;obtain ⟨b,o,rfl,aK,c0,c1⟩:=(h.below hb).edge dM;obtain ⟨f1,f2,f3,f4⟩:=H8 he dM;have dC:=Bq (show esL (p.edges.take (j+1))=esL (p.edges.take j) ++ [(p.edges[j].fr.toNat,p.edges[j].to.toNat)] by unfold esL;rw [Cp _ j dM,List.map_append];rfl);have gZ:=Bq (Ad4 he hn dM);generalize p.edges[j].fr=fx at *
     generalize p.edges[j].to=tx at *
     obtain ⟨a,rfl⟩:=Ap f1;obtain ⟨d,rfl⟩:=Ap f3;simp only [Ao] at dC gZ;by_cases hxy:d=k/\a=t
     ·obtain ⟨e1,e2⟩:=hxy;subst e1;subst e2;have S:=Bq (Xe (l:=esL (p.edges.take j)) (l':=esL (p.edges.take (j+1))) (q:=(a,d)) (x:=d) dC.out gZ.out);have Hl:=Bq (show (Fq (D4 p) d a ++ Iy (esL (p.edges.take j)) (a,d) d).length<=3000000 by
       have h1:=Mc (D4 p) d a;have h2:=Xc (esL (p.edges.take j)) (a,d) d;rw [Bd];omega)
      have mF:((d:Int) == (d:Int))=true:=Bn;have hab2:((a:Int) == (a:Int))=true:=Bn;have ha:Hid (∀ w:World,Below w w (w.alloc (.cells #[J U (d:Int)] 3))):=fun w=>Bt;go_wp2_with (at_builtin;refine Ch _ Eu Bp rfl (.tmp 40) (.tmp 42) rfl underlying32 cJ jz0 jz1 jz2 rfl (l:=Fq (D4 p) d a ++ Iy (esL (p.edges.take j)) (a,d) d) rfl (ho.below (ha.out wr)) rfl (Rd.one Eu _ _ d rfl rfl 1 (Bs _) (Nat.lt_succ_self _)) Hl.out Bn Bp (by simp;omega) ?_;intro v5 w5 o5 g5 _)
      have D5:=(D.below (ha.out wr)).far g5 (fun e=>by have:=ho.within _ e.symm;omega);have aV:=Bu hb (ha.out wr);have W5:=aV.grown g5 aV.size (fun g hg=>by have:=ho.within _ hg;omega);refine ⟨⟨j+1,Bl,by go_num,?_,D5,W5⟩,by simp [intOf];omega⟩;rw [S.out,<-List.append_assoc];exact o5
     ·have S:=Bq (Aan (l:=esL (p.edges.take j)) (l':=esL (p.edges.take (j+1))) (q:=(t,k)) (e:=(a,d)) (x:=k) dC.out (fun e=>hxy (by simp only [Prod.mk.injEq] at e;omega)));have fN:∀ w',Below wr wr w'->(∃ j_1:Nat,j_1<=p.edges.length/\Value.int .i64 ((j:Int)+1)=Value.int .i64 (j_1:Int)/\Ow Eu 3 w' (w+1) u5 (Fq (D4 p) k t ++ Iy (esL (p.edges.take j_1)) (t,k) k)/\BoxAt w p (Aa (Ac ⟨b,o,Ab⟩) p.edges.length c) w'/\Below w w w'):=fun w' pE=>⟨j+1,Bl,by go_num,by rw [S.out];exact ho.below pE,D.below pE,Bu hb pE⟩
      have Hout:=Bq fN;clear fN;by_cases hfa:a=t
      ·have mF:((a:Int) == ((t:Nat):Int))=true:=by simp [hfa]
       have hdb:((d:Int) == ((k:Nat):Int))=false:=beq_eq_false_iff_ne.2 Bl;clear hfa hxy;go_wp2;exact ⟨Hout.out _ (Br _ _),by simp [intOf];omega⟩
      ·have mF:((a:Int) == ((t:Nat):Int))=false:=beq_eq_false_iff_ne.2 Bl;clear hfa hxy;go_wp2;exact ⟨Hout.out _ (Br _ _),by simp [intOf];omega⟩
    ·have gS:¬ (j:Int)<(p.edges.length:Int):=Bl;have hj':j=p.edges.length:=Bl;subst hj';rw [List.take_length] at ho;have S:=Bq (Qo (D4 p) k t);go_wp2;exact ⟨⟨k+1,Bl,by go_num,by rw [S.out];exact ho,D,hb⟩,by simp [intOf];omega⟩
  ·have aB:¬ (k:Int)<p.tasks:=by rw [HT.out];omega
   have bF:k=T:=Bl;subst bF;go_wp2;go_ret;refine ⟨_,rfl,?_,hb⟩;rw [HTn.out];exact ho.more Bl
theorem RdL.at1 {α:Type} {d:Dt α} {w:World} {B:Nat} {s:Sl} {l:List α} (h:RdL d w B s.v l):s.n=l.length:=by
 obtain ⟨A,c,hv,-⟩:=h.form;simp only [Sl.v,Value.slice.injEq] at hv;exact hv.2.1
structure Reply where
 code:Int
 run:Int
 task:Int
 try_:Int
deriving DecidableEq,Inhabited
@[go_sem] abbrev Aha (x:Reply) (_s:Unit):Value:=.agg #[.int .i64 x.code,.int .i64 x.run,.int .i64 x.task,.int .i64 x.try_]
@[go_sem] abbrev Jr (x:Plan) (s:Sl):Value:=.agg #[.int .i64 x.prio,.int .i64 x.most,.int .i64 x.wait,.int .i64 x.tasks,.slice s.a s.n s.c]
abbrev Cd:Dt Plan:=Dt.via (Dt.list Eg) (·.edges) (fun q=>[.int .i64 q.1.prio,.int .i64 q.1.most,.int .i64 q.1.wait,.int .i64 q.1.tasks,.slice q.2.a q.2.n q.2.c]) 5 (fun _=>rfl) (fun q u hu=>by simp at hu;rcases hu with rfl | rfl | rfl | rfl | rfl<;>rfl)
def Ed (x:Plan):Nat:=D8 Eb x.edges
def Ym (x:Plan):Prop:=Wf x.prio/\Wf x.most/\Wf x.wait/\Wf x.tasks/\wfL Ug x.edges
theorem Uj (x:Plan) (s:Sl) (w:World) (hl:Ed x<=2000000) (h:Cd.rd w w x s) :
  Calls Am 98 #[Jr x s] w (Df Cd Jr x w):=by
 have aY:∀ W,Below w w W->Cd.rd W W x s:=fun W hW=>Cd.rd_more (Cd.rd_below h hW) hW.size;go_enter func98,ntmps98;go_wp2_with fail
 refine (Aaj x.edges s _ (by unfold Ed at hl;omega) ((aY _ (by repeat (first | exact Br _ _ | refine Ae ?_ Bo _))))).mono ?_;rintro e w0 ⟨s0,F0,rfl,o0,n0,aL⟩;obtain ⟨q0,p0⟩:=Gl aL;have z0:=aL.size;simp only [Bj,Bk] at z0 n0;have B0:Below w w w0:=Bu (by repeat (first | exact Br _ _ | refine Ae ?_ Bo _)) aL;go_wp2;refine Aj (v:=Jr x s0) ?_ rfl ?_
 ·simp [Jr,results,results98,go_sem,q0]
 ·refine ⟨s0,F0,rfl,?_,?_,?_⟩
  ·repeat (first | (with_reducible exact o0) | refine Dt.ow_set _ ?_ (by intro hm;have:=n0 _ hm;(try simp only [Bj,Bk] at this);omega) _)
  ·intro b hb
   have:=n0 b hb
   omega
  ·repeat (first | (with_reducible exact B0) | (with_reducible exact Br _ _) | refine Ad ?_ Bo _ | refine Ae ?_ Bo _)
theorem Uk (x y:Plan) (s r:Sl) (w:World) (hl:Ed x<=2000000) (hl':Ed y<=2000000) (h:Cd.rd w w x s) (h':Cd.rd w w y r) :
  Calls Am 100 #[Jr x s,Jr y r] w fun e w'=>e = .returned (.bool (decide (x=y)))/\Below w w w':=by
 have aY:∀ W,Below w w W->Cd.rd W W x s:=fun W hW=>Cd.rd_more (Cd.rd_below h hW) hW.size;have cF:∀ W,Below w w W->Cd.rd W W y r:=fun W hW=>Cd.rd_more (Cd.rd_below h' hW) hW.size;by_cases h0:x.prio=y.prio;case neg =>
  have t0:(x.prio != y.prio)=true:=by rw [bne_iff_ne];exact h0
  have H:=Bq (show decide (x=y)=false by simp only [decide_eq_false_iff_not];intro e;exact h0 (by rw [e]));clear h0;go_enter func100,ntmps100;go_wp2;go_ret;exact ⟨Bw (by first | exact H.out.symm | rfl),by repeat (first | exact Br _ _ | refine Ae ?_ Bo _)⟩
 have t0:(x.prio != y.prio)=false:=by simp [h0]
 have H0:=Bq h0;clear h0;by_cases h1:x.most=y.most;case neg =>
  have t1:(x.most != y.most)=true:=by rw [bne_iff_ne];exact h1
  have H:=Bq (show decide (x=y)=false by simp only [decide_eq_false_iff_not];intro e;exact h1 (by rw [e]));clear h1;go_enter func100,ntmps100;go_wp2;go_ret;exact ⟨Bw (by first | exact H.out.symm | rfl),by repeat (first | exact Br _ _ | refine Ae ?_ Bo _)⟩
 have t1:(x.most != y.most)=false:=by simp [h1]
 have H1:=Bq h1;clear h1;by_cases h2:x.wait=y.wait;case neg =>
  have t2:(x.wait != y.wait)=true:=by rw [bne_iff_ne];exact h2
  have H:=Bq (show decide (x=y)=false by simp only [decide_eq_false_iff_not];intro e;exact h2 (by rw [e]));clear h2;go_enter func100,ntmps100;go_wp2;go_ret;exact ⟨Bw (by first | exact H.out.symm | rfl),by repeat (first | exact Br _ _ | refine Ae ?_ Bo _)⟩
 have t2:(x.wait != y.wait)=false:=by simp [h2]
 have H2:=Bq h2;clear h2;by_cases h3:x.tasks=y.tasks;case neg =>
  have t3:(x.tasks != y.tasks)=true:=by rw [bne_iff_ne];exact h3
  have H:=Bq (show decide (x=y)=false by simp only [decide_eq_false_iff_not];intro e;exact h3 (by rw [e]));clear h3;go_enter func100,ntmps100;go_wp2;go_ret;exact ⟨Bw (by first | exact H.out.symm | rfl),by repeat (first | exact Br _ _ | refine Ae ?_ Bo _)⟩
 have t3:(x.tasks != y.tasks)=false:=by simp [h3]
 have H3:=Bq h3;clear h3;go_enter func100,ntmps100;go_wp2_with fail
 refine (Aai x.edges y.edges s r _ (by unfold Ed at hl;omega) (by unfold Ed at hl';omega) ((aY _ (by repeat (first | exact Br _ _ | refine Ae ?_ Bo _)))) ((cF _ (by repeat (first | exact Br _ _ | refine Ae ?_ Bo _))))).mono ?_;rintro e w4 ⟨rfl,bY⟩;have B4:Below w w w4:=Bu (by repeat (first | exact Br _ _ | refine Ae ?_ Bo _)) bY;obtain ⟨q4,p4⟩:=Gl bY;by_cases h4:x.edges=y.edges;case neg =>
  have H:=Bq (show decide (x=y)=false by simp only [decide_eq_false_iff_not];intro e;exact h4 (by rw [e]));rw [decide_eq_false h4];clear h4;go_wp2;go_ret;exact ⟨Bw (by first | exact H.out.symm | rfl),by exact B4⟩
 rw [decide_eq_true h4];have H4:=Bq h4;clear h4;have H:=Bq (show decide (x=y)=true by
  simp only [decide_eq_true_eq];have hh:=And.intro H0.out (And.intro H1.out (And.intro H2.out (And.intro H3.out H4.out)));obtain ⟨e0,e1,e2,e3,e4⟩:=hh;cases x;cases y;simp only at e0 e1 e2 e3 e4;subst e0 e1 e2 e3 e4;rfl)
 go_wp2;go_ret;exact ⟨Bw (by first | exact H.out.symm | rfl),by exact B4⟩
theorem Ul (x:Plan) (s:Sl) (left:Int) (w:World) (h0:0<=left) (h1:left<=2000000) (hw:Ym x) (h:Cd.rd w w x s) :
  Calls Am 96 #[Jr x s,J U left] w (K4 left (Ed x) w):=by
 have aY:∀ W,Below w w W->Cd.rd W W x s:=fun W hW=>Cd.rd_more (Cd.rd_below h hW) hW.size;go_enter func96,ntmps96;go_wp2_with fail
 refine (Aah x.edges s left _ Bl Bl hw.2.2.2.2 ((aY _ (by repeat (first | exact Br _ _ | refine Ae ?_ Bo _))))).mono ?_;rintro e w0 ⟨r0,rfl,gE,aL⟩;have B0:Below w w w0:=Bu (by repeat (first | exact Br _ _ | refine Ae ?_ Bo _)) aL;obtain ⟨q0,p0⟩:=Gl aL;rcases gE with rfl | ⟨y0,z0⟩
 ·go_wp2;go_ret;exact ⟨-1,rfl,.inl rfl,B0⟩
 go_wp2;go_ret;exact ⟨_,rfl,.inr ⟨Bl,by unfold Ed;omega⟩,B0⟩
structure Run where
 id:Int
 plan:Plan
 state:Int
 tasks:List Task
deriving DecidableEq,Inhabited
@[go_sem] abbrev Gt (x:Run) (s:Sl×Sl):Value:=.agg #[.int .i64 x.id,.int .i64 x.plan.prio,.int .i64 x.plan.most,.int .i64 x.plan.wait,.int .i64 x.plan.tasks,.slice s.1.a s.1.n s.1.c,.int .i64 x.state,.slice s.2.a s.2.n s.2.c]
abbrev Ce:Dt Run:=Dt.two Cd (Dt.list C7) (·.plan) (·.tasks) (fun q=>[.int .i64 q.1.id,.int .i64 q.1.plan.prio,.int .i64 q.1.plan.most,.int .i64 q.1.plan.wait,.int .i64 q.1.plan.tasks,.slice q.2.1.a q.2.1.n q.2.1.c,.int .i64 q.1.state,.slice q.2.2.a q.2.2.n q.2.2.c]) 8 (fun _=>rfl) (fun q u hu=>by simp at hu;rcases hu with rfl | rfl | rfl | rfl | rfl | rfl | rfl | rfl<;>rfl)
def Cn (x:Run):Nat:=Ed x.plan+D8 Dz x.tasks
def Um (x:Run):Prop:=Wf x.id/\Ym x.plan/\Wf x.state/\wfL Uh x.tasks
def E5 (x:Run):Nat:=6+Cx Cq x.plan.edges+Cx Du x.tasks
def Pc (k:Int) (x:Run):Run:=⟨k,⟨k+1,k+1+1,k+1+1+1,k+1+1+1+1,mkL Ix Cq (k+1+1+1+1+1) x.plan.edges⟩,k+1+1+1+1+1+(Cx Cq x.plan.edges:Nat),mkL Lq Du (k+1+1+1+1+1+(Cx Cq x.plan.edges:Nat)+1) x.tasks⟩
theorem My (x:Run):E5 x<=13 * (Cn x+1):=by
 have h0:=Et (num:=Cq) (cnt:=Eb) (K:=13) Jl x.plan.edges;have h1:=Et (num:=Du) (cnt:=Dz) (K:=13) Lr x.tasks;unfold E5 Cn Ed;omega
theorem Aeq (x:Run) (s:Sl×Sl) (w:World) (hl:Cn x<=2000000) (h:Ce.rd w w x s) :
  Calls Am 234 #[Gt x s] w (Df Ce Gt x w):=by
 have aY:∀ W,Below w w W->Ce.rd W W x s:=fun W hW=>Ce.rd_more (Ce.rd_below h hW) hW.size;go_enter func234,ntmps234;go_wp2_with fail
 refine (Uj x.plan s.1 _ (by unfold Cn at hl;omega) ((aY _ (by repeat (first | exact Br _ _ | refine Ae ?_ Bo _))).1)).mono ?_;rintro e w0 ⟨s0,F0,rfl,o0,n0,aL⟩;obtain ⟨q0,p0⟩:=Gl aL;have z0:=aL.size;simp only [Bj,Bk] at z0 n0;have B0:Below w w w0:=Bu (by repeat (first | exact Br _ _ | refine Ae ?_ Bo _)) aL;go_wp2_with fail
 refine (Aam x.tasks s.2 _ (by unfold Cn at hl;omega) ((aY _ (by repeat (first | (with_reducible exact B0) | (with_reducible exact Br _ _) | refine Ad ?_ Bo _ | refine Ae ?_ Bo _))).2)).mono ?_;rintro e w1 ⟨s1,F1,rfl,o1,n1,aJ⟩;obtain ⟨q1,p1⟩:=Gl aJ;have z1:=aJ.size;simp only [Bj,Bk] at z1 n1 q1 p1;have B1:Below w w w1:=Bu (by repeat (first | (with_reducible exact B0) | (with_reducible exact Br _ _) | refine Ad ?_ Bo _ | refine Ae ?_ Bo _)) aJ;have q1a:=fun o=>q1 w o Bl;have p1a:=fun o=>p1 w o Bl;have q1b:=fun o=>q1 (w+1) o Bl;have p1b:=fun o=>p1 (w+1) o Bl;have q1c:=fun o=>q1 (w+1+1) o Bl;have p1c:=fun o=>p1 (w+1+1) o Bl;go_wp2;refine Aj (v:=Gt x (s0,s1)) ?_ rfl ?_
 ·simp [Gt,results,results234,go_sem,q0,q1,q1a,q1b,q1c]
 ·refine ⟨(s0,s1),F0 ++ F1,rfl,⟨F0,F1,rfl,?_,?_,?_⟩,?_,?_⟩
  ·rw [Ax];refine ⟨Dt.ow_nodup Cd o0,Dt.ow_nodup (Dt.list C7) o1,fun u hu u' hu' e=>?_⟩;have h1:=Dt.ow_lt Cd o0 u hu;have h2:=n1 u' hu';omega
  ·repeat (first | (with_reducible exact o0) | refine Dt.ow_set Cd ?_ (by intro hm;have:=n0 _ hm;(try simp only [Bj,Bk] at this);omega) _ | (with_reducible refine Dt.ow_below Cd ?_ aJ))
  ·repeat (first | (with_reducible exact o1) | refine Dt.ow_set (Dt.list C7) ?_ (by intro hm;have:=n1 _ hm;(try simp only [Bj,Bk] at this);omega) _)
  ·intro u hu;rcases Bi.1 hu with hu | hu
   ·have:=n0 u hu
    omega
   ·have:=n1 u hu
    omega
  ·repeat (first | (with_reducible exact B1) | (with_reducible exact Br _ _) | refine Ad ?_ Bo _ | refine Ae ?_ Bo _)
theorem Aer (x y:Run) (s r:Sl×Sl) (w:World) (hl:Cn x<=2000000) (hl':Cn y<=2000000) (h:Ce.rd w w x s) (h':Ce.rd w w y r) :
  Calls Am 236 #[Gt x s,Gt y r] w fun e w'=>e = .returned (.bool (decide (x=y)))/\Below w w w':=by
 have aY:∀ W,Below w w W->Ce.rd W W x s:=fun W hW=>Ce.rd_more (Ce.rd_below h hW) hW.size;have cF:∀ W,Below w w W->Ce.rd W W y r:=fun W hW=>Ce.rd_more (Ce.rd_below h' hW) hW.size;by_cases h0:x.id=y.id;case neg =>
  have t0:(x.id != y.id)=true:=by rw [bne_iff_ne];exact h0
  have H:=Bq (show decide (x=y)=false by simp only [decide_eq_false_iff_not];intro e;exact h0 (by rw [e]));clear h0;go_enter func236,ntmps236;go_wp2;go_ret;exact ⟨Bw (by first | exact H.out.symm | rfl),by repeat (first | exact Br _ _ | refine Ae ?_ Bo _)⟩
 have t0:(x.id != y.id)=false:=by simp [h0]
 have H0:=Bq h0;clear h0;go_enter func236,ntmps236;go_wp2_with fail
 refine (Uk x.plan y.plan s.1 r.1 _ (by unfold Cn at hl;omega) (by unfold Cn at hl';omega) ((aY _ (by repeat (first | exact Br _ _ | refine Ae ?_ Bo _))).1) ((cF _ (by repeat (first | exact Br _ _ | refine Ae ?_ Bo _))).1)).mono ?_;rintro e w1 ⟨rfl,aJ⟩;have B1:Below w w w1:=Bu (by repeat (first | exact Br _ _ | refine Ae ?_ Bo _)) aJ;obtain ⟨q1,p1⟩:=Gl aJ;by_cases h1:x.plan=y.plan;case neg =>
  have H:=Bq (show decide (x=y)=false by simp only [decide_eq_false_iff_not];intro e;exact h1 (by rw [e]));rw [decide_eq_false h1];clear h1;go_wp2;go_ret;exact ⟨Bw (by first | exact H.out.symm | rfl),by exact B1⟩
 rw [decide_eq_true h1];have H1:=Bq h1;clear h1;by_cases h2:x.state=y.state;case neg =>
  have t2:(x.state != y.state)=true:=by rw [bne_iff_ne];exact h2
  have H:=Bq (show decide (x=y)=false by simp only [decide_eq_false_iff_not];intro e;exact h2 (by rw [e]));clear h2;go_wp2;go_ret;exact ⟨Bw (by first | exact H.out.symm | rfl),by exact B1⟩
 have t2:(x.state != y.state)=false:=by simp [h2]
 have H2:=Bq h2;clear h2;go_wp2_with fail
 refine (Aal x.tasks y.tasks s.2 r.2 _ (by unfold Cn at hl;omega) (by unfold Cn at hl';omega) ((aY _ (by first | exact B1 | (repeat (first | exact Br _ _ | refine Ae ?_ Bo _)))).2) ((cF _ (by first | exact B1 | (repeat (first | exact Br _ _ | refine Ae ?_ Bo _)))).2)).mono ?_;rintro e w3 ⟨rfl,cD⟩;have B3:Below w w w3:=Bu (by first | exact B1 | (repeat (first | exact Br _ _ | refine Ae ?_ Bo _))) cD;obtain ⟨q3,p3⟩:=Gl cD;by_cases h3:x.tasks=y.tasks;case neg =>
  have H:=Bq (show decide (x=y)=false by simp only [decide_eq_false_iff_not];intro e;exact h3 (by rw [e]));rw [decide_eq_false h3];clear h3;go_wp2;go_ret;exact ⟨Bw (by first | exact H.out.symm | rfl),by exact B3⟩
 rw [decide_eq_true h3];have H3:=Bq h3;clear h3;have H:=Bq (show decide (x=y)=true by
  simp only [decide_eq_true_eq];have hh:=And.intro H0.out (And.intro H1.out (And.intro H2.out H3.out));obtain ⟨e0,e1,e2,e3⟩:=hh;cases x;cases y;simp only at e0 e1 e2 e3;subst e0 e1 e2 e3;rfl)
 go_wp2;go_ret;exact ⟨Bw (by first | exact H.out.symm | rfl),by exact B3⟩
theorem Aes (x:Run) (s:Sl×Sl) (left:Int) (w:World) (h0:0<=left) (h1:left<=2000000) (hw:Um x) (h:Ce.rd w w x s) :
  Calls Am 228 #[Gt x s,J U left] w (K4 left (Cn x) w):=by
 have aY:∀ W,Below w w W->Ce.rd W W x s:=fun W hW=>Ce.rd_more (Ce.rd_below h hW) hW.size;go_enter func228,ntmps228;go_wp2_with fail
 refine (Ul x.plan s.1 left _ Bl Bl hw.2.1 ((aY _ (by repeat (first | exact Br _ _ | refine Ae ?_ Bo _))).1)).mono ?_;rintro e w0 ⟨r0,rfl,gE,aL⟩;have B0:Below w w w0:=Bu (by repeat (first | exact Br _ _ | refine Ae ?_ Bo _)) aL;obtain ⟨q0,p0⟩:=Gl aL;rcases gE with rfl | ⟨y0,z0⟩
 ·go_wp2;go_ret;exact ⟨-1,rfl,.inl rfl,B0⟩
 go_wp2_with fail
 refine (Aak x.tasks s.2 r0 _ Bl Bl hw.2.2.2 ((aY _ B0).2)).mono ?_;rintro e w1 ⟨r1,rfl,rB,aJ⟩;have B1:Below w w w1:=Bu B0 aJ;obtain ⟨q1,p1⟩:=Gl aJ;rcases rB with rfl | ⟨y1,z1⟩
 ·go_wp2;go_ret;exact ⟨-1,rfl,.inl rfl,B1⟩
 go_wp2;go_ret;exact ⟨_,rfl,.inr ⟨Bl,by unfold Cn;omega⟩,B1⟩
theorem RdL.run {w:World} {B:Nat} {A:Option Addr} {n c:Nat} {l:List (Run)} (h:RdL Ce w B (Aa A n c) l) {k:Nat} (hk:k<l.length) :
  ∃ b o,∃ s:Sl×Sl,A=Ac ⟨b,o,Ab⟩/\b<B/\Ce.rd w B l[k] s/\w.cell? ⟨b,o+k * 8,Ab⟩=Ac (J U l[k].id)/\w.cell? ⟨b,o+k * 8+1,Ab⟩=Ac (J U l[k].plan.prio)/\w.cell? ⟨b,o+k * 8+2,Ab⟩=Ac (J U l[k].plan.most)/\w.cell? ⟨b,o+k * 8+3,Ab⟩=Ac (J U l[k].plan.wait)/\w.cell? ⟨b,o+k * 8+4,Ab⟩=Ac (J U l[k].plan.tasks)/\w.cell? ⟨b,o+k * 8+5,Ab⟩=Ac (Aa s.1.a s.1.n s.1.c)/\w.cell? ⟨b,o+k * 8+6,Ab⟩=Ac (J U l[k].state)/\w.cell? ⟨b,o+k * 8+7,Ab⟩=Ac (Aa s.2.a s.2.n s.2.c):=by
 obtain ⟨b,o,s,rfl,hb,hc,hr⟩:=h.at_ k hk;exact ⟨b,o,s,rfl,hb,hr,hc 0 _ rfl,hc 1 _ rfl,hc 2 _ rfl,hc 3 _ rfl,hc 4 _ rfl,hc 5 _ rfl,hc 6 _ rfl,hc 7 _ rfl⟩
theorem Ow.c_run {E:TypeId} {w:World} {base g n cap:Nat} {l:List ((Run)×Sl×Sl)} (h:Ow Ce.enc E w base (Aa (Ac ⟨g,0,Ab⟩) n cap) l) {k:Nat} (hk:k<l.length) :
  w.cell? ⟨g,k * 8,Ab⟩=Ac (J U l[k].1.id)/\w.cell? ⟨g,k * 8+1,Ab⟩=Ac (J U l[k].1.plan.prio)/\w.cell? ⟨g,k * 8+2,Ab⟩=Ac (J U l[k].1.plan.most)/\w.cell? ⟨g,k * 8+3,Ab⟩=Ac (J U l[k].1.plan.wait)/\w.cell? ⟨g,k * 8+4,Ab⟩=Ac (J U l[k].1.plan.tasks)/\w.cell? ⟨g,k * 8+5,Ab⟩=Ac (Aa l[k].2.1.a l[k].2.1.n l[k].2.1.c)/\w.cell? ⟨g,k * 8+6,Ab⟩=Ac (J U l[k].1.state)/\w.cell? ⟨g,k * 8+7,Ab⟩=Ac (Aa l[k].2.2.a l[k].2.2.n l[k].2.2.c):=by
 rcases h.form with ⟨h1,_⟩ | ⟨g',cap',hv,_,_,_,_,_,hc⟩
 ·simp at h1
 ·simp only [Value.slice.injEq,Option.some.injEq,Addr.mk.injEq,and_true] at hv;obtain ⟨rfl,_,_⟩:=hv;exact ⟨hc k hk 0 _ rfl,hc k hk 1 _ rfl,hc k hk 2 _ rfl,hc k hk 3 _ rfl,hc k hk 4 _ rfl,hc k hk 5 _ rfl,hc k hk 6 _ rfl,hc k hk 7 _ rfl⟩
theorem Foc.run {w:World} {b o n c j:Nat} {rs:List ((Run)×Sl×Sl)} {G1 Fx G2:List Nat} {x:Run} {s:Sl×Sl} (h:Foc Ce w b o n c rs j G1 Fx G2 x s) :
  w.cell? ⟨b,o+j * 8,Ab⟩=Ac (J U x.id)/\w.cell? ⟨b,o+j * 8+1,Ab⟩=Ac (J U x.plan.prio)/\w.cell? ⟨b,o+j * 8+2,Ab⟩=Ac (J U x.plan.most)/\w.cell? ⟨b,o+j * 8+3,Ab⟩=Ac (J U x.plan.wait)/\w.cell? ⟨b,o+j * 8+4,Ab⟩=Ac (J U x.plan.tasks)/\w.cell? ⟨b,o+j * 8+5,Ab⟩=Ac (Aa s.1.a s.1.n s.1.c)/\w.cell? ⟨b,o+j * 8+6,Ab⟩=Ac (J U x.state)/\w.cell? ⟨b,o+j * 8+7,Ab⟩=Ac (Aa s.2.a s.2.n s.2.c):=⟨h.cells 0 _ rfl,h.cells 1 _ rfl,h.cells 2 _ rfl,h.cells 3 _ rfl,h.cells 4 _ rfl,h.cells 5 _ rfl,h.cells 6 _ rfl,h.cells 7 _ rfl⟩
theorem Acs (l:List (Run)) (s:Sl) (left:Int) (w:World) (h0:0<=left) (h1:left<=2000000) (hw:wfL Um l) (h:RdL Ce w w s.v l) :
  Calls Am 150 #[Aa s.a s.n s.c,J U left] w (K4 left (D8 Cn l) w):=by
 obtain ⟨A,n,c⟩:=s;obtain ⟨A',c',hv,-⟩:=h.form;simp only [Sl.v,Value.slice.injEq] at hv;obtain ⟨rfl,rfl,rfl⟩:=hv;have bZ:=hw.1;by_cases aA:left<l.length
 ·go_enter func150,ntmps150;go_wp2;go_ret;exact ⟨-1,rfl,.inl rfl,Br _ _⟩
 have Hw:=Bq hw;clear hw;go_enter func150,ntmps150;go_wp2;go_loopw [1,5] (fun t i wr=>∃ k:Nat,∃ m:Int,k<=l.length/\i = J U k/\t = J U m/\0<=m/\m+l.length+(((l.take k).map Cn).sum:Nat)<=left/\Below w w wr) (fun _ i _=>l.length - (intOf i).toNat);case atStart=>exact ⟨0,_,Ag _,rfl,rfl,Bl,Bo,Br _ _⟩
 case round =>
  obtain ⟨k,m,hk,rfl,rfl,m0,m1,hb⟩:=hrel;by_cases aA:k<l.length
  ·obtain ⟨b,o,s,rfl,aK,hr,c0,c1,c2,c3,c4,c5,c6,c7⟩:=(h.below hb).run aA;have hx:∀ W,Below wr wr W->Ce.rd W W l[k] s:=fun W hW=>Ce.rd_more (Ce.rd_below (Ce.rd_more hr hb.size) hW) hW.size;have rK:Um l[k]:=Hw.out.2 _ (Aw aA);have M1:=Bq m1;have m2:m<=2000000:=Bl;clear m1;go_wp2_with fail
   refine (Aes l[k] s m _ m0 m2 rK (hx _ (by first | exact Br _ _ | exact (Br _ _).drew))).mono ?_;rintro e w1 ⟨r,rfl,hr,aJ⟩;rcases hr with rfl | ⟨r0,r1⟩
   ·go_wp2;go_ret;exact ⟨-1,rfl,.inl rfl,Bu hb aJ⟩
   ·go_wp2;refine ⟨⟨k+1,r,Bl,by go_num,rfl,r0,?_,Bu hb aJ⟩,by simp [intOf];omega⟩;have M2:=M1.out;have r2:r+(Cn l[k]:Nat)<=m:=r1;rw [Em _ _ _ aA];push_cast;omega
  ·go_wp2;go_ret;refine ⟨_,rfl,.inr ⟨Bl,?_⟩,hb⟩;rw [Bg Bl] at m1;unfold D8;push_cast;omega
theorem Acu (l l':List (Run)) (s s':Sl) (w:World) (hl:D8 Cn l<=2000000) (hl':D8 Cn l'<=2000000) (h:RdL Ce w w s.v l) (h':RdL Ce w w s'.v l') :
  Calls Am 162 #[Aa s.a s.n s.c,Aa s'.a s'.n s'.c] w fun e w'=>e = .returned (.bool (decide (l=l')))/\Below w w w':=by
 obtain ⟨A,n,c⟩:=s;obtain ⟨A0,c0,hv,-⟩:=h.form;simp only [Sl.v,Value.slice.injEq] at hv;obtain ⟨rfl,rfl,rfl⟩:=hv;obtain ⟨A',n',c'⟩:=s';obtain ⟨A0,c0,hv,-⟩:=h'.form;simp only [Sl.v,Value.slice.injEq] at hv;obtain ⟨rfl,rfl,rfl⟩:=hv;have bZ:l.length<=2000000:=Ah (Cj _ _) hl;have hll':l'.length<=2000000:=Ah (Cj _ _) hl';have dH:∀ k (hk:k<l.length),Cn l[k]<=2000000:=fun k hk=>by have:=C9 (cnt:=Cn) (Aw hk);omega
 have hcc':∀ k (hk:k<l'.length),Cn l'[k]<=2000000:=fun k hk=>by have:=C9 (cnt:=Cn) (Aw hk);omega
 clear hl hl';by_cases aC:l.length=l'.length
 ·have aL:((l.length:Int) != (l'.length:Int))=false:=by simp [aC]
  have Hne:=Bq aC;clear aC;go_enter func162,ntmps162;go_wp2;go_loopw [5] (fun i wr=>∃ k:Nat,k<=l.length/\i = J U k/\Hid (l.take k=l'.take k)/\Below w w wr) (fun i _=>l.length - (intOf i).toNat);case atStart=>exact ⟨0,Ag _,rfl,rfl,Br _ _⟩
  case round =>
   obtain ⟨k,hk,rfl,eS,hb⟩:=hrel;by_cases aA:k<l.length
   ·have cA:k<l'.length:=by rw [<-Hne.out];exact aA
    obtain ⟨b,o,s,rfl,aK,hr,c0,c1,c2,c3,c4,c5,c6,c7⟩:=(h.below hb).run aA;obtain ⟨b',o',s',rfl,bI,gH,d0,d1,d2,d3,d4,d5,d6,d7⟩:=(h'.below hb).run cA;have hx:∀ W,Below wr wr W->Ce.rd W W l[k] s:=fun W hW=>Ce.rd_more (Ce.rd_below (Ce.rd_more hr hb.size) hW) hW.size;have dV:∀ W,Below wr wr W->Ce.rd W W l'[k] s':=fun W hW=>Ce.rd_more (Ce.rd_below (Ce.rd_more gH hb.size) hW) hW.size;go_wp2;go_still_tail 8,Bm;go_wp2_with (go_at_call 236;refine (Aer l[k] l'[k] s s' _ (dH k aA) (hcc' k cA) (hx _ (by first | exact Br _ _ | exact (Br _ _).drew)) (dV _ (by first | exact Br _ _ | exact (Br _ _).drew))).mono ?_;rintro e w1 ⟨rfl,aJ⟩)
    ·rename_i hd;go_ret;refine ⟨Bw ?_,(hb.drew).trans (aJ.mono hb.size)⟩;simp only [Bool.false_eq,decide_eq_false_iff_not];intro e;subst e;simp at hd
    ·rename_i hd;refine ⟨⟨k+1,Bl,by go_num,?_,(hb.drew).trans (aJ.mono hb.size)⟩,by simp [intOf];omega⟩;show List.take (k+1) l=List.take (k+1) l';rw [Cp l k aA,Cp l' k cA,eS.out];simp at hd;rw [hd]
   ·go_wp2;go_ret;refine ⟨Bw ?_,hb⟩;have h1:=eS.out;rw [Bg Bl,Bg (by rw [<-Hne.out];omega)] at h1;simp [h1]
 ·have aL:((l.length:Int) != (l'.length:Int))=true:=by simp;omega
  go_enter func162,ntmps162;go_wp2;go_ret;refine ⟨Bw ?_,Br _ _⟩;simp only [Bool.false_eq,decide_eq_false_iff_not];intro e;exact aC (by rw [e])
theorem Kf:(Am.info? 167).map (fun i=>(i.zero,i.size,i.bytes))=Ac (Ac (.agg #[J U 0,J U 0,J U 0,J U 0,J U 0,Aa Ab 0 0,J U 0,Aa Ab 0 0]),8,96):=Bm
theorem Acv (l:List (Run)) (s:Sl) (w:World) (hl:D8 Cn l<=2000000) (h:RdL Ce w w s.v l) :
  Calls Am 159 #[.slice s.a s.n s.c] w (Df (Dt.list Ce) slV l w):=by
 obtain ⟨A,n,c⟩:=s;obtain ⟨A',c',hv,-⟩:=h.form;simp only [Sl.v,Value.slice.injEq] at hv;obtain ⟨rfl,rfl,rfl⟩:=hv;have bZ:l.length<=2000000:=Ah (Cj _ _) hl;have dH:∀ k (hk:k<l.length),Cn l[k]<=2000000:=fun k hk=>by have:=C9 (cnt:=Cn) (Aw hk);omega
 clear hl;obtain ⟨i0,aR,aX,aW,aU⟩:=info_parts Kf;have kE:∀ w:World,(Instr.makeSlice 25 (.int .i64 (l.length:Int)) (.int .i64 (l.length:Int))).run Am w = .ok (.slice (Ac ⟨w,0,Ab⟩) l.length l.length) (w.alloc (.cells (madeCells #[.int .i64 0,.int .i64 0,.int .i64 0,.int .i64 0,.int .i64 0,.slice Ab 0 0,.int .i64 0,.slice Ab 0 0] (l.length * 8)) 167)):=by
  intro w
  have:=run_make (P:=Am) w 25 167 i0 _ underlying25 aR aX .i64 .i64 l.length l.length Bl Bl (by rw [aU];omega) Bl
  rw [aW] at this;simpa [Value.cells] using this
 go_enter func159,ntmps159;go_wp2;go_loopw [4] (fun i wr=>∃ k:Nat,k<=l.length/\i = .int .i64 k/\Hid (∃ (rs:List ((Run)×Sl×Sl)) (G:List Nat),rs.map (·.1)=l.take k/\Ow Ce.enc 167 wr w (.slice (Ac ⟨w,0,Ab⟩) l.length l.length) (rs ++ List.replicate (l.length - k) (⟨0,⟨0,0,0,0,[]⟩,0,[]⟩,(⟨Ab,0,0⟩,⟨Ab,0,0⟩)))/\Ows Ce wr G rs/\G.Nodup /\ ∀ b∈G,w<b)/\Below w w wr) (fun i _=>l.length - (intOf i).toNat);case atStart=>exact ⟨0,Ag _,rfl,⟨[],[],rfl,by rw [List.nil_append,Nat.sub_zero];exact Ow.made Ce.enc 167 w (⟨0,⟨0,0,0,0,[]⟩,0,[]⟩,(⟨Ab,0,0⟩,⟨Ab,0,0⟩)) l.length Bp (by simp [maxLen];omega) rfl rfl,.nil,List.nodup_nil,fun _ h=>by cases h⟩,Bt⟩
 case round =>
  obtain ⟨k,hk,rfl,⟨rs,G,hm,hown,hG,gW,eK⟩,hb⟩:=hrel;have bG:rs.length=k:=by have:=congrArg List.length hm;simpa [Nat.min_eq_left hk] using this
  by_cases aA:k<l.length
  ·obtain ⟨b,o,s,rfl,aK,hr,c0,c1,c2,c3,c4,c5,c6,c7⟩:=(h.below hb).run aA;have hx:∀ W,Below wr wr W->Ce.rd W W l[k] s:=fun W hW=>Ce.rd_more (Ce.rd_below (Ce.rd_more hr hb.size) hW) hW.size;have aF:(rs ++ List.replicate (l.length - k) ((⟨0,⟨0,0,0,0,[]⟩,0,[]⟩,(⟨Ab,0,0⟩,⟨Ab,0,0⟩)):(Run)×Sl×Sl)).length=l.length:=by simp;omega
   have Hm:=Bq hm;have Hrl:=Bq bG;clear hm bG;go_wp2_with (go_at_call 234;refine (Aeq l[k] s _ (dH k aA) (hx _ (by first | exact Br _ _ | exact (Br _ _).drew))).mono ?_;rintro e w1 ⟨s1,F1,rfl,o1,n1,aJ⟩;have bP:=hown.below aJ;have hf:=bP.free;obtain ⟨d0,d1,d2,d3,d4,d5,d6,d7⟩:=bP.c_run (k:=k) (by rw [aF];exact aA))
   have hp:=Ow.put bP aF k aA (l[k],s1);have Hp:=Bld.lay hG gW eK aJ (r:=(l[k],s1)) o1 n1 (Ai (hown.blk).2 (Bs _)) hp.2;rw [Mv rs _ k l.length Hrl.out aA] at hp;refine ⟨⟨k+1,Bl,by go_num,⟨rs ++ [(l[k],s1)],G ++ F1,?_,hp.1,Hp.1,Hp.2.1,Hp.2.2⟩,(hb.trans (aJ.mono hb.size)).grown hp.2 (Ah hb.size aJ.size) (fun g hg=>by simp at hg;omega)⟩,by simp [intOf];omega⟩;rw [List.map_append,Hm.out,Cp l k aA];rfl
  ·have bF:k=l.length:=Bl;subst bF;rw [Nat.sub_self,List.replicate_zero,List.append_nil] at hown;go_wp2;go_ret;rw [List.take_length] at hm;have hB:Bld Ce 167 wr w (.slice (Ac ⟨w,0,Ab⟩) l.length l.length) rs:=⟨G,by rw [<-bG];exact (by rw [bG];exact hown),hG,gW,fun b aV=>⟨Nat.le_of_lt (eK b aV),by simp [Value.ownBlock];have:=eK b aV;omega⟩⟩
   obtain ⟨F,h1,h2⟩:=hB.owl hm;exact ⟨⟨Ac ⟨w,0,Ab⟩,l.length,l.length⟩,F,rfl,h1,h2,hb⟩
theorem Yn (l:List (Run)) (s:Sl) (F:List Nat) (k:Int) (w:World) (hl:D8 Cn l<=2000000) (cL:0<=k) (fJ:k<=900000000) (h:OwL Ce w F s.v l) :
  Calls Am 164 #[Aa s.a s.n s.c,J U k] w (N6 (Dt.list Ce) F (mkL Pc E5 k l) s (k+(Cx E5 l:Nat)) w):=by
 obtain ⟨A,n,c⟩:=s;obtain ⟨A',c',hv,-⟩:=h.form;simp only [Sl.v,Value.slice.injEq] at hv;obtain ⟨rfl,rfl,rfl⟩:=hv;have bZ:l.length<=2000000:=Ah (Cj _ _) hl;have cS:∀ j,Cx E5 (l.take j)<=26000000:=fun j=>by
  have h1:=Fo E5 l j;have h2:=Et (num:=E5) (cnt:=Cn) (K:=13) My l;omega
 have dH:∀ k (hk:k<l.length),Cn l[k]<=2000000:=fun k hk=>by have:=C9 (cnt:=Cn) (Aw hk);omega
 have Hnl:=Bq cS;clear cS hl;go_enter func164,ntmps164;go_wp2;go_loopw [1,5] (fun q i wr=>∃ (j:Nat) (m:Int),j<=l.length/\i = J U j/\q = J U m/\Hid (m=k+(Cx E5 (l.take j):Nat))/\OwL Ce wr F (Aa A l.length c) (mkL Pc E5 k (l.take j) ++ l.drop j)/\Chg F w wr) (fun _ i _=>l.length - (intOf i).toNat);case atStart=>exact ⟨0,k,Ag _,rfl,rfl,by show k=_;simp [Cx],h,Chg.refl _ _⟩
 case round =>
  obtain ⟨j,m,hj,rfl,rfl,hm,ho,hc⟩:=hrel;have hm':=hm.out;have fV:=Hnl.out j;have eP:0<=m:=Bl;have bU:m<=926000000:=Bl;clear hm' fV;by_cases aA:j<l.length
  ·have aB:(j:Int)<(l.length:Int):=Bl;have aF:(mkL Pc E5 k (l.take j) ++ l.drop j).length=l.length:=by simp [Ep];omega
   obtain ⟨b,o,rs,s,G1,Fx,G2,rfl,hF,bR,f0⟩:=ho.foc (j:=j) (by rw [aF];exact aA);rw [Mw Pc E5 k l j aA] at f0;subst hF;have Hrm:=Bq bR;clear bR ho;obtain ⟨c0,c1,c2,c3,c4,c5,c6,c7⟩:=f0.run;have fr0:=f0.free;have gG:D8 Eb l[j].plan.edges<=2000000:=by
    have:=dH j aA
    unfold Cn Ed at this;omega
   have hne0:Cx Cq l[j].plan.edges<=26000000:=by
    have h2:=Et (num:=Cq) (cnt:=Eb) (K:=13) Jl l[j].plan.edges;omega
   have hce1:D8 Dz l[j].tasks<=2000000:=by
    have:=dH j aA
    unfold Cn Ed at this;omega
   have hne1:Cx Du l[j].tasks<=26000000:=by
    have h2:=Et (num:=Du) (cnt:=Dz) (K:=13) Lr l[j].tasks;omega
   go_wp2_with fail
   obtain ⟨f1,g1⟩:=f0.put ⟨m,⟨m+1,m+1+1,m+1+1+1,m+1+1+1+1,l[j].plan.edges⟩,l[j].state,l[j].tasks⟩ 0 [J U (m),J U (m+1),J U (m+1+1),J U (m+1+1+1),J U (m+1+1+1+1)] (by show 0+5<=8;omega) (fun i hi=>match i,hi with | 0,_=>rfl | 1,_=>rfl | 2,_=>rfl | 3,_=>rfl | 4,_=>rfl | i+5,hi=>absurd hi Bn) (fun i hi hx=>match i,hi,hx with | 0,_,hx=>absurd hx Bn | 1,_,hx=>absurd hx Bn | 2,_,hx=>absurd hx Bn | 3,_,hx=>absurd hx Bn | 4,_,hx=>absurd hx Bn | 5,_,_=>rfl | 6,_,_=>rfl | 7,_,_=>rfl | i+8,hi,_=>absurd hi (by show ¬ (i+8<8);omega)) (fun _ hh=>hh);obtain ⟨Fa,Fb,jN,cB,ha,hb⟩:=f1.here;subst jN;refine (Pb l[j].plan.edges s.1 Fa _ _ gG Bl Bl ha).mono ?_;rintro e w2 ⟨rfl,o2,g2'⟩;have g2:=g2'.mono (G:=Fa ++ Fb) (fun _ hh=>List.mem_append_left _ hh);have f2:=f1.sub (y:=⟨m,⟨m+1,m+1+1,m+1+1+1,m+1+1+1+1,mkL Ix Cq (m+1+1+1+1+1) l[j].plan.edges⟩,l[j].state,l[j].tasks⟩) g2 ⟨Fa,Fb,rfl,cB,o2,Dt.ow_chg _ hb g2' (N5 cB).2⟩ rfl;obtain ⟨c2_0,c2_1,c2_2,c2_3,c2_4,c2_5,c2_6,c2_7⟩:=f2.run;have fr2:=f2.free;go_wp2_with fail
   obtain ⟨f3,g3⟩:=f2.put ⟨m,⟨m+1,m+1+1,m+1+1+1,m+1+1+1+1,mkL Ix Cq (m+1+1+1+1+1) l[j].plan.edges⟩,m+1+1+1+1+1+(Cx Cq l[j].plan.edges:Nat),l[j].tasks⟩ 6 [J U (m+1+1+1+1+1+(Cx Cq l[j].plan.edges:Nat))] (by show 6+1<=8;omega) (fun i hi=>match i,hi with | 0,_=>rfl | i+1,hi=>absurd hi Bn) (fun i hi hx=>match i,hi,hx with | 0,_,_=>rfl | 1,_,_=>rfl | 2,_,_=>rfl | 3,_,_=>rfl | 4,_,_=>rfl | 5,_,_=>rfl | 6,_,hx=>absurd hx Bn | 7,_,_=>rfl | i+8,hi,_=>absurd hi (by show ¬ (i+8<8);omega)) (fun _ hh=>hh);obtain ⟨Fa',Fb',jN,hFn',ha',aV⟩:=f3.here;refine (Wl l[j].tasks s.2 Fb' _ _ hce1 Bl Bl aV).mono ?_;rintro e w4 ⟨rfl,o4,g4'⟩;have g4:=g4'.mono (G:=Fa ++ Fb) (fun _ hh=>by rw [jN];exact List.mem_append_right _ hh);have f4:=f3.sub (y:=⟨m,⟨m+1,m+1+1,m+1+1+1,m+1+1+1+1,mkL Ix Cq (m+1+1+1+1+1) l[j].plan.edges⟩,m+1+1+1+1+1+(Cx Cq l[j].plan.edges:Nat),mkL Lq Du (m+1+1+1+1+1+(Cx Cq l[j].plan.edges:Nat)+1) l[j].tasks⟩) g4 ⟨Fa',Fb',jN,hFn',Dt.ow_chg _ ha' g4' (by rw [jN] at hFn';exact (N5 hFn').1),o4⟩ rfl;obtain ⟨c4_0,c4_1,c4_2,c4_3,c4_4,c4_5,c4_6,c4_7⟩:=f4.run;have fr4:=f4.free;go_wp2;have pY:=hm.out;have hown:=f4.owl Hrm.out;have eD:⟨m,⟨m+1,m+1+1,m+1+1+1,m+1+1+1+1,mkL Ix Cq (m+1+1+1+1+1) l[j].plan.edges⟩,m+1+1+1+1+1+(Cx Cq l[j].plan.edges:Nat),mkL Lq Du (m+1+1+1+1+1+(Cx Cq l[j].plan.edges:Nat)+1) l[j].tasks⟩=Pc m l[j]:=rfl;have bX:=Ol Pc E5 k l j aA;rw [<-hm.out] at bX;rw [eD,bX] at hown;have cV:(Cx E5 (l.take (j+1)):Nat)=Cx E5 (l.take j)+E5 l[j]:=Em _ _ _ aA;refine ⟨⟨j+1,m+1+1+1+1+1+(Cx Cq l[j].plan.edges:Nat)+1+(Cx Du l[j].tasks:Nat),Bl,by go_num,rfl,?_,hown,((((hc).trans (g1.mono (fun _ hh=>Nd hh))).trans (g2.mono (fun _ hh=>Ql hh))).trans (g3.mono (fun _ hh=>Nd hh))).trans (g4.mono (fun _ hh=>Ql hh))⟩,by simp [intOf];omega⟩;have dS:E5 l[j]=6+Cx Cq l[j].plan.edges+Cx Du l[j].tasks:=rfl;show m+1+1+1+1+1+(Cx Cq l[j].plan.edges:Nat)+1+(Cx Du l[j].tasks:Nat)=_;rw [cV,dS];push_cast;omega
  ·have hj':j=l.length:=Bl;subst hj';rw [List.take_length,List.drop_length,List.append_nil] at ho;go_wp2;go_ret;refine ⟨C8 ?_,ho,hc⟩;rw [hm.out,List.take_length]
theorem Yo (l:List (Run)) (s:Sl) (k:Int) (w:World) (hl:D8 Cn l<=2000000) (cL:0<=k) (fJ:k<=900000000) (h:RdL Ce w w s.v (mkL Pc E5 k l)) :
  Calls Am 166 #[Aa s.a s.n s.c,J U k] w fun e w'=>e = .returned (J U (k+(Cx E5 l:Nat)))/\Below w w w':=by
 obtain ⟨A,n,c⟩:=s;obtain ⟨A',c',hv,-⟩:=h.form;simp only [Sl.v,Value.slice.injEq,Ep] at hv;obtain ⟨rfl,rfl,rfl⟩:=hv;have bZ:l.length<=2000000:=Ah (Cj _ _) hl;have cS:∀ j,Cx E5 (l.take j)<=26000000:=fun j=>by
  have h1:=Fo E5 l j;have h2:=Et (num:=E5) (cnt:=Cn) (K:=13) My l;omega
 have dH:∀ k (hk:k<l.length),Cn l[k]<=2000000:=fun k hk=>by have:=C9 (cnt:=Cn) (Aw hk);omega
 have aN:∀ (wr:World) (j:Nat) (hj:j<l.length) (m:Int),Below w w wr->m=k+(Cx E5 (l.take j):Nat) -> ∃ b o,∃ s:Sl×Sl,A=Ac ⟨b,o,Ab⟩/\b<w.heap.size/\Ce.rd wr w (Pc m l[j]) s/\wr.cell? ⟨b,o+j * 8,Ab⟩=Ac (J U (m))/\wr.cell? ⟨b,o+j * 8+1,Ab⟩=Ac (J U (m+1))/\wr.cell? ⟨b,o+j * 8+2,Ab⟩=Ac (J U (m+1+1))/\wr.cell? ⟨b,o+j * 8+3,Ab⟩=Ac (J U (m+1+1+1))/\wr.cell? ⟨b,o+j * 8+4,Ab⟩=Ac (J U (m+1+1+1+1))/\wr.cell? ⟨b,o+j * 8+5,Ab⟩=Ac (Aa s.1.a s.1.n s.1.c)/\wr.cell? ⟨b,o+j * 8+6,Ab⟩=Ac (J U (m+1+1+1+1+1+(Cx Cq l[j].plan.edges:Nat)))/\wr.cell? ⟨b,o+j * 8+7,Ab⟩=Ac (Aa s.2.a s.2.n s.2.c):=by
  intro wr j hj m hb hm;obtain ⟨b,o,s,h1,h2,h3,h4⟩:=(h.below hb).run (k:=j) (by rw [Ep];exact hj);first | rw [Kw _ _ _ _ _ hj,<-hm] at h3 h4 | rw [Kw _ _ _ _ _ hj,<-hm] at h3
  exact ⟨b,o,s,h1,h2,h3,h4⟩
 have Hc:=Bq aN;have Hnl:=Bq cS;clear aN cS hl;go_enter func166,ntmps166;go_wp2;go_loopw [1,5] (fun q i wr=>∃ (j:Nat) (m:Int),j<=l.length/\i = J U j/\q = J U m/\Hid (m=k+(Cx E5 (l.take j):Nat))/\Below w w wr) (fun _ i _=>l.length - (intOf i).toNat);case atStart=>exact ⟨0,k,Ag _,rfl,rfl,by show k=_;simp [Cx],Br _ _⟩
 case round =>
  obtain ⟨j,m,hj,rfl,rfl,hm,hb⟩:=hrel;have hm':=hm.out;have fV:=Hnl.out j;have eP:0<=m:=Bl;have bU:m<=926000000:=Bl;clear hm' fV;by_cases aA:j<l.length
  ·have aB:(j:Int)<(l.length:Int):=Bl;obtain ⟨b,o,s,rfl,aK,gR,c0,c1,c2,c3,c4,c5,c6,c7⟩:=Hc.out wr j aA m hb hm.out;have hx:∀ W,Below wr wr W->Ce.rd W W (Pc m l[j]) s:=fun W hW=>Ce.rd_more (Ce.rd_below (Ce.rd_more gR hb.size) hW) hW.size;have gG:D8 Eb l[j].plan.edges<=2000000:=by
    have:=dH j aA
    unfold Cn Ed at this;omega
   have hne0:Cx Cq l[j].plan.edges<=26000000:=by
    have h2:=Et (num:=Cq) (cnt:=Eb) (K:=13) Jl l[j].plan.edges;omega
   have hce1:D8 Dz l[j].tasks<=2000000:=by
    have:=dH j aA
    unfold Cn Ed at this;omega
   have hne1:Cx Du l[j].tasks<=26000000:=by
    have h2:=Et (num:=Du) (cnt:=Dz) (K:=13) Lr l[j].tasks;omega
   go_wp2_with fail
   refine (Wk l[j].plan.edges s.1 _ _ gG Bl Bl (hx _ (by first | exact Br _ _ | exact (Br _ _).drew)).1).mono ?_;rintro e v0 ⟨rfl,aL⟩;have B0:Below wr wr v0:=Bu (by first | exact Br _ _ | exact (Br _ _).drew) aL;obtain ⟨q0,p0⟩:=Gl B0;have hbr0:=Ai aK hb.size;go_wp2_with fail
   refine (Wm l[j].tasks s.2 _ _ hce1 Bl Bl (hx _ B0).2).mono ?_;rintro e v1 ⟨rfl,aJ⟩;have B1:Below wr wr v1:=Bu B0 aJ;obtain ⟨q1,p1⟩:=Gl B1;have hbr1:=Ai aK hb.size;go_wp2;have cV:(Cx E5 (l.take (j+1)):Nat)=Cx E5 (l.take j)+E5 l[j]:=Em _ _ _ aA;refine ⟨⟨j+1,m+1+1+1+1+1+(Cx Cq l[j].plan.edges:Nat)+1+(Cx Du l[j].tasks:Nat),Bl,by go_num,rfl,?_,Bu hb B1⟩,by simp [intOf];omega⟩;have dS:E5 l[j]=6+Cx Cq l[j].plan.edges+Cx Du l[j].tasks:=rfl;have pY:=hm.out;show m+1+1+1+1+1+(Cx Cq l[j].plan.edges:Nat)+1+(Cx Du l[j].tasks:Nat)=_;rw [cV,dS];push_cast;omega
  ·have hj':j=l.length:=Bl;subst hj';go_wp2;go_ret;refine ⟨C8 ?_,hb⟩;rw [hm.out,List.take_length]
structure Deed where
 kind:Int
 run:Int
 plan:Plan
 task:Int
 try_:Int
 worker:Int
 draw:Int
deriving DecidableEq,Inhabited
@[go_sem] abbrev De (x:Deed) (s:Sl):Value:=.agg #[.int .i64 x.kind,.int .i64 x.run,.int .i64 x.plan.prio,.int .i64 x.plan.most,.int .i64 x.plan.wait,.int .i64 x.plan.tasks,.slice s.a s.n s.c,.int .i64 x.task,.int .i64 x.try_,.int .i64 x.worker,.int .i64 x.draw]
abbrev Ec:Dt Deed:=Dt.via Cd (·.plan) (fun q=>[.int .i64 q.1.kind,.int .i64 q.1.run,.int .i64 q.1.plan.prio,.int .i64 q.1.plan.most,.int .i64 q.1.plan.wait,.int .i64 q.1.plan.tasks,.slice q.2.a q.2.n q.2.c,.int .i64 q.1.task,.int .i64 q.1.try_,.int .i64 q.1.worker,.int .i64 q.1.draw]) 11 (fun _=>rfl) (fun q u hu=>by simp at hu;rcases hu with rfl | rfl | rfl | rfl | rfl | rfl | rfl | rfl | rfl | rfl | rfl<;>rfl)
def Fu (x:Deed):Nat:=Ed x.plan
def Acw (x:Deed):Prop:=Wf x.kind/\Wf x.run/\Ym x.plan/\Wf x.task/\Wf x.try_/\Wf x.worker/\Wf x.draw
theorem Acx (x:Deed) (s:Sl) (w:World) (hl:Fu x<=2000000) (h:Ec.rd w w x s) :
  Calls Am 44 #[De x s] w (Df Ec De x w):=by
 have aY:∀ W,Below w w W->Ec.rd W W x s:=fun W hW=>Ec.rd_more (Ec.rd_below h hW) hW.size;go_enter func44,ntmps44;go_wp2_with fail
 refine (Uj x.plan s _ (by unfold Fu at hl;omega) ((aY _ (by repeat (first | exact Br _ _ | refine Ae ?_ Bo _))))).mono ?_;rintro e w0 ⟨s0,F0,rfl,o0,n0,aL⟩;obtain ⟨q0,p0⟩:=Gl aL;have z0:=aL.size;simp only [Bj,Bk] at z0 n0;have B0:Below w w w0:=Bu (by repeat (first | exact Br _ _ | refine Ae ?_ Bo _)) aL;go_wp2;refine Aj (v:=De x s0) ?_ rfl ?_
 ·simp [De,results,results44,go_sem,q0]
 ·refine ⟨s0,F0,rfl,?_,?_,?_⟩
  ·repeat (first | (with_reducible exact o0) | refine Dt.ow_set _ ?_ (by intro hm;have:=n0 _ hm;(try simp only [Bj,Bk] at this);omega) _)
  ·intro b hb
   have:=n0 b hb
   omega
  ·repeat (first | (with_reducible exact B0) | (with_reducible exact Br _ _) | refine Ad ?_ Bo _ | refine Ae ?_ Bo _)
theorem Acy (x y:Deed) (s r:Sl) (w:World) (hl:Fu x<=2000000) (hl':Fu y<=2000000) (h:Ec.rd w w x s) (h':Ec.rd w w y r) :
  Calls Am 47 #[De x s,De y r] w fun e w'=>e = .returned (.bool (decide (x=y)))/\Below w w w':=by
 have aY:∀ W,Below w w W->Ec.rd W W x s:=fun W hW=>Ec.rd_more (Ec.rd_below h hW) hW.size;have cF:∀ W,Below w w W->Ec.rd W W y r:=fun W hW=>Ec.rd_more (Ec.rd_below h' hW) hW.size;by_cases h0:x.kind=y.kind;case neg =>
  have t0:(x.kind != y.kind)=true:=by rw [bne_iff_ne];exact h0
  have H:=Bq (show decide (x=y)=false by simp only [decide_eq_false_iff_not];intro e;exact h0 (by rw [e]));clear h0;go_enter func47,ntmps47;go_wp2;go_ret;exact ⟨Bw (by first | exact H.out.symm | rfl),by repeat (first | exact Br _ _ | refine Ae ?_ Bo _)⟩
 have t0:(x.kind != y.kind)=false:=by simp [h0]
 have H0:=Bq h0;clear h0;by_cases h1:x.run=y.run;case neg =>
  have t1:(x.run != y.run)=true:=by rw [bne_iff_ne];exact h1
  have H:=Bq (show decide (x=y)=false by simp only [decide_eq_false_iff_not];intro e;exact h1 (by rw [e]));clear h1;go_enter func47,ntmps47;go_wp2;go_ret;exact ⟨Bw (by first | exact H.out.symm | rfl),by repeat (first | exact Br _ _ | refine Ae ?_ Bo _)⟩
 have t1:(x.run != y.run)=false:=by simp [h1]
 have H1:=Bq h1;clear h1;go_enter func47,ntmps47;go_wp2_with fail
 refine (Uk x.plan y.plan s r _ (by unfold Fu at hl;omega) (by unfold Fu at hl';omega) ((aY _ (by repeat (first | exact Br _ _ | refine Ae ?_ Bo _)))) ((cF _ (by repeat (first | exact Br _ _ | refine Ae ?_ Bo _))))).mono ?_;rintro e w2 ⟨rfl,aG⟩;have B2:Below w w w2:=Bu (by repeat (first | exact Br _ _ | refine Ae ?_ Bo _)) aG;obtain ⟨q2,p2⟩:=Gl aG;by_cases h2:x.plan=y.plan;case neg =>
  have H:=Bq (show decide (x=y)=false by simp only [decide_eq_false_iff_not];intro e;exact h2 (by rw [e]));rw [decide_eq_false h2];clear h2;go_wp2;go_ret;exact ⟨Bw (by first | exact H.out.symm | rfl),by exact B2⟩
 rw [decide_eq_true h2];have H2:=Bq h2;clear h2;by_cases h3:x.task=y.task;case neg =>
  have t3:(x.task != y.task)=true:=by rw [bne_iff_ne];exact h3
  have H:=Bq (show decide (x=y)=false by simp only [decide_eq_false_iff_not];intro e;exact h3 (by rw [e]));clear h3;go_wp2;go_ret;exact ⟨Bw (by first | exact H.out.symm | rfl),by exact B2⟩
 have t3:(x.task != y.task)=false:=by simp [h3]
 have H3:=Bq h3;clear h3;by_cases h4:x.try_=y.try_;case neg =>
  have t4:(x.try_ != y.try_)=true:=by rw [bne_iff_ne];exact h4
  have H:=Bq (show decide (x=y)=false by simp only [decide_eq_false_iff_not];intro e;exact h4 (by rw [e]));clear h4;go_wp2;go_ret;exact ⟨Bw (by first | exact H.out.symm | rfl),by exact B2⟩
 have t4:(x.try_ != y.try_)=false:=by simp [h4]
 have H4:=Bq h4;clear h4;by_cases h5:x.worker=y.worker;case neg =>
  have t5:(x.worker != y.worker)=true:=by rw [bne_iff_ne];exact h5
  have H:=Bq (show decide (x=y)=false by simp only [decide_eq_false_iff_not];intro e;exact h5 (by rw [e]));clear h5;go_wp2;go_ret;exact ⟨Bw (by first | exact H.out.symm | rfl),by exact B2⟩
 have t5:(x.worker != y.worker)=false:=by simp [h5]
 have H5:=Bq h5;clear h5;by_cases h6:x.draw=y.draw;case neg =>
  have t6:(x.draw != y.draw)=true:=by rw [bne_iff_ne];exact h6
  have H:=Bq (show decide (x=y)=false by simp only [decide_eq_false_iff_not];intro e;exact h6 (by rw [e]));clear h6;go_wp2;go_ret;exact ⟨Bw (by first | exact H.out.symm | rfl),by exact B2⟩
 have t6:(x.draw != y.draw)=false:=by simp [h6]
 have H6:=Bq h6;clear h6;have H:=Bq (show decide (x=y)=true by
  simp only [decide_eq_true_eq];have hh:=And.intro H0.out (And.intro H1.out (And.intro H2.out (And.intro H3.out (And.intro H4.out (And.intro H5.out H6.out)))));obtain ⟨e0,e1,e2,e3,e4,e5,e6⟩:=hh;cases x;cases y;simp only at e0 e1 e2 e3 e4 e5 e6;subst e0 e1 e2 e3 e4 e5 e6;rfl)
 go_wp2;go_ret;exact ⟨Bw (by first | exact H.out.symm | rfl),by exact B2⟩
theorem Acz (x:Deed) (s:Sl) (left:Int) (w:World) (h0:0<=left) (h1:left<=2000000) (hw:Acw x) (h:Ec.rd w w x s) :
  Calls Am 42 #[De x s,J U left] w (K4 left (Fu x) w):=by
 have aY:∀ W,Below w w W->Ec.rd W W x s:=fun W hW=>Ec.rd_more (Ec.rd_below h hW) hW.size;go_enter func42,ntmps42;go_wp2_with fail
 refine (Ul x.plan s left _ Bl Bl hw.2.2.1 ((aY _ (by repeat (first | exact Br _ _ | refine Ae ?_ Bo _))))).mono ?_;rintro e w0 ⟨r0,rfl,gE,aL⟩;have B0:Below w w w0:=Bu (by repeat (first | exact Br _ _ | refine Ae ?_ Bo _)) aL;obtain ⟨q0,p0⟩:=Gl aL;rcases gE with rfl | ⟨y0,z0⟩
 ·go_wp2;go_ret;exact ⟨-1,rfl,.inl rfl,B0⟩
 go_wp2;go_ret;exact ⟨_,rfl,.inr ⟨Bl,by unfold Fu;omega⟩,B0⟩
theorem Ri {α:Type} {p:α->Bool} {l:List α} : (0<=Hj p l) ↔ ∃ x∈l,p x=true:=by
 unfold Hj;cases h:l.findIdx? p with
 | none =>
  rw [List.findIdx?_eq_none_iff] at h;simp only;refine ⟨fun h=>absurd h Bl,?_⟩;rintro ⟨x,hx,hp⟩
  have:=h x hx
  rw [hp] at this;cases this
 | some i =>
  rw [List.findIdx?_eq_some_iff_getElem] at h;obtain ⟨hi,hp,_⟩:=h;simp only;exact ⟨fun _=>⟨_,Aw hi,hp⟩,fun _=>Bl⟩
theorem Yp (v:Value) (l:List Nat) (x:Nat) (B:Nat) (w:World) (hl:l.length<=2000000) (h:Rd Eu w B v l) :
  Calls Am 218 #[v,J U (x:Int)] w fun e w'=>e = .returned (J U (Hj (fun y=>decide (x=y)) l))/\w=w':=by
 obtain ⟨A,c,rfl,-⟩:=id h;go_enter func218,ntmps218;go_wp2;go_loop [8] (fun i=>∃ k:Nat,k<=l.length/\i = J U k/\Hid (∀ j (hj:j<k) (hj':j<l.length),decide (x=l[j])=false)) (fun i=>l.length - (intOf i).toNat);case atStart=>exact ⟨0,Ag _,rfl,fun j hj=>absurd hj Bl⟩
 case round =>
  obtain ⟨k,hk,rfl,dX⟩:=hrel;by_cases aA:k<l.length
  ·obtain ⟨b,o,rfl,aK,c0⟩:=h.nat aA;have aB:(k:Int)<(l.length:Int):=Bl;by_cases hx:x=l[k]
   ·have H:=Bq (Jp (p:=fun y=>decide (x=y)) aA (fun j hj=>dX.out j hj Bl) (show decide (x=l[k])=true by simp [hx]));have fG:((x:Int) == (l[k]:Int))=true:=by simp [hx]
    clear hx;go_wp2;go_ret;exact ⟨C8 (by rw [H.out]),rfl⟩
   ·have fG:((x:Int) == (l[k]:Int))=false:=beq_eq_false_iff_ne.2 Bl;have S:Hid (∀ j (hj:j<k+1) (hj':j<l.length),decide (x=l[j])=false):=by
     intro j hj hj';by_cases e:j=k
     ·subst e;simpa using hx
     ·exact dX.out j Bl hj'
    clear hx;go_wp2;exact ⟨⟨k+1,Bl,by go_num,S⟩,by simp [intOf];omega⟩
  ·have aB:¬ (k:Int)<(l.length:Int):=Bl;have H:=Bq (Kd (p:=fun y=>decide (x=y)) (l:=l) (fun j hj=>dX.out j Bl hj));go_wp2;go_ret;exact ⟨C8 (by rw [H.out]),rfl⟩
theorem K5 (v:Value) (l:List Nat) (x:Nat) (B:Nat) (w:World) (hl:l.length<=2000000) (h:Rd Eu w B v l) :
  Calls Am 134 #[v,J U (x:Int)] w fun e w'=>e = .returned (.bool (decide (x∈l)))/\w=w':=by
 have H:=Bq (show decide (0<=Hj (fun y=>decide (x=y)) l)=decide (x∈l) from decide_eq_decide.2 (Ri.trans Bn));go_enter func134,ntmps134;go_wp2_with fail
 refine (Yp v l x B _ hl h).mono ?_;rintro e w1 ⟨rfl,rfl⟩;go_wp2_with fail
 go_ret;exact ⟨Bw (by rw [<-H.out]),rfl⟩
def Pd:Enc UInt8:={ cells:=fun x=>[.int .u8 (x.toNat:Int)],sz:=1,len:=fun _=>rfl,one:=fun _ u hu=>by simp at hu;subst hu;rfl }
/-! the cursor at its start -/
/-! a number below another one -/
structure Yard where
 now:Int
 seq:Int
 shelf:List (List Entry)
 runs:List Run
deriving DecidableEq,Inhabited
@[go_sem] abbrev Dm (x:Yard) (s:Sl×Sl):Value:=.agg #[.int .i64 x.now,.int .i64 x.seq,.slice s.1.a s.1.n s.1.c,.slice s.2.a s.2.n s.2.c]
abbrev Bv:Dt Yard:=Dt.two (Dt.list (Dt.list Bx)) (Dt.list Ce) (·.shelf) (·.runs) (fun q=>[.int .i64 q.1.now,.int .i64 q.1.seq,.slice q.2.1.a q.2.1.n q.2.1.c,.slice q.2.2.a q.2.2.n q.2.2.c]) 4 (fun _=>rfl) (fun q u hu=>by simp at hu;rcases hu with rfl | rfl | rfl | rfl<;>rfl)
def Ca (x:Yard):Nat:=D8 Cl x.shelf+D8 Cn x.runs
def Ac0 (x:Yard):Prop:=Wf x.now/\Wf x.seq/\wfL N9 x.shelf/\wfL Um x.runs
theorem Ac1 (x:Yard) (s:Sl×Sl) (w:World) (hl:Ca x<=2000000) (h:Bv.rd w w x s) :
  Calls Am 87 #[Dm x s] w (Df Bv Dm x w):=by
 have aY:∀ W,Below w w W->Bv.rd W W x s:=fun W hW=>Bv.rd_more (Bv.rd_below h hW) hW.size;go_enter func87,ntmps87;go_wp2_with fail
 refine (Wj x.shelf s.1 _ (by unfold Ca at hl;omega) ((aY _ (by repeat (first | exact Br _ _ | refine Ae ?_ Bo _))).1)).mono ?_;rintro e w0 ⟨s0,F0,rfl,o0,n0,aL⟩;obtain ⟨q0,p0⟩:=Gl aL;have z0:=aL.size;simp only [Bj,Bk] at z0 n0;have B0:Below w w w0:=Bu (by repeat (first | exact Br _ _ | refine Ae ?_ Bo _)) aL;go_wp2_with fail
 refine (Acv x.runs s.2 _ (by unfold Ca at hl;omega) ((aY _ (by repeat (first | (with_reducible exact B0) | (with_reducible exact Br _ _) | refine Ad ?_ Bo _ | refine Ae ?_ Bo _))).2)).mono ?_;rintro e w1 ⟨s1,F1,rfl,o1,n1,aJ⟩;obtain ⟨q1,p1⟩:=Gl aJ;have z1:=aJ.size;simp only [Bj,Bk] at z1 n1 q1 p1;have B1:Below w w w1:=Bu (by repeat (first | (with_reducible exact B0) | (with_reducible exact Br _ _) | refine Ad ?_ Bo _ | refine Ae ?_ Bo _)) aJ;have q1a:=fun o=>q1 w o Bl;have p1a:=fun o=>p1 w o Bl;have q1b:=fun o=>q1 (w+1) o Bl;have p1b:=fun o=>p1 (w+1) o Bl;have q1c:=fun o=>q1 (w+1+1) o Bl;have p1c:=fun o=>p1 (w+1+1) o Bl;go_wp2;refine Aj (v:=Dm x (s0,s1)) ?_ rfl ?_
 ·simp [Dm,results,results87,go_sem,q0,q1,q1a,q1b,q1c]
 ·refine ⟨(s0,s1),F0 ++ F1,rfl,⟨F0,F1,rfl,?_,?_,?_⟩,?_,?_⟩
  ·rw [Ax];refine ⟨Dt.ow_nodup (Dt.list (Dt.list Bx)) o0,Dt.ow_nodup (Dt.list Ce) o1,fun u hu u' hu' e=>?_⟩;have h1:=Dt.ow_lt (Dt.list (Dt.list Bx)) o0 u hu;have h2:=n1 u' hu';omega
  ·repeat (first | (with_reducible exact o0) | refine Dt.ow_set (Dt.list (Dt.list Bx)) ?_ (by intro hm;have:=n0 _ hm;(try simp only [Bj,Bk] at this);omega) _ | (with_reducible refine Dt.ow_below (Dt.list (Dt.list Bx)) ?_ aJ))
  ·repeat (first | (with_reducible exact o1) | refine Dt.ow_set (Dt.list Ce) ?_ (by intro hm;have:=n1 _ hm;(try simp only [Bj,Bk] at this);omega) _)
  ·intro u hu;rcases Bi.1 hu with hu | hu
   ·have:=n0 u hu
    omega
   ·have:=n1 u hu
    omega
  ·repeat (first | (with_reducible exact B1) | (with_reducible exact Br _ _) | refine Ad ?_ Bo _ | refine Ae ?_ Bo _)
theorem Ac2 (x y:Yard) (s r:Sl×Sl) (w:World) (hl:Ca x<=2000000) (hl':Ca y<=2000000) (h:Bv.rd w w x s) (h':Bv.rd w w y r) :
  Calls Am 90 #[Dm x s,Dm y r] w fun e w'=>e = .returned (.bool (decide (x=y)))/\Below w w w':=by
 have aY:∀ W,Below w w W->Bv.rd W W x s:=fun W hW=>Bv.rd_more (Bv.rd_below h hW) hW.size;have cF:∀ W,Below w w W->Bv.rd W W y r:=fun W hW=>Bv.rd_more (Bv.rd_below h' hW) hW.size;by_cases h0:x.now=y.now;case neg =>
  have t0:(x.now != y.now)=true:=by rw [bne_iff_ne];exact h0
  have H:=Bq (show decide (x=y)=false by simp only [decide_eq_false_iff_not];intro e;exact h0 (by rw [e]));clear h0;go_enter func90,ntmps90;go_wp2;go_ret;exact ⟨Bw (by first | exact H.out.symm | rfl),by repeat (first | exact Br _ _ | refine Ae ?_ Bo _)⟩
 have t0:(x.now != y.now)=false:=by simp [h0]
 have H0:=Bq h0;clear h0;by_cases h1:x.seq=y.seq;case neg =>
  have t1:(x.seq != y.seq)=true:=by rw [bne_iff_ne];exact h1
  have H:=Bq (show decide (x=y)=false by simp only [decide_eq_false_iff_not];intro e;exact h1 (by rw [e]));clear h1;go_enter func90,ntmps90;go_wp2;go_ret;exact ⟨Bw (by first | exact H.out.symm | rfl),by repeat (first | exact Br _ _ | refine Ae ?_ Bo _)⟩
 have t1:(x.seq != y.seq)=false:=by simp [h1]
 have H1:=Bq h1;clear h1;go_enter func90,ntmps90;go_wp2_with fail
 refine (Wi x.shelf y.shelf s.1 r.1 _ (by unfold Ca at hl;omega) (by unfold Ca at hl';omega) ((aY _ (by repeat (first | exact Br _ _ | refine Ae ?_ Bo _))).1) ((cF _ (by repeat (first | exact Br _ _ | refine Ae ?_ Bo _))).1)).mono ?_;rintro e w2 ⟨rfl,aG⟩;have B2:Below w w w2:=Bu (by repeat (first | exact Br _ _ | refine Ae ?_ Bo _)) aG;obtain ⟨q2,p2⟩:=Gl aG;by_cases h2:x.shelf=y.shelf;case neg =>
  have H:=Bq (show decide (x=y)=false by simp only [decide_eq_false_iff_not];intro e;exact h2 (by rw [e]));rw [decide_eq_false h2];clear h2;go_wp2;go_ret;exact ⟨Bw (by first | exact H.out.symm | rfl),by exact B2⟩
 rw [decide_eq_true h2];have H2:=Bq h2;clear h2;go_wp2_with fail
 refine (Acu x.runs y.runs s.2 r.2 _ (by unfold Ca at hl;omega) (by unfold Ca at hl';omega) ((aY _ (by first | exact B2 | (repeat (first | exact Br _ _ | refine Ae ?_ Bo _)))).2) ((cF _ (by first | exact B2 | (repeat (first | exact Br _ _ | refine Ae ?_ Bo _)))).2)).mono ?_;rintro e w3 ⟨rfl,cD⟩;have B3:Below w w w3:=Bu (by first | exact B2 | (repeat (first | exact Br _ _ | refine Ae ?_ Bo _))) cD;obtain ⟨q3,p3⟩:=Gl cD;by_cases h3:x.runs=y.runs;case neg =>
  have H:=Bq (show decide (x=y)=false by simp only [decide_eq_false_iff_not];intro e;exact h3 (by rw [e]));rw [decide_eq_false h3];clear h3;go_wp2;go_ret;exact ⟨Bw (by first | exact H.out.symm | rfl),by exact B3⟩
 rw [decide_eq_true h3];have H3:=Bq h3;clear h3;have H:=Bq (show decide (x=y)=true by
  simp only [decide_eq_true_eq];have hh:=And.intro H0.out (And.intro H1.out (And.intro H2.out H3.out));obtain ⟨e0,e1,e2,e3⟩:=hh;cases x;cases y;simp only at e0 e1 e2 e3;subst e0 e1 e2 e3;rfl)
 go_wp2;go_ret;exact ⟨Bw (by first | exact H.out.symm | rfl),by exact B3⟩
theorem Ac3 (x:Yard) (s:Sl×Sl) (left:Int) (w:World) (h0:0<=left) (h1:left<=2000000) (hw:Ac0 x) (h:Bv.rd w w x s) :
  Calls Am 81 #[Dm x s,J U left] w (K4 left (Ca x) w):=by
 have aY:∀ W,Below w w W->Bv.rd W W x s:=fun W hW=>Bv.rd_more (Bv.rd_below h hW) hW.size;go_enter func81,ntmps81;go_wp2_with fail
 refine (Wh x.shelf s.1 left _ Bl Bl hw.2.2.1 ((aY _ (by repeat (first | exact Br _ _ | refine Ae ?_ Bo _))).1)).mono ?_;rintro e w0 ⟨r0,rfl,gE,aL⟩;have B0:Below w w w0:=Bu (by repeat (first | exact Br _ _ | refine Ae ?_ Bo _)) aL;obtain ⟨q0,p0⟩:=Gl aL;rcases gE with rfl | ⟨y0,z0⟩
 ·go_wp2;go_ret;exact ⟨-1,rfl,.inl rfl,B0⟩
 go_wp2_with fail
 refine (Acs x.runs s.2 r0 _ Bl Bl hw.2.2.2 ((aY _ B0).2)).mono ?_;rintro e w1 ⟨r1,rfl,rB,aJ⟩;have B1:Below w w w1:=Bu B0 aJ;obtain ⟨q1,p1⟩:=Gl aJ;rcases rB with rfl | ⟨y1,z1⟩
 ·go_wp2;go_ret;exact ⟨-1,rfl,.inl rfl,B1⟩
 go_wp2;go_ret;exact ⟨_,rfl,.inr ⟨Bl,by unfold Ca;omega⟩,B1⟩
theorem owB {w w':World} {F:List Nat} {y:Yard} {s:Sl×Sl} (h:Bv.ow w F y s) (hb:Below w w w'):Bv.ow w' F y s:=Bv.ow_below (F:=F) (x:=y) (s:=s) h hb
theorem owC {w w':World} {F G:List Nat} {y:Yard} {s:Sl×Sl} (h:Bv.ow w F y s) (hc:Chg G w w') (hd:∀ b∈F,b∉G):Bv.ow w' F y s:=Bv.ow_chg (F:=F) (x:=y) (s:=s) h hc hd
structure Note where
 seq:Int
 deed:Deed
deriving DecidableEq,Inhabited
@[go_sem] abbrev Ls (x:Note) (s:Sl):Value:=.agg #[.int .i64 x.seq,.int .i64 x.deed.kind,.int .i64 x.deed.run,.int .i64 x.deed.plan.prio,.int .i64 x.deed.plan.most,.int .i64 x.deed.plan.wait,.int .i64 x.deed.plan.tasks,.slice s.a s.n s.c,.int .i64 x.deed.task,.int .i64 x.deed.try_,.int .i64 x.deed.worker,.int .i64 x.deed.draw]
abbrev Ct:Dt Note:=Dt.via Ec (·.deed) (fun q=>[.int .i64 q.1.seq,.int .i64 q.1.deed.kind,.int .i64 q.1.deed.run,.int .i64 q.1.deed.plan.prio,.int .i64 q.1.deed.plan.most,.int .i64 q.1.deed.plan.wait,.int .i64 q.1.deed.plan.tasks,.slice q.2.a q.2.n q.2.c,.int .i64 q.1.deed.task,.int .i64 q.1.deed.try_,.int .i64 q.1.deed.worker,.int .i64 q.1.deed.draw]) 12 (fun _=>rfl) (fun q u hu=>by simp at hu;rcases hu with rfl | rfl | rfl | rfl | rfl | rfl | rfl | rfl | rfl | rfl | rfl | rfl<;>rfl)
def Cz (x:Note):Nat:=Fu x.deed
def Mi (x:Note):Prop:=Wf x.seq/\Acw x.deed
def Hi (x:Note):Nat:=11+Cx Cq x.deed.plan.edges
def P5 (k:Int) (x:Note):Note:=⟨k,⟨k+1,k+1+1,⟨k+1+1+1,k+1+1+1+1,k+1+1+1+1+1,k+1+1+1+1+1+1,mkL Ix Cq (k+1+1+1+1+1+1+1) x.deed.plan.edges⟩,k+1+1+1+1+1+1+1+(Cx Cq x.deed.plan.edges:Nat),k+1+1+1+1+1+1+1+(Cx Cq x.deed.plan.edges:Nat)+1,k+1+1+1+1+1+1+1+(Cx Cq x.deed.plan.edges:Nat)+1+1,k+1+1+1+1+1+1+1+(Cx Cq x.deed.plan.edges:Nat)+1+1+1⟩⟩
theorem Un (x:Note):Hi x<=13 * (Cz x+1):=by
 have h0:=Et (num:=Cq) (cnt:=Eb) (K:=13) Jl x.deed.plan.edges;unfold Hi Cz Fu Ed;omega
theorem Ac4 (x:Note) (s:Sl) (w:World) (hl:Cz x<=2000000) (h:Ct.rd w w x s) :
  Calls Am 88 #[Ls x s] w (Df Ct Ls x w):=by
 have aY:∀ W,Below w w W->Ct.rd W W x s:=fun W hW=>Ct.rd_more (Ct.rd_below h hW) hW.size;go_enter func88,ntmps88;go_wp2_with fail
 refine (Acx x.deed s _ (by unfold Cz at hl;omega) ((aY _ (by repeat (first | exact Br _ _ | refine Ae ?_ Bo _))))).mono ?_;rintro e w0 ⟨s0,F0,rfl,o0,n0,aL⟩;obtain ⟨q0,p0⟩:=Gl aL;have z0:=aL.size;simp only [Bj,Bk] at z0 n0;have B0:Below w w w0:=Bu (by repeat (first | exact Br _ _ | refine Ae ?_ Bo _)) aL;go_wp2;refine Aj (v:=Ls x s0) ?_ rfl ?_
 ·simp [Ls,results,results88,go_sem,q0]
 ·refine ⟨s0,F0,rfl,?_,?_,?_⟩
  ·repeat (first | (with_reducible exact o0) | refine Dt.ow_set _ ?_ (by intro hm;have:=n0 _ hm;(try simp only [Bj,Bk] at this);omega) _)
  ·intro b hb
   have:=n0 b hb
   omega
  ·repeat (first | (with_reducible exact B0) | (with_reducible exact Br _ _) | refine Ad ?_ Bo _ | refine Ae ?_ Bo _)
theorem Ac5 (x y:Note) (s r:Sl) (w:World) (hl:Cz x<=2000000) (hl':Cz y<=2000000) (h:Ct.rd w w x s) (h':Ct.rd w w y r) :
  Calls Am 91 #[Ls x s,Ls y r] w fun e w'=>e = .returned (.bool (decide (x=y)))/\Below w w w':=by
 have aY:∀ W,Below w w W->Ct.rd W W x s:=fun W hW=>Ct.rd_more (Ct.rd_below h hW) hW.size;have cF:∀ W,Below w w W->Ct.rd W W y r:=fun W hW=>Ct.rd_more (Ct.rd_below h' hW) hW.size;by_cases h0:x.seq=y.seq;case neg =>
  have t0:(x.seq != y.seq)=true:=by rw [bne_iff_ne];exact h0
  have H:=Bq (show decide (x=y)=false by simp only [decide_eq_false_iff_not];intro e;exact h0 (by rw [e]));clear h0;go_enter func91,ntmps91;go_wp2;go_ret;exact ⟨Bw (by first | exact H.out.symm | rfl),by repeat (first | exact Br _ _ | refine Ae ?_ Bo _)⟩
 have t0:(x.seq != y.seq)=false:=by simp [h0]
 have H0:=Bq h0;clear h0;go_enter func91,ntmps91;go_wp2_with fail
 refine (Acy x.deed y.deed s r _ (by unfold Cz at hl;omega) (by unfold Cz at hl';omega) ((aY _ (by repeat (first | exact Br _ _ | refine Ae ?_ Bo _)))) ((cF _ (by repeat (first | exact Br _ _ | refine Ae ?_ Bo _))))).mono ?_;rintro e w1 ⟨rfl,aJ⟩;have B1:Below w w w1:=Bu (by repeat (first | exact Br _ _ | refine Ae ?_ Bo _)) aJ;obtain ⟨q1,p1⟩:=Gl aJ;by_cases h1:x.deed=y.deed;case neg =>
  have H:=Bq (show decide (x=y)=false by simp only [decide_eq_false_iff_not];intro e;exact h1 (by rw [e]));rw [decide_eq_false h1];clear h1;go_wp2;go_ret;exact ⟨Bw (by first | exact H.out.symm | rfl),by exact B1⟩
 rw [decide_eq_true h1];have H1:=Bq h1;clear h1;have H:=Bq (show decide (x=y)=true by
  simp only [decide_eq_true_eq];have hh:=And.intro H0.out H1.out;obtain ⟨e0,e1⟩:=hh;cases x;cases y;simp only at e0 e1;subst e0 e1;rfl)
 go_wp2;go_ret;exact ⟨Bw (by first | exact H.out.symm | rfl),by exact B1⟩
theorem Ac6 (x:Note) (s:Sl) (left:Int) (w:World) (h0:0<=left) (h1:left<=2000000) (hw:Mi x) (h:Ct.rd w w x s) :
  Calls Am 82 #[Ls x s,J U left] w (K4 left (Cz x) w):=by
 have aY:∀ W,Below w w W->Ct.rd W W x s:=fun W hW=>Ct.rd_more (Ct.rd_below h hW) hW.size;go_enter func82,ntmps82;go_wp2_with fail
 refine (Acz x.deed s left _ Bl Bl hw.2 ((aY _ (by repeat (first | exact Br _ _ | refine Ae ?_ Bo _))))).mono ?_;rintro e w0 ⟨r0,rfl,gE,aL⟩;have B0:Below w w w0:=Bu (by repeat (first | exact Br _ _ | refine Ae ?_ Bo _)) aL;obtain ⟨q0,p0⟩:=Gl aL;rcases gE with rfl | ⟨y0,z0⟩
 ·go_wp2;go_ret;exact ⟨-1,rfl,.inl rfl,B0⟩
 go_wp2;go_ret;exact ⟨_,rfl,.inr ⟨Bl,by unfold Cz;omega⟩,B0⟩
theorem RdL.note {w:World} {B:Nat} {A:Option Addr} {n c:Nat} {l:List (Note)} (h:RdL Ct w B (Aa A n c) l) {k:Nat} (hk:k<l.length) :
  ∃ b o,∃ s:Sl,A=Ac ⟨b,o,Ab⟩/\b<B/\Ct.rd w B l[k] s/\w.cell? ⟨b,o+k * 12,Ab⟩=Ac (J U l[k].seq)/\w.cell? ⟨b,o+k * 12+1,Ab⟩=Ac (J U l[k].deed.kind)/\w.cell? ⟨b,o+k * 12+2,Ab⟩=Ac (J U l[k].deed.run)/\w.cell? ⟨b,o+k * 12+3,Ab⟩=Ac (J U l[k].deed.plan.prio)/\w.cell? ⟨b,o+k * 12+4,Ab⟩=Ac (J U l[k].deed.plan.most)/\w.cell? ⟨b,o+k * 12+5,Ab⟩=Ac (J U l[k].deed.plan.wait)/\w.cell? ⟨b,o+k * 12+6,Ab⟩=Ac (J U l[k].deed.plan.tasks)/\w.cell? ⟨b,o+k * 12+7,Ab⟩=Ac (Aa s.a s.n s.c)/\w.cell? ⟨b,o+k * 12+8,Ab⟩=Ac (J U l[k].deed.task)/\w.cell? ⟨b,o+k * 12+9,Ab⟩=Ac (J U l[k].deed.try_)/\w.cell? ⟨b,o+k * 12+10,Ab⟩=Ac (J U l[k].deed.worker)/\w.cell? ⟨b,o+k * 12+11,Ab⟩=Ac (J U l[k].deed.draw):=by
 obtain ⟨b,o,s,rfl,hb,hc,hr⟩:=h.at_ k hk;exact ⟨b,o,s,rfl,hb,hr,hc 0 _ rfl,hc 1 _ rfl,hc 2 _ rfl,hc 3 _ rfl,hc 4 _ rfl,hc 5 _ rfl,hc 6 _ rfl,hc 7 _ rfl,hc 8 _ rfl,hc 9 _ rfl,hc 10 _ rfl,hc 11 _ rfl⟩
theorem Ow.c_note {E:TypeId} {w:World} {base g n cap:Nat} {l:List ((Note)×Sl)} (h:Ow Ct.enc E w base (Aa (Ac ⟨g,0,Ab⟩) n cap) l) {k:Nat} (hk:k<l.length) :
  w.cell? ⟨g,k * 12,Ab⟩=Ac (J U l[k].1.seq)/\w.cell? ⟨g,k * 12+1,Ab⟩=Ac (J U l[k].1.deed.kind)/\w.cell? ⟨g,k * 12+2,Ab⟩=Ac (J U l[k].1.deed.run)/\w.cell? ⟨g,k * 12+3,Ab⟩=Ac (J U l[k].1.deed.plan.prio)/\w.cell? ⟨g,k * 12+4,Ab⟩=Ac (J U l[k].1.deed.plan.most)/\w.cell? ⟨g,k * 12+5,Ab⟩=Ac (J U l[k].1.deed.plan.wait)/\w.cell? ⟨g,k * 12+6,Ab⟩=Ac (J U l[k].1.deed.plan.tasks)/\w.cell? ⟨g,k * 12+7,Ab⟩=Ac (Aa l[k].2.a l[k].2.n l[k].2.c)/\w.cell? ⟨g,k * 12+8,Ab⟩=Ac (J U l[k].1.deed.task)/\w.cell? ⟨g,k * 12+9,Ab⟩=Ac (J U l[k].1.deed.try_)/\w.cell? ⟨g,k * 12+10,Ab⟩=Ac (J U l[k].1.deed.worker)/\w.cell? ⟨g,k * 12+11,Ab⟩=Ac (J U l[k].1.deed.draw):=by
 rcases h.form with ⟨h1,_⟩ | ⟨g',cap',hv,_,_,_,_,_,hc⟩
 ·simp at h1
 ·simp only [Value.slice.injEq,Option.some.injEq,Addr.mk.injEq,and_true] at hv;obtain ⟨rfl,_,_⟩:=hv;exact ⟨hc k hk 0 _ rfl,hc k hk 1 _ rfl,hc k hk 2 _ rfl,hc k hk 3 _ rfl,hc k hk 4 _ rfl,hc k hk 5 _ rfl,hc k hk 6 _ rfl,hc k hk 7 _ rfl,hc k hk 8 _ rfl,hc k hk 9 _ rfl,hc k hk 10 _ rfl,hc k hk 11 _ rfl⟩
theorem Foc.note {w:World} {b o n c j:Nat} {rs:List ((Note)×Sl)} {G1 Fx G2:List Nat} {x:Note} {s:Sl} (h:Foc Ct w b o n c rs j G1 Fx G2 x s) :
  w.cell? ⟨b,o+j * 12,Ab⟩=Ac (J U x.seq)/\w.cell? ⟨b,o+j * 12+1,Ab⟩=Ac (J U x.deed.kind)/\w.cell? ⟨b,o+j * 12+2,Ab⟩=Ac (J U x.deed.run)/\w.cell? ⟨b,o+j * 12+3,Ab⟩=Ac (J U x.deed.plan.prio)/\w.cell? ⟨b,o+j * 12+4,Ab⟩=Ac (J U x.deed.plan.most)/\w.cell? ⟨b,o+j * 12+5,Ab⟩=Ac (J U x.deed.plan.wait)/\w.cell? ⟨b,o+j * 12+6,Ab⟩=Ac (J U x.deed.plan.tasks)/\w.cell? ⟨b,o+j * 12+7,Ab⟩=Ac (Aa s.a s.n s.c)/\w.cell? ⟨b,o+j * 12+8,Ab⟩=Ac (J U x.deed.task)/\w.cell? ⟨b,o+j * 12+9,Ab⟩=Ac (J U x.deed.try_)/\w.cell? ⟨b,o+j * 12+10,Ab⟩=Ac (J U x.deed.worker)/\w.cell? ⟨b,o+j * 12+11,Ab⟩=Ac (J U x.deed.draw):=⟨h.cells 0 _ rfl,h.cells 1 _ rfl,h.cells 2 _ rfl,h.cells 3 _ rfl,h.cells 4 _ rfl,h.cells 5 _ rfl,h.cells 6 _ rfl,h.cells 7 _ rfl,h.cells 8 _ rfl,h.cells 9 _ rfl,h.cells 10 _ rfl,h.cells 11 _ rfl⟩
theorem Aao (l:List (Note)) (s:Sl) (left:Int) (w:World) (h0:0<=left) (h1:left<=2000000) (hw:wfL Mi l) (h:RdL Ct w w s.v l) :
  Calls Am 31 #[Aa s.a s.n s.c,J U left] w (K4 left (D8 Cz l) w):=by
 obtain ⟨A,n,c⟩:=s;obtain ⟨A',c',hv,-⟩:=h.form;simp only [Sl.v,Value.slice.injEq] at hv;obtain ⟨rfl,rfl,rfl⟩:=hv;have bZ:=hw.1;by_cases aA:left<l.length
 ·go_enter func31,ntmps31;go_wp2;go_ret;exact ⟨-1,rfl,.inl rfl,Br _ _⟩
 have Hw:=Bq hw;clear hw;go_enter func31,ntmps31;go_wp2;go_loopw [1,5] (fun t i wr=>∃ k:Nat,∃ m:Int,k<=l.length/\i = J U k/\t = J U m/\0<=m/\m+l.length+(((l.take k).map Cz).sum:Nat)<=left/\Below w w wr) (fun _ i _=>l.length - (intOf i).toNat);case atStart=>exact ⟨0,_,Ag _,rfl,rfl,Bl,Bo,Br _ _⟩
 case round =>
  obtain ⟨k,m,hk,rfl,rfl,m0,m1,hb⟩:=hrel;by_cases aA:k<l.length
  ·obtain ⟨b,o,s,rfl,aK,hr,c0,c1,c2,c3,c4,c5,c6,c7,c8,c9,c10,c11⟩:=(h.below hb).note aA;have hx:∀ W,Below wr wr W->Ct.rd W W l[k] s:=fun W hW=>Ct.rd_more (Ct.rd_below (Ct.rd_more hr hb.size) hW) hW.size;have rK:Mi l[k]:=Hw.out.2 _ (Aw aA);have M1:=Bq m1;have m2:m<=2000000:=Bl;clear m1;go_wp2_with fail
   refine (Ac6 l[k] s m _ m0 m2 rK (hx _ (by first | exact Br _ _ | exact (Br _ _).drew))).mono ?_;rintro e w1 ⟨r,rfl,hr,aJ⟩;rcases hr with rfl | ⟨r0,r1⟩
   ·go_wp2;go_ret;exact ⟨-1,rfl,.inl rfl,Bu hb aJ⟩
   ·go_wp2;refine ⟨⟨k+1,r,Bl,by go_num,rfl,r0,?_,Bu hb aJ⟩,by simp [intOf];omega⟩;have M2:=M1.out;have r2:r+(Cz l[k]:Nat)<=m:=r1;rw [Em _ _ _ aA];push_cast;omega
  ·go_wp2;go_ret;refine ⟨_,rfl,.inr ⟨Bl,?_⟩,hb⟩;rw [Bg Bl] at m1;unfold D8;push_cast;omega
theorem Aap (l l':List (Note)) (s s':Sl) (w:World) (hl:D8 Cz l<=2000000) (hl':D8 Cz l'<=2000000) (h:RdL Ct w w s.v l) (h':RdL Ct w w s'.v l') :
  Calls Am 37 #[Aa s.a s.n s.c,Aa s'.a s'.n s'.c] w fun e w'=>e = .returned (.bool (decide (l=l')))/\Below w w w':=by
 obtain ⟨A,n,c⟩:=s;obtain ⟨A0,c0,hv,-⟩:=h.form;simp only [Sl.v,Value.slice.injEq] at hv;obtain ⟨rfl,rfl,rfl⟩:=hv;obtain ⟨A',n',c'⟩:=s';obtain ⟨A0,c0,hv,-⟩:=h'.form;simp only [Sl.v,Value.slice.injEq] at hv;obtain ⟨rfl,rfl,rfl⟩:=hv;have bZ:l.length<=2000000:=Ah (Cj _ _) hl;have hll':l'.length<=2000000:=Ah (Cj _ _) hl';have dH:∀ k (hk:k<l.length),Cz l[k]<=2000000:=fun k hk=>by have:=C9 (cnt:=Cz) (Aw hk);omega
 have hcc':∀ k (hk:k<l'.length),Cz l'[k]<=2000000:=fun k hk=>by have:=C9 (cnt:=Cz) (Aw hk);omega
 clear hl hl';by_cases aC:l.length=l'.length
 ·have aL:((l.length:Int) != (l'.length:Int))=false:=by simp [aC]
  have Hne:=Bq aC;clear aC;go_enter func37,ntmps37;go_wp2;go_loopw [5] (fun i wr=>∃ k:Nat,k<=l.length/\i = J U k/\Hid (l.take k=l'.take k)/\Below w w wr) (fun i _=>l.length - (intOf i).toNat);case atStart=>exact ⟨0,Ag _,rfl,rfl,Br _ _⟩
  case round =>
   obtain ⟨k,hk,rfl,eS,hb⟩:=hrel;by_cases aA:k<l.length
   ·have cA:k<l'.length:=by rw [<-Hne.out];exact aA
    obtain ⟨b,o,s,rfl,aK,hr,c0,c1,c2,c3,c4,c5,c6,c7,c8,c9,c10,c11⟩:=(h.below hb).note aA;obtain ⟨b',o',s',rfl,bI,gH,d0,d1,d2,d3,d4,d5,d6,d7,d8,d9,d10,d11⟩:=(h'.below hb).note cA;have hx:∀ W,Below wr wr W->Ct.rd W W l[k] s:=fun W hW=>Ct.rd_more (Ct.rd_below (Ct.rd_more hr hb.size) hW) hW.size;have dV:∀ W,Below wr wr W->Ct.rd W W l'[k] s':=fun W hW=>Ct.rd_more (Ct.rd_below (Ct.rd_more gH hb.size) hW) hW.size;go_wp2;go_still_tail 8,Bm;go_wp2_with (go_at_call 91;refine (Ac5 l[k] l'[k] s s' _ (dH k aA) (hcc' k cA) (hx _ (by first | exact Br _ _ | exact (Br _ _).drew)) (dV _ (by first | exact Br _ _ | exact (Br _ _).drew))).mono ?_;rintro e w1 ⟨rfl,aJ⟩)
    ·rename_i hd;go_ret;refine ⟨Bw ?_,(hb.drew).trans (aJ.mono hb.size)⟩;simp only [Bool.false_eq,decide_eq_false_iff_not];intro e;subst e;simp at hd
    ·rename_i hd;refine ⟨⟨k+1,Bl,by go_num,?_,(hb.drew).trans (aJ.mono hb.size)⟩,by simp [intOf];omega⟩;show List.take (k+1) l=List.take (k+1) l';rw [Cp l k aA,Cp l' k cA,eS.out];simp at hd;rw [hd]
   ·go_wp2;go_ret;refine ⟨Bw ?_,hb⟩;have h1:=eS.out;rw [Bg Bl,Bg (by rw [<-Hne.out];omega)] at h1;simp [h1]
 ·have aL:((l.length:Int) != (l'.length:Int))=true:=by simp;omega
  go_enter func37,ntmps37;go_wp2;go_ret;refine ⟨Bw ?_,Br _ _⟩;simp only [Bool.false_eq,decide_eq_false_iff_not];intro e;exact aC (by rw [e])
theorem P6:(Am.info? 125).map (fun i=>(i.zero,i.size,i.bytes))=Ac (Ac (.agg #[J U 0,J U 0,J U 0,J U 0,J U 0,J U 0,J U 0,Aa Ab 0 0,J U 0,J U 0,J U 0,J U 0]),12,112):=Bm
theorem Md (l:List (Note)) (s:Sl) (w:World) (hl:D8 Cz l<=2000000) (h:RdL Ct w w s.v l) :
  Calls Am 34 #[.slice s.a s.n s.c] w (Df (Dt.list Ct) slV l w):=by
 obtain ⟨A,n,c⟩:=s;obtain ⟨A',c',hv,-⟩:=h.form;simp only [Sl.v,Value.slice.injEq] at hv;obtain ⟨rfl,rfl,rfl⟩:=hv;have bZ:l.length<=2000000:=Ah (Cj _ _) hl;have dH:∀ k (hk:k<l.length),Cz l[k]<=2000000:=fun k hk=>by have:=C9 (cnt:=Cz) (Aw hk);omega
 clear hl;obtain ⟨i0,aR,aX,aW,aU⟩:=info_parts P6;have kE:∀ w:World,(Instr.makeSlice 57 (.int .i64 (l.length:Int)) (.int .i64 (l.length:Int))).run Am w = .ok (.slice (Ac ⟨w,0,Ab⟩) l.length l.length) (w.alloc (.cells (madeCells #[.int .i64 0,.int .i64 0,.int .i64 0,.int .i64 0,.int .i64 0,.int .i64 0,.int .i64 0,.slice Ab 0 0,.int .i64 0,.int .i64 0,.int .i64 0,.int .i64 0] (l.length * 12)) 125)):=by
  intro w
  have:=run_make (P:=Am) w 57 125 i0 _ underlying57 aR aX .i64 .i64 l.length l.length Bl Bl (by rw [aU];omega) Bl
  rw [aW] at this;simpa [Value.cells] using this
 go_enter func34,ntmps34;go_wp2;go_loopw [4] (fun i wr=>∃ k:Nat,k<=l.length/\i = .int .i64 k/\Hid (∃ (rs:List ((Note)×Sl)) (G:List Nat),rs.map (·.1)=l.take k/\Ow Ct.enc 125 wr w (.slice (Ac ⟨w,0,Ab⟩) l.length l.length) (rs ++ List.replicate (l.length - k) (⟨0,⟨0,0,⟨0,0,0,0,[]⟩,0,0,0,0⟩⟩,⟨Ab,0,0⟩))/\Ows Ct wr G rs/\G.Nodup /\ ∀ b∈G,w<b)/\Below w w wr) (fun i _=>l.length - (intOf i).toNat);case atStart=>exact ⟨0,Ag _,rfl,⟨[],[],rfl,by rw [List.nil_append,Nat.sub_zero];exact Ow.made Ct.enc 125 w (⟨0,⟨0,0,⟨0,0,0,0,[]⟩,0,0,0,0⟩⟩,⟨Ab,0,0⟩) l.length Bp (by simp [maxLen];omega) rfl rfl,.nil,List.nodup_nil,fun _ h=>by cases h⟩,Bt⟩
 case round =>
  obtain ⟨k,hk,rfl,⟨rs,G,hm,hown,hG,gW,eK⟩,hb⟩:=hrel;have bG:rs.length=k:=by have:=congrArg List.length hm;simpa [Nat.min_eq_left hk] using this
  by_cases aA:k<l.length
  ·obtain ⟨b,o,s,rfl,aK,hr,c0,c1,c2,c3,c4,c5,c6,c7,c8,c9,c10,c11⟩:=(h.below hb).note aA;have hx:∀ W,Below wr wr W->Ct.rd W W l[k] s:=fun W hW=>Ct.rd_more (Ct.rd_below (Ct.rd_more hr hb.size) hW) hW.size;have aF:(rs ++ List.replicate (l.length - k) ((⟨0,⟨0,0,⟨0,0,0,0,[]⟩,0,0,0,0⟩⟩,⟨Ab,0,0⟩):(Note)×Sl)).length=l.length:=by simp;omega
   have Hm:=Bq hm;have Hrl:=Bq bG;clear hm bG;go_wp2_with (go_at_call 88;refine (Ac4 l[k] s _ (dH k aA) (hx _ (by first | exact Br _ _ | exact (Br _ _).drew))).mono ?_;rintro e w1 ⟨s1,F1,rfl,o1,n1,aJ⟩;have bP:=hown.below aJ;have hf:=bP.free;obtain ⟨d0,d1,d2,d3,d4,d5,d6,d7,d8,d9,d10,d11⟩:=bP.c_note (k:=k) (by rw [aF];exact aA))
   have hp:=Ow.put bP aF k aA (l[k],s1);have Hp:=Bld.lay hG gW eK aJ (r:=(l[k],s1)) o1 n1 (Ai (hown.blk).2 (Bs _)) hp.2;rw [Mv rs _ k l.length Hrl.out aA] at hp;refine ⟨⟨k+1,Bl,by go_num,⟨rs ++ [(l[k],s1)],G ++ F1,?_,hp.1,Hp.1,Hp.2.1,Hp.2.2⟩,(hb.trans (aJ.mono hb.size)).grown hp.2 (Ah hb.size aJ.size) (fun g hg=>by simp at hg;omega)⟩,by simp [intOf];omega⟩;rw [List.map_append,Hm.out,Cp l k aA];rfl
  ·have bF:k=l.length:=Bl;subst bF;rw [Nat.sub_self,List.replicate_zero,List.append_nil] at hown;go_wp2;go_ret;rw [List.take_length] at hm;have hB:Bld Ct 125 wr w (.slice (Ac ⟨w,0,Ab⟩) l.length l.length) rs:=⟨G,by rw [<-bG];exact (by rw [bG];exact hown),hG,gW,fun b aV=>⟨Nat.le_of_lt (eK b aV),by simp [Value.ownBlock];have:=eK b aV;omega⟩⟩
   obtain ⟨F,h1,h2⟩:=hB.owl hm;exact ⟨⟨Ac ⟨w,0,Ab⟩,l.length,l.length⟩,F,rfl,h1,h2,hb⟩
theorem Wn (l:List (Note)) (s:Sl) (F:List Nat) (k:Int) (w:World) (hl:D8 Cz l<=2000000) (cL:0<=k) (fJ:k<=900000000) (h:OwL Ct w F s.v l) :
  Calls Am 39 #[Aa s.a s.n s.c,J U k] w (N6 (Dt.list Ct) F (mkL P5 Hi k l) s (k+(Cx Hi l:Nat)) w):=by
 obtain ⟨A,n,c⟩:=s;obtain ⟨A',c',hv,-⟩:=h.form;simp only [Sl.v,Value.slice.injEq] at hv;obtain ⟨rfl,rfl,rfl⟩:=hv;have bZ:l.length<=2000000:=Ah (Cj _ _) hl;have cS:∀ j,Cx Hi (l.take j)<=26000000:=fun j=>by
  have h1:=Fo Hi l j;have h2:=Et (num:=Hi) (cnt:=Cz) (K:=13) Un l;omega
 have dH:∀ k (hk:k<l.length),Cz l[k]<=2000000:=fun k hk=>by have:=C9 (cnt:=Cz) (Aw hk);omega
 have Hnl:=Bq cS;clear cS hl;go_enter func39,ntmps39;go_wp2;go_loopw [1,5] (fun q i wr=>∃ (j:Nat) (m:Int),j<=l.length/\i = J U j/\q = J U m/\Hid (m=k+(Cx Hi (l.take j):Nat))/\OwL Ct wr F (Aa A l.length c) (mkL P5 Hi k (l.take j) ++ l.drop j)/\Chg F w wr) (fun _ i _=>l.length - (intOf i).toNat);case atStart=>exact ⟨0,k,Ag _,rfl,rfl,by show k=_;simp [Cx],h,Chg.refl _ _⟩
 case round =>
  obtain ⟨j,m,hj,rfl,rfl,hm,ho,hc⟩:=hrel;have hm':=hm.out;have fV:=Hnl.out j;have eP:0<=m:=Bl;have bU:m<=926000000:=Bl;clear hm' fV;by_cases aA:j<l.length
  ·have aB:(j:Int)<(l.length:Int):=Bl;have aF:(mkL P5 Hi k (l.take j) ++ l.drop j).length=l.length:=by simp [Ep];omega
   obtain ⟨b,o,rs,s,G1,Fx,G2,rfl,hF,bR,f0⟩:=ho.foc (j:=j) (by rw [aF];exact aA);rw [Mw P5 Hi k l j aA] at f0;subst hF;have Hrm:=Bq bR;clear bR ho;obtain ⟨c0,c1,c2,c3,c4,c5,c6,c7,c8,c9,c10,c11⟩:=f0.note;have fr0:=f0.free;have gG:D8 Eb l[j].deed.plan.edges<=2000000:=by
    have:=dH j aA
    unfold Cz Fu Ed at this;omega
   have hne0:Cx Cq l[j].deed.plan.edges<=26000000:=by
    have h2:=Et (num:=Cq) (cnt:=Eb) (K:=13) Jl l[j].deed.plan.edges;omega
   go_wp2_with fail
   obtain ⟨f1,g1⟩:=f0.put ⟨m,⟨m+1,m+1+1,⟨m+1+1+1,m+1+1+1+1,m+1+1+1+1+1,m+1+1+1+1+1+1,l[j].deed.plan.edges⟩,l[j].deed.task,l[j].deed.try_,l[j].deed.worker,l[j].deed.draw⟩⟩ 0 [J U (m),J U (m+1),J U (m+1+1),J U (m+1+1+1),J U (m+1+1+1+1),J U (m+1+1+1+1+1),J U (m+1+1+1+1+1+1)] (by show 0+7<=12;omega) (fun i hi=>match i,hi with | 0,_=>rfl | 1,_=>rfl | 2,_=>rfl | 3,_=>rfl | 4,_=>rfl | 5,_=>rfl | 6,_=>rfl | i+7,hi=>absurd hi Bn) (fun i hi hx=>match i,hi,hx with | 0,_,hx=>absurd hx Bn | 1,_,hx=>absurd hx Bn | 2,_,hx=>absurd hx Bn | 3,_,hx=>absurd hx Bn | 4,_,hx=>absurd hx Bn | 5,_,hx=>absurd hx Bn | 6,_,hx=>absurd hx Bn | 7,_,_=>rfl | 8,_,_=>rfl | 9,_,_=>rfl | 10,_,_=>rfl | 11,_,_=>rfl | i+12,hi,_=>absurd hi (by show ¬ (i+12<12);omega)) (fun _ hh=>hh);refine (Pb l[j].deed.plan.edges s Fx _ _ gG Bl Bl f1.here).mono ?_;rintro e w2 ⟨rfl,o2,g2⟩;have f2:=f1.sub (y:=⟨m,⟨m+1,m+1+1,⟨m+1+1+1,m+1+1+1+1,m+1+1+1+1+1,m+1+1+1+1+1+1,mkL Ix Cq (m+1+1+1+1+1+1+1) l[j].deed.plan.edges⟩,l[j].deed.task,l[j].deed.try_,l[j].deed.worker,l[j].deed.draw⟩⟩) g2 o2 rfl;obtain ⟨c2_0,c2_1,c2_2,c2_3,c2_4,c2_5,c2_6,c2_7,c2_8,c2_9,c2_10,c2_11⟩:=f2.note;have fr2:=f2.free;go_wp2;obtain ⟨f3,g3⟩:=f2.put ⟨m,⟨m+1,m+1+1,⟨m+1+1+1,m+1+1+1+1,m+1+1+1+1+1,m+1+1+1+1+1+1,mkL Ix Cq (m+1+1+1+1+1+1+1) l[j].deed.plan.edges⟩,m+1+1+1+1+1+1+1+(Cx Cq l[j].deed.plan.edges:Nat),m+1+1+1+1+1+1+1+(Cx Cq l[j].deed.plan.edges:Nat)+1,m+1+1+1+1+1+1+1+(Cx Cq l[j].deed.plan.edges:Nat)+1+1,m+1+1+1+1+1+1+1+(Cx Cq l[j].deed.plan.edges:Nat)+1+1+1⟩⟩ 8 [J U (m+1+1+1+1+1+1+1+(Cx Cq l[j].deed.plan.edges:Nat)),J U (m+1+1+1+1+1+1+1+(Cx Cq l[j].deed.plan.edges:Nat)+1),J U (m+1+1+1+1+1+1+1+(Cx Cq l[j].deed.plan.edges:Nat)+1+1),J U (m+1+1+1+1+1+1+1+(Cx Cq l[j].deed.plan.edges:Nat)+1+1+1)] (by show 8+4<=12;omega) (fun i hi=>match i,hi with | 0,_=>rfl | 1,_=>rfl | 2,_=>rfl | 3,_=>rfl | i+4,hi=>absurd hi Bn) (fun i hi hx=>match i,hi,hx with | 0,_,_=>rfl | 1,_,_=>rfl | 2,_,_=>rfl | 3,_,_=>rfl | 4,_,_=>rfl | 5,_,_=>rfl | 6,_,_=>rfl | 7,_,_=>rfl | 8,_,hx=>absurd hx Bn | 9,_,hx=>absurd hx Bn | 10,_,hx=>absurd hx Bn | 11,_,hx=>absurd hx Bn | i+12,hi,_=>absurd hi (by show ¬ (i+12<12);omega)) (fun _ hh=>hh);have pY:=hm.out;have hown:=f3.owl Hrm.out;have eD:⟨m,⟨m+1,m+1+1,⟨m+1+1+1,m+1+1+1+1,m+1+1+1+1+1,m+1+1+1+1+1+1,mkL Ix Cq (m+1+1+1+1+1+1+1) l[j].deed.plan.edges⟩,m+1+1+1+1+1+1+1+(Cx Cq l[j].deed.plan.edges:Nat),m+1+1+1+1+1+1+1+(Cx Cq l[j].deed.plan.edges:Nat)+1,m+1+1+1+1+1+1+1+(Cx Cq l[j].deed.plan.edges:Nat)+1+1,m+1+1+1+1+1+1+1+(Cx Cq l[j].deed.plan.edges:Nat)+1+1+1⟩⟩=P5 m l[j]:=rfl;have bX:=Ol P5 Hi k l j aA;rw [<-hm.out] at bX;rw [eD,bX] at hown;have cV:(Cx Hi (l.take (j+1)):Nat)=Cx Hi (l.take j)+Hi l[j]:=Em _ _ _ aA;refine ⟨⟨j+1,m+1+1+1+1+1+1+1+(Cx Cq l[j].deed.plan.edges:Nat)+1+1+1+1,Bl,by go_num,rfl,?_,hown,(((hc).trans (g1.mono (fun _ hh=>Nd hh))).trans (g2.mono (fun _ hh=>Ql hh))).trans (g3.mono (fun _ hh=>Nd hh))⟩,by simp [intOf];omega⟩;have dS:Hi l[j]=11+Cx Cq l[j].deed.plan.edges:=rfl
   show m+1+1+1+1+1+1+1+(Cx Cq l[j].deed.plan.edges:Nat)+1+1+1+1=_;rw [cV,dS];push_cast;omega
  ·have hj':j=l.length:=Bl;subst hj';rw [List.take_length,List.drop_length,List.append_nil] at ho;go_wp2;go_ret;refine ⟨C8 ?_,ho,hc⟩;rw [hm.out,List.take_length]
end Go.Proofs.YtonlnjdempbfoabGreat
