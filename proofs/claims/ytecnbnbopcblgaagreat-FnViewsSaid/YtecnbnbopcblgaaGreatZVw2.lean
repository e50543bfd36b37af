/-
  What a task waits for, what waits for it: the plain lists; l06Before and l06Behind of the reference. Data of the type Edge: how it lies in memory, and the walks
-/
import Derived.Test.YtecnbnbopcblgaaGreatZVw0
import Derived.Test.YtecnbnbopcblgaaGreatZVw1
import Derived.IntWalk
import Derived.Sort.OwnSortedInts
namespace Go.Proofs.YtecnbnbopcblgaaGreat
open Go.RowKit
set_option maxRecDepth 100000
set_option maxHeartbeats 4000000
set_option linter.unusedVariables false
set_option linter.unusedSimpArgs false
open Value renaming int->J,slice->Aa
open IntKind renaming i64->Ab
open Option renaming none->Ac,some->Ad
open Nat renaming zero_le->Ah
open Go.Proofs.Tryz renaming prog->An
open Int renaming toNat_natCast->Ap,eq_ofNat_of_zero_le->Aq
open List renaming length_map->Au,mem_singleton->Aw,length_take->A0,length_append->Bd,take_of_length_le->Bg,mem_append->Bi
open World renaming size_alloc->Bj
open Go.Proofs.Tryz
def Dv (es:List (Nat×Nat)) (T t:Nat):List Nat:=(List.range T).filter fun s=>decide ((s,t)∈es)
def D9 (es:List (Nat×Nat)) (T t:Nat):List Nat:=(List.range T).filter fun s=>decide ((t,s)∈es)
def Jg (l:List (Nat×Nat)) (q:Nat×Nat) (x:Nat):List Nat:=if q∈l then [x] else []
theorem Aaj (es:List (Nat×Nat)) (k t:Nat):Dv es (k+1) t=Dv es k t ++ Jg es (k,t) k:=by
 unfold Dv Jg;rw [List.range_succ,List.filter_append];by_cases h:(k,t)∈es<;>simp [h]
theorem Rt (es:List (Nat×Nat)) (k t:Nat):D9 es (k+1) t=D9 es k t ++ Jg es (t,k) k:=by
 unfold D9 Jg;rw [List.range_succ,List.filter_append];by_cases h:(t,k)∈es<;>simp [h]
theorem Jh (es:List (Nat×Nat)) (T t:Nat):(Dv es T t).length<=T:=by
 have:=List.length_filter_le (fun s=>decide ((s,t)∈es)) (List.range T)
 simpa [Dv] using this
theorem Mu (es:List (Nat×Nat)) (T t:Nat):(D9 es T t).length<=T:=by
 have:=List.length_filter_le (fun s=>decide ((t,s)∈es)) (List.range T)
 simpa [D9] using this
theorem Ze (l:List (Nat×Nat)) (q:Nat×Nat) (x:Nat):(Jg l q x).length<=1:=by
 unfold Jg;split<;>simp
theorem Zf {l l':List (Nat×Nat)} {q:Nat×Nat} {x:Nat} (h:l'=l ++ [q]) (hq:q∉l):Jg l' q x=Jg l q x ++ [x]:=by
 subst h;simp [Jg,hq]
theorem Ab4 {l l':List (Nat×Nat)} {q e:Nat×Nat} {x:Nat} (h:l'=l ++ [e]) (hq:e≠q):Jg l' q x=Jg l q x:=by
 subst h;simp [Jg,Ne.symm hq]
theorem Afc {p:Plan} (he:Ht p) (hn:p.edges.Nodup) {j:Nat} (hj:j<p.edges.length):(p.edges[j].fr.toNat,p.edges[j].to.toNat)∉esL (p.edges.take j):=by
 intro hm;simp only [esL,List.mem_map] at hm;obtain ⟨e,qK,hee⟩:=hm;obtain ⟨i,hi,rfl⟩:=List.getElem_of_mem qK;have hi2:i<j:=by
  rw [A0] at hi;omega
 rw [List.getElem_take] at hee;have h1:=H8 he (k:=i) Bl;have h2:=H8 he hj;simp only [Prod.mk.injEq] at hee;have e1:p.edges[i].fr=p.edges[j].fr:=Bl;have e2:p.edges[i].to=p.edges[j].to:=Bl;have:p.edges[i]=p.edges[j]:=by
  cases hx:p.edges[i];cases hy:p.edges[j];rw [hx,hy] at e1 e2;simp only at e1 e2;rw [e1,e2]
 exact List.pairwise_iff_getElem.1 hn i j Bl hj hi2 this
theorem O3 (p:Plan) (ve:Value) (t:Nat) (w:World) (hm:Eg p=true) (he:Ht p) (hn:p.edges.Nodup) (h:Rd Gd w w ve p.edges) :
  Calls An 289 #[Gl p ve,J Ab (t:Int)] w fun e w'=>∃ v,e = .returned v/\Ow En 3 w' w v (Dv (Dr p) p.tasks.toNat t)/\Below w w w':=by
 obtain ⟨A,c,rfl,-⟩:=id h;obtain ⟨t1,t2⟩:=Dx hm;have aK:=Es hm;obtain ⟨T,hT⟩:=Aq (show 0<=p.tasks by omega);have HT:=Bq hT;have HTn:=Bq (show p.tasks.toNat=T by omega);have fK:T<=12:=Bl;clear hT;obtain ⟨j0,bZ,jz0,jz1,jz2⟩:=info_parts Kg;unfold Gl;go_enter func289,ntmps289;go_wp2;go_loopw [5,6] (fun vl i wr=>∃ k:Nat,k<=T/\i = J Ab k/\Ow En 3 wr (w+1) vl (Dv (Dr p) k t)/\BoxAt w p (Aa A p.edges.length c) wr/\Below w w wr) (fun _ i _=>T - (intOf i).toNat);case atStart =>
  have D:=BoxAt.new 43 p (Aa A p.edges.length c) w;refine ⟨0,Ah _,rfl,?_,D.below (Bt),?_⟩
  ·exact (Ow.empty En 3 (El 43 p (Aa A p.edges.length c) w) (g:=w+1) (by rw [Fw]))
  ·repeat (first | exact Br _ _ | refine Below.alloc ?_ Bo _)
 case round =>
  obtain ⟨k,hk,rfl,ho,D,hb⟩:=hrel;obtain ⟨x0,x1,x2,x3,x4,xs⟩:=D.cells;by_cases aB:k<T
  ·have aC:(k:Int)<p.tasks:=by rw [HT.out];omega
   obtain ⟨wo,rfl⟩:∃ wo:World,wo=wr:=⟨_,rfl⟩
   go_wp2;clear x0 x1 x2 x3 x4 xs;go_loopw [5,7] (fun vl i wr=>∃ j:Nat,j<=p.edges.length/\i = J Ab j/\Ow En 3 wr (w+1) vl (Dv (Dr p) k t ++ Jg (esL (p.edges.take j)) (k,t) k)/\BoxAt w p (Aa A p.edges.length c) wr/\Below w w wr) (fun _ i _=>p.edges.length - (intOf i).toNat);case atStart=>exact ⟨0,Ah _,rfl,by simpa [Jg,esL] using ho,D,hb⟩
   case round =>
    clear ho D hb;obtain ⟨j,hj,rfl,ho,D,hb⟩:=hrel;obtain ⟨x0,x1,x2,x3,x4,xs⟩:=D.cells;by_cases dE:j<p.edges.length
    ·have gL:(j:Int)<(p.edges.length:Int):=Bl;obtain ⟨b,o,rfl,aH,c0,c1⟩:=(h.below hb).edge dE;obtain ⟨f1,f2,f3,f4⟩:=H8 he dE;have cU:=Bq (show esL (p.edges.take (j+1))=esL (p.edges.take j) ++ [(p.edges[j].fr.toNat,p.edges[j].to.toNat)] by unfold esL;rw [Cy _ j dE,List.map_append];rfl);have eA:=Bq (Afc he hn dE);generalize p.edges[j].fr=fx at *
     generalize p.edges[j].to=tx at *
     obtain ⟨a,rfl⟩:=Aq f1;obtain ⟨d,rfl⟩:=Aq f3;simp only [Ap] at cU eA;by_cases hxy:a=k/\d=t
     ·obtain ⟨e1,e2⟩:=hxy;subst e1;subst e2;have S:=Bq (Zf (l:=esL (p.edges.take j)) (l':=esL (p.edges.take (j+1))) (q:=(a,d)) (x:=a) cU.out eA.out);have Hl:=Bq (show (Dv (Dr p) a d ++ Jg (esL (p.edges.take j)) (a,d) a).length<=3000000 by
       have h1:=Jh (Dr p) a d;have h2:=Ze (esL (p.edges.take j)) (a,d) a;rw [Bd];omega)
      have jU:((a:Int) == (a:Int))=true:=Bn;have hab2:((d:Int) == (d:Int))=true:=Bn;have ha:Hid (∀ w:World,Below w w (w.alloc (.cells #[J Ab (a:Int)] 3))):=fun w=>Bt;go_wp2_with (at_builtin;refine Cj _ En Bp rfl (.tmp 40) (.tmp 42) rfl underlying26 bZ jz0 jz1 jz2 rfl (l:=Dv (Dr p) a d ++ Jg (esL (p.edges.take j)) (a,d) a) rfl (ho.below (ha.out wr)) rfl (Rd.one En _ _ a rfl rfl 1 (Bs _) (Nat.lt_succ_self _)) Hl.out Bn Bp (by simp;omega) ?_;intro v5 w5 o5 g5 _)
      have D5:=(D.below (ha.out wr)).far g5 (fun e=>by have:=ho.within _ e.symm;omega);have bH:=Bv hb (ha.out wr);have W5:=bH.grown g5 bH.size (fun g hg=>by have:=ho.within _ hg;omega);refine ⟨⟨j+1,Bl,by go_num,?_,D5,W5⟩,clM⟩;rw [S.out,<-List.append_assoc];exact o5
     ·have S:=Bq (Ab4 (l:=esL (p.edges.take j)) (l':=esL (p.edges.take (j+1))) (q:=(k,t)) (e:=(a,d)) (x:=k) cU.out (fun e=>hxy (by simp only [Prod.mk.injEq] at e;omega)));have fI:∀ w',Below wr wr w'->(∃ j_1:Nat,j_1<=p.edges.length/\Value.int .i64 ((j:Int)+1)=Value.int .i64 (j_1:Int)/\Ow En 3 w' (w+1) u5 (Dv (Dr p) k t ++ Jg (esL (p.edges.take j_1)) (k,t) k)/\BoxAt w p (Aa (Ad ⟨b,o,Ac⟩) p.edges.length c) w'/\Below w w w'):=fun w' kV=>⟨j+1,Bl,by go_num,by rw [S.out];exact ho.below kV,D.below kV,Bv hb kV⟩
      have Hout:=Bq fI;clear fI;by_cases hfa:a=k
      ·have jU:((a:Int) == ((k:Nat):Int))=true:=by simp [hfa]
       have hdb:((d:Int) == ((t:Nat):Int))=false:=beq_eq_false_iff_ne.2 Bl;clear hfa hxy;go_wp2;exact ⟨Hout.out _ (Br _ _),clM⟩
      ·have jU:((a:Int) == ((k:Nat):Int))=false:=beq_eq_false_iff_ne.2 Bl;clear hfa hxy;go_wp2;exact ⟨Hout.out _ (Br _ _),clM⟩
    ·have gL:¬ (j:Int)<(p.edges.length:Int):=Bl;have hj':j=p.edges.length:=Bl;subst hj';rw [List.take_length] at ho;have S:=Bq (Aaj (Dr p) k t);go_wp2;exact ⟨⟨k+1,Bl,by go_num,by rw [S.out];exact ho,D,hb⟩,clM⟩
  ·have aC:¬ (k:Int)<p.tasks:=by rw [HT.out];omega
   have bE:k=T:=Bl;subst bE;go_wp2;go_ret;refine ⟨_,rfl,?_,hb⟩;rw [HTn.out];exact ho.more Bl
theorem V4 (p:Plan) (ve:Value) (t:Nat) (w:World) (hm:Eg p=true) (he:Ht p) (hn:p.edges.Nodup) (h:Rd Gd w w ve p.edges) :
  Calls An 294 #[Gl p ve,J Ab (t:Int)] w fun e w'=>∃ v,e = .returned v/\Ow En 3 w' w v (D9 (Dr p) p.tasks.toNat t)/\Below w w w':=by
 obtain ⟨A,c,rfl,-⟩:=id h;obtain ⟨t1,t2⟩:=Dx hm;have aK:=Es hm;obtain ⟨T,hT⟩:=Aq (show 0<=p.tasks by omega);have HT:=Bq hT;have HTn:=Bq (show p.tasks.toNat=T by omega);have fK:T<=12:=Bl;clear hT;obtain ⟨j0,bZ,jz0,jz1,jz2⟩:=info_parts Kg;unfold Gl;go_enter func294,ntmps294;go_wp2;go_loopw [5,6] (fun vl i wr=>∃ k:Nat,k<=T/\i = J Ab k/\Ow En 3 wr (w+1) vl (D9 (Dr p) k t)/\BoxAt w p (Aa A p.edges.length c) wr/\Below w w wr) (fun _ i _=>T - (intOf i).toNat);case atStart =>
  have D:=BoxAt.new 43 p (Aa A p.edges.length c) w;refine ⟨0,Ah _,rfl,?_,D.below (Bt),?_⟩
  ·exact (Ow.empty En 3 (El 43 p (Aa A p.edges.length c) w) (g:=w+1) (by rw [Fw]))
  ·repeat (first | exact Br _ _ | refine Below.alloc ?_ Bo _)
 case round =>
  obtain ⟨k,hk,rfl,ho,D,hb⟩:=hrel;obtain ⟨x0,x1,x2,x3,x4,xs⟩:=D.cells;by_cases aB:k<T
  ·have aC:(k:Int)<p.tasks:=by rw [HT.out];omega
   obtain ⟨wo,rfl⟩:∃ wo:World,wo=wr:=⟨_,rfl⟩
   go_wp2;clear x0 x1 x2 x3 x4 xs;go_loopw [5,7] (fun vl i wr=>∃ j:Nat,j<=p.edges.length/\i = J Ab j/\Ow En 3 wr (w+1) vl (D9 (Dr p) k t ++ Jg (esL (p.edges.take j)) (t,k) k)/\BoxAt w p (Aa A p.edges.length c) wr/\Below w w wr) (fun _ i _=>p.edges.length - (intOf i).toNat);case atStart=>exact ⟨0,Ah _,rfl,by simpa [Jg,esL] using ho,D,hb⟩
   case round =>
    clear ho D hb;obtain ⟨j,hj,rfl,ho,D,hb⟩:=hrel;obtain ⟨x0,x1,x2,x3,x4,xs⟩:=D.cells;by_cases dE:j<p.edges.length
    ·have gL:(j:Int)<(p.edges.length:Int):=Bl;obtain ⟨b,o,rfl,aH,c0,c1⟩:=(h.below hb).edge dE;obtain ⟨f1,f2,f3,f4⟩:=H8 he dE;have cU:=Bq (show esL (p.edges.take (j+1))=esL (p.edges.take j) ++ [(p.edges[j].fr.toNat,p.edges[j].to.toNat)] by unfold esL;rw [Cy _ j dE,List.map_append];rfl);have eA:=Bq (Afc he hn dE);generalize p.edges[j].fr=fx at *
     generalize p.edges[j].to=tx at *
     obtain ⟨a,rfl⟩:=Aq f1;obtain ⟨d,rfl⟩:=Aq f3;simp only [Ap] at cU eA;by_cases hxy:d=k/\a=t
     ·obtain ⟨e1,e2⟩:=hxy;subst e1;subst e2;have S:=Bq (Zf (l:=esL (p.edges.take j)) (l':=esL (p.edges.take (j+1))) (q:=(a,d)) (x:=d) cU.out eA.out);have Hl:=Bq (show (D9 (Dr p) d a ++ Jg (esL (p.edges.take j)) (a,d) d).length<=3000000 by
       have h1:=Mu (Dr p) d a;have h2:=Ze (esL (p.edges.take j)) (a,d) d;rw [Bd];omega)
      have jU:((d:Int) == (d:Int))=true:=Bn;have hab2:((a:Int) == (a:Int))=true:=Bn;have ha:Hid (∀ w:World,Below w w (w.alloc (.cells #[J Ab (d:Int)] 3))):=fun w=>Bt;go_wp2_with (at_builtin;refine Cj _ En Bp rfl (.tmp 40) (.tmp 42) rfl underlying26 bZ jz0 jz1 jz2 rfl (l:=D9 (Dr p) d a ++ Jg (esL (p.edges.take j)) (a,d) d) rfl (ho.below (ha.out wr)) rfl (Rd.one En _ _ d rfl rfl 1 (Bs _) (Nat.lt_succ_self _)) Hl.out Bn Bp (by simp;omega) ?_;intro v5 w5 o5 g5 _)
      have D5:=(D.below (ha.out wr)).far g5 (fun e=>by have:=ho.within _ e.symm;omega);have bH:=Bv hb (ha.out wr);have W5:=bH.grown g5 bH.size (fun g hg=>by have:=ho.within _ hg;omega);refine ⟨⟨j+1,Bl,by go_num,?_,D5,W5⟩,clM⟩;rw [S.out,<-List.append_assoc];exact o5
     ·have S:=Bq (Ab4 (l:=esL (p.edges.take j)) (l':=esL (p.edges.take (j+1))) (q:=(t,k)) (e:=(a,d)) (x:=k) cU.out (fun e=>hxy (by simp only [Prod.mk.injEq] at e;omega)));have fI:∀ w',Below wr wr w'->(∃ j_1:Nat,j_1<=p.edges.length/\Value.int .i64 ((j:Int)+1)=Value.int .i64 (j_1:Int)/\Ow En 3 w' (w+1) u5 (D9 (Dr p) k t ++ Jg (esL (p.edges.take j_1)) (t,k) k)/\BoxAt w p (Aa (Ad ⟨b,o,Ac⟩) p.edges.length c) w'/\Below w w w'):=fun w' kV=>⟨j+1,Bl,by go_num,by rw [S.out];exact ho.below kV,D.below kV,Bv hb kV⟩
      have Hout:=Bq fI;clear fI;by_cases hfa:a=t
      ·have jU:((a:Int) == ((t:Nat):Int))=true:=by simp [hfa]
       have hdb:((d:Int) == ((k:Nat):Int))=false:=beq_eq_false_iff_ne.2 Bl;clear hfa hxy;go_wp2;exact ⟨Hout.out _ (Br _ _),clM⟩
      ·have jU:((a:Int) == ((t:Nat):Int))=false:=beq_eq_false_iff_ne.2 Bl;clear hfa hxy;go_wp2;exact ⟨Hout.out _ (Br _ _),clM⟩
    ·have gL:¬ (j:Int)<(p.edges.length:Int):=Bl;have hj':j=p.edges.length:=Bl;subst hj';rw [List.take_length] at ho;have S:=Bq (Rt (Dr p) k t);go_wp2;exact ⟨⟨k+1,Bl,by go_num,by rw [S.out];exact ho,D,hb⟩,clM⟩
  ·have aC:¬ (k:Int)<p.tasks:=by rw [HT.out];omega
   have bE:k=T:=Bl;subst bE;go_wp2;go_ret;refine ⟨_,rfl,?_,hb⟩;rw [HTn.out];exact ho.more Bl
abbrev Kj:Dt Edge:=Dt.flat (fun q=>[.int .i64 q.1.fr,.int .i64 q.1.to]) 2 (fun _=>rfl) (fun q u hu=>by simp at hu;rcases hu with rfl | rfl<;>rfl)
def Nx (_:Edge):Nat:=0
theorem RdL.edge {w:World} {B:Nat} {A:Option Addr} {n c:Nat} {l:List (Edge)} (h:RdL Kj w B (Aa A n c) l) {k:Nat} (hk:k<l.length) :
  ∃ b o,∃ _s:Unit,A=Ad ⟨b,o,Ac⟩/\b<B/\Kj.rd w B l[k] _s/\w.cell? ⟨b,o+k * 2,Ac⟩=Ad (J Ab l[k].fr)/\w.cell? ⟨b,o+k * 2+1,Ac⟩=Ad (J Ab l[k].to):=by
 obtain ⟨b,o,s,rfl,hb,hc,hr⟩:=h.at_ k hk;exact ⟨b,o,s,rfl,hb,hr,hc 0 _ rfl,hc 1 _ rfl⟩
theorem RdL.at1 {α:Type} {d:Dt α} {w:World} {B:Nat} {s:Sl} {l:List α} (h:RdL d w B s.v l):s.n=l.length:=by
 obtain ⟨A,c,hv,-⟩:=h.form;simp only [Sl.v,Value.slice.injEq] at hv;exact hv.2.1
structure Entry where
 prio:Int
 seq:Int
 run:Int
 task:Int
deriving DecidableEq,Inhabited
@[go_sem] abbrev Io (x:Entry) (_s:Unit):Value:=.agg #[.int .i64 x.prio,.int .i64 x.seq,.int .i64 x.run,.int .i64 x.task]
abbrev Ch:Dt Entry:=Dt.flat (fun q=>[.int .i64 q.1.prio,.int .i64 q.1.seq,.int .i64 q.1.run,.int .i64 q.1.task]) 4 (fun _=>rfl) (fun q u hu=>by simp at hu;rcases hu with rfl | rfl | rfl | rfl<;>rfl)
def Kk (_:Entry):Nat:=0
theorem RdL.entry {w:World} {B:Nat} {A:Option Addr} {n c:Nat} {l:List (Entry)} (h:RdL Ch w B (Aa A n c) l) {k:Nat} (hk:k<l.length) :
  ∃ b o,∃ _s:Unit,A=Ad ⟨b,o,Ac⟩/\b<B/\Ch.rd w B l[k] _s/\w.cell? ⟨b,o+k * 4,Ac⟩=Ad (J Ab l[k].prio)/\w.cell? ⟨b,o+k * 4+1,Ac⟩=Ad (J Ab l[k].seq)/\w.cell? ⟨b,o+k * 4+2,Ac⟩=Ad (J Ab l[k].run)/\w.cell? ⟨b,o+k * 4+3,Ac⟩=Ad (J Ab l[k].task):=by
 obtain ⟨b,o,s,rfl,hb,hc,hr⟩:=h.at_ k hk;exact ⟨b,o,s,rfl,hb,hr,hc 0 _ rfl,hc 1 _ rfl,hc 2 _ rfl,hc 3 _ rfl⟩
def Dp (x:List Entry):Nat:=Kv Kk x
theorem RdL.entryS {w:World} {B:Nat} {A:Option Addr} {n c:Nat} {l:List (List Entry)} (h:RdL (Dt.list Ch) w B (Aa A n c) l) {k:Nat} (hk:k<l.length) :
  ∃ b o,∃ s:Sl,A=Ad ⟨b,o,Ac⟩/\b<B/\(Dt.list Ch).rd w B l[k] s/\w.cell? ⟨b,o+k,Ac⟩=Ad (Aa s.a s.n s.c):=by
 obtain ⟨b,o,s,rfl,hb,hc,hr⟩:=h.at_ k hk;exact ⟨b,o,s,rfl,hb,hr,(by have hh:=hc 0 _ rfl;rw [show k * (Dt.list Ch).enc.sz=k from Nat.mul_one k] at hh;exact hh)⟩
theorem Lx:(An.info? 74).map (fun i=>(i.zero,i.size,i.bytes))=Ad (Ad (Aa Ac 0 0),1,24):=Bm
structure Task where
 state:Int
 need:Int
 try_:Int
 until_:Int
deriving DecidableEq,Inhabited
abbrev Eu:Dt Task:=Dt.flat (fun q=>[.int .i64 q.1.state,.int .i64 q.1.need,.int .i64 q.1.try_,.int .i64 q.1.until_]) 4 (fun _=>rfl) (fun q u hu=>by simp at hu;rcases hu with rfl | rfl | rfl | rfl<;>rfl)
def Ix (_:Task):Nat:=0
theorem RdL.task {w:World} {B:Nat} {A:Option Addr} {n c:Nat} {l:List (Task)} (h:RdL Eu w B (Aa A n c) l) {k:Nat} (hk:k<l.length) :
  ∃ b o,∃ _s:Unit,A=Ad ⟨b,o,Ac⟩/\b<B/\Eu.rd w B l[k] _s/\w.cell? ⟨b,o+k * 4,Ac⟩=Ad (J Ab l[k].state)/\w.cell? ⟨b,o+k * 4+1,Ac⟩=Ad (J Ab l[k].need)/\w.cell? ⟨b,o+k * 4+2,Ac⟩=Ad (J Ab l[k].try_)/\w.cell? ⟨b,o+k * 4+3,Ac⟩=Ad (J Ab l[k].until_):=by
 obtain ⟨b,o,s,rfl,hb,hc,hr⟩:=h.at_ k hk;exact ⟨b,o,s,rfl,hb,hr,hc 0 _ rfl,hc 1 _ rfl,hc 2 _ rfl,hc 3 _ rfl⟩
structure Reply where
 code:Int
 run:Int
 task:Int
 try_:Int
deriving DecidableEq,Inhabited
@[go_sem] abbrev Ajc (x:Reply) (_s:Unit):Value:=.agg #[.int .i64 x.code,.int .i64 x.run,.int .i64 x.task,.int .i64 x.try_]
theorem DBox.put {b:Nat} {cs:List Value} {w:World} (h:DBox b cs w) (j:Nat) (hj:j<cs.length) (u:Value):DBox b (cs.set j u) (w.setCell ⟨b,j,Ac⟩ u):=by
 refine ⟨fun i x hx=>?_,fun i=>by rw [Je];exact h.free i,by simpa [World.setCell] using h.lt⟩;have hi:i<cs.length:=by
  have:=(List.getElem?_eq_some_iff.1 hx).1
  simpa using this
 rw [Lw w b i j u cs[i] (h.cell i _ (List.getElem?_eq_getElem hi)) ⟨_,h.cell j _ (List.getElem?_eq_getElem hj)⟩];by_cases e:i=j
 ·subst e;rw [List.getElem?_set_self hi] at hx;rw [if_pos rfl];exact hx
 ·rw [List.getElem?_set_ne (Ne.symm e),List.getElem?_eq_getElem hi] at hx;rw [if_neg e];exact hx
def Vl (es:List (Nat×Nat)) (out:List Nat) (t:Nat):Bool:=!decide (t∈out) && es.all fun e=>!decide (e.2=t) || decide (e.1∈out)
def Ahj (es:List (Nat×Nat)) (T:Nat) (out:List Nat):Option Nat:=(List.range T).find? (Vl es out)
theorem Tv {es:List (Nat×Nat)} {out:List Nat} {t:Nat} : Vl es out t=true ↔ t∉out /\ ∀ s,(s,t)∈es->s∈out:=by
 unfold Vl;simp only [Bool.and_eq_true,Bool.not_eq_true',decide_eq_false_iff_not,List.all_eq_true,Bool.or_eq_true,decide_eq_true_eq,Prod.forall];constructor
 ·rintro ⟨h1,h2⟩;refine ⟨h1,fun s hs=>?_⟩;rcases h2 s t hs with h | h
  ·exact absurd rfl h
  ·exact h
 ·rintro ⟨h1,h2⟩;refine ⟨h1,fun a b jU=>?_⟩;by_cases hb:b=t
  ·subst hb;exact .inr (h2 a jU)
  ·exact .inl hb
theorem Way.lower {es:List (Nat×Nat)} {b:Nat} {U:Nat->Prop} (hU:∀ u,U u -> ∃ v,U v/\(v,u)∈es) (hb:U b):∀ n,∃ a l,U a/\l.length=n/\Pg.Way es a l b /\ ∀ x∈a :: l,U x
 | 0=>⟨b,[],hb,rfl,.nil b,by simpa using hb⟩
 | n+1=>by
  obtain ⟨a,l,ha,hl,hw,hx⟩:=Way.lower hU hb n;obtain ⟨v,hv,he⟩:=hU a ha;refine ⟨v,a :: l,hv,by simp [hl],.cons he hw,?_⟩;intro x eE;rcases List.mem_cons.1 eE with rfl | h
  ·exact hv
  ·exact hx x h
theorem Way.head {es:List (Nat×Nat)} : ∀ {a x b:Nat} (l1:List Nat) {l2:List Nat},Pg.Way es a (l1 ++ x :: l2) b->Pg.Way es a (l1 ++ [x]) x
 | _,_,_,[],_,h=>by cases h with | cons h1 _=>exact .cons h1 (.nil _)
 | _,_,_,_ :: l1,_,h=>by cases h with | cons h1 h2=>exact .cons h1 (Way.head l1 h2)
theorem Way.turn {es:List (Nat×Nat)} {b:Nat} : ∀ (l:List Nat) {a:Nat},Pg.Way es a l b -> ¬ (a :: l).Nodup -> ∃ x∈a :: l,Pg.Reach es x x
 | [],a,_,h=>absurd Bn h
 | c :: l,a,hw,hn=>by
  by_cases ha:a∈c :: l
  ·obtain ⟨l1,l2,he⟩:=List.append_of_mem ha;rw [he] at hw;exact ⟨a,Bn,l1 ++ [a],Bn,Way.head l1 hw⟩
  ·have fP:¬ (c :: l).Nodup:=fun h=>hn (List.nodup_cons.2 ⟨ha,h⟩);cases hw with
   | cons h1 h2 =>
    obtain ⟨x,hx,hr⟩:=Way.turn l h2 fP;exact ⟨x,List.mem_cons_of_mem _ hx,hr⟩
theorem Af2 {es:List (Nat×Nat)} {T:Nat} {out:List Nat} (h1:∀ e∈es,e.1<T) (hac:∀ t,t<T -> ¬ Pg.Reach es t t) (aB:∃ t,t<T/\t∉out):∃ t,Ahj es T out=Ad t/\t<T/\Vl es out t=true:=by
 cases hp:Ahj es T out with
 | some t =>
  have hm:=List.find?_some hp;have hr:=List.mem_of_find?_eq_some hp;exact ⟨t,rfl,by simpa using hr,hm⟩
 | none =>
  exfalso;unfold Ahj at hp;rw [List.find?_eq_none] at hp;obtain ⟨t,htT,hto⟩:=aB;have hU:∀ u,(u<T/\u∉out) -> ∃ v,(v<T/\v∉out)/\(v,u)∈es:=by
   rintro u ⟨hu,huo⟩;have bY:=hp u (by simpa using hu);rw [Tv] at bY;have:¬ ∀ s,(s,u)∈es->s∈out:=fun h=>bY ⟨huo,h⟩;obtain ⟨s,tX⟩:=Classical.not_forall.1 this;obtain ⟨hs,hso⟩:=Classical.not_imp.1 tX;exact ⟨s,⟨h1 _ hs,hso⟩,hs⟩
  obtain ⟨a,l,_,hl,hw,hx⟩:=Way.lower (U:=fun u=>u<T/\u∉out) hU ⟨htT,hto⟩ T;have hnn:¬ (a :: l).Nodup:=fun hn=>by
   have:=Pg.Vs T (a :: l) hn (fun x eE=>(hx x eE).1)
   simp only [List.length_cons] at this;omega
  obtain ⟨x,eE,hr⟩:=Way.turn l hw hnn;exact hac x (hx x eE).1 hr
@[go_sem] abbrev Ni (x:Plan) (s:Sl):Value:=.agg #[.int .i64 x.prio,.int .i64 x.most,.int .i64 x.wait,.int .i64 x.tasks,.slice s.a s.n s.c]
abbrev Ck:Dt Plan:=Dt.via (Dt.list Kj) (·.edges) (fun q=>[.int .i64 q.1.prio,.int .i64 q.1.most,.int .i64 q.1.wait,.int .i64 q.1.tasks,.slice q.2.a q.2.n q.2.c]) 5 (fun _=>rfl) (fun q u hu=>by simp at hu;rcases hu with rfl | rfl | rfl | rfl | rfl<;>rfl)
def Hi (x:Plan):Nat:=Kv Nx x.edges
def Jx:Enc UInt8:={ cells:=fun x=>[.int .u8 (x.toNat:Int)],sz:=1,len:=fun _=>rfl,one:=fun _ u hu=>by simp at hu;subst hu;rfl }
structure Cur where
 i:Nat
 h:Int
abbrev O4 (v:Value) (c:Cur):List Value:=[v,.int .i64 (c.i:Int),.int .i64 c.h]
structure Drw (b:Nat) (v:Value) (code:List UInt8) (c:Cur) (w:World):Prop where
 box:DBox b (O4 v c) w
 rd:Rd Jx w b v code
 small:code.length<=1048576
 le:c.i<=code.length
def DrP (b:Nat) (v:Value) (code:List UInt8) (r:Value) (c':Cur) (w:World) (e:Ending) (w':World):Prop:=e = .returned r/\Drw b v code c' w'/\Chg [b] w w'
theorem Rd.byte {w:World} {B:Nat} {A:Option Addr} {n c:Nat} {l:List UInt8} (h:Rd Jx w B (Aa A n c) l) {k:Nat} (hk:k<l.length) :
  ∃ b o,A=Ad ⟨b,o,Ac⟩/\b<B/\w.cell? ⟨b,o+k,Ac⟩=Ad (.int .u8 (l[k].toNat:Int)):=by
 obtain ⟨A',c',hv,_,hA⟩:=h;obtain ⟨b,o,bW,hb,hc⟩:=hA Bl;simp only [Value.slice.injEq] at hv;obtain ⟨rfl,_,_⟩:=hv;exact ⟨b,o,bW,hb,by simpa [Jx] using hc k hk 0 _ rfl⟩
theorem Aak (a:Int):0<=bits .and .i64 a 255/\bits .and .i64 a 255<=255:=by
 show 0<=Ab.wrap ((BitVec.ofInt 64 a &&& BitVec.ofInt 64 255).toNat:Int)/\Ab.wrap ((BitVec.ofInt 64 a &&& BitVec.ofInt 64 255).toNat:Int)<=255;have h:(BitVec.ofInt 64 a &&& BitVec.ofInt 64 255).toNat<=255:=by
  rw [BitVec.toNat_and];exact Nat.and_le_right
 rw [IntKind.wrap_i64];omega
def Uy (h:Int):Int:=wrap64 (wrap64 (h * 6364136223846793005)+1442695040888963407)
def Aik (h:Int):Int:=bits .and .i64 (bits .xor .i64 (h / 8589934592) (h / 35184372088832)) 255
def Ea (code:List UInt8) (c:Cur):Int×Cur :=
 if h:c.i<code.length then (bits .and .i64 (Aik (Uy c.h)+(code[c.i].toNat:Int)) 255,⟨c.i+1,Uy c.h⟩) else (Aik (Uy c.h),⟨c.i,Uy c.h⟩)
theorem Mi (code:List UInt8) (c:Cur):0<=(Ea code c).1/\(Ea code c).1<=255:=by
 unfold Ea;split
 ·exact Aak _
 ·exact Aak _
theorem Drw.chg {b:Nat} {v:Value} {code:List UInt8} {c:Cur} {w w':World} {F:List Nat} (h:Drw b v code c w) (hc:Chg F w w') (hF:∀ x∈F,b<x):Drw b v code c w' :=
 ⟨h.box.chg hc (fun hm=>by have:=hF _ hm;omega),h.rd.keep (fun p hp=>hc.cell (Nat.lt_trans hp h.box.lt) (fun hm=>by have:=hF _ hm;omega)),h.small,h.le⟩
theorem Drw.below {b:Nat} {v:Value} {code:List UInt8} {c:Cur} {w w':World} (h:Drw b v code c w) (hb:Below w w w'):Drw b v code c w' :=
 h.chg (Chg.of_below [] hb) (fun x hx=>by cases hx)
theorem Drw.step {b:Nat} {v:Value} {code:List UInt8} {c c':Cur} {w w':World} (h:Drw b v code c w) (hb:DBox b (O4 v c') w') (hc:Chg [b] w w') (hl:c'.i<=code.length):Drw b v code c' w' :=
 ⟨hb,h.rd.keep (fun p hp=>hc.cell (Nat.lt_trans hp h.box.lt) (fun hm=>by (have:p.block=b:=by simpa using hm);omega)),h.small,hl⟩
theorem DBox.drewN {b:Nat} {cs:List Value} {w:World} (h:DBox b cs w) (n:Nat):DBox b cs (w.drewN n):=⟨h.cell,h.free,h.lt⟩
theorem Chg.drewN {F:List Nat} {a w:World} (h:Chg F a w) (n:Nat):Chg F a (w.drewN n):=⟨h.os,h.tape,h.output,h.size,h.block⟩
theorem DBox.put1 {b:Nat} {x i y u:Value} {w:World} (h:DBox b [x,i,y] w):DBox b [x,u,y] (w.setCell ⟨b,1,Ac⟩ u):=h.put 1 Bn u
theorem DBox.put2 {b:Nat} {x i y u:Value} {w:World} (h:DBox b [x,i,y] w):DBox b [x,i,u] (w.setCell ⟨b,2,Ac⟩ u):=h.put 2 Bn u
theorem Chg.setOwn {b o:Nat} {a w:World} {u:Value} (h:Chg [b] a w):Chg [b] a (w.setCell ⟨b,o,Ac⟩ u):=h.trans (Chg.setCell w b o u)
theorem O6 (b:Nat) (v:Value) (code:List UInt8) (c:Cur) (w:World) (h:Drw b v code c w) :
  Calls An 61 #[.pointer (Ad ⟨b,0,Ac⟩)] w (DrP b v code (J Ab (Ea code c).1) (Ea code c).2 w):=by
 obtain ⟨A,cap,rfl,-⟩:=id h.rd;have c0:=h.box.cell 0 _ rfl;have c1:=h.box.cell 1 _ rfl;have c2:=h.box.cell 2 _ rfl;have cf:=h.box.free;have cl:=h.box.lt;have hs:=h.small;by_cases aB:c.i<code.length
 ·obtain ⟨g,o,rfl,hg,d0⟩:=h.rd.byte aB;have i1:(c.i:Int)<(code.length:Int):=Bl;have i0:(0:Int)<=(c.i:Int):=Bl;have aE:¬ g=b:=Bl;have hx:=Aak (bits .xor .i64 (wrap64 (wrap64 (c.h * 6364136223846793005)+1442695040888963407) / 8589934592) (wrap64 (wrap64 (c.h * 6364136223846793005)+1442695040888963407) / 35184372088832));have hy:(code[c.i].toNat:Int)<=255:=by have:=code[c.i].toNat_lt;omega
  go_enter func61,ntmps61;go_wp2;go_quiet (fail);go_wp2;go_quiet (fail);go_wp2;go_quiet (fail);go_wp2;go_ret;have e1:Ea code c=(bits .and .i64 (Aik (Uy c.h)+(code[c.i].toNat:Int)) 255,⟨c.i+1,Uy c.h⟩):=by unfold Ea;rw [dif_pos aB]
  rw [e1];refine ⟨rfl,h.step ?_ ?_ (by simp only;omega),?_⟩
  ·have e2:O4 (Value.slice (Ad ⟨g,o,Ac⟩) code.length cap) ⟨c.i+1,Uy c.h⟩=[Value.slice (Ad ⟨g,o,Ac⟩) code.length cap,J Ab ((c.i:Int)+1),J Ab (Uy c.h)]:=by simp [O4]
   show DBox b (O4 (Value.slice (Ad ⟨g,o,Ac⟩) code.length cap) ⟨c.i+1,Uy c.h⟩) _;rw [e2];repeat (first | exact h.box | refine DBox.drewN ?_ _ | apply DBox.put1 | apply DBox.put2)
  all_goals repeat (first | exact Chg.refl _ _ | refine Chg.drewN ?_ _ | refine Chg.setOwn ?_)
 ·have hle:=h.le;have hq:decide ((c.i:Int)<(code.length:Int))=false:=by simp;omega
  go_enter func61,ntmps61;go_wp2;go_quiet (fail);go_wp2;go_quiet (fail);go_wp2;go_ret;have e1:Ea code c=(Aik (Uy c.h),⟨c.i,Uy c.h⟩):=by unfold Ea;rw [dif_neg aB]
  rw [e1];refine ⟨rfl,h.step ?_ ?_ hle,?_⟩
  ·show DBox b [_,J Ab (c.i:Int),J Ab (Uy c.h)] _;repeat (first | exact h.box | refine DBox.drewN ?_ _ | apply DBox.put1 | apply DBox.put2)
  all_goals repeat (first | exact Chg.refl _ _ | refine Chg.drewN ?_ _ | refine Chg.setOwn ?_)
/-! the cursor at its start -/
theorem Ail (a:Int):0<=bits .and .i64 a 1073741823/\bits .and .i64 a 1073741823<=1073741823:=by
 show 0<=Ab.wrap ((BitVec.ofInt 64 a &&& BitVec.ofInt 64 1073741823).toNat:Int)/\Ab.wrap ((BitVec.ofInt 64 a &&& BitVec.ofInt 64 1073741823).toNat:Int)<=1073741823;have h:(BitVec.ofInt 64 a &&& BitVec.ofInt 64 1073741823).toNat<=1073741823:=by
  rw [BitVec.toNat_and];exact Nat.and_le_right
 rw [IntKind.wrap_i64];omega
def Uz (code:List UInt8):Nat->Int
 | 0=>94701+code.length
 | k+1=>bits .and .i64 (Uz code k * 131+((code.getD k 0).toNat:Int)+7) 1073741823
theorem Afd (code:List UInt8) (hs:code.length<=1048576):∀ k,0<=Uz code k/\Uz code k<=1073741823
 | 0=>by unfold Uz;omega
 | k+1=>Ail _
theorem Af3 (code:List UInt8) {k:Nat} (h:k<code.length):Uz code (k+1)=bits .and .i64 (Uz code k * 131+(code[k].toNat:Int)+7) 1073741823:=by
 rw [Uz,List.getD_eq_getElem?_getD,List.getElem?_eq_getElem h];rfl
def Hj (code:List UInt8):Cur:=⟨0,Uz code (min code.length 4000)⟩
def Ajp (v:Value) (code:List UInt8) (w:World) (e:Ending) (w':World):Prop:=∃ g,e = .returned (.pointer (Ad ⟨g,0,Ac⟩))/\g=w.heap.size/\Drw g v code (Hj code) w'/\Below w w w'
theorem Afe (v:Value) (code:List UInt8) (w:World) (hs:code.length<=1048576) (h:Rd Jx w w v code) :
  Calls An 60 #[v] w (Ajp v code w):=by
 obtain ⟨A,cap,rfl,-⟩:=id h;go_enter func60,ntmps60;go_wp2;go_loop [3,4] (fun x i=>∃ k:Nat,k<=min code.length 4000/\i = J Ab k/\x = J Ab (Uz code k)) (fun _ i=>code.length - (intOf i).toNat);case atStart=>exact ⟨0,Ah _,rfl,rfl⟩
 case round =>
  obtain ⟨k,hk,rfl,rfl⟩:=hrel;have hx:=Afd code hs k;by_cases aB:k<min code.length 4000
  ·have hl:k<code.length:=Bl;obtain ⟨g,o,rfl,hg,d0⟩:=h.byte hl;have i1:(k:Int)<(code.length:Int):=Bl;have i2:(k:Int)<4000:=Bl;have hy:(code[k].toNat:Int)<=255:=by have:=code[k].toNat_lt;omega
   have H:=Bq (Af3 code hl);go_wp2;go_round;case rel=>exact ⟨k+1,Bl,by go_num,by rw [H.out]⟩
   case measure=>simp [intOf];omega
  ·have nE:=Bq (show k=min code.length 4000 by omega);by_cases h4:k<4000
   ·have i1:¬ (k:Int)<(code.length:Int):=Bl;go_wp2;go_ret;refine ⟨w,rfl,rfl,⟨?_,?_,hs,Ah _⟩,Bt⟩
    ·have e:Hj code=⟨0,Uz code k⟩:=by unfold Hj;rw [<-nE.out]
     rw [e];exact DBox.new _ _ _ rfl
    ·exact h.keep (fun p hp=>((Br w w).alloc (Bs _) _).cell hp)
   ·have pX:k=4000:=Bl;clear aB h4;subst pX;have qV:=Afd code hs 4000;clear hx;by_cases h5:4000<code.length
    ·have i2:(4000:Int)<(code.length:Int):=Bl;go_wp2;go_ret;refine ⟨w,rfl,rfl,⟨?_,?_,hs,Ah _⟩,Bt⟩
     ·have e:Hj code=⟨0,Uz code 4000⟩:=by unfold Hj;rw [<-nE.out]
      rw [e];exact DBox.new _ _ _ rfl
     ·exact h.keep (fun p hp=>((Br w w).alloc (Bs _) _).cell hp)
    ·have i2:¬ (4000:Int)<(code.length:Int):=Bl;go_wp2;go_ret;refine ⟨w,rfl,rfl,⟨?_,?_,hs,Ah _⟩,Bt⟩
     ·have e:Hj code=⟨0,Uz code 4000⟩:=by unfold Hj;rw [<-nE.out]
      rw [e];exact DBox.new _ _ _ rfl
     ·exact h.keep (fun p hp=>((Br w w).alloc (Bs _) _).cell hp)
/-! a number below another one -/
def Bw (code:List UInt8) (n:Int) (c:Cur):Int×Cur :=
 if n<=0 then (0,c) else if n<=256 then ((Ea code c).1 % n,(Ea code c).2) else
  let a:=Ea code c
  let b:=Ea code a.2
  let d:=Ea code b.2
  let e:=Ea code d.2
  ((a.1 * 16777216+b.1 * 65536+d.1 * 256+e.1) % n,e.2)
theorem Dz (code:List UInt8) {n:Int} (c:Cur) (h:0<n):0<=(Bw code n c).1/\(Bw code n c).1<n:=by
 unfold Bw;rw [if_neg Bl];split
 ·exact ⟨Int.emod_nonneg _ Bl,Int.emod_lt_of_pos _ h⟩
 ·exact ⟨Int.emod_nonneg _ Bl,Int.emod_lt_of_pos _ h⟩
theorem E8 (n:Int) (b:Nat) (v:Value) (code:List UInt8) (c:Cur) (w:World) (hn:n<=1000000000000) (h:Drw b v code c w) :
  Calls An 62 #[.pointer (Ad ⟨b,0,Ac⟩),J Ab n] w (DrP b v code (J Ab (Bw code n c).1) (Bw code n c).2 w):=by
 by_cases h0:n<=0
 ·have e:Bw code n c=(0,c):=by unfold Bw;rw [if_pos h0]
  have E:=Bq e;clear e;go_enter func62,ntmps62;go_wp2;go_ret;rw [E.out];exact ⟨rfl,h,Chg.refl _ _⟩
 by_cases h1:n<=256
 ·have e:Bw code n c=((Ea code c).1 % n,(Ea code c).2):=by unfold Bw;rw [if_neg h0,if_pos h1]
  have E:=Bq e;clear e;have hb:=Mi code c;go_enter func62,ntmps62;go_wp2_with fail
  refine (O6 b v code c _ h).mono ?_;rintro e w1 ⟨rfl,h1,c1⟩;go_wp2;go_ret;rw [E.out];exact ⟨rfl,h1,c1⟩
 ·have e:Bw code n c=(((Ea code c).1 * 16777216+(Ea code (Ea code c).2).1 * 65536+(Ea code (Ea code (Ea code c).2).2).1 * 256+(Ea code (Ea code (Ea code (Ea code c).2).2).2).1) % n,(Ea code (Ea code (Ea code (Ea code c).2).2).2).2):=by
   unfold Bw;rw [if_neg h0,if_neg h1]
  have E:=Bq e;clear e;have b1:=Mi code c;have b2:=Mi code (Ea code c).2;have b3:=Mi code (Ea code (Ea code c).2).2;have b4:=Mi code (Ea code (Ea code (Ea code c).2).2).2;go_enter func62,ntmps62;go_wp2_with fail
  refine (O6 b v code c _ h).mono ?_;rintro e w1 ⟨rfl,k1,c1⟩;go_wp2_with fail
  refine (O6 b v code _ _ k1).mono ?_;rintro e w2 ⟨rfl,k2,c2⟩;go_wp2_with fail
  refine (O6 b v code _ _ k2).mono ?_;rintro e w3 ⟨rfl,k3,c3⟩;go_wp2_with fail
  refine (O6 b v code _ _ k3).mono ?_;rintro e w4 ⟨rfl,k4,c4⟩;go_wp2;go_ret;rw [E.out];exact ⟨rfl,k4,((c1.trans c2).trans c3).trans c4⟩
def Ex (code:List UInt8) (n:Int) (c:Cur):Bool×Cur:=((Bw code n c).1 == 0,(Bw code n c).2)
theorem Ru (n:Int) (b:Nat) (v:Value) (code:List UInt8) (c:Cur) (w:World) (hn:n<=1000000000000) (h:Drw b v code c w) :
  Calls An 154 #[.pointer (Ad ⟨b,0,Ac⟩),J Ab n] w (DrP b v code (.bool (Ex code n c).1) (Ex code n c).2 w):=by
 go_enter func154,ntmps154;go_wp2_with fail
 refine (E8 n b v code c _ hn h).mono ?_;rintro e w1 ⟨rfl,h1,c1⟩;go_wp2;go_ret;exact ⟨rfl,h1,c1⟩
theorem Ta {α:Type} {p:α->Bool} {l:List α} : (0<=He p l) ↔ ∃ x∈l,p x=true:=by
 unfold He;cases h:l.findIdx? p with
 | none =>
  rw [List.findIdx?_eq_none_iff] at h;simp only;refine ⟨fun h=>absurd h Bl,?_⟩;rintro ⟨x,hx,hp⟩
  have:=h x hx
  rw [hp] at this;cases this
 | some i =>
  rw [List.findIdx?_eq_some_iff_getElem] at h;obtain ⟨hi,hp,_⟩:=h;simp only;exact ⟨fun _=>⟨_,List.getElem_mem hi,hp⟩,fun _=>Bl⟩
theorem Aal (v:Value) (l:List Nat) (x:Nat) (B:Nat) (w:World) (hl:l.length<=2000000) (h:Rd En w B v l) :
  Calls An 224 #[v,J Ab (x:Int)] w fun e w'=>e = .returned (J Ab (He (fun y=>decide (x=y)) l))/\w=w':=by
 obtain ⟨A,c,rfl,-⟩:=id h;go_enter func224,ntmps224;go_wp2;go_loop [8] (fun i=>∃ k:Nat,k<=l.length/\i = J Ab k/\Hid (∀ j (hj:j<k) (hj':j<l.length),decide (x=l[j])=false)) (fun i=>l.length - (intOf i).toNat);case atStart=>exact ⟨0,Ah _,rfl,fun j hj=>absurd hj Bl⟩
 case round =>
  obtain ⟨k,hk,rfl,bY⟩:=hrel;by_cases aB:k<l.length
  ·obtain ⟨b,o,rfl,aH,c0⟩:=h.nat aB;have aC:(k:Int)<(l.length:Int):=Bl;by_cases hx:x=l[k]
   ·have H:=Bq (It (p:=fun y=>decide (x=y)) aB (fun j hj=>bY.out j hj Bl) (show decide (x=l[k])=true by simp [hx]));have fA:((x:Int) == (l[k]:Int))=true:=by simp [hx]
    clear hx;go_wp2;go_ret;exact ⟨D6 (by rw [H.out]),rfl⟩
   ·have fA:((x:Int) == (l[k]:Int))=false:=beq_eq_false_iff_ne.2 Bl;have S:Hid (∀ j (hj:j<k+1) (hj':j<l.length),decide (x=l[j])=false):=by
     intro j hj hj';by_cases e:j=k
     ·subst e;simpa using hx
     ·exact bY.out j Bl hj'
    clear hx;go_wp2;exact ⟨⟨k+1,Bl,by go_num,S⟩,clM⟩
  ·have aC:¬ (k:Int)<(l.length:Int):=Bl;have H:=Bq (Jd (p:=fun y=>decide (x=y)) (l:=l) (fun j hj=>bY.out j Bl hj));go_wp2;go_ret;exact ⟨D6 (by rw [H.out]),rfl⟩
theorem Lj (v:Value) (l:List Nat) (x:Nat) (B:Nat) (w:World) (hl:l.length<=2000000) (h:Rd En w B v l) :
  Calls An 141 #[v,J Ab (x:Int)] w fun e w'=>e = .returned (.bool (decide (x∈l)))/\w=w':=by
 have H:=Bq (show decide (0<=He (fun y=>decide (x=y)) l)=decide (x∈l) from decide_eq_decide.2 (Ta.trans Bn));go_enter func141,ntmps141;go_wp2_with fail
 refine (Aal v l x B _ hl h).mono ?_;rintro e w1 ⟨rfl,rfl⟩;go_wp2_with fail
 go_ret;exact ⟨Bx (by rw [<-H.out]),rfl⟩
structure Deed where
 kind:Int
 run:Int
 plan:Plan
 task:Int
 try_:Int
 worker:Int
 draw:Int
deriving DecidableEq,Inhabited
@[go_sem] abbrev Dw (x:Deed) (s:Sl):Value:=.agg #[.int .i64 x.kind,.int .i64 x.run,.int .i64 x.plan.prio,.int .i64 x.plan.most,.int .i64 x.plan.wait,.int .i64 x.plan.tasks,.slice s.a s.n s.c,.int .i64 x.task,.int .i64 x.try_,.int .i64 x.worker,.int .i64 x.draw]
abbrev Fb:Dt Deed:=Dt.via Ck (·.plan) (fun q=>[.int .i64 q.1.kind,.int .i64 q.1.run,.int .i64 q.1.plan.prio,.int .i64 q.1.plan.most,.int .i64 q.1.plan.wait,.int .i64 q.1.plan.tasks,.slice q.2.a q.2.n q.2.c,.int .i64 q.1.task,.int .i64 q.1.try_,.int .i64 q.1.worker,.int .i64 q.1.draw]) 11 (fun _=>rfl) (fun q u hu=>by simp at hu;rcases hu with rfl | rfl | rfl | rfl | rfl | rfl | rfl | rfl | rfl | rfl | rfl<;>rfl)
def Iy (x:Deed):Nat:=Hi x.plan
theorem RdL.deed {w:World} {B:Nat} {A:Option Addr} {n c:Nat} {l:List (Deed)} (h:RdL Fb w B (Aa A n c) l) {k:Nat} (hk:k<l.length) :
  ∃ b o,∃ s:Sl,A=Ad ⟨b,o,Ac⟩/\b<B/\Fb.rd w B l[k] s/\w.cell? ⟨b,o+k * 11,Ac⟩=Ad (J Ab l[k].kind)/\w.cell? ⟨b,o+k * 11+1,Ac⟩=Ad (J Ab l[k].run)/\w.cell? ⟨b,o+k * 11+2,Ac⟩=Ad (J Ab l[k].plan.prio)/\w.cell? ⟨b,o+k * 11+3,Ac⟩=Ad (J Ab l[k].plan.most)/\w.cell? ⟨b,o+k * 11+4,Ac⟩=Ad (J Ab l[k].plan.wait)/\w.cell? ⟨b,o+k * 11+5,Ac⟩=Ad (J Ab l[k].plan.tasks)/\w.cell? ⟨b,o+k * 11+6,Ac⟩=Ad (Aa s.a s.n s.c)/\w.cell? ⟨b,o+k * 11+7,Ac⟩=Ad (J Ab l[k].task)/\w.cell? ⟨b,o+k * 11+8,Ac⟩=Ad (J Ab l[k].try_)/\w.cell? ⟨b,o+k * 11+9,Ac⟩=Ad (J Ab l[k].worker)/\w.cell? ⟨b,o+k * 11+10,Ac⟩=Ad (J Ab l[k].draw):=by
 obtain ⟨b,o,s,rfl,hb,hc,hr⟩:=h.at_ k hk;exact ⟨b,o,s,rfl,hb,hr,hc 0 _ rfl,hc 1 _ rfl,hc 2 _ rfl,hc 3 _ rfl,hc 4 _ rfl,hc 5 _ rfl,hc 6 _ rfl,hc 7 _ rfl,hc 8 _ rfl,hc 9 _ rfl,hc 10 _ rfl⟩
theorem Aed:(An.info? 45).map (fun i=>(i.zero,i.size,i.bytes))=Ad (Ad (.agg #[J Ab 0,J Ab 0,J Ab 0,J Ab 0,J Ab 0,J Ab 0,Aa Ac 0 0,J Ab 0,J Ab 0,J Ab 0,J Ab 0]),11,104):=Bm
structure Run where
 id:Int
 plan:Plan
 state:Int
 tasks:List Task
deriving DecidableEq,Inhabited
@[go_sem] abbrev Hx (x:Run) (s:Sl×Sl):Value:=.agg #[.int .i64 x.id,.int .i64 x.plan.prio,.int .i64 x.plan.most,.int .i64 x.plan.wait,.int .i64 x.plan.tasks,.slice s.1.a s.1.n s.1.c,.int .i64 x.state,.slice s.2.a s.2.n s.2.c]
abbrev Cn:Dt Run:=Dt.two Ck (Dt.list Eu) (·.plan) (·.tasks) (fun q=>[.int .i64 q.1.id,.int .i64 q.1.plan.prio,.int .i64 q.1.plan.most,.int .i64 q.1.plan.wait,.int .i64 q.1.plan.tasks,.slice q.2.1.a q.2.1.n q.2.1.c,.int .i64 q.1.state,.slice q.2.2.a q.2.2.n q.2.2.c]) 8 (fun _=>rfl) (fun q u hu=>by simp at hu;rcases hu with rfl | rfl | rfl | rfl | rfl | rfl | rfl | rfl<;>rfl)
def Dc (x:Run):Nat:=Hi x.plan+Kv Ix x.tasks
theorem RdL.run {w:World} {B:Nat} {A:Option Addr} {n c:Nat} {l:List (Run)} (h:RdL Cn w B (Aa A n c) l) {k:Nat} (hk:k<l.length) :
  ∃ b o,∃ s:Sl×Sl,A=Ad ⟨b,o,Ac⟩/\b<B/\Cn.rd w B l[k] s/\w.cell? ⟨b,o+k * 8,Ac⟩=Ad (J Ab l[k].id)/\w.cell? ⟨b,o+k * 8+1,Ac⟩=Ad (J Ab l[k].plan.prio)/\w.cell? ⟨b,o+k * 8+2,Ac⟩=Ad (J Ab l[k].plan.most)/\w.cell? ⟨b,o+k * 8+3,Ac⟩=Ad (J Ab l[k].plan.wait)/\w.cell? ⟨b,o+k * 8+4,Ac⟩=Ad (J Ab l[k].plan.tasks)/\w.cell? ⟨b,o+k * 8+5,Ac⟩=Ad (Aa s.1.a s.1.n s.1.c)/\w.cell? ⟨b,o+k * 8+6,Ac⟩=Ad (J Ab l[k].state)/\w.cell? ⟨b,o+k * 8+7,Ac⟩=Ad (Aa s.2.a s.2.n s.2.c):=by
 obtain ⟨b,o,s,rfl,hb,hc,hr⟩:=h.at_ k hk;exact ⟨b,o,s,rfl,hb,hr,hc 0 _ rfl,hc 1 _ rfl,hc 2 _ rfl,hc 3 _ rfl,hc 4 _ rfl,hc 5 _ rfl,hc 6 _ rfl,hc 7 _ rfl⟩
theorem Foc.run {w:World} {b o n c j:Nat} {rs:List ((Run)×Sl×Sl)} {G1 Fx G2:List Nat} {x:Run} {s:Sl×Sl} (h:Foc Cn w b o n c rs j G1 Fx G2 x s) :
  w.cell? ⟨b,o+j * 8,Ac⟩=Ad (J Ab x.id)/\w.cell? ⟨b,o+j * 8+1,Ac⟩=Ad (J Ab x.plan.prio)/\w.cell? ⟨b,o+j * 8+2,Ac⟩=Ad (J Ab x.plan.most)/\w.cell? ⟨b,o+j * 8+3,Ac⟩=Ad (J Ab x.plan.wait)/\w.cell? ⟨b,o+j * 8+4,Ac⟩=Ad (J Ab x.plan.tasks)/\w.cell? ⟨b,o+j * 8+5,Ac⟩=Ad (Aa s.1.a s.1.n s.1.c)/\w.cell? ⟨b,o+j * 8+6,Ac⟩=Ad (J Ab x.state)/\w.cell? ⟨b,o+j * 8+7,Ac⟩=Ad (Aa s.2.a s.2.n s.2.c):=⟨h.cells 0 _ rfl,h.cells 1 _ rfl,h.cells 2 _ rfl,h.cells 3 _ rfl,h.cells 4 _ rfl,h.cells 5 _ rfl,h.cells 6 _ rfl,h.cells 7 _ rfl⟩
theorem L9:(An.info? 67).map (fun i=>(i.zero,i.size,i.bytes))=Ad (Ad (.agg #[J Ab 0,J Ab 0,J Ab 0,J Ab 0,J Ab 0,Aa Ac 0 0,J Ab 0,Aa Ac 0 0]),8,96):=Bm
theorem Chg.alloc {F:List Nat} {a w:World} (h:Chg F a w) (o:Obj):Chg F a (w.alloc o):=h.trans (Chg.of_below F ((Br _ _).alloc (Bs _) o))
theorem Chg.setNew {F:List Nat} {a w:World} (h:Chg F a w) {p:Addr} (hp:a.heap.size<=p.block) {u:Value} : Chg F a (w.setCell p u) :=
 ⟨h.os,h.tape,h.output,by have:=h.size;simpa [World.setCell] using this,fun i hi hn=>(Below.heap_setCell w p u i Bl).trans (h.block i hi hn)⟩
theorem Chg.grownNew {F:List Nat} {a w w':World} {row:Option Nat} (h:Chg F a w) (hg:w.grownBy w' row) (hr:∀ g,row=Ad g->a.heap.size<=g):Chg F a w' :=
 ⟨hg.os.trans h.os,hg.tape.trans h.tape,hg.output.trans h.output,Nat.le_trans h.size hg.size,fun i hi hn=>(hg.block i (Nat.lt_of_lt_of_le hi h.size) (fun e=>by have:=hr i e.symm;omega)).trans (h.block i hi hn)⟩
theorem Chg.belowNew {F:List Nat} {a w w':World} (h:Chg F a w) (hb:Below w w w'):Chg F a w':=h.trans (Chg.of_below F hb)
theorem Chg.toGrown {b:Nat} {w w':World} (h:Chg [b] w w'):w.grownBy w' (Ad b) :=
 ⟨h.os,h.tape,h.output,h.size,fun k hk hn=>h.block k hk (fun hm=>hn (by simp only [Aw] at hm;rw [hm]))⟩
theorem Drw.setNew {b:Nat} {v:Value} {code:List UInt8} {c:Cur} {w:World} (h:Drw b v code c w) {p:Addr} (hp:b<p.block) (u:Value):Drw b v code c (w.setCell p u):=by
 refine h.chg (F:=[p.block]) (w':=w.setCell p u) ⟨rfl,rfl,rfl,by simp [World.setCell],fun i _ hn=>Below.heap_setCell w p u i (by simpa using hn)⟩ (fun x hx=>by simp only [Aw] at hx;omega)
theorem Drw.grownNew {b:Nat} {v:Value} {code:List UInt8} {c:Cur} {w w':World} {row:Option Nat} (h:Drw b v code c w) (hg:w.grownBy w' row) (hr:∀ g,row=Ad g->b<g):Drw b v code c w' :=
 h.chg (F:=row.toList) (Chg.grown hg (fun g e=>by simp [e])) (fun x hx=>hr x (by simpa using hx))
theorem Drw.alloc {b:Nat} {v:Value} {code:List UInt8} {c:Cur} {w:World} (h:Drw b v code c w) (o:Obj):Drw b v code c (w.alloc o):=h.below ((Br _ _).alloc (Bs _) o)
theorem Drw.drewN {b:Nat} {v:Value} {code:List UInt8} {c:Cur} {w:World} (h:Drw b v code c w) (n:Nat):Drw b v code c (w.drewN n):=⟨h.box.drewN n,h.rd,h.small,h.le⟩
theorem BoxAt.chg {F:List Nat} {b:Nat} {p:Plan} {v:Value} {w w':World} (h:BoxAt b p v w) (hc:Chg F w w') (hn:b∉F):BoxAt b p v w' :=
 h.keep hc.size (fun j=>hc.cell (p:=⟨b,j,Ac⟩) h.lt hn) (fun j=>hc.frozen (p:=⟨b,j,Ac⟩) h.lt hn)
theorem BoxAt.drewN {b:Nat} {p:Plan} {v:Value} {w:World} (h:BoxAt b p v w) (n:Nat):BoxAt b p v (w.drewN n):=⟨h.cells,h.free⟩
theorem Ow.chg {α:Type} {e:Enc α} {E:TypeId} {w w':World} {base b:Nat} {v:Value} {l:List α} (h:Ow e E w base v l) (hc:Chg [b] w w') (hb:b<base):Ow e E w' base v l :=
 h.grown hc.toGrown (.inr (fun e'=>by have:=h.within b e';omega))
theorem Ow.setLow {α:Type} {e:Enc α} {E:TypeId} {w:World} {base:Nat} {v:Value} {l:List α} (h:Ow e E w base v l) {a:Addr} (ha:a.block<base) (u:Value):Ow e E (w.setCell a u) base v l :=
 h.setOther (fun e'=>by have:=h.within _ e';omega) u
def Tw (code:List UInt8) (T:Int) (c:Cur):Int:=1+(Bw code (T - 1) (Bw code 9 c).2).1
def Aim (code:List UInt8) (T:Int) (c:Cur):Edge:=⟨(Bw code (Tw code T c) (Bw code (T - 1) (Bw code 9 c).2).2).1,Tw code T c⟩
def Ajd (code:List UInt8) (T:Int) (c:Cur):Cur:=(Bw code (Tw code T c) (Bw code (T - 1) (Bw code 9 c).2).2).2
def Yq (es:List Edge) (e:Edge):List Edge:=if e∈es then es else es ++ [e]
def Jy (code:List UInt8) (T:Int):Nat->Nat->List Edge->Cur->List Edge×Cur
 | 0,_,es,c=>(es,c)
 | f+1,i,es,c=>if (i:Int)<(Bw code 9 c).1/\1<T then Jy code T f (i+1) (Yq es (Aim code T c)) (Ajd code T c) else (es,(Bw code 9 c).2)
def Rv (once:Bool) (t:Int):Int:=if once=true then 12 else 1+t
def Hu (code:List UInt8) (c:Cur):Plan×Cur :=
 let a:=Bw code 4 c
 let b:=Bw code 3 a.2
 let d:=Bw code 4 b.2
 let t:=Bw code 6 d.2
 let o:=Ex code 10 t.2
 let g:=Jy code (Rv o.1 t.1) 10 0 [] o.2
 (⟨a.1,1+b.1,1+d.1,Rv o.1 t.1,g.1⟩,g.2)
def Ai1 (b:Nat) (v:Value) (code:List UInt8) (r:Plan×Cur) (w:World) (e:Ending) (w':World):Prop :=
 ∃ u,e = .returned (Gl r.1 u)/\Ow Gd 206 w' w u r.1.edges/\Drw b v code r.2 w'/\Chg [b] w w'
theorem Ry (b:Nat) (v:Value) (code:List UInt8) (c:Cur) (w:World) (h:Drw b v code c w) :
  Calls An 83 #[.pointer (Ad ⟨b,0,Ac⟩)] w (Ai1 b v code (Hu code c) w):=by
 have hb:=h.box.lt;go_enter func83,ntmps83;go_wp2_with fail
 have C0:=(Chg.refl [b] w).alloc (.cells #[J Ab 0,J Ab 0,J Ab 0,J Ab 0,Aa Ac 0 0] 43);have h:=h.alloc (.cells #[J Ab 0,J Ab 0,J Ab 0,J Ab 0,Aa Ac 0 0] 43);have R0:=BoxAt.new' 43 ⟨0,0,0,0,[]⟩ (Aa Ac 0 0) w rfl;have hbz:b<w:=hb;refine (E8 4 b v code c _ Bl h).mono ?_;rintro e w1 ⟨rfl,k1,c1⟩;have B1:=Dz code (n:=4) c Bl;generalize qQ:Bw code 4 c=r1 at *
 have H1:=Bq qQ;clear qQ;have R1:=R0.chg c1 (by simp;omega);go_wp2_with fail
 refine (E8 3 b v code _ _ Bl k1).mono ?_;rintro e w2 ⟨rfl,k2,c2⟩;have B2:=Dz code (n:=3) r1.2 Bl;generalize pV:Bw code 3 r1.2=r2 at *
 have H2:=Bq pV;clear pV;have R2:=R1.chg c2 (by simp;omega);go_wp2_with fail
 refine (E8 4 b v code _ _ Bl k2).mono ?_;rintro e w3 ⟨rfl,k3,c3⟩;have B3:=Dz code (n:=4) r2.2 Bl;generalize hr3:Bw code 4 r2.2=r3 at *
 have H3:=Bq hr3;clear hr3;have R3:=R2.chg c3 (by simp;omega);go_wp2_with fail
 refine (E8 6 b v code _ _ Bl k3).mono ?_;rintro e w4 ⟨rfl,k4,c4⟩;have B4:=Dz code (n:=6) r3.2 Bl;generalize hr4:Bw code 6 r3.2=r4 at *
 have H4:=Bq hr4;clear hr4;have R4:=R3.chg c4 (by simp;omega);have C4:=(((C0.trans c1).trans c2).trans c3).trans c4;have S4:=C4.size;clear C0 c1 c2 c3 c4 R0 R1 R2 R3 h k1 k2 k3;go_wp2_with fail
 have P5:=BoxAt.new' 43 ⟨r1.1,1+r2.1,1+r3.1,1+r4.1,[]⟩ (Aa Ac 0 0) w4 rfl;have R5:=R4.below ((Br _ _).alloc (Bs _) (.cells #[J Ab r1.1,J Ab (1+r2.1),J Ab (1+r3.1),J Ab (1+r4.1),Aa Ac 0 0] 43));have C5:=C4.alloc (.cells #[J Ab r1.1,J Ab (1+r2.1),J Ab (1+r3.1),J Ab (1+r4.1),Aa Ac 0 0] 43);have k5:=k4.alloc (.cells #[J Ab r1.1,J Ab (1+r2.1),J Ab (1+r3.1),J Ab (1+r4.1),Aa Ac 0 0] 43);have R4s:=R4.lt;obtain ⟨pb,hpb⟩:∃ pb,pb=w4.heap.size:=⟨_,rfl⟩
 rw [<-hpb] at P5 R4s ⊢;generalize (w4.alloc (.cells #[J Ab r1.1,J Ab (1+r2.1),J Ab (1+r3.1),J Ab (1+r4.1),Aa Ac 0 0] 43))=w5 at *
 clear R4 C4 k4 S4 hpb;refine (Ru 10 b v code _ _ Bl k5).mono ?_;rintro e w6 ⟨rfl,k6,c6⟩;generalize vB:Ex code 10 r4.2=r5 at *
 have H5:=Bq vB;clear vB;have P6:=P5.chg c6 (by simp;omega);have R6:=R5.chg c6 (by simp;omega);have C6:=C5.trans c6;clear c6 P5 R5 C5 k5;obtain ⟨T,hT,sI,qA⟩:∃ T:Int,Hid (Rv r5.1 r4.1=T)/\1<=T/\T<=12:=⟨_,Bq rfl,by unfold Rv;split<;>omega,by unfold Rv;split<;>omega⟩
 have HE:Hid (∀ g,Jy code T 10 0 [] r5.2=g->Hu code c=(⟨r1.1,1+r2.1,1+r3.1,T,g.1⟩,g.2)):=by
  intro g hg;unfold Hu;simp only [H1.out,H2.out,H3.out,H4.out,H5.out,hT.out,hg]
 have P6c:=P6.cells;have P6f:=P6.free;obtain ⟨i0,aQ,aW,aU,aR⟩:=info_parts Sz;cases ho:r5.1;case' false =>
  rw [ho] at hT;have hT':1+r4.1=T:=hT.out;rw [hT'] at P6;clear hT hT' P6c;have C7:=C6;have P7:=P6;have k7:=k6;have R7:=R6;have P7c:=P7.cells;go_wp2_with fail
 case' true =>
  rw [ho] at hT;have hT':(12:Int)=T:=hT.out;have C7:=C6.setNew (p:=⟨pb,3,Ac⟩) (u:=J Ab T) (by simp;omega);have P7:BoxAt pb ⟨r1.1,1+r2.1,1+r3.1,T,[]⟩ (Aa Ac 0 0) (w6.setCell ⟨pb,3,Ac⟩ (J Ab T)):=P6.setTasks T;have k7:=k6.setNew (p:=⟨pb,3,Ac⟩) (by simp;omega) (J Ab T);have R7:=R6.other (a:=⟨pb,3,Ac⟩) (by simp;omega) (J Ab T);go_wp2_with fail
  clear hT hT' P6c;generalize (w6.setCell ⟨pb,3,Ac⟩ (J Ab T))=w7 at *
 all_goals
  clear P6 k6 R6 C6 P6f;try clear P7c
  try clear H1 H2 H3 H4 H5
  go_loopw [4] (fun i wr=>∃ (k:Nat) (es:List Edge) (u:Value) (c':Cur),k<=9/\i = J Ab k/\es.length<=k/\Drw b v code c' wr/\BoxAt pb ⟨r1.1,1+r2.1,1+r3.1,T,es⟩ u wr/\Ow Gd 206 wr (pb+1) u es/\Chg [b] w wr/\BoxAt w ⟨0,0,0,0,[]⟩ (Aa Ac 0 0) wr/\Hid (Jy code T (10 - k) k es c'=Jy code T 10 0 [] r5.2)) (fun i _=>9 - (intOf i).toNat);case atStart=>exact ⟨0,[],_,_,Bl,rfl,Bn,k7,P7,Ow.nil _ _ _ _,C7,R7,rfl⟩
  case round =>
   clear C7 P7 k7 R7;obtain ⟨k,es,u,c',hk,rfl,mG,K,P,O,C,R,G⟩:=hrel;go_wp2_with fail
   refine (E8 9 b v code _ _ Bl K).mono ?_;rintro e wa ⟨rfl,ka,ca⟩;have Ba:=Dz code (n:=9) c' Bl;generalize uY:Bw code 9 c'=q1 at *
   have Hq1:=Bq uY;clear uY;have Pa:=P.chg ca (by simp;omega);have Ra:=R.chg ca (by simp;omega);have Oa:=O.chg ca Bl;have Ca:=C.trans ca;clear K P R O C ca;obtain ⟨p0,p1,p2,p3,p4,ps⟩:=Pa.cells;obtain ⟨z0,z1,z2,z3,z4,zs⟩:=Ra.cells;have pf:=Pa.free;have zf:=Ra.free;by_cases hgo:(k:Int)<q1.1/\1<T
   ·obtain ⟨g1,g2⟩:=hgo;go_wp2_with fail
    refine (E8 (T - 1) b v code _ _ Bl ka).mono ?_;rintro e wb ⟨rfl,kb,cb⟩;have Bb:=Dz code (n:=T - 1) q1.2 Bl;generalize hq2:Bw code (T - 1) q1.2=q2 at *
    have Hq2:=Bq hq2;clear hq2 p0 p1 p2 p3 p4 ps z0 z1 z2 z3 z4 zs pf zf;have Pb:=Pa.chg cb (by simp;omega);have Rb:=Ra.chg cb (by simp;omega);have Ob:=Oa.chg cb Bl;have Cb:=Ca.trans cb;clear ka Pa Ra Oa Ca cb;go_wp2_with fail
    refine (E8 (1+q2.1) b v code _ _ Bl kb).mono ?_;rintro e wc ⟨rfl,kc,cc⟩;have Bc:=Dz code (n:=1+q2.1) q2.2 Bl;generalize hq3:Bw code (1+q2.1) q2.2=q3 at *
    have Hq3:=Bq hq3;clear hq3;have Pc:=Pb.chg cc (by simp;omega);have Rc:=Rb.chg cc (by simp;omega);have Oc:=Ob.chg cc Bl;have Cc:=Cb.trans cc;clear kb Pb Rb Ob Cb cc;go_wp2_with fail
    have ha:Below wc wc (wc.alloc (.cells #[J Ab q3.1,J Ab (1+q2.1)] 206)):=Bt;have D:=EdgeAt.new 206 ⟨q3.1,1+q2.1⟩ wc;have eb:pb<wc:=Pc.lt;have Pd:=Pc.below ha;have Re:=Rc.below ha;have Od:=Oc.below ha;have Cd:=Cc.belowNew ha;have kd:=kc.below ha;obtain ⟨ep,hep⟩:∃ ep,ep=wc.heap.size:=⟨_,rfl⟩
    rw [<-hep] at D eb ⊢;generalize (wc.alloc (.cells #[J Ab q3.1,J Ab (1+q2.1)] 206))=wd at *
    have eO:Hid (∀ g,u.ownBlock=Ad g->g<ep):=fun g hg=>by have:=Oc.within g hg;omega
    clear Pc Rc Oc Cc kc ha hep;obtain ⟨A,cap,rfl,-⟩:=id (Rd.of_own Od);obtain ⟨p0,p1,p2,p3,p4,ps⟩:=Pd.cells;obtain ⟨d0,d1,ds⟩:=D.cells;go_loopw [7,8] (fun tw j wq=>∃ m n:Nat,m<=es.length/\j = J Ab m/\tw = .bool (decide ((⟨q3.1,1+q2.1⟩:Edge)∈es.take m))/\wq=wd.drewN n) (fun _ j _=>es.length - (intOf j).toNat);case atStart=>exact ⟨0,0,Ah _,rfl,Bn,rfl⟩
    case round =>
     obtain ⟨m,nd,hm,rfl,rfl,rfl⟩:=hrel;by_cases aB:m<es.length
     ·have aC:(m:Int)<(es.length:Int):=Bl;have sV:(0:Int)<=(m:Int):=Bl;obtain ⟨g,oo,rfl,hgg,x0,x1⟩:=(Rd.of_own Od).edge aB;obtain ⟨z0,z1,z2⟩:True/\True/\True:=⟨trivial,trivial,trivial⟩
      have hnx:Hid (∀ t,t=decide ((⟨q3.1,1+q2.1⟩:Edge)∈es.take (m+1))->Value.bool t = .bool (decide ((⟨q3.1,1+q2.1⟩:Edge)∈es.take (m+1)))):=fun t h=>by rw [h]
      cases hd:decide ((⟨q3.1,1+q2.1⟩:Edge)∈es.take m)
      ·by_cases e0:es[m].fr=q3.1
       ·by_cases e1:es[m].to=1+q2.1
        ·have S:Hid (decide ((⟨q3.1,1+q2.1⟩:Edge)∈es.take (m+1))=true):=by
          refine decide_eq_true ?_;rw [Cy es m aB];refine List.mem_append_right _ (Aw.2 ?_);cases hx:es[m];rw [hx] at e0 e1;simp only at e0 e1;rw [e0,e1]
         rw [e0] at x0;rw [e1] at x1;clear e0 e1 hd;go_wp2;go_quiet (fail);go_wp2;exact ⟨⟨m+1,_,Bl,by go_num,by rw [S.out],rfl⟩,clM⟩
        ·have S:Hid (decide ((⟨q3.1,1+q2.1⟩:Edge)∈es.take (m+1))=false):=by
          refine decide_eq_false ?_;rw [Cy es m aB,Bi,Aw];rintro (h | h)
          ·exact of_decide_eq_false hd h
          ·rw [<-h] at e1;exact e1 rfl
         have e1':(es[m].to == 1+q2.1)=false:=beq_eq_false_iff_ne.2 e1;rw [e0] at x0;clear e0 e1 hd;go_wp2;go_quiet (fail);go_wp2;exact ⟨⟨m+1,_,Bl,by go_num,by rw [S.out],rfl⟩,clM⟩
       ·have S:Hid (decide ((⟨q3.1,1+q2.1⟩:Edge)∈es.take (m+1))=false):=by
         refine decide_eq_false ?_;rw [Cy es m aB,Bi,Aw];rintro (h | h)
         ·exact of_decide_eq_false hd h
         ·rw [<-h] at e0;exact e0 rfl
        have e0':(es[m].fr == q3.1)=false:=beq_eq_false_iff_ne.2 e0;clear e0 hd;go_wp2;go_quiet (fail);go_wp2;exact ⟨⟨m+1,_,Bl,by go_num,by rw [S.out],rfl⟩,clM⟩
      ·have S:Hid (decide ((⟨q3.1,1+q2.1⟩:Edge)∈es.take (m+1))=true):=by
        refine decide_eq_true ?_;rw [Cy es m aB];exact List.mem_append_left _ (of_decide_eq_true hd)
       clear hd;go_wp2;go_quiet (fail);go_wp2;exact ⟨⟨m+1,_,Bl,by go_num,by rw [S.out],rfl⟩,clM⟩
     ·have tB:m=es.length:=Bl;subst tB;have aC:¬ (es.length:Int)<(es.length:Int):=Bl;rw [List.take_length];have H1':10 - k=(9 - k)+1:=Bl;have GO:∀ g,Jy code T (9 - k) (k+1) (Yq es ⟨q3.1,1+q2.1⟩) q3.2=g->Jy code T 10 0 [] r5.2=g:=by
       intro g hg;rw [<-G.out,H1',Jy,if_pos (by rw [Hq1.out];exact ⟨g1,g2⟩)];unfold Aim Ajd Tw;rw [Hq1.out,Hq2.out,Hq3.out];exact hg
      have GO:=Bq GO;cases hd:decide ((⟨q3.1,1+q2.1⟩:Edge)∈es)
      ·have S:Hid (Yq es ⟨q3.1,1+q2.1⟩=es ++ [⟨q3.1,1+q2.1⟩]):=by
        show Yq _ _=_;unfold Yq;rw [if_neg (of_decide_eq_false hd)]
       clear hd H1';have kx:=kd.drewN nd;have Px:=Pd.drewN nd;have Ox:=Od.below (Du (Br _ wd) nd);have Cx:=Cd.drewN nd;have Rx:=Re.drewN nd;have hzx:ep<(wd.drewN nd):=ds;have q0:(wd.drewN nd).cell? ⟨pb,4,Ac⟩=Ad (Aa A es.length cap):=p4;have q1':(wd.drewN nd).cell? ⟨ep,0,Ac⟩=Ad (J Ab q3.1):=d0;have q2':(wd.drewN nd).cell? ⟨ep,1,Ac⟩=Ad (J Ab (1+q2.1)):=d1;clear p0 p1 p2 p3 p4 ps d0 d1 ds D Od kd Pd Cd Re eO;generalize wd.drewN nd=wx at *
       have qH:Below wx wx (wx.alloc (.cells #[J Ab q3.1,J Ab (1+q2.1)] 206)):=Bt;have aE:Hid (Ad pb≠(Value.slice A es.length cap).ownBlock):=fun e=>by have:=Ox.within pb e.symm;omega
       go_wp2_with (at_builtin;refine Cj _ Gd Bp rfl (.tmp 66) (.tmp 68) rfl underlying41 aQ aW aU aR rfl (v:=Aa A es.length cap) (l:=es) rfl (Ox.below qH) rfl (Rd.one Gd _ _ ⟨q3.1,1+q2.1⟩ rfl rfl 1 (Bs _) (Nat.lt_succ_self _)) Bl Bn Bp (by simp;omega) ?_;intro v5 w5 o5 g5 f5;obtain ⟨A5,c5,rfl,-⟩:=id (Rd.of_own o5);have P5:=(Px.below qH).far g5 aE.out;have pf5:=P5.free;have pc5:=P5.cells)
       have dM:∀ g,(Value.slice A es.length cap).ownBlock=Ad g->pb<g:=fun g hg=>by have:=Ox.within g hg;omega
       have e9:9 - k=10 - (k+1):=Bl;refine ⟨⟨k+1,es ++ [⟨q3.1,1+q2.1⟩],_,q3.2,Bl,by go_num,by simp;omega,((kx.below qH).grownNew g5 (fun g hg=>by have:=dM g hg;omega)).setNew (by show b<pb;omega) _,P5.setEdges _ _,(by have:=o5.setLow (a:=⟨pb,4,Ac⟩) (Nat.lt_succ_self pb) (Aa A5 (es.length+1) c5);simp only [Bd,List.length_singleton] at this;exact this),((Cx.belowNew qH).grownNew g5 (fun g hg=>by have:=dM g hg;omega)).setNew (by show w.heap.size<=pb;omega),((Rx.below qH).far g5 (fun e=>by have:=dM _ e.symm;omega)).other (by show w.heap.size≠pb;omega) _,?_⟩,clM⟩;show Jy code T (10 - (k+1)) (k+1) (es ++ [⟨q3.1,1+q2.1⟩]) q3.2=_
       have:=GO.out _ rfl
       rw [S.out] at this;rw [this,e9]
      ·have S:Hid (Yq es ⟨q3.1,1+q2.1⟩=es):=by
        show Yq _ _=_;unfold Yq;rw [if_pos (of_decide_eq_true hd)]
       clear hd H1';go_wp2;refine ⟨⟨k+1,es,_,q3.2,Bl,by go_num,Bl,kd.drewN _,Pd.drewN _,Od.below (Du (Br _ _) _),Cd.drewN _,Re.drewN _,?_⟩,clM⟩;show Jy code T (10 - (k+1)) (k+1) es q3.2=_
       have:=GO.out _ rfl
       rw [S.out] at this;rw [this];congr 1;omega
   ·have GE:Hid (Jy code T 10 0 [] r5.2=(es,q1.2)):=by
     show Jy code T 10 0 [] r5.2=(es,q1.2)
     rw [<-G.out,show 10 - k=(9 - k)+1 by omega,Jy,if_neg (by rw [Hq1.out];exact hgo),Hq1.out]
    have E:=Bq (HE.out _ GE.out);obtain ⟨A,cap,rfl,-⟩:=id (Rd.of_own Oa);clear HE G Hq1 GE hk mG;have dK:∀ W,W=((((wa.setCell ⟨w,0,Ac⟩ (J Ab r1.1)).setCell ⟨w,1,Ac⟩ (J Ab (1+r2.1))).setCell ⟨w,2,Ac⟩ (J Ab (1+r3.1))).setCell ⟨w,3,Ac⟩ (J Ab T)).setCell ⟨w,4,Ac⟩ (Aa A es.length cap) ->
      Ai1 b v code (Hu code c) w (.returned (Gl ⟨r1.1,1+r2.1,1+r3.1,T,es⟩ (Aa A es.length cap))) W:=by
     rintro W rfl;rw [E.out];have hO:∀ {W:World},Ow Gd 206 W (pb+1) (Aa A es.length cap) es -> ∀ j u',Ow Gd 206 (W.setCell ⟨w,j,Ac⟩ u') (pb+1) (Aa A es.length cap) es:=fun h j u'=>h.setLow (a:=⟨w,j,Ac⟩) (Nat.lt_succ_of_lt R4s) _;refine ⟨_,rfl,(hO (hO (hO (hO (hO Oa 0 _) 1 _) 2 _) 3 _) 4 _).more Bl,?_,?_⟩
     ·repeat (first | exact ka | refine Drw.setNew ?_ (by simp;omega) _)
     ·repeat (first | exact Ca | refine Chg.setNew ?_ Bn)
    by_cases g1:(k:Int)<q1.1
    ·have g2:¬ 1<T:=fun h=>hgo ⟨g1,h⟩;clear hgo;go_wp2;refine bodyPost_ret (v:=Gl ⟨r1.1,1+r2.1,1+r3.1,T,es⟩ (Aa A es.length cap)) ?_ rfl (dK _ rfl);simp [Gl,results,results83,go_sem, *]
    ·clear hgo;go_wp2;refine bodyPost_ret (v:=Gl ⟨r1.1,1+r2.1,1+r3.1,T,es⟩ (Aa A es.length cap)) ?_ rfl (dK _ rfl);simp [Gl,results,results83,go_sem, *]
theorem Zg (l:List Nat):l.flatMap En.cells=(l.map fun (x:Nat)=>(x:Int)).map (Value.int .i64):=by
 induction l with
 | nil=>rfl
 | cons a l ih=>rw [List.flatMap_cons,ih];rfl
theorem Aee {l l':List Nat} (hp:l'.Perm l) (hs:l'.Pairwise (· <= ·)):((l.map fun (x:Nat)=>(x:Int)).mergeSort fun x y=>decide (x<=y))=l'.map fun (x:Nat)=>(x:Int):=by
 have h1:=List.mergeSort_perm (l.map fun (x:Nat)=>(x:Int)) (fun x y=>decide (x<=y));have h2:=List.pairwise_mergeSort (le:=fun x y:Int=>decide (x<=y)) (fun a b c h1 h2=>by simp at *;omega) (fun a b=>by simp;omega) (l.map fun (x:Nat)=>(x:Int));have h3:(l'.map fun (x:Nat)=>(x:Int)).Pairwise (fun x y=>decide (x<=y)=true):=by
  rw [List.pairwise_map];exact hs.imp (fun h=>by simpa using h)
 refine List.Perm.eq_of_pairwise (le:=fun x y=>decide (x<=y)=true) ?_ h2 h3 (h1.trans (hp.symm.map _));intro a b _ _ h h';simp at h h';omega
theorem Tx (v:Value) (l l':List Nat) (base:Nat) (w:World) (hl:l.length<=2000000) (hp:l'.Perm l) (hs:l'.Pairwise (· <= ·)) (ho:Ow En 3 w base v l) :
  Calls An 302 #[v] w fun e w'=>e = .returned (.tuple #[])/\Ow En 3 w' base v l'/\w.grownBy w' v.ownBlock:=by
 rcases ho.2 with ⟨rfl,hn⟩ | ⟨g,cap,cur,rfl,hg,hh,hc,hm,bJ,ht⟩
 ·have rT:l=[]:=List.eq_nil_of_length_eq_zero hn;subst rT;have:l'=[]:=List.Perm.eq_nil hp;subst this;refine (Tryz.slices_Sort_int_none Ac 0 w).mono ?_;rintro e w' ⟨he,rfl⟩;exact ⟨he,ho,World.grownBy.refl _ _⟩
 ·have eJ:(l.map fun (x:Nat)=>(x:Int)).length=l.length:=Au _;have eI:cur.toList.take (l.map fun (x:Nat)=>(x:Int)).length=(l.map fun (x:Nat)=>(x:Int)).map (Value.int .i64):=by
   rw [eJ,<-Zg,<-ht];simp [En]
  have hH:=holds_of_blockI hh eI;have rM:g<w:=(Array.getElem?_eq_some_iff.1 hh).1;have h:=Tryz.slices_Sort_int g 0 cap (l.map fun (x:Nat)=>(x:Int)) w hH rM (by rw [eJ];omega);rw [eJ] at h;refine h.mono ?_;rintro e w' ⟨he,n,os,rfl⟩;rw [Aee hp hs];refine ⟨he,?_,grownBy_sortedI _⟩;have aK:l'.length=l.length:=hp.length_eq
  have:=ownsRow_sortedI (n:=n) (os:=os) (ss:=l.map fun (x:Nat)=>(x:Int)) (ts:=l'.map fun (x:Nat)=>(x:Int)) (by simp [aK]) hg hh (by rw [eJ];exact hc) hm bJ
  unfold Ow;rw [aK,Zg];rw [eJ] at this;exact this
theorem V5 (es:List (Nat×Nat)) (T t:Nat):(Dv es T t).Pairwise (· <= ·):=(List.pairwise_lt_range.imp (fun h=>Nat.le_of_lt h)).filter _
theorem V6 (es:List (Nat×Nat)) (T t:Nat):(D9 es T t).Pairwise (· <= ·):=(List.pairwise_lt_range.imp (fun h=>Nat.le_of_lt h)).filter _
def Ji (es:List (Nat×Nat)) (t:Nat):List Nat:=(es.filter fun e=>decide (e.2=t)).map (·.1)
def O7 (es:List (Nat×Nat)) (t:Nat):List Nat:=(es.filter fun e=>decide (e.1=t)).map (·.2)
theorem V7 (es:List (Nat×Nat)) (t:Nat):(Ji es t).length<=es.length:=by
 simp only [Ji,Au];exact List.length_filter_le _ _
theorem Ab5 (es:List (Nat×Nat)) (t:Nat):(O7 es t).length<=es.length:=by
 simp only [O7,Au];exact List.length_filter_le _ _
theorem Aef {l l':List (Nat×Nat)} {a d:Nat} (h:l'=l ++ [(a,d)]):Ji l' d=Ji l d ++ [a]:=by
 subst h;simp [Ji,List.filter_append]
theorem Ahk {l l':List (Nat×Nat)} {a d:Nat} (h:l'=l ++ [(a,d)]):O7 l' a=O7 l a ++ [d]:=by
 subst h;simp [O7,List.filter_append]
theorem Af4 {l l':List (Nat×Nat)} {a d t:Nat} (h:l'=l ++ [(a,d)]) (hx:¬ d=t):Ji l' t=Ji l t:=by
 subst h;simp [Ji,List.filter_append,hx]
theorem Ain {l l':List (Nat×Nat)} {a d t:Nat} (h:l'=l ++ [(a,d)]) (hx:¬ a=t):O7 l' t=O7 l t:=by
 subst h;simp [O7,List.filter_append,hx]
theorem V8 {p:Plan} (he:Ht p) (hn:p.edges.Nodup):(Dr p).Nodup:=by
 unfold Dr esL;show List.Pairwise _ _;rw [List.pairwise_map];refine List.Pairwise.imp_of_mem ?_ hn;intro x y hx hy aE e;have h1:=he x hx;have h2:=he y hy;simp only [I9,Bool.and_eq_true,Ct] at h1 h2;simp only [Prod.mk.injEq] at e;apply aE;cases x;cases y;simp only [Edge.mk.injEq] at *
 omega
theorem Ab6 {p:Plan} (he:Ht p) (hn:p.edges.Nodup) (t:Nat):(Dv (Dr p) p.tasks.toNat t).Perm (Ji (Dr p) t):=by
 refine (List.perm_ext_iff_of_nodup (List.nodup_range.filter _) ?_).2 ?_
 ·unfold Ji;show List.Pairwise _ _;rw [List.pairwise_map];refine List.Pairwise.imp_of_mem ?_ ((V8 he hn).filter _);intro x y hx hy aE e;simp only [List.mem_filter,decide_eq_true_eq] at hx hy;exact aE (Prod.ext e (hx.2.trans hy.2.symm))
 ·intro x;simp only [Ji,List.mem_filter,List.mem_range,decide_eq_true_eq,List.mem_map,Prod.exists];constructor
  ·rintro ⟨_,h⟩;exact ⟨x,t,⟨h,rfl⟩,rfl⟩
  ·rintro ⟨a,b,⟨h,rfl⟩,rfl⟩;exact ⟨(Lv he).1 _ h,h⟩
theorem Af5 {p:Plan} (he:Ht p) (hn:p.edges.Nodup) (t:Nat):(D9 (Dr p) p.tasks.toNat t).Perm (O7 (Dr p) t):=by
 refine (List.perm_ext_iff_of_nodup (List.nodup_range.filter _) ?_).2 ?_
 ·unfold O7;show List.Pairwise _ _;rw [List.pairwise_map];refine List.Pairwise.imp_of_mem ?_ ((V8 he hn).filter _);intro x y hx hy aE e;simp only [List.mem_filter,decide_eq_true_eq] at hx hy;exact aE (Prod.ext (hx.2.trans hy.2.symm) e)
 ·intro x;simp only [O7,List.mem_filter,List.mem_range,decide_eq_true_eq,List.mem_map,Prod.exists];constructor
  ·rintro ⟨_,h⟩;exact ⟨t,x,⟨h,rfl⟩,rfl⟩
  ·rintro ⟨a,b,⟨h,rfl⟩,rfl⟩;exact ⟨(Lv he).2 _ h,h⟩
theorem O8 (p:Plan) (ve:Value) (t:Nat) (w:World) (hf:Cr p=0) (h:Rd Gd w w ve p.edges) :
  Calls An 272 #[Gl p ve,J Ab (t:Int)] w fun e w'=>∃ v,e = .returned v/\Ow En 3 w' w v (Dv (Dr p) p.tasks.toNat t)/\Below w w w':=by
 obtain ⟨A,c,rfl,-⟩:=id h;have G:=Bq (Cs.1 hf);have aK:=Es G.out.1;have hl:p.edges.length<=2000000:=Bl;have hfb:(Cr p != 0)=false:=by simp [hf]
 clear hf;obtain ⟨j0,bZ,jz0,jz1,jz2⟩:=info_parts Kg;have dJ:=Lc 43 p (Aa A p.edges.length c) w;have D0:=BoxAt.new 43 p (Aa A p.edges.length c) w;have tQ:=Fw 43 p (Aa A p.edges.length c) w;have Hw0:=Bq tQ;clear tQ;unfold Gl;go_enter func272,ntmps272;go_wp2_with fail
 refine (H9 p _ _ hl ((h.below dJ).more dJ.size)).mono ?_;rintro e w1 ⟨rfl,aZ⟩;have D:=D0.below aZ;have hb:=Bv dJ aZ;obtain ⟨x0,x1,x2,x3,x4,xs⟩:=D.cells;go_wp2;clear x0 x1 x2 x3 x4;go_loopw [5,14] (fun vl i wr=>∃ k:Nat,k<=p.edges.length/\i = J Ab k/\Ow En 3 wr (w+1) vl (Ji (esL (p.edges.take k)) t)/\Below w w wr/\w.heap.size<wr.heap.size) (fun _ i _=>p.edges.length - (intOf i).toNat);case atStart=>exact ⟨0,Ah _,rfl,by simpa [Ji,esL] using Ow.nil En 3 w1 (w.heap.size+1),hb,xs⟩
 case round =>
  clear D hb aZ D0 xs;obtain ⟨k,hk,rfl,ho,hb,bJ⟩:=hrel;by_cases aB:k<p.edges.length
  ·have aC:(k:Int)<(p.edges.length:Int):=Bl;obtain ⟨b,o,rfl,aH,c0,c1⟩:=(h.below hb).edge aB;obtain ⟨f1,f2,f3,f4⟩:=H8 G.out.2.1 aB;have cU:=Bq (show esL (p.edges.take (k+1))=esL (p.edges.take k) ++ [(p.edges[k].fr.toNat,p.edges[k].to.toNat)] by unfold esL;rw [Cy _ k aB,List.map_append];rfl);generalize p.edges[k].fr=fx at *
   generalize p.edges[k].to=tx at *
   obtain ⟨a,rfl⟩:=Aq f1;obtain ⟨d,rfl⟩:=Aq f3;simp only [Ap] at cU;by_cases hx:d=t
   ·subst hx;have S:=Bq (Aef (l:=esL (p.edges.take k)) cU.out);have Hl:=Bq (show (Ji (esL (p.edges.take k)) d).length<=3000000 by
     have h1:=V7 (esL (p.edges.take k)) d;rw [Nw,A0] at h1;omega)
    have jU:((d:Int) == (d:Int))=true:=Bn;have ha:Hid (∀ w:World,Below w w ((w.alloc (.cells #[J Ab (a:Int),J Ab (d:Int)] 206)).alloc (.cells #[J Ab (a:Int)] 3))):=fun w=>(Bt).alloc Bn _;go_wp2_with (at_builtin;refine Cj _ En Bp rfl (.tmp 22) (.tmp 25) rfl underlying26 bZ jz0 jz1 jz2 rfl (l:=Ji (esL (p.edges.take k)) d) rfl (ho.below (ha.out wr)) rfl (Rd.one En _ _ a Bn rfl 1 (Bs _) (Nat.lt_succ_self _)) Hl.out Bn Bp (by simp;omega) ?_;intro v5 w5 o5 g5 _)
    have bH:=Bv hb (ha.out wr);have W5:=bH.grown g5 bH.size (fun g hg=>by have:=ho.within _ hg;omega);have pR:=g5.size;simp only [Bj] at pR;refine ⟨⟨k+1,Bl,by go_num,?_,W5,Bl⟩,clM⟩;rw [S.out];exact o5
   ·have S:=Bq (Af4 (l:=esL (p.edges.take k)) (t:=t) cU.out hx);have jU:((d:Int) == (t:Int))=false:=beq_eq_false_iff_ne.2 Bl;have ha:Hid (∀ w:World,Below w w (w.alloc (.cells #[J Ab (a:Int),J Ab (d:Int)] 206))):=fun w=>Bt;clear hx;go_wp2;refine ⟨⟨k+1,Bl,by go_num,?_,Bv hb (ha.out wr),by simp;omega⟩,clM⟩;rw [S.out];exact ho.below (ha.out wr)
  ·have aC:¬ (k:Int)<(p.edges.length:Int):=Bl;have bE:k=p.edges.length:=Bl;subst bE;rw [List.take_length] at ho;go_wp2_with fail
   have hL:(Ji (Dr p) t).length<=2000000:=by
    have h1:=V7 (Dr p) t;unfold Dr at h1 ⊢;rw [Nw] at h1;omega
   refine (Tx _ (Ji (Dr p) t) (Dv (Dr p) p.tasks.toNat t) _ _ hL (Ab6 G.out.2.1 G.out.2.2.1 t) (V5 _ _ _) ho).mono ?_;rintro e w2 ⟨rfl,o2,g2⟩;have aJ:=hb.grown g2 hb.size (fun g hg=>by have:=ho.within _ hg;omega);go_wp2;go_ret;exact ⟨_,rfl,o2.more Bl,aJ⟩
theorem V9 (p:Plan) (ve:Value) (t:Nat) (w:World) (hf:Cr p=0) (h:Rd Gd w w ve p.edges) :
  Calls An 277 #[Gl p ve,J Ab (t:Int)] w fun e w'=>∃ v,e = .returned v/\Ow En 3 w' w v (D9 (Dr p) p.tasks.toNat t)/\Below w w w':=by
 obtain ⟨A,c,rfl,-⟩:=id h;have G:=Bq (Cs.1 hf);have aK:=Es G.out.1;have hl:p.edges.length<=2000000:=Bl;have hfb:(Cr p != 0)=false:=by simp [hf]
 clear hf;obtain ⟨j0,bZ,jz0,jz1,jz2⟩:=info_parts Kg;have dJ:=Lc 43 p (Aa A p.edges.length c) w;have D0:=BoxAt.new 43 p (Aa A p.edges.length c) w;have tQ:=Fw 43 p (Aa A p.edges.length c) w;have Hw0:=Bq tQ;clear tQ;unfold Gl;go_enter func277,ntmps277;go_wp2_with fail
 refine (H9 p _ _ hl ((h.below dJ).more dJ.size)).mono ?_;rintro e w1 ⟨rfl,aZ⟩;have D:=D0.below aZ;have hb:=Bv dJ aZ;obtain ⟨x0,x1,x2,x3,x4,xs⟩:=D.cells;go_wp2;clear x0 x1 x2 x3 x4;go_loopw [5,14] (fun vl i wr=>∃ k:Nat,k<=p.edges.length/\i = J Ab k/\Ow En 3 wr (w+1) vl (O7 (esL (p.edges.take k)) t)/\Below w w wr/\w.heap.size<wr.heap.size) (fun _ i _=>p.edges.length - (intOf i).toNat);case atStart=>exact ⟨0,Ah _,rfl,by simpa [O7,esL] using Ow.nil En 3 w1 (w.heap.size+1),hb,xs⟩
 case round =>
  clear D hb aZ D0 xs;obtain ⟨k,hk,rfl,ho,hb,bJ⟩:=hrel;by_cases aB:k<p.edges.length
  ·have aC:(k:Int)<(p.edges.length:Int):=Bl;obtain ⟨b,o,rfl,aH,c0,c1⟩:=(h.below hb).edge aB;obtain ⟨f1,f2,f3,f4⟩:=H8 G.out.2.1 aB;have cU:=Bq (show esL (p.edges.take (k+1))=esL (p.edges.take k) ++ [(p.edges[k].fr.toNat,p.edges[k].to.toNat)] by unfold esL;rw [Cy _ k aB,List.map_append];rfl);generalize p.edges[k].fr=fx at *
   generalize p.edges[k].to=tx at *
   obtain ⟨a,rfl⟩:=Aq f1;obtain ⟨d,rfl⟩:=Aq f3;simp only [Ap] at cU;by_cases hx:a=t
   ·subst hx;have S:=Bq (Ahk (l:=esL (p.edges.take k)) cU.out);have Hl:=Bq (show (O7 (esL (p.edges.take k)) a).length<=3000000 by
     have h1:=Ab5 (esL (p.edges.take k)) a;rw [Nw,A0] at h1;omega)
    have jU:((a:Int) == (a:Int))=true:=Bn;have ha:Hid (∀ w:World,Below w w ((w.alloc (.cells #[J Ab (a:Int),J Ab (d:Int)] 206)).alloc (.cells #[J Ab (d:Int)] 3))):=fun w=>(Bt).alloc Bn _;go_wp2_with (at_builtin;refine Cj _ En Bp rfl (.tmp 22) (.tmp 25) rfl underlying26 bZ jz0 jz1 jz2 rfl (l:=O7 (esL (p.edges.take k)) a) rfl (ho.below (ha.out wr)) rfl (Rd.one En _ _ d Bn rfl 1 (Bs _) (Nat.lt_succ_self _)) Hl.out Bn Bp (by simp;omega) ?_;intro v5 w5 o5 g5 _)
    have bH:=Bv hb (ha.out wr);have W5:=bH.grown g5 bH.size (fun g hg=>by have:=ho.within _ hg;omega);have pR:=g5.size;simp only [Bj] at pR;refine ⟨⟨k+1,Bl,by go_num,?_,W5,Bl⟩,clM⟩;rw [S.out];exact o5
   ·have S:=Bq (Ain (l:=esL (p.edges.take k)) (t:=t) cU.out hx);have jU:((a:Int) == (t:Int))=false:=beq_eq_false_iff_ne.2 Bl;have ha:Hid (∀ w:World,Below w w (w.alloc (.cells #[J Ab (a:Int),J Ab (d:Int)] 206))):=fun w=>Bt;clear hx;go_wp2;refine ⟨⟨k+1,Bl,by go_num,?_,Bv hb (ha.out wr),by simp;omega⟩,clM⟩;rw [S.out];exact ho.below (ha.out wr)
  ·have aC:¬ (k:Int)<(p.edges.length:Int):=Bl;have bE:k=p.edges.length:=Bl;subst bE;rw [List.take_length] at ho;go_wp2_with fail
   have hL:(O7 (Dr p) t).length<=2000000:=by
    have h1:=Ab5 (Dr p) t;unfold Dr at h1 ⊢;rw [Nw] at h1;omega
   refine (Tx _ (O7 (Dr p) t) (D9 (Dr p) p.tasks.toNat t) _ _ hL (Af5 G.out.2.1 G.out.2.2.1 t) (V6 _ _ _) ho).mono ?_;rintro e w2 ⟨rfl,o2,g2⟩;have aJ:=hb.grown g2 hb.size (fun g hg=>by have:=ho.within _ hg;omega);go_wp2;go_ret;exact ⟨_,rfl,o2.more Bl,aJ⟩
abbrev Aio (l:List UInt8):Value:=.string ⟨l.toArray⟩
def Ny (n:Nat):List UInt8:=if h:n<128 then [UInt8.ofNat n] else UInt8.ofNat (n % 128+128) :: Ny (n / 128)
termination_by n
decreasing_by omega
def Eo (n:Int):List UInt8:=if inB n 0 1000000000 then Ny n.toNat else []
theorem Ahl (n k:Nat) (h:n<128 ^ (k+1)):(Ny n).length<=k+1:=by
 induction k generalizing n with
 | zero=>rw [Ny,dif_pos (by simpa using h)];simp
 | succ k ih =>
  rw [Ny];split
  ·simp
  ·rw [List.length_cons]
   have:=ih (n / 128) (by rw [Nat.div_lt_iff_lt_mul Bp];rw [Nat.pow_succ] at h;exact h)
   omega
theorem Ty (n:Int):(Eo n).length<=5:=by
 unfold Eo;split
 ·rename_i h;refine Ahl _ 4 ?_;simp [inB] at h;omega
 ·simp
theorem Zh:(An.info? 5).map (fun i=>(i.zero,i.size,i.bytes))=Ad (Ad (.int .u8 0),1,1):=Bm
def Aff (l:List UInt8) (w:World) (e:Ending) (w':World):Prop:=e = .returned (Aio l)/\Below w w w'
theorem Rz {base n c:Nat} {A:Option Addr} {l:List UInt8} {w:World} (h:Ow Jx 5 w base (Aa A n c) l) :
  (convert 22 9 (Aa A n c)).run An w = .ok (Aio l) w:=by
 rcases h.form with ⟨h1,rfl⟩ | ⟨g,cap,h1,_,_,_,_,_,hc⟩
 ·simp only [Value.slice.injEq] at h1;obtain ⟨rfl,rfl,rfl⟩:=h1;rw [run_convert_bytes_string w _ _ 5 Ac 0 0 underlying22 underlying5 underlying9];rfl
 ·simp only [Value.slice.injEq] at h1;obtain ⟨rfl,rfl,rfl⟩:=h1;exact run_convert_bytes_back (P:=An) w 22 9 5 ⟨g,0,Ac⟩ c l underlying22 underlying5 underlying9 (fun j hj=>by
   have:=hc j hj 0 _ rfl
   have e:(⟨g,0,Ac⟩:Addr).add j=⟨g,j,Ac⟩:=by unfold Addr.add;split<;>simp_all
   rw [e];simpa [Jx] using this)
theorem Ps (w:World) (n:Int) (x:UInt8) (h:(x.toNat:Int)=n) (T:TypeId):∀ (j:Nat) (u:Value),(Jx.cells x)[j]? = Ad u->(w.alloc (.cells #[.int .u8 n] T)).cell? ((⟨w,0,Ac⟩:Addr).add j)=Ad u:=by
 subst h;exact Oq _ #[_] _ Bn
theorem U0 (n:Int) (w:World) :
  Calls An 121 #[J Ab n] w (Aff (Eo n) w):=by
 by_cases hi:inB n 0 1000000000=true;case neg =>
  have hif:inB n 0 1000000000=false:=by simpa using hi
  have H:=Bq (show Eo n=[] by unfold Eo;rw [if_neg hi]);go_enter func121,ntmps121;go_wp2_with (go_at_call 72;refine (Cq _ _ _ _).mono ?_;rintro e w3 ⟨rfl,rfl⟩)
  go_ret;exact ⟨by rw [H.out];rfl,Br _ _⟩
 obtain ⟨i0,aQ,aW,aU,aR⟩:=info_parts Zh;have hV:=Bq (show Eo n=Ny n.toNat by unfold Eo;rw [if_pos hi]);have uS:0<=n/\n<=1000000000:=by simpa [inB] using hi
 go_enter func121,ntmps121;go_wp2_with (go_at_call 72;refine (Cq _ _ _ _).mono ?_;rintro e w3 ⟨rfl,rfl⟩)
 go_loopw [0,3] (fun q x wr=>∃ (m:Nat) (l:List UInt8) (v:Value),Hid (l ++ Ny m=Ny n.toNat)/\Hid (∃ k,m<128 ^ k/\l.length+k=5)/\m<=1000000000/\q = J Ab m/\v=x/\Hid (Ow Jx 5 wr w v l)/\Below w w wr) (fun q _ _=>(intOf q).toNat);case atStart=>exact ⟨n.toNat,[],_,rfl,⟨5,Bl,rfl⟩,Bl,by rw [Int.toNat_of_nonneg Bl],rfl,Ow.nil _ _ _ _,Br _ _⟩
 case round =>
  obtain ⟨m,l,v,hl,aK,hm,rfl,rfl,hO,hb⟩:=hrel;have eJ:l.length<=5:=by obtain ⟨k,_,hk⟩:=aK.out;omega
  by_cases h8:m<128
  ·have h8':¬ (128:Int)<=(m:Int):=Bl;have hv:((UInt8.ofNat m).toNat:Int)=(m:Int):=by simp;omega
   have H:=Bq (show Eo n=l ++ [UInt8.ofNat m] by rw [hV.out,<-hl.out,Ny,dif_pos h8]);go_wp2_with (at_builtin;refine Lf (v:=v) Jx Bp rfl (.tmp 18) (.tmp 21) rfl underlying22 aQ aW aU aR rfl (UInt8.ofNat m) rfl (hO.out.below ((Br wr wr).alloc Bn _)) ⟨wr,0,Ac⟩ 1 rfl (Ps _ _ _ hv _) Bl Bp (by have:=hb.size;simp;omega) ?_;intro v5 w5 o5 g5;obtain ⟨A9,c9,rfl,-⟩:=id (Rd.of_own o5);simp only [Bd,List.length_singleton] at o5;have cv:=Rz o5;have dM:=(hb.alloc hb.size (.cells #[.int .u8 ((m:Int))] 5)).grown g5 (by have:=hb.size;simp;omega) (fun g hg=>(hO.out.within g hg).1))
   go_ret;exact ⟨by rw [H.out];rfl,dM⟩
  ·have h8':(128:Int)<=(m:Int):=Bl;have eS:=Bq (show ∃ k,m / 128<128 ^ k/\(l ++ [UInt8.ofNat (m % 128+128)]).length+k=5 by
    obtain ⟨k,hk,bE⟩:=aK.out;obtain ⟨k,rfl⟩:∃ k',k=k'+1:=by
     cases k with
     | zero=>simp at hk;omega
     | succ k=>exact ⟨k,rfl⟩
    refine ⟨k,?_,?_⟩
    ·rw [Nat.div_lt_iff_lt_mul Bp,<-Nat.pow_succ];exact hk
    ·rw [Bd,List.length_singleton];omega)
   have hv:((UInt8.ofNat (m % 128+128)).toNat:Int)=(m:Int) % 128+128:=by simp;omega
   have S:Hid ((l ++ [UInt8.ofNat (m % 128+128)]) ++ Ny (m / 128)=Ny n.toNat):=by
    show _=_;rw [<-hl.out,List.append_assoc];conv=>rhs;rw [Ny,dif_neg h8]
    rfl
   go_wp2_with (at_builtin;refine Lf (v:=v) Jx Bp rfl (.tmp 9) (.tmp 14) rfl underlying22 aQ aW aU aR rfl (UInt8.ofNat (m % 128+128)) rfl (hO.out.below ((Br wr wr).alloc Bn _)) ⟨wr,0,Ac⟩ 1 rfl (Ps _ _ _ hv _) Bl Bp (by have:=hb.size;simp;omega) ?_;intro v5 w5 o5 g5;obtain ⟨A9,c9,rfl,-⟩:=id (Rd.of_own o5);simp only [Bd,List.length_singleton] at o5;have cv:=Rz o5;have dM:=(hb.alloc hb.size (.cells #[.int .u8 ((m:Int) % 128+128)] 5)).grown g5 (by have:=hb.size;simp;omega) (fun g hg=>(hO.out.within g hg).1))
   exact ⟨⟨m / 128,_,_,S,eS,Bl,by go_num,rfl,o5,dM⟩,clM⟩
theorem U1 (n:Int) (w:World) :
  Calls An 306 #[J Ab n] w (Aff (Eo n) w):=by
 by_cases hi:inB n 0 1000000000=true;case neg =>
  have hif:inB n 0 1000000000=false:=by simpa using hi
  have H:=Bq (show Eo n=[] by unfold Eo;rw [if_neg hi]);go_enter func306,ntmps306;go_wp2_with (go_at_call 90;refine (Cl _ _ _ _).mono ?_;rintro e w3 ⟨rfl,rfl⟩)
  go_ret;exact ⟨by rw [H.out];rfl,Br _ _⟩
 obtain ⟨i0,aQ,aW,aU,aR⟩:=info_parts Zh;have hV:=Bq (show Eo n=Ny n.toNat by unfold Eo;rw [if_pos hi]);have uS:0<=n/\n<=1000000000:=by simpa [inB] using hi
 go_enter func306,ntmps306;go_wp2_with (go_at_call 90;refine (Cl _ _ _ _).mono ?_;rintro e w3 ⟨rfl,rfl⟩)
 go_loopw [0,3] (fun q x wr=>∃ (m:Nat) (l:List UInt8) (v:Value),Hid (l ++ Ny m=Ny n.toNat)/\Hid (∃ k,m<128 ^ k/\l.length+k=5)/\m<=1000000000/\q = J Ab m/\v=x/\Hid (Ow Jx 5 wr w v l)/\Below w w wr) (fun q _ _=>(intOf q).toNat);case atStart=>exact ⟨n.toNat,[],_,rfl,⟨5,Bl,rfl⟩,Bl,by rw [Int.toNat_of_nonneg Bl],rfl,Ow.empty Jx 5 w (g:=w) Bn,Bt⟩
 case round =>
  obtain ⟨m,l,v,hl,aK,hm,rfl,rfl,hO,hb⟩:=hrel;have eJ:l.length<=5:=by obtain ⟨k,_,hk⟩:=aK.out;omega
  by_cases h8:m<128
  ·have h8':¬ (127:Int)<(m:Int):=Bl;have hv:((UInt8.ofNat m).toNat:Int)=(m:Int):=by simp;omega
   have H:=Bq (show Eo n=l ++ [UInt8.ofNat m] by rw [hV.out,<-hl.out,Ny,dif_pos h8]);go_wp2_with (at_builtin;refine Lf (v:=v) Jx Bp rfl (.tmp 19) (.tmp 22) rfl underlying22 aQ aW aU aR rfl (UInt8.ofNat m) rfl (hO.out.below ((Br wr wr).alloc Bn _)) ⟨wr,0,Ac⟩ 1 rfl (Ps _ _ _ hv _) Bl Bp (by have:=hb.size;simp;omega) ?_;intro v5 w5 o5 g5;obtain ⟨A9,c9,rfl,-⟩:=id (Rd.of_own o5);simp only [Bd,List.length_singleton] at o5;have cv:=Rz o5;have dM:=(hb.alloc hb.size (.cells #[.int .u8 ((m:Int))] 5)).grown g5 (by have:=hb.size;simp;omega) (fun g hg=>(hO.out.within g hg).1))
   go_ret;exact ⟨by rw [H.out];rfl,dM⟩
  ·have h8':(127:Int)<(m:Int):=Bl;have eS:=Bq (show ∃ k,m / 128<128 ^ k/\(l ++ [UInt8.ofNat (m % 128+128)]).length+k=5 by
    obtain ⟨k,hk,bE⟩:=aK.out;obtain ⟨k,rfl⟩:∃ k',k=k'+1:=by
     cases k with
     | zero=>simp at hk;omega
     | succ k=>exact ⟨k,rfl⟩
    refine ⟨k,?_,?_⟩
    ·rw [Nat.div_lt_iff_lt_mul Bp,<-Nat.pow_succ];exact hk
    ·rw [Bd,List.length_singleton];omega)
   have hv:((UInt8.ofNat (m % 128+128)).toNat:Int)=128+(m:Int) % 128:=by simp;omega
   have S:Hid ((l ++ [UInt8.ofNat (m % 128+128)]) ++ Ny (m / 128)=Ny n.toNat):=by
    show _=_;rw [<-hl.out,List.append_assoc];conv=>rhs;rw [Ny,dif_neg h8]
    rfl
   go_wp2_with (at_builtin;refine Lf (v:=v) Jx Bp rfl (.tmp 10) (.tmp 15) rfl underlying22 aQ aW aU aR rfl (UInt8.ofNat (m % 128+128)) rfl (hO.out.below ((Br wr wr).alloc Bn _)) ⟨wr,0,Ac⟩ 1 rfl (Ps _ _ _ hv _) Bl Bp (by have:=hb.size;simp;omega) ?_;intro v5 w5 o5 g5;obtain ⟨A9,c9,rfl,-⟩:=id (Rd.of_own o5);simp only [Bd,List.length_singleton] at o5;have cv:=Rz o5;have dM:=(hb.alloc hb.size (.cells #[.int .u8 (128+(m:Int) % 128)] 5)).grown g5 (by have:=hb.size;simp;omega) (fun g hg=>(hO.out.within g hg).1))
   exact ⟨⟨m / 128,_,_,S,eS,Bl,by go_num,rfl,o5,dM⟩,clM⟩
structure Yard where
 now:Int
 seq:Int
 shelf:List (List Entry)
 runs:List Run
deriving DecidableEq,Inhabited
@[go_sem] abbrev Dh (x:Yard) (s:Sl×Sl):Value:=.agg #[.int .i64 x.now,.int .i64 x.seq,.slice s.1.a s.1.n s.1.c,.slice s.2.a s.2.n s.2.c]
abbrev Bu:Dt Yard:=Dt.two (Dt.list (Dt.list Ch)) (Dt.list Cn) (·.shelf) (·.runs) (fun q=>[.int .i64 q.1.now,.int .i64 q.1.seq,.slice q.2.1.a q.2.1.n q.2.1.c,.slice q.2.2.a q.2.2.n q.2.2.c]) 4 (fun _=>rfl) (fun q u hu=>by simp at hu;rcases hu with rfl | rfl | rfl | rfl<;>rfl)
def Cf (x:Yard):Nat:=Kv Dp x.shelf+Kv Dc x.runs
theorem owB {w w':World} {F:List Nat} {y:Yard} {s:Sl×Sl} (h:Bu.ow w F y s) (hb:Below w w w'):Bu.ow w' F y s:=Bu.ow_below (F:=F) (x:=y) (s:=s) h hb
theorem owC {w w':World} {F G:List Nat} {y:Yard} {s:Sl×Sl} (h:Bu.ow w F y s) (hc:Chg G w w') (hd:∀ b∈F,b∉G):Bu.ow w' F y s:=Bu.ow_chg (F:=F) (x:=y) (s:=s) h hc hd
open Go.ChangeShapes Go.WideShapes Go.ChangeAt Go.RowKit Go.Deep
section
variable {H:Type} {enc:TypeId×Value->H} {w:World} {spare:Nat->Bool} {held:Bool} {fuel:Nat} {cs:List Value} {x:DataW H×List MemPlace}
theorem Ajk {a:Int} (h:(Lit.int .u8 a).wf=true):0<=a/\a<=255:=by
 simp [Lit.wf,IntKind.min,IntKind.max,IntKind.signed,IntKind.bits] at h;exact ⟨Bl,Bl⟩
theorem Aeg (h:DataW.trod enc An w 0 spare held fuel 22 cs=Ad x):∃ (v:Value) (l:List UInt8),cs=[v]/\Rd Jx w w v l/\l.length<=maxLen:=by
 obtain ⟨v,l,h1,h2,_,h3⟩:=Ad8 Jx (fun _=>True) underlying22 Bm Bp (fun n cs' y hy=>by
  obtain ⟨a0,e0,_,hw⟩:=DataW.trod_int underlying5 hy;have hb:=Ajk hw;refine ⟨UInt8.ofNat a0.toNat,?_,trivial⟩;rw [e0];have:((UInt8.ofNat a0.toNat).toNat:Int)=a0:=by
   rw [UInt8.toNat_ofNat'];omega
  show [Value.int .u8 a0]=[Value.int .u8 ((UInt8.ofNat a0.toNat).toNat:Int)]
  rw [this]) h
 exact ⟨v,l,h1,h2,h3⟩
end
structure Sst where
 out:List Slot
 ends:List Int
 busy:List Int
section
variable {es:List (Nat×Nat)} {T:Nat} {l:List Int} {m:Nat} {now:Int} {st:Sst}
/-! the next time -/
end
theorem Pt (a b:Nat) (ha:a<9223372036854775808) (hb:b<9223372036854775808):bits .xor .i64 (a:Int) (b:Int)=((a ^^^ b:Nat):Int):=by
 have hx:a ^^^ b<2 ^ 63:=Nat.xor_lt_two_pow Bl Bl;have h1:(BitVec.ofInt 64 (a:Int)).toNat=a:=by
  rw [BitVec.ofInt_natCast,BitVec.toNat_ofNat];exact Nat.mod_eq_of_lt Bl
 have h2:(BitVec.ofInt 64 (b:Int)).toNat=b:=by
  rw [BitVec.ofInt_natCast,BitVec.toNat_ofNat];exact Nat.mod_eq_of_lt Bl
 show Ab.wrap ((BitVec.ofInt 64 (a:Int) ^^^ BitVec.ofInt 64 (b:Int)).toNat:Int)=_;rw [BitVec.toNat_xor,h1,h2,IntKind.wrap_i64];generalize a ^^^ b=y at *
 have hy:y<9223372036854775808:=hx;clear h1 h2 hx;rw [Int.emod_eq_of_lt Bl Bl,Int.add_sub_cancel]
def Kl (x:Nat):Nat:=if x % 2=1 then (x / 2) ^^^ 3988292384 else x / 2
def Hp:Nat->Nat->Nat
 | 0,x=>x
 | k+1,x=>Kl (Hp k x)
def Ld (x:Nat) (b:UInt8):Nat:=Hp 8 (x ^^^ b.toNat)
def Lr (l:List UInt8):Int:=((l.foldl Ld 4294967295 ^^^ 4294967295:Nat):Int)
theorem Aeh {x:Nat} (h:x<4294967296):Kl x<4294967296:=by
 unfold Kl;split
 ·exact Nat.xor_lt_two_pow (n:=32) Bl Bl
 ·omega
theorem Ab7 (k:Nat) {x:Nat} (h:x<4294967296):Hp k x<4294967296:=by
 induction k with
 | zero=>exact h
 | succ k ih=>exact Aeh ih
theorem Aei {x:Nat} (h:x<4294967296) (b:UInt8):Ld x b<4294967296:=by
 have hb:b.toNat<256:=b.toNat_lt;exact Ab7 8 (Nat.xor_lt_two_pow (n:=32) h Bl)
theorem Aej (l:List UInt8):∀ {x:Nat},x<4294967296->l.foldl Ld x<4294967296:=by
 induction l with
 | nil=>intro x h;exact h
 | cons b l ih=>intro x h;exact ih (Aei h b)
theorem Ab8 (l:List UInt8):0<=Lr l/\Lr l<=4294967295:=by
 have h:l.foldl Ld 4294967295 ^^^ 4294967295<4294967296:=Nat.xor_lt_two_pow (n:=32) (Aej l Bl) Bl;unfold Lr;omega
theorem Yr (l:List UInt8) (w:World) (hl:l.length<=2000000) :
  Calls An 123 #[Aio l] w fun e w'=>e = .returned (J Ab (Lr l))/\Below w w w':=by
 have bJ:(⟨l.toArray⟩:ByteArray).size=l.length:=by simp [ByteArray.size]
 go_enter func123,ntmps123;go_wp2;go_loopw [3,4] (fun s i wr=>∃ (x k:Nat),k<=l.length/\x<4294967296/\s = J Ab x/\i = J Ab k/\Hid ((l.take k).foldl Ld 4294967295=x)/\Below w w wr) (fun _ i _=>l.length - (intOf i).toNat);case atStart=>exact ⟨4294967295,0,Ah _,Bp,rfl,rfl,by rw [List.take_zero];rfl,Br _ _⟩
 case round =>
  obtain ⟨x,k,hk,hx,rfl,rfl,hF,hb⟩:=hrel;by_cases aB:k<l.length
  ·have aC:(k:Int)<(l.length:Int):=Bl;have hc:l[k].toNat<256:=l[k].toNat_lt;have ex:=Pt x l[k].toNat Bl Bl;have hX0:x ^^^ l[k].toNat<4294967296:=Nat.xor_lt_two_pow (n:=32) hx Bl;have sY:bits .xor .i64 (x:Int) (wrap64 (((⟨l.toArray⟩:ByteArray)[k]'(by rw [bJ];exact aB)).toNat:Int))=((x ^^^ l[k].toNat:Nat):Int):=by
    rw [<-ex];congr 1;show wrap64 (l[k].toNat:Int)=_;generalize l[k].toNat=q at *
    unfold wrap64;omega
   have HF:=Bq (show (l.take (k+1)).foldl Ld 4294967295=Hp 8 (x ^^^ l[k].toNat) by
    rw [List.take_succ_eq_append_getElem aB,List.foldl_append,hF.out];rfl)
   clear hF;go_wp2;generalize x ^^^ l[k].toNat=z at *
   go_loopw [3,5] (fun s q wr=>∃ (y j:Nat),j<=8/\y<4294967296/\s = J Ab y/\q = J Ab j/\Hid (Hp j z=y)/\Below w w wr) (fun _ q _=>8 - (intOf q).toNat);case atStart=>exact ⟨z,0,Bl,hX0,by first | rfl | rw [sY],rfl,rfl,hb⟩
   case round =>
    clear hb;obtain ⟨y,j,hj,hy,rfl,rfl,hC,hb⟩:=hrel;by_cases hj8:j<8
    ·have hj8I:(j:Int)<8:=Bl;have eo:bits .xor .i64 ((y:Int) / 2) 3988292384=((y / 2 ^^^ 3988292384:Nat):Int):=by
      have:=Pt (y / 2) 3988292384 Bl Bl
      rw [<-this];congr 1<;>omega
     have aX:y / 2 ^^^ 3988292384<4294967296:=Nat.xor_lt_two_pow (n:=32) Bl Bl;by_cases ho:y % 2=1
     ·have hoI:(y:Int) % 2=1:=Bl;have HC:=Bq (show Hp (j+1) z=y / 2 ^^^ 3988292384 by
       show Kl (Hp j z)=_;rw [hC.out];unfold Kl;rw [if_pos ho])
      clear ho hC;go_wp2;exact ⟨⟨_,j+1,Bl,aX,rfl,by go_num,HC,hb⟩,clM⟩
     ·have hoI:(y:Int) % 2=0:=Bl;have HC:=Bq (show Hp (j+1) z=y / 2 by
       show Kl (Hp j z)=_;rw [hC.out];unfold Kl;rw [if_neg ho])
      clear ho hC;go_wp2;exact ⟨⟨y / 2,j+1,Bl,Bl,by go_num,by go_num,HC,hb⟩,clM⟩
    ·have HE:=Bq (show (l.take (k+1)).foldl Ld 4294967295=y by
      rw [HF.out,<-hC.out,show j=8 by omega])
     have hj8I:¬ (j:Int)<8:=Bl;clear hC HF;go_wp2;exact ⟨⟨y,k+1,Bl,hy,rfl,by go_num,HE,hb⟩,clM⟩
  ·have H:=Bq (show Lr l=((x ^^^ 4294967295:Nat):Int) by
    have:=hF.out
    rw [Bg Bl] at this;unfold Lr;rw [this])
   have ex:bits .xor .i64 (x:Int) 4294967295=((x ^^^ 4294967295:Nat):Int):=Pt x 4294967295 Bl Bl;go_wp2;go_ret;exact ⟨by rw [H.out];rfl,hb⟩
theorem Ys (l:List UInt8) (w:World) (hl:l.length<=2000000) :
  Calls An 307 #[Aio l] w fun e w'=>e = .returned (J Ab (Lr l))/\Below w w w':=by
 have bJ:(⟨l.toArray⟩:ByteArray).size=l.length:=by simp [ByteArray.size]
 go_enter func307,ntmps307;go_wp2;go_loopw [3,4] (fun s i wr=>∃ (x k:Nat),k<=l.length/\x<4294967296/\s = J Ab x/\i = J Ab k/\Hid ((l.take k).foldl Ld 4294967295=x)/\Below w w wr) (fun _ i _=>l.length - (intOf i).toNat);case atStart=>exact ⟨4294967295,0,Ah _,Bp,rfl,rfl,by rw [List.take_zero];rfl,Br _ _⟩
 case round =>
  obtain ⟨x,k,hk,hx,rfl,rfl,hF,hb⟩:=hrel;by_cases aB:k<l.length
  ·have aC:(k:Int)<(l.length:Int):=Bl;have hc:l[k].toNat<256:=l[k].toNat_lt;have ex:=Pt x l[k].toNat Bl Bl;have hX0:x ^^^ l[k].toNat<4294967296:=Nat.xor_lt_two_pow (n:=32) hx Bl;have sY:bits .xor .i64 (x:Int) (wrap64 (((⟨l.toArray⟩:ByteArray)[k]'(by rw [bJ];exact aB)).toNat:Int))=((x ^^^ l[k].toNat:Nat):Int):=by
    rw [<-ex];congr 1;show wrap64 (l[k].toNat:Int)=_;generalize l[k].toNat=q at *
    unfold wrap64;omega
   have HF:=Bq (show (l.take (k+1)).foldl Ld 4294967295=Hp 8 (x ^^^ l[k].toNat) by
    rw [List.take_succ_eq_append_getElem aB,List.foldl_append,hF.out];rfl)
   clear hF;go_wp2;generalize x ^^^ l[k].toNat=z at *
   go_loopw [3,5] (fun s q wr=>∃ (y j:Nat),j<=8/\y<4294967296/\s = J Ab y/\q = J Ab j/\Hid (Hp j z=y)/\Below w w wr) (fun _ q _=>8 - (intOf q).toNat);case atStart=>exact ⟨z,0,Bl,hX0,by first | rfl | rw [sY],rfl,rfl,hb⟩
   case round =>
    clear hb;obtain ⟨y,j,hj,hy,rfl,rfl,hC,hb⟩:=hrel;by_cases hj8:j<8
    ·have hj8I:(j:Int)<8:=Bl;have eo:bits .xor .i64 ((y:Int) / 2) 3988292384=((y / 2 ^^^ 3988292384:Nat):Int):=by
      have:=Pt (y / 2) 3988292384 Bl Bl
      rw [<-this];congr 1<;>omega
     have aX:y / 2 ^^^ 3988292384<4294967296:=Nat.xor_lt_two_pow (n:=32) Bl Bl;by_cases ho:y % 2=1
     ·have hoI:(y:Int) % 2=1:=Bl;have HC:=Bq (show Hp (j+1) z=y / 2 ^^^ 3988292384 by
       show Kl (Hp j z)=_;rw [hC.out];unfold Kl;rw [if_pos ho])
      clear ho hC;go_wp2;exact ⟨⟨_,j+1,Bl,aX,rfl,by go_num,HC,hb⟩,clM⟩
     ·have hoI:(y:Int) % 2=0:=Bl;have HC:=Bq (show Hp (j+1) z=y / 2 by
       show Kl (Hp j z)=_;rw [hC.out];unfold Kl;rw [if_neg ho])
      clear ho hC;go_wp2;exact ⟨⟨y / 2,j+1,Bl,Bl,by go_num,by go_num,HC,hb⟩,clM⟩
    ·have HE:=Bq (show (l.take (k+1)).foldl Ld 4294967295=y by
      rw [HF.out,<-hC.out,show j=8 by omega])
     have hj8I:¬ (j:Int)<8:=Bl;clear hC HF;go_wp2;exact ⟨⟨y,k+1,Bl,hy,rfl,by go_num,HE,hb⟩,clM⟩
  ·have H:=Bq (show Lr l=((x ^^^ 4294967295:Nat):Int) by
    have:=hF.out
    rw [Bg Bl] at this;unfold Lr;rw [this])
   have ex:bits .xor .i64 (x:Int) 4294967295=((x ^^^ 4294967295:Nat):Int):=Pt x 4294967295 Bl Bl;go_wp2;go_ret;exact ⟨by rw [H.out];rfl,hb⟩
end Go.Proofs.YtecnbnbopcblgaaGreat
