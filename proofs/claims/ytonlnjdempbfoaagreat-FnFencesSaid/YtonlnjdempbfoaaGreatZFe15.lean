/-
  What a deed leaves of a yard (plain): entries and runs that fit, and what it takes to keep them so. Deeds are drawn, and the yard behind them (l16Deeds). What a
-/
import Derived.Test.YtonlnjdempbfoaaGreatZFe3
import Derived.Test.YtonlnjdempbfoaaGreatZFe4
import Derived.Test.YtonlnjdempbfoaaGreatZFe8
import Derived.Test.YtonlnjdempbfoaaGreatZFe13
import Derived.Test.YtonlnjdempbfoaaGreatZFe14
namespace Go.Proofs.YtonlnjdempbfoaaGreat
open Go.RowKit
set_option maxRecDepth 100000
set_option maxHeartbeats 4000000
set_option linter.unusedVariables false
set_option linter.unusedSimpArgs false
open Value renaming int->J,slice->Aa
open IntKind renaming i64->U
open Option renaming none->Ab,some->Ac
open Go renaming bodyPost_ret->Aj
open Go.Proofs.Tryz renaming prog->An
open Int renaming toNat_natCast->Ap,eq_ofNat_of_zero_le->Aq
open List renaming length_map->Au,mem_singleton->Av,getElem_mem->Aw,nodup_append->Ax,length_append->A0,mem_append_right->Bd,mem_append_left->Be,length_set->Bg,mem_append->Bh
def Aaw (r:Run):Prop:=Gg r /\ ∀ t,t<r.tasks.length->(Bx r t).state=1->(Bx r t).try_<r.plan.most
def Lb (l:List Run):Nat:=(l.map fun r=>Dd r.tasks 2).sum
def Jh (r:Run):Nat:=if r.state=1 then r.tasks.length else 0
theorem Jr:∀ l:List Run,Fe l=(l.map Jh).sum
 | []=>rfl
 | r :: l=>by
  have ih:=Jr l;unfold Fe at *
  by_cases h:r.state=1
  ·simp [Jh,h,ih]
  ·simp [Jh,h,ih]
theorem Qw {α:Type} (f:α->Nat) (x:α):∀ (l:List α) (k:Nat) (hk:k<l.length),((l.set k x).map f).sum+f l[k]=(l.map f).sum+f x
 | a :: l,0,_=>by simp;omega
 | a :: l,k+1,hk=>by
  have:=Qw f x l k (by simpa using hk)
  simp only [List.set_cons_succ,List.map_cons,List.sum_cons,List.getElem_cons_succ];omega
def Afv (now:Int) (r:Run) (es:List Entry) (t:Nat):Prop :=
 ((Bx r t).state=2->(∀ e∈es,Fn r.id t e=true->e.prio=r.plan.prio)/\Dy r.id t es=1) /\
 ((Bx r t).state=1\/(Bx r t).state=3->Dy r.id t es=0) /\
 ((Bx r t).state=3->now+1<=(Bx r t).until_/\(Bx r t).until_<=now+r.plan.wait)
structure Core (now seq:Int) (es:List Entry) (runs:List Run):Prop where
 le8:runs.length<=8
 ids:(runs.map (·.id)).Nodup
 run:∀ r∈runs,Aaw r
 seqs:∀ e∈es,1<=e.seq/\e.seq<seq
 nodup:(es.map (·.seq)).Nodup
 home:∀ e∈es,∃ r∈runs,∃ t,t<r.tasks.length/\Fn r.id t e=true
 laid:∀ r∈runs,∀ t,t<r.tasks.length->Afv now r es t
 slots:Fe runs+es.length<=40+Lb runs
structure Sound (y:Yard):Prop where
 sh:Shelves y.shelf
 core:Core y.now y.seq y.shelf.flatten y.runs
theorem V6 {es es':List Entry} (h:es.Perm es') (id:Int) (t:Nat):Dy id t es=Dy id t es':=(h.filter _).length_eq
theorem Core.perm {now seq:Int} {es es':List Entry} {runs:List Run} (h:Core now seq es runs) (p:es.Perm es'):Core now seq es' runs :=
 ⟨h.le8,h.ids,h.run,fun e he=>h.seqs e (p.mem_iff.2 he),(p.map _).nodup_iff.1 h.nodup,fun e he=>h.home e (p.mem_iff.2 he),fun r hr t ht=>by
  obtain ⟨a,b,c⟩:=h.laid r hr t ht;refine ⟨fun hs=>⟨fun e he=>(a hs).1 e (p.mem_iff.2 he),by rw [<-V6 p];exact (a hs).2⟩,fun hs=>by rw [<-V6 p];exact b hs,c⟩,by rw [<-p.length_eq];exact h.slots⟩
theorem Oi {r:Run} (h:Gg r) (hs:r.state≠1):Dd r.tasks 1=0/\Dd r.tasks 2=0/\Dd r.tasks 3=0:=by
 obtain ⟨_,_,_,h4,h5,h6⟩:=h;have hA:=U1 (l:=r.tasks) (fun x hx=>by
  obtain ⟨k,hk,rfl⟩:=List.getElem_of_mem hx
  have:=h4 k hk
  unfold Gl at this;rw [Cn hk] at this;exact this.1)
 unfold stL at h5;unfold Ja at *
 split at h5
 ·omega
 ·split at h5
  ·omega
  ·split at h5
   ·omega
   ·split at h5
    ·exact absurd h5 hs
    ·exact absurd h5 h6
theorem Nu {r:Run} (h:Gg r) (hs:r.state=1) {t:Nat} (ht:t<r.tasks.length):1<=(Bx r t).state/\(Bx r t).state<=4:=by
 obtain ⟨_,_,_,h4,h5,h6⟩:=h;have h1:=h4 t ht;unfold Gl at h1;have h2:=h1.1;rw [Cn ht] at h2 ⊢;rw [hs] at h5;unfold stL at h5;split at h5
 ·omega
 ·split at h5
  ·omega
  ·split at h5
   ·omega
   ·split at h5
    ·next hc =>
     have a5:r.tasks[t].state≠5:=fun e=>by have:=Mc ht e;omega
     have a6:r.tasks[t].state≠6:=fun e=>by have:=Mc ht e;omega
     omega
    ·omega
theorem Aax {r:Run} (h:Gg r) (hs:r.state≠1) {t:Nat} (ht:t<r.tasks.length):(Bx r t).state≠1/\(Bx r t).state≠2/\(Bx r t).state≠3:=by
 obtain ⟨a,b,c⟩:=Oi h hs;rw [Cn ht];exact ⟨fun e=>by have:=Mc ht e;omega,fun e=>by have:=Mc ht e;omega,fun e=>by have:=Mc ht e;omega⟩
theorem Aep {r:Run} (h:Gg r):Dd r.tasks 2<=Jh r:=by
 unfold Jh;by_cases hs:r.state=1
 ·rw [if_pos hs];exact Kh _ _
 ·rw [if_neg hs];exact Nat.le_of_eq (Oi h hs).2.1
theorem Aeq {α:Type} (f g:α->Nat):∀ l:List α,(∀ x∈l,f x<=g x)->(l.map f).sum<=(l.map g).sum
 | [],_=>Br _
 | x :: l,h=>by
  have:=Aeq f g l (fun y hy=>h y (List.mem_cons_of_mem _ hy))
  have:=h x (List.mem_cons_self ..)
  simp only [List.map_cons,List.sum_cons];omega
theorem Core.few {now seq:Int} {es:List Entry} {runs:List Run} (h:Core now seq es runs):es.length<=40:=by
 have h1:=Aeq (fun r=>Dd r.tasks 2) Jh runs (fun r hr=>Aep (h.run r hr).1);have h2:=h.slots;rw [Jr] at h2;unfold Lb at h2;omega
theorem Mx (r:Run) (s:Int):((List.range r.tasks.length).filter fun t=>(Bx r t).state == s).length=Dd r.tasks s:=by
 have h:∀ k,k<=r.tasks.length->((List.range k).filter fun t=>(Bx r t).state == s).length=Dd (r.tasks.take k) s:=by
  intro k;induction k with
  | zero=>intro _;simp [Dd]
  | succ k ih =>
   intro hk;have aZ:k<r.tasks.length:=Bk;rw [List.range_succ,List.filter_append,A0,ih Bk];by_cases e:r.tasks[k].state=s
   ·rw [U0 aZ e];simp [Cn aZ,e]
   ·rw [Yb aZ e];simp [Cn aZ,e]
 have:=h r.tasks.length (Br _)
 rwa [List.take_length] at this
theorem Qx {α:Type} (p q:α->Bool):∀ l:List α,(∀ x∈l,p x=true->q x=true)->(l.filter q).length=(l.filter fun x=>q x && !p x).length+(l.filter p).length
 | [],_=>rfl
 | x :: l,h=>by
  have ih:=Qx p q l (fun y hy=>h y (List.mem_cons_of_mem _ hy));have hx:=h x (List.mem_cons_self ..);cases hp:p x<;>cases hq:q x<;>simp [hp,hq,ih]<;>simp_all<;>omega
theorem Core.index {now seq:Int} {es:List Entry} {runs:List Run} (h:Core now seq es runs) {k:Nat} (hk:k<runs.length) {r:Run} (hr:r∈runs) (he:r.id=runs[k].id):r=runs[k]:=by
 obtain ⟨j,hj,rfl⟩:=List.getElem_of_mem hr;have h1:=List.getElem_inj (xs:=runs.map (·.id)) (h₀:=by simpa using hj) (h₁:=by simpa using hk) h.ids;simp only [List.getElem_map] at h1
 have:=h1.1 he
 subst this;rfl
structure StepR (r r':Run):Prop where
 id:r'.id=r.id
 plan:r'.plan=r.plan
 len:r'.tasks.length=r.tasks.length
 ok:Aaw r'
 live:r.state=1
 task:∀ t,t<r.tasks.length->((Bx r' t).state=2->(Bx r t).state=1\/(Bx r t).state=2\/(Bx r t).state=3)/\((Bx r' t).state=1->(Bx r t).state=1) /\
  ((Bx r' t).state=3->(Bx r t).state=3/\(Bx r' t).until_=(Bx r t).until_)/\(r'.state=1->(Bx r t).state=2->(Bx r' t).state=2)
theorem Ih (id:Int) (t:Nat) (l l':List Entry):Dy id t (l ++ l')=Dy id t l+Dy id t l':=by unfold Dy;rw [List.filter_append,A0]
theorem Ii {r r':Run} {n t:Nat} : t∈Gi r r' n ↔ t<n/\(Bx r' t).state=2 /\ ¬ (Bx r t).state=2:=by
 unfold Gi;simp
theorem St (r r':Run) (n:Nat):(Gi r r' n).Nodup:=List.nodup_range.filter _
theorem My {α:Type} {l:List α} {k:Nat} {x y:α} (hn:l.Nodup) (hk:k<l.length) (h:y∈l.set k x):y=x\/(y∈l/\y≠l[k]):=by
 obtain ⟨j,hj,rfl⟩:=List.getElem_of_mem h;rw [Bg] at hj;rw [List.getElem_set];by_cases e:k=j
 ·rw [if_pos e];exact .inl rfl
 ·rw [if_neg e];exact .inr ⟨Aw hj,fun h2=>e ((List.getElem_inj (h₀:=hk) (h₁:=hj) hn).1 h2.symm)⟩
theorem Core.runs_nodup {now seq:Int} {es:List Entry} {runs:List Run} (h:Core now seq es runs):runs.Nodup:=(List.pairwise_map.1 h.ids).imp (fun h e=>h (by rw [e]))
theorem Acs {runs:List Run} {k:Nat} (hk:k<runs.length) {r':Run} (he:r'.id=runs[k].id):(runs.set k r').map (·.id)=runs.map (·.id):=by
 rw [List.map_set,he];have:runs[k].id=(runs.map (·.id))[k]'(by simpa using hk):=by rw [List.getElem_map]
 rw [this,List.set_getElem_self]
theorem Core.turn {now seq:Int} {es:List Entry} {runs:List Run} (h:Core now seq es runs) (hq:1<=seq) {k:Nat} (hk:k<runs.length) {r':Run} (hS:StepR runs[k] r') :
  Core now (seq+(Gi runs[k] r' r'.tasks.length).length) (Mj seq r' (Gi runs[k] r' r'.tasks.length) ++ es) (runs.set k r'):=by
 have bM:=h.runs_nodup;have bP:=Aw hk;have aK:=hS.len;refine ⟨by rw [Bg];exact h.le8,by rw [Acs hk hS.id];exact h.ids,fun r hr=>?_,fun e he=>?_,?_,fun e he=>?_,fun r hr t ht=>?_,?_⟩
 ·rcases My bM hk hr with rfl | ⟨h1,_⟩
  ·exact hS.ok
  ·exact h.run r h1
 ·rcases Bh.1 he with he | he
  ·have:=He he;omega
  ·have:=h.seqs e he;omega
 ·rw [List.map_append,Ax];refine ⟨Pr _ _ _,h.nodup,fun a ha b hb e=>?_⟩;obtain ⟨x,hx,rfl⟩:=List.mem_map.1 ha;obtain ⟨z,hz,rfl⟩:=List.mem_map.1 hb;have h1:=(He hx).2.2.1;have h2:=h.seqs z hz;omega
 ·have rH:r'∈runs.set k r':=by
   rw [List.mem_iff_getElem];exact ⟨k,by rw [Bg];exact hk,List.getElem_set_self _⟩
  rcases Bh.1 he with he | he
  ·obtain ⟨h1,h2,h3,h4,t,ht,h5⟩:=He he;refine ⟨r',rH,t,(Ii.1 ht).1,?_⟩;unfold Fn;simp [h2,h5]
  ·obtain ⟨r,hr,t,ht,hm⟩:=h.home e he;by_cases cE:r=runs[k]
   ·subst cE;exact ⟨r',rH,t,by rw [aK];exact ht,by rw [hS.id];exact hm⟩
   ·refine ⟨r,?_,t,ht,hm⟩;obtain ⟨j,hj,rfl⟩:=List.getElem_of_mem hr;have dN:k≠j:=fun e=>cE (by subst e;rfl);rw [List.mem_iff_getElem];exact ⟨j,by rw [Bg];exact hj,by rw [List.getElem_set_ne dN]⟩
 ·rcases My bM hk hr with rfl | ⟨h1,h2⟩
  ·have dK:t<runs[k].tasks.length:=Bk;obtain ⟨a,b,c⟩:=h.laid _ bP t dK;obtain ⟨s1,s2,s3,s4⟩:=hS.task t dK;have hN:=Rs r t (Gi runs[k] r r.tasks.length) seq (St _ _ _);have hM:Dy r.id t (Mj seq r (Gi runs[k] r r.tasks.length) ++ es)=(if t∈Gi runs[k] r r.tasks.length then 1 else 0)+Dy runs[k].id t es:=by
    rw [Ih,hN,hS.id]
   refine ⟨fun hs=>?_,fun hs=>?_,fun hs=>?_⟩
   ·refine ⟨fun e he hm=>?_,?_⟩
    ·rcases Bh.1 he with he | he
     ·exact (He he).1
     ·by_cases q:(Bx runs[k] t).state=2
      ·rw [hS.plan];exact (a q).1 e he (by rw [<-hS.id];exact hm)
      ·exfalso;have h0:=b (by rcases s1 hs with e | e | e;exact .inl e;exact absurd e q;exact .inr e);unfold Dy at h0;rw [List.length_eq_zero_iff,List.filter_eq_nil_iff] at h0;exact h0 e he (by rw [<-hS.id];exact hm)
    ·rw [hM];by_cases q:(Bx runs[k] t).state=2
     ·rw [if_neg (fun hm=>(Ii.1 hm).2.2 q),(a q).2]
     ·rw [if_pos (Ii.2 ⟨ht,hs,q⟩),b (by rcases s1 hs with e | e | e;exact .inl e;exact absurd e q;exact .inr e)]
   ·rw [hM,if_neg (fun hm=>by have:=(Ii.1 hm).2.1;rcases hs with e | e<;>rw [e] at this<;>cases this),b (by rcases hs with e | e;exact .inl (s2 e);exact .inr (s3 e).1)]
   ·obtain ⟨e1,e2⟩:=s3 hs;rw [e2,hS.plan];exact c e1
  ·have aC:r.id≠r'.id:=fun e=>h2 (h.index hk h1 (by rw [e,hS.id]));obtain ⟨a,b,c⟩:=h.laid r h1 t ht;have hM:Dy r.id t (Mj seq r' (Gi runs[k] r' r'.tasks.length) ++ es)=Dy r.id t es:=by
    rw [Ih,V3 aC,Nat.zero_add]
   refine ⟨fun hs=>⟨fun e he hm=>?_,by rw [hM];exact (a hs).2⟩,fun hs=>by rw [hM];exact b hs,c⟩;rcases Bh.1 he with he | he
   ·exfalso
    have:=(He he).2.1
    unfold Fn at hm;simp at hm;exact aC (hm.1.symm.trans this)
   ·exact (a hs).1 e he hm
 ·have e1:=Qw Jh r' runs k hk;have e2:=Qw (fun r=>Dd r.tasks 2) r' runs k hk;have e3:=h.slots;rw [Jr] at e3 ⊢;rw [A0,V2];show _<=40+((runs.set k r').map fun r=>Dd r.tasks 2).sum;unfold Lb at e3;have hL:Jh runs[k]=runs[k].tasks.length:=if_pos hS.live;have hc:=Kh runs[k].tasks 2;by_cases hv:r'.state=1
  ·have hL':Jh r'=r'.tasks.length:=if_pos hv;have hf:=Qx (fun t=>(Bx runs[k] t).state == 2) (fun t=>(Bx r' t).state == 2) (List.range r'.tasks.length) (fun t ht hp=>by
    have dK:t<runs[k].tasks.length:=by have:=List.mem_range.1 ht;omega
    simp only [beq_iff_eq] at hp ⊢;exact (hS.task t dK).2.2.2 hv hp)
   rw [Mx,aK,Mx] at hf;unfold Gi;rw [aK]
   (try dsimp only at e2)
   omega
  ·have hL':Jh r'=0:=if_neg hv;have hz:Gi runs[k] r' r'.tasks.length=[]:=by
    rw [List.eq_nil_iff_forall_not_mem];intro t ht;obtain ⟨h1,h2,_⟩:=Ii.1 ht;exact (Aax hS.ok.1 hv h1).2.1 h2
   have aP:=(Oi hS.ok.1 hv).2.1;rw [hz];simp only [List.length_nil]
   (try dsimp only at e2)
   omega
theorem Chg.grow {b:Nat} {w w':World} (hc:Chg [b] w w'):w.grownBy w' (Ac b):=⟨hc.os,hc.tape,hc.output,hc.size,fun i hi hn=>hc.block i hi (fun hx=>hn (by rw [Av.1 hx]))⟩
theorem BldG.chgLow {α:Type} {d:Dt α} {E:TypeId} {w w':World} {base b:Nat} {v:Value} {rs:List (α×d.S)} {G:List Nat} (h:BldG d E w base v rs G) (hc:Chg [b] w w') (hb:b<base):BldG d E w' base v rs G :=
 ⟨h.1.grown hc.grow (.inr (fun e=>by have:=(h.1.within b e).1;omega)),h.2.1.chg hc (fun x hx aN=>by (have h5:x=b:=Av.1 aN);have:=(h.2.2.2 x hx).1;omega),h.2.2.1,h.2.2.2⟩
theorem Chg.moreL {F G:List Nat} {w w1 w2:World} (h:Chg F w w1) (k:Chg G w1 w2) (hg:∀ x∈G,w<=x):Chg F w w2 :=
 ⟨k.os.trans h.os,k.tape.trans h.tape,k.output.trans h.output,Nat.le_trans h.size k.size,fun i hi hn=>(k.block i (Nat.lt_of_lt_of_le hi h.size) (fun hx=>by have:=hg i hx;omega)).trans (h.block i hi hn)⟩
theorem BldG.push2 {α:Type} {d:Dt α} {E:TypeId} {w1 w2 w5:World} {base m:Nat} {v v5:Value} {rs:List (α×d.S)} {G:List Nat} {x:α} {s:d.S} {F:List Nat} (h:BldG d E w1 base v rs G) (hG:∀ b∈G,b<m) (hv:∀ g,v.ownBlock=Ac g->g<m) (o1:d.ow w1 F x s) (n1:∀ b∈F,m<=b)
  (aV:base<=m) (hm:m<=w1) (aF:Below w1 w1 w2) (o5:Ow d.enc E w5 base v5 (rs ++ [(x,s)])) (g5:w2.grownBy w5 v.ownBlock) (f5:v5.ownBlock=v.ownBlock\/v5.ownBlock=Ac w2.heap.size):BldG d E w5 base v5 (rs ++ [(x,s)]) (G ++ F):=by
 obtain ⟨h1,h2,h3,h4⟩:=h;have cL:∀ b∈F,b<w1:=d.ow_lt o1;have pT:∀ b∈F,v.ownBlock≠Ac b:=fun b hb he=>by
  have h5:=hv b he;have h6:=n1 b hb;omega
 have cI:=aF.size;have ht:Ows d w2 F [(x,s)]:=Ows.one (r:=(x,s)) (d.ow_below o1 aF);refine ⟨o5,?_,?_,?_⟩
 ·refine Ows.append ((h2.bel aF).keep g5.size fun b hbG=>g5.block b (by have:=hG b hbG;omega) ?_) (ht.keep g5.size fun b cN=>g5.block b (by have:=cL b cN;omega) ?_)
  ·exact fun e=>(h4 b hbG).2 e.symm
  ·exact fun e=>pT b cN e.symm
 ·rw [Ax];refine ⟨h3,d.ow_nodup o1,fun a ha b bE e=>?_⟩
  have:=hG a ha
  have:=n1 b bE
  omega
 ·intro b aW;rcases Bh.1 aW with aW | aW
  ·refine ⟨(h4 b aW).1,?_⟩;rcases f5 with mP | mP
   ·rw [mP];exact (h4 b aW).2
   ·rw [mP];intro e
    have:=hG b aW
    injection e with e
    omega
  ·refine ⟨by have:=n1 b aW;omega,?_⟩;rcases f5 with mP | mP
   ·rw [mP];exact pT b aW
   ·rw [mP];intro e
    have:=cL b aW
    injection e with e
    omega
noncomputable def Ei (code:List UInt8) (c:Cur):Nat->(List Deed×Yard)×Cur
 | 0=>(([],Jb),c)
 | n+1=>((((Ei code c n).1.1 ++ [(En code (Ei code c n).1.2 (Ei code c n).2).1],(doO (Ei code c n).1.2 (En code (Ei code c n).1.2 (Ei code c n).2).1).1),(En code (Ei code c n).1.2 (Ei code c n).2).2))
theorem Aay:Ci Jb<=2000000:=Bo
theorem Pt (code:List UInt8) (c:Cur):∀ n,Ci (Ei code c n).1.2<=2000000
 | 0=>Aay
 | n+1=>Acr (Pt code c n)
theorem V7 (code:List UInt8) (c:Cur):∀ n,(Ei code c n).1.1.length=n
 | 0=>rfl
 | n+1=>by show ((Ei code c n).1.1 ++ [_]).length=n+1;rw [A0,V7 code c n];rfl
theorem Wn (code:List UInt8) (y:Yard) (c:Cur):(En code y c).1.plan.edges.length<=2000000:=by
 have h0:Ib.edges.length<=2000000:=Bo;have h1:∀ c,(Hj code c).1.edges.length<=2000000:=fun c=>by
  have:=E9 (C8.1 (Abq code c)).1
  omega
 unfold En;simp only []
 (repeat' split)<;>first | exact h0 | exact h1 _
def Af4 (b:Nat) (v:Value) (code:List UInt8) (r:(List Deed×Yard)×Cur) (w:World) (e:Ending) (w':World):Prop :=
 ∃ (l:Sl) (F1:List Nat) (s:Sl×Sl) (F2:List Nat),e = .returned (.tuple #[Aa l.a l.n l.c,Du r.1.2 s])/\OwL I8 w' F1 l.v r.1.1/\(∀ x∈F1,w<=x)/\Bu.ow w' F2 r.1.2 s/\(∀ x∈F2,w<=x)/\Drw b v code r.2 w'/\Chg [b] w w'
theorem Adp {b:Nat} {w:World} {u0 u1 u2 u3 v4:Value} (X:DBox b [u0,u1,u2,u3] w) {v0 v1 v2 v3:Value} {rest:List Value} :
  (results Tryz.f97 (v0 :: v1 :: v2 :: v3 :: v4 :: .pointer (Ac ⟨b,0,Ab⟩) :: rest).toArray).run An w = .ok (.tuple #[v4,.agg #[u0,u1,u2,u3]]) w:=by
 have c0:=X.cell 0 _ rfl;have c1:=X.cell 1 _ rfl;have c2:=X.cell 2 _ rfl;have c3:=X.cell 3 _ rfl;simp [results,Tryz.results97,go_sem,c0,c1,c2,c3]
theorem Adq (b:Nat) (v:Value) (code:List UInt8) (c:Cur) (many:Nat) (w:World) (hm:many<=1000) (h:Drw b v code c w) :
  Calls An 97 #[.pointer (Ac ⟨b,0,Ab⟩),.int .i64 (many:Int)] w (Af4 b v code (Ei code c many) w):=by
 have hb:=h.box.lt;have aW:=Bp (show ∀ x,x∈[b]->x=b from fun x hx=>by simpa using hx);obtain ⟨i0,aL,aR,aS,aP⟩:=info_parts Abb;obtain ⟨W,aH,RES,B0⟩:=bx1 w 31 [.int .i64 0,.int .i64 0,.slice Ab 0 0,.slice Ab 0 0];replace h:=h.below B0;go_enter Tryz.func97,Tryz.ntmps97;go_wp2_with fail
 rw [<-aH.out];clear aH;have hWl:w.heap.size<W.heap.size:=RES.lt;refine (Tg W).mono ?_;rintro e1 w1 ⟨⟨⟨B1,m1,e1⟩,⟨B2,m2,e2⟩⟩,F,rfl,oy,nF,b1⟩;replace h:=h.below b1;replace RES:=RES.below b1;replace B0:=Bs B0 b1;have bL:=b1.size;have cL:=Bu.ow_lt (F:=F) (x:=Jb) (s:=(⟨B1,m1,e1⟩,⟨B2,m2,e2⟩)) oy;clear b1;go_upto_region 2 with fail
 have YB:=DBox.new 31 (Gz Jb (⟨B1,m1,e1⟩,⟨B2,m2,e2⟩)) w1 (b:=w1.heap.size) rfl;have b2:Below w1 w1 (w1.alloc (.cells (Gz Jb (⟨B1,m1,e1⟩,⟨B2,m2,e2⟩)).toArray 31)):=(Bq _ _).alloc (Br _) _;replace h:=h.below b2;replace RES:=RES.below b2;replace oy:Bu.ow _ F Jb (⟨B1,m1,e1⟩,⟨B2,m2,e2⟩):=owB oy b2;replace B0:=Bs B0 b2;have hYl:=YB.lt;clear b2;generalize w1.alloc (.cells (Gz Jb (⟨B1,m1,e1⟩,⟨B2,m2,e2⟩)).toArray 31)=w2 at *
 generalize hyb:w1.heap.size=yb at *
 have q0:Below w2 w2 (w2.alloc (.cells #[] 45)):=(Bq _ _).alloc (Br _) _;have o0:=Ow.empty I8.enc 45 w2 rfl;have jF:Hid (∀ x∈F,w<x/\x≠yb/\(Value.slice (Ac ⟨w2,0,Ab⟩) 0 0).ownBlock≠Ac x):=fun x hx=>⟨by have:=nF x hx;omega,by have:=cL x hx;omega,fun e=>by have h5:=Option.some.inj (show Ac w2.heap.size=Ac x from e);have:=cL x hx;omega⟩
 have hC:=Chg.of_below [b] (Bs B0 q0);replace h:=h.below q0;replace RES:=RES.below q0;replace YB:=YB.below q0;replace oy:Bu.ow _ F Jb (⟨B1,m1,e1⟩,⟨B2,m2,e2⟩):=owB oy q0;have aG:Hid (BldG I8 45 (w2.alloc (.cells #[] 45)) w2 (.slice (Ac ⟨w2,0,Ab⟩) 0 0) [] []):=⟨o0,.nil,List.nodup_nil,fun _ h=>by cases h⟩
 clear q0 o0 nF cL B0;go_wp2;go_loopw [7,8,9] (fun lv iv u9 wr=>∃ (n:Nat) (vl:Value) (rs:List (Deed×I8.S)) (G:List Nat) (s:Sl×Sl) (F:List Nat),n<=many/\iv = .int .i64 n/\vl=lv/\Hid (rs.map (·.1)=(Ei code c n).1.1)/\Hid (BldG I8 45 wr w2 vl rs G)/\Hid (Bu.ow wr F (Ei code c n).1.2 s)/\Hid (∀ x∈F,w<x/\x≠yb/\vl.ownBlock≠Ac x)/\DBox yb (Gz (Ei code c n).1.2 s) wr/\DBox w [.int .i64 0,.int .i64 0,.slice Ab 0 0,.slice Ab 0 0] wr/\Drw b v code (Ei code c n).2 wr/\Chg [b] w wr/\w2.heap.size<=wr.heap.size) (fun _ i _ _=>many - (intOf i).toNat);case atStart=>exact ⟨0,_,[],[],(⟨B1,m1,e1⟩,⟨B2,m2,e2⟩),F,Nat.zero_le _,rfl,rfl,rfl,aG,oy,jF,YB,RES,h,hC,Bm⟩
 case round =>
  clear h RES YB oy hC aG jF;obtain ⟨n,vl,rs,G,s,F,hn,rfl,rfl,kJ,aG,oy,hF,YB,RES,h,hC,qT⟩:=hrel;have pI:=Bp (Pt code c n);have rU:=Bp (V7 code c n);have aE:Hid (Ei code c (n+1)=((((Ei code c n).1.1 ++ [(En code (Ei code c n).1.2 (Ei code c n).2).1],(doO (Ei code c n).1.2 (En code (Ei code c n).1.2 (Ei code c n).2).1).1),(En code (Ei code c n).1.2 (Ei code c n).2).2))):=rfl;have bU:=Bp (show n=many->Ei code c many=Ei code c n from fun e=>by rw [e]);generalize Ei code c n=p at *
  obtain ⟨⟨L,Y⟩,cu⟩:=p;dsimp only at kJ pI rU aE oy YB h;replace oy:Bu.ow wr F Y s:=oy.out;have YB_:=YB.g4;by_cases aA:n<many
  ·have aB:(n:Int)<(many:Int):=Bk;have cN:b∉F:=fun hx=>by have:=(hF.out _ hx).1;omega
   have cJ:=Bu.ow_lt (F:=F) (x:=Y) (s:=s) oy;go_wp2_with fail
   refine (Aeo b _ code cu Y s F wr pI.out h oy cN).mono ?_;rintro e3 w3 ⟨sd,Fd,rfl,od,nd,h3,cc3⟩;have hed:=Wn code Y cu;generalize hdd:En code Y cu=dd at *
   obtain ⟨d,cu2⟩:=dd;dsimp only at od h3 hed aE;have hGlt:∀ x∈G,x<wr:=aG.out.2.1.lt;have eH:∀ g,vl.ownBlock=Ac g->g<wr.heap.size:=fun g hg=>(aG.out.1.within g hg).2;have hbw2:b<w2:=Bk;have qL:=cc3.size;replace aG:=aG.out.chgLow cc3 hbw2;have hybb:yb≠b:=Bk;clear YB_;replace YB:=YB.chg cc3 (fun hx=>hybb (aW.out _ hx));replace RES:=RES.chg cc3 (fun hx=>by have:=aW.out _ hx;omega);replace oy:Bu.ow w3 F Y s:=owC oy cc3 (fun x hx aN=>by have h1:=aW.out x aN;subst h1;exact cN hx);replace hC:=hC.trans cc3;have DB:=DBox.new 45 [.int .i64 d.kind,.int .i64 d.run,.int .i64 d.plan.prio,.int .i64 d.plan.most,.int .i64 d.plan.wait,.int .i64 d.plan.tasks,.slice sd.a sd.n sd.c,.int .i64 d.task,.int .i64 d.try_,.int .i64 d.worker,.int .i64 d.draw] w3 (b:=w3.heap.size) rfl;have b4:Below w3 w3 (w3.alloc (.cells #[.int .i64 d.kind,.int .i64 d.run,.int .i64 d.plan.prio,.int .i64 d.plan.most,.int .i64 d.plan.wait,.int .i64 d.plan.tasks,.slice sd.a sd.n sd.c,.int .i64 d.task,.int .i64 d.try_,.int .i64 d.worker,.int .i64 d.draw] 45)):=(Bq _ _).alloc (Br _) _;go_upto_region 7 with fail
   replace YB:=YB.below b4;replace RES:=RES.below b4;replace oy:Bu.ow _ F Y s:=owB oy b4;replace h3:=h3.below b4;replace od:Cm.ow _ Fd d.plan sd:=Cm.ow_below (F:=Fd) (x:=d.plan) (s:=sd) od b4;replace aG:=aG.below b4;replace hC:=hC.trans (Chg.of_below [b] b4);have hDl:=DB.lt;have jY:=b4.size;clear b4;generalize w3.alloc (.cells #[.int .i64 d.kind,.int .i64 d.run,.int .i64 d.plan.prio,.int .i64 d.plan.most,.int .i64 d.plan.wait,.int .i64 d.plan.tasks,.slice sd.a sd.n sd.c,.int .i64 d.task,.int .i64 d.try_,.int .i64 d.worker,.int .i64 d.draw] 45)=w4 at *
   generalize hdb:w3.heap.size=db at *
   obtain ⟨A7,c7,rF,-⟩:=_root_.id (Rd.of_own aG.1);have cA:=Bp (show rs.length=n by have h5:=congrArg List.length kJ.out;rw [Au,rU.out] at h5;exact h5);have hrl3:=Bp (show rs.length<=3000000 by have:=cA.out;omega);generalize hn7:rs.length=n7 at rF;subst rF;replace hn7:=Bp hn7;have hvd:=Bp (fun g (hg:(Value.slice A7 n7 c7).ownBlock=Ac g)=>aG.1.within g hg);replace eH:=Bp eH;replace hGlt:=Bp hGlt;have DB_:=DB.g11;have ha:=Bp (show ∀ w:World,Below w w (w.alloc (.cells #[.int .i64 d.kind,.int .i64 d.run,.int .i64 d.plan.prio,.int .i64 d.plan.most,.int .i64 d.plan.wait,.int .i64 d.plan.tasks,.slice sd.a sd.n sd.c,.int .i64 d.task,.int .i64 d.try_,.int .i64 d.worker,.int .i64 d.draw] 45)) from fun w=>(Bq _ _).alloc (Br _) _);have hw24:w2.heap.size<=w4.heap.size:=Bk;go_upto_region 8 with (at_builtin;go_loud (refine Bz _ I8.enc Bo rfl (.tmp 20) (.tmp 22) rfl Tryz.underlying78 aL aR aS aP rfl (base:=w2.heap.size) (v:=.slice A7 n7 c7) (l:=rs) rfl (aG.1.below (ha.out w4)) rfl (Rd.one I8.enc _ _ (d,sd) rfl rfl 1 (Br _) (Nat.lt_succ_self _)) hrl3.out Bm Bo (by simp;omega) ?_);intro v5 w5 o5 g5 f5)
   have hP:=aG.push2 (x:=d) (s:=sd) (F:=Fd) hGlt.out eH.out od nd Bk Bk (ha.out w4) o5 g5 f5;have g5s:=g5.size;simp only [World.size_alloc] at g5s;have rn:∀ z,z<w2.heap.size->Ac z≠(Value.slice A7 n7 c7).ownBlock:=fun z hz e=>by have:=(hvd.out z e.symm).1;omega
   have rd_:Ac db≠(Value.slice A7 n7 c7).ownBlock:=fun e=>by have:=eH.out db e.symm;omega
   clear DB_;replace DB:=(DB.below (ha.out w4)).off g5 rd_;replace YB:=(YB.below (ha.out w4)).off g5 (rn yb Bk);replace RES:=(RES.below (ha.out w4)).off g5 (rn _ Bk);have oy5:Bu.ow w5 F Y s:=Bu.ow_keep (F:=F) (x:=Y) (s:=s) (Bu.ow_below (F:=F) (x:=Y) (s:=s) oy (ha.out w4)) g5.size (fun z hz=>g5.block z (Bu.ow_lt (F:=F) (x:=Y) (s:=s) (Bu.ow_below (F:=F) (x:=Y) (s:=s) oy (ha.out w4)) z hz) (fun e=>(hF.out z hz).2.2 e.symm));have bQ:=Bp (show ∀ x∈((Value.slice A7 n7 c7).ownBlock).toList,w2.heap.size<=x from fun x hx=>(hvd.out x (by simpa using hx)).1);have cg:=Chg.grown (F:=((Value.slice A7 n7 c7).ownBlock).toList) g5 (fun g hg=>by rw [hg];simp);have h5:=(h3.below (ha.out w4)).chg cg (fun x hx=>by have:=bQ.out x hx;omega);have cX:=(hC.trans (Chg.of_below [b] (ha.out w4))).moreL cg (fun x hx=>by have:=bQ.out x hx;omega);have od5:=Cm.ow_keep (F:=Fd) (x:=d.plan) (s:=sd) (Cm.ow_below (F:=Fd) (x:=d.plan) (s:=sd) od (ha.out w4)) g5.size (fun z hz=>g5.block z (Cm.ow_lt (F:=Fd) (x:=d.plan) (s:=sd) (Cm.ow_below (F:=Fd) (x:=d.plan) (s:=sd) od (ha.out w4)) z hz) (fun e=>by have h6:=eH.out z e.symm;have h7:=nd z hz;omega));have v5lt:=Bp (fun g (hg:v5.ownBlock=Ac g)=>(o5.within g hg).2);obtain ⟨A8,c8,pR,-⟩:=_root_.id (Rd.of_own o5);simp only [A0,List.length_singleton] at pR;subst pR;clear hC oy od h3 cg o5 f5 g5 aG rn rd_ ha;have CD:=Bp (Ab0 Y s d sd w5 pI.out hed (Bu.ow_rd (F:=F) (x:=Y) (s:=s) oy5) (Cm.ow_rd (F:=Fd) (x:=d.plan) (s:=sd) od5));generalize doO Y d=o at *
   obtain ⟨z,rep⟩:=o;dsimp only at aE;have YB_:=YB.g4;have DB_:=DB.g11;go_wp2_with fail
   refine CD.out.mono ?_;rintro e6 w6 ⟨s6,F6,rfl,oy6,n6,b6⟩;replace oy6:Bu.ow w6 F6 z s6:=oy6;clear YB_;clear DB_;clear DB CD;replace YB:=YB.below b6;replace RES:=RES.below b6;replace h5:=h5.below b6;replace hP:=hP.below b6;replace cX:=cX.trans (Chg.of_below [b] b6);have nD:=b6.size;have nQ:∀ x∈F6,w5<=x:=n6;clear b6 n6 oy5 od5;have YB_:=YB.g4;have ybf:=YB.free;go_upto_region 5 with fail
   have cP:=Chg.cells4 w6 yb 0 1 2 3 (.int .i64 z.now) (.int .i64 z.seq) (.slice s6.1.a s6.1.n s6.1.c) (.slice s6.2.a s6.2.n s6.2.c);have rG:=Bp (show ∀ x,x∈[yb]->x=yb from fun x hx=>by simpa using hx);clear YB_;clear ybf;have YB7:=DBox.row4 YB rfl (.int .i64 z.now) (.int .i64 z.seq) (.slice s6.1.a s6.1.n s6.1.c) (.slice s6.2.a s6.2.n s6.2.c);have RES7:=RES.chg cP (fun hx=>by have:=rG.out _ hx;omega);have h7:=h5.chg cP (fun x hx=>by have:=rG.out _ hx;omega);have rB:=hP.chgLow cP Bk;have oy7:=Bu.ow_chg (F:=F6) (x:=z) (s:=s6) oy6 cP (fun x hx aN=>by have h8:=rG.out x aN;have h9:=nQ x hx;omega);have fX:=cX.more cP Bk;have pE:Hid (∀ x∈F6,w<x/\x≠yb/\(Value.slice A8 (rs.length+1) c8).ownBlock≠Ac x):=fun x hx=>by
    have h9:=nQ x hx;exact ⟨Bk,Bk,fun e=>by have:=v5lt.out x e;omega⟩
   have hw7:=cP.size;have hmp:Hid ((rs ++ [(d,sd)]).map (·.1)=L ++ [d]):=by
    show (rs ++ [(d,sd)]).map (·.1)=L ++ [d]
    rw [List.map_append,kJ.out];rfl
   clear RES YB h5 hP oy6 cX cP hF kJ;generalize (((w6.setCell ⟨yb,0,Ab⟩ (.int .i64 z.now)).setCell ⟨yb,1,Ab⟩ (.int .i64 z.seq)).setCell ⟨yb,2,Ab⟩ (.slice s6.1.a s6.1.n s6.1.c)).setCell ⟨yb,3,Ab⟩ (.slice s6.2.a s6.2.n s6.2.c)=w7 at *
   go_wp2;exact ⟨⟨n+1,.slice A8 (rs.length+1) c8,rs ++ [(d,sd)],G ++ Fd,s6,F6,Bk,by go_num,rfl,by rw [aE.out];exact hmp,rB,by rw [aE.out];exact oy7,pE,by rw [aE.out];exact YB7,RES7,by rw [aE.out];exact h7,fX,Bk⟩,by simp [intOf];omega⟩
  ·have aB:¬ (n:Int)<(many:Int):=Bk;have he:=bU.out Bk;replace he:=Bp he;go_wp2;refine Go.wp_region_noPanic ?_;refine wp_region_held_drew (S:=(fun w'=>DBox yb (Gz Y s) w')) Bl (DBox.drew4 YB) (fun hHeld=>?_);replace oy:Bu.ow wr.drew F Y s:=owB oy (Bq _ _).drew;replace h:=h.below (Bq _ _).drew;replace RES:DBox _ _ wr.drew:=DBox.drew4 RES;replace aG:=Bp (aG.out.below (Bq _ _).drew);replace hC:=hC.trans (Chg.of_below [b] (Bq wr wr).drew);have pN:wr.drew.heap.size=wr.heap.size:=rfl;rw [<-pN] at qT;clear YB_;clear YB pN;generalize wr.drew=w5 at *
   refine tZ 0 ?_ (hy:=by (intro w' hSw;(try dsimp only at hSw);have f0:=hSw.cell 0 _ rfl;have f1:=hSw.cell 1 _ rfl;have f2:=hSw.cell 2 _ rfl;have f3:=hSw.cell 3 _ rfl;go_simp;(try with_reducible rfl)))
   (try simp only [pS])
   refine tZ 1 ?_ (hy:=by (intro w' hSw;(try dsimp only at hSw);have f0:=hSw.cell 0 _ rfl;have f1:=hSw.cell 1 _ rfl;have f2:=hSw.cell 2 _ rfl;have f3:=hSw.cell 3 _ rfl;go_simp;(try with_reducible rfl)))
   (try simp only [pS])
   refine tZ 2 ?_ (hy:=by (intro w' hSw;(try dsimp only at hSw);have f0:=hSw.cell 0 _ rfl;have f1:=hSw.cell 1 _ rfl;have f2:=hSw.cell 2 _ rfl;have f3:=hSw.cell 3 _ rfl;go_simp;(try with_reducible rfl)))
   (try simp only [pS])
   have RES_:=RES.g4;have rf:=RES.free;have hwyb:w<yb:=Bk;refine rC 3 (fun K_ hK=>?_);go_simp;refine hK.out _ _ ((((hHeld.setOther (a:=⟨w,0,Ab⟩) (by show yb≠w;omega) _).setOther (a:=⟨w,1,Ab⟩) (by show yb≠w;omega) _).setOther (a:=⟨w,2,Ab⟩) (by show yb≠w;omega) _).setOther (a:=⟨w,3,Ab⟩) (by show yb≠w;omega) _) (fun hHeld=>?_);clear hK K_ hHeld
   (try simp only [pS])
   refine wpAnyH_done Bl ?_ _;refine NoPanic.normal ?_;have cP:=Chg.cells4 w5 (w.heap.size) 0 1 2 3 (.int .i64 Y.now) (.int .i64 Y.seq) (.slice s.1.a s.1.n s.1.c) (.slice s.2.a s.2.n s.2.c);have rG:=Bp (show ∀ x,x∈[w.heap.size]->x=w.heap.size from fun x hx=>by simpa using hx);clear RES_;clear rf;have RES7:=DBox.row4 RES rfl (.int .i64 Y.now) (.int .i64 Y.seq) (.slice s.1.a s.1.n s.1.c) (.slice s.2.a s.2.n s.2.c);have h7:=h.chg cP (fun x hx=>by have:=rG.out _ hx;omega);have rB:=aG.out.chgLow cP Bk;have oy7:=Bu.ow_chg (F:=F) (x:=Y) (s:=s) oy cP (fun x hx aN=>by have h8:=rG.out x aN;have h9:=(hF.out x hx).1;omega);have fX:=hC.more cP (Br _);obtain ⟨A7,c7,rF,-⟩:=_root_.id (Rd.of_own rB.1);subst rF;have jK:=rB.owl kJ.out;have hGb:=rB.2.2.2;have hvb:=Bp (fun g (hg:(Value.slice A7 rs.length c7).ownBlock=Ac g)=>(rB.1.within g hg).1);clear RES h oy hC aG cP rB;generalize (((w5.setCell ⟨w,0,Ab⟩ (.int .i64 Y.now)).setCell ⟨w,1,Ab⟩ (.int .i64 Y.seq)).setCell ⟨w,2,Ab⟩ (.slice s.1.a s.1.n s.1.c)).setCell ⟨w,3,Ab⟩ (.slice s.2.a s.2.n s.2.c)=w7 at *
   go_wp2;refine Aj (Adp RES7) rfl ⟨⟨A7,rs.length,c7⟩,_,s,F,by rw [he.out],by rw [he.out];exact jK,fun x hx=>?_,by rw [he.out];exact oy7,fun x hx=>by have:=(hF.out x hx).1;omega,by rw [he.out];exact h7,fX⟩;rcases Bh.1 hx with hx | hx
   ·have h1:=hvb.out x (H6 _ _ _ hx);omega
   ·have h1:=(hGb x hx).1;omega
theorem Lc {l:List Task} {u:Nat} (hu:u<l.length) (y:Task) (b:Nat):(l.set u y).getD b ⟨0,0,0,0⟩=if b=u then y else l.getD b ⟨0,0,0,0⟩:=by
 rw [List.getD_eq_getElem?_getD,List.getD_eq_getElem?_getD,List.getElem?_set];by_cases e:u=b
 ·subst e;simp [hu]
 ·rw [if_neg e,if_neg (fun hh=>e hh.symm)]
theorem Aer (l:List Task) (f:Task->Task) {b:Nat} (hb:b<l.length):(l.map f).getD b ⟨0,0,0,0⟩=f (l.getD b ⟨0,0,0,0⟩):=by
 simp [List.getD_eq_getElem?_getD,hb]
theorem J2 (r:Run) (b:Nat):Bx r b=r.tasks.getD b ⟨0,0,0,0⟩:=rfl
theorem Ic {r:Run} {s:Int} {b:Nat} (hb:b<r.tasks.length):Bx (Dp r s) b=D9 (Bx r b):=Aer _ _ hb
theorem Kq (x:Task):(D9 x).state≠1/\(D9 x).state≠2/\(D9 x).state≠3:=by
 rcases Mb x with ⟨a,_⟩ | ⟨a,_⟩ | ⟨a,_⟩<;>rw [a]<;>decide
theorem Su {r:Run} {u:Nat} (h:Aaw r) (hu:u<r.tasks.length) (hs:(Bx r u).state=3):StepR r (Eb r u):=by
 have hR:J9 r u:=⟨h.1,⟨Bk,Bk⟩,hs⟩
 refine ⟨(Md r u).1,(Md r u).2,Ho r u,⟨Sk hR,fun t ht h1=>?_⟩,(Po hR).2.2.2,fun t ht=>?_⟩
 ·rw [Ho] at ht;rw [(Md r u).2];unfold Eb at h1 ⊢;split at h1
  ·next hm =>
   rw [if_pos hm];rw [Ie hu,I1,Lc hu,<-J2] at h1 ⊢;by_cases e:t=u
   ·subst e;rw [if_pos rfl] at h1;simp at h1
   ·rw [if_neg e] at h1 ⊢;exact h.2 t ht h1
  ·exfalso;rw [Ic (by simp [Hd];exact ht)] at h1;exact (Kq _).1 h1
 unfold Eb;split
 ·rw [Ie hu,I1,Lc hu,<-J2];by_cases e:t=u
  ·subst e;rw [if_pos rfl];simp [hs]
  ·rw [if_neg e];exact ⟨fun h=>.inr (.inl h),id,fun h=>⟨h,rfl⟩,fun _ h=>h⟩
 ·rw [Ic (by simp [Hd];exact ht)];obtain ⟨a,b,c⟩:=Kq (Bx ⟨r.id,r.plan,r.state,Hx r.tasks u fun x=>⟨5,x.need,x.try_,0⟩⟩ t);exact ⟨fun h=>absurd h b,fun h=>absurd h a,fun h=>absurd h c,fun h=>by simp [Dp] at h⟩
theorem Aaz {r:Run} (h:Gg r) (hs:r.state=1):Gg (Dp r 4):=by
 have bV:=fun t ht=>Nu h hs (t:=t) ht;have nW:Dd r.tasks 5=0:=by
  unfold Dd;rw [List.length_eq_zero_iff,List.filter_eq_nil_iff];intro x hx;obtain ⟨k,hk,rfl⟩:=List.getElem_of_mem hx
  have:=bV k hk
  rw [Cn hk] at this;simp;omega
 have pL:Dd r.tasks 4≠r.tasks.length:=fun e=>by
  have h5:=h.2.2.2.2.1;unfold stL at h5;rw [if_pos e] at h5;omega
 obtain ⟨a1,a2,a3,a4,a5,a6⟩:=h;have hN:∀ t,Fu (Dp r 4) t=Fu r t:=fun t=>by
  show Fi _ _=Fi _ _;apply Kl;intro b;by_cases e:b<r.tasks.length
  ·rw [Ic e];rcases Mb (Bx r b) with ⟨a,b⟩ | ⟨a,b⟩ | ⟨a,b,c⟩
   ·simp [a,b]
   ·simp [a,b]
   ·simp [a,b]
  ·have e1:Bx (Dp r 4) b=⟨0,0,0,0⟩:=by
    unfold Bx Dp;rw [List.getD_eq_getElem?_getD,List.getElem?_eq_none (by rw [Au];omega)];rfl
   have e2:Bx r b=⟨0,0,0,0⟩:=by
    unfold Bx;rw [List.getD_eq_getElem?_getD,List.getElem?_eq_none Bk];rfl
   rw [e1,e2]
 refine ⟨a1,a2,by simpa [Dp] using a3,fun t ht=>?_,?_,by simp [Dp]⟩
 ·have dK:t<r.tasks.length:=by simpa [Dp] using ht
  unfold Gl;rw [hN,Ic dK];obtain ⟨p1,p2,p3,p4,p5,p6,p7,p8⟩:=a4 t dK;show Lh _ _ r.plan.most;unfold D9;split
  ·refine ⟨Bm,p2,p3,Bm,Bm,Bm,Bm,Bm⟩
  ·exact ⟨p1,p2,p3,p4,p5,p6,p7,p8⟩
 ·obtain ⟨m1,m2,m3⟩:=Xf r.tasks;have hA:=U1 (l:=r.tasks.map D9) (fun x hx=>by
   obtain ⟨z,hz,rfl⟩:=List.mem_map.1 hx;rcases Mb z with ⟨a,_⟩ | ⟨a,_⟩ | ⟨a,_⟩<;>rw [a]<;>decide)
  rw [Au] at hA;have pW:=Kh r.tasks 4;show (4:Int)=stL (r.tasks.map D9);unfold stL;rw [Au,if_neg Bk,if_neg Bk,if_pos Bk]
theorem Aa0 {r:Run} (h:Aaw r) (hs:r.state=1):StepR r (Dp r 4):=by
 refine ⟨rfl,rfl,by simp [Dp],⟨Aaz h.1 hs,fun t ht h1=>?_⟩,hs,fun t ht=>?_⟩
 ·rw [Ic (by simpa [Dp] using ht)] at h1;exact absurd h1 (Kq _).1
 rw [Ic ht];obtain ⟨a,b,c⟩:=Kq (Bx r t);exact ⟨fun h=>absurd h b,fun h=>absurd h a,fun h=>absurd h c,fun h=>by simp [Dp] at h⟩
theorem O7:∀ (L:List Nat) (l:List Task),L.Nodup->(∀ b∈L,b<l.length) -> ∀ t,(L.foldl (fun l b=>Hx l b Ds) l).getD t ⟨0,0,0,0⟩=if t∈L then Ds (l.getD t ⟨0,0,0,0⟩) else l.getD t ⟨0,0,0,0⟩
 | [],l,_,_,t=>by simp
 | b :: L,l,hn,hl,t=>by
  obtain ⟨h1,h2⟩:=List.nodup_cons.1 hn;have hb:=hl b (List.mem_cons_self ..);rw [List.foldl_cons,O7 L _ h2 (fun x hx=>by rw [Hd];exact hl x (List.mem_cons_of_mem _ hx)) t];have e:Hx l b Ds=l.set b (Ds (l.getD b ⟨0,0,0,0⟩)):=rfl;rw [e,Lc hb];by_cases q:t=b
  ·subst q;rw [if_pos rfl,if_neg h1,if_pos (List.mem_cons_self ..)]
  ·rw [if_neg q];by_cases q2:t∈L
   ·rw [if_pos q2,if_pos (List.mem_cons_of_mem _ q2)]
   ·rw [if_neg q2,if_neg (fun hm=>by rcases List.mem_cons.1 hm with h | h;exact q h;exact q2 h)]
theorem Aes {r:Run} {u:Nat} (hu:u<r.tasks.length) (hT:r.plan.tasks.toNat=r.tasks.length) (hc:u∉Eg (Dq r.plan) r.plan.tasks.toNat u) (t:Nat) :
  Bx (Hf r u) t=if t=u then ⟨4,(Bx r u).need,(Bx r u).try_,0⟩ else if t∈Eg (Dq r.plan) r.plan.tasks.toNat u then Ds (Bx r t) else Bx r t:=by
 show (Xa r u).getD t _=_;unfold Xa;have hm:Hx r.tasks u (fun x=>⟨4,x.need,x.try_,0⟩)=r.tasks.set u ⟨4,r.tasks[u].need,r.tasks[u].try_,0⟩:=Ie hu _;rw [O7 (Eg (Dq r.plan) r.plan.tasks.toNat u) (Hx r.tasks u fun x=>⟨4,x.need,x.try_,0⟩) (List.nodup_range.filter _) (fun b hb=>by rw [Hd];have:=Pn _ _ _ b hb;omega) t,hm,Lc hu,<-J2];by_cases e:t=u
 ·subst e;rw [if_neg hc,if_pos rfl,if_pos rfl,Cn hu]
 ·rw [if_neg e,if_neg e]
theorem Sv {r r':Run} {u:Nat} (hu:(Bx r u).state≠4) (hu':(Bx r' u).state=4) (h:∀ b,b≠u->((Bx r b).state=4 ↔ (Bx r' b).state=4)):∀ L:List Nat,L.Nodup->Fi r' L+(if u∈L then 1 else 0)=Fi r L
 | [],_=>rfl
 | b :: L,hn=>by
  obtain ⟨h1,h2⟩:=List.nodup_cons.1 hn;have ih:=Sv hu hu' h L h2;unfold Fi at *
  by_cases e:b=u
  ·subst e;rw [if_neg h1] at ih;simp [hu,hu'] at ih ⊢;omega
  ·have e':¬ u=b:=fun h=>e h.symm;have hb:=h b e;by_cases q:(Bx r b).state=4
   ·have q':=hb.1 q;simp [q,q',e'] at ih ⊢;exact ih
   ·have q':¬ (Bx r' b).state=4:=fun hh=>q (hb.2 hh);simp [q,q',e'] at ih ⊢;omega
theorem Adr {es:List (Nat×Nat)} {u:Nat} (h:(u,u)∈es):Pg.Reach es u u:=by
 exact Pg.Reach.one h
theorem Ab3 {r:Run} {u:Nat} (hf:Aaw r) (hu:u<r.tasks.length) (hs:(Bx r u).state=3):StepR r (Hf r u):=by
 have h:=hf.1;have hR:J9 r u:=⟨h,⟨Bk,Bk⟩,hs⟩
 obtain ⟨l5,l6,l4,ls⟩:=Po hR;have bV:=fun t ht=>Nu h ls (t:=t) ht;obtain ⟨a1,a2,a3,a4,a5,a6⟩:=h;obtain ⟨cK,cR,bM,pI⟩:=C8.1 a2;have hT:r.plan.tasks.toNat=r.tasks.length:=Bk;have hes1:∀ e∈Dq r.plan,e.1<r.plan.tasks.toNat/\e.2<r.plan.tasks.toNat:=by
  intro e he;unfold Dq esL at he;obtain ⟨x,hx,rfl⟩:=List.mem_map.1 he
  have:=cR x hx
  unfold Ht at this;simp only [Bool.and_eq_true,Cp] at this;dsimp only;omega
 have hBh:∀ t,t∈Eg (Dq r.plan) r.plan.tasks.toNat u ↔ u∈Dl (Dq r.plan) r.plan.tasks.toNat t:=fun t=>by
  rw [Sg (fun e he=>(hes1 e he).2),Z8 (fun e he=>(hes1 e he).1)]
 have hc:u∉Eg (Dq r.plan) r.plan.tasks.toNat u:=fun hm=>by
  rw [Sg (fun e he=>(hes1 e he).2)] at hm;exact pI ⟨u,Bk,Adr hm⟩
 have hat:=Aes hu hT hc
 -- those behind it wait
 have hw:∀ t,t<r.tasks.length->t∈Eg (Dq r.plan) r.plan.tasks.toNat u->(Bx r t).state=1/\1<=(Bx r t).need:=by
  intro t ht hm;have h1:=a4 t ht;have h2:=bV t ht;obtain ⟨p1,p2,p3,p4,p5,p6,p7,p8⟩:=h1;have h3:1<=Fu r t:=by
   unfold Fu Fi;apply List.length_pos_of_mem (a:=u);rw [List.mem_filter];exact ⟨(hBh t).1 hm,by simp [hs]⟩
  have h4:1<=(Bx r t).need:=Bk;refine ⟨?_,h4⟩;rcases (show (Bx r t).state=1\/(Bx r t).state=2\/(Bx r t).state=3\/(Bx r t).state=4 by omega) with e | e | e | e
  ·exact e
  ·have:=(p7 e).1;omega
  ·have:=(p8 (.inl e)).1;omega
  ·have:=(p8 (.inr (.inl e))).1;omega
 have h4':∀ b,b≠u->((Bx r b).state=4 ↔ (Bx (Hf r u) b).state=4):=fun b hb=>by
  rw [hat,if_neg hb];by_cases q:b∈Eg (Dq r.plan) r.plan.tasks.toNat u
  ·rw [if_pos q];have mU:b<r.tasks.length:=by have:=Pn _ _ _ b q;omega
   have:=hw b mU q
   unfold Ds;dsimp only;split<;>omega
  ·rw [if_neg q]
 have hu4:(Bx (Hf r u) u).state=4:=by rw [hat,if_pos rfl]
 have hN:∀ t,Fu (Hf r u) t+(if t∈Eg (Dq r.plan) r.plan.tasks.toNat u then 1 else 0)=Fu r t:=fun t=>by
  have:=Sv (r:=r) (r':=Hf r u) (u:=u) Bk hu4 h4' (Dl (Dq r.plan) r.plan.tasks.toNat t) (List.nodup_range.filter _)
  by_cases q:t∈Eg (Dq r.plan) r.plan.tasks.toNat u
  ·rw [if_pos q];rw [if_pos ((hBh t).1 q)] at this;exact this
  ·rw [if_neg q];rw [if_neg (fun hh=>q ((hBh t).2 hh))] at this;exact this
 have aK:=Of r u;have bZ:∀ t,t<r.tasks.length->(Bx (Hf r u) t).state<=4:=fun t ht=>by
  have h1:=bV t ht;rw [hat];split
  ·simp
  ·split
   ·unfold Ds;dsimp only;split<;>omega
   ·exact h1.2
 have nW:∀ s:Int,4<s->Dd (Hf r u).tasks s=0:=fun s nJ=>by
  unfold Dd;rw [List.length_eq_zero_iff,List.filter_eq_nil_iff];intro x hx;obtain ⟨k,hk,rfl⟩:=List.getElem_of_mem hx
  have:=bZ k Bk
  rw [Cn hk] at this;simp;omega
 have aU:Gg (Hf r u):=by
  refine ⟨a1,a2,by show ((Hf r u).tasks.length:Int)=_;rw [aK];exact a3,fun t ht=>?_,rfl,?_⟩
  ·have dK:t<r.tasks.length:=Bk;have hNt:=hN t;obtain ⟨p1,p2,p3,p4,p5,p6,p7,p8⟩:=a4 t dK;show Lh (Bx (Hf r u) t) (Fu (Hf r u) t) r.plan.most;by_cases e:t=u
   ·subst e;rw [if_neg hc] at hNt;have h8:=p8 (.inl hs);rw [hat,if_pos rfl];refine ⟨Bm,by show (Bx r t).need=_;omega,p3,Bm,Bm,Bm,Bm,fun _=>h8⟩
   ·by_cases q:t∈Eg (Dq r.plan) r.plan.tasks.toNat u
    ·rw [if_pos q] at hNt;obtain ⟨q1,q2⟩:=hw t dK q;have h5:=p5 Bk;have hmost:1<=r.plan.most:=by
      unfold D7 at cK;simp only [Bool.and_eq_true,Cp] at cK;omega
     rw [hat,if_neg e,if_pos q];unfold Ds;by_cases z:(Bx r t).need - 1=0
     ·rw [if_pos z];refine ⟨Bm,by show (Bx r t).need - 1=_;omega,p3,Bm,fun _=>h5,Bm,fun _=>⟨z,?_⟩,Bm⟩;exact hf.2 t dK q1
     ·rw [if_neg z,q1];refine ⟨Bm,by show (Bx r t).need - 1=_;omega,p3,Bm,fun _=>h5,fun _=>by show 0<(Bx r t).need - 1;omega,Bm,Bm⟩
    ·rw [if_neg q] at hNt;rw [hat,if_neg e,if_neg q];exact ⟨p1,Bk,p3,p4,p5,p6,p7,p8⟩
  ·show stL (Hf r u).tasks≠0;unfold stL;have c5:=nW 5 Bo;have c6:=nW 6 Bo;split
   ·decide
   ·rw [if_neg Bk,if_neg Bk,if_pos ⟨c5,c6⟩];decide
 have fB:∀ t,t<(Hf r u).tasks.length->(Bx (Hf r u) t).state=1->(Bx (Hf r u) t).try_<(Hf r u).plan.most:=fun t ht h1=>by
  show _<r.plan.most;rw [hat] at h1 ⊢;split at h1
  ·simp at h1
  ·next aC =>
   rw [if_neg aC];split at h1
   ·next hm =>
    rw [if_pos hm]
    have:=hw t Bk hm
    unfold Ds;split<;>exact hf.2 t Bk this.1
   ·next hm =>
    rw [if_neg hm];exact hf.2 t Bk h1
 refine ⟨rfl,rfl,aK,⟨aU,fB⟩,ls,fun t ht=>?_⟩;rw [hat];by_cases e:t=u
 ·subst e;rw [if_pos rfl];simp [hs]
 ·rw [if_neg e];by_cases q:t∈Eg (Dq r.plan) r.plan.tasks.toNat u
  ·rw [if_pos q]
   have:=hw t ht q
   unfold Ds;dsimp only;split
   ·simp [this.1]
   ·simp [this.1]
  ·rw [if_neg q];exact ⟨fun h=>.inr (.inl h),id,fun h=>⟨h,rfl⟩,fun _ h=>h⟩
noncomputable def Oj (code:List UInt8) (c:Cur):Yard×Cur :=
 ((Ei code (Bt code 26 c).2 (Bt code 26 c).1.toNat).1.2,(Ei code (Bt code 26 c).2 (Bt code 26 c).1.toNat).2)
def Aet (b:Nat) (v:Value) (code:List UInt8) (r:Yard×Cur) (w:World) (e:Ending) (w':World):Prop :=
 ∃ (s:Sl×Sl) (F:List Nat),e = .returned (Du r.1 s)/\Bu.ow w' F r.1 s/\(∀ x∈F,w<=x)/\Drw b v code r.2 w'/\Chg [b] w w'
theorem Ads {b:Nat} {w:World} {u0 u1 u2 u3:Value} (X:DBox b [u0,u1,u2,u3] w) {v0 v1:Value} {rest:List Value} :
  (results Tryz.f76 (v0 :: v1 :: .pointer (Ac ⟨b,0,Ab⟩) :: rest).toArray).run An w = .ok (.agg #[u0,u1,u2,u3]) w:=by
 have c0:=X.cell 0 _ rfl;have c1:=X.cell 1 _ rfl;have c2:=X.cell 2 _ rfl;have c3:=X.cell 3 _ rfl;simp [results,Tryz.results76,go_sem,c0,c1,c2,c3]
theorem Adt {b:Nat} {w:World} {u0 u1 u2 u3:Value} (X:DBox b [u0,u1,u2,u3] w) {v0 v1:Value} {rest:List Value} :
  (results Tryz.f26 (v0 :: v1 :: .pointer (Ac ⟨b,0,Ab⟩) :: rest).toArray).run An w = .ok (.agg #[u0,u1,u2,u3]) w:=by
 have c0:=X.cell 0 _ rfl;have c1:=X.cell 1 _ rfl;have c2:=X.cell 2 _ rfl;have c3:=X.cell 3 _ rfl;simp [results,Tryz.results26,go_sem,c0,c1,c2,c3]
theorem Aeu (b:Nat) (v:Value) (code:List UInt8) (c:Cur) (w:World) (h:Drw b v code c w) :
  Calls An 76 #[.pointer (Ac ⟨b,0,Ab⟩)] w (Aet b v code (Oj code c) w):=by
 have hb:=h.box.lt;have aW:=Bp (show ∀ x,x∈[b]->x=b from fun x hx=>by simpa using hx);obtain ⟨W,aH,RES,B0⟩:=bx1 w 31 [J U 0,J U 0,Aa Ab 0 0,Aa Ab 0 0];replace h:=h.below B0;go_enter Tryz.func76,Tryz.ntmps76;go_wp2_with fail
 rw [<-aH.out];clear aH;have hWl:w.heap.size<W.heap.size:=RES.lt;refine (Dw 26 b v code c W Bk h).mono ?_;rintro e1 w1 ⟨rfl,h1,c1⟩;have r1:=Db code (n:=26) c Bk;have mG:Hid (Oj code c=((Ei code (Bt code 26 c).2 (Bt code 26 c).1.toNat).1.2,(Ei code (Bt code 26 c).2 (Bt code 26 c).1.toNat).2)):=rfl;generalize Oj code c=R at *
 generalize Bt code 26 c=a at *
 obtain ⟨a,ca⟩:=a;dsimp only at *
 obtain ⟨n,rfl⟩:=Aq r1.1;rw [Ap] at mG;have D:=Bp (Adq b v code ca n w1 Bk h1);generalize Ei code ca n=p at *
 obtain ⟨⟨L,Y⟩,cy⟩:=p;dsimp only at mG;subst R;clear r1 h1;go_wp2_with fail
 refine D.out.mono ?_;rintro e2 w2 ⟨l,F1,s,F2,rfl,ol,nl,oy,ny,h2,c2⟩;dsimp only at oy h2 ⊢;replace oy:Bu.ow w2 F2 Y s:=oy;replace RES:=(RES.chg c1 (fun hx=>by have:=aW.out _ hx;omega)).chg c2 (fun hx=>by have:=aW.out _ hx;omega);have bL:=c1.size;have cI:=c2.size;have CC:=(Chg.of_below [b] B0).trans (c1.trans c2);clear c1 c2 ol nl D B0;have Z:=DBox.new 31 (Gz Y s) w2 (b:=w2.heap.size) rfl;have b3:Below w2 w2 (w2.alloc (.cells (Gz Y s).toArray 31)):=(Bq _ _).alloc (Br _) _;go_upto_region 2 with fail
 replace RES:=RES.below b3;replace oy:Bu.ow _ F2 Y s:=owB oy b3;replace h2:=h2.below b3;replace CC:=CC.trans (Chg.of_below [b] b3);have fV:=Z.lt;have hW2:w.heap.size<w2.heap.size:=Bk;clear b3;generalize w2.alloc (.cells (Gz Y s).toArray 31)=w3 at *
 have fI:w.heap.size∉F2:=fun hx=>by have:=ny _ hx;omega
 have HF:Hid (∀ W,W=(((w3.setCell ⟨w,0,Ab⟩ (J U Y.now)).setCell ⟨w,1,Ab⟩ (J U Y.seq)).setCell ⟨w,2,Ab⟩ (Aa s.1.a s.1.n s.1.c)).setCell ⟨w,3,Ab⟩ (Aa s.2.a s.2.n s.2.c) ->
   DBox w (Gz Y s) W/\Aet b v code (Y,cy) w (.returned (Du Y s)) W):=by
  rintro W rfl;exact ⟨(((RES.put 0 Bm _).put 1 Bm _).put 2 Bm _).put 3 Bm _,s,F2,rfl,Dt.set4 Bu oy fI,fun x hx=>by have:=ny x hx;omega,(((h2.setNew (by show b<w;omega) _).setNew (by show b<w;omega) _).setNew (by show b<w;omega) _).setNew (by show b<w;omega) _,
   (((CC.setNew (Br _)).setNew (Br _)).setNew (Br _)).setNew (Br _)⟩
 clear CC h2 oy;obtain ⟨⟨B1,m1,e1⟩,⟨B2,m2,e2⟩⟩:=s;have rf:=RES.free;have RES_:=RES.g4;have Z_:=Z.g4;go_wp2;obtain ⟨X,hD⟩:=HF.out _ rfl;exact Aj (Ads X) rfl hD
noncomputable def G5 (code:List UInt8):Yard:=(Oj code (Iu code)).1
def Aev (code:List UInt8) (w:World) (e:Ending) (w':World):Prop:=∃ (s:Sl×Sl),e = .returned (Du (G5 code) s)/\Bu.rd w' w' (G5 code) s/\Below w w w'
theorem Yv (v:Value) (code:List UInt8) (w:World) (hs:code.length<=1048576) (h:Rd I7 w w v code) :
  Calls An 26 #[v] w (Aev code w):=by
 obtain ⟨A,cap,rfl,-⟩:=_root_.id h;obtain ⟨W,aH,RES,B0⟩:=bx1 w 31 [J U 0,J U 0,Aa Ab 0 0,Aa Ab 0 0];replace h:=(h.below B0).more B0.size;go_enter Tryz.func26,Tryz.ntmps26;go_wp2_with fail
 rw [<-aH.out];clear aH;refine (Acf _ code W hs h).mono ?_;rintro e1 w1 ⟨_,rfl,rfl,h1,b1⟩;have CN:=Bp (Aeu W _ code (Iu code) w1 h1);have mY:Hid (G5 code=(Oj code (Iu code)).1):=rfl;generalize Oj code (Iu code)=P at *
 obtain ⟨Y,cy⟩:=P;dsimp only at mY;have hWl:=RES.lt;go_wp2_with fail
 refine CN.out.mono ?_;rintro e2 w2 ⟨s,F2,rfl,oy,ny,h2,cc⟩;dsimp only at oy ⊢;clear CN h;have aC:∀ x,x∈[W.heap.size]->x=W.heap.size:=fun x hx=>by simpa using hx
 replace RES:=(RES.below b1).chg cc (fun hx=>by have:=aC _ hx;omega);have BB:Below w w w2:=(Bs B0 b1).trans (cc.below (by have:=B0.size;have:=b1.size;omega) (fun x hx=>by have:=aC _ hx;omega));have bL:=b1.size;have fI:w.heap.size∉F2:=fun hx=>by have:=ny _ hx;omega
 replace oy:Bu.ow w2 F2 Y s:=oy;have HF:Hid (∀ W,W=(((w2.setCell ⟨w,0,Ab⟩ (J U Y.now)).setCell ⟨w,1,Ab⟩ (J U Y.seq)).setCell ⟨w,2,Ab⟩ (Aa s.1.a s.1.n s.1.c)).setCell ⟨w,3,Ab⟩ (Aa s.2.a s.2.n s.2.c) ->
   DBox w (Gz Y s) W/\Aev code w (.returned (Du Y s)) W):=by
  rintro W rfl;exact ⟨(((RES.put 0 Bm _).put 1 Bm _).put 2 Bm _).put 3 Bm _,s,by rw [mY.out],by rw [mY.out];exact Bu.ow_rd (Dt.set4 Bu oy fI),(((BB.setCell (Br _) _).setCell (Br _) _).setCell (Br _) _).setCell (Br _) _⟩
 clear oy ny BB h1 h2 cc b1 fI mY;obtain ⟨⟨B1,m1,e1⟩,⟨B2,m2,e2⟩⟩:=s;have rf:=RES.free;have RES_:=RES.g4;go_wp2;obtain ⟨X,h3⟩:=HF.out _ rfl;exact Aj (Adt X) rfl h3
theorem Gk {id:Int} {t:Nat} {e:Entry} : Fn id t e=true ↔ e.run=id/\e.task=(t:Int):=by
 unfold Fn;simp
theorem Pu (id:Int) (t:Nat) (e:Entry) (l:List Entry):Dy id t (e :: l)=(if Fn id t e=true then 1 else 0)+Dy id t l:=by
 unfold Dy;by_cases h:Fn id t e=true
 ·rw [if_pos h,List.filter_cons,if_pos h,List.length_cons];omega
 ·rw [if_neg h,List.filter_cons,if_neg h];omega
theorem Adu {id:Int} {t:Nat} {l:List Entry} (h:Dy id t l=0) {e:Entry} (he:e∈l):¬ Fn id t e=true:=by
 unfold Dy at h;rw [List.length_eq_zero_iff,List.filter_eq_nil_iff] at h;exact h e he
theorem Aa1 {r:Run} {t:Nat} {now:Int} (h:Aaw r) (ht:t<r.tasks.length) (hs:(Bx r t).state=2) (hn:0<=now/\now<=999999980):Aaw (Cv r t now)/\r.state=1:=by
 have hl:r.state=1:=Decidable.byContradiction fun hh=>(Aax h.1 hh ht).2.1 hs;have bV:=fun b hb=>Nu h.1 hl (t:=b) hb;have hw:=h.2;obtain ⟨a1,a2,a3,a4,a5,a6⟩:=h.1;have cK:=(C8.1 a2).1;have hwait:1<=r.plan.wait/\r.plan.wait<=20:=by
  unfold D7 at cK;simp only [Bool.and_eq_true,Cp] at cK;omega
 have hat:∀ b,Bx (Cv r t now) b=if b=t then ⟨3,(Bx r t).need,(Bx r t).try_+1,now+r.plan.wait⟩ else Bx r b:=fun b=>by
  unfold Cv;rw [Ie ht,I1,Lc ht,<-J2,Cn ht]
 have hN:∀ b,Fu (Cv r t now) b=Fu r b:=fun b=>by
  show Fi _ _=Fi _ _;apply Kl;intro x;rw [hat];by_cases e:x=t
  ·subst e;rw [if_pos rfl];simp [hs]
  ·rw [if_neg e]
 refine ⟨⟨⟨a1,a2,by simpa [Cv,Hd] using a3,fun b hb=>?_,?_,a6⟩,fun b hb h1=>?_⟩,hl⟩
 ·have bE:b<r.tasks.length:=by simpa [Cv,Hd] using hb
  have h4:=a4 b bE;unfold Gl;rw [hN,hat];show Lh _ _ r.plan.most;by_cases e:b=t
  ·subst e;rw [if_pos rfl];obtain ⟨p1,p2,p3,p4,p5,p6,p7,p8⟩:=h4;have h7:=p7 hs;refine ⟨Bm,p2,by show 0<=(Bx r b).try_+1/\(Bx r b).try_+1<=r.plan.most;omega,fun _=>by show 1<=now+r.plan.wait/\now+r.plan.wait<=1000000000;omega,Bm,Bm,Bm,fun _=>⟨h7.1,by show 1<=(Bx r b).try_+1;omega⟩⟩
  ·rw [if_neg e];exact h4
 ·have c:=fun s=>Nr s ⟨3,r.tasks[t].need,r.tasks[t].try_+1,now+r.plan.wait⟩ r.tasks t ht;rw [Cn ht] at hs;have c1:=c 1;have c2:=c 2;have c3:=c 3;have c4:=c 4;have c5:=c 5;have c6:=c 6;simp only [hs] at c1 c2 c3 c4 c5 c6;simp at c1 c2 c3 c4 c5 c6;show r.state=stL (Hx r.tasks t fun x=>⟨3,x.need,x.try_+1,now+r.plan.wait⟩);rw [Ie ht,a5];unfold stL Ja;rw [Bg,c4,c5,c6];have e:Dd (r.tasks.set t ⟨3,r.tasks[t].need,r.tasks[t].try_+1,now+r.plan.wait⟩) 1+Dd (r.tasks.set t ⟨3,r.tasks[t].need,r.tasks[t].try_+1,now+r.plan.wait⟩) 2+Dd (r.tasks.set t ⟨3,r.tasks[t].need,r.tasks[t].try_+1,now+r.plan.wait⟩) 3=Dd r.tasks 1+Dd r.tasks 2+Dd r.tasks 3:=Bk;rw [e]
 ·have bE:b<r.tasks.length:=by simpa [Cv,Hd] using hb
  rw [hat] at h1 ⊢;by_cases e:b=t
  ·rw [if_pos e] at h1;simp at h1
  ·rw [if_neg e] at h1 ⊢;exact hw b bE h1
theorem Core.start {now seq:Int} {es es':List Entry} {runs:List Run} {e:Entry} (h:Core now seq es runs) (hn:0<=now/\now<=999999980) (hp:es.Perm (e :: es')) {k t:Nat} (hk:k<runs.length) (he:Fn runs[k].id t e=true) (ht:t<runs[k].tasks.length)
  (hs:(Bx runs[k] t).state=2):Core now seq es' (runs.set k (Cv runs[k] t now)):=by
 replace h:=h.perm hp;have bM:=h.runs_nodup;have bP:=Aw hk;obtain ⟨hS,hl⟩:=Aa1 (h.run _ bP) ht hs hn;have hat:∀ b,Bx (Cv runs[k] t now) b=if b=t then ⟨3,(Bx runs[k] t).need,(Bx runs[k] t).try_+1,now+runs[k].plan.wait⟩ else Bx runs[k] b:=fun b=>by
  unfold Cv;rw [Ie ht,I1,Lc ht,<-J2,Cn ht]
 have aK:(Cv runs[k] t now).tasks.length=runs[k].tasks.length:=by simp [Cv,Hd]
 have hwait:1<=runs[k].plan.wait:=by
  have cK:=(C8.1 (h.run _ bP).1.2.1).1;unfold D7 at cK;simp only [Bool.and_eq_true,Cp] at cK;omega
 have h1t:Dy runs[k].id t es'=0:=by
  have h1:=((h.laid _ bP t ht).1 hs).2;rw [Pu,if_pos he] at h1;omega
 have hoth:∀ id b,¬ (id=runs[k].id/\b=t)->Dy id b es'=Dy id b (e :: es'):=fun id b aC=>by
  rw [Pu,if_neg (fun hm=>aC ⟨by rw [<-(Gk.1 hm).1,(Gk.1 he).1],by have h1:=(Gk.1 hm).2;have h2:=(Gk.1 he).2;omega⟩),Nat.zero_add]
 have rH:Cv runs[k] t now∈runs.set k (Cv runs[k] t now):=by
  rw [List.mem_iff_getElem];exact ⟨k,by rw [Bg];exact hk,List.getElem_set_self _⟩
 refine ⟨by rw [Bg];exact h.le8,by rw [Acs hk (show (Cv runs[k] t now).id=runs[k].id from rfl)];exact h.ids,fun r hr=>?_,fun x hx=>h.seqs x (List.mem_cons_of_mem _ hx),(List.nodup_cons.1 (by simpa using h.nodup)).2,fun x hx=>?_,fun r hr b hb=>?_,?_⟩
 ·rcases My bM hk hr with rfl | ⟨h1,_⟩
  ·exact hS
  ·exact h.run r h1
 ·obtain ⟨r,hr,b,hb,hm⟩:=h.home x (List.mem_cons_of_mem _ hx);by_cases cE:r=runs[k]
  ·subst cE;exact ⟨_,rH,b,by rw [aK];exact hb,hm⟩
  ·refine ⟨r,?_,b,hb,hm⟩;obtain ⟨j,hj,rfl⟩:=List.getElem_of_mem hr;have dN:k≠j:=fun e=>cE (by subst e;rfl);rw [List.mem_iff_getElem];exact ⟨j,by rw [Bg];exact hj,by rw [List.getElem_set_ne dN]⟩
 ·rcases My bM hk hr with rfl | ⟨h1,h2⟩
  ·have bE:b<runs[k].tasks.length:=Bk;obtain ⟨a1,a2,a3⟩:=h.laid _ bP b bE;unfold Afv;rw [hat];show _/\(_->Dy runs[k].id b es'=0)/\_;by_cases e2:b=t
   ·subst e2;rw [if_pos rfl];exact ⟨Bm,fun _=>h1t,fun _=>⟨by show now+1<=now+runs[k].plan.wait;omega,Int.le_refl _⟩⟩
   ·rw [if_neg e2];have hE:=hoth runs[k].id b (fun hh=>e2 hh.2);exact ⟨fun cI=>⟨fun x hx hm=>(a1 cI).1 x (List.mem_cons_of_mem _ hx) hm,by show Dy runs[k].id b es'=1;rw [hE];exact (a1 cI).2⟩,fun cI=>by rw [hE];exact a2 cI,a3⟩
  ·obtain ⟨a1,a2,a3⟩:=h.laid r h1 b hb;have hE:=hoth r.id b (fun hh=>h2 (h.index hk h1 hh.1));exact ⟨fun cI=>⟨fun x hx hm=>(a1 cI).1 x (List.mem_cons_of_mem _ hx) hm,by rw [hE];exact (a1 cI).2⟩,fun cI=>by rw [hE];exact a2 cI,a3⟩
 ·have e1:=Qw Jh (Cv runs[k] t now) runs k hk;have e2:=Qw (fun r=>Dd r.tasks 2) (Cv runs[k] t now) runs k hk;have e3:=h.slots;rw [Jr] at e3 ⊢;show _<=40+((runs.set k (Cv runs[k] t now)).map fun r=>Dd r.tasks 2).sum;unfold Lb at e3;have hL:Jh (Cv runs[k] t now)=Jh runs[k]:=by unfold Jh;rw [aK];rfl
  have hc:Dd (Cv runs[k] t now).tasks 2+1=Dd runs[k].tasks 2:=by
   have c2:=Nr 2 ⟨3,runs[k].tasks[t].need,runs[k].tasks[t].try_+1,now+runs[k].plan.wait⟩ runs[k].tasks t ht;rw [Cn ht] at hs;simp only [hs] at c2;simp at c2;have e3:(Cv runs[k] t now).tasks=runs[k].tasks.set t ⟨3,runs[k].tasks[t].need,runs[k].tasks[t].try_+1,now+runs[k].plan.wait⟩:=Ie ht (fun x=>⟨3,x.need,x.try_+1,now+runs[k].plan.wait⟩);rw [e3];exact c2
  simp only [List.length_cons] at e3
  (try dsimp only at e2)
  omega
theorem Core.drop {now seq:Int} {es es' d:List Entry} {runs:List Run} (h:Core now seq es runs) (hp:es.Perm (d ++ es')) (hd:∀ e∈d,∀ r∈runs,∀ t,t<r.tasks.length->Fn r.id t e=true->(Bx r t).state≠2):Core now seq es' runs:=by
 replace h:=h.perm hp;refine ⟨h.le8,h.ids,h.run,fun x hx=>h.seqs x (Bd _ hx),?_,fun x hx=>h.home x (Bd _ hx),fun r hr t ht=>?_,?_⟩
 ·have:=h.nodup
  rw [List.map_append] at this;exact (Ax.1 this).2.1
 ·obtain ⟨a1,a2,a3⟩:=h.laid r hr t ht;refine ⟨fun hs=>⟨fun x hx hm=>(a1 hs).1 x (Bd _ hx) hm,?_⟩,fun hs=>?_,a3⟩
  ·have h1:=(a1 hs).2;rw [Ih] at h1;have h2:Dy r.id t d=0:=by
    unfold Dy;rw [List.length_eq_zero_iff,List.filter_eq_nil_iff];intro e he hm;exact hd e he r hr t ht hm hs
   omega
  ·have h1:=a2 hs;rw [Ih] at h1;omega
 ·have:=h.slots
  rw [A0] at this;omega
theorem Core.forget {now seq:Int} {es:List Entry} {runs:List Run} (h:Core now seq es runs) {k:Nat} (hk:k<runs.length) (hs:runs[k].state≠1):Core now seq (es.filter fun e=>e.run != runs[k].id) (runs.take k ++ runs.drop (k+1)):=by
 have bP:=Aw hk;have hE:runs.take k ++ runs.drop (k+1)=runs.eraseIdx k:=(List.eraseIdx_eq_take_drop_succ ..).symm;have dE:(runs.take k ++ runs.drop (k+1)).Sublist runs:=by rw [hE];exact List.eraseIdx_sublist ..
 have eT:∀ f:Run->Nat,((runs.take k ++ runs.drop (k+1)).map f).sum+f runs[k]=(runs.map f).sum:=fun f=>by
  have e:runs=runs.take k ++ runs[k] :: runs.drop (k+1):=by rw [List.getElem_cons_drop hk,List.take_append_drop]
  conv=>rhs;rw [e]
  simp only [List.map_append,List.sum_append,List.map_cons,List.sum_cons];omega
 have aC:∀ r∈runs.take k ++ runs.drop (k+1),r.id≠runs[k].id:=fun r hr e=>by
  have h1:=h.index hk (dE.subset hr) e;subst h1;have hn:=h.runs_nodup;have e2:runs=runs.take k ++ runs[k] :: runs.drop (k+1):=by rw [List.getElem_cons_drop hk,List.take_append_drop]
  rw [e2] at hn;have h3:=Ax.1 hn;rcases Bh.1 hr with hr | hr
  ·exact h3.2.2 _ hr _ (List.mem_cons_self ..) rfl
  ·exact (List.nodup_cons.1 h3.2.1).1 hr
 have hM:∀ r∈runs.take k ++ runs.drop (k+1),∀ t,Dy r.id t (es.filter fun e=>e.run != runs[k].id)=Dy r.id t es:=fun r hr t=>by
  unfold Dy;rw [List.filter_filter];congr 1;apply List.filter_congr;intro e _;cases hm:Fn r.id t e with
  | false=>rfl
  | true =>
   have h1:=(Gk.1 hm).1;have h2:=aC r hr;rw [h1];simp [h2]
 refine ⟨Nat.le_trans dE.length_le h.le8,h.ids.sublist (dE.map _),fun r hr=>h.run r (dE.subset hr),fun x hx=>h.seqs x (List.mem_filter.1 hx).1,h.nodup.sublist ((List.filter_sublist).map _),fun x hx=>?_,fun r hr t ht=>?_,?_⟩
 ·obtain ⟨h1,h2⟩:=List.mem_filter.1 hx;obtain ⟨r,hr,t,ht,hm⟩:=h.home x h1;refine ⟨r,?_,t,ht,hm⟩;have h3:=(Gk.1 hm).1;have hrk':r≠runs[k]:=fun e=>by
   subst e;simp [h3] at h2
  have e2:runs=runs.take k ++ runs[k] :: runs.drop (k+1):=by rw [List.getElem_cons_drop hk,List.take_append_drop]
  rw [e2] at hr;rcases Bh.1 hr with hr | hr
  ·exact Be _ hr
  ·rcases List.mem_cons.1 hr with hr | hr
   ·exact absurd hr hrk'
   ·exact Bd _ hr
 ·obtain ⟨a1,a2,a3⟩:=h.laid r (dE.subset hr) t ht;exact ⟨fun cI=>⟨fun x hx hm=>(a1 cI).1 x (List.mem_filter.1 hx).1 hm,by rw [hM r hr];exact (a1 cI).2⟩,fun cI=>by rw [hM r hr];exact a2 cI,a3⟩
 ·have h1:=h.slots;have h2:=eT Jh;have h3:=eT (fun r=>Dd r.tasks 2);have h4:=(Oi (h.run _ bP).1 hs).2.1;have h5:Jh runs[k]=0:=if_neg hs;have h6:=List.length_filter_le (fun e:Entry=>e.run != runs[k].id) es;rw [Jr] at h1 ⊢;unfold Lb at *
  (try dsimp only at h3)
  omega
theorem Core.later {now seq:Int} {es:List Entry} {runs:List Run} (h:Core now seq es runs) (hl:∀ r∈runs,∀ t,t<r.tasks.length->(Bx r t).state=3->(Bx r t).until_≠now+1):Core (now+1) seq es runs :=
 ⟨h.le8,h.ids,h.run,h.seqs,h.nodup,h.home,fun r hr t ht=>by
  obtain ⟨a1,a2,a3⟩:=h.laid r hr t ht;exact ⟨a1,a2,fun hs=>by have h1:=a3 hs;have h2:=hl r hr t ht hs;omega⟩,h.slots⟩
theorem Ll {id:Int} {p:Plan} {t:Nat} (ht:t<p.tasks.toNat):Bx (Cl id p) t=Fh p t:=by
 unfold Bx Cl;simp [List.getD_eq_getElem?_getD,ht]
theorem Ab4 {id:Int} {p:Plan} (hid:1<=id/\id<=9999) (hf:Cr p=0):Aaw (Cl id p):=by
 have cK:=(C8.1 hf).1;have ht:=Ee cK;have hmost:1<=p.most:=by
  unfold D7 at cK;simp only [Bool.and_eq_true,Cp] at cK;omega
 have bV:∀ t,t<p.tasks.toNat->(Bx (Cl id p) t).state=1\/(Bx (Cl id p) t).state=2:=fun t h=>by
  rw [Ll h];unfold Fh;dsimp only;split<;>simp
 have nM:∀ s:Int,3<=s->Dd (Cl id p).tasks s=0:=fun s hs=>by
  unfold Dd;rw [List.length_eq_zero_iff,List.filter_eq_nil_iff];intro x hx;obtain ⟨k,hk,rfl⟩:=List.getElem_of_mem hx;have h1:=bV k (by rw [Hb] at hk;exact hk);rw [Cn hk] at h1;simp;omega
 have hN:∀ t,Fu (Cl id p) t=(Dl (Dq p) p.tasks.toNat t).length:=fun t=>by
  unfold Fu Fi;rw [List.filter_eq_self.2]
  ·rfl
  ·intro b hb
   have:=bV b (Pj hb)
   simp;omega
 refine ⟨⟨hid,hf,by rw [Hb];show _=p.tasks;omega,fun t h=>?_,?_,by show (1:Int)≠0;decide⟩,fun t h h1=>?_⟩
 ·rw [Hb] at h;unfold Gl;rw [hN,Ll h];show Lh _ _ p.most;unfold Fh;dsimp only;by_cases z:(Dl (Dq p) p.tasks.toNat t).length=0
  ·rw [if_pos z];exact ⟨Bm,rfl,by simp;omega,Bm,Bm,Bm,fun _=>⟨by simp [z],by show (0:Int)<p.most;omega⟩,Bm⟩
  ·rw [if_neg z];exact ⟨Bm,rfl,by simp;omega,Bm,Bm,fun _=>by show (0:Int)<((Dl (Dq p) p.tasks.toNat t).length:Int);omega,Bm,Bm⟩
 ·show (1:Int)=stL (Cl id p).tasks;have c4:=nM 4 Bo;have c5:=nM 5 Bo;have c6:=nM 6 Bo;unfold stL;rw [if_neg (by rw [c4,Hb];omega),if_neg Bk,if_neg Bk,if_pos ⟨c5,c6⟩]
 ·rw [Hb] at h;rw [Ll h];show (Fh p t).try_<p.most;unfold Fh;show (0:Int)<p.most;omega
theorem Core.submit {now seq:Int} {es:List Entry} {runs:List Run} {id:Int} {p:Plan} (h:Core now seq es runs) (hq:1<=seq) (hid:1<=id/\id<=9999) (hf:Cr p=0) (h8:runs.length<8) (dD:∀ r∈runs,r.id≠id)
  (hroom:Fe runs+es.length+p.tasks.toNat<=40+Lb runs):Core now (seq+(Gi Ez (Cl id p) (Cl id p).tasks.length).length) (Mj seq (Cl id p) (Gi Ez (Cl id p) (Cl id p).tasks.length) ++ es) (runs ++ [Cl id p]):=by
 have hN:=Ab4 hid hf;have bZ:∀ t,Dy id t es=0:=fun t=>by
  unfold Dy;rw [List.length_eq_zero_iff,List.filter_eq_nil_iff];intro e he hm;obtain ⟨r,hr,b,_,eN⟩:=h.home e he;exact dD r hr (by rw [<-(Gk.1 eN).1,(Gk.1 hm).1])
 have hz:∀ t,(Bx Ez t).state=0:=fun t=>by unfold Bx Ez;simp
 refine ⟨by simp;omega,?_,fun r hr=>?_,fun e he=>?_,?_,fun e he=>?_,fun r hr t ht=>?_,?_⟩
 ·rw [List.map_append,Ax];refine ⟨h.ids,Bm,fun a ha b hb e=>?_⟩;obtain ⟨r,hr,rfl⟩:=List.mem_map.1 ha;simp only [List.map_cons,List.map_nil,Av] at hb;exact dD r hr (e.trans hb)
 ·rcases Bh.1 hr with hr | hr
  ·exact h.run r hr
  ·rw [Av.1 hr];exact hN
 ·rcases Bh.1 he with he | he
  ·have:=He he;omega
  ·have:=h.seqs e he;omega
 ·rw [List.map_append,Ax];refine ⟨Pr _ _ _,h.nodup,fun a ha b hb e=>?_⟩;obtain ⟨x,hx,rfl⟩:=List.mem_map.1 ha;obtain ⟨z,hz,rfl⟩:=List.mem_map.1 hb;have h1:=(He hx).2.2.1;have h2:=h.seqs z hz;omega
 ·rcases Bh.1 he with he | he
  ·obtain ⟨h1,h2,h3,h4,t,ht,h5⟩:=He he;exact ⟨Cl id p,Bd _ (Av.2 rfl),t,(Ii.1 ht).1,Gk.2 ⟨h2,h5⟩⟩
  ·obtain ⟨r,hr,t,ht,hm⟩:=h.home e he;exact ⟨r,Be _ hr,t,ht,hm⟩
 ·rcases Bh.1 hr with hr | hr
  ·have aC:r.id≠(Cl id p).id:=dD r hr;obtain ⟨a,b,c⟩:=h.laid r hr t ht;have hM:Dy r.id t (Mj seq (Cl id p) (Gi Ez (Cl id p) (Cl id p).tasks.length) ++ es)=Dy r.id t es:=by
    rw [Ih,V3 aC,Nat.zero_add]
   refine ⟨fun hs=>⟨fun e he hm=>?_,by rw [hM];exact (a hs).2⟩,fun hs=>by rw [hM];exact b hs,c⟩;rcases Bh.1 he with he | he
   ·exact absurd ((Gk.1 hm).1.symm.trans (He he).2.1) aC
   ·exact (a hs).1 e he hm
  ·have jW:=Av.1 hr;subst jW;have dK:t<p.tasks.toNat:=by rw [Hb] at ht;exact ht
   have hM:Dy (Cl id p).id t (Mj seq (Cl id p) (Gi Ez (Cl id p) (Cl id p).tasks.length) ++ es)=if t∈Gi Ez (Cl id p) (Cl id p).tasks.length then 1 else 0:=by
    rw [Ih,Rs _ _ _ _ (St _ _ _),show (Cl id p).id=id from rfl,bZ,Nat.add_zero]
   have fV:(Bx (Cl id p) t).state≠3:=by
    rw [Ll dK];unfold Fh;dsimp only;split<;>decide
   refine ⟨fun hs=>⟨fun e he hm=>?_,?_⟩,fun hs=>?_,fun hs=>absurd hs fV⟩
   ·rcases Bh.1 he with he | he
    ·exact (He he).1
    ·exact absurd hm (Adu (bZ t) he)
   ·rw [hM,if_pos (Ii.2 ⟨ht,hs,by rw [hz];decide⟩)]
   ·rw [hM,if_neg (fun hm=>by have:=(Ii.1 hm).2.1;rcases hs with e | e<;>rw [e] at this<;>cases this)]
 ·have hL:Jh (Cl id p)=p.tasks.toNat:=by unfold Jh;rw [show (Cl id p).state=1 from rfl,if_pos rfl,Hb]
  have hc:(Gi Ez (Cl id p) (Cl id p).tasks.length).length=Dd (Cl id p).tasks 2:=by
   rw [<-Mx];unfold Gi;congr 1;apply List.filter_congr;intro t _;rw [hz];simp
  rw [Jr] at hroom ⊢;unfold Lb at *
  rw [A0,V2];simp only [List.map_append,List.sum_append,List.map_cons,List.map_nil,List.sum_cons,List.sum_nil];omega
theorem Core.runAt {now seq:Int} {es:List Entry} {y:Yard} (h:Core now seq es y.runs) {k:Nat} (hk:k<y.runs.length):Dh y y.runs[k].id=k:=by
 rw [Id h.le8];refine G7 hk (fun j hj=>?_) (by unfold J1;simp);have nN:j<y.runs.length:=Bk;have aC:y.runs[j].id≠y.runs[k].id:=fun e=>by
  have h1:=h.index hk (Aw nN) e
  have:=(List.getElem_inj (h₀:=nN) (h₁:=hk) h.runs_nodup).1 h1
  omega
 unfold J1;simpa using aC
theorem Core.fresh {now seq:Int} {es:List Entry} {y:Yard} (h:Core now seq es y.runs) {k t:Nat} (hk:k<y.runs.length) (ht:t<y.runs[k].tasks.length) {e:Entry} (hm:Fn y.runs[k].id t e=true):Pi y e ↔ (Bx y.runs[k] t).state=2:=by
 obtain ⟨h1,h2⟩:=Gk.1 hm;have h3:=h.runAt hk;have h4:Ip y e.run=y.runs[k]:=Gq hk (by rw [h1];exact h3);unfold Pi;rw [h4,h1,h3,h2,Ap];constructor
 ·intro h;exact h.2.2
 ·intro h;exact ⟨Bk,Bk,h⟩
theorem Yw {α:Type} (f g:α->Nat):∀ l:List α,(l.map fun x=>f x+g x).sum=(l.map f).sum+(l.map g).sum
 | []=>rfl
 | x :: l=>by
  have:=Yw f g l
  simp only [List.map_cons,List.sum_cons];omega
theorem Mk {α:Type} {f g:α->Nat} : ∀ {l:List α},(∀ x∈l,f x=g x)->(l.map f).sum=(l.map g).sum
 | [],_=>rfl
 | x :: l,h=>by
  rw [List.map_cons,List.map_cons,List.sum_cons,List.sum_cons,h x (List.mem_cons_self ..),Mk (fun y hy=>h y (List.mem_cons_of_mem _ hy))]
theorem Nv {α:Type} {f:α->Nat} : ∀ {l:List α},(∀ x∈l,f x=0)->(l.map f).sum=0
 | [],_=>rfl
 | x :: l,h=>by
  rw [List.map_cons,List.sum_cons,h x (List.mem_cons_self ..),Nv (fun y hy=>h y (List.mem_cons_of_mem _ hy))]
theorem Pv {α:Type} {f:α->Nat} {a:α} : ∀ {l:List α},l.Nodup->a∈l->(∀ b∈l,b≠a->f b=0)->(l.map f).sum=f a
 | x :: l,hn,ha,h=>by
  obtain ⟨h1,h2⟩:=List.nodup_cons.1 hn;rw [List.map_cons,List.sum_cons];rcases List.mem_cons.1 ha with rfl | ha
  ·rw [Nv (fun b hb=>h b (List.mem_cons_of_mem _ hb) (fun e=>h1 (by rw [<-e];exact hb)))];rfl
  ·rw [h x (List.mem_cons_self ..) (fun e=>h1 (by rw [e];exact ha)),Pv h2 ha (fun b hb=>h b (List.mem_cons_of_mem _ hb)),Nat.zero_add]
theorem Xl {α:Type} (p:α->Bool):∀ l:List α,(l.map fun x=>if p x=true then 1 else 0).sum=(l.filter p).length
 | []=>rfl
 | x :: l=>by
  have:=Xl p l
  rw [List.map_cons,List.sum_cons,this];by_cases h:p x=true
  ·rw [if_pos h,List.filter_cons,if_pos h,List.length_cons];omega
  ·rw [if_neg h,List.filter_cons,if_neg h];omega
theorem Sw {α:Type} (p:α->Bool):∀ l:List α,(l.filter p).length+(l.filter fun x=>!p x).length=l.length
 | []=>rfl
 | x :: l=>by
  have:=Sw p l
  cases h:p x<;>simp [h]<;>omega
def Pw (runs:List Run) (l:List Entry):Nat:=(runs.map fun r=>((List.range r.tasks.length).map fun t=>if (Bx r t).state=2 then Dy r.id t l else 0).sum).sum
theorem Aa2 (runs:List Run) (e:Entry) (l:List Entry):Pw runs (e :: l)=(runs.map fun r=>((List.range r.tasks.length).map fun t=>if (Bx r t).state=2/\Fn r.id t e=true then 1 else 0).sum).sum+Pw runs l:=by
 unfold Pw;rw [<-Yw];apply Mk;intro r _;rw [<-Yw];apply Mk;intro t _;rw [Pu];by_cases h1:(Bx r t).state=2<;>by_cases h2:Fn r.id t e=true<;>simp [h1,h2]
theorem Sx {now seq:Int} {es:List Entry} {y:Yard} (h:Core now seq es y.runs):∀ l:List Entry,(∀ e∈l,e∈es)->(l.filter (Dx y)).length=Pw y.runs l
 | [],_=>by
  unfold Pw;rw [Nv]
  ·rfl
  ·intro r _;apply Nv;intro t _;split<;>rfl
 | e :: l,hl=>by
  have ih:=Sx h l (fun x hx=>hl x (List.mem_cons_of_mem _ hx));rw [Aa2,<-ih];obtain ⟨r,hr,t,ht,hm⟩:=h.home e (hl e (List.mem_cons_self ..));obtain ⟨k,hk,rfl⟩:=List.getElem_of_mem hr;have hf:=h.fresh hk ht hm;have hg:(y.runs.map fun r=>((List.range r.tasks.length).map fun t=>if (Bx r t).state=2/\Fn r.id t e=true then 1 else 0).sum).sum=if (Bx y.runs[k] t).state=2 then 1 else 0:=by
   rw [Pv h.runs_nodup (Aw hk) (fun b hb aC=>by
    apply Nv;intro u _;rw [if_neg];intro ⟨_,h2⟩;exact aC (h.index hk hb (by rw [<-(Gk.1 h2).1,(Gk.1 hm).1])))]
   rw [Pv List.nodup_range (List.mem_range.2 ht) (fun b hb aC=>by
    rw [if_neg];intro ⟨_,h2⟩;have h3:=(Gk.1 h2).2;have h4:=(Gk.1 hm).2;exact aC Bk)]
   by_cases q:(Bx y.runs[k] t).state=2
   ·rw [if_pos ⟨q,hm⟩,if_pos q]
   ·rw [if_neg (fun hh=>q hh.1),if_neg q]
  rw [hg];by_cases q:(Bx y.runs[k] t).state=2
  ·have hb:Dx y e=true:=D6 (hf.2 q);rw [if_pos q,List.filter_cons,if_pos hb,List.length_cons];omega
  ·have hb:¬ Dx y e=true:=fun hh=>q (hf.1 (Kw.1 hh));rw [if_neg q,List.filter_cons,if_neg hb];omega
theorem Core.stale {now seq:Int} {es:List Entry} {y:Yard} (h:Core now seq es y.runs):Fj y es+Lb y.runs=es.length:=by
 have h1:=Sx h es (fun e he=>he);have h2:Pw y.runs es=Lb y.runs:=by
  unfold Pw Lb;apply Mk;intro r hr;rw [<-Mx,<-Xl];apply Mk;intro t ht;by_cases q:(Bx r t).state=2
  ·rw [if_pos q,if_pos (by simp [q])];exact ((h.laid r hr t (List.mem_range.1 ht)).1 q).2
  ·rw [if_neg q,if_neg (by simp [q])]
 have h3:=Sw (Dx y) es;unfold Fj;omega
theorem Sound.slots {y:Yard} (h:Sound y):Gt y+Lb y.runs=Fe y.runs+y.shelf.flatten.length:=by
 have:=h.core.stale
 unfold Gt Ce;omega
theorem Tt:Sound ⟨0,1,[[],[],[],[]],[]⟩:=by
 refine ⟨⟨rfl,fun l hl=>?_⟩,⟨Bm,Bm,Bm,Bm,Bm,Bm,Bm,by simp [Fe]⟩⟩;have:l=[]:=by simpa using hl
 subst this;exact List.Pairwise.nil
theorem V8 {y:Yard} (h:Sound y) (hq:1<=y.seq) {k:Nat} (hk:k<y.runs.length) {r:Run} (hS:StepR y.runs[k] r):Sound (Gr y k r)/\(Gr y k r).now=y.now/\(y.seq<=(Gr y k r).seq/\(Gr y k r).seq<=y.seq+12):=by
 have e:Gr y k r=(Gi y.runs[k] r r.tasks.length).foldl (fun y t=>J3 y r t) ⟨y.now,y.seq,y.shelf,y.runs.set k r⟩:=by
  unfold Gr Qk;rw [List.getD_eq_getElem?_getD,List.getElem?_eq_getElem hk];rfl
 rw [e];obtain ⟨h1,h2,h3,h4⟩:=Nq r (Gi y.runs[k] r r.tasks.length) ⟨y.now,y.seq,y.shelf,y.runs.set k r⟩;obtain ⟨h5,h6⟩:=V4 r (Gi y.runs[k] r r.tasks.length) ⟨y.now,y.seq,y.shelf,y.runs.set k r⟩ h.sh (fun e he=>(h.core.seqs e he).2);have hC:=h.core.turn hq hk hS;have hl:=Rl y.runs[k] r r.tasks.length;have dS:=(Fo hS.ok.1).2;refine ⟨⟨h5,?_⟩,h1,by rw [h4];dsimp only;omega,by rw [h4];dsimp only;omega⟩;rw [h1,h4,h2];exact hC.perm h6.symm
theorem Ab5 {r:Run} {u:Nat} (hu:u<r.tasks.length):(Bx (Eb r u) u).state≠3:=by
 unfold Eb;split
 ·rw [Ie hu,I1,Lc hu,if_pos rfl];show (2:Int)≠3;decide
 ·rw [Ic (by simp [Hd];exact hu)];exact (Kq _).2.2
structure FailF (z z1:Yard) (n:Nat) (p:Nat->Nat->Prop):Prop where
 sound:Sound z1
 now:z1.now=z.now
 seq:z.seq<=z1.seq/\z1.seq<=z.seq+12 * n
 len:z1.runs.length=z.runs.length
 tasks:∀ j,(Gp z1 j).tasks.length=(Gp z j).tasks.length
 runs:∀ j u,j<z.runs.length->u<(Gp z j).tasks.length->(Bx (Gp z1 j) u).state=3->(Bx (Gp z j) u).state=3/\(Bx (Gp z1 j) u).until_=(Bx (Gp z j) u).until_ /\ ¬ p j u
theorem Ab6 {z:Yard} (h:Sound z) (hq:1<=z.seq) {k t:Nat} (hk:k<z.runs.length) (ht:t<(Gp z k).tasks.length):FailF z (Il z k t) 1 (fun j u=>j=k/\u=t):=by
 by_cases q:(Bx (Gp z k) t).state=3
 ·rw [Mw q];have hf:=h.core.run _ (Aw hk);rw [Fq hk] at q ht ⊢;have hS:=Su hf ht q;obtain ⟨a1,a2,a3⟩:=V8 h hq hk hS;refine ⟨a1,a2,Bk,by rw [Vz,Bg],fun j=>?_,fun j u hj hu hs=>?_⟩
  ·rw [Xi _ _ _ _ hk];split
   ·next e=>subst e;rw [Fq hk];exact Ho _ _
   ·rfl
  ·rw [Xi _ _ _ _ hk] at hs ⊢;by_cases e:k=j
   ·subst e;rw [if_pos rfl] at hs ⊢;rw [Fq hk] at hu ⊢;have h3:=(hS.task u hu).2.2.1 hs;refine ⟨h3.1,h3.2,fun hh=>?_⟩
    have:=hh.2
    subst this;exact Ab5 ht hs
   ·rw [if_neg e] at hs ⊢;exact ⟨hs,rfl,fun hh=>e hh.1.symm⟩
 ·rw [Og q];exact ⟨h,rfl,Bk,rfl,fun _=>rfl,fun j u hj hu hs=>⟨hs,rfl,fun hh=>by obtain ⟨rfl,rfl⟩:=hh;exact q hs⟩⟩
theorem Nw:∀ (l:List (Nat×Nat)) (z:Yard),Sound z->1<=z.seq->(∀ p∈l,p.1<z.runs.length/\p.2<(Gp z p.1).tasks.length)->FailF z (Fz z l) l.length (fun j u=>(j,u)∈l)
 | [],z,h,hq,_=>⟨h,rfl,by show z.seq<=z.seq/\z.seq<=z.seq+12 * ((0:Nat):Int);omega,rfl,fun _=>rfl,fun j u _ _ hs=>⟨hs,rfl,Bm⟩⟩
 | (k,t) :: l,z,h,hq,hl=>by
  have hkt:=hl (k,t) (List.mem_cons_self ..);dsimp only at hkt;obtain ⟨hk,ht⟩:=hkt;have h1:=Ab6 h hq hk ht;have h2:=Nw l (Il z k t) h1.sound (by have:=h1.seq;omega) (fun p hp=>by
   have:=hl p (List.mem_cons_of_mem _ hp)
   rw [h1.len,h1.tasks];exact this)
  have e:Fz z ((k,t) :: l)=Fz (Il z k t) l:=rfl;rw [e];refine ⟨h2.sound,h2.now.trans h1.now,?_,h2.len.trans h1.len,fun j=>(h2.tasks j).trans (h1.tasks j),fun j u hj hu hs=>?_⟩
  ·have a:=h1.seq;have b:=h2.seq;rw [List.length_cons];push_cast;omega
  ·obtain ⟨b1,b2,b3⟩:=h2.runs j u (by rw [h1.len];exact hj) (by rw [h1.tasks];exact hu) hs;obtain ⟨a1,a2,a3⟩:=h1.runs j u hj hu b1;refine ⟨a1,b2.trans a2,fun hm=>?_⟩;rcases List.mem_cons.1 hm with hm | hm
   ·injection hm with e1 e2
    exact a3 ⟨e1,e2⟩
   ·exact b3 hm
theorem Aew {y:Yard} {n k t:Nat} (hk:k<n) (ht:t<(Gp y k).tasks.length) (hb:Sp y (Bx (Gp y k) t)=true):(k,t)∈Gm y n:=by
 unfold Gm Jg;exact List.mem_flatMap.2 ⟨k,List.mem_range.2 hk,List.mem_map.2 ⟨t,List.mem_filter.2 ⟨List.mem_range.2 ht,hb⟩,rfl⟩⟩
theorem Sound.run12 {y:Yard} (h:Sound y) (j:Nat):(Gp y j).tasks.length<=12:=by
 by_cases hj:j<y.runs.length
 ·rw [Fq hj];exact (Fo (h.core.run _ (Aw hj)).1).2
 ·unfold Gp;rw [List.getD_eq_getElem?_getD,List.getElem?_eq_none Bk];simp [Ez]
structure Kept2 (y z:Yard):Prop where
 sound:Sound z
 now:y.now<=z.now/\z.now<=y.now+1
 seq:y.seq<=z.seq/\z.seq<=y.seq+1200
theorem Kept2.refl {y:Yard} (h:Sound y):Kept2 y y:=⟨h,Bk,Bk⟩
theorem Adv {y:Yard} (h:Sound y) (hq:1<=y.seq):Kept2 y (K9 y):=by
 unfold K9;split
 ·have hF:=Nw (Gm y y.runs.length) y h hq (fun p hp=>Rr hp);have hl:=Mh h.run12 y.runs.length;have h8:=h.core.le8;have hs:=hF.seq;show Kept2 y ⟨(Fz y (Gm y y.runs.length)).now+1,(Fz y (Gm y y.runs.length)).seq,(Fz y (Gm y y.runs.length)).shelf,(Fz y (Gm y y.runs.length)).runs⟩;generalize Fz y (Gm y y.runs.length)=z at *
  refine ⟨⟨hF.sound.sh,hF.sound.core.later (fun r hr t ht fV hu=>?_)⟩,by rw [hF.now];dsimp only;omega,by dsimp only;omega⟩;obtain ⟨k,hk,rfl⟩:=List.getElem_of_mem hr;have rE:k<y.runs.length:=by rw [<-hF.len];exact hk
  have cU:=hF.tasks k;have hR:=hF.runs k t rE;rw [Fq hk] at cU hR;obtain ⟨b1,b2,b3⟩:=hR Bk fV;apply b3;refine Aew rE Bk ?_;unfold Sp;rw [hF.now] at hu;simp [b1];omega
 ·exact Kept2.refl h
theorem Adw {y:Yard} (h:Sound y) (hq:1<=y.seq):Kept2 y (Nt y):=by
 unfold Nt;split
 ·have hF:=Nw (Im y y.runs.length) y h hq (fun p hp=>V5 hp);have hl:=Ps h.run12 y.runs.length;have h8:=h.core.le8;have hs:=hF.seq;exact ⟨hF.sound,by rw [hF.now];omega,Bk⟩
 ·exact Kept2.refl h
theorem Rt {y:Yard} (h:Sound y) (hq:1<=y.seq) {k:Nat} (hk:k<y.runs.length) {r:Run} (hS:StepR y.runs[k] r):Kept2 y (Gr y k r):=by
 obtain ⟨a,b,c⟩:=V8 h hq hk hS;exact ⟨a,by rw [b];omega,Bk⟩
theorem Aa3 {y:Yard} {id tk tr:Int} (q:Iq y id tk tr=0):∃ k,∃ hk:k<y.runs.length,Dh y id=(k:Int)/\Ip y id=y.runs[k]/\tk.toNat<y.runs[k].tasks.length/\(Bx y.runs[k] tk.toNat).state=3:=by
 obtain ⟨_,k,hk,h1,h2⟩:=Ab2 q;have hH:Iw y id tk tr:=by
  unfold Iq at q;split at q
  ·cases q
  ·split at q
   ·cases q
   ·split at q
    ·cases q
    ·next hh=>exact Classical.byContradiction fun hn=>hh hn
 unfold Iw at hH;rw [h2] at hH;exact ⟨k,hk,h1,h2,Bk,hH.2.2.1⟩
theorem Adx {y:Yard} (h:Sound y) (hq:1<=y.seq) (id tk tr:Int):Kept2 y (M9 y id tk tr):=by
 unfold M9;split
 ·next q =>
  obtain ⟨k,hk,h1,h2,h3,h4⟩:=Aa3 q;rw [h1,h2,Ap];exact Rt h hq hk (Ab3 (h.core.run _ (Aw hk)) h3 h4)
 ·exact Kept2.refl h
theorem Ady {y:Yard} (h:Sound y) (hq:1<=y.seq) (id tk tr:Int):Kept2 y (M7 y id tk tr):=by
 unfold M7;split
 ·next q =>
  obtain ⟨k,hk,h1,h2,h3,h4⟩:=Aa3 q;rw [h1,h2,Ap];exact Rt h hq hk (Su (h.core.run _ (Aw hk)) h3 h4)
 ·exact Kept2.refl h
theorem Adz {y:Yard} (h:Sound y) (hq:1<=y.seq) (id:Int):Kept2 y (Ka y id):=by
 unfold Ka;split
 ·next q =>
  unfold K6 at q;split at q
  ·cases q
  ·split at q
   ·cases q
   ·next hr =>
    split at q
    ·cases q
    ·next hl =>
     have hl':(Ip y id).state=1:=Decidable.byContradiction hl;rcases Eu y id with hh | ⟨k,hk,h1⟩
     ·exact absurd hh Bk
     have h2:Ip y id=y.runs[k]:=Gq hk h1;rw [h2] at hl' ⊢;rw [h1,Ap];have hf:=h.core.run _ (Aw hk);have hS:=Aa0 hf hl';have hK:=Rt h hq hk hS;have e:Gr y k (Dp y.runs[k] 4)=⟨y.now,y.seq,y.shelf,y.runs.set k (Dp y.runs[k] 4)⟩:=by
      unfold Gr Qk;rw [List.getD_eq_getElem?_getD,List.getElem?_eq_getElem hk];have hz:Gi y.runs[k] (Dp y.runs[k] 4) (Dp y.runs[k] 4).tasks.length=[]:=by
       rw [List.eq_nil_iff_forall_not_mem];intro t ht;obtain ⟨h1,h2,_⟩:=Ii.1 ht;rw [Ic (by simpa [Dp] using h1)] at h2;exact (Kq _).2.1 h2
      show (Gi y.runs[k] _ _).foldl _ _=_;rw [hz];rfl
     rw [e] at hK;exact hK
 ·exact Kept2.refl h
theorem Aex {α:Type} {p:α->Bool} {l:List α} {k:Nat} (h:E6 p l=(k:Int)) (hk:k<l.length):p l[k]=true:=by
 unfold E6 at h;cases q:l.findIdx? p with
 | none=>rw [q] at h;exact absurd h Bm
 | some i =>
  rw [q] at h;have e:i=k:=Int.ofNat.inj h;subst e;exact (List.findIdx?_eq_some_iff_getElem.1 q).2.1
theorem Aey {y:Yard} (h:Sound y) (hq:1<=y.seq) (id:Int) (p:Plan):Kept2 y (Mg y id p):=by
 unfold Mg;split
 ·next q =>
  unfold Mu at q;split at q
  ·cases q
  split at q
  ·cases q
  next hid =>
  split at q
  ·cases q
  next eB =>
  split at q
  ·next hf=>exact absurd q hf
  next hf =>
  split at q
  ·cases q
  next hr =>
  have hf0:Cr p=0:=Classical.not_not.1 hf;have hid':=Cp.1 (show inB id 1 9999=true by cases e:inB id 1 9999<;>simp_all);have hT:=Ee (C8.1 hf0).1;have jW:M8 y p=true:=by cases e:M8 y p<;>simp_all
  unfold M8 at jW;simp only [Bool.and_eq_true,decide_eq_true_eq] at jW;have mZ:=h.slots;have dD:∀ r∈y.runs,r.id≠id:=fun r hr he=>by
   obtain ⟨k,hk,rfl⟩:=List.getElem_of_mem hr
   have:=h.core.runAt hk
   rw [he] at this;omega
  have hC:=h.core.submit hq hid' hf0 jW.1 dD Bk;show Kept2 y ((Gi Ez (Cl id p) (Cl id p).tasks.length).foldl (fun y t=>J3 y (Cl id p) t) ⟨y.now,y.seq,y.shelf,y.runs ++ [Cl id p]⟩);obtain ⟨h1,h2,h3,h4⟩:=Nq (Cl id p) (Gi Ez (Cl id p) (Cl id p).tasks.length) ⟨y.now,y.seq,y.shelf,y.runs ++ [Cl id p]⟩;obtain ⟨h5,h6⟩:=V4 (Cl id p) (Gi Ez (Cl id p) (Cl id p).tasks.length) ⟨y.now,y.seq,y.shelf,y.runs ++ [Cl id p]⟩ h.sh (fun e he=>(h.core.seqs e he).2);have hl:=Rl Ez (Cl id p) (Cl id p).tasks.length;have dS:=Hb id p;refine ⟨⟨h5,?_⟩,by rw [h1];dsimp only;omega,by rw [h4];dsimp only;omega⟩;rw [h1,h4,h2];exact hC.perm h6.symm
 ·exact Kept2.refl h
theorem Nx (p:Entry->Bool):∀ s:List (List Entry),(s.map fun l=>l.filter p).flatten=s.flatten.filter p
 | []=>rfl
 | l :: s=>by rw [List.map_cons,List.flatten_cons,List.flatten_cons,List.filter_append,Nx p s]
theorem Ad0 {y:Yard} (h:Sound y) (id:Int):Kept2 y (Kb y id):=by
 unfold Kb;split
 ·next q =>
  unfold K7 at q;split at q
  ·cases q
  split at q
  ·cases q
  next eB =>
  split at q
  ·cases q
  next hl =>
  rcases Eu y id with hh | ⟨k,hk,h1⟩
  ·exact absurd hh Bk
  have h2:Ip y id=y.runs[k]:=Gq hk h1;rw [h2] at hl;have hidk:y.runs[k].id=id:=by
   rw [Id h.core.le8] at h1
   have:=Aex h1 hk
   unfold J1 at this;simpa using this
  rw [h1,Ap];have hC:=h.core.forget hk hl;rw [hidk] at hC;refine ⟨⟨⟨by simp [h.sh.four],fun l hl=>?_⟩,?_⟩,by dsimp only;omega,by dsimp only;omega⟩
  ·obtain ⟨m,hm,rfl⟩:=List.mem_map.1 hl;exact (h.sh.sort m hm).filter _
  ·show Core y.now y.seq (y.shelf.map (Di id)).flatten _;rw [show y.shelf.map (Di id)=y.shelf.map (fun l=>l.filter fun e=>e.run != id) from rfl,Nx];exact hC
 ·exact Kept2.refl h
theorem Ny {y:Yard} (h:Sound y) {i:Nat} (hi:i<4):Sound (By y i):=by
 have rP:i<y.shelf.length:=by rw [h.sh.four];exact hi
 have hg:y.shelf.getD i []=y.shelf[i]:=Es rP;obtain ⟨R,hR,hS⟩:=Mi y.shelf i rP;refine ⟨h.sh.set ((h.sh.at_ i).filter _) i,?_⟩;show Core y.now y.seq (y.shelf.set i ((y.shelf.getD i []).filter fun e=>Dx y e)).flatten y.runs;rw [hg];refine Core.perm (es:=(y.shelf[i].filter fun e=>Dx y e) ++ R) ?_ (hS _).symm;refine h.core.drop (d:=y.shelf[i].filter fun e=>!Dx y e) ?_ (fun e he r hr t ht hm hs=>?_)
 ·refine hR.trans ?_;rw [<-List.append_assoc];exact ((List.filter_append_perm (fun e=>Dx y e) y.shelf[i]).symm.trans List.perm_append_comm).append_right R
 ·obtain ⟨k,hk,rfl⟩:=List.getElem_of_mem hr;have h1:=(List.mem_filter.1 he).2;have h2:Dx y e=true:=D6 ((h.core.fresh hk ht hm).2 hs);rw [h2] at h1;cases h1
theorem Yx {y:Yard} (h:Sound y) {home v:Nat} (hh:home<4) (hv:v<4) (aC:v≠home):Sound (D4 home y v):=by
 unfold D4;split
 ·have hz:=Ny h hv;generalize By y v=z at *
  dsimp only;have hv':v<z.shelf.length:=by rw [hz.sh.four];exact hv
  rw [Es hv'];obtain ⟨R,hR,hS⟩:=Mi z.shelf v hv';have pP:home<(z.shelf.set v (z.shelf[v].drop (Cw z.shelf[v]))).length:=by rw [Bg,hz.sh.four];exact hh
  have bL:Shelves (z.shelf.set v (z.shelf[v].drop (Cw z.shelf[v]))):=hz.sh.set ((hz.sh.sort _ (Aw hv')).sublist (List.drop_sublist _ _)) v;have pZ:=hS (z.shelf[v].drop (Cw z.shelf[v]));have dI:Ls (z.shelf[v].take (Cw z.shelf[v])):=(hz.sh.sort _ (Aw hv')).sublist (List.take_sublist _ _);have hfew:=hz.core.few;have bM:=hz.core.nodup;have eA:(z.shelf.flatten).Perm (z.shelf[v].take (Cw z.shelf[v]) ++ (z.shelf.set v (z.shelf[v].drop (Cw z.shelf[v]))).flatten):=by
   refine hR.trans ?_;conv=>lhs;rw [<-List.take_append_drop (Cw z.shelf[v]) z.shelf[v]]
   rw [List.append_assoc];exact pZ.symm.append_left _
  generalize z.shelf.set v (z.shelf[v].drop (Cw z.shelf[v]))=s1 at *
  generalize z.shelf[v].take (Cw z.shelf[v])=tk at *
  have pJ:s1.getD home []=s1[home]:=by rw [List.getD_eq_getElem?_getD,List.getElem?_eq_getElem pP];rfl
  rw [pJ];obtain ⟨R2,hR2,hS2⟩:=Mi s1 home pP;have hP:(z.shelf.flatten).Perm (s1[home] ++ tk ++ R2):=by
   refine eA.trans ?_;refine (hR2.append_left tk).trans ?_;rw [<-List.append_assoc];exact List.perm_append_comm.append_right R2
  have aK:=hP.length_eq;have hnd2:=(hP.map (·.seq)).nodup_iff.1 bM;rw [List.map_append] at hnd2;simp only [A0] at aK;obtain ⟨m1,m2⟩:=Ab1 (bL.sort _ (Aw pP)) (Ax.1 hnd2).1 Bk;refine ⟨bL.set m1 home,?_⟩;exact hz.core.perm (hP.trans ((m2.symm.append_right R2).trans (hS2 _).symm))
 ·exact h
theorem Nz {home:Nat} (hh:home<4):∀ (l:List Nat) (z:Yard),Sound z->(∀ v∈l,v<4/\v≠home)->Sound (l.foldl (D4 home) z)
 | [],_,h,_=>h
 | v :: l,z,h,hl=>Nz hh l _ (Yx h hh (hl v (List.mem_cons_self ..)).1 (hl v (List.mem_cons_self ..)).2) (fun x hx=>hl x (List.mem_cons_of_mem _ hx))
theorem Xm {y:Yard} (h:Sound y) (worker draw:Int):Kept2 y (Gv y worker draw).1:=by
 unfold Gv;split
 ·exact Kept2.refl h
 next hp =>
 split
 ·exact Kept2.refl h
 next hw =>
 have hP:Dn y:=Classical.not_not.1 hp;have gJ:=Cp.1 (show inB worker 0 99=true by cases e:inB worker 0 99<;>simp_all);obtain ⟨wk,rfl⟩:=Aq gJ.1;have jD:(wk:Int) % 4=((wk % 4:Nat):Int):=Bk;have hh:=Nat.mod_lt wk (show 0<4 by decide);rw [jD,Ap];generalize wk % 4=home at *
 have hG:Ir y (home:Int) draw=(Dz home draw).foldl (D4 home) (By y home):=by unfold Ir;rw [Ap]
 have eU:∀ v∈Dz home draw,v<4/\v≠home:=fun v hv=>⟨K2 v hv,by have:=K3 (home:=(home:Int)) (draw:=draw) Bk Bk v hv;omega⟩
 have hS:Sound (Ir y (home:Int) draw):=by rw [hG];exact Nz hh _ _ (Ny h hh) eU
 have aM:Pol y home (Ir y (home:Int) draw):=by rw [hG];exact Pol.fold hh _ _ (Pol.start hP hh) eU
 generalize Ir y (home:Int) draw=z at *
 have eY:home<z.shelf.length:=by rw [hS.sh.four];exact hh
 unfold Lj;have fL:=aM.fresh;rw [Es eY] at fL ⊢;cases hl:z.shelf[home] with
 | nil=>exact ⟨hS,by show y.now<=z.now/\_;rw [aM.now];show y.now<=y.now/\z.now<=_;rw [aM.now];omega,by show y.seq<=z.seq/\z.seq<=_;rw [aM.seq];omega⟩
 | cons e rest =>
  rw [hl] at fL;have hfe:=fL e (List.mem_cons_self ..);rw [<-Li aM.runs] at hfe;have hfp:=Kw.1 hfe;obtain ⟨R,hR,hSt⟩:=Mi z.shelf home eY;rw [hl] at hR;have dV:e∈z.shelf.flatten:=hR.mem_iff.2 Bm;obtain ⟨r,hr,t,ht,hm⟩:=hS.core.home e dV;obtain ⟨k,hk,rfl⟩:=List.getElem_of_mem hr;obtain ⟨m1,m2⟩:=Gk.1 hm;have h1:=hS.core.runAt hk;have h2:Ip z e.run=z.runs[k]:=Gq hk (by rw [m1];exact h1);have bV:=(hS.core.fresh hk ht hm).1 hfp;have hC:=hS.core.start (es':=rest ++ R) (by rw [aM.now];exact hP.1) (by simpa using hR) hk hm ht bV;show Kept2 y ⟨z.now,z.seq,z.shelf.set home rest,z.runs.set (Dh z e.run).toNat (Cv (Ip z e.run) e.task.toNat z.now)⟩;rw [h2,m1,h1,m2,Ap,Ap];refine ⟨⟨hS.sh.set ?_ home,hC.perm (hSt rest).symm⟩,by show y.now<=z.now/\z.now<=_;rw [aM.now];omega,by show y.seq<=z.seq/\z.seq<=_;rw [aM.seq];omega⟩
  have:=hS.sh.sort _ (Aw eY)
  rw [hl] at this;exact (List.pairwise_cons.1 this).2
theorem Afl {y:Yard} (h:Sound y) (hq:1<=y.seq) (d:Deed):Kept2 y (doO y d).1:=by
 unfold doO;split
 ·exact Kept2.refl h
 split
 ·exact Aey h hq _ _
 ·exact Xm h _ _
 ·exact Adx h hq _ _ _
 ·exact Ady h hq _ _ _
 ·exact Adv h hq
 ·exact Adz h hq _
 ·exact Ad0 h _
 ·exact Adw h hq
theorem Ab7 {y:Yard} (h:Sound y) (worker draw:Int):(∃ c,c≠0/\(Gv y worker draw).2=⟨c,0,0,0⟩) \/
  ∃ (z:Yard) (S:List (List Entry)) (k t:Nat) (hk:k<z.runs.length),t<z.runs[k].tasks.length/\Gv y worker draw=(⟨z.now,z.seq,S,z.runs.set k (Cv z.runs[k] t z.now)⟩,⟨0,z.runs[k].id,t,(Bx z.runs[k] t).try_+1⟩):=by
 unfold Gv;split
 ·exact .inl ⟨8,Bo,rfl⟩
 next hp =>
 split
 ·exact .inl ⟨5,Bo,rfl⟩
 next hw =>
 have hP:Dn y:=Classical.not_not.1 hp;have gJ:=Cp.1 (show inB worker 0 99=true by cases e:inB worker 0 99<;>simp_all);obtain ⟨wk,rfl⟩:=Aq gJ.1;have jD:(wk:Int) % 4=((wk % 4:Nat):Int):=Bk;have hh:=Nat.mod_lt wk (show 0<4 by decide);rw [jD,Ap];generalize wk % 4=home at *
 have hG:Ir y (home:Int) draw=(Dz home draw).foldl (D4 home) (By y home):=by unfold Ir;rw [Ap]
 have eU:∀ v∈Dz home draw,v<4/\v≠home:=fun v hv=>⟨K2 v hv,by have:=K3 (home:=(home:Int)) (draw:=draw) Bk Bk v hv;omega⟩
 have hS:Sound (Ir y (home:Int) draw):=by rw [hG];exact Nz hh _ _ (Ny h hh) eU
 generalize Ir y (home:Int) draw=z at *
 have eY:home<z.shelf.length:=by rw [hS.sh.four];exact hh
 unfold Lj;rw [Es eY];cases hl:z.shelf[home] with
 | nil=>exact .inl ⟨9,Bo,rfl⟩
 | cons e rest =>
  obtain ⟨R,hR,hSt⟩:=Mi z.shelf home eY;rw [hl] at hR;have dV:e∈z.shelf.flatten:=hR.mem_iff.2 Bm;obtain ⟨r,hr,t,ht,hm⟩:=hS.core.home e dV;obtain ⟨k,hk,rfl⟩:=List.getElem_of_mem hr;obtain ⟨m1,m2⟩:=Gk.1 hm;have h1:=hS.core.runAt hk;have h2:Ip z e.run=z.runs[k]:=Gq hk (by rw [m1];exact h1);refine .inr ⟨z,z.shelf.set home rest,k,t,hk,ht,?_⟩;show (_,_)=(_,_)
  rw [h2,m1,h1,m2,Ap,Ap]
theorem Sound.none {y:Yard} (h:Sound y):Dh y 0 = -1:=by
 rw [Id h.core.le8];refine Hg fun j hj=>?_
 have:=(h.core.run _ (Aw hj)).1.1
 unfold J1;simp only [beq_eq_false_iff_ne];omega
theorem Ab8 {y:Yard} (h:Sound y) (worker draw:Int) (T:ByteArray):∀ z r,Gv y worker draw=(z,r)->Ex z r.run r.task T=if r.code=0 then (⟨r.run,r.task,r.try_,T⟩,true) else (⟨0,0,0,⟨#[]⟩⟩,false):=by
 intro z r e;have hK:=(Xm h worker draw).sound;rw [e] at hK;rcases Ab7 h worker draw with ⟨c,hc,h1⟩ | ⟨z1,S,k,t,hk,ht,h1⟩
 ·rw [e] at h1;dsimp only at h1;subst h1;rw [if_neg hc];unfold Ex;rw [if_neg (by unfold Sb;rw [hK.none];simp)]
 ·rw [e] at h1;obtain ⟨rfl,rfl⟩:=Prod.mk.inj h1;rw [if_pos rfl];have fR:k<(z1.runs.set k (Cv z1.runs[k] t z1.now)).length:=by rw [Bg];exact hk
  have hat:=hK.core.runAt (k:=k) fR;simp only [List.getElem_set_self] at hat;have hid:(Cv z1.runs[k] t z1.now).id=z1.runs[k].id:=rfl;rw [hid] at hat;have hG:Nn ⟨z1.now,z1.seq,S,z1.runs.set k (Cv z1.runs[k] t z1.now)⟩ (k:Int)=Cv z1.runs[k] t z1.now:=by rw [U4 fR];simp only [List.getElem_set_self]
  have cU:t<(Cv z1.runs[k] t z1.now).tasks.length:=by rw [K5];exact ht
  have bV:(Cv z1.runs[k] t z1.now).tasks[t].state=3/\(Cv z1.runs[k] t z1.now).tasks[t].try_=(Bx z1.runs[k] t).try_+1:=by
   refine ⟨?_,by rw [Vq _ _ _ ht,Cn ht]⟩;unfold Cv;simp only [Ie ht,List.getElem_set_self]
  have hh:Sb ⟨z1.now,z1.seq,S,z1.runs.set k (Cv z1.runs[k] t z1.now)⟩ z1.runs[k].id t=true:=by
   unfold Sb;rw [hat,hG,Np cU,bV.1];simp only [Bool.and_eq_true,decide_eq_true_eq,Cp];exact ⟨⟨Bk,Bk,Bk⟩,trivial⟩
  unfold Ex;rw [if_pos hh,hat,hG,Np cU,bV.2]
theorem Qy (code:List UInt8) (c:Cur):∀ n,Sound (Ei code c n).1.2/\1<=(Ei code c n).1.2.seq
 | 0=>⟨Tt,show (1:Int)<=1 by decide⟩
 | n+1=>by
  obtain ⟨h1,h2⟩:=Qy code c n;have hk:=Afl h1 h2 (En code (Ei code c n).1.2 (Ei code c n).2).1;exact ⟨hk.sound,by have:=hk.seq;show 1<=(doO _ _).1.seq;omega⟩
end Go.Proofs.YtonlnjdempbfoaaGreat
