/-
  Runs that stand in a yard as they should: the program's walk and the reference's. Copies of shelves and of runs, of the program and of the reference. Written by
-/
import Derived.Test.YtonlnjdempbfoaaGreatZFe0
import Derived.Test.YtonlnjdempbfoaaGreatZFe1
import Derived.Test.YtonlnjdempbfoaaGreatZFe2
import Derived.Test.YtonlnjdempbfoaaGreatZFe3
import Derived.Test.YtonlnjdempbfoaaGreatZFe4
namespace Go.Proofs.YtonlnjdempbfoaaGreat
open Go.RowKit
set_option maxRecDepth 100000
set_option maxHeartbeats 4000000
set_option linter.unusedVariables false
set_option linter.unusedSimpArgs false
open Value renaming int->J,slice->Aa
open IntKind renaming i64->U
open Option renaming none->Ab,some->Ac
open Below renaming setCell->Ad,alloc->Ae
open Nat renaming zero_le->Ag,le_trans->Ah,lt_of_lt_of_le->Ai
open Go renaming wpQuiet_nil->Ak
open Go.Proofs.Tryz renaming prog->An
open IntWalk renaming i64_in->Ar
open List renaming length_map->Au,mem_singleton->Av,getElem_mem->Aw,nodup_append->Ax,length_take->Az,length_append->A0,mem_append_right->Bd,mem_append->Bh
theorem U8 {now:Int} {r:Run} {es:List Entry} {t k:Nat} (ht:t<r.tasks.length) (h2:r.tasks[t].state=2) (hk:k<es.length) (hm:Fn r.id t es[k]=true) (hp:¬ es[k].prio=r.plan.prio):¬ Jk now r es:=by
 intro h;have h3:=(h t ht).1;rw [Cn ht] at h3;exact hp ((h3 h2).1 _ (Aw hk) hm)
theorem U9 {now:Int} {r:Run} {es:List Entry} {t:Nat} (ht:t<r.tasks.length) (h2:r.tasks[t].state=2) (hm:¬ Dy r.id t es=1):¬ Jk now r es:=by
 intro h;have h3:=(h t ht).1;rw [Cn ht] at h3;exact hm (h3 h2).2
theorem Va {now:Int} {r:Run} {es:List Entry} {t:Nat} (ht:t<r.tasks.length) (h2:r.tasks[t].state=3) (hm:inB r.tasks[t].until_ (now+1) (now+r.plan.wait)=false):¬ Jk now r es:=by
 intro h;have h3:=(h t ht).2;rw [Cn ht] at h3
 have:=Cp.2 (h3 h2)
 rw [hm] at this;cases this
theorem N6 {now:Int} {r:Run} {es:List Entry} {t:Nat} (ht:t<r.tasks.length) (h1:r.tasks[t].state=2->(∀ j (hj:j<es.length),Fn r.id t es[j]=true->es[j].prio=r.plan.prio)/\Dy r.id t es=1)
  (h2:r.tasks[t].state=3->inB r.tasks[t].until_ (now+1) (now+r.plan.wait)=true):On now r es t:=by
 unfold On;rw [Cn ht];refine ⟨fun h=>⟨fun e he hm=>?_,(h1 h).2⟩,fun h=>Cp.1 (h2 h)⟩;obtain ⟨j,hj,rfl⟩:=List.getElem_of_mem he;exact (h1 h).1 j hj hm
def Is (r:Run) (t:Nat) (es:List Entry) (k:Nat):Prop:=∀ j (hj:j<es.length),j<k->Fn r.id t es[j]=true->es[j].prio=r.plan.prio
theorem Jl {r:Run} {t:Nat} {es:List Entry} {k:Nat} (h:Is r t es k) (hk:k<es.length) (hp:Fn r.id t es[k]=true->es[k].prio=r.plan.prio):Is r t es (k+1):=by
 intro j hj dN hm;by_cases e:j=k
 ·subst e;exact hp hm
 ·exact h j hj Bk hm
theorem Wi (y:Yard) (s:Sl×Sl) (r:Run) (s2:Sl×Sl) (es:List Entry) (s3:Sl) (w:World) (dS:r.tasks.length<=2000000) (pA:es.length<=2000000) (hn:0<=y.now/\y.now<=999999980) (hw:1<=r.plan.wait/\r.plan.wait<=20)
  (h':Co.rd w w r s2) (h3:Rd Cu w w s3.v es) :
  Calls An 120 #[Du y s,Hc r s2,Aa s3.a s3.n s3.c] w fun e w'=>e = .returned (.bool (tf (Jk y.now r es)))/\Below w w w':=by
 obtain ⟨⟨A1,n1,c1⟩,⟨A2,n2,c2⟩⟩:=s;obtain ⟨⟨A4,n4,c4⟩,⟨A5,n5,c5⟩⟩:=s2;obtain ⟨A6,n6,c6⟩:=s3;obtain rfl:n5=r.tasks.length:=RdL.at1 (s:=⟨A5,n5,c5⟩) h'.2;obtain rfl:n6=es.length:=RdL.at1 (s:=⟨A6,n6,c6⟩) (Ki h3);have h2:RdL Eo w w (Aa A5 r.tasks.length c5) r.tasks:=h'.2;have h3:RdL Cg w w (Aa A6 es.length c6) es:=Ki h3;clear h';obtain ⟨W,aH,X,R,B0⟩:=bx2 w 31 [J U y.now,J U y.seq,Aa A1 n1 c1,Aa A2 n2 c2] 89 [J U r.id,J U r.plan.prio,J U r.plan.most,J U r.plan.wait,J U r.plan.tasks,Aa A4 n4 c4,J U r.state,Aa A5 r.tasks.length c5];have R_l:=R.lt;go_enter Tryz.func120,Tryz.ntmps120;go_wp2;rw [<-aH.out];clear aH;go_loopw [15] (fun i wr=>∃ k:Nat,k<=r.tasks.length/\i = J U k/\Hid (∀ t,t<k->On y.now r es t)/\Below W W wr) (fun i _=>r.tasks.length - (intOf i).toNat);case atStart=>exact ⟨0,Ag _,rfl,fun t ht=>absurd ht Bk,Bq _ _⟩
 case round =>
  obtain ⟨t,hk,rfl,aU,hb⟩:=hrel;by_cases aA:t<r.tasks.length
  ·have aB:(t:Int)<(r.tasks.length:Int):=Bk;obtain ⟨b,o,_,hA5,aG,_,d0,d1,d2,d3⟩:=(h2.below (Bs B0 hb)).task aA;subst hA5;have bL:b<wr:=Ai aG (Bs B0 hb).size;have T:=DBox.new 138 [J U r.tasks[t].state,J U r.tasks[t].need,J U r.tasks[t].try_,J U r.tasks[t].until_] wr rfl;have ha:Below wr wr (wr.alloc (.cells #[J U r.tasks[t].state,J U r.tasks[t].need,J U r.tasks[t].try_,J U r.tasks[t].until_] 138)):=(Bq _ _).alloc (Br _) _;go_wp2;generalize wr.alloc (.cells #[J U r.tasks[t].state,J U r.tasks[t].need,J U r.tasks[t].try_,J U r.tasks[t].until_] 138)=W2 at *
   have Hb2:=Bs hb ha;clear d0 d1 d2 d3 bL;go_loopw [9,22] (fun n i wq=>∃ j:Nat,j<=es.length/\i = J U j/\n = J U (Dy r.id t (es.take j):Nat)/\Hid (r.tasks[t].state=2->Is r t es j)/\Below W2 W2 wq) (fun _ i _=>es.length - (intOf i).toNat);case atStart=>exact ⟨0,Ag _,rfl,rfl,fun _ j hj h0=>absurd h0 Bk,Bq _ _⟩
   case round =>
    obtain ⟨j,hj,rfl,rfl,nZ,aF⟩:=hrel;have hmn:=Zh r.id t (es.take j);rw [Az] at hmn;have X:=(X.below Hb2).below aF;have R:=(R.below Hb2).below aF;replace T:=T.below aF;have X_:=X.g4;obtain ⟨R_0,R_1,R_2,R_3,R_4,R_5,R_6,R_7,R_l⟩:=R.g8;have T_:=T.g4;have B1:=Bs (Bs B0 Hb2) aF;by_cases cQ:j<es.length
    ·have gF:(j:Int)<(es.length:Int):=Bk;obtain ⟨b6,o6,_,hA6,hbb6,_,f0,f1,f2,f3⟩:=(h3.below B1).entry cQ;subst hA6;have nD:b6<wr:=Ai hbb6 B1.size;have hE:Below wr wr (wr.alloc (.cells #[J U es[j].prio,J U es[j].seq,J U es[j].run,J U es[j].task] 93)):=(Bq _ _).alloc (Br _) _;have HM:Hid (Fn r.id t es[j]=((es[j].run == r.id) && (es[j].task == (t:Int)))):=rfl;have HY:=Bp (Wy (id:=r.id) (t:=t) cQ);have HN:=Bp (Zg (id:=r.id) (t:=t) cQ);cases q1:(es[j].run == r.id)
     ·have hm:Fn r.id t es[j]=false:=by rw [HM.out,q1];rfl
      have S:=Bp (HN.out hm);have S2:Hid (r.tasks[t].state=2->Is r t es (j+1)):=fun h2=>Jl (nZ.out h2) cQ (fun hh=>by rw [hm] at hh;cases hh);clear hm;go_wp2;first
       | exact ⟨⟨j+1,Bk,by go_num,by rw [S.out],S2,Bs aF hE⟩,by simp [intOf];omega⟩
       | (refine ⟨?_,by simp [intOf];omega⟩;(repeat apply Exists.intro);first | exact ⟨⟨j+1,Bk,by go_num,by rw [S.out],S2,Bs aF hE⟩,rfl⟩ | exact ⟨⟨j+1,Bk,by go_num,by rw [S.out],S2,Bs aF hE⟩,rfl,rfl⟩ | exact ⟨⟨j+1,Bk,by go_num,by rw [S.out],S2,Bs aF hE⟩,rfl,rfl,rfl⟩ | exact ⟨⟨j+1,Bk,by go_num,by rw [S.out],S2,Bs aF hE⟩,rfl,rfl,rfl,rfl⟩ | exact ⟨⟨j+1,Bk,by go_num,by rw [S.out],S2,Bs aF hE⟩,rfl,rfl,rfl,rfl,rfl⟩ | exact ⟨⟨j+1,Bk,by go_num,by rw [S.out],S2,Bs aF hE⟩,rfl,rfl,rfl,rfl,rfl,rfl⟩ | exact ⟨⟨j+1,Bk,by go_num,by rw [S.out],S2,Bs aF hE⟩,rfl,rfl,rfl,rfl,rfl,rfl,rfl⟩)
     cases q2:(es[j].task == (t:Int))
     ·have hm:Fn r.id t es[j]=false:=by rw [HM.out,q1,q2];rfl
      have S:=Bp (HN.out hm);have S2:Hid (r.tasks[t].state=2->Is r t es (j+1)):=fun h2=>Jl (nZ.out h2) cQ (fun hh=>by rw [hm] at hh;cases hh);clear hm;go_wp2;first
       | exact ⟨⟨j+1,Bk,by go_num,by rw [S.out],S2,Bs aF hE⟩,by simp [intOf];omega⟩
       | (refine ⟨?_,by simp [intOf];omega⟩;(repeat apply Exists.intro);first | exact ⟨⟨j+1,Bk,by go_num,by rw [S.out],S2,Bs aF hE⟩,rfl⟩ | exact ⟨⟨j+1,Bk,by go_num,by rw [S.out],S2,Bs aF hE⟩,rfl,rfl⟩ | exact ⟨⟨j+1,Bk,by go_num,by rw [S.out],S2,Bs aF hE⟩,rfl,rfl,rfl⟩ | exact ⟨⟨j+1,Bk,by go_num,by rw [S.out],S2,Bs aF hE⟩,rfl,rfl,rfl,rfl⟩ | exact ⟨⟨j+1,Bk,by go_num,by rw [S.out],S2,Bs aF hE⟩,rfl,rfl,rfl,rfl,rfl⟩ | exact ⟨⟨j+1,Bk,by go_num,by rw [S.out],S2,Bs aF hE⟩,rfl,rfl,rfl,rfl,rfl,rfl⟩ | exact ⟨⟨j+1,Bk,by go_num,by rw [S.out],S2,Bs aF hE⟩,rfl,rfl,rfl,rfl,rfl,rfl,rfl⟩)
     have hm:Fn r.id t es[j]=true:=by rw [HM.out,q1,q2];rfl
     have S:=Bp (HY.out hm);have HM2:=Bp hm;clear hm;by_cases q3:r.tasks[t].state=2
     ·have q3':(r.tasks[t].state == 2)=true:=beq_iff_eq.2 q3;by_cases q4:es[j].prio=r.plan.prio
      ·have q4':(es[j].prio != r.plan.prio)=false:=by simp [q4]
       have S2:Hid (r.tasks[t].state=2->Is r t es (j+1)):=fun h2=>Jl (nZ.out h2) cQ (fun _=>q4);clear q3 q4;go_wp2;first
        | exact ⟨⟨j+1,Bk,by go_num,by rw [S.out];go_num,S2,Bs aF hE⟩,by simp [intOf];omega⟩
        | (refine ⟨?_,by simp [intOf];omega⟩;(repeat apply Exists.intro);first | exact ⟨⟨j+1,Bk,by go_num,by rw [S.out];go_num,S2,Bs aF hE⟩,rfl⟩ | exact ⟨⟨j+1,Bk,by go_num,by rw [S.out];go_num,S2,Bs aF hE⟩,rfl,rfl⟩ | exact ⟨⟨j+1,Bk,by go_num,by rw [S.out];go_num,S2,Bs aF hE⟩,rfl,rfl,rfl⟩ | exact ⟨⟨j+1,Bk,by go_num,by rw [S.out];go_num,S2,Bs aF hE⟩,rfl,rfl,rfl,rfl⟩ | exact ⟨⟨j+1,Bk,by go_num,by rw [S.out];go_num,S2,Bs aF hE⟩,rfl,rfl,rfl,rfl,rfl⟩ | exact ⟨⟨j+1,Bk,by go_num,by rw [S.out];go_num,S2,Bs aF hE⟩,rfl,rfl,rfl,rfl,rfl,rfl⟩ | exact ⟨⟨j+1,Bk,by go_num,by rw [S.out];go_num,S2,Bs aF hE⟩,rfl,rfl,rfl,rfl,rfl,rfl,rfl⟩)
      ·have q4':(es[j].prio != r.plan.prio)=true:=by simp [q4]
       have H:=Bp (Ck (U8 (now:=y.now) aA q3 cQ HM2.out q4));clear q3 q4;go_wp2;go_ret;exact ⟨Bw H.out.symm,Bs B1 hE⟩
     ·have q3':(r.tasks[t].state == 2)=false:=beq_eq_false_iff_ne.2 q3;have S2:Hid (r.tasks[t].state=2->Is r t es (j+1)):=fun h2=>absurd h2 q3;clear q3;go_wp2;first
       | exact ⟨⟨j+1,Bk,by go_num,by rw [S.out];go_num,S2,Bs aF hE⟩,by simp [intOf];omega⟩
       | (refine ⟨?_,by simp [intOf];omega⟩;(repeat apply Exists.intro);first | exact ⟨⟨j+1,Bk,by go_num,by rw [S.out];go_num,S2,Bs aF hE⟩,rfl⟩ | exact ⟨⟨j+1,Bk,by go_num,by rw [S.out];go_num,S2,Bs aF hE⟩,rfl,rfl⟩ | exact ⟨⟨j+1,Bk,by go_num,by rw [S.out];go_num,S2,Bs aF hE⟩,rfl,rfl,rfl⟩ | exact ⟨⟨j+1,Bk,by go_num,by rw [S.out];go_num,S2,Bs aF hE⟩,rfl,rfl,rfl,rfl⟩ | exact ⟨⟨j+1,Bk,by go_num,by rw [S.out];go_num,S2,Bs aF hE⟩,rfl,rfl,rfl,rfl,rfl⟩ | exact ⟨⟨j+1,Bk,by go_num,by rw [S.out];go_num,S2,Bs aF hE⟩,rfl,rfl,rfl,rfl,rfl,rfl⟩ | exact ⟨⟨j+1,Bk,by go_num,by rw [S.out];go_num,S2,Bs aF hE⟩,rfl,rfl,rfl,rfl,rfl,rfl,rfl⟩)
    ·have gF:¬ (j:Int)<(es.length:Int):=Bk;have hj':j=es.length:=Bk;subst hj';have HP:Hid (r.tasks[t].state=2 -> ∀ j (hj:j<es.length),Fn r.id t es[j]=true->es[j].prio=r.plan.prio):=fun h2 j hj hm=>nZ.out h2 j hj hj hm;have HMt:=Bp (show Dy r.id t (es.take es.length)=Dy r.id t es by rw [List.take_length]);have HMb:=Bp (show ∀ M:Int,M=(Dy r.id t es:Nat)->(M=1 ↔ Dy r.id t es=1) from fun M hM=>Bk);have step:On y.now r es t->Hid (∀ t',t'<t+1->On y.now r es t'):=fun hx t' dK=>by
      by_cases e:t'=t
      ·subst e;exact hx
      ·exact aU.out t' Bk
     have w1':U.wrap (y.now+1)=y.now+1:=Ar _ Bk;have w2':U.wrap (y.now+r.plan.wait)=y.now+r.plan.wait:=Ar _ Bk;by_cases q3:r.tasks[t].state=2
     ·have q3':(r.tasks[t].state == 2)=true:=beq_iff_eq.2 q3;have q5':(r.tasks[t].state == 3)=false:=beq_eq_false_iff_ne.2 Bk;by_cases q4:Dy r.id t es=1
      ·have S:=step (N6 aA (fun h=>⟨HP.out h,q4⟩) (fun h=>Bk));have q4':((Dy r.id t es:Int) != 1)=false:=by simp [q4]
       clear q3 q4 step;go_wp2;first
        | exact ⟨⟨t+1,Bk,by go_num,S,Bs Hb2 aF⟩,by simp [intOf];omega⟩
        | (refine ⟨?_,by simp [intOf];omega⟩;(repeat apply Exists.intro);first | exact ⟨⟨t+1,Bk,by go_num,S,Bs Hb2 aF⟩,rfl⟩ | exact ⟨⟨t+1,Bk,by go_num,S,Bs Hb2 aF⟩,rfl,rfl⟩ | exact ⟨⟨t+1,Bk,by go_num,S,Bs Hb2 aF⟩,rfl,rfl,rfl⟩ | exact ⟨⟨t+1,Bk,by go_num,S,Bs Hb2 aF⟩,rfl,rfl,rfl,rfl⟩ | exact ⟨⟨t+1,Bk,by go_num,S,Bs Hb2 aF⟩,rfl,rfl,rfl,rfl,rfl⟩ | exact ⟨⟨t+1,Bk,by go_num,S,Bs Hb2 aF⟩,rfl,rfl,rfl,rfl,rfl,rfl⟩ | exact ⟨⟨t+1,Bk,by go_num,S,Bs Hb2 aF⟩,rfl,rfl,rfl,rfl,rfl,rfl,rfl⟩)
      ·have H:=Bp (Ck (U9 (now:=y.now) aA q3 q4));have q4':((Dy r.id t es:Int) != 1)=true:=by simp;omega
       clear q3 q4 step;go_wp2;go_ret;exact ⟨Bw H.out.symm,B1⟩
     ·have q3':(r.tasks[t].state == 2)=false:=beq_eq_false_iff_ne.2 q3;by_cases q5:r.tasks[t].state=3
      ·have q5':(r.tasks[t].state == 3)=true:=beq_iff_eq.2 q5;cases q6:inB r.tasks[t].until_ (y.now+1) (y.now+r.plan.wait)
       ·have H:=Bp (Ck (Va (es:=es) aA q5 q6));clear q3 q5 step;go_wp2_with (go_at_call 58;refine (Cs _ _ _ _).mono ?_;rintro e w' ⟨rfl,rfl⟩)
        go_ret;exact ⟨Bw H.out.symm,B1⟩
       ·have S:=step (N6 aA (fun h=>absurd h q3) (fun _=>q6));clear q3 q5 step;go_wp2_with (go_at_call 58;refine (Cs _ _ _ _).mono ?_;rintro e w' ⟨rfl,rfl⟩)
        first
         | exact ⟨⟨t+1,Bk,by go_num,S,Bs Hb2 aF⟩,by simp [intOf];omega⟩
         | (refine ⟨?_,by simp [intOf];omega⟩;(repeat apply Exists.intro);first | exact ⟨⟨t+1,Bk,by go_num,S,Bs Hb2 aF⟩,rfl⟩ | exact ⟨⟨t+1,Bk,by go_num,S,Bs Hb2 aF⟩,rfl,rfl⟩ | exact ⟨⟨t+1,Bk,by go_num,S,Bs Hb2 aF⟩,rfl,rfl,rfl⟩ | exact ⟨⟨t+1,Bk,by go_num,S,Bs Hb2 aF⟩,rfl,rfl,rfl,rfl⟩ | exact ⟨⟨t+1,Bk,by go_num,S,Bs Hb2 aF⟩,rfl,rfl,rfl,rfl,rfl⟩ | exact ⟨⟨t+1,Bk,by go_num,S,Bs Hb2 aF⟩,rfl,rfl,rfl,rfl,rfl,rfl⟩ | exact ⟨⟨t+1,Bk,by go_num,S,Bs Hb2 aF⟩,rfl,rfl,rfl,rfl,rfl,rfl,rfl⟩)
      ·have q5':(r.tasks[t].state == 3)=false:=beq_eq_false_iff_ne.2 q5;have S:=step (N6 aA (fun h=>absurd h q3) (fun h=>absurd h q5));clear q3 q5 step;go_wp2;first
        | exact ⟨⟨t+1,Bk,by go_num,S,Bs Hb2 aF⟩,by simp [intOf];omega⟩
        | (refine ⟨?_,by simp [intOf];omega⟩;(repeat apply Exists.intro);first | exact ⟨⟨t+1,Bk,by go_num,S,Bs Hb2 aF⟩,rfl⟩ | exact ⟨⟨t+1,Bk,by go_num,S,Bs Hb2 aF⟩,rfl,rfl⟩ | exact ⟨⟨t+1,Bk,by go_num,S,Bs Hb2 aF⟩,rfl,rfl,rfl⟩ | exact ⟨⟨t+1,Bk,by go_num,S,Bs Hb2 aF⟩,rfl,rfl,rfl,rfl⟩ | exact ⟨⟨t+1,Bk,by go_num,S,Bs Hb2 aF⟩,rfl,rfl,rfl,rfl,rfl⟩ | exact ⟨⟨t+1,Bk,by go_num,S,Bs Hb2 aF⟩,rfl,rfl,rfl,rfl,rfl,rfl⟩ | exact ⟨⟨t+1,Bk,by go_num,S,Bs Hb2 aF⟩,rfl,rfl,rfl,rfl,rfl,rfl,rfl⟩)
  ·have aB:¬ (t:Int)<(r.tasks.length:Int):=Bk;have H:=Bp (D6 (show Jk y.now r es from fun t' dK=>aU.out t' Bk));go_wp2;go_ret;exact ⟨Bw H.out.symm,Bs B0 hb⟩
theorem Wj (y:Yard) (s:Sl×Sl) (r:Run) (s2:Sl×Sl) (es:List Entry) (s3:Sl) (w:World) (dS:r.tasks.length<=2000000) (pA:es.length<=2000000) (hn:0<=y.now/\y.now<=999999980) (hw:1<=r.plan.wait/\r.plan.wait<=20)
  (h':Co.rd w w r s2) (h3:Rd Cu w w s3.v es) :
  Calls An 217 #[Du y s,Hc r s2,Aa s3.a s3.n s3.c] w fun e w'=>e = .returned (.bool (tf (Jk y.now r es)))/\Below w w w':=by
 obtain ⟨⟨A1,n1,c1⟩,⟨A2,n2,c2⟩⟩:=s;obtain ⟨⟨A4,n4,c4⟩,⟨A5,n5,c5⟩⟩:=s2;obtain ⟨A6,n6,c6⟩:=s3;obtain rfl:n5=r.tasks.length:=RdL.at1 (s:=⟨A5,n5,c5⟩) h'.2;obtain rfl:n6=es.length:=RdL.at1 (s:=⟨A6,n6,c6⟩) (Ki h3);have h2:RdL Eo w w (Aa A5 r.tasks.length c5) r.tasks:=h'.2;have h3:RdL Cg w w (Aa A6 es.length c6) es:=Ki h3;clear h';obtain ⟨W,aH,X,R,B0⟩:=bx2 w 31 [J U y.now,J U y.seq,Aa A1 n1 c1,Aa A2 n2 c2] 89 [J U r.id,J U r.plan.prio,J U r.plan.most,J U r.plan.wait,J U r.plan.tasks,Aa A4 n4 c4,J U r.state,Aa A5 r.tasks.length c5];go_enter Tryz.func217,Tryz.ntmps217;go_wp2;rw [<-aH.out];clear aH;go_loopw [7] (fun i wr=>∃ k:Nat,k<=r.tasks.length/\i = J U k/\Hid (∀ t,t<k->On y.now r es t)/\Below W W wr) (fun i _=>r.tasks.length - (intOf i).toNat);case atStart=>exact ⟨0,Ag _,rfl,fun t ht=>absurd ht Bk,Bq _ _⟩
 case round =>
  obtain ⟨t,hk,rfl,aU,hb⟩:=hrel;by_cases aA:t<r.tasks.length
  ·have aB:(t:Int)<(r.tasks.length:Int):=Bk;have R1:=R.below hb;have pK:wr.cell? ⟨w.heap.size+1,7,Ab⟩=Ac (Aa A5 r.tasks.length c5):=R1.cell 7 _ rfl;have sS:=R1.lt;go_wp2;clear pK sS R1;go_loopw [8,9] (fun n i wq=>∃ j:Nat,j<=es.length/\i = J U j/\n = J U (Dy r.id t (es.take j):Nat)/\Hid (r.tasks[t].state=2->Is r t es j)/\Below W W wq) (fun _ i _=>es.length - (intOf i).toNat);case atStart=>exact ⟨0,Ag _,rfl,rfl,fun _ j hj h0=>absurd h0 Bk,hb⟩
   case round =>
    clear hb;obtain ⟨j,hj,rfl,rfl,nZ,hb⟩:=hrel;have hmn:=Zh r.id t (es.take j);rw [Az] at hmn;have X:=X.below hb;have R:=R.below hb;have X_:=X.g4;have R_:=R.g8;have B1:=Bs B0 hb;obtain ⟨b,o,_,hA5,aG,_,d0,d1,d2,d3⟩:=(h2.below B1).task aA;subst hA5;have bL:b<wr:=Ai aG B1.size;have aJ:=Cy wr;by_cases cQ:j<es.length
    ·have gF:(j:Int)<(es.length:Int):=Bk;obtain ⟨b6,o6,_,hA6,hbb6,_,f0,f1,f2,f3⟩:=(h3.below B1).entry cQ;subst hA6;have nD:b6<wr:=Ai hbb6 B1.size;have HM:Hid (Fn r.id t es[j]=((es[j].run == r.id) && (es[j].task == (t:Int)))):=rfl;have HY:=Bp (Wy (id:=r.id) (t:=t) cQ);have HN:=Bp (Zg (id:=r.id) (t:=t) cQ);cases q1:(es[j].run == r.id)
     ·have hm:Fn r.id t es[j]=false:=by rw [HM.out,q1];rfl
      have S:=Bp (HN.out hm);have S2:Hid (r.tasks[t].state=2->Is r t es (j+1)):=fun h2=>Jl (nZ.out h2) cQ (fun hh=>by rw [hm] at hh;cases hh);clear hm;go_wp2;go_quiet (fail);go_wp2;first
       | exact ⟨⟨j+1,Bk,by go_num,by rw [S.out],S2,Cj hb _⟩,by simp [intOf];omega⟩
       | (refine ⟨?_,by simp [intOf];omega⟩;(repeat apply Exists.intro);first | exact ⟨⟨j+1,Bk,by go_num,by rw [S.out],S2,Cj hb _⟩,rfl⟩ | exact ⟨⟨j+1,Bk,by go_num,by rw [S.out],S2,Cj hb _⟩,rfl,rfl⟩ | exact ⟨⟨j+1,Bk,by go_num,by rw [S.out],S2,Cj hb _⟩,rfl,rfl,rfl⟩ | exact ⟨⟨j+1,Bk,by go_num,by rw [S.out],S2,Cj hb _⟩,rfl,rfl,rfl,rfl⟩ | exact ⟨⟨j+1,Bk,by go_num,by rw [S.out],S2,Cj hb _⟩,rfl,rfl,rfl,rfl,rfl⟩ | exact ⟨⟨j+1,Bk,by go_num,by rw [S.out],S2,Cj hb _⟩,rfl,rfl,rfl,rfl,rfl,rfl⟩ | exact ⟨⟨j+1,Bk,by go_num,by rw [S.out],S2,Cj hb _⟩,rfl,rfl,rfl,rfl,rfl,rfl,rfl⟩)
     cases q2:(es[j].task == (t:Int))
     ·have hm:Fn r.id t es[j]=false:=by rw [HM.out,q1,q2];rfl
      have S:=Bp (HN.out hm);have S2:Hid (r.tasks[t].state=2->Is r t es (j+1)):=fun h2=>Jl (nZ.out h2) cQ (fun hh=>by rw [hm] at hh;cases hh);clear hm;go_wp2;go_quiet (fail);go_wp2;first
       | exact ⟨⟨j+1,Bk,by go_num,by rw [S.out],S2,Cj hb _⟩,by simp [intOf];omega⟩
       | (refine ⟨?_,by simp [intOf];omega⟩;(repeat apply Exists.intro);first | exact ⟨⟨j+1,Bk,by go_num,by rw [S.out],S2,Cj hb _⟩,rfl⟩ | exact ⟨⟨j+1,Bk,by go_num,by rw [S.out],S2,Cj hb _⟩,rfl,rfl⟩ | exact ⟨⟨j+1,Bk,by go_num,by rw [S.out],S2,Cj hb _⟩,rfl,rfl,rfl⟩ | exact ⟨⟨j+1,Bk,by go_num,by rw [S.out],S2,Cj hb _⟩,rfl,rfl,rfl,rfl⟩ | exact ⟨⟨j+1,Bk,by go_num,by rw [S.out],S2,Cj hb _⟩,rfl,rfl,rfl,rfl,rfl⟩ | exact ⟨⟨j+1,Bk,by go_num,by rw [S.out],S2,Cj hb _⟩,rfl,rfl,rfl,rfl,rfl,rfl⟩ | exact ⟨⟨j+1,Bk,by go_num,by rw [S.out],S2,Cj hb _⟩,rfl,rfl,rfl,rfl,rfl,rfl,rfl⟩)
     have hm:Fn r.id t es[j]=true:=by rw [HM.out,q1,q2];rfl
     have S:=Bp (HY.out hm);have HM2:=Bp hm;clear hm;by_cases q3:r.tasks[t].state=2
     ·have q3':(r.tasks[t].state == 2)=true:=beq_iff_eq.2 q3;by_cases q4:es[j].prio=r.plan.prio
      ·have q4':(es[j].prio != r.plan.prio)=false:=by simp [q4]
       have S2:Hid (r.tasks[t].state=2->Is r t es (j+1)):=fun h2=>Jl (nZ.out h2) cQ (fun _=>q4);clear q3 q4;go_wp2;go_quiet (fail);go_wp2;go_quiet (fail);go_wp2;first
        | exact ⟨⟨j+1,Bk,by go_num,by rw [S.out];go_num,S2,by first | exact Cj hb _ | exact Cj (Cj hb _) _⟩,by simp [intOf];omega⟩
        | (refine ⟨?_,by simp [intOf];omega⟩;(repeat apply Exists.intro);first | exact ⟨⟨j+1,Bk,by go_num,by rw [S.out];go_num,S2,by first | exact Cj hb _ | exact Cj (Cj hb _) _⟩,rfl⟩ | exact ⟨⟨j+1,Bk,by go_num,by rw [S.out];go_num,S2,by first | exact Cj hb _ | exact Cj (Cj hb _) _⟩,rfl,rfl⟩ | exact ⟨⟨j+1,Bk,by go_num,by rw [S.out];go_num,S2,by first | exact Cj hb _ | exact Cj (Cj hb _) _⟩,rfl,rfl,rfl⟩ | exact ⟨⟨j+1,Bk,by go_num,by rw [S.out];go_num,S2,by first | exact Cj hb _ | exact Cj (Cj hb _) _⟩,rfl,rfl,rfl,rfl⟩ | exact ⟨⟨j+1,Bk,by go_num,by rw [S.out];go_num,S2,by first | exact Cj hb _ | exact Cj (Cj hb _) _⟩,rfl,rfl,rfl,rfl,rfl⟩ | exact ⟨⟨j+1,Bk,by go_num,by rw [S.out];go_num,S2,by first | exact Cj hb _ | exact Cj (Cj hb _) _⟩,rfl,rfl,rfl,rfl,rfl,rfl⟩ | exact ⟨⟨j+1,Bk,by go_num,by rw [S.out];go_num,S2,by first | exact Cj hb _ | exact Cj (Cj hb _) _⟩,rfl,rfl,rfl,rfl,rfl,rfl,rfl⟩)
      ·have q4':(es[j].prio != r.plan.prio)=true:=by simp [q4]
       have H:=Bp (Ck (U8 (now:=y.now) aA q3 cQ HM2.out q4));clear q3 q4;go_wp2;go_quiet (fail);go_wp2;go_quiet (fail);go_wp2;go_ret;exact ⟨Bw H.out.symm,by first | exact Cj B1 _ | exact Cj (Cj B1 _) _⟩
     ·have q3':(r.tasks[t].state == 2)=false:=beq_eq_false_iff_ne.2 q3;have S2:Hid (r.tasks[t].state=2->Is r t es (j+1)):=fun h2=>absurd h2 q3;clear q3;go_wp2;go_quiet (fail);go_wp2;go_quiet (fail);go_wp2;first
       | exact ⟨⟨j+1,Bk,by go_num,by rw [S.out];go_num,S2,by first | exact Cj hb _ | exact Cj (Cj hb _) _⟩,by simp [intOf];omega⟩
       | (refine ⟨?_,by simp [intOf];omega⟩;(repeat apply Exists.intro);first | exact ⟨⟨j+1,Bk,by go_num,by rw [S.out];go_num,S2,by first | exact Cj hb _ | exact Cj (Cj hb _) _⟩,rfl⟩ | exact ⟨⟨j+1,Bk,by go_num,by rw [S.out];go_num,S2,by first | exact Cj hb _ | exact Cj (Cj hb _) _⟩,rfl,rfl⟩ | exact ⟨⟨j+1,Bk,by go_num,by rw [S.out];go_num,S2,by first | exact Cj hb _ | exact Cj (Cj hb _) _⟩,rfl,rfl,rfl⟩ | exact ⟨⟨j+1,Bk,by go_num,by rw [S.out];go_num,S2,by first | exact Cj hb _ | exact Cj (Cj hb _) _⟩,rfl,rfl,rfl,rfl⟩ | exact ⟨⟨j+1,Bk,by go_num,by rw [S.out];go_num,S2,by first | exact Cj hb _ | exact Cj (Cj hb _) _⟩,rfl,rfl,rfl,rfl,rfl⟩ | exact ⟨⟨j+1,Bk,by go_num,by rw [S.out];go_num,S2,by first | exact Cj hb _ | exact Cj (Cj hb _) _⟩,rfl,rfl,rfl,rfl,rfl,rfl⟩ | exact ⟨⟨j+1,Bk,by go_num,by rw [S.out];go_num,S2,by first | exact Cj hb _ | exact Cj (Cj hb _) _⟩,rfl,rfl,rfl,rfl,rfl,rfl,rfl⟩)
    ·have gF:¬ (j:Int)<(es.length:Int):=Bk;have hj':j=es.length:=Bk;subst hj';rw [List.take_length] at *
     have HP:Hid (r.tasks[t].state=2 -> ∀ j (hj:j<es.length),Fn r.id t es[j]=true->es[j].prio=r.plan.prio):=fun h2 j hj hm=>nZ.out h2 j hj hj hm;have step:On y.now r es t->Hid (∀ t',t'<t+1->On y.now r es t'):=fun hx t' dK=>by
      by_cases e:t'=t
      ·subst e;exact hx
      ·exact aU.out t' Bk
     have w1':U.wrap (y.now+1)=y.now+1:=Ar _ Bk;have w2':U.wrap (y.now+r.plan.wait)=y.now+r.plan.wait:=Ar _ Bk;generalize hM:(Dy r.id t es:Int)=M at *
     by_cases q3:r.tasks[t].state=2
     ·have q3':(r.tasks[t].state == 2)=true:=beq_iff_eq.2 q3;have q5':(r.tasks[t].state == 3)=false:=beq_eq_false_iff_ne.2 Bk;by_cases q4:M=1
      ·have S:=step (N6 aA (fun h=>⟨HP.out h,Bk⟩) (fun h=>Bk));have q4':(M != 1)=false:=by simp [q4]
       clear q3 q4 step hM;go_wp2;refine Bv Bl Bl ?_;repeat (go_big_quiet_step ((go_at_call 155;exact Ed (fun u=>Cf _ _ _ u.1))))
       refine Ak ?_;rintro _ ⟨⟨w2,b2⟩,rfl⟩;clear aJ;go_wp2;first
        | exact ⟨⟨t+1,Bk,by go_num,S,Bs hb b2⟩,by simp [intOf];omega⟩
        | (refine ⟨?_,by simp [intOf];omega⟩;(repeat apply Exists.intro);first | exact ⟨⟨t+1,Bk,by go_num,S,Bs hb b2⟩,rfl⟩ | exact ⟨⟨t+1,Bk,by go_num,S,Bs hb b2⟩,rfl,rfl⟩ | exact ⟨⟨t+1,Bk,by go_num,S,Bs hb b2⟩,rfl,rfl,rfl⟩ | exact ⟨⟨t+1,Bk,by go_num,S,Bs hb b2⟩,rfl,rfl,rfl,rfl⟩ | exact ⟨⟨t+1,Bk,by go_num,S,Bs hb b2⟩,rfl,rfl,rfl,rfl,rfl⟩ | exact ⟨⟨t+1,Bk,by go_num,S,Bs hb b2⟩,rfl,rfl,rfl,rfl,rfl,rfl⟩ | exact ⟨⟨t+1,Bk,by go_num,S,Bs hb b2⟩,rfl,rfl,rfl,rfl,rfl,rfl,rfl⟩)
      ·have H:=Bp (Ck (U9 (now:=y.now) aA q3 (show ¬ Dy r.id t es=1 by omega)));have q4':(M != 1)=true:=by simp [q4]
       clear q3 q4 step hM;go_wp2;refine Bv Bl Bl ?_;repeat (go_big_quiet_step ((go_at_call 155;exact Ed (fun u=>Cf _ _ _ u.1))))
       refine Ak ?_;rintro _ ⟨⟨w2,b2⟩,rfl⟩;clear aJ;go_wp2;go_ret;exact ⟨Bw H.out.symm,Bs B1 b2⟩
     ·have q3':(r.tasks[t].state == 2)=false:=beq_eq_false_iff_ne.2 q3;clear hM;by_cases q5:r.tasks[t].state=3
      ·have q5':(r.tasks[t].state == 3)=true:=beq_iff_eq.2 q5;cases q6:inB r.tasks[t].until_ (y.now+1) (y.now+r.plan.wait)
       ·have H:=Bp (Ck (Va (es:=es) aA q5 q6));clear q3 q5 step;go_wp2;refine Bv Bl Bl ?_;repeat (go_big_quiet_step ((go_at_call 155;exact Ed (fun u=>Cf _ _ _ u.1))))
        refine Ak ?_;rintro _ ⟨⟨w2,b2⟩,rfl⟩;clear aJ;go_wp2;go_ret;exact ⟨Bw H.out.symm,Bs B1 b2⟩
       ·have S:=step (N6 aA (fun h=>absurd h q3) (fun _=>q6));clear q3 q5 step;go_wp2;refine Bv Bl Bl ?_;repeat (go_big_quiet_step ((go_at_call 155;exact Ed (fun u=>Cf _ _ _ u.1))))
        refine Ak ?_;rintro _ ⟨⟨w2,b2⟩,rfl⟩;clear aJ;go_wp2;first
         | exact ⟨⟨t+1,Bk,by go_num,S,Bs hb b2⟩,by simp [intOf];omega⟩
         | (refine ⟨?_,by simp [intOf];omega⟩;(repeat apply Exists.intro);first | exact ⟨⟨t+1,Bk,by go_num,S,Bs hb b2⟩,rfl⟩ | exact ⟨⟨t+1,Bk,by go_num,S,Bs hb b2⟩,rfl,rfl⟩ | exact ⟨⟨t+1,Bk,by go_num,S,Bs hb b2⟩,rfl,rfl,rfl⟩ | exact ⟨⟨t+1,Bk,by go_num,S,Bs hb b2⟩,rfl,rfl,rfl,rfl⟩ | exact ⟨⟨t+1,Bk,by go_num,S,Bs hb b2⟩,rfl,rfl,rfl,rfl,rfl⟩ | exact ⟨⟨t+1,Bk,by go_num,S,Bs hb b2⟩,rfl,rfl,rfl,rfl,rfl,rfl⟩ | exact ⟨⟨t+1,Bk,by go_num,S,Bs hb b2⟩,rfl,rfl,rfl,rfl,rfl,rfl,rfl⟩)
      ·have q5':(r.tasks[t].state == 3)=false:=beq_eq_false_iff_ne.2 q5;have S:=step (N6 aA (fun h=>absurd h q3) (fun h=>absurd h q5));clear q3 q5 step;go_wp2;refine Bv Bl Bl ?_;repeat (go_big_quiet_step ((go_at_call 155;exact Ed (fun u=>Cf _ _ _ u.1))))
       refine Ak ?_;rintro _ ⟨⟨w2,b2⟩,rfl⟩;clear aJ;go_wp2;first
        | exact ⟨⟨t+1,Bk,by go_num,S,Bs hb b2⟩,by simp [intOf];omega⟩
        | (refine ⟨?_,by simp [intOf];omega⟩;(repeat apply Exists.intro);first | exact ⟨⟨t+1,Bk,by go_num,S,Bs hb b2⟩,rfl⟩ | exact ⟨⟨t+1,Bk,by go_num,S,Bs hb b2⟩,rfl,rfl⟩ | exact ⟨⟨t+1,Bk,by go_num,S,Bs hb b2⟩,rfl,rfl,rfl⟩ | exact ⟨⟨t+1,Bk,by go_num,S,Bs hb b2⟩,rfl,rfl,rfl,rfl⟩ | exact ⟨⟨t+1,Bk,by go_num,S,Bs hb b2⟩,rfl,rfl,rfl,rfl,rfl⟩ | exact ⟨⟨t+1,Bk,by go_num,S,Bs hb b2⟩,rfl,rfl,rfl,rfl,rfl,rfl⟩ | exact ⟨⟨t+1,Bk,by go_num,S,Bs hb b2⟩,rfl,rfl,rfl,rfl,rfl,rfl,rfl⟩)
  ·have aB:¬ (t:Int)<(r.tasks.length:Int):=Bk;have H:=Bp (D6 (show Jk y.now r es from fun t' dK=>aU.out t' Bk));have R1:=R.below hb;have pK:wr.cell? ⟨w.heap.size+1,7,Ab⟩=Ac (Aa A5 r.tasks.length c5):=R1.cell 7 _ rfl;have sS:=R1.lt;go_wp2;go_ret;exact ⟨Bw H.out.symm,Bs B0 hb⟩
theorem Rh (w:World):∀ l:List Entry,Ows Cg w [] (l.map fun x=>(x,()))
 | []=>.nil
 | x :: l=>by
  have:=Ows.cons (d:=Cg) (w:=w) (F:=[]) (r:=(x,())) rfl (Rh w l)
  exact this
theorem Ha {w:World} {E:TypeId} {base:Nat} {v:Value} {l:List Entry} (h:Ow Cu E w base v l):∃ (s:Sl) (F:List Nat),v = Aa s.a s.n s.c/\OwL Cg w F s.v l /\ ∀ b∈F,base<=b:=by
 obtain ⟨h1,h2⟩:=Hw.of_ow h;obtain ⟨⟨A,c,hv,hc,hA⟩,hF,hf⟩:=id h1;subst hv;refine ⟨⟨A,l.length,c⟩,_,rfl,⟨l.map fun x=>(x,()),Eh (Aa A l.length c) l.length,[],by rw [List.map_map];exact List.map_id _,⟨⟨A,c,by rw [Au],by rw [Au];exact hc,fun hl=>?_⟩,by rw [Au],hf⟩,Rh w l,(List.append_nil _).symm,h1.nodup⟩,h2⟩;rw [Au] at hl;obtain ⟨b,o,h3,h4,h5⟩:=hA hl;refine ⟨b,o,h3,h4,fun k hk j u hu=>?_⟩;rw [List.getElem_map] at hu;exact h5 k (by rw [Au] at hk;exact hk) j u hu
def G4:Enc Task:={ cells:=fun x=>[J U x.state,J U x.need,J U x.try_,J U x.until_],sz:=4,len:=fun _=>rfl,one:=fun _ u hu=>by simp at hu;rcases hu with rfl | rfl | rfl | rfl<;>rfl }
theorem Ty {w:World} {B:Nat} {v:Value} {l:List Task} (h:RdL Eo w B v l):Rd G4 w B v l:=by
 obtain ⟨rs,rfl,⟨A,c,rfl,hc,hA⟩,_⟩:=h;refine ⟨A,c,by rw [Au],by rw [Au];exact hc,fun hl=>?_⟩;rw [Au] at hl;obtain ⟨b,o,h1,h2,h3⟩:=hA hl;refine ⟨b,o,h1,h2,fun k hk j u hu=>?_⟩;rw [List.getElem_map] at hu;exact h3 k (by rw [Au] at hk;exact hk) j u hu
theorem Vb (w:World):∀ l:List Task,Ows Eo w [] (l.map fun x=>(x,()))
 | []=>.nil
 | x :: l=>by
  have:=Ows.cons (d:=Eo) (w:=w) (F:=[]) (r:=(x,())) rfl (Vb w l)
  exact this
theorem Yd {w:World} {E:TypeId} {base:Nat} {v:Value} {l:List Task} (h:Ow G4 E w base v l):∃ (s:Sl) (F:List Nat),v = Aa s.a s.n s.c/\OwL Eo w F s.v l /\ ∀ b∈F,base<=b:=by
 obtain ⟨h1,h2⟩:=Hw.of_ow h;obtain ⟨⟨A,c,hv,hc,hA⟩,hF,hf⟩:=id h1;subst hv;refine ⟨⟨A,l.length,c⟩,_,rfl,⟨l.map fun x=>(x,()),Eh (Aa A l.length c) l.length,[],by rw [List.map_map];exact List.map_id _,⟨⟨A,c,by rw [Au],by rw [Au];exact hc,fun hl=>?_⟩,by rw [Au],hf⟩,Vb w l,(List.append_nil _).symm,h1.nodup⟩,h2⟩;rw [Au] at hl;obtain ⟨b,o,h3,h4,h5⟩:=hA hl;refine ⟨b,o,h3,h4,fun k hk j u hu=>?_⟩;rw [List.getElem_map] at hu;exact h5 k (by rw [Au] at hk;exact hk) j u hu
theorem Ri:(An.info? 138).map (fun i=>(i.zero,i.size,i.bytes))=Ac (Ac (.agg #[J U 0,J U 0,J U 0,J U 0]),4,32):=Bl
theorem Ik (l:List Entry) (s:Sl) (w:World) (hl:l.length<=2000000) (h:RdL Cg w w s.v l) :
  Calls An 122 #[.slice s.a s.n s.c] w (Fc (Dt.list Cg) slV l w):=by
 obtain ⟨A,n,c⟩:=s;obtain rfl:n=l.length:=RdL.at1 (s:=⟨A,n,c⟩) h;obtain ⟨i0,aL,aR,aS,aP⟩:=info_parts Fw;go_enter Tryz.func122,Tryz.ntmps122;go_wp2_with (at_builtin;refine Bz _ Cu Bo rfl (.const (.slice Ab 0 0)) (.tmp 3) rfl Tryz.underlying96 aL aR aS aP rfl (v:=.slice Ab 0 0) (l:=[]) rfl (Ow.nil Cu 93 _ w) rfl (Iv h) Bm Bk Bo (Br _) ?_;intro v1 w1 o1 g1 _;rw [List.nil_append] at o1)
 obtain ⟨s1,F1,rfl,o2,n2⟩:=Ha o1;go_ret;exact ⟨s1,F1,rfl,o2,n2,(Bq w w).grown g1 (Br _) (fun g hg=>by cases hg)⟩
theorem Th (r:Run) (s:Sl×Sl) (w:World) (hl:C9 r<=2000000) (h:Co.rd w w r s) :
  Calls An 123 #[Hc r s] w (Fc Co Hc r w):=by
 obtain ⟨⟨A1,n1,c1⟩,⟨A2,n2,c2⟩⟩:=s;obtain rfl:n2=r.tasks.length:=RdL.at1 (s:=⟨A2,n2,c2⟩) h.2;have h1:Cm.rd w w r.plan ⟨A1,n1,c1⟩:=h.1;have h2:Rd G4 w w (.slice A2 r.tasks.length c2) r.tasks:=Ty h.2;have jL:Js r.plan<=2000000:=by unfold C9 at hl;omega
 have dS:r.tasks.length<=2000000:=Ah (Ct G8 _) (by unfold C9 at hl;omega);clear h hl;obtain ⟨W,aH,X,Z,B0⟩:=bx2 w 89 [.int .i64 r.id,.int .i64 r.plan.prio,.int .i64 r.plan.most,.int .i64 r.plan.wait,.int .i64 r.plan.tasks,.slice A1 n1 c1,.int .i64 r.state,.slice A2 r.tasks.length c2] 89 [.int .i64 0,.int .i64 0,.int .i64 0,.int .i64 0,.int .i64 0,.slice Ab 0 0,.int .i64 0,.slice Ab 0 0];obtain ⟨i0,aL,aR,aS,aP⟩:=info_parts Ri;go_enter Tryz.func123,Tryz.ntmps123;go_wp2_with fail
 rw [<-aH.out];clear aH;refine (Q9 r.plan ⟨A1,n1,c1⟩ W jL (Cm.rd_more (Cm.rd_below h1 B0) B0.size)).mono ?_;rintro e w0 ⟨⟨A3,n3,c3⟩,F0,rfl,o0,n0,b0⟩;have hW:w.heap.size+2<=W.heap.size:=Z.lt;replace X:=X.below b0;replace Z:=Z.below b0;replace B0:=Bs B0 b0;obtain ⟨X_0,X_1,X_2,X_3,X_4,X_5,X_6,X_7,X_l⟩:=X.g8;obtain ⟨Z_0,Z_1,Z_2,Z_3,Z_4,Z_5,Z_6,Z_7,Z_l⟩:=Z.g8;have X_f:=X.free;have Z_f:=Z.free;have sX:w.heap.size∉F0:=fun hm=>by have:=n0 _ hm;omega
 have X1:DBox w [.int .i64 r.id,.int .i64 r.plan.prio,.int .i64 r.plan.most,.int .i64 r.plan.wait,.int .i64 r.plan.tasks,.slice A3 n3 c3,.int .i64 r.state,.slice A2 r.tasks.length c2] (((((w0.setCell ⟨w,1,Ab⟩ (.int .i64 r.plan.prio)).setCell ⟨w,2,Ab⟩ (.int .i64 r.plan.most)).setCell ⟨w,3,Ab⟩ (.int .i64 r.plan.wait)).setCell ⟨w,4,Ab⟩ (.int .i64 r.plan.tasks)).setCell ⟨w,5,Ab⟩ (.slice A3 n3 c3)):=((((X.set 1 Bm (.int .i64 r.plan.prio)).set 2 Bm (.int .i64 r.plan.most)).set 3 Bm (.int .i64 r.plan.wait)).set 4 Bm (.int .i64 r.plan.tasks)).set 5 Bm (.slice A3 n3 c3);have Z1:=((((Z.setOther (a:=⟨w,1,Ab⟩) Bm (.int .i64 r.plan.prio)).setOther (a:=⟨w,2,Ab⟩) Bm (.int .i64 r.plan.most)).setOther (a:=⟨w,3,Ab⟩) Bm (.int .i64 r.plan.wait)).setOther (a:=⟨w,4,Ab⟩) Bm (.int .i64 r.plan.tasks)).setOther (a:=⟨w,5,Ab⟩) Bm (.slice A3 n3 c3);have o1:Cm.ow (((((w0.setCell ⟨w,1,Ab⟩ (.int .i64 r.plan.prio)).setCell ⟨w,2,Ab⟩ (.int .i64 r.plan.most)).setCell ⟨w,3,Ab⟩ (.int .i64 r.plan.wait)).setCell ⟨w,4,Ab⟩ (.int .i64 r.plan.tasks)).setCell ⟨w,5,Ab⟩ (.slice A3 n3 c3)) F0 r.plan ⟨A3,n3,c3⟩:=by repeat (first | (with_reducible exact o0) | refine Dt.ow_set Cm ?_ sX _)
 have B1:Below w w (((((w0.setCell ⟨w,1,Ab⟩ (.int .i64 r.plan.prio)).setCell ⟨w,2,Ab⟩ (.int .i64 r.plan.most)).setCell ⟨w,3,Ab⟩ (.int .i64 r.plan.wait)).setCell ⟨w,4,Ab⟩ (.int .i64 r.plan.tasks)).setCell ⟨w,5,Ab⟩ (.slice A3 n3 c3)):=by repeat (first | (with_reducible exact B0) | refine Ad ?_ Bm _)
 have HZ3:=Bp (show (((((w0.setCell ⟨w,1,Ab⟩ (.int .i64 r.plan.prio)).setCell ⟨w,2,Ab⟩ (.int .i64 r.plan.most)).setCell ⟨w,3,Ab⟩ (.int .i64 r.plan.wait)).setCell ⟨w,4,Ab⟩ (.int .i64 r.plan.tasks)).setCell ⟨w,5,Ab⟩ (.slice A3 n3 c3)).heap.size=w0.heap.size by simp);go_wp2_with (at_builtin;generalize pF:(((((w0.setCell ⟨w,1,Ab⟩ (.int .i64 r.plan.prio)).setCell ⟨w,2,Ab⟩ (.int .i64 r.plan.most)).setCell ⟨w,3,Ab⟩ (.int .i64 r.plan.wait)).setCell ⟨w,4,Ab⟩ (.int .i64 r.plan.tasks)).setCell ⟨w,5,Ab⟩ (.slice A3 n3 c3))=W3 at *;clear pF X_0 X_1 X_2 X_3 X_4 X_5 X_6 X_7 X_l X_f Z_0 Z_1 Z_2 Z_3 Z_4 Z_5 Z_6 Z_7 Z_l Z_f X Z o0;have fD:=(Bq W3 W3);refine Bz _ G4 Bo rfl (.const (.slice Ab 0 0)) (.tmp 8) rfl Tryz.underlying87 aL aR aS aP rfl (v:=(.slice Ab 0 0)) (l:=[]) rfl (Ow.nil G4 138 _ w0) rfl ((h2.below (Bs B1 fD)).more (Bs B1 fD).size) Bm Bk Bo (by have:=fD.size;have:=HZ3.out;omega) ?_;intro v1 w1 o5 g1 f1;rw [List.nil_append] at o5;have B31:Below W3 W3 w1:=fD.grown g1 fD.size (fun g hg=>by have:=HZ3.out;simp [Value.ownBlock] at hg<;>omega);clear f1 g1;obtain ⟨⟨A5,n5,c5⟩,F5,rfl,o6,n6⟩:=Yd o5;replace X1:=X1.below B31;replace Z1:=Z1.below B31;have y0:=X1.cell 0 _ rfl;have y1:=X1.cell 1 _ rfl;have y2:=X1.cell 2 _ rfl;have y3:=X1.cell 3 _ rfl;have y4:=X1.cell 4 _ rfl;have y5:=X1.cell 5 _ rfl;have y6:=X1.cell 6 _ rfl;have y7:=X1.cell 7 _ rfl;have yf:=X1.free;have yl:=X1.lt;have z0:=Z1.cell 0 _ rfl;have z1:=Z1.cell 1 _ rfl;have z2:=Z1.cell 2 _ rfl;have z3:=Z1.cell 3 _ rfl;have z4:=Z1.cell 4 _ rfl;have z5:=Z1.cell 5 _ rfl;have z6:=Z1.cell 6 _ rfl;have z7:=Z1.cell 7 _ rfl;have zf:=Z1.free;have zl:=Z1.lt)
 have B2:=Bs B1 B31;have o7:=Cm.ow_below o1 B31;have hz3:=HZ3.out;have cZ:=b0.size;have l0:∀ b∈F0,b<w0:=fun b hb=>by have:=Cm.ow_lt o1 b hb;omega
 refine bodyPost_ret (v:=Hc r (⟨A3,n3,c3⟩,⟨A5,n5,c5⟩)) ?_ rfl ?_
 ·simp [Hc,results,Tryz.results123,go_sem,z0,z1,z2,z3,z4,z5,z6,z7]
 ·refine ⟨(⟨A3,n3,c3⟩,⟨A5,n5,c5⟩),F0 ++ F5,rfl,⟨F0,F5,rfl,?_,?_,?_⟩,?_,?_⟩
  ·rw [Ax];refine ⟨Cm.ow_nodup o1,o6.nodup,fun u hu u' hu' e=>?_⟩
   have:=l0 u hu
   have:=n6 u' hu'
   omega
  ·have eX:w.heap.size+1∉F0:=fun hm=>by have:=n0 _ hm;omega
   repeat (first | (with_reducible exact o7) | refine Dt.ow_set Cm ?_ (by first | exact sX | exact eX) _)
  ·have kD:w.heap.size∉F5:=fun hm=>by have:=n6 _ hm;omega
   have eX:w.heap.size+1∉F5:=fun hm=>by have:=n6 _ hm;omega
   show OwL Eo _ F5 (.slice A5 n5 c5) r.tasks;repeat (first | (with_reducible exact o6) | refine OwL.set ?_ (by first | exact kD | exact eX) _)
  ·intro b hb;rcases Bh.1 hb with hb | hb
   ·have:=n0 b hb;omega
   ·have:=n6 b hb;omega
  ·repeat (first | (with_reducible exact B2) | refine Ad ?_ (by first | (simp;done) | (simp;omega)) _)
theorem Hp (r:Run) (s:Sl×Sl) (w:World) (hl:C9 r<=2000000) (h:Co.rd w w r s) :
  Calls An 198 #[Hc r s] w (Fc Co Hc r w):=by
 obtain ⟨⟨A1,n1,c1⟩,⟨A2,n2,c2⟩⟩:=s;obtain rfl:n2=r.tasks.length:=RdL.at1 (s:=⟨A2,n2,c2⟩) h.2;have h1:Cm.rd w w r.plan ⟨A1,n1,c1⟩:=h.1;have h2:Rd G4 w w (.slice A2 r.tasks.length c2) r.tasks:=Ty h.2;have jL:Js r.plan<=2000000:=by unfold C9 at hl;omega
 have dS:r.tasks.length<=2000000:=Ah (Ct G8 _) (by unfold C9 at hl;omega);clear h hl;obtain ⟨W,aH,X,Z,B0⟩:=bx2 w 89 [.int .i64 r.id,.int .i64 r.plan.prio,.int .i64 r.plan.most,.int .i64 r.plan.wait,.int .i64 r.plan.tasks,.slice A1 n1 c1,.int .i64 r.state,.slice A2 r.tasks.length c2] 89 [.int .i64 0,.int .i64 0,.int .i64 0,.int .i64 0,.int .i64 0,.slice Ab 0 0,.int .i64 0,.slice Ab 0 0];obtain ⟨i0,aL,aR,aS,aP⟩:=info_parts Ri;go_enter Tryz.func198,Tryz.ntmps198;go_wp2_with fail
 rw [<-aH.out];clear aH;refine (L7 r.plan ⟨A1,n1,c1⟩ W jL (Cm.rd_more (Cm.rd_below h1 B0) B0.size)).mono ?_;rintro e w0 ⟨⟨A3,n3,c3⟩,F0,rfl,o0,n0,b0⟩;have hW:w.heap.size+2<=W.heap.size:=Z.lt;replace X:=X.below b0;replace Z:=Z.below b0;replace B0:=Bs B0 b0;obtain ⟨X_0,X_1,X_2,X_3,X_4,X_5,X_6,X_7,X_l⟩:=X.g8;obtain ⟨Z_0,Z_1,Z_2,Z_3,Z_4,Z_5,Z_6,Z_7,Z_l⟩:=Z.g8;have X_f:=X.free;have Z_f:=Z.free;have sX:w.heap.size∉F0:=fun hm=>by have:=n0 _ hm;omega
 have X1:DBox w [.int .i64 r.id,.int .i64 r.plan.prio,.int .i64 r.plan.most,.int .i64 r.plan.wait,.int .i64 r.plan.tasks,.slice A3 n3 c3,.int .i64 r.state,.slice A2 r.tasks.length c2] (((((w0.setCell ⟨w,1,Ab⟩ (.int .i64 r.plan.prio)).setCell ⟨w,2,Ab⟩ (.int .i64 r.plan.most)).setCell ⟨w,3,Ab⟩ (.int .i64 r.plan.wait)).setCell ⟨w,4,Ab⟩ (.int .i64 r.plan.tasks)).setCell ⟨w,5,Ab⟩ (.slice A3 n3 c3)):=((((X.set 1 Bm (.int .i64 r.plan.prio)).set 2 Bm (.int .i64 r.plan.most)).set 3 Bm (.int .i64 r.plan.wait)).set 4 Bm (.int .i64 r.plan.tasks)).set 5 Bm (.slice A3 n3 c3);have Z1:=((((Z.setOther (a:=⟨w,1,Ab⟩) Bm (.int .i64 r.plan.prio)).setOther (a:=⟨w,2,Ab⟩) Bm (.int .i64 r.plan.most)).setOther (a:=⟨w,3,Ab⟩) Bm (.int .i64 r.plan.wait)).setOther (a:=⟨w,4,Ab⟩) Bm (.int .i64 r.plan.tasks)).setOther (a:=⟨w,5,Ab⟩) Bm (.slice A3 n3 c3);have o1:Cm.ow (((((w0.setCell ⟨w,1,Ab⟩ (.int .i64 r.plan.prio)).setCell ⟨w,2,Ab⟩ (.int .i64 r.plan.most)).setCell ⟨w,3,Ab⟩ (.int .i64 r.plan.wait)).setCell ⟨w,4,Ab⟩ (.int .i64 r.plan.tasks)).setCell ⟨w,5,Ab⟩ (.slice A3 n3 c3)) F0 r.plan ⟨A3,n3,c3⟩:=by repeat (first | (with_reducible exact o0) | refine Dt.ow_set Cm ?_ sX _)
 have B1:Below w w (((((w0.setCell ⟨w,1,Ab⟩ (.int .i64 r.plan.prio)).setCell ⟨w,2,Ab⟩ (.int .i64 r.plan.most)).setCell ⟨w,3,Ab⟩ (.int .i64 r.plan.wait)).setCell ⟨w,4,Ab⟩ (.int .i64 r.plan.tasks)).setCell ⟨w,5,Ab⟩ (.slice A3 n3 c3)):=by repeat (first | (with_reducible exact B0) | refine Ad ?_ Bm _)
 have HZ3:=Bp (show (((((w0.setCell ⟨w,1,Ab⟩ (.int .i64 r.plan.prio)).setCell ⟨w,2,Ab⟩ (.int .i64 r.plan.most)).setCell ⟨w,3,Ab⟩ (.int .i64 r.plan.wait)).setCell ⟨w,4,Ab⟩ (.int .i64 r.plan.tasks)).setCell ⟨w,5,Ab⟩ (.slice A3 n3 c3)).heap.size=w0.heap.size by simp);go_wp2_with (at_builtin;generalize pF:(((((w0.setCell ⟨w,1,Ab⟩ (.int .i64 r.plan.prio)).setCell ⟨w,2,Ab⟩ (.int .i64 r.plan.most)).setCell ⟨w,3,Ab⟩ (.int .i64 r.plan.wait)).setCell ⟨w,4,Ab⟩ (.int .i64 r.plan.tasks)).setCell ⟨w,5,Ab⟩ (.slice A3 n3 c3))=W3 at *;clear pF X_0 X_1 X_2 X_3 X_4 X_5 X_6 X_7 X_l X_f Z_0 Z_1 Z_2 Z_3 Z_4 Z_5 Z_6 Z_7 Z_l Z_f X Z o0;have fD:=((Bq W3 W3).alloc (Br _) (.cells #[] 138));refine Bz _ G4 Bo rfl (.tmp 7) (.tmp 9) rfl Tryz.underlying87 aL aR aS aP rfl (v:=(.slice (Ac ⟨w0,0,Ab⟩) 0 0)) (l:=[]) rfl (Ow.empty G4 138 W3 HZ3.out.symm) rfl ((h2.below (Bs B1 fD)).more (Bs B1 fD).size) Bm Bk Bo (by have:=fD.size;have:=HZ3.out;omega) ?_;intro v1 w1 o5 g1 f1;rw [List.nil_append] at o5;have B31:Below W3 W3 w1:=fD.grown g1 fD.size (fun g hg=>by have:=HZ3.out;simp [Value.ownBlock] at hg<;>omega);clear f1 g1;obtain ⟨⟨A5,n5,c5⟩,F5,rfl,o6,n6⟩:=Yd o5;replace X1:=X1.below B31;replace Z1:=Z1.below B31;have y0:=X1.cell 0 _ rfl;have y1:=X1.cell 1 _ rfl;have y2:=X1.cell 2 _ rfl;have y3:=X1.cell 3 _ rfl;have y4:=X1.cell 4 _ rfl;have y5:=X1.cell 5 _ rfl;have y6:=X1.cell 6 _ rfl;have y7:=X1.cell 7 _ rfl;have yf:=X1.free;have yl:=X1.lt;have z0:=Z1.cell 0 _ rfl;have z1:=Z1.cell 1 _ rfl;have z2:=Z1.cell 2 _ rfl;have z3:=Z1.cell 3 _ rfl;have z4:=Z1.cell 4 _ rfl;have z5:=Z1.cell 5 _ rfl;have z6:=Z1.cell 6 _ rfl;have z7:=Z1.cell 7 _ rfl;have zf:=Z1.free;have zl:=Z1.lt)
 have B2:=Bs B1 B31;have o7:=Cm.ow_below o1 B31;have hz3:=HZ3.out;have cZ:=b0.size;have l0:∀ b∈F0,b<w0:=fun b hb=>by have:=Cm.ow_lt o1 b hb;omega
 refine bodyPost_ret (v:=Hc r (⟨A3,n3,c3⟩,⟨A5,n5,c5⟩)) ?_ rfl ?_
 ·simp [Hc,results,Tryz.results198,go_sem,z0,z1,z2,z3,z4,z5,z6,z7]
 ·refine ⟨(⟨A3,n3,c3⟩,⟨A5,n5,c5⟩),F0 ++ F5,rfl,⟨F0,F5,rfl,?_,?_,?_⟩,?_,?_⟩
  ·rw [Ax];refine ⟨Cm.ow_nodup o1,o6.nodup,fun u hu u' hu' e=>?_⟩
   have:=l0 u hu
   have:=n6 u' hu'
   omega
  ·have eX:w.heap.size+1∉F0:=fun hm=>by have:=n0 _ hm;omega
   repeat (first | (with_reducible exact o7) | refine Dt.ow_set Cm ?_ (by first | exact sX | exact eX) _)
  ·have kD:w.heap.size∉F5:=fun hm=>by have:=n6 _ hm;omega
   have eX:w.heap.size+1∉F5:=fun hm=>by have:=n6 _ hm;omega
   show OwL Eo _ F5 (.slice A5 n5 c5) r.tasks;repeat (first | (with_reducible exact o6) | refine OwL.set ?_ (by first | exact kD | exact eX) _)
  ·intro b hb;rcases Bh.1 hb with hb | hb
   ·have:=n0 b hb;omega
   ·have:=n6 b hb;omega
  ·repeat (first | (with_reducible exact B2) | refine Ad ?_ (by first | (simp;done) | (simp;omega)) _)
def Ge (n:Int):Bool:=inB n 0 1000000000
def Ff (p:Plan):Bool:=Ge p.prio && Ge p.most && Ge p.wait && Ge p.tasks && decide (p.edges.length<=31) && p.edges.all fun e=>Ge e.fr && Ge e.to
def Gh (p:Plan):Bool:=p.prio == 0 && p.most == 0 && p.wait == 0 && p.tasks == 0 && p.edges.length == 0
def Dr (d:Deed):Bool :=
 inB d.kind 1 8 &&
 (if d.kind=2\/d.kind=5\/d.kind=8 then d.run == 0 else Ge d.run) &&
 (if d.kind=3\/d.kind=4 then Ge d.task && Ge d.try_ else d.task == 0 && d.try_ == 0) &&
 (if d.kind=2 then Ge d.worker && Ge d.draw else d.worker == 0 && d.draw == 0) &&
 (if d.kind=1 then Ff d.plan else Gh d.plan)
theorem Gy (p:Plan) (s:Sl) (w:World) (h:Cm.rd w w p s) :
  Calls An 197 #[Qc p s] w fun e w'=>e = .returned (.bool (Gh p))/\Below w w w':=by
 obtain ⟨A,n,c⟩:=s;obtain rfl:n=p.edges.length:=RdL.at1 (s:=⟨A,n,c⟩) h;have X:=DBox.new 43 [J U p.prio,J U p.most,J U p.wait,J U p.tasks,Aa A p.edges.length c] w (b:=w.heap.size) rfl;have B0:Below w w (w.alloc (.cells #[J U p.prio,J U p.most,J U p.wait,J U p.tasks,Aa A p.edges.length c] 43)):=by repeat (first | exact Bq _ _ | refine Ae ?_ Bn _)
 have H:=Bp (show Gh p=(p.prio == 0 && p.most == 0 && p.wait == 0 && p.tasks == 0 && p.edges.length == 0) from rfl);by_cases a0:p.prio=0;case neg =>
  have b0:(p.prio == 0)=false:=by simpa using a0
  go_enter Tryz.func197,Tryz.ntmps197;go_wp2;go_ret;exact ⟨Bw (by rw [H.out];simp [b0]),B0⟩
 have b0:(p.prio == 0)=true:=by simpa using a0
 clear a0;by_cases a1:p.most=0;case neg =>
  have b1:(p.most == 0)=false:=by simpa using a1
  go_enter Tryz.func197,Tryz.ntmps197;go_wp2;go_ret;exact ⟨Bw (by rw [H.out];simp [b0,b1]),B0⟩
 have b1:(p.most == 0)=true:=by simpa using a1
 clear a1;by_cases a2:p.wait=0;case neg =>
  have b2:(p.wait == 0)=false:=by simpa using a2
  go_enter Tryz.func197,Tryz.ntmps197;go_wp2;go_ret;exact ⟨Bw (by rw [H.out];simp [b0,b1,b2]),B0⟩
 have b2:(p.wait == 0)=true:=by simpa using a2
 clear a2;by_cases a3:p.tasks=0;case neg =>
  have b3:(p.tasks == 0)=false:=by simpa using a3
  go_enter Tryz.func197,Tryz.ntmps197;go_wp2;go_ret;exact ⟨Bw (by rw [H.out];simp [b0,b1,b2,b3]),B0⟩
 have b3:(p.tasks == 0)=true:=by simpa using a3
 clear a3;by_cases a4:p.edges.length=0;case neg =>
  have b4:((p.edges.length:Int) == 0)=false:=by rw [beq_eq_false_iff_ne];omega
  have b5:(p.edges.length == 0)=false:=by rw [beq_eq_false_iff_ne];exact a4
  go_enter Tryz.func197,Tryz.ntmps197;go_wp2;go_ret;exact ⟨Bw (by rw [H.out];simp [b0,b1,b2,b3,b5]),B0⟩
 have b4:((p.edges.length:Int) == 0)=true:=by rw [beq_iff_eq];omega
 have b5:(p.edges.length == 0)=true:=by rw [beq_iff_eq];exact a4
 clear a4;go_enter Tryz.func197,Tryz.ntmps197;go_wp2;go_ret;exact ⟨Bw (by rw [H.out];simp [b0,b1,b2,b3,b5]),B0⟩
theorem Af3 {α:Type} {f:α->Bool} {l:List α} {k:Nat} (h:k<l.length) (hn:f l[k]=false):l.all f=false:=by
 rw [List.all_eq_false];exact ⟨l[k],Aw h,by simp [hn]⟩
theorem Sc {p:Plan} {k:Nat} (h:k<p.edges.length) (hn:(Ge p.edges[k].fr && Ge p.edges[k].to)=false):Ff p=false:=by
 unfold Ff;rw [Af3 h hn,Bool.and_false]
theorem Ti (p:Plan) (s:Sl) (w:World) (h:Cm.rd w w p s) :
  Calls An 196 #[Qc p s] w fun e w'=>e = .returned (.bool (Ff p))/\Below w w w':=by
 obtain ⟨A,n,c⟩:=s;obtain rfl:n=p.edges.length:=RdL.at1 (s:=⟨A,n,c⟩) h;have h2:Rd Gc w w (Aa A p.edges.length c) p.edges:=Ju h;clear h;have X:=DBox.new 43 [J U p.prio,J U p.most,J U p.wait,J U p.tasks,Aa A p.edges.length c] w (b:=w.heap.size) rfl;have B0:Below w w (w.alloc (.cells #[J U p.prio,J U p.most,J U p.wait,J U p.tasks,Aa A p.edges.length c] 43)):=by repeat (first | exact Bq _ _ | refine Ae ?_ Bn _)
 cases b0:inB p.prio 0 1000000000;case false =>
  have H:=Bp (show Ff p=false by simp [Ff,Ge,b0]);go_enter Tryz.func196,Tryz.ntmps196;go_wp2_with (go_at_call 191;refine (Cq _ _).mono ?_;rintro e w9 ⟨rfl,rfl⟩)
  go_ret;exact ⟨Bw H.out.symm,B0⟩
 cases b1:inB p.most 0 1000000000;case false =>
  have H:=Bp (show Ff p=false by simp [Ff,Ge,b0,b1]);go_enter Tryz.func196,Tryz.ntmps196;go_wp2_with (go_at_call 191;refine (Cq _ _).mono ?_;rintro e w9 ⟨rfl,rfl⟩)
  go_ret;exact ⟨Bw H.out.symm,B0⟩
 cases b2:inB p.wait 0 1000000000;case false =>
  have H:=Bp (show Ff p=false by simp [Ff,Ge,b0,b1,b2]);go_enter Tryz.func196,Tryz.ntmps196;go_wp2_with (go_at_call 191;refine (Cq _ _).mono ?_;rintro e w9 ⟨rfl,rfl⟩)
  go_ret;exact ⟨Bw H.out.symm,B0⟩
 cases b3:inB p.tasks 0 1000000000;case false =>
  have H:=Bp (show Ff p=false by simp [Ff,Ge,b0,b1,b2,b3]);go_enter Tryz.func196,Tryz.ntmps196;go_wp2_with (go_at_call 191;refine (Cq _ _).mono ?_;rintro e w9 ⟨rfl,rfl⟩)
  go_ret;exact ⟨Bw H.out.symm,B0⟩
 by_cases a4:p.edges.length<=31;case neg =>
  have b4:(31:Int)<(p.edges.length:Int):=Bk;have H:=Bp (show Ff p=false by simp [Ff,a4]);go_enter Tryz.func196,Tryz.ntmps196;go_wp2_with (go_at_call 191;refine (Cq _ _).mono ?_;rintro e w9 ⟨rfl,rfl⟩)
  go_ret;exact ⟨Bw H.out.symm,B0⟩
 have b4:¬ (31:Int)<(p.edges.length:Int):=Bk;have HN:=Bp (show Ff p=p.edges.all (fun e=>Ge e.fr && Ge e.to) by simp [Ff,Ge,b0,b1,b2,b3,a4]);go_enter Tryz.func196,Tryz.ntmps196;go_wp2_with (go_at_call 191;refine (Cq _ _).mono ?_;rintro e w9 ⟨rfl,rfl⟩)
 generalize (w.alloc (.cells #[J U p.prio,J U p.most,J U p.wait,J U p.tasks,Aa A p.edges.length c] 43))=W at *
 clear b0 b1 b2 b3;go_loopw [3] (fun i wr=>∃ k:Nat,k<=p.edges.length/\i = J U k/\Hid ((p.edges.take k).all (fun e=>Ge e.fr && Ge e.to)=true)/\DBox w [J U p.prio,J U p.most,J U p.wait,J U p.tasks,Aa A p.edges.length c] wr/\Below w w wr) (fun i _=>p.edges.length - (intOf i).toNat);case atStart=>exact ⟨0,Ag _,rfl,rfl,X,B0⟩
 case round =>
  clear X B0;obtain ⟨k,hk,rfl,hA,X,hb⟩:=hrel;obtain ⟨X_0,X_1,X_2,X_3,X_4,X_l⟩:=X.g5;by_cases aA:k<p.edges.length
  ·have aB:(k:Int)<(p.edges.length:Int):=Bk;obtain ⟨b,o,rfl,aG,d0,d1⟩:=(h2.below hb).edge aA;cases q0:inB p.edges[k].fr 0 1000000000
   ·have H:=Bp (Sc aA (by simp [Ge,q0]));go_wp2_with (go_at_call 191;refine (Cq _ _).mono ?_;rintro e w9 ⟨rfl,rfl⟩)
    go_ret;exact ⟨Bw H.out.symm,hb⟩
   cases q1:inB p.edges[k].to 0 1000000000
   ·have H:=Bp (Sc aA (by simp [Ge,q1]));go_wp2_with (go_at_call 191;refine (Cq _ _).mono ?_;rintro e w9 ⟨rfl,rfl⟩)
    go_ret;exact ⟨Bw H.out.symm,hb⟩
   have S:Hid ((p.edges.take (k+1)).all (fun e=>Ge e.fr && Ge e.to)=true):=by
    show _=_;rw [List.take_succ_eq_append_getElem aA,List.all_append,hA.out];simp [Ge,q0,q1]
   go_wp2_with (go_at_call 191;refine (Cq _ _).mono ?_;rintro e w9 ⟨rfl,rfl⟩)
   exact ⟨⟨k+1,Bk,by go_num,S,X,hb⟩,by simp [intOf];omega⟩
  ·have H:=Bp (show Ff p=true by
    have:=hA.out
    rw [List.take_of_length_le Bk] at this;rw [HN.out,this])
   have aB:¬ (k:Int)<(p.edges.length:Int):=Bk;go_wp2;go_ret;exact ⟨Bw H.out.symm,hb⟩
theorem Ye (s k:Int) (hk:k≠0):decide (s=k/\s≠0)=(s == k):=by
 by_cases h:s=k
 ·subst h;simp [hk]
 ·simp [h]
theorem Yf (s:Int):decide (s=0/\s≠0)=false:=Bm
theorem Zm {r:Run} (h1:inB r.id 1 9999=true) (h2:Cr r.plan=0) (h3:(r.tasks.length:Int)=r.plan.tasks) (h4:∀ t,t<r.tasks.length->Gl r t) :
  tf (Gg r)=decide (r.state=stL r.tasks/\r.state≠0):=by
 rw [Bool.eq_iff_iff,Kw,decide_eq_true_eq];unfold Gg;exact ⟨fun h=>h.2.2.2.2,fun h=>⟨Cp.1 h1,h2,h3,h4,h⟩⟩
theorem Aee {r:Run} (h4:∀ t,t<r.tasks.length->Gl r t):Dd r.tasks 1+Dd r.tasks 2+Dd r.tasks 3+Dd r.tasks 4+Dd r.tasks 5+Dd r.tasks 6=r.tasks.length:=by
 have:=U1 (l:=r.tasks) (fun x hx=>by
  obtain ⟨t,ht,rfl⟩:=List.getElem_of_mem hx
  have:=(h4 t ht).1
  rwa [Cn ht] at this)
 unfold Ja at this;exact this
theorem Jm (r:Run) (s:Sl×Sl) (st:Int) (w:World) (hl:r.tasks.length<=2000000) (h:Co.rd w w r s) :
  Calls An 84 #[Hc r s,J U st] w fun e w'=>∃ A c,e = .returned (Aa A (Dd r.tasks st) c)/\Below w w w' :=
 (Tf r s st w hl h).mono fun e w' ⟨v,he,ho,hb⟩=>by
  obtain ⟨A,c,hv,-⟩:=id (Rd.of_own ho);rw [Zi] at hv;exact ⟨A,c,by rw [he,hv],hb⟩
theorem Wk (r:Run) (s:Sl×Sl) (w:World) (hl:C9 r<=2000000) (h:Co.rd w w r s) :
  Calls An 119 #[Hc r s] w fun e w'=>e = .returned (.bool (tf (Gg r)))/\Below w w w':=by
 have HR:=Bp (show ∀ W,Below w w W->Co.rd W W r s from fun W hW=>Co.rd_more (Co.rd_below h hW) hW.size);obtain ⟨⟨A1,n1,c1⟩,⟨A2,n2,c2⟩⟩:=s;obtain rfl:n2=r.tasks.length:=RdL.at1 (s:=⟨A2,n2,c2⟩) h.2;have h1:Rd Gc w w (Aa A1 n1 c1) r.plan.edges:=Ju h.1;have jL:r.plan.edges.length<=2000000:=Ah (Ct Tu _) (by unfold C9 Js at hl;omega);have dS:r.tasks.length<=2000000:=Ah (Ct G8 _) (by unfold C9 at hl;omega);clear h hl;have X:=DBox.new 89 [J U r.id,J U r.plan.prio,J U r.plan.most,J U r.plan.wait,J U r.plan.tasks,Aa A1 n1 c1,J U r.state,Aa A2 r.tasks.length c2] w (b:=w.heap.size) rfl;have B0:Below w w (w.alloc (.cells #[J U r.id,J U r.plan.prio,J U r.plan.most,J U r.plan.wait,J U r.plan.tasks,Aa A1 n1 c1,J U r.state,Aa A2 r.tasks.length c2] 89)):=by repeat (first | exact Bq _ _ | refine Ae ?_ Bn _)
 have C1:=Le r.plan (Aa A1 n1 c1) (w.alloc (.cells #[J U r.id,J U r.plan.prio,J U r.plan.most,J U r.plan.wait,J U r.plan.tasks,Aa A1 n1 c1,J U r.state,Aa A2 r.tasks.length c2] 89)) jL ((h1.below B0).more B0.size);cases a1:inB r.id 1 9999;case false =>
  have H:=Bp (show tf (Gg r)=false from Ck (fun h=>by have:=Cp.2 h.1;rw [a1] at this;cases this));go_enter Tryz.func119,Tryz.ntmps119;go_wp2_with (go_at_call 58;refine (Cs _ _ _ _).mono ?_;rintro e w' ⟨rfl,rfl⟩)
  go_ret;exact ⟨Bw H.out.symm,B0⟩
 by_cases e2:Cr r.plan=0;case neg =>
  have a2:(Cr r.plan != 0)=true:=by simp [e2]
  have H:=Bp (show tf (Gg r)=false from Ck (fun h=>e2 h.2.1));clear e2;go_enter Tryz.func119,Tryz.ntmps119;go_wp2_with (first | (go_at_call 58;refine (Cs _ _ _ _).mono ?_;rintro e w' ⟨rfl,rfl⟩) | (go_at_call 164;refine C1.mono ?_;rintro e w1 ⟨rfl,b1⟩;have q1:=(Wp b1).1))
  go_ret;exact ⟨Bw H.out.symm,Bs B0 b1⟩
 have E2:=Bp e2;rw [e2] at C1;clear e2;by_cases e3:(r.tasks.length:Int)=r.plan.tasks;case neg =>
  have a3:((r.tasks.length:Int) != r.plan.tasks)=true:=by simp [e3]
  have H:=Bp (show tf (Gg r)=false from Ck (fun h=>e3 h.2.2.1));clear e3;go_enter Tryz.func119,Tryz.ntmps119;have X_3:=X.cell 3 _ rfl;have X_4:=X.cell 4 _ rfl;have X_7:=X.cell 7 _ rfl;have X_l:=X.lt;go_wp2_with fail
  go_wp2_with (first | (go_at_call 58;refine (Cs _ _ _ _).mono ?_;rintro e w' ⟨rfl,rfl⟩) | (go_at_call 164;refine C1.mono ?_;rintro e w1 ⟨rfl,b1⟩;have q1:=fun j=>(Wp b1).1 w.heap.size j X_l))
  go_ret;exact ⟨Bw H.out.symm,Bs B0 b1⟩
 have a3:((r.tasks.length:Int) != r.plan.tasks)=false:=by simp [e3]
 have E3:=Bp e3;clear e3;have X_l:=X.lt;go_enter Tryz.func119,Tryz.ntmps119;go_wp2_with fail
 go_wp2_with (first | (go_at_call 58;refine (Cs _ _ _ _).mono ?_;rintro e w' ⟨rfl,rfl⟩) | (go_at_call 164;refine C1.mono ?_;rintro e w1 ⟨rfl,b1⟩;have q1:=fun j=>(Wp b1).1 w.heap.size j X_l))
 clear q1;replace X:=X.below b1;replace B0:=Bs B0 b1;clear X_l C1 b1 a3;have A1_:=Bp a1;clear a1;go_loopw [30] (fun i wr=>∃ k:Nat,k<=r.tasks.length/\i = J U k/\Hid (∀ t,t<k->Gl r t)/\Below w1 w1 wr) (fun i _=>r.tasks.length - (intOf i).toNat);case atStart=>exact ⟨0,Ag _,rfl,fun t ht=>absurd ht Bk,Bq _ _⟩
 case round =>
  obtain ⟨k,hk,rfl,aU,hb⟩:=hrel;replace X:=X.below hb;replace B0:=Bs B0 hb;obtain ⟨X_0,X_1,X_2,X_3,X_4,X_5,X_6,X_7,X_l⟩:=X.g8;by_cases aA:k<r.tasks.length
  ·have aB:(k:Int)<(r.tasks.length:Int):=Bk;have C:=U7 r (⟨A1,n1,c1⟩,⟨A2,r.tasks.length,c2⟩) k wr E2.out E3.out aA (HR.out _ B0);by_cases tk:Gl r k
   ·have S:Hid (∀ t,t<k+1->Gl r t):=by
     intro t ht;by_cases e:t=k
     ·subst e;exact tk
     ·exact aU.out t Bk
    rw [D6 tk] at C;clear tk;go_wp2_with fail
    refine C.mono ?_;rintro e w2 ⟨rfl,b2⟩;go_wp2;exact ⟨⟨k+1,Bk,by go_num,S,Bs hb b2⟩,by simp [intOf];omega⟩
   ·have H:=Bp (show tf (Gg r)=false from Ck (fun h=>tk (h.2.2.2.1 k aA)));rw [Ck tk] at C;clear tk;go_wp2_with fail
    refine C.mono ?_;rintro e w2 ⟨rfl,b2⟩;go_wp2;go_ret;exact ⟨Bw H.out.symm,Bs B0 b2⟩
  ·have aB:¬ (k:Int)<(r.tasks.length:Int):=Bk;have aZ:k=r.tasks.length:=Bk;subst aZ;have HF:=Bp (Zm A1_.out E2.out E3.out aU.out);have HI:=Bp (Acj r.tasks);have HSum:=Bp (Aee aU.out);go_wp2;go_region_held3 (fun w'=>w'.cell? ⟨w,0,Ab⟩=Ac (J U r.id)/\w'.cell? ⟨w,1,Ab⟩=Ac (J U r.plan.prio)/\w'.cell? ⟨w,2,Ab⟩=Ac (J U r.plan.most)/\w'.cell? ⟨w,3,Ab⟩=Ac (J U r.plan.wait)/\w'.cell? ⟨w,4,Ab⟩=Ac (J U r.plan.tasks)/\w'.cell? ⟨w,5,Ab⟩=Ac (Aa A1 n1 c1)/\w'.cell? ⟨w,6,Ab⟩=Ac (J U r.state)/\w'.cell? ⟨w,7,Ab⟩=Ac (Aa A2 r.tasks.length c2))
    (first | (refine ⟨?_,?_,?_,?_,?_,?_,?_,?_⟩<;>first | assumption | go_keep) | go_keep)
    (first
     | (go_at_call 84;(with_reducible refine (Jm r (⟨A1,n1,c1⟩,⟨A2,r.tasks.length,c2⟩) 4 _ dS (HR.out _ B0.drew)).mono ?_);rintro e w5 ⟨A5,c5,rfl,b5⟩;have B5:=Bs B0 (Bs ((Bq wr wr).drew) b5);have X5:=X.below (Bs ((Bq wr wr).drew) b5);have x50:=X5.cell 0 _ rfl;have x51:=X5.cell 1 _ rfl;have x52:=X5.cell 2 _ rfl;have x53:=X5.cell 3 _ rfl;have x54:=X5.cell 4 _ rfl;have x55:=X5.cell 5 _ rfl;have x56:=X5.cell 6 _ rfl;have x57:=X5.cell 7 _ rfl;have x5l:=X5.lt)
     | (go_at_call 84;(with_reducible refine (Jm r (⟨A1,n1,c1⟩,⟨A2,r.tasks.length,c2⟩) 5 _ dS (HR.out _ B5)).mono ?_);rintro e w6 ⟨A6,c6,rfl,b6⟩;have B6:=Bs B5 b6;have X6:=X5.below b6;have x60:=X6.cell 0 _ rfl;have x61:=X6.cell 1 _ rfl;have x62:=X6.cell 2 _ rfl;have x63:=X6.cell 3 _ rfl;have x64:=X6.cell 4 _ rfl;have x65:=X6.cell 5 _ rfl;have x66:=X6.cell 6 _ rfl;have x67:=X6.cell 7 _ rfl;have x6l:=X6.lt)
     | (go_at_call 84;(with_reducible refine (Jm r (⟨A1,n1,c1⟩,⟨A2,r.tasks.length,c2⟩) 6 _ dS (HR.out _ B6)).mono ?_);rintro e w7 ⟨A7,c7,rfl,b7⟩;have B7:=Bs B6 b7;have X7:=X6.below b7;have x70:=X7.cell 0 _ rfl;have x71:=X7.cell 1 _ rfl;have x72:=X7.cell 2 _ rfl;have x73:=X7.cell 3 _ rfl;have x74:=X7.cell 4 _ rfl;have x75:=X7.cell 5 _ rfl;have x76:=X7.cell 6 _ rfl;have x77:=X7.cell 7 _ rfl;have x7l:=X7.lt))
   clear X_0 X_1 X_2 X_3 X_4 X_5 X_6 X_7 X_l x50 x51 x52 x53 x54 x55 x56 x57 x5l x60 x61 x62 x63 x64 x65 x66 x67 x6l;have eT:((Dd r.tasks 1:Nat):Int)+(Dd r.tasks 2:Nat)+(Dd r.tasks 3:Nat)+(Dd r.tasks 4:Nat)+(Dd r.tasks 5:Nat)+(Dd r.tasks 6:Nat)=r.tasks.length:=by have:=HSum.out;omega
   generalize eS:((Dd r.tasks 1:Nat):Int)=c1' at *
   generalize rT:((Dd r.tasks 2:Nat):Int)=c2' at *
   generalize nB:((Dd r.tasks 3:Nat):Int)=c3' at *
   generalize pL:((Dd r.tasks 4:Nat):Int)=c4' at *
   generalize nW:((Dd r.tasks 5:Nat):Int)=c5' at *
   generalize hc6:((Dd r.tasks 6:Nat):Int)=c6' at *
   have m1:0<=c1':=Bk;have m2:0<=c2':=Bk;have m3:0<=c3':=Bk;have m4:0<=c4'/\c4'<=2000000:=Bk;have m5:0<=c5'/\c5'<=2000000:=Bk;have m6:0<=c6'/\c6'<=2000000:=Bk;clear eS rT nB pL nW hc6;have HV:Hid (tf (Gg r)=decide (r.state=stI c1' c2' c3' c4' c5' c6' r.tasks.length/\r.state≠0)):=by
    show tf (Gg r)=_;rw [HF.out,HI.out]
   clear HF HI;generalize r.state=rs at *
   by_cases q1:c4'=(r.tasks.length:Int)
   ·have H:=Bp (show tf (Gg r)=(rs == 2) by rw [HV.out];unfold stI;rw [if_pos q1];exact Ye _ _ Bk);have q1':(c4' == (r.tasks.length:Int))=true:=beq_iff_eq.2 q1;clear q1 eT;go_wp2;go_ret;exact ⟨Bw H.out.symm,B7⟩
   have q1':(c4' == (r.tasks.length:Int))=false:=beq_eq_false_iff_ne.2 q1;by_cases q2:c4'+c5'+c6'=(r.tasks.length:Int)
   ·have q2':(c4'+c5'+c6' == (r.tasks.length:Int))=true:=beq_iff_eq.2 q2;have r0:c1'+c2'+c3'=0:=Bk;by_cases q3:c5'=1
    ·have q3':(c5' == 1)=true:=beq_iff_eq.2 q3;have q4':(c5' == 0)=false:=beq_eq_false_iff_ne.2 Bk;have H:=Bp (show tf (Gg r)=(rs == 3) by rw [HV.out];unfold stI;rw [if_neg q1,if_pos ⟨q3,r0⟩];exact Ye _ _ Bk);clear q1 q2 q3 eT r0;go_wp2;go_ret;exact ⟨Bw H.out.symm,B7⟩
    have q3':(c5' == 1)=false:=beq_eq_false_iff_ne.2 q3;by_cases q4:c5'=0
    ·have q4':(c5' == 0)=true:=beq_iff_eq.2 q4;by_cases q5:c6'=0
     ·exact absurd (show c4'=(r.tasks.length:Int) by omega) q1
     ·have q5':(c6' == 0)=false:=beq_eq_false_iff_ne.2 q5;have q6:0<c6':=Bk;have q6':decide (0<c6')=true:=decide_eq_true q6;have H:=Bp (show tf (Gg r)=(rs == 4) by rw [HV.out];unfold stI;rw [if_neg q1,if_neg (fun h=>q3 h.1),if_pos ⟨q4,q6,r0⟩];exact Ye _ _ Bk);clear q1 q2 q3 q4 q5 q6 eT r0;go_wp2;go_ret;exact ⟨Bw H.out.symm,B7⟩
    ·have q4':(c5' == 0)=false:=beq_eq_false_iff_ne.2 q4;have H:=Bp (show tf (Gg r)=false by rw [HV.out];unfold stI;rw [if_neg q1,if_neg (fun h=>q3 h.1),if_neg (fun h=>q4 h.1),if_neg (fun h=>q4 h.1)];exact Yf _);clear q1 q2 q3 q4 eT r0;cases q7:(rs == 1)
     all_goals
      go_wp2;go_ret;exact ⟨Bw H.out.symm,B7⟩
   ·have q2':(c4'+c5'+c6' == (r.tasks.length:Int))=false:=beq_eq_false_iff_ne.2 q2;have r0:¬ c1'+c2'+c3'=0:=Bk;by_cases q4:c5'=0
    ·have q4':(c5' == 0)=true:=beq_iff_eq.2 q4;have q3':(c5' == 1)=false:=beq_eq_false_iff_ne.2 Bk;by_cases q5:c6'=0
     ·have q5':(c6' == 0)=true:=beq_iff_eq.2 q5;have q6':decide (0<c6')=false:=decide_eq_false Bk;have H:=Bp (show tf (Gg r)=(rs == 1) by rw [HV.out];unfold stI;rw [if_neg q1,if_neg (fun h=>r0 h.2),if_neg (fun h=>r0 h.2.2),if_pos ⟨q4,q5⟩];exact Ye _ _ Bk);clear q1 q2 q4 q5 eT r0;cases q7:(rs == 1)
      all_goals
       rw [q7] at H;go_wp2;go_ret;exact ⟨Bw H.out.symm,B7⟩
     ·have q5':(c6' == 0)=false:=beq_eq_false_iff_ne.2 q5;have q6':decide (0<c6')=true:=decide_eq_true Bk;have H:=Bp (show tf (Gg r)=false by rw [HV.out];unfold stI;rw [if_neg q1,if_neg (fun h=>r0 h.2),if_neg (fun h=>r0 h.2.2),if_neg (fun h=>q5 h.2)];exact Yf _);clear q1 q2 q4 q5 eT r0;cases q7:(rs == 1)
      all_goals
       go_wp2;go_ret;exact ⟨Bw H.out.symm,B7⟩
    ·have q4':(c5' == 0)=false:=beq_eq_false_iff_ne.2 q4;have H:=Bp (show tf (Gg r)=false by rw [HV.out];unfold stI;rw [if_neg q1,if_neg (fun h=>r0 h.2),if_neg (fun h=>r0 h.2.2),if_neg (fun h=>q4 h.1)];exact Yf _);clear q1 q2 q4 eT r0;cases q7:(rs == 1)<;>cases q3':(c5' == 1)
     all_goals
      go_wp2;go_ret;exact ⟨Bw H.out.symm,B7⟩
theorem Lo (r:Run) (s:Sl×Sl) (w:World) (hl:C9 r<=2000000) (h:Co.rd w w r s) :
  Calls An 216 #[Hc r s] w fun e w'=>e = .returned (.bool (tf (Gg r)))/\Below w w w':=by
 have HR:=Bp (show ∀ W,Below w w W->Co.rd W W r s from fun W hW=>Co.rd_more (Co.rd_below h hW) hW.size);obtain ⟨⟨A1,n1,c1⟩,⟨A2,n2,c2⟩⟩:=s;obtain rfl:n2=r.tasks.length:=RdL.at1 (s:=⟨A2,n2,c2⟩) h.2;have h1:Rd Gc w w (Aa A1 n1 c1) r.plan.edges:=Ju h.1;have h2:RdL Eo w w (Aa A2 r.tasks.length c2) r.tasks:=h.2;have jL:r.plan.edges.length<=2000000:=Ah (Ct Tu _) (by unfold C9 Js at hl;omega);have dS:r.tasks.length<=2000000:=Ah (Ct G8 _) (by unfold C9 at hl;omega);clear h hl;have X:=DBox.new 89 [J U r.id,J U r.plan.prio,J U r.plan.most,J U r.plan.wait,J U r.plan.tasks,Aa A1 n1 c1,J U r.state,Aa A2 r.tasks.length c2] w (b:=w.heap.size) rfl;have B0:Below w w (w.alloc (.cells #[J U r.id,J U r.plan.prio,J U r.plan.most,J U r.plan.wait,J U r.plan.tasks,Aa A1 n1 c1,J U r.state,Aa A2 r.tasks.length c2] 89)):=by repeat (first | exact Bq _ _ | refine Ae ?_ Bn _)
 have C1:=I4 r.plan (Aa A1 n1 c1) (w.alloc (.cells #[J U r.id,J U r.plan.prio,J U r.plan.most,J U r.plan.wait,J U r.plan.tasks,Aa A1 n1 c1,J U r.state,Aa A2 r.tasks.length c2] 89)) jL ((h1.below B0).more B0.size);have X_l:=X.lt;cases a1:inB r.id 1 9999;case false =>
  have H:=Bp (show tf (Gg r)=false from Ck (fun h=>by have:=Cp.2 h.1;rw [a1] at this;cases this));go_enter Tryz.func216,Tryz.ntmps216;go_wp2_with (go_at_call 155;refine (Cf _ _ _ _).mono ?_;rintro e w' ⟨rfl,rfl⟩)
  go_ret;exact ⟨Bw H.out.symm,B0⟩
 by_cases e2:Cr r.plan=0;case neg =>
  have a2:(Cr r.plan != 0)=true:=by simp [e2]
  have H:=Bp (show tf (Gg r)=false from Ck (fun h=>e2 h.2.1));clear e2;go_enter Tryz.func216,Tryz.ntmps216;go_wp2_with (first | (go_at_call 155;refine (Cf _ _ _ _).mono ?_;rintro e w' ⟨rfl,rfl⟩) | (go_at_call 199;refine C1.mono ?_;rintro e w1 ⟨rfl,b1⟩;have q1:=fun j=>(Wp b1).1 w.heap.size j X_l))
  go_ret;exact ⟨Bw H.out.symm,Bs B0 b1⟩
 have E2:=Bp e2;rw [e2] at C1;clear e2;by_cases e3:(r.tasks.length:Int)=r.plan.tasks;case neg =>
  have a3:((r.tasks.length:Int) != r.plan.tasks)=true:=by simp [e3]
  have H:=Bp (show tf (Gg r)=false from Ck (fun h=>e3 h.2.2.1));clear e3;go_enter Tryz.func216,Tryz.ntmps216;go_wp2_with (first | (go_at_call 155;refine (Cf _ _ _ _).mono ?_;rintro e w' ⟨rfl,rfl⟩) | (go_at_call 199;refine C1.mono ?_;rintro e w1 ⟨rfl,b1⟩;have q1:=fun j=>(Wp b1).1 w.heap.size j X_l))
  go_ret;exact ⟨Bw H.out.symm,Bs B0 b1⟩
 have a3:((r.tasks.length:Int) != r.plan.tasks)=false:=by simp [e3]
 have E3:=Bp e3;clear e3;go_enter Tryz.func216,Tryz.ntmps216;go_wp2_with (first | (go_at_call 155;refine (Cf _ _ _ _).mono ?_;rintro e w' ⟨rfl,rfl⟩) | (go_at_call 199;refine C1.mono ?_;rintro e w1 ⟨rfl,b1⟩;have q1:=fun j=>(Wp b1).1 w.heap.size j X_l))
 clear q1;replace X:=X.below b1;replace B0:=Bs B0 b1;clear X_l C1 b1 a3;have A1_:=Bp a1;clear a1;obtain ⟨X_0,X_1,X_2,X_3,X_4,X_5,X_6,X_7,X_l⟩:=X.g8;go_loop [3] (fun i=>∃ k:Nat,k<=r.tasks.length/\i = J U k/\Hid (∀ t (ht:t<r.tasks.length),t<k->1<=r.tasks[t].state/\r.tasks[t].state<=6)) (fun i=>r.tasks.length - (intOf i).toNat);case atStart=>exact ⟨0,Ag _,rfl,fun t _ ht=>absurd ht Bk⟩
 case round =>
  obtain ⟨k,hk,rfl,aU⟩:=hrel;by_cases aA:k<r.tasks.length
  ·have aB:(k:Int)<(r.tasks.length:Int):=Bk;obtain ⟨b,o,_,rfl,aG,_,d0,d1,d2,d3⟩:=(h2.below B0).task aA;cases tk:inB r.tasks[k].state 1 6
   ·have H:=Bp (show tf (Gg r)=false from Ck (fun h=>by
     have h3:=(h.2.2.2.1 k aA).1;rw [Cn aA] at h3
     have:=Cp.2 h3
     rw [tk] at this;cases this))
    go_wp2_with (go_at_call 155;refine (Cf _ _ _ _).mono ?_;rintro e w' ⟨rfl,rfl⟩)
    go_ret;exact ⟨Bw H.out.symm,B0⟩
   ·have S:Hid (∀ t (ht:t<r.tasks.length),t<k+1->1<=r.tasks[t].state/\r.tasks[t].state<=6):=by
     intro t ht dI;by_cases e:t=k
     ·subst e;exact Cp.1 tk
     ·exact aU.out t ht Bk
    go_wp2_with (go_at_call 155;refine (Cf _ _ _ _).mono ?_;rintro e w' ⟨rfl,rfl⟩)
    exact ⟨⟨k+1,Bk,by go_num,S⟩,by simp [intOf];omega⟩
  ·have aB:¬ (k:Int)<(r.tasks.length:Int):=Bk;have aZ:k=r.tasks.length:=Bk;subst aZ;have HT:=aU;go_wp2;clear X_0 X_1 X_2 X_3 X_4 X_5 X_6 X_7 X_l aU aA hk aB;go_loopw [4] (fun i wr=>∃ k:Nat,k<=r.tasks.length/\i = J U k/\Hid (∀ t,t<k->Gl r t)/\Below w1 w1 wr) (fun i _=>r.tasks.length - (intOf i).toNat);case atStart=>exact ⟨0,Ag _,rfl,fun t ht=>absurd ht Bk,Bq _ _⟩
   case round =>
    obtain ⟨k,hk,rfl,aU,hb⟩:=hrel;replace X:=X.below hb;replace B0:=Bs B0 hb;obtain ⟨X_0,X_1,X_2,X_3,X_4,X_5,X_6,X_7,X_l⟩:=X.g8;by_cases aA:k<r.tasks.length
    ·have aB:(k:Int)<(r.tasks.length:Int):=Bk;have C:=Yc r (⟨A1,n1,c1⟩,⟨A2,r.tasks.length,c2⟩) k wr E2.out E3.out aA (HT.out k aA aA) (HR.out _ B0);by_cases tk:Gl r k
     ·have S:Hid (∀ t,t<k+1->Gl r t):=by
       intro t ht;by_cases e:t=k
       ·subst e;exact tk
       ·exact aU.out t Bk
      rw [D6 tk] at C;clear tk;go_wp2_with fail
      refine C.mono ?_;rintro e w2 ⟨rfl,b2⟩;go_wp2;exact ⟨⟨k+1,Bk,by go_num,S,Bs hb b2⟩,by simp [intOf];omega⟩
     ·have H:=Bp (show tf (Gg r)=false from Ck (fun h=>tk (h.2.2.2.1 k aA)));rw [Ck tk] at C;clear tk;go_wp2_with fail
      refine C.mono ?_;rintro e w2 ⟨rfl,b2⟩;go_wp2;go_ret;exact ⟨Bw H.out.symm,Bs B0 b2⟩
    ·have aB:¬ (k:Int)<(r.tasks.length:Int):=Bk;have aZ:k=r.tasks.length:=Bk;subst aZ;have HF:=Bp (Zm A1_.out E2.out E3.out aU.out);have aJ:=Cy wr;have C:=fun u:Ix wr=>Ou r (⟨A1,n1,c1⟩,⟨A2,r.tasks.length,c2⟩) u.1 dS (fun x hx=>by
      obtain ⟨t,ht,rfl⟩:=List.getElem_of_mem hx;exact HT.out t ht ht) (HR.out _ (Bs B0 u.2))
     have C2:=Bp C;clear C;generalize stL r.tasks=S at *
     have HG:Hid (tf (Gg r)=((r.state == S) && (r.state != 0))):=by
      show tf (Gg r)=_;rw [HF.out,Bool.eq_iff_iff];simp
     clear HF;cases q1:(r.state == S)<;>cases q2:(r.state != 0)
     all_goals
      rw [q1,q2] at HG;go_wp2;refine Bv Bl Bl ?_;repeat (go_big_quiet_step ((go_at_call 243;(with_reducible exact Hv C2.out))))
      refine Ak ?_;rintro _ ⟨⟨w2,b2⟩,rfl⟩;clear aJ;go_wp2;go_ret;exact ⟨Bw HG.out.symm,Bs B0 b2⟩
theorem Kj {y:Yard} (hl:Ci y<=2000000) (k:Nat):Fe (y.runs.take k)+y.runs.length<=2000000/\Fe (y.runs.take k)+(Ce y).length<=2000000:=by
 have h1:=Adc (y.runs.take k);have h2:((y.runs.take k).map fun r=>r.tasks.length).sum<=(y.runs.map fun r=>r.tasks.length).sum:=by
  conv=>rhs;rw [<-List.take_append_drop k y.runs,List.map_append,List.sum_append]
  omega
 have h3:(y.runs.map fun r=>r.tasks.length).sum+y.runs.length<=Jx C9 y.runs:=by
  unfold Jx;have:∀ l:List Run,(l.map fun r=>r.tasks.length).sum<=(l.map C9).sum:=by
   intro l;induction l with
   | nil=>simp
   | cons r l ih =>
    simp only [List.map_cons,List.sum_cons];have:r.tasks.length<=C9 r:=by unfold C9;have:=Ct G8 r.tasks;omega
    omega
  have:=this y.runs
  omega
 have h4:=Hn y.shelf y.shelf.length;rw [List.take_length] at h4;unfold Ci at hl;unfold Ce;omega
theorem Zn {y:Yard} (hl:Ci y<=2000000):Gt y<=2000000:=by
 have h1:=(Kj hl y.runs.length).2;rw [List.take_length] at h1;have h2:=N4 y (Ce y);unfold Gt;omega
theorem Wl (y:Yard) (s:Sl×Sl) (w:World) (hl:Ci y<=2000000) (h:Bu.rd w w y s) :
  Calls An 121 #[Du y s] w fun e w'=>e = .returned (J U (Gt y:Nat))/\Below w w w':=by
 have HR:=Bp (show ∀ W,Below w w W->Bu.rd W W y s from fun W hW=>Bu.rd_more (Bu.rd_below h hW) hW.size);obtain ⟨⟨A1,n1,c1⟩,⟨A2,n2,c2⟩⟩:=s;obtain rfl:n2=y.runs.length:=RdL.at1 (s:=⟨A2,n2,c2⟩) h.2;have h2:RdL Co w w (Aa A2 y.runs.length c2) y.runs:=h.2;have eD:y.runs.length<=2000000:=Ah (Ct C9 _) (by unfold Ci at hl;omega);have HB:=Bp (Kj hl);have HD:=Bp (show Gt y=Fe y.runs+Fj y (Ce y) from rfl);clear h;obtain ⟨W,aH,X,B0⟩:=bx1 w 31 [J U y.now,J U y.seq,Aa A1 n1 c1,Aa A2 y.runs.length c2];have X_l:=X.lt;go_enter Tryz.func121,Tryz.ntmps121;go_wp2;rw [<-aH.out];clear aH;go_loopw [3,11] (fun n i wr=>∃ k:Nat,k<=y.runs.length/\i = J U k/\n = J U (Fe (y.runs.take k):Nat)/\Below W W wr) (fun _ i _=>y.runs.length - (intOf i).toNat);case atStart=>exact ⟨0,Ag _,rfl,rfl,Bq _ _⟩
 case round =>
  obtain ⟨k,hk,rfl,rfl,hb⟩:=hrel;have pU:=(HB.out k).1;by_cases aA:k<y.runs.length
  ·have aB:(k:Int)<(y.runs.length:Int):=Bk;obtain ⟨b,o,⟨s1,⟨At,nt,ct⟩⟩,rfl,aG,cE,c0_,c1_,c2_,c3_,c4_,c5_,c6_,c7_⟩:=(h2.below (Bs B0 hb)).run aA;obtain rfl:nt=y.runs[k].tasks.length:=RdL.at1 (s:=⟨At,nt,ct⟩) cE.2;have kA:=Gu hl aA;have bL:b<wr:=Ai aG (Bs B0 hb).size;by_cases q:y.runs[k].state=1
   ·have S:=Bp (U3 aA q);have q':(y.runs[k].state == 1)=true:=beq_iff_eq.2 q;clear q;go_wp2;refine ⟨⟨k+1,Bk,by go_num,by rw [S.out];go_num,?_⟩,by simp [intOf];omega⟩;exact Bs hb (by repeat (first | exact Bq _ _ | refine Ae ?_ Bn _))
   ·have S:=Bp (Wz aA q);have q':(y.runs[k].state == 1)=false:=beq_eq_false_iff_ne.2 q;clear q;go_wp2;refine ⟨⟨k+1,Bk,by go_num,by rw [S.out],?_⟩,by simp [intOf];omega⟩;exact Bs hb (by repeat (first | exact Bq _ _ | refine Ae ?_ Bn _))
  ·have aB:¬ (k:Int)<(y.runs.length:Int):=Bk;have aZ:k=y.runs.length:=Bk;subst aZ;have hbe:=(HB.out y.runs.length).2;rw [List.take_length] at hbe pU;replace X:=X.below hb;replace B0:=Bs B0 hb;clear X_l;obtain ⟨X_0,X_1,X_2,X_3,X_l⟩:=X.g4;have C:=M4 y (⟨A1,n1,c1⟩,⟨A2,y.runs.length,c2⟩) wr hl (HR.out _ B0);have HW:=Bp (N4 y);generalize Ce y=L at *
   go_wp2_with fail
   refine C.mono ?_;rintro e w2 ⟨v,rfl,o2,b2⟩;obtain ⟨A3,c3,rfl,-⟩:=id (Rd.of_own o2);replace X:=X.below b2;replace B0:=Bs B0 b2;clear X_0 X_1 X_2 X_3 X_l;go_wp2;generalize Fe y.runs=M at *
   go_loopw [3,27] (fun n i wr=>∃ k:Nat,k<=L.length/\i = J U k/\n = J U ((M+Fj y (L.take k):Nat))/\Below w2 w2 wr) (fun _ i _=>L.length - (intOf i).toNat);case atStart=>exact ⟨0,Ag _,rfl,by simp [Fj],Bq _ _⟩
   case round =>
    obtain ⟨k,hk,rfl,rfl,aF⟩:=hrel;have bV:=HW.out (L.take k);rw [Az] at bV;replace X:=X.below aF;obtain ⟨X_0,X_1,X_2,X_3,X_l⟩:=X.g4;by_cases aA:k<L.length
    ·have aB:(k:Int)<(L.length:Int):=Bk;obtain ⟨b,o,_,gZ,aG,_,d0,d1,d2,d3⟩:=RdL.entry (Ki (Rd.of_own (o2.below aF))) aA;subst gZ;have ha:Below wr wr (wr.alloc (.cells #[J U L[k].prio,J U L[k].seq,J U L[k].run,J U L[k].task] 93)):=(Bq _ _).alloc (Br _) _;have C:=Oq y (⟨A1,n1,c1⟩,⟨A2,y.runs.length,c2⟩) L[k] _ hl (HR.out _ (Bs (Bs B0 aF) ha));have HY:=Bp (U2 (y:=y) aA);have HN:=Bp (Wx (y:=y) aA);cases q:Dx y L[k]
     ·have S:=Bp (HY.out q);rw [q] at C;go_wp2_with fail
      refine C.mono ?_;rintro e w3 ⟨rfl,b3⟩;go_wp2;exact ⟨⟨k+1,Bk,by go_num,by rw [S.out];go_num,Bs (Bs aF ha) b3⟩,by simp [intOf];omega⟩
     ·have S:=Bp (HN.out q);rw [q] at C;go_wp2_with fail
      refine C.mono ?_;rintro e w3 ⟨rfl,b3⟩;go_wp2;exact ⟨⟨k+1,Bk,by go_num,by rw [S.out];go_num,Bs (Bs aF ha) b3⟩,by simp [intOf];omega⟩
    ·have aB:¬ (k:Int)<(L.length:Int):=Bk;have aZ:k=L.length:=Bk;subst aZ;go_wp2;go_ret;exact ⟨Dg (by have:=HD.out;omega),Bs B0 aF⟩
theorem Ov (y:Yard) (s:Sl×Sl) (w:World) (hl:Ci y<=2000000) (h:Bu.rd w w y s) :
  Calls An 218 #[Du y s] w fun e w'=>e = .returned (J U (Gt y:Nat))/\Below w w w':=by
 have HR:=Bp (show ∀ W,Below w w W->Bu.rd W W y s from fun W hW=>Bu.rd_more (Bu.rd_below h hW) hW.size);obtain ⟨⟨A1,n1,c1⟩,⟨A2,n2,c2⟩⟩:=s;obtain rfl:n1=y.shelf.length:=RdL.at1 (s:=⟨A1,n1,c1⟩) h.1;obtain rfl:n2=y.runs.length:=RdL.at1 (s:=⟨A2,n2,c2⟩) h.2;have h1:RdL (Dt.list Cg) w w (Aa A1 y.shelf.length c1) y.shelf:=h.1;have h2:RdL Co w w (Aa A2 y.runs.length c2) y.runs:=h.2;have eD:y.runs.length<=2000000:=Ah (Ct C9 _) (by unfold Ci at hl;omega);have hls:y.shelf.length<=2000000:=Ah (Ct De _) (by unfold Ci at hl;omega);have HE:=Bp (show ∀ k (hk:k<y.shelf.length),y.shelf[k].length<=2000000 from fun k hk=>by
  have:=Fk (cnt:=De) (Aw hk)
  have h2:y.shelf[k].length<=De y.shelf[k]:=Ct I6 _;unfold Ci at hl;omega)
 have HB:=Bp (Kj hl);have HD:=Bp (show Gt y=Fe y.runs+Fj y y.shelf.flatten from rfl);have HW:=Bp (show ∀ k,Fe y.runs+Fj y (y.shelf.take k).flatten<=4000000 from fun k=>by
  have h3:=(Kj hl y.runs.length).2;rw [List.take_length] at h3;have h4:=Hn y.shelf k;have h5:=N4 y (y.shelf.take k).flatten;unfold Ci at hl;omega)
 clear h;obtain ⟨W,aH,X,B0⟩:=bx1 w 31 [J U y.now,J U y.seq,Aa A1 y.shelf.length c1,Aa A2 y.runs.length c2];go_enter Tryz.func218,Tryz.ntmps218;go_wp2;rw [<-aH.out];clear aH;obtain ⟨X_0,X_1,X_2,X_3,X_l⟩:=X.g4;go_loop [3,4] (fun n i=>∃ k:Nat,k<=y.runs.length/\i = J U k/\n = J U (Fe (y.runs.take k):Nat)) (fun _ i=>y.runs.length - (intOf i).toNat);case atStart=>exact ⟨0,Ag _,rfl,rfl⟩
 case round =>
  obtain ⟨k,hk,rfl,rfl⟩:=hrel;have pU:=(HB.out k).1;by_cases aA:k<y.runs.length
  ·have aB:(k:Int)<(y.runs.length:Int):=Bk;obtain ⟨b,o,⟨s1,⟨At,nt,ct⟩⟩,rfl,aG,cE,c0_,c1_,c2_,c3_,c4_,c5_,c6_,c7_⟩:=(h2.below B0).run aA;obtain rfl:nt=y.runs[k].tasks.length:=RdL.at1 (s:=⟨At,nt,ct⟩) cE.2;have kA:=Gu hl aA;by_cases q:y.runs[k].state=1
   ·have S:=Bp (U3 aA q);have q':(y.runs[k].state == 1)=true:=beq_iff_eq.2 q;clear q;go_wp2;exact ⟨⟨k+1,Bk,by go_num,by rw [S.out];go_num⟩,by simp [intOf];omega⟩
   ·have S:=Bp (Wz aA q);have q':(y.runs[k].state == 1)=false:=beq_eq_false_iff_ne.2 q;clear q;go_wp2;exact ⟨⟨k+1,Bk,by go_num,by rw [S.out]⟩,by simp [intOf];omega⟩
  ·have aB:¬ (k:Int)<(y.runs.length:Int):=Bk;have aZ:k=y.runs.length:=Bk;subst aZ;have HS:=Bp (show Fe (y.runs.take y.runs.length)=Fe y.runs by rw [List.take_length]);go_wp2;clear X_0 X_1 X_2 X_3 X_l pU aA hk aB;go_loopw [3,5] (fun n i wr=>∃ k:Nat,k<=y.shelf.length/\i = J U k/\n = J U (Fe y.runs+Fj y (y.shelf.take k).flatten:Nat)/\Below W W wr) (fun _ i _=>y.shelf.length - (intOf i).toNat);case atStart=>exact ⟨0,Ag _,rfl,by simp [Fj],Bq _ _⟩
   case round =>
    obtain ⟨k,hk,rfl,rfl,hb⟩:=hrel;have hwk:=HW.out k;by_cases aA:k<y.shelf.length
    ·have aB:(k:Int)<(y.shelf.length:Int):=Bk;have hez:=HE.out k aA;have kC:=Bp (Ky y.shelf k aA);have hwk1:=HW.out (k+1);rw [kC.out,Oo] at hwk1;have HWj:=Bp (show ∀ j,Fj y (y.shelf[k].take j)<=y.shelf[k].length from fun j=>Ah (N4 _ _) (by rw [Az];omega));have X1:=X.below hb;have pK:wr.cell? ⟨w,2,Ab⟩=Ac (Aa A1 y.shelf.length c1):=X1.cell 2 _ rfl;have sS:=X1.lt;go_wp2;clear pK sS X1;go_loopw [3,6] (fun n i wq=>∃ j:Nat,j<=y.shelf[k].length/\i = J U j/\n = J U (Fe y.runs+Fj y (y.shelf.take k).flatten+Fj y (y.shelf[k].take j):Nat)/\Below W W wq) (fun _ i _=>y.shelf[k].length - (intOf i).toNat);case atStart=>exact ⟨0,Ag _,rfl,by simp [Fj],hb⟩
     case round =>
      clear hb;obtain ⟨j,hj,rfl,rfl,hb⟩:=hrel;have hsj:=HWj.out j;have X:=X.below hb;obtain ⟨X_0,X_1,X_2,X_3,X_l⟩:=X.g4;obtain ⟨b,o,⟨As,ns,cs⟩,kE,aG,hr,d0⟩:=(h1.below (Bs B0 hb)).entryS aA;obtain rfl:ns=y.shelf[k].length:=RdL.at1 (s:=⟨As,ns,cs⟩) hr;subst kE;have bL:b<wr:=Ai aG (Bs B0 hb).size;by_cases cQ:j<y.shelf[k].length
      ·have gF:(j:Int)<(y.shelf[k].length:Int):=Bk;obtain ⟨b2,o2,_,hAs,jP,_,f0,f1,f2,f3⟩:=RdL.entry hr cQ;subst hAs;have cI:b2<wr:=Ai jP (Bs B0 hb).size;have aJ:=Cy wr;have C:=Bp (show ∀ u:Ix wr,_ from fun u=>Ot y (⟨Ac ⟨b,o,Ab⟩,y.shelf.length,c1⟩,⟨A2,y.runs.length,c2⟩) y.shelf[k][j] u.1 hl (HR.out _ (Bs (Bs B0 hb) u.2)));have HY:=Bp (U2 (y:=y) cQ);have HN:=Bp (Wx (y:=y) cQ);cases q:Dx y y.shelf[k][j]
       ·have S:=Bp (HY.out q);rw [q] at C;go_wp2;refine Bv Bl Bl ?_;repeat (go_big_quiet_step ((go_at_call 87;(with_reducible exact Hv C.out))))
        refine Ak ?_;rintro _ ⟨⟨w3,b3⟩,rfl⟩;clear aJ;go_wp2;exact ⟨⟨j+1,Bk,by go_num,by rw [S.out];go_num,Bs hb b3⟩,by simp [intOf];omega⟩
       ·have S:=Bp (HN.out q);rw [q] at C;go_wp2;refine Bv Bl Bl ?_;repeat (go_big_quiet_step ((go_at_call 87;(with_reducible exact Hv C.out))))
        refine Ak ?_;rintro _ ⟨⟨w3,b3⟩,rfl⟩;clear aJ;go_wp2;exact ⟨⟨j+1,Bk,by go_num,by rw [S.out];go_num,Bs hb b3⟩,by simp [intOf];omega⟩
      ·have gF:¬ (j:Int)<(y.shelf[k].length:Int):=Bk;have hj':j=y.shelf[k].length:=Bk;subst hj';have S:=Bp (show Fe y.runs+Fj y (y.shelf.take (k+1)).flatten=Fe y.runs+Fj y (y.shelf.take k).flatten+Fj y (y.shelf[k].take y.shelf[k].length) by rw [kC.out,Oo,List.take_length];omega);go_wp2;exact ⟨⟨k+1,Bk,by go_num,by rw [S.out],hb⟩,by simp [intOf];omega⟩
    ·have aB:¬ (k:Int)<(y.shelf.length:Int):=Bk;have aZ:k=y.shelf.length:=Bk;subst aZ;have X1:=X.below hb;have pK:wr.cell? ⟨w,2,Ab⟩=Ac (Aa A1 y.shelf.length c1):=X1.cell 2 _ rfl;have sS:=X1.lt;go_wp2;go_ret;exact ⟨Dg (by have:=HD.out;omega),Bs B0 hb⟩
def Hu (l:List Entry) (e:Entry):List Entry:=l.takeWhile (fun x=>Dm x e) ++ e :: l.dropWhile (fun x=>Dm x e)
theorem Vc {α:Type} {p:α->Bool} : ∀ {l:List α} {k:Nat},k<=l.length->(∀ j (hj:j<l.length),j<k->p l[j]=true)->(∀ h:k<l.length,p l[k]=false)->l.takeWhile p=l.take k/\l.dropWhile p=l.drop k
 | [],k,hk,_,_=>by
  obtain rfl:k=0:=by simpa using hk
  exact ⟨rfl,rfl⟩
 | x :: l,0,_,_,h=>by
  have:=h Bm
  simp only [List.getElem_cons_zero] at this;simp [List.takeWhile_cons,List.dropWhile_cons,this]
 | x :: l,k+1,hk,ha,h=>by
  have h0:=ha 0 Bm Bk;simp only [List.getElem_cons_zero] at h0;obtain ⟨i1,i2⟩:=Vc (p:=p) (l:=l) (k:=k) (by simpa using hk) (fun j hj dN=>by have:=ha (j+1) (by simpa using hj) Bk;simpa using this) (fun fR=>by have:=h (by simpa using fR);simpa using this);simp [List.takeWhile_cons,List.dropWhile_cons,h0,i1,i2]
theorem Tz {l:List Entry} {e:Entry} {k:Nat} (hk:k<=l.length) (ha:∀ j (hj:j<l.length),j<k->Dm l[j] e=true) (h:∀ h:k<l.length,Dm l[k] e=false):Hu l e=l.take k ++ [e] ++ l.drop k:=by
 unfold Hu;obtain ⟨h1,h2⟩:=Vc (p:=fun x=>Dm x e) hk ha h;rw [h1,h2,List.append_assoc];rfl
theorem Zo (l:List Entry) (e:Entry):(Hu l e).length=l.length+1:=by
 unfold Hu;rw [A0,List.length_cons];have:(l.takeWhile (fun x=>Dm x e) ++ l.dropWhile (fun x=>Dm x e)).length=l.length:=by rw [List.takeWhile_append_dropWhile]
 rw [A0] at this;omega
def Fg (a b:List Entry):List Entry:=if 80<a.length+b.length then a else b.foldl Hu a
theorem Kz (b:List Entry):∀ a:List Entry,(b.foldl Hu a).length=a.length+b.length:=by
 induction b with
 | nil=>intro a;rfl
 | cons x b ih=>intro a;rw [List.foldl_cons,ih,Zo,List.length_cons];omega
theorem Zp (a b:List Entry):(Fg a b).length<=a.length+b.length:=by
 unfold Fg;split
 ·omega
 ·rw [Kz];omega
def Cw (l:List Entry):Nat:=(l.length+1) / 2
theorem Zq (l:List Entry):Cw l<=l.length:=by unfold Cw;omega
def Cz (id:Int):Nat:=if (Gs id).length=0 then 0 else (Nm (Gs id) % 4).toNat
theorem Vd (id:Int):Cz id<4:=by
 unfold Cz;split
 ·decide
 ·have:=Int.emod_lt_of_pos (Nm (Gs id)) (show (0:Int)<4 by decide)
  have:=Int.emod_nonneg (Nm (Gs id)) (show (4:Int)≠0 by decide)
  omega
theorem OwL.swap {α:Type} {d:Dt α} {w:World} {F Fy:List Nat} {b o n c:Nat} {l:List α} (h:OwL d w F (Aa (Ac ⟨b,o,Ab⟩) n c) l) {j:Nat} (hj:j<l.length) {y:α} {s:d.S} (hy:d.ow w Fy y s) (hd:∀ x∈Fy,x∉F) :
  ∃ F',OwL d (Io w b (o+j * d.enc.sz) (d.enc.cells (y,s))) F' (Aa (Ac ⟨b,o,Ab⟩) n c) (l.set j y)/\(∀ x∈F',x∈F\/x∈Fy)/\b∈F/\b∈F':=by
 obtain ⟨rs,H,G,hm,hh,ho,rfl,hn⟩:=h;have jH:j<rs.length:=by rw [<-hm,Au] at hj;exact hj
 obtain ⟨b',o',hA,rfl,mU,hf⟩:=hh.at_ Bk;simp only [Option.some.injEq,Addr.mk.injEq,and_true] at hA;obtain ⟨rfl,rfl⟩:=hA;obtain ⟨F1,F2,rfl,h1,h2⟩:=ho.split j Bk;rw [List.drop_eq_getElem_cons jH] at h2;obtain ⟨Fx,F3,rfl,h3,h4⟩:=h2.head;have eK:b∉F1 ++ (Fx ++ F3):=by
  have:=hn
  simp only [List.singleton_append,List.nodup_cons] at this;exact this.1
 have nR:(F1 ++ (Fx ++ F3)).Nodup:=by
  have:=hn
  simp only [List.singleton_append,List.nodup_cons] at this;exact this.2
 have fG:b∉Fy:=fun hx=>hd b hx Bm;have hc:=Fb (d.enc.cells (y,s)) w b (o+j * d.enc.sz);have hp:=Rd.part hh.rd j jH (y,s) 0 (d.enc.cells (y,s)) (by rw [d.enc.len];omega) (fun i hi=>by rw [Nat.zero_add];exact List.getElem?_eq_getElem hi) (fun i hi ho=>by rw [d.enc.len] at ho;omega);rw [Nat.add_zero] at hp;have hz:=Km (d.enc.cells (y,s)) w b (o+j * d.enc.sz);have dX:rs.set j (y,s)=rs.take j ++ ((y,s) :: rs.drop (j+1)):=by rw [List.set_eq_take_append_cons_drop,if_pos jH]
 refine ⟨[b] ++ (F1 ++ (Fy ++ F3)),⟨rs.set j (y,s),[b],F1 ++ (Fy ++ F3),?_,⟨?_,?_,fun g hg i=>?_⟩,?_,rfl,?_⟩,?_,Bm,Bm⟩
 ·rw [List.map_set,hm]
 ·rw [hz];exact hp
 ·have:=hh.2.1
  rw [List.length_set];exact this
 ·rw [Iy];simp only [Av] at hg;subst hg;exact hf i
 ·rw [dX];refine (h1.chg hc (fun x hx dZ=>?_)).append (.cons (d.ow_chg hy hc (fun x hx dZ=>?_)) (h4.chg hc (fun x hx dZ=>?_)))
  ·simp only [Av] at dZ;subst dZ;exact eK (List.mem_append_left _ hx)
  ·simp only [Av] at dZ;subst dZ;exact fG hx
  ·simp only [Av] at dZ;subst dZ;exact eK (Bd _ (Bd _ hx))
 ·have hyN:=d.ow_nodup hy;rw [List.singleton_append,List.nodup_cons];refine ⟨fun hx=>?_,?_⟩
  ·simp only [Bh] at hx;rcases hx with hx | hx | hx
   ·exact eK (by simp [hx])
   ·exact fG hx
   ·exact eK (by simp [hx])
  ·rw [Ax] at nR ⊢;obtain ⟨n1,n2,n3⟩:=nR;rw [Ax] at n2;obtain ⟨m1,m2,m3⟩:=n2;refine ⟨n1,?_,fun a ha c hc=>?_⟩
   ·rw [Ax];exact ⟨hyN,m2,fun a ha c hc e=>hd a ha (by subst e;simp [hc])⟩
   ·rcases Bh.1 hc with hc | hc
    ·exact fun e=>hd c hc (by subst e;simp [ha])
    ·exact n3 a ha c (Bd _ hc)
 ·intro x hx;simp only [Bh,Av] at hx ⊢;rcases hx with hx | hx | hx | hx
  ·exact .inl (.inl hx)
  ·exact .inl (.inr (.inl hx))
  ·exact .inr hx
  ·exact .inl (.inr (.inr (.inr hx)))
end Go.Proofs.YtonlnjdempbfoaaGreat
