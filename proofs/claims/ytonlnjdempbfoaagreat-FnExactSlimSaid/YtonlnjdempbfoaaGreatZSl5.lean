/-
  Runs that stand in a yard as they should: the program's walk and the reference's. Copies of shelves and of runs, of the program and of the reference. Written by
-/
import Derived.Test.YtonlnjdempbfoaaGreatZSl0
import Derived.Test.YtonlnjdempbfoaaGreatZSl1
import Derived.Test.YtonlnjdempbfoaaGreatZSl3
import Derived.Test.YtonlnjdempbfoaaGreatZSl4
namespace Go.Proofs.YtonlnjdempbfoaaGreat
open Go.RowKit
set_option maxRecDepth 100000
set_option maxHeartbeats 4000000
set_option linter.unusedVariables false
set_option linter.unusedSimpArgs false
open Value renaming int->J,slice->Aa
open IntKind renaming i64->U
open Option renaming none->Ab,some->Ac
open Below renaming setCell->Ad,alloc->Ae
open Nat renaming zero_le->Ag,le_trans->Ah,lt_of_lt_of_le->Ai
open Go renaming wpQuiet_nil->Ak
open Go.Proofs.Tryz renaming prog->Am
open IntWalk renaming i64_in->Aq
open List renaming length_map->Ar,mem_singleton->Au,getElem_mem->Aw,nodup_append->Ax,length_take->Az,length_append->Bd,mem_append_right->Be,mem_append->Bi
theorem Tx {now:Int} {r:Run} {es:List Entry} {t k:Nat} (ht:t<r.tasks.length) (h2:r.tasks[t].state=2) (hk:k<es.length) (hm:Jo r.id t es[k]=true) (hp:¬ es[k].prio=r.plan.prio):¬ Jt now r es:=by
 intro h;have h3:=(h t ht).1;rw [Cr ht] at h3;exact hp ((h3 h2).1 _ (Aw hk) hm)
theorem Ty {now:Int} {r:Run} {es:List Entry} {t:Nat} (ht:t<r.tasks.length) (h2:r.tasks[t].state=2) (hm:¬ I0 r.id t es=1):¬ Jt now r es:=by
 intro h;have h3:=(h t ht).1;rw [Cr ht] at h3;exact hm (h3 h2).2
theorem Tz {now:Int} {r:Run} {es:List Entry} {t:Nat} (ht:t<r.tasks.length) (h2:r.tasks[t].state=3) (hm:inB r.tasks[t].until_ (now+1) (now+r.plan.wait)=false):¬ Jt now r es:=by
 intro h;have h3:=(h t ht).2;rw [Cr ht] at h3
 have:=Cv.2 (h3 h2)
 rw [hm] at this;cases this
theorem Nx {now:Int} {r:Run} {es:List Entry} {t:Nat} (ht:t<r.tasks.length) (h1:r.tasks[t].state=2->(∀ j (hj:j<es.length),Jo r.id t es[j]=true->es[j].prio=r.plan.prio)/\I0 r.id t es=1)
  (h2:r.tasks[t].state=3->inB r.tasks[t].until_ (now+1) (now+r.plan.wait)=true):Oa now r es t:=by
 unfold Oa;rw [Cr ht];refine ⟨fun h=>⟨fun e he hm=>?_,(h1 h).2⟩,fun h=>Cv.1 (h2 h)⟩;obtain ⟨j,hj,rfl⟩:=List.getElem_of_mem he;exact (h1 h).1 j hj hm
def I4 (r:Run) (t:Nat) (es:List Entry) (k:Nat):Prop:=∀ j (hj:j<es.length),j<k->Jo r.id t es[j]=true->es[j].prio=r.plan.prio
theorem Jx {r:Run} {t:Nat} {es:List Entry} {k:Nat} (h:I4 r t es k) (hk:k<es.length) (hp:Jo r.id t es[k]=true->es[k].prio=r.plan.prio):I4 r t es (k+1):=by
 intro j hj fK hm;by_cases e:j=k
 ·subst e;exact hp hm
 ·exact h j hj Bl hm
theorem Vg (y:Yard) (s:Sl×Sl) (r:Run) (s2:Sl×Sl) (es:List Entry) (s3:Sl) (w:World) (eZ:r.tasks.length<=2000000) (qP:es.length<=2000000) (hn:0<=y.now/\y.now<=999999980) (hw:1<=r.plan.wait/\r.plan.wait<=20)
  (h':Ch.rd w w r s2) (h3:Rd Ct w w s3.v es) :
  Calls Am 120 #[Dg y s,Gw r s2,Aa s3.a s3.n s3.c] w fun e w'=>e = .returned (.bool (tf (Jt y.now r es)))/\Below w w w':=by
 obtain ⟨⟨A1,n1,c1⟩,⟨A2,n2,c2⟩⟩:=s;obtain ⟨⟨A4,n4,c4⟩,⟨A5,n5,c5⟩⟩:=s2;obtain ⟨A6,n6,c6⟩:=s3;obtain rfl:n5=r.tasks.length:=RdL.at1 (s:=⟨A5,n5,c5⟩) h'.2;obtain rfl:n6=es.length:=RdL.at1 (s:=⟨A6,n6,c6⟩) (Kq h3);have h2:RdL Ee w w (Aa A5 r.tasks.length c5) r.tasks:=h'.2;have h3:RdL Bx w w (Aa A6 es.length c6) es:=Kq h3;clear h';obtain ⟨W,aG,X,R,B0⟩:=bx2 w 31 [J U y.now,J U y.seq,Aa A1 n1 c1,Aa A2 n2 c2] 89 [J U r.id,J U r.plan.prio,J U r.plan.most,J U r.plan.wait,J U r.plan.tasks,Aa A4 n4 c4,J U r.state,Aa A5 r.tasks.length c5];have R_l:=R.lt;go_enter Tryz.func120,Tryz.ntmps120;go_wp2;rw [<-aG.out];clear aG;go_loopw [15] (fun i wr=>∃ k:Nat,k<=r.tasks.length/\i = J U k/\Hid (∀ t,t<k->Oa y.now r es t)/\Below W W wr) (fun i _=>r.tasks.length - (intOf i).toNat);case atStart=>exact ⟨0,Ag _,rfl,fun t ht=>absurd ht Bl,Br _ _⟩
 case round =>
  obtain ⟨t,hk,rfl,bE,hb⟩:=hrel;by_cases aA:t<r.tasks.length
  ·have aB:(t:Int)<(r.tasks.length:Int):=Bl;obtain ⟨b,o,_,hA5,aH,_,d0,d1,d2,d3⟩:=(h2.below (Bt B0 hb)).task aA;subst hA5;have bL:b<wr:=Ai aH (Bt B0 hb).size;have T:=DBox.new 138 [J U r.tasks[t].state,J U r.tasks[t].need,J U r.tasks[t].try_,J U r.tasks[t].until_] wr rfl;have ha:Below wr wr (wr.alloc (.cells #[J U r.tasks[t].state,J U r.tasks[t].need,J U r.tasks[t].try_,J U r.tasks[t].until_] 138)):=(Br _ _).alloc (Bs _) _;go_wp2;generalize wr.alloc (.cells #[J U r.tasks[t].state,J U r.tasks[t].need,J U r.tasks[t].try_,J U r.tasks[t].until_] 138)=W2 at *
   have Hb2:=Bt hb ha;clear d0 d1 d2 d3 bL;go_loopw [9,22] (fun n i wq=>∃ j:Nat,j<=es.length/\i = J U j/\n = J U (I0 r.id t (es.take j):Nat)/\Hid (r.tasks[t].state=2->I4 r t es j)/\Below W2 W2 wq) (fun _ i _=>es.length - (intOf i).toNat);case atStart=>exact ⟨0,Ag _,rfl,rfl,fun _ j hj h0=>absurd h0 Bl,Br _ _⟩
   case round =>
    obtain ⟨j,hj,rfl,rfl,qL,aF⟩:=hrel;have hmn:=Y0 r.id t (es.take j);rw [Az] at hmn;have X:=(X.below Hb2).below aF;have R:=(R.below Hb2).below aF;replace T:=T.below aF;have X_:=X.g4;obtain ⟨R_0,R_1,R_2,R_3,R_4,R_5,R_6,R_7,R_l⟩:=R.g8;have T_:=T.g4;have B1:=Bt (Bt B0 Hb2) aF;by_cases cZ:j<es.length
    ·have gU:(j:Int)<(es.length:Int):=Bl;obtain ⟨b6,o6,_,hA6,hbb6,_,f0,f1,f2,f3⟩:=(h3.below B1).entry cZ;subst hA6;have nP:b6<wr:=Ai hbb6 B1.size;have hE:Below wr wr (wr.alloc (.cells #[J U es[j].prio,J U es[j].seq,J U es[j].run,J U es[j].task] 93)):=(Br _ _).alloc (Bs _) _;have HM:Hid (Jo r.id t es[j]=((es[j].run == r.id) && (es[j].task == (t:Int)))):=rfl;have HY:=Bq (V0 (id:=r.id) (t:=t) cZ);have HN:=Bq (Yz (id:=r.id) (t:=t) cZ);cases q1:(es[j].run == r.id)
     ·have hm:Jo r.id t es[j]=false:=by rw [HM.out,q1];rfl
      have S:=Bq (HN.out hm);have S2:Hid (r.tasks[t].state=2->I4 r t es (j+1)):=fun h2=>Jx (qL.out h2) cZ (fun hh=>by rw [hm] at hh;cases hh);clear hm;go_wp2;first
       | exact ⟨⟨j+1,Bl,by go_num,by rw [S.out],S2,Bt aF hE⟩,by simp [intOf];omega⟩
       | (refine ⟨?_,by simp [intOf];omega⟩;(repeat apply Exists.intro);first | exact ⟨⟨j+1,Bl,by go_num,by rw [S.out],S2,Bt aF hE⟩,rfl⟩ | exact ⟨⟨j+1,Bl,by go_num,by rw [S.out],S2,Bt aF hE⟩,rfl,rfl⟩ | exact ⟨⟨j+1,Bl,by go_num,by rw [S.out],S2,Bt aF hE⟩,rfl,rfl,rfl⟩ | exact ⟨⟨j+1,Bl,by go_num,by rw [S.out],S2,Bt aF hE⟩,rfl,rfl,rfl,rfl⟩ | exact ⟨⟨j+1,Bl,by go_num,by rw [S.out],S2,Bt aF hE⟩,rfl,rfl,rfl,rfl,rfl⟩ | exact ⟨⟨j+1,Bl,by go_num,by rw [S.out],S2,Bt aF hE⟩,rfl,rfl,rfl,rfl,rfl,rfl⟩ | exact ⟨⟨j+1,Bl,by go_num,by rw [S.out],S2,Bt aF hE⟩,rfl,rfl,rfl,rfl,rfl,rfl,rfl⟩)
     cases q2:(es[j].task == (t:Int))
     ·have hm:Jo r.id t es[j]=false:=by rw [HM.out,q1,q2];rfl
      have S:=Bq (HN.out hm);have S2:Hid (r.tasks[t].state=2->I4 r t es (j+1)):=fun h2=>Jx (qL.out h2) cZ (fun hh=>by rw [hm] at hh;cases hh);clear hm;go_wp2;first
       | exact ⟨⟨j+1,Bl,by go_num,by rw [S.out],S2,Bt aF hE⟩,by simp [intOf];omega⟩
       | (refine ⟨?_,by simp [intOf];omega⟩;(repeat apply Exists.intro);first | exact ⟨⟨j+1,Bl,by go_num,by rw [S.out],S2,Bt aF hE⟩,rfl⟩ | exact ⟨⟨j+1,Bl,by go_num,by rw [S.out],S2,Bt aF hE⟩,rfl,rfl⟩ | exact ⟨⟨j+1,Bl,by go_num,by rw [S.out],S2,Bt aF hE⟩,rfl,rfl,rfl⟩ | exact ⟨⟨j+1,Bl,by go_num,by rw [S.out],S2,Bt aF hE⟩,rfl,rfl,rfl,rfl⟩ | exact ⟨⟨j+1,Bl,by go_num,by rw [S.out],S2,Bt aF hE⟩,rfl,rfl,rfl,rfl,rfl⟩ | exact ⟨⟨j+1,Bl,by go_num,by rw [S.out],S2,Bt aF hE⟩,rfl,rfl,rfl,rfl,rfl,rfl⟩ | exact ⟨⟨j+1,Bl,by go_num,by rw [S.out],S2,Bt aF hE⟩,rfl,rfl,rfl,rfl,rfl,rfl,rfl⟩)
     have hm:Jo r.id t es[j]=true:=by rw [HM.out,q1,q2];rfl
     have S:=Bq (HY.out hm);have HM2:=Bq hm;clear hm;by_cases q3:r.tasks[t].state=2
     ·have q3':(r.tasks[t].state == 2)=true:=beq_iff_eq.2 q3;by_cases q4:es[j].prio=r.plan.prio
      ·have q4':(es[j].prio != r.plan.prio)=false:=by simp [q4]
       have S2:Hid (r.tasks[t].state=2->I4 r t es (j+1)):=fun h2=>Jx (qL.out h2) cZ (fun _=>q4);clear q3 q4;go_wp2;first
        | exact ⟨⟨j+1,Bl,by go_num,by rw [S.out];go_num,S2,Bt aF hE⟩,by simp [intOf];omega⟩
        | (refine ⟨?_,by simp [intOf];omega⟩;(repeat apply Exists.intro);first | exact ⟨⟨j+1,Bl,by go_num,by rw [S.out];go_num,S2,Bt aF hE⟩,rfl⟩ | exact ⟨⟨j+1,Bl,by go_num,by rw [S.out];go_num,S2,Bt aF hE⟩,rfl,rfl⟩ | exact ⟨⟨j+1,Bl,by go_num,by rw [S.out];go_num,S2,Bt aF hE⟩,rfl,rfl,rfl⟩ | exact ⟨⟨j+1,Bl,by go_num,by rw [S.out];go_num,S2,Bt aF hE⟩,rfl,rfl,rfl,rfl⟩ | exact ⟨⟨j+1,Bl,by go_num,by rw [S.out];go_num,S2,Bt aF hE⟩,rfl,rfl,rfl,rfl,rfl⟩ | exact ⟨⟨j+1,Bl,by go_num,by rw [S.out];go_num,S2,Bt aF hE⟩,rfl,rfl,rfl,rfl,rfl,rfl⟩ | exact ⟨⟨j+1,Bl,by go_num,by rw [S.out];go_num,S2,Bt aF hE⟩,rfl,rfl,rfl,rfl,rfl,rfl,rfl⟩)
      ·have q4':(es[j].prio != r.plan.prio)=true:=by simp [q4]
       have H:=Bq (Cf (Tx (now:=y.now) aA q3 cZ HM2.out q4));clear q3 q4;go_wp2;go_ret;exact ⟨Bv H.out.symm,Bt B1 hE⟩
     ·have q3':(r.tasks[t].state == 2)=false:=beq_eq_false_iff_ne.2 q3;have S2:Hid (r.tasks[t].state=2->I4 r t es (j+1)):=fun h2=>absurd h2 q3;clear q3;go_wp2;first
       | exact ⟨⟨j+1,Bl,by go_num,by rw [S.out];go_num,S2,Bt aF hE⟩,by simp [intOf];omega⟩
       | (refine ⟨?_,by simp [intOf];omega⟩;(repeat apply Exists.intro);first | exact ⟨⟨j+1,Bl,by go_num,by rw [S.out];go_num,S2,Bt aF hE⟩,rfl⟩ | exact ⟨⟨j+1,Bl,by go_num,by rw [S.out];go_num,S2,Bt aF hE⟩,rfl,rfl⟩ | exact ⟨⟨j+1,Bl,by go_num,by rw [S.out];go_num,S2,Bt aF hE⟩,rfl,rfl,rfl⟩ | exact ⟨⟨j+1,Bl,by go_num,by rw [S.out];go_num,S2,Bt aF hE⟩,rfl,rfl,rfl,rfl⟩ | exact ⟨⟨j+1,Bl,by go_num,by rw [S.out];go_num,S2,Bt aF hE⟩,rfl,rfl,rfl,rfl,rfl⟩ | exact ⟨⟨j+1,Bl,by go_num,by rw [S.out];go_num,S2,Bt aF hE⟩,rfl,rfl,rfl,rfl,rfl,rfl⟩ | exact ⟨⟨j+1,Bl,by go_num,by rw [S.out];go_num,S2,Bt aF hE⟩,rfl,rfl,rfl,rfl,rfl,rfl,rfl⟩)
    ·have gU:¬ (j:Int)<(es.length:Int):=Bl;have hj':j=es.length:=Bl;subst hj';have HP:Hid (r.tasks[t].state=2 -> ∀ j (hj:j<es.length),Jo r.id t es[j]=true->es[j].prio=r.plan.prio):=fun h2 j hj hm=>qL.out h2 j hj hj hm;have HMt:=Bq (show I0 r.id t (es.take es.length)=I0 r.id t es by rw [List.take_length]);have HMb:=Bq (show ∀ M:Int,M=(I0 r.id t es:Nat)->(M=1 ↔ I0 r.id t es=1) from fun M hM=>Bl);have step:Oa y.now r es t->Hid (∀ t',t'<t+1->Oa y.now r es t'):=fun hx t' kP=>by
      by_cases e:t'=t
      ·subst e;exact hx
      ·exact bE.out t' Bl
     have w1':U.wrap (y.now+1)=y.now+1:=Aq _ Bl;have w2':U.wrap (y.now+r.plan.wait)=y.now+r.plan.wait:=Aq _ Bl;by_cases q3:r.tasks[t].state=2
     ·have q3':(r.tasks[t].state == 2)=true:=beq_iff_eq.2 q3;have q5':(r.tasks[t].state == 3)=false:=beq_eq_false_iff_ne.2 Bl;by_cases q4:I0 r.id t es=1
      ·have S:=step (Nx aA (fun h=>⟨HP.out h,q4⟩) (fun h=>Bl));have q4':((I0 r.id t es:Int) != 1)=false:=by simp [q4]
       clear q3 q4 step;go_wp2;first
        | exact ⟨⟨t+1,Bl,by go_num,S,Bt Hb2 aF⟩,by simp [intOf];omega⟩
        | (refine ⟨?_,by simp [intOf];omega⟩;(repeat apply Exists.intro);first | exact ⟨⟨t+1,Bl,by go_num,S,Bt Hb2 aF⟩,rfl⟩ | exact ⟨⟨t+1,Bl,by go_num,S,Bt Hb2 aF⟩,rfl,rfl⟩ | exact ⟨⟨t+1,Bl,by go_num,S,Bt Hb2 aF⟩,rfl,rfl,rfl⟩ | exact ⟨⟨t+1,Bl,by go_num,S,Bt Hb2 aF⟩,rfl,rfl,rfl,rfl⟩ | exact ⟨⟨t+1,Bl,by go_num,S,Bt Hb2 aF⟩,rfl,rfl,rfl,rfl,rfl⟩ | exact ⟨⟨t+1,Bl,by go_num,S,Bt Hb2 aF⟩,rfl,rfl,rfl,rfl,rfl,rfl⟩ | exact ⟨⟨t+1,Bl,by go_num,S,Bt Hb2 aF⟩,rfl,rfl,rfl,rfl,rfl,rfl,rfl⟩)
      ·have H:=Bq (Cf (Ty (now:=y.now) aA q3 q4));have q4':((I0 r.id t es:Int) != 1)=true:=by simp;omega
       clear q3 q4 step;go_wp2;go_ret;exact ⟨Bv H.out.symm,B1⟩
     ·have q3':(r.tasks[t].state == 2)=false:=beq_eq_false_iff_ne.2 q3;by_cases q5:r.tasks[t].state=3
      ·have q5':(r.tasks[t].state == 3)=true:=beq_iff_eq.2 q5;cases q6:inB r.tasks[t].until_ (y.now+1) (y.now+r.plan.wait)
       ·have H:=Bq (Cf (Tz (es:=es) aA q5 q6));clear q3 q5 step;go_wp2_with (go_at_call 58;refine (Cl _ _ _ _).mono ?_;rintro e w' ⟨rfl,rfl⟩)
        go_ret;exact ⟨Bv H.out.symm,B1⟩
       ·have S:=step (Nx aA (fun h=>absurd h q3) (fun _=>q6));clear q3 q5 step;go_wp2_with (go_at_call 58;refine (Cl _ _ _ _).mono ?_;rintro e w' ⟨rfl,rfl⟩)
        first
         | exact ⟨⟨t+1,Bl,by go_num,S,Bt Hb2 aF⟩,by simp [intOf];omega⟩
         | (refine ⟨?_,by simp [intOf];omega⟩;(repeat apply Exists.intro);first | exact ⟨⟨t+1,Bl,by go_num,S,Bt Hb2 aF⟩,rfl⟩ | exact ⟨⟨t+1,Bl,by go_num,S,Bt Hb2 aF⟩,rfl,rfl⟩ | exact ⟨⟨t+1,Bl,by go_num,S,Bt Hb2 aF⟩,rfl,rfl,rfl⟩ | exact ⟨⟨t+1,Bl,by go_num,S,Bt Hb2 aF⟩,rfl,rfl,rfl,rfl⟩ | exact ⟨⟨t+1,Bl,by go_num,S,Bt Hb2 aF⟩,rfl,rfl,rfl,rfl,rfl⟩ | exact ⟨⟨t+1,Bl,by go_num,S,Bt Hb2 aF⟩,rfl,rfl,rfl,rfl,rfl,rfl⟩ | exact ⟨⟨t+1,Bl,by go_num,S,Bt Hb2 aF⟩,rfl,rfl,rfl,rfl,rfl,rfl,rfl⟩)
      ·have q5':(r.tasks[t].state == 3)=false:=beq_eq_false_iff_ne.2 q5;have S:=step (Nx aA (fun h=>absurd h q3) (fun h=>absurd h q5));clear q3 q5 step;go_wp2;first
        | exact ⟨⟨t+1,Bl,by go_num,S,Bt Hb2 aF⟩,by simp [intOf];omega⟩
        | (refine ⟨?_,by simp [intOf];omega⟩;(repeat apply Exists.intro);first | exact ⟨⟨t+1,Bl,by go_num,S,Bt Hb2 aF⟩,rfl⟩ | exact ⟨⟨t+1,Bl,by go_num,S,Bt Hb2 aF⟩,rfl,rfl⟩ | exact ⟨⟨t+1,Bl,by go_num,S,Bt Hb2 aF⟩,rfl,rfl,rfl⟩ | exact ⟨⟨t+1,Bl,by go_num,S,Bt Hb2 aF⟩,rfl,rfl,rfl,rfl⟩ | exact ⟨⟨t+1,Bl,by go_num,S,Bt Hb2 aF⟩,rfl,rfl,rfl,rfl,rfl⟩ | exact ⟨⟨t+1,Bl,by go_num,S,Bt Hb2 aF⟩,rfl,rfl,rfl,rfl,rfl,rfl⟩ | exact ⟨⟨t+1,Bl,by go_num,S,Bt Hb2 aF⟩,rfl,rfl,rfl,rfl,rfl,rfl,rfl⟩)
  ·have aB:¬ (t:Int)<(r.tasks.length:Int):=Bl;have H:=Bq (Dj (show Jt y.now r es from fun t' kP=>bE.out t' Bl));go_wp2;go_ret;exact ⟨Bv H.out.symm,Bt B0 hb⟩
theorem Vh (y:Yard) (s:Sl×Sl) (r:Run) (s2:Sl×Sl) (es:List Entry) (s3:Sl) (w:World) (eZ:r.tasks.length<=2000000) (qP:es.length<=2000000) (hn:0<=y.now/\y.now<=999999980) (hw:1<=r.plan.wait/\r.plan.wait<=20)
  (h':Ch.rd w w r s2) (h3:Rd Ct w w s3.v es) :
  Calls Am 217 #[Dg y s,Gw r s2,Aa s3.a s3.n s3.c] w fun e w'=>e = .returned (.bool (tf (Jt y.now r es)))/\Below w w w':=by
 obtain ⟨⟨A1,n1,c1⟩,⟨A2,n2,c2⟩⟩:=s;obtain ⟨⟨A4,n4,c4⟩,⟨A5,n5,c5⟩⟩:=s2;obtain ⟨A6,n6,c6⟩:=s3;obtain rfl:n5=r.tasks.length:=RdL.at1 (s:=⟨A5,n5,c5⟩) h'.2;obtain rfl:n6=es.length:=RdL.at1 (s:=⟨A6,n6,c6⟩) (Kq h3);have h2:RdL Ee w w (Aa A5 r.tasks.length c5) r.tasks:=h'.2;have h3:RdL Bx w w (Aa A6 es.length c6) es:=Kq h3;clear h';obtain ⟨W,aG,X,R,B0⟩:=bx2 w 31 [J U y.now,J U y.seq,Aa A1 n1 c1,Aa A2 n2 c2] 89 [J U r.id,J U r.plan.prio,J U r.plan.most,J U r.plan.wait,J U r.plan.tasks,Aa A4 n4 c4,J U r.state,Aa A5 r.tasks.length c5];go_enter Tryz.func217,Tryz.ntmps217;go_wp2;rw [<-aG.out];clear aG;go_loopw [7] (fun i wr=>∃ k:Nat,k<=r.tasks.length/\i = J U k/\Hid (∀ t,t<k->Oa y.now r es t)/\Below W W wr) (fun i _=>r.tasks.length - (intOf i).toNat);case atStart=>exact ⟨0,Ag _,rfl,fun t ht=>absurd ht Bl,Br _ _⟩
 case round =>
  obtain ⟨t,hk,rfl,bE,hb⟩:=hrel;by_cases aA:t<r.tasks.length
  ·have aB:(t:Int)<(r.tasks.length:Int):=Bl;have R1:=R.below hb;have sD:wr.cell? ⟨w.heap.size+1,7,Ab⟩=Ac (Aa A5 r.tasks.length c5):=R1.cell 7 _ rfl;have uW:=R1.lt;go_wp2;clear sD uW R1;go_loopw [8,9] (fun n i wq=>∃ j:Nat,j<=es.length/\i = J U j/\n = J U (I0 r.id t (es.take j):Nat)/\Hid (r.tasks[t].state=2->I4 r t es j)/\Below W W wq) (fun _ i _=>es.length - (intOf i).toNat);case atStart=>exact ⟨0,Ag _,rfl,rfl,fun _ j hj h0=>absurd h0 Bl,hb⟩
   case round =>
    clear hb;obtain ⟨j,hj,rfl,rfl,qL,hb⟩:=hrel;have hmn:=Y0 r.id t (es.take j);rw [Az] at hmn;have X:=X.below hb;have R:=R.below hb;have X_:=X.g4;have R_:=R.g8;have B1:=Bt B0 hb;obtain ⟨b,o,_,hA5,aH,_,d0,d1,d2,d3⟩:=(h2.below B1).task aA;subst hA5;have bL:b<wr:=Ai aH B1.size;have aR:=C7 wr;by_cases cZ:j<es.length
    ·have gU:(j:Int)<(es.length:Int):=Bl;obtain ⟨b6,o6,_,hA6,hbb6,_,f0,f1,f2,f3⟩:=(h3.below B1).entry cZ;subst hA6;have nP:b6<wr:=Ai hbb6 B1.size;have HM:Hid (Jo r.id t es[j]=((es[j].run == r.id) && (es[j].task == (t:Int)))):=rfl;have HY:=Bq (V0 (id:=r.id) (t:=t) cZ);have HN:=Bq (Yz (id:=r.id) (t:=t) cZ);cases q1:(es[j].run == r.id)
     ·have hm:Jo r.id t es[j]=false:=by rw [HM.out,q1];rfl
      have S:=Bq (HN.out hm);have S2:Hid (r.tasks[t].state=2->I4 r t es (j+1)):=fun h2=>Jx (qL.out h2) cZ (fun hh=>by rw [hm] at hh;cases hh);clear hm;go_wp2;go_quiet (fail);go_wp2;first
       | exact ⟨⟨j+1,Bl,by go_num,by rw [S.out],S2,Cj hb _⟩,by simp [intOf];omega⟩
       | (refine ⟨?_,by simp [intOf];omega⟩;(repeat apply Exists.intro);first | exact ⟨⟨j+1,Bl,by go_num,by rw [S.out],S2,Cj hb _⟩,rfl⟩ | exact ⟨⟨j+1,Bl,by go_num,by rw [S.out],S2,Cj hb _⟩,rfl,rfl⟩ | exact ⟨⟨j+1,Bl,by go_num,by rw [S.out],S2,Cj hb _⟩,rfl,rfl,rfl⟩ | exact ⟨⟨j+1,Bl,by go_num,by rw [S.out],S2,Cj hb _⟩,rfl,rfl,rfl,rfl⟩ | exact ⟨⟨j+1,Bl,by go_num,by rw [S.out],S2,Cj hb _⟩,rfl,rfl,rfl,rfl,rfl⟩ | exact ⟨⟨j+1,Bl,by go_num,by rw [S.out],S2,Cj hb _⟩,rfl,rfl,rfl,rfl,rfl,rfl⟩ | exact ⟨⟨j+1,Bl,by go_num,by rw [S.out],S2,Cj hb _⟩,rfl,rfl,rfl,rfl,rfl,rfl,rfl⟩)
     cases q2:(es[j].task == (t:Int))
     ·have hm:Jo r.id t es[j]=false:=by rw [HM.out,q1,q2];rfl
      have S:=Bq (HN.out hm);have S2:Hid (r.tasks[t].state=2->I4 r t es (j+1)):=fun h2=>Jx (qL.out h2) cZ (fun hh=>by rw [hm] at hh;cases hh);clear hm;go_wp2;go_quiet (fail);go_wp2;first
       | exact ⟨⟨j+1,Bl,by go_num,by rw [S.out],S2,Cj hb _⟩,by simp [intOf];omega⟩
       | (refine ⟨?_,by simp [intOf];omega⟩;(repeat apply Exists.intro);first | exact ⟨⟨j+1,Bl,by go_num,by rw [S.out],S2,Cj hb _⟩,rfl⟩ | exact ⟨⟨j+1,Bl,by go_num,by rw [S.out],S2,Cj hb _⟩,rfl,rfl⟩ | exact ⟨⟨j+1,Bl,by go_num,by rw [S.out],S2,Cj hb _⟩,rfl,rfl,rfl⟩ | exact ⟨⟨j+1,Bl,by go_num,by rw [S.out],S2,Cj hb _⟩,rfl,rfl,rfl,rfl⟩ | exact ⟨⟨j+1,Bl,by go_num,by rw [S.out],S2,Cj hb _⟩,rfl,rfl,rfl,rfl,rfl⟩ | exact ⟨⟨j+1,Bl,by go_num,by rw [S.out],S2,Cj hb _⟩,rfl,rfl,rfl,rfl,rfl,rfl⟩ | exact ⟨⟨j+1,Bl,by go_num,by rw [S.out],S2,Cj hb _⟩,rfl,rfl,rfl,rfl,rfl,rfl,rfl⟩)
     have hm:Jo r.id t es[j]=true:=by rw [HM.out,q1,q2];rfl
     have S:=Bq (HY.out hm);have HM2:=Bq hm;clear hm;by_cases q3:r.tasks[t].state=2
     ·have q3':(r.tasks[t].state == 2)=true:=beq_iff_eq.2 q3;by_cases q4:es[j].prio=r.plan.prio
      ·have q4':(es[j].prio != r.plan.prio)=false:=by simp [q4]
       have S2:Hid (r.tasks[t].state=2->I4 r t es (j+1)):=fun h2=>Jx (qL.out h2) cZ (fun _=>q4);clear q3 q4;go_wp2;go_quiet (fail);go_wp2;go_quiet (fail);go_wp2;first
        | exact ⟨⟨j+1,Bl,by go_num,by rw [S.out];go_num,S2,by first | exact Cj hb _ | exact Cj (Cj hb _) _⟩,by simp [intOf];omega⟩
        | (refine ⟨?_,by simp [intOf];omega⟩;(repeat apply Exists.intro);first | exact ⟨⟨j+1,Bl,by go_num,by rw [S.out];go_num,S2,by first | exact Cj hb _ | exact Cj (Cj hb _) _⟩,rfl⟩ | exact ⟨⟨j+1,Bl,by go_num,by rw [S.out];go_num,S2,by first | exact Cj hb _ | exact Cj (Cj hb _) _⟩,rfl,rfl⟩ | exact ⟨⟨j+1,Bl,by go_num,by rw [S.out];go_num,S2,by first | exact Cj hb _ | exact Cj (Cj hb _) _⟩,rfl,rfl,rfl⟩ | exact ⟨⟨j+1,Bl,by go_num,by rw [S.out];go_num,S2,by first | exact Cj hb _ | exact Cj (Cj hb _) _⟩,rfl,rfl,rfl,rfl⟩ | exact ⟨⟨j+1,Bl,by go_num,by rw [S.out];go_num,S2,by first | exact Cj hb _ | exact Cj (Cj hb _) _⟩,rfl,rfl,rfl,rfl,rfl⟩ | exact ⟨⟨j+1,Bl,by go_num,by rw [S.out];go_num,S2,by first | exact Cj hb _ | exact Cj (Cj hb _) _⟩,rfl,rfl,rfl,rfl,rfl,rfl⟩ | exact ⟨⟨j+1,Bl,by go_num,by rw [S.out];go_num,S2,by first | exact Cj hb _ | exact Cj (Cj hb _) _⟩,rfl,rfl,rfl,rfl,rfl,rfl,rfl⟩)
      ·have q4':(es[j].prio != r.plan.prio)=true:=by simp [q4]
       have H:=Bq (Cf (Tx (now:=y.now) aA q3 cZ HM2.out q4));clear q3 q4;go_wp2;go_quiet (fail);go_wp2;go_quiet (fail);go_wp2;go_ret;exact ⟨Bv H.out.symm,by first | exact Cj B1 _ | exact Cj (Cj B1 _) _⟩
     ·have q3':(r.tasks[t].state == 2)=false:=beq_eq_false_iff_ne.2 q3;have S2:Hid (r.tasks[t].state=2->I4 r t es (j+1)):=fun h2=>absurd h2 q3;clear q3;go_wp2;go_quiet (fail);go_wp2;go_quiet (fail);go_wp2;first
       | exact ⟨⟨j+1,Bl,by go_num,by rw [S.out];go_num,S2,by first | exact Cj hb _ | exact Cj (Cj hb _) _⟩,by simp [intOf];omega⟩
       | (refine ⟨?_,by simp [intOf];omega⟩;(repeat apply Exists.intro);first | exact ⟨⟨j+1,Bl,by go_num,by rw [S.out];go_num,S2,by first | exact Cj hb _ | exact Cj (Cj hb _) _⟩,rfl⟩ | exact ⟨⟨j+1,Bl,by go_num,by rw [S.out];go_num,S2,by first | exact Cj hb _ | exact Cj (Cj hb _) _⟩,rfl,rfl⟩ | exact ⟨⟨j+1,Bl,by go_num,by rw [S.out];go_num,S2,by first | exact Cj hb _ | exact Cj (Cj hb _) _⟩,rfl,rfl,rfl⟩ | exact ⟨⟨j+1,Bl,by go_num,by rw [S.out];go_num,S2,by first | exact Cj hb _ | exact Cj (Cj hb _) _⟩,rfl,rfl,rfl,rfl⟩ | exact ⟨⟨j+1,Bl,by go_num,by rw [S.out];go_num,S2,by first | exact Cj hb _ | exact Cj (Cj hb _) _⟩,rfl,rfl,rfl,rfl,rfl⟩ | exact ⟨⟨j+1,Bl,by go_num,by rw [S.out];go_num,S2,by first | exact Cj hb _ | exact Cj (Cj hb _) _⟩,rfl,rfl,rfl,rfl,rfl,rfl⟩ | exact ⟨⟨j+1,Bl,by go_num,by rw [S.out];go_num,S2,by first | exact Cj hb _ | exact Cj (Cj hb _) _⟩,rfl,rfl,rfl,rfl,rfl,rfl,rfl⟩)
    ·have gU:¬ (j:Int)<(es.length:Int):=Bl;have hj':j=es.length:=Bl;subst hj';rw [List.take_length] at *
     have HP:Hid (r.tasks[t].state=2 -> ∀ j (hj:j<es.length),Jo r.id t es[j]=true->es[j].prio=r.plan.prio):=fun h2 j hj hm=>qL.out h2 j hj hj hm;have step:Oa y.now r es t->Hid (∀ t',t'<t+1->Oa y.now r es t'):=fun hx t' kP=>by
      by_cases e:t'=t
      ·subst e;exact hx
      ·exact bE.out t' Bl
     have w1':U.wrap (y.now+1)=y.now+1:=Aq _ Bl;have w2':U.wrap (y.now+r.plan.wait)=y.now+r.plan.wait:=Aq _ Bl;generalize hM:(I0 r.id t es:Int)=M at *
     by_cases q3:r.tasks[t].state=2
     ·have q3':(r.tasks[t].state == 2)=true:=beq_iff_eq.2 q3;have q5':(r.tasks[t].state == 3)=false:=beq_eq_false_iff_ne.2 Bl;by_cases q4:M=1
      ·have S:=step (Nx aA (fun h=>⟨HP.out h,Bl⟩) (fun h=>Bl));have q4':(M != 1)=false:=by simp [q4]
       clear q3 q4 step hM;go_wp2;refine Bw Bm Bm ?_;repeat (go_big_quiet_step ((go_at_call 155;exact Dk (fun u=>Ce _ _ _ u.1))))
       refine Ak ?_;rintro _ ⟨⟨w2,b2⟩,rfl⟩;clear aR;go_wp2;first
        | exact ⟨⟨t+1,Bl,by go_num,S,Bt hb b2⟩,by simp [intOf];omega⟩
        | (refine ⟨?_,by simp [intOf];omega⟩;(repeat apply Exists.intro);first | exact ⟨⟨t+1,Bl,by go_num,S,Bt hb b2⟩,rfl⟩ | exact ⟨⟨t+1,Bl,by go_num,S,Bt hb b2⟩,rfl,rfl⟩ | exact ⟨⟨t+1,Bl,by go_num,S,Bt hb b2⟩,rfl,rfl,rfl⟩ | exact ⟨⟨t+1,Bl,by go_num,S,Bt hb b2⟩,rfl,rfl,rfl,rfl⟩ | exact ⟨⟨t+1,Bl,by go_num,S,Bt hb b2⟩,rfl,rfl,rfl,rfl,rfl⟩ | exact ⟨⟨t+1,Bl,by go_num,S,Bt hb b2⟩,rfl,rfl,rfl,rfl,rfl,rfl⟩ | exact ⟨⟨t+1,Bl,by go_num,S,Bt hb b2⟩,rfl,rfl,rfl,rfl,rfl,rfl,rfl⟩)
      ·have H:=Bq (Cf (Ty (now:=y.now) aA q3 (show ¬ I0 r.id t es=1 by omega)));have q4':(M != 1)=true:=by simp [q4]
       clear q3 q4 step hM;go_wp2;refine Bw Bm Bm ?_;repeat (go_big_quiet_step ((go_at_call 155;exact Dk (fun u=>Ce _ _ _ u.1))))
       refine Ak ?_;rintro _ ⟨⟨w2,b2⟩,rfl⟩;clear aR;go_wp2;go_ret;exact ⟨Bv H.out.symm,Bt B1 b2⟩
     ·have q3':(r.tasks[t].state == 2)=false:=beq_eq_false_iff_ne.2 q3;clear hM;by_cases q5:r.tasks[t].state=3
      ·have q5':(r.tasks[t].state == 3)=true:=beq_iff_eq.2 q5;cases q6:inB r.tasks[t].until_ (y.now+1) (y.now+r.plan.wait)
       ·have H:=Bq (Cf (Tz (es:=es) aA q5 q6));clear q3 q5 step;go_wp2;refine Bw Bm Bm ?_;repeat (go_big_quiet_step ((go_at_call 155;exact Dk (fun u=>Ce _ _ _ u.1))))
        refine Ak ?_;rintro _ ⟨⟨w2,b2⟩,rfl⟩;clear aR;go_wp2;go_ret;exact ⟨Bv H.out.symm,Bt B1 b2⟩
       ·have S:=step (Nx aA (fun h=>absurd h q3) (fun _=>q6));clear q3 q5 step;go_wp2;refine Bw Bm Bm ?_;repeat (go_big_quiet_step ((go_at_call 155;exact Dk (fun u=>Ce _ _ _ u.1))))
        refine Ak ?_;rintro _ ⟨⟨w2,b2⟩,rfl⟩;clear aR;go_wp2;first
         | exact ⟨⟨t+1,Bl,by go_num,S,Bt hb b2⟩,by simp [intOf];omega⟩
         | (refine ⟨?_,by simp [intOf];omega⟩;(repeat apply Exists.intro);first | exact ⟨⟨t+1,Bl,by go_num,S,Bt hb b2⟩,rfl⟩ | exact ⟨⟨t+1,Bl,by go_num,S,Bt hb b2⟩,rfl,rfl⟩ | exact ⟨⟨t+1,Bl,by go_num,S,Bt hb b2⟩,rfl,rfl,rfl⟩ | exact ⟨⟨t+1,Bl,by go_num,S,Bt hb b2⟩,rfl,rfl,rfl,rfl⟩ | exact ⟨⟨t+1,Bl,by go_num,S,Bt hb b2⟩,rfl,rfl,rfl,rfl,rfl⟩ | exact ⟨⟨t+1,Bl,by go_num,S,Bt hb b2⟩,rfl,rfl,rfl,rfl,rfl,rfl⟩ | exact ⟨⟨t+1,Bl,by go_num,S,Bt hb b2⟩,rfl,rfl,rfl,rfl,rfl,rfl,rfl⟩)
      ·have q5':(r.tasks[t].state == 3)=false:=beq_eq_false_iff_ne.2 q5;have S:=step (Nx aA (fun h=>absurd h q3) (fun h=>absurd h q5));clear q3 q5 step;go_wp2;refine Bw Bm Bm ?_;repeat (go_big_quiet_step ((go_at_call 155;exact Dk (fun u=>Ce _ _ _ u.1))))
       refine Ak ?_;rintro _ ⟨⟨w2,b2⟩,rfl⟩;clear aR;go_wp2;first
        | exact ⟨⟨t+1,Bl,by go_num,S,Bt hb b2⟩,by simp [intOf];omega⟩
        | (refine ⟨?_,by simp [intOf];omega⟩;(repeat apply Exists.intro);first | exact ⟨⟨t+1,Bl,by go_num,S,Bt hb b2⟩,rfl⟩ | exact ⟨⟨t+1,Bl,by go_num,S,Bt hb b2⟩,rfl,rfl⟩ | exact ⟨⟨t+1,Bl,by go_num,S,Bt hb b2⟩,rfl,rfl,rfl⟩ | exact ⟨⟨t+1,Bl,by go_num,S,Bt hb b2⟩,rfl,rfl,rfl,rfl⟩ | exact ⟨⟨t+1,Bl,by go_num,S,Bt hb b2⟩,rfl,rfl,rfl,rfl,rfl⟩ | exact ⟨⟨t+1,Bl,by go_num,S,Bt hb b2⟩,rfl,rfl,rfl,rfl,rfl,rfl⟩ | exact ⟨⟨t+1,Bl,by go_num,S,Bt hb b2⟩,rfl,rfl,rfl,rfl,rfl,rfl,rfl⟩)
  ·have aB:¬ (t:Int)<(r.tasks.length:Int):=Bl;have H:=Bq (Dj (show Jt y.now r es from fun t' kP=>bE.out t' Bl));have R1:=R.below hb;have sD:wr.cell? ⟨w.heap.size+1,7,Ab⟩=Ac (Aa A5 r.tasks.length c5):=R1.cell 7 _ rfl;have uW:=R1.lt;go_wp2;go_ret;exact ⟨Bv H.out.symm,Bt B0 hb⟩
theorem Qp (w:World):∀ l:List Entry,Ows Bx w [] (l.map fun x=>(x,()))
 | []=>.nil
 | x :: l=>by
  have:=Ows.cons (d:=Bx) (w:=w) (F:=[]) (r:=(x,())) rfl (Qp w l)
  exact this
theorem Gy {w:World} {E:TypeId} {base:Nat} {v:Value} {l:List Entry} (h:Ow Ct E w base v l):∃ (s:Sl) (F:List Nat),v = Aa s.a s.n s.c/\OwL Bx w F s.v l /\ ∀ b∈F,base<=b:=by
 obtain ⟨h1,h2⟩:=Hw.of_ow h;obtain ⟨⟨A,c,hv,hc,hA⟩,hF,hf⟩:=id h1;subst hv;refine ⟨⟨A,l.length,c⟩,_,rfl,⟨l.map fun x=>(x,()),Dz (Aa A l.length c) l.length,[],by rw [List.map_map];exact List.map_id _,⟨⟨A,c,by rw [Ar],by rw [Ar];exact hc,fun hl=>?_⟩,by rw [Ar],hf⟩,Qp w l,(List.append_nil _).symm,h1.nodup⟩,h2⟩;rw [Ar] at hl;obtain ⟨b,o,h3,h4,h5⟩:=hA hl;refine ⟨b,o,h3,h4,fun k hk j u hu=>?_⟩;rw [List.getElem_map] at hu;exact h5 k (by rw [Ar] at hk;exact hk) j u hu
def E7:Enc Task:={ cells:=fun x=>[J U x.state,J U x.need,J U x.try_,J U x.until_],sz:=4,len:=fun _=>rfl,one:=fun _ u hu=>by simp at hu;rcases hu with rfl | rfl | rfl | rfl<;>rfl }
theorem Sn {w:World} {B:Nat} {v:Value} {l:List Task} (h:RdL Ee w B v l):Rd E7 w B v l:=by
 obtain ⟨rs,rfl,⟨A,c,rfl,hc,hA⟩,_⟩:=h;refine ⟨A,c,by rw [Ar],by rw [Ar];exact hc,fun hl=>?_⟩;rw [Ar] at hl;obtain ⟨b,o,h1,h2,h3⟩:=hA hl;refine ⟨b,o,h1,h2,fun k hk j u hu=>?_⟩;rw [List.getElem_map] at hu;exact h3 k (by rw [Ar] at hk;exact hk) j u hu
theorem T0 (w:World):∀ l:List Task,Ows Ee w [] (l.map fun x=>(x,()))
 | []=>.nil
 | x :: l=>by
  have:=Ows.cons (d:=Ee) (w:=w) (F:=[]) (r:=(x,())) rfl (T0 w l)
  exact this
theorem So {w:World} {E:TypeId} {base:Nat} {v:Value} {l:List Task} (h:Ow E7 E w base v l):∃ (s:Sl) (F:List Nat),v = Aa s.a s.n s.c/\OwL Ee w F s.v l /\ ∀ b∈F,base<=b:=by
 obtain ⟨h1,h2⟩:=Hw.of_ow h;obtain ⟨⟨A,c,hv,hc,hA⟩,hF,hf⟩:=id h1;subst hv;refine ⟨⟨A,l.length,c⟩,_,rfl,⟨l.map fun x=>(x,()),Dz (Aa A l.length c) l.length,[],by rw [List.map_map];exact List.map_id _,⟨⟨A,c,by rw [Ar],by rw [Ar];exact hc,fun hl=>?_⟩,by rw [Ar],hf⟩,T0 w l,(List.append_nil _).symm,h1.nodup⟩,h2⟩;rw [Ar] at hl;obtain ⟨b,o,h3,h4,h5⟩:=hA hl;refine ⟨b,o,h3,h4,fun k hk j u hu=>?_⟩;rw [List.getElem_map] at hu;exact h5 k (by rw [Ar] at hk;exact hk) j u hu
theorem Ny:(Am.info? 138).map (fun i=>(i.zero,i.size,i.bytes))=Ac (Ac (.agg #[J U 0,J U 0,J U 0,J U 0]),4,32):=Bm
theorem Iv (l:List Entry) (s:Sl) (w:World) (hl:l.length<=2000000) (h:RdL Bx w w s.v l) :
  Calls Am 122 #[.slice s.a s.n s.c] w (Di (Dt.list Bx) slV l w):=by
 obtain ⟨A,n,c⟩:=s;obtain rfl:n=l.length:=RdL.at1 (s:=⟨A,n,c⟩) h;obtain ⟨i0,aL,aS,aP,aQ⟩:=info_parts Fc;go_enter Tryz.func122,Tryz.ntmps122;go_wp2_with (at_builtin;refine By _ Ct Bp rfl (.const (.slice Ab 0 0)) (.tmp 3) rfl Tryz.underlying96 aL aS aP aQ rfl (v:=.slice Ab 0 0) (l:=[]) rfl (Ow.nil Ct 93 _ w) rfl (I5 h) Bn Bl Bp (Bs _) ?_;intro v1 w1 o1 g1 _;rw [List.nil_append] at o1)
 obtain ⟨s1,F1,rfl,o2,n2⟩:=Gy o1;go_ret;exact ⟨s1,F1,rfl,o2,n2,(Br w w).grown g1 (Bs _) (fun g hg=>by cases hg)⟩
theorem M0 (r:Run) (s:Sl×Sl) (w:World) (hl:Cw r<=2000000) (h:Ch.rd w w r s) :
  Calls Am 123 #[Gw r s] w (Di Ch Gw r w):=by
 obtain ⟨⟨A1,n1,c1⟩,⟨A2,n2,c2⟩⟩:=s;obtain rfl:n2=r.tasks.length:=RdL.at1 (s:=⟨A2,n2,c2⟩) h.2;have h1:Ca.rd w w r.plan ⟨A1,n1,c1⟩:=h.1;have h2:Rd E7 w w (.slice A2 r.tasks.length c2) r.tasks:=Sn h.2;have fQ:Eb r.plan<=2000000:=by unfold Cw at hl;omega
 have eZ:r.tasks.length<=2000000:=Ah (Ck He _) (by unfold Cw at hl;omega);clear h hl;obtain ⟨W,aG,X,Z,B0⟩:=bx2 w 89 [.int .i64 r.id,.int .i64 r.plan.prio,.int .i64 r.plan.most,.int .i64 r.plan.wait,.int .i64 r.plan.tasks,.slice A1 n1 c1,.int .i64 r.state,.slice A2 r.tasks.length c2] 89 [.int .i64 0,.int .i64 0,.int .i64 0,.int .i64 0,.int .i64 0,.slice Ab 0 0,.int .i64 0,.slice Ab 0 0];obtain ⟨i0,aL,aS,aP,aQ⟩:=info_parts Ny;go_enter Tryz.func123,Tryz.ntmps123;go_wp2_with fail
 rw [<-aG.out];clear aG;refine (Ju r.plan ⟨A1,n1,c1⟩ W fQ (Ca.rd_more (Ca.rd_below h1 B0) B0.size)).mono ?_;rintro e w0 ⟨⟨A3,n3,c3⟩,F0,rfl,o0,n0,b0⟩;have hW:w.heap.size+2<=W.heap.size:=Z.lt;replace X:=X.below b0;replace Z:=Z.below b0;replace B0:=Bt B0 b0;obtain ⟨X_0,X_1,X_2,X_3,X_4,X_5,X_6,X_7,X_l⟩:=X.g8;obtain ⟨Z_0,Z_1,Z_2,Z_3,Z_4,Z_5,Z_6,Z_7,Z_l⟩:=Z.g8;have X_f:=X.free;have Z_f:=Z.free;have tW:w.heap.size∉F0:=fun hm=>by have:=n0 _ hm;omega
 have X1:DBox w [.int .i64 r.id,.int .i64 r.plan.prio,.int .i64 r.plan.most,.int .i64 r.plan.wait,.int .i64 r.plan.tasks,.slice A3 n3 c3,.int .i64 r.state,.slice A2 r.tasks.length c2] (((((w0.setCell ⟨w,1,Ab⟩ (.int .i64 r.plan.prio)).setCell ⟨w,2,Ab⟩ (.int .i64 r.plan.most)).setCell ⟨w,3,Ab⟩ (.int .i64 r.plan.wait)).setCell ⟨w,4,Ab⟩ (.int .i64 r.plan.tasks)).setCell ⟨w,5,Ab⟩ (.slice A3 n3 c3)):=((((X.set 1 Bn (.int .i64 r.plan.prio)).set 2 Bn (.int .i64 r.plan.most)).set 3 Bn (.int .i64 r.plan.wait)).set 4 Bn (.int .i64 r.plan.tasks)).set 5 Bn (.slice A3 n3 c3);have Z1:=((((Z.setOther (a:=⟨w,1,Ab⟩) Bn (.int .i64 r.plan.prio)).setOther (a:=⟨w,2,Ab⟩) Bn (.int .i64 r.plan.most)).setOther (a:=⟨w,3,Ab⟩) Bn (.int .i64 r.plan.wait)).setOther (a:=⟨w,4,Ab⟩) Bn (.int .i64 r.plan.tasks)).setOther (a:=⟨w,5,Ab⟩) Bn (.slice A3 n3 c3);have o1:Ca.ow (((((w0.setCell ⟨w,1,Ab⟩ (.int .i64 r.plan.prio)).setCell ⟨w,2,Ab⟩ (.int .i64 r.plan.most)).setCell ⟨w,3,Ab⟩ (.int .i64 r.plan.wait)).setCell ⟨w,4,Ab⟩ (.int .i64 r.plan.tasks)).setCell ⟨w,5,Ab⟩ (.slice A3 n3 c3)) F0 r.plan ⟨A3,n3,c3⟩:=by repeat (first | (with_reducible exact o0) | refine Dt.ow_set Ca ?_ tW _)
 have B1:Below w w (((((w0.setCell ⟨w,1,Ab⟩ (.int .i64 r.plan.prio)).setCell ⟨w,2,Ab⟩ (.int .i64 r.plan.most)).setCell ⟨w,3,Ab⟩ (.int .i64 r.plan.wait)).setCell ⟨w,4,Ab⟩ (.int .i64 r.plan.tasks)).setCell ⟨w,5,Ab⟩ (.slice A3 n3 c3)):=by repeat (first | (with_reducible exact B0) | refine Ad ?_ Bn _)
 have HZ3:=Bq (show (((((w0.setCell ⟨w,1,Ab⟩ (.int .i64 r.plan.prio)).setCell ⟨w,2,Ab⟩ (.int .i64 r.plan.most)).setCell ⟨w,3,Ab⟩ (.int .i64 r.plan.wait)).setCell ⟨w,4,Ab⟩ (.int .i64 r.plan.tasks)).setCell ⟨w,5,Ab⟩ (.slice A3 n3 c3)).heap.size=w0.heap.size by simp);go_wp2_with (at_builtin;generalize qR:(((((w0.setCell ⟨w,1,Ab⟩ (.int .i64 r.plan.prio)).setCell ⟨w,2,Ab⟩ (.int .i64 r.plan.most)).setCell ⟨w,3,Ab⟩ (.int .i64 r.plan.wait)).setCell ⟨w,4,Ab⟩ (.int .i64 r.plan.tasks)).setCell ⟨w,5,Ab⟩ (.slice A3 n3 c3))=W3 at *;clear qR X_0 X_1 X_2 X_3 X_4 X_5 X_6 X_7 X_l X_f Z_0 Z_1 Z_2 Z_3 Z_4 Z_5 Z_6 Z_7 Z_l Z_f X Z o0;have jZ:=(Br W3 W3);refine By _ E7 Bp rfl (.const (.slice Ab 0 0)) (.tmp 8) rfl Tryz.underlying87 aL aS aP aQ rfl (v:=(.slice Ab 0 0)) (l:=[]) rfl (Ow.nil E7 138 _ w0) rfl ((h2.below (Bt B1 jZ)).more (Bt B1 jZ).size) Bn Bl Bp (by have:=jZ.size;have:=HZ3.out;omega) ?_;intro v1 w1 o5 g1 f1;rw [List.nil_append] at o5;have B31:Below W3 W3 w1:=jZ.grown g1 jZ.size (fun g hg=>by have:=HZ3.out;simp [Value.ownBlock] at hg<;>omega);clear f1 g1;obtain ⟨⟨A5,n5,c5⟩,F5,rfl,o6,n6⟩:=So o5;replace X1:=X1.below B31;replace Z1:=Z1.below B31;have y0:=X1.cell 0 _ rfl;have y1:=X1.cell 1 _ rfl;have y2:=X1.cell 2 _ rfl;have y3:=X1.cell 3 _ rfl;have y4:=X1.cell 4 _ rfl;have y5:=X1.cell 5 _ rfl;have y6:=X1.cell 6 _ rfl;have y7:=X1.cell 7 _ rfl;have yf:=X1.free;have yl:=X1.lt;have z0:=Z1.cell 0 _ rfl;have z1:=Z1.cell 1 _ rfl;have z2:=Z1.cell 2 _ rfl;have z3:=Z1.cell 3 _ rfl;have z4:=Z1.cell 4 _ rfl;have z5:=Z1.cell 5 _ rfl;have z6:=Z1.cell 6 _ rfl;have z7:=Z1.cell 7 _ rfl;have zf:=Z1.free;have zl:=Z1.lt)
 have B2:=Bt B1 B31;have o7:=Ca.ow_below o1 B31;have vB:=HZ3.out;have bS:=b0.size;have l0:∀ b∈F0,b<w0:=fun b hb=>by have:=Ca.ow_lt o1 b hb;omega
 refine bodyPost_ret (v:=Gw r (⟨A3,n3,c3⟩,⟨A5,n5,c5⟩)) ?_ rfl ?_
 ·simp [Gw,results,Tryz.results123,go_sem,z0,z1,z2,z3,z4,z5,z6,z7]
 ·refine ⟨(⟨A3,n3,c3⟩,⟨A5,n5,c5⟩),F0 ++ F5,rfl,⟨F0,F5,rfl,?_,?_,?_⟩,?_,?_⟩
  ·rw [Ax];refine ⟨Ca.ow_nodup o1,o6.nodup,fun u hu u' hu' e=>?_⟩
   have:=l0 u hu
   have:=n6 u' hu'
   omega
  ·have fW:w.heap.size+1∉F0:=fun hm=>by have:=n0 _ hm;omega
   repeat (first | (with_reducible exact o7) | refine Dt.ow_set Ca ?_ (by first | exact tW | exact fW) _)
  ·have pI:w.heap.size∉F5:=fun hm=>by have:=n6 _ hm;omega
   have fW:w.heap.size+1∉F5:=fun hm=>by have:=n6 _ hm;omega
   show OwL Ee _ F5 (.slice A5 n5 c5) r.tasks;repeat (first | (with_reducible exact o6) | refine OwL.set ?_ (by first | exact pI | exact fW) _)
  ·intro b hb;rcases Bi.1 hb with hb | hb
   ·have:=n0 b hb;omega
   ·have:=n6 b hb;omega
  ·repeat (first | (with_reducible exact B2) | refine Ad ?_ (by first | (simp;done) | (simp;omega)) _)
theorem Hr (r:Run) (s:Sl×Sl) (w:World) (hl:Cw r<=2000000) (h:Ch.rd w w r s) :
  Calls Am 198 #[Gw r s] w (Di Ch Gw r w):=by
 obtain ⟨⟨A1,n1,c1⟩,⟨A2,n2,c2⟩⟩:=s;obtain rfl:n2=r.tasks.length:=RdL.at1 (s:=⟨A2,n2,c2⟩) h.2;have h1:Ca.rd w w r.plan ⟨A1,n1,c1⟩:=h.1;have h2:Rd E7 w w (.slice A2 r.tasks.length c2) r.tasks:=Sn h.2;have fQ:Eb r.plan<=2000000:=by unfold Cw at hl;omega
 have eZ:r.tasks.length<=2000000:=Ah (Ck He _) (by unfold Cw at hl;omega);clear h hl;obtain ⟨W,aG,X,Z,B0⟩:=bx2 w 89 [.int .i64 r.id,.int .i64 r.plan.prio,.int .i64 r.plan.most,.int .i64 r.plan.wait,.int .i64 r.plan.tasks,.slice A1 n1 c1,.int .i64 r.state,.slice A2 r.tasks.length c2] 89 [.int .i64 0,.int .i64 0,.int .i64 0,.int .i64 0,.int .i64 0,.slice Ab 0 0,.int .i64 0,.slice Ab 0 0];obtain ⟨i0,aL,aS,aP,aQ⟩:=info_parts Ny;go_enter Tryz.func198,Tryz.ntmps198;go_wp2_with fail
 rw [<-aG.out];clear aG;refine (Jv r.plan ⟨A1,n1,c1⟩ W fQ (Ca.rd_more (Ca.rd_below h1 B0) B0.size)).mono ?_;rintro e w0 ⟨⟨A3,n3,c3⟩,F0,rfl,o0,n0,b0⟩;have hW:w.heap.size+2<=W.heap.size:=Z.lt;replace X:=X.below b0;replace Z:=Z.below b0;replace B0:=Bt B0 b0;obtain ⟨X_0,X_1,X_2,X_3,X_4,X_5,X_6,X_7,X_l⟩:=X.g8;obtain ⟨Z_0,Z_1,Z_2,Z_3,Z_4,Z_5,Z_6,Z_7,Z_l⟩:=Z.g8;have X_f:=X.free;have Z_f:=Z.free;have tW:w.heap.size∉F0:=fun hm=>by have:=n0 _ hm;omega
 have X1:DBox w [.int .i64 r.id,.int .i64 r.plan.prio,.int .i64 r.plan.most,.int .i64 r.plan.wait,.int .i64 r.plan.tasks,.slice A3 n3 c3,.int .i64 r.state,.slice A2 r.tasks.length c2] (((((w0.setCell ⟨w,1,Ab⟩ (.int .i64 r.plan.prio)).setCell ⟨w,2,Ab⟩ (.int .i64 r.plan.most)).setCell ⟨w,3,Ab⟩ (.int .i64 r.plan.wait)).setCell ⟨w,4,Ab⟩ (.int .i64 r.plan.tasks)).setCell ⟨w,5,Ab⟩ (.slice A3 n3 c3)):=((((X.set 1 Bn (.int .i64 r.plan.prio)).set 2 Bn (.int .i64 r.plan.most)).set 3 Bn (.int .i64 r.plan.wait)).set 4 Bn (.int .i64 r.plan.tasks)).set 5 Bn (.slice A3 n3 c3);have Z1:=((((Z.setOther (a:=⟨w,1,Ab⟩) Bn (.int .i64 r.plan.prio)).setOther (a:=⟨w,2,Ab⟩) Bn (.int .i64 r.plan.most)).setOther (a:=⟨w,3,Ab⟩) Bn (.int .i64 r.plan.wait)).setOther (a:=⟨w,4,Ab⟩) Bn (.int .i64 r.plan.tasks)).setOther (a:=⟨w,5,Ab⟩) Bn (.slice A3 n3 c3);have o1:Ca.ow (((((w0.setCell ⟨w,1,Ab⟩ (.int .i64 r.plan.prio)).setCell ⟨w,2,Ab⟩ (.int .i64 r.plan.most)).setCell ⟨w,3,Ab⟩ (.int .i64 r.plan.wait)).setCell ⟨w,4,Ab⟩ (.int .i64 r.plan.tasks)).setCell ⟨w,5,Ab⟩ (.slice A3 n3 c3)) F0 r.plan ⟨A3,n3,c3⟩:=by repeat (first | (with_reducible exact o0) | refine Dt.ow_set Ca ?_ tW _)
 have B1:Below w w (((((w0.setCell ⟨w,1,Ab⟩ (.int .i64 r.plan.prio)).setCell ⟨w,2,Ab⟩ (.int .i64 r.plan.most)).setCell ⟨w,3,Ab⟩ (.int .i64 r.plan.wait)).setCell ⟨w,4,Ab⟩ (.int .i64 r.plan.tasks)).setCell ⟨w,5,Ab⟩ (.slice A3 n3 c3)):=by repeat (first | (with_reducible exact B0) | refine Ad ?_ Bn _)
 have HZ3:=Bq (show (((((w0.setCell ⟨w,1,Ab⟩ (.int .i64 r.plan.prio)).setCell ⟨w,2,Ab⟩ (.int .i64 r.plan.most)).setCell ⟨w,3,Ab⟩ (.int .i64 r.plan.wait)).setCell ⟨w,4,Ab⟩ (.int .i64 r.plan.tasks)).setCell ⟨w,5,Ab⟩ (.slice A3 n3 c3)).heap.size=w0.heap.size by simp);go_wp2_with (at_builtin;generalize qR:(((((w0.setCell ⟨w,1,Ab⟩ (.int .i64 r.plan.prio)).setCell ⟨w,2,Ab⟩ (.int .i64 r.plan.most)).setCell ⟨w,3,Ab⟩ (.int .i64 r.plan.wait)).setCell ⟨w,4,Ab⟩ (.int .i64 r.plan.tasks)).setCell ⟨w,5,Ab⟩ (.slice A3 n3 c3))=W3 at *;clear qR X_0 X_1 X_2 X_3 X_4 X_5 X_6 X_7 X_l X_f Z_0 Z_1 Z_2 Z_3 Z_4 Z_5 Z_6 Z_7 Z_l Z_f X Z o0;have jZ:=((Br W3 W3).alloc (Bs _) (.cells #[] 138));refine By _ E7 Bp rfl (.tmp 7) (.tmp 9) rfl Tryz.underlying87 aL aS aP aQ rfl (v:=(.slice (Ac ⟨w0,0,Ab⟩) 0 0)) (l:=[]) rfl (Ow.empty E7 138 W3 HZ3.out.symm) rfl ((h2.below (Bt B1 jZ)).more (Bt B1 jZ).size) Bn Bl Bp (by have:=jZ.size;have:=HZ3.out;omega) ?_;intro v1 w1 o5 g1 f1;rw [List.nil_append] at o5;have B31:Below W3 W3 w1:=jZ.grown g1 jZ.size (fun g hg=>by have:=HZ3.out;simp [Value.ownBlock] at hg<;>omega);clear f1 g1;obtain ⟨⟨A5,n5,c5⟩,F5,rfl,o6,n6⟩:=So o5;replace X1:=X1.below B31;replace Z1:=Z1.below B31;have y0:=X1.cell 0 _ rfl;have y1:=X1.cell 1 _ rfl;have y2:=X1.cell 2 _ rfl;have y3:=X1.cell 3 _ rfl;have y4:=X1.cell 4 _ rfl;have y5:=X1.cell 5 _ rfl;have y6:=X1.cell 6 _ rfl;have y7:=X1.cell 7 _ rfl;have yf:=X1.free;have yl:=X1.lt;have z0:=Z1.cell 0 _ rfl;have z1:=Z1.cell 1 _ rfl;have z2:=Z1.cell 2 _ rfl;have z3:=Z1.cell 3 _ rfl;have z4:=Z1.cell 4 _ rfl;have z5:=Z1.cell 5 _ rfl;have z6:=Z1.cell 6 _ rfl;have z7:=Z1.cell 7 _ rfl;have zf:=Z1.free;have zl:=Z1.lt)
 have B2:=Bt B1 B31;have o7:=Ca.ow_below o1 B31;have vB:=HZ3.out;have bS:=b0.size;have l0:∀ b∈F0,b<w0:=fun b hb=>by have:=Ca.ow_lt o1 b hb;omega
 refine bodyPost_ret (v:=Gw r (⟨A3,n3,c3⟩,⟨A5,n5,c5⟩)) ?_ rfl ?_
 ·simp [Gw,results,Tryz.results198,go_sem,z0,z1,z2,z3,z4,z5,z6,z7]
 ·refine ⟨(⟨A3,n3,c3⟩,⟨A5,n5,c5⟩),F0 ++ F5,rfl,⟨F0,F5,rfl,?_,?_,?_⟩,?_,?_⟩
  ·rw [Ax];refine ⟨Ca.ow_nodup o1,o6.nodup,fun u hu u' hu' e=>?_⟩
   have:=l0 u hu
   have:=n6 u' hu'
   omega
  ·have fW:w.heap.size+1∉F0:=fun hm=>by have:=n0 _ hm;omega
   repeat (first | (with_reducible exact o7) | refine Dt.ow_set Ca ?_ (by first | exact tW | exact fW) _)
  ·have pI:w.heap.size∉F5:=fun hm=>by have:=n6 _ hm;omega
   have fW:w.heap.size+1∉F5:=fun hm=>by have:=n6 _ hm;omega
   show OwL Ee _ F5 (.slice A5 n5 c5) r.tasks;repeat (first | (with_reducible exact o6) | refine OwL.set ?_ (by first | exact pI | exact fW) _)
  ·intro b hb;rcases Bi.1 hb with hb | hb
   ·have:=n0 b hb;omega
   ·have:=n6 b hb;omega
  ·repeat (first | (with_reducible exact B2) | refine Ad ?_ (by first | (simp;done) | (simp;omega)) _)
theorem Wz (s k:Int) (hk:k≠0):decide (s=k/\s≠0)=(s == k):=by
 by_cases h:s=k
 ·subst h;simp [hk]
 ·simp [h]
theorem W0 (s:Int):decide (s=0/\s≠0)=false:=Bn
theorem Y8 {r:Run} (h1:inB r.id 1 9999=true) (h2:Co r.plan=0) (h3:(r.tasks.length:Int)=r.plan.tasks) (h4:∀ t,t<r.tasks.length->Gt r t) :
  tf (Gn r)=decide (r.state=stL r.tasks/\r.state≠0):=by
 rw [Bool.eq_iff_iff,Lq,decide_eq_true_eq];unfold Gn;exact ⟨fun h=>h.2.2.2.2,fun h=>⟨Cv.1 h1,h2,h3,h4,h⟩⟩
theorem Ads {r:Run} (h4:∀ t,t<r.tasks.length->Gt r t):Dl r.tasks 1+Dl r.tasks 2+Dl r.tasks 3+Dl r.tasks 4+Dl r.tasks 5+Dl r.tasks 6=r.tasks.length:=by
 have:=Adq (l:=r.tasks) (fun x hx=>by
  obtain ⟨t,ht,rfl⟩:=List.getElem_of_mem hx
  have:=(h4 t ht).1
  rwa [Cr ht] at this)
 unfold Kh at this;exact this
theorem Jy (r:Run) (s:Sl×Sl) (st:Int) (w:World) (hl:r.tasks.length<=2000000) (h:Ch.rd w w r s) :
  Calls Am 84 #[Gw r s,J U st] w fun e w'=>∃ A c,e = .returned (Aa A (Dl r.tasks st) c)/\Below w w w' :=
 (Ho r s st w hl h).mono fun e w' ⟨v,he,ho,hb⟩=>by
  obtain ⟨A,c,hv,-⟩:=id (Rd.of_own ho);rw [Ra] at hv;exact ⟨A,c,by rw [he,hv],hb⟩
theorem Og (r:Run) (s:Sl×Sl) (w:World) (hl:Cw r<=2000000) (h:Ch.rd w w r s) :
  Calls Am 119 #[Gw r s] w fun e w'=>e = .returned (.bool (tf (Gn r)))/\Below w w w':=by
 have HR:=Bq (show ∀ W,Below w w W->Ch.rd W W r s from fun W hW=>Ch.rd_more (Ch.rd_below h hW) hW.size);obtain ⟨⟨A1,n1,c1⟩,⟨A2,n2,c2⟩⟩:=s;obtain rfl:n2=r.tasks.length:=RdL.at1 (s:=⟨A2,n2,c2⟩) h.2;have h1:Rd Gd w w (Aa A1 n1 c1) r.plan.edges:=H8 h.1;have fQ:r.plan.edges.length<=2000000:=Ah (Ck D4 _) (by unfold Cw Eb at hl;omega);have eZ:r.tasks.length<=2000000:=Ah (Ck He _) (by unfold Cw at hl;omega);clear h hl;have X:=DBox.new 89 [J U r.id,J U r.plan.prio,J U r.plan.most,J U r.plan.wait,J U r.plan.tasks,Aa A1 n1 c1,J U r.state,Aa A2 r.tasks.length c2] w (b:=w.heap.size) rfl;have B0:Below w w (w.alloc (.cells #[J U r.id,J U r.plan.prio,J U r.plan.most,J U r.plan.wait,J U r.plan.tasks,Aa A1 n1 c1,J U r.state,Aa A2 r.tasks.length c2] 89)):=by repeat (first | exact Br _ _ | refine Ae ?_ Bo _)
 have C1:=Gv r.plan (Aa A1 n1 c1) (w.alloc (.cells #[J U r.id,J U r.plan.prio,J U r.plan.most,J U r.plan.wait,J U r.plan.tasks,Aa A1 n1 c1,J U r.state,Aa A2 r.tasks.length c2] 89)) fQ ((h1.below B0).more B0.size);cases a1:inB r.id 1 9999;case false =>
  have H:=Bq (show tf (Gn r)=false from Cf (fun h=>by have:=Cv.2 h.1;rw [a1] at this;cases this));go_enter Tryz.func119,Tryz.ntmps119;go_wp2_with (go_at_call 58;refine (Cl _ _ _ _).mono ?_;rintro e w' ⟨rfl,rfl⟩)
  go_ret;exact ⟨Bv H.out.symm,B0⟩
 by_cases e2:Co r.plan=0;case neg =>
  have a2:(Co r.plan != 0)=true:=by simp [e2]
  have H:=Bq (show tf (Gn r)=false from Cf (fun h=>e2 h.2.1));clear e2;go_enter Tryz.func119,Tryz.ntmps119;go_wp2_with (first | (go_at_call 58;refine (Cl _ _ _ _).mono ?_;rintro e w' ⟨rfl,rfl⟩) | (go_at_call 164;refine C1.mono ?_;rintro e w1 ⟨rfl,b1⟩;have q1:=(Lg b1).1))
  go_ret;exact ⟨Bv H.out.symm,Bt B0 b1⟩
 have E2:=Bq e2;rw [e2] at C1;clear e2;by_cases e3:(r.tasks.length:Int)=r.plan.tasks;case neg =>
  have a3:((r.tasks.length:Int) != r.plan.tasks)=true:=by simp [e3]
  have H:=Bq (show tf (Gn r)=false from Cf (fun h=>e3 h.2.2.1));clear e3;go_enter Tryz.func119,Tryz.ntmps119;have X_3:=X.cell 3 _ rfl;have X_4:=X.cell 4 _ rfl;have X_7:=X.cell 7 _ rfl;have X_l:=X.lt;go_wp2_with fail
  go_wp2_with (first | (go_at_call 58;refine (Cl _ _ _ _).mono ?_;rintro e w' ⟨rfl,rfl⟩) | (go_at_call 164;refine C1.mono ?_;rintro e w1 ⟨rfl,b1⟩;have q1:=fun j=>(Lg b1).1 w.heap.size j X_l))
  go_ret;exact ⟨Bv H.out.symm,Bt B0 b1⟩
 have a3:((r.tasks.length:Int) != r.plan.tasks)=false:=by simp [e3]
 have E3:=Bq e3;clear e3;have X_l:=X.lt;go_enter Tryz.func119,Tryz.ntmps119;go_wp2_with fail
 go_wp2_with (first | (go_at_call 58;refine (Cl _ _ _ _).mono ?_;rintro e w' ⟨rfl,rfl⟩) | (go_at_call 164;refine C1.mono ?_;rintro e w1 ⟨rfl,b1⟩;have q1:=fun j=>(Lg b1).1 w.heap.size j X_l))
 clear q1;replace X:=X.below b1;replace B0:=Bt B0 b1;clear X_l C1 b1 a3;have A1_:=Bq a1;clear a1;go_loopw [30] (fun i wr=>∃ k:Nat,k<=r.tasks.length/\i = J U k/\Hid (∀ t,t<k->Gt r t)/\Below w1 w1 wr) (fun i _=>r.tasks.length - (intOf i).toNat);case atStart=>exact ⟨0,Ag _,rfl,fun t ht=>absurd ht Bl,Br _ _⟩
 case round =>
  obtain ⟨k,hk,rfl,bE,hb⟩:=hrel;replace X:=X.below hb;replace B0:=Bt B0 hb;obtain ⟨X_0,X_1,X_2,X_3,X_4,X_5,X_6,X_7,X_l⟩:=X.g8;by_cases aA:k<r.tasks.length
  ·have aB:(k:Int)<(r.tasks.length:Int):=Bl;have C:=Tw r (⟨A1,n1,c1⟩,⟨A2,r.tasks.length,c2⟩) k wr E2.out E3.out aA (HR.out _ B0);by_cases tk:Gt r k
   ·have S:Hid (∀ t,t<k+1->Gt r t):=by
     intro t ht;by_cases e:t=k
     ·subst e;exact tk
     ·exact bE.out t Bl
    rw [Dj tk] at C;clear tk;go_wp2_with fail
    refine C.mono ?_;rintro e w2 ⟨rfl,b2⟩;go_wp2;exact ⟨⟨k+1,Bl,by go_num,S,Bt hb b2⟩,by simp [intOf];omega⟩
   ·have H:=Bq (show tf (Gn r)=false from Cf (fun h=>tk (h.2.2.2.1 k aA)));rw [Cf tk] at C;clear tk;go_wp2_with fail
    refine C.mono ?_;rintro e w2 ⟨rfl,b2⟩;go_wp2;go_ret;exact ⟨Bv H.out.symm,Bt B0 b2⟩
  ·have aB:¬ (k:Int)<(r.tasks.length:Int):=Bl;have bJ:k=r.tasks.length:=Bl;subst bJ;have HF:=Bq (Y8 A1_.out E2.out E3.out bE.out);have HI:=Bq (Abw r.tasks);have HSum:=Bq (Ads bE.out);go_wp2;go_region_held3 (fun w'=>w'.cell? ⟨w,0,Ab⟩=Ac (J U r.id)/\w'.cell? ⟨w,1,Ab⟩=Ac (J U r.plan.prio)/\w'.cell? ⟨w,2,Ab⟩=Ac (J U r.plan.most)/\w'.cell? ⟨w,3,Ab⟩=Ac (J U r.plan.wait)/\w'.cell? ⟨w,4,Ab⟩=Ac (J U r.plan.tasks)/\w'.cell? ⟨w,5,Ab⟩=Ac (Aa A1 n1 c1)/\w'.cell? ⟨w,6,Ab⟩=Ac (J U r.state)/\w'.cell? ⟨w,7,Ab⟩=Ac (Aa A2 r.tasks.length c2))
    (first | (refine ⟨?_,?_,?_,?_,?_,?_,?_,?_⟩<;>first | assumption | go_keep) | go_keep)
    (first
     | (go_at_call 84;(with_reducible refine (Jy r (⟨A1,n1,c1⟩,⟨A2,r.tasks.length,c2⟩) 4 _ eZ (HR.out _ B0.drew)).mono ?_);rintro e w5 ⟨A5,c5,rfl,b5⟩;have B5:=Bt B0 (Bt ((Br wr wr).drew) b5);have X5:=X.below (Bt ((Br wr wr).drew) b5);have x50:=X5.cell 0 _ rfl;have x51:=X5.cell 1 _ rfl;have x52:=X5.cell 2 _ rfl;have x53:=X5.cell 3 _ rfl;have x54:=X5.cell 4 _ rfl;have x55:=X5.cell 5 _ rfl;have x56:=X5.cell 6 _ rfl;have x57:=X5.cell 7 _ rfl;have x5l:=X5.lt)
     | (go_at_call 84;(with_reducible refine (Jy r (⟨A1,n1,c1⟩,⟨A2,r.tasks.length,c2⟩) 5 _ eZ (HR.out _ B5)).mono ?_);rintro e w6 ⟨A6,c6,rfl,b6⟩;have B6:=Bt B5 b6;have X6:=X5.below b6;have x60:=X6.cell 0 _ rfl;have x61:=X6.cell 1 _ rfl;have x62:=X6.cell 2 _ rfl;have x63:=X6.cell 3 _ rfl;have x64:=X6.cell 4 _ rfl;have x65:=X6.cell 5 _ rfl;have x66:=X6.cell 6 _ rfl;have x67:=X6.cell 7 _ rfl;have x6l:=X6.lt)
     | (go_at_call 84;(with_reducible refine (Jy r (⟨A1,n1,c1⟩,⟨A2,r.tasks.length,c2⟩) 6 _ eZ (HR.out _ B6)).mono ?_);rintro e w7 ⟨A7,c7,rfl,b7⟩;have B7:=Bt B6 b7;have X7:=X6.below b7;have x70:=X7.cell 0 _ rfl;have x71:=X7.cell 1 _ rfl;have x72:=X7.cell 2 _ rfl;have x73:=X7.cell 3 _ rfl;have x74:=X7.cell 4 _ rfl;have x75:=X7.cell 5 _ rfl;have x76:=X7.cell 6 _ rfl;have x77:=X7.cell 7 _ rfl;have x7l:=X7.lt))
   clear X_0 X_1 X_2 X_3 X_4 X_5 X_6 X_7 X_l x50 x51 x52 x53 x54 x55 x56 x57 x5l x60 x61 x62 x63 x64 x65 x66 x67 x6l;have jQ:((Dl r.tasks 1:Nat):Int)+(Dl r.tasks 2:Nat)+(Dl r.tasks 3:Nat)+(Dl r.tasks 4:Nat)+(Dl r.tasks 5:Nat)+(Dl r.tasks 6:Nat)=r.tasks.length:=by have:=HSum.out;omega
   generalize rT:((Dl r.tasks 1:Nat):Int)=c1' at *
   generalize vC:((Dl r.tasks 2:Nat):Int)=c2' at *
   generalize rL:((Dl r.tasks 3:Nat):Int)=c3' at *
   generalize hc4:((Dl r.tasks 4:Nat):Int)=c4' at *
   generalize hc5:((Dl r.tasks 5:Nat):Int)=c5' at *
   generalize hc6:((Dl r.tasks 6:Nat):Int)=c6' at *
   have m1:0<=c1':=Bl;have m2:0<=c2':=Bl;have m3:0<=c3':=Bl;have m4:0<=c4'/\c4'<=2000000:=Bl;have m5:0<=c5'/\c5'<=2000000:=Bl;have m6:0<=c6'/\c6'<=2000000:=Bl;clear rT vC rL hc4 hc5 hc6;have HV:Hid (tf (Gn r)=decide (r.state=stI c1' c2' c3' c4' c5' c6' r.tasks.length/\r.state≠0)):=by
    show tf (Gn r)=_;rw [HF.out,HI.out]
   clear HF HI;generalize r.state=rs at *
   by_cases q1:c4'=(r.tasks.length:Int)
   ·have H:=Bq (show tf (Gn r)=(rs == 2) by rw [HV.out];unfold stI;rw [if_pos q1];exact Wz _ _ Bl);have q1':(c4' == (r.tasks.length:Int))=true:=beq_iff_eq.2 q1;clear q1 jQ;go_wp2;go_ret;exact ⟨Bv H.out.symm,B7⟩
   have q1':(c4' == (r.tasks.length:Int))=false:=beq_eq_false_iff_ne.2 q1;by_cases q2:c4'+c5'+c6'=(r.tasks.length:Int)
   ·have q2':(c4'+c5'+c6' == (r.tasks.length:Int))=true:=beq_iff_eq.2 q2;have r0:c1'+c2'+c3'=0:=Bl;by_cases q3:c5'=1
    ·have q3':(c5' == 1)=true:=beq_iff_eq.2 q3;have q4':(c5' == 0)=false:=beq_eq_false_iff_ne.2 Bl;have H:=Bq (show tf (Gn r)=(rs == 3) by rw [HV.out];unfold stI;rw [if_neg q1,if_pos ⟨q3,r0⟩];exact Wz _ _ Bl);clear q1 q2 q3 jQ r0;go_wp2;go_ret;exact ⟨Bv H.out.symm,B7⟩
    have q3':(c5' == 1)=false:=beq_eq_false_iff_ne.2 q3;by_cases q4:c5'=0
    ·have q4':(c5' == 0)=true:=beq_iff_eq.2 q4;by_cases q5:c6'=0
     ·exact absurd (show c4'=(r.tasks.length:Int) by omega) q1
     ·have q5':(c6' == 0)=false:=beq_eq_false_iff_ne.2 q5;have q6:0<c6':=Bl;have q6':decide (0<c6')=true:=decide_eq_true q6;have H:=Bq (show tf (Gn r)=(rs == 4) by rw [HV.out];unfold stI;rw [if_neg q1,if_neg (fun h=>q3 h.1),if_pos ⟨q4,q6,r0⟩];exact Wz _ _ Bl);clear q1 q2 q3 q4 q5 q6 jQ r0;go_wp2;go_ret;exact ⟨Bv H.out.symm,B7⟩
    ·have q4':(c5' == 0)=false:=beq_eq_false_iff_ne.2 q4;have H:=Bq (show tf (Gn r)=false by rw [HV.out];unfold stI;rw [if_neg q1,if_neg (fun h=>q3 h.1),if_neg (fun h=>q4 h.1),if_neg (fun h=>q4 h.1)];exact W0 _);clear q1 q2 q3 q4 jQ r0;cases q7:(rs == 1)
     all_goals
      go_wp2;go_ret;exact ⟨Bv H.out.symm,B7⟩
   ·have q2':(c4'+c5'+c6' == (r.tasks.length:Int))=false:=beq_eq_false_iff_ne.2 q2;have r0:¬ c1'+c2'+c3'=0:=Bl;by_cases q4:c5'=0
    ·have q4':(c5' == 0)=true:=beq_iff_eq.2 q4;have q3':(c5' == 1)=false:=beq_eq_false_iff_ne.2 Bl;by_cases q5:c6'=0
     ·have q5':(c6' == 0)=true:=beq_iff_eq.2 q5;have q6':decide (0<c6')=false:=decide_eq_false Bl;have H:=Bq (show tf (Gn r)=(rs == 1) by rw [HV.out];unfold stI;rw [if_neg q1,if_neg (fun h=>r0 h.2),if_neg (fun h=>r0 h.2.2),if_pos ⟨q4,q5⟩];exact Wz _ _ Bl);clear q1 q2 q4 q5 jQ r0;cases q7:(rs == 1)
      all_goals
       rw [q7] at H;go_wp2;go_ret;exact ⟨Bv H.out.symm,B7⟩
     ·have q5':(c6' == 0)=false:=beq_eq_false_iff_ne.2 q5;have q6':decide (0<c6')=true:=decide_eq_true Bl;have H:=Bq (show tf (Gn r)=false by rw [HV.out];unfold stI;rw [if_neg q1,if_neg (fun h=>r0 h.2),if_neg (fun h=>r0 h.2.2),if_neg (fun h=>q5 h.2)];exact W0 _);clear q1 q2 q4 q5 jQ r0;cases q7:(rs == 1)
      all_goals
       go_wp2;go_ret;exact ⟨Bv H.out.symm,B7⟩
    ·have q4':(c5' == 0)=false:=beq_eq_false_iff_ne.2 q4;have H:=Bq (show tf (Gn r)=false by rw [HV.out];unfold stI;rw [if_neg q1,if_neg (fun h=>r0 h.2),if_neg (fun h=>r0 h.2.2),if_neg (fun h=>q4 h.1)];exact W0 _);clear q1 q2 q4 jQ r0;cases q7:(rs == 1)<;>cases q3':(c5' == 1)
     all_goals
      go_wp2;go_ret;exact ⟨Bv H.out.symm,B7⟩
theorem Lt (r:Run) (s:Sl×Sl) (w:World) (hl:Cw r<=2000000) (h:Ch.rd w w r s) :
  Calls Am 216 #[Gw r s] w fun e w'=>e = .returned (.bool (tf (Gn r)))/\Below w w w':=by
 have HR:=Bq (show ∀ W,Below w w W->Ch.rd W W r s from fun W hW=>Ch.rd_more (Ch.rd_below h hW) hW.size);obtain ⟨⟨A1,n1,c1⟩,⟨A2,n2,c2⟩⟩:=s;obtain rfl:n2=r.tasks.length:=RdL.at1 (s:=⟨A2,n2,c2⟩) h.2;have h1:Rd Gd w w (Aa A1 n1 c1) r.plan.edges:=H8 h.1;have h2:RdL Ee w w (Aa A2 r.tasks.length c2) r.tasks:=h.2;have fQ:r.plan.edges.length<=2000000:=Ah (Ck D4 _) (by unfold Cw Eb at hl;omega);have eZ:r.tasks.length<=2000000:=Ah (Ck He _) (by unfold Cw at hl;omega);clear h hl;have X:=DBox.new 89 [J U r.id,J U r.plan.prio,J U r.plan.most,J U r.plan.wait,J U r.plan.tasks,Aa A1 n1 c1,J U r.state,Aa A2 r.tasks.length c2] w (b:=w.heap.size) rfl;have B0:Below w w (w.alloc (.cells #[J U r.id,J U r.plan.prio,J U r.plan.most,J U r.plan.wait,J U r.plan.tasks,Aa A1 n1 c1,J U r.state,Aa A2 r.tasks.length c2] 89)):=by repeat (first | exact Br _ _ | refine Ae ?_ Bo _)
 have C1:=Jg r.plan (Aa A1 n1 c1) (w.alloc (.cells #[J U r.id,J U r.plan.prio,J U r.plan.most,J U r.plan.wait,J U r.plan.tasks,Aa A1 n1 c1,J U r.state,Aa A2 r.tasks.length c2] 89)) fQ ((h1.below B0).more B0.size);have X_l:=X.lt;cases a1:inB r.id 1 9999;case false =>
  have H:=Bq (show tf (Gn r)=false from Cf (fun h=>by have:=Cv.2 h.1;rw [a1] at this;cases this));go_enter Tryz.func216,Tryz.ntmps216;go_wp2_with (go_at_call 155;refine (Ce _ _ _ _).mono ?_;rintro e w' ⟨rfl,rfl⟩)
  go_ret;exact ⟨Bv H.out.symm,B0⟩
 by_cases e2:Co r.plan=0;case neg =>
  have a2:(Co r.plan != 0)=true:=by simp [e2]
  have H:=Bq (show tf (Gn r)=false from Cf (fun h=>e2 h.2.1));clear e2;go_enter Tryz.func216,Tryz.ntmps216;go_wp2_with (first | (go_at_call 155;refine (Ce _ _ _ _).mono ?_;rintro e w' ⟨rfl,rfl⟩) | (go_at_call 199;refine C1.mono ?_;rintro e w1 ⟨rfl,b1⟩;have q1:=fun j=>(Lg b1).1 w.heap.size j X_l))
  go_ret;exact ⟨Bv H.out.symm,Bt B0 b1⟩
 have E2:=Bq e2;rw [e2] at C1;clear e2;by_cases e3:(r.tasks.length:Int)=r.plan.tasks;case neg =>
  have a3:((r.tasks.length:Int) != r.plan.tasks)=true:=by simp [e3]
  have H:=Bq (show tf (Gn r)=false from Cf (fun h=>e3 h.2.2.1));clear e3;go_enter Tryz.func216,Tryz.ntmps216;go_wp2_with (first | (go_at_call 155;refine (Ce _ _ _ _).mono ?_;rintro e w' ⟨rfl,rfl⟩) | (go_at_call 199;refine C1.mono ?_;rintro e w1 ⟨rfl,b1⟩;have q1:=fun j=>(Lg b1).1 w.heap.size j X_l))
  go_ret;exact ⟨Bv H.out.symm,Bt B0 b1⟩
 have a3:((r.tasks.length:Int) != r.plan.tasks)=false:=by simp [e3]
 have E3:=Bq e3;clear e3;go_enter Tryz.func216,Tryz.ntmps216;go_wp2_with (first | (go_at_call 155;refine (Ce _ _ _ _).mono ?_;rintro e w' ⟨rfl,rfl⟩) | (go_at_call 199;refine C1.mono ?_;rintro e w1 ⟨rfl,b1⟩;have q1:=fun j=>(Lg b1).1 w.heap.size j X_l))
 clear q1;replace X:=X.below b1;replace B0:=Bt B0 b1;clear X_l C1 b1 a3;have A1_:=Bq a1;clear a1;obtain ⟨X_0,X_1,X_2,X_3,X_4,X_5,X_6,X_7,X_l⟩:=X.g8;go_loop [3] (fun i=>∃ k:Nat,k<=r.tasks.length/\i = J U k/\Hid (∀ t (ht:t<r.tasks.length),t<k->1<=r.tasks[t].state/\r.tasks[t].state<=6)) (fun i=>r.tasks.length - (intOf i).toNat);case atStart=>exact ⟨0,Ag _,rfl,fun t _ ht=>absurd ht Bl⟩
 case round =>
  obtain ⟨k,hk,rfl,bE⟩:=hrel;by_cases aA:k<r.tasks.length
  ·have aB:(k:Int)<(r.tasks.length:Int):=Bl;obtain ⟨b,o,_,rfl,aH,_,d0,d1,d2,d3⟩:=(h2.below B0).task aA;cases tk:inB r.tasks[k].state 1 6
   ·have H:=Bq (show tf (Gn r)=false from Cf (fun h=>by
     have h3:=(h.2.2.2.1 k aA).1;rw [Cr aA] at h3
     have:=Cv.2 h3
     rw [tk] at this;cases this))
    go_wp2_with (go_at_call 155;refine (Ce _ _ _ _).mono ?_;rintro e w' ⟨rfl,rfl⟩)
    go_ret;exact ⟨Bv H.out.symm,B0⟩
   ·have S:Hid (∀ t (ht:t<r.tasks.length),t<k+1->1<=r.tasks[t].state/\r.tasks[t].state<=6):=by
     intro t ht cQ;by_cases e:t=k
     ·subst e;exact Cv.1 tk
     ·exact bE.out t ht Bl
    go_wp2_with (go_at_call 155;refine (Ce _ _ _ _).mono ?_;rintro e w' ⟨rfl,rfl⟩)
    exact ⟨⟨k+1,Bl,by go_num,S⟩,by simp [intOf];omega⟩
  ·have aB:¬ (k:Int)<(r.tasks.length:Int):=Bl;have bJ:k=r.tasks.length:=Bl;subst bJ;have HT:=bE;go_wp2;clear X_0 X_1 X_2 X_3 X_4 X_5 X_6 X_7 X_l bE aA hk aB;go_loopw [4] (fun i wr=>∃ k:Nat,k<=r.tasks.length/\i = J U k/\Hid (∀ t,t<k->Gt r t)/\Below w1 w1 wr) (fun i _=>r.tasks.length - (intOf i).toNat);case atStart=>exact ⟨0,Ag _,rfl,fun t ht=>absurd ht Bl,Br _ _⟩
   case round =>
    obtain ⟨k,hk,rfl,bE,hb⟩:=hrel;replace X:=X.below hb;replace B0:=Bt B0 hb;obtain ⟨X_0,X_1,X_2,X_3,X_4,X_5,X_6,X_7,X_l⟩:=X.g8;by_cases aA:k<r.tasks.length
    ·have aB:(k:Int)<(r.tasks.length:Int):=Bl;have C:=Wy r (⟨A1,n1,c1⟩,⟨A2,r.tasks.length,c2⟩) k wr E2.out E3.out aA (HT.out k aA aA) (HR.out _ B0);by_cases tk:Gt r k
     ·have S:Hid (∀ t,t<k+1->Gt r t):=by
       intro t ht;by_cases e:t=k
       ·subst e;exact tk
       ·exact bE.out t Bl
      rw [Dj tk] at C;clear tk;go_wp2_with fail
      refine C.mono ?_;rintro e w2 ⟨rfl,b2⟩;go_wp2;exact ⟨⟨k+1,Bl,by go_num,S,Bt hb b2⟩,by simp [intOf];omega⟩
     ·have H:=Bq (show tf (Gn r)=false from Cf (fun h=>tk (h.2.2.2.1 k aA)));rw [Cf tk] at C;clear tk;go_wp2_with fail
      refine C.mono ?_;rintro e w2 ⟨rfl,b2⟩;go_wp2;go_ret;exact ⟨Bv H.out.symm,Bt B0 b2⟩
    ·have aB:¬ (k:Int)<(r.tasks.length:Int):=Bl;have bJ:k=r.tasks.length:=Bl;subst bJ;have HF:=Bq (Y8 A1_.out E2.out E3.out bE.out);have aR:=C7 wr;have C:=fun u:Jd wr=>Of r (⟨A1,n1,c1⟩,⟨A2,r.tasks.length,c2⟩) u.1 eZ (fun x hx=>by
      obtain ⟨t,ht,rfl⟩:=List.getElem_of_mem hx;exact HT.out t ht ht) (HR.out _ (Bt B0 u.2))
     have C2:=Bq C;clear C;generalize stL r.tasks=S at *
     have HG:Hid (tf (Gn r)=((r.state == S) && (r.state != 0))):=by
      show tf (Gn r)=_;rw [HF.out,Bool.eq_iff_iff];simp
     clear HF;cases q1:(r.state == S)<;>cases q2:(r.state != 0)
     all_goals
      rw [q1,q2] at HG;go_wp2;refine Bw Bm Bm ?_;repeat (go_big_quiet_step ((go_at_call 243;(with_reducible exact Ir C2.out))))
      refine Ak ?_;rintro _ ⟨⟨w2,b2⟩,rfl⟩;clear aR;go_wp2;go_ret;exact ⟨Bv HG.out.symm,Bt B0 b2⟩
theorem Kr {y:Yard} (hl:Cb y<=2000000) (k:Nat):Gp (y.runs.take k)+y.runs.length<=2000000/\Gp (y.runs.take k)+(Cd y).length<=2000000:=by
 have h1:=Ach (y.runs.take k);have h2:((y.runs.take k).map fun r=>r.tasks.length).sum<=(y.runs.map fun r=>r.tasks.length).sum:=by
  conv=>rhs;rw [<-List.take_append_drop k y.runs,List.map_append,List.sum_append]
  omega
 have h3:(y.runs.map fun r=>r.tasks.length).sum+y.runs.length<=E6 Cw y.runs:=by
  unfold E6;have:∀ l:List Run,(l.map fun r=>r.tasks.length).sum<=(l.map Cw).sum:=by
   intro l;induction l with
   | nil=>simp
   | cons r l ih =>
    simp only [List.map_cons,List.sum_cons];have:r.tasks.length<=Cw r:=by unfold Cw;have:=Ck He r.tasks;omega
    omega
  have:=this y.runs
  omega
 have h4:=Hi y.shelf y.shelf.length;rw [List.take_length] at h4;unfold Cb at hl;unfold Cd;omega
theorem Y9 {y:Yard} (hl:Cb y<=2000000):Fo y<=2000000:=by
 have h1:=(Kr hl y.runs.length).2;rw [List.take_length] at h1;have h2:=Nv y (Cd y);unfold Fo;omega
theorem Oh (y:Yard) (s:Sl×Sl) (w:World) (hl:Cb y<=2000000) (h:Bu.rd w w y s) :
  Calls Am 121 #[Dg y s] w fun e w'=>e = .returned (J U (Fo y:Nat))/\Below w w w':=by
 have HR:=Bq (show ∀ W,Below w w W->Bu.rd W W y s from fun W hW=>Bu.rd_more (Bu.rd_below h hW) hW.size);obtain ⟨⟨A1,n1,c1⟩,⟨A2,n2,c2⟩⟩:=s;obtain rfl:n2=y.runs.length:=RdL.at1 (s:=⟨A2,n2,c2⟩) h.2;have h2:RdL Ch w w (Aa A2 y.runs.length c2) y.runs:=h.2;have cR:y.runs.length<=2000000:=Ah (Ck Cw _) (by unfold Cb at hl;omega);have HB:=Bq (Kr hl);have HD:=Bq (show Fo y=Gp y.runs+Fh y (Cd y) from rfl);clear h;obtain ⟨W,aG,X,B0⟩:=bx1 w 31 [J U y.now,J U y.seq,Aa A1 n1 c1,Aa A2 y.runs.length c2];have X_l:=X.lt;go_enter Tryz.func121,Tryz.ntmps121;go_wp2;rw [<-aG.out];clear aG;go_loopw [3,11] (fun n i wr=>∃ k:Nat,k<=y.runs.length/\i = J U k/\n = J U (Gp (y.runs.take k):Nat)/\Below W W wr) (fun _ i _=>y.runs.length - (intOf i).toNat);case atStart=>exact ⟨0,Ag _,rfl,rfl,Br _ _⟩
 case round =>
  obtain ⟨k,hk,rfl,rfl,hb⟩:=hrel;have tE:=(HB.out k).1;by_cases aA:k<y.runs.length
  ·have aB:(k:Int)<(y.runs.length:Int):=Bl;obtain ⟨b,o,⟨s1,⟨At,nt,ct⟩⟩,rfl,aH,cD,c0_,c1_,c2_,c3_,c4_,c5_,c6_,c7_⟩:=(h2.below (Bt B0 hb)).run aA;obtain rfl:nt=y.runs[k].tasks.length:=RdL.at1 (s:=⟨At,nt,ct⟩) cD.2;have uA:=Gj hl aA;have bL:b<wr:=Ai aH (Bt B0 hb).size;by_cases q:y.runs[k].state=1
   ·have S:=Bq (Tp aA q);have q':(y.runs[k].state == 1)=true:=beq_iff_eq.2 q;clear q;go_wp2;refine ⟨⟨k+1,Bl,by go_num,by rw [S.out];go_num,?_⟩,by simp [intOf];omega⟩;exact Bt hb (by repeat (first | exact Br _ _ | refine Ae ?_ Bo _))
   ·have S:=Bq (V1 aA q);have q':(y.runs[k].state == 1)=false:=beq_eq_false_iff_ne.2 q;clear q;go_wp2;refine ⟨⟨k+1,Bl,by go_num,by rw [S.out],?_⟩,by simp [intOf];omega⟩;exact Bt hb (by repeat (first | exact Br _ _ | refine Ae ?_ Bo _))
  ·have aB:¬ (k:Int)<(y.runs.length:Int):=Bl;have bJ:k=y.runs.length:=Bl;subst bJ;have hbe:=(HB.out y.runs.length).2;rw [List.take_length] at hbe tE;replace X:=X.below hb;replace B0:=Bt B0 hb;clear X_l;obtain ⟨X_0,X_1,X_2,X_3,X_l⟩:=X.g4;have C:=My y (⟨A1,n1,c1⟩,⟨A2,y.runs.length,c2⟩) wr hl (HR.out _ B0);have HW:=Bq (Nv y);generalize Cd y=L at *
   go_wp2_with fail
   refine C.mono ?_;rintro e w2 ⟨v,rfl,o2,b2⟩;obtain ⟨A3,c3,rfl,-⟩:=id (Rd.of_own o2);replace X:=X.below b2;replace B0:=Bt B0 b2;clear X_0 X_1 X_2 X_3 X_l;go_wp2;generalize Gp y.runs=M at *
   go_loopw [3,27] (fun n i wr=>∃ k:Nat,k<=L.length/\i = J U k/\n = J U ((M+Fh y (L.take k):Nat))/\Below w2 w2 wr) (fun _ i _=>L.length - (intOf i).toNat);case atStart=>exact ⟨0,Ag _,rfl,by simp [Fh],Br _ _⟩
   case round =>
    obtain ⟨k,hk,rfl,rfl,aF⟩:=hrel;have dM:=HW.out (L.take k);rw [Az] at dM;replace X:=X.below aF;obtain ⟨X_0,X_1,X_2,X_3,X_l⟩:=X.g4;by_cases aA:k<L.length
    ·have aB:(k:Int)<(L.length:Int):=Bl;obtain ⟨b,o,_,kG,aH,_,d0,d1,d2,d3⟩:=RdL.entry (Kq (Rd.of_own (o2.below aF))) aA;subst kG;have ha:Below wr wr (wr.alloc (.cells #[J U L[k].prio,J U L[k].seq,J U L[k].run,J U L[k].task] 93)):=(Br _ _).alloc (Bs _) _;have C:=Od y (⟨A1,n1,c1⟩,⟨A2,y.runs.length,c2⟩) L[k] _ hl (HR.out _ (Bt (Bt B0 aF) ha));have HY:=Bq (To (y:=y) aA);have HN:=Bq (Vz (y:=y) aA);cases q:El y L[k]
     ·have S:=Bq (HY.out q);rw [q] at C;go_wp2_with fail
      refine C.mono ?_;rintro e w3 ⟨rfl,b3⟩;go_wp2;exact ⟨⟨k+1,Bl,by go_num,by rw [S.out];go_num,Bt (Bt aF ha) b3⟩,by simp [intOf];omega⟩
     ·have S:=Bq (HN.out q);rw [q] at C;go_wp2_with fail
      refine C.mono ?_;rintro e w3 ⟨rfl,b3⟩;go_wp2;exact ⟨⟨k+1,Bl,by go_num,by rw [S.out];go_num,Bt (Bt aF ha) b3⟩,by simp [intOf];omega⟩
    ·have aB:¬ (k:Int)<(L.length:Int):=Bl;have bJ:k=L.length:=Bl;subst bJ;go_wp2;go_ret;exact ⟨Dc (by have:=HD.out;omega),Bt B0 aF⟩
theorem Oi (y:Yard) (s:Sl×Sl) (w:World) (hl:Cb y<=2000000) (h:Bu.rd w w y s) :
  Calls Am 218 #[Dg y s] w fun e w'=>e = .returned (J U (Fo y:Nat))/\Below w w w':=by
 have HR:=Bq (show ∀ W,Below w w W->Bu.rd W W y s from fun W hW=>Bu.rd_more (Bu.rd_below h hW) hW.size);obtain ⟨⟨A1,n1,c1⟩,⟨A2,n2,c2⟩⟩:=s;obtain rfl:n1=y.shelf.length:=RdL.at1 (s:=⟨A1,n1,c1⟩) h.1;obtain rfl:n2=y.runs.length:=RdL.at1 (s:=⟨A2,n2,c2⟩) h.2;have h1:RdL (Dt.list Bx) w w (Aa A1 y.shelf.length c1) y.shelf:=h.1;have h2:RdL Ch w w (Aa A2 y.runs.length c2) y.runs:=h.2;have cR:y.runs.length<=2000000:=Ah (Ck Cw _) (by unfold Cb at hl;omega);have hls:y.shelf.length<=2000000:=Ah (Ck C8 _) (by unfold Cb at hl;omega);have HE:=Bq (show ∀ k (hk:k<y.shelf.length),y.shelf[k].length<=2000000 from fun k hk=>by
  have:=Ds (cnt:=C8) (Aw hk)
  have h2:y.shelf[k].length<=C8 y.shelf[k]:=Ck Jh _;unfold Cb at hl;omega)
 have HB:=Bq (Kr hl);have HD:=Bq (show Fo y=Gp y.runs+Fh y y.shelf.flatten from rfl);have HW:=Bq (show ∀ k,Gp y.runs+Fh y (y.shelf.take k).flatten<=4000000 from fun k=>by
  have h3:=(Kr hl y.runs.length).2;rw [List.take_length] at h3;have h4:=Hi y.shelf k;have h5:=Nv y (y.shelf.take k).flatten;unfold Cb at hl;omega)
 clear h;obtain ⟨W,aG,X,B0⟩:=bx1 w 31 [J U y.now,J U y.seq,Aa A1 y.shelf.length c1,Aa A2 y.runs.length c2];go_enter Tryz.func218,Tryz.ntmps218;go_wp2;rw [<-aG.out];clear aG;obtain ⟨X_0,X_1,X_2,X_3,X_l⟩:=X.g4;go_loop [3,4] (fun n i=>∃ k:Nat,k<=y.runs.length/\i = J U k/\n = J U (Gp (y.runs.take k):Nat)) (fun _ i=>y.runs.length - (intOf i).toNat);case atStart=>exact ⟨0,Ag _,rfl,rfl⟩
 case round =>
  obtain ⟨k,hk,rfl,rfl⟩:=hrel;have tE:=(HB.out k).1;by_cases aA:k<y.runs.length
  ·have aB:(k:Int)<(y.runs.length:Int):=Bl;obtain ⟨b,o,⟨s1,⟨At,nt,ct⟩⟩,rfl,aH,cD,c0_,c1_,c2_,c3_,c4_,c5_,c6_,c7_⟩:=(h2.below B0).run aA;obtain rfl:nt=y.runs[k].tasks.length:=RdL.at1 (s:=⟨At,nt,ct⟩) cD.2;have uA:=Gj hl aA;by_cases q:y.runs[k].state=1
   ·have S:=Bq (Tp aA q);have q':(y.runs[k].state == 1)=true:=beq_iff_eq.2 q;clear q;go_wp2;exact ⟨⟨k+1,Bl,by go_num,by rw [S.out];go_num⟩,by simp [intOf];omega⟩
   ·have S:=Bq (V1 aA q);have q':(y.runs[k].state == 1)=false:=beq_eq_false_iff_ne.2 q;clear q;go_wp2;exact ⟨⟨k+1,Bl,by go_num,by rw [S.out]⟩,by simp [intOf];omega⟩
  ·have aB:¬ (k:Int)<(y.runs.length:Int):=Bl;have bJ:k=y.runs.length:=Bl;subst bJ;have HS:=Bq (show Gp (y.runs.take y.runs.length)=Gp y.runs by rw [List.take_length]);go_wp2;clear X_0 X_1 X_2 X_3 X_l tE aA hk aB;go_loopw [3,5] (fun n i wr=>∃ k:Nat,k<=y.shelf.length/\i = J U k/\n = J U (Gp y.runs+Fh y (y.shelf.take k).flatten:Nat)/\Below W W wr) (fun _ i _=>y.shelf.length - (intOf i).toNat);case atStart=>exact ⟨0,Ag _,rfl,by simp [Fh],Br _ _⟩
   case round =>
    obtain ⟨k,hk,rfl,rfl,hb⟩:=hrel;have hwk:=HW.out k;by_cases aA:k<y.shelf.length
    ·have aB:(k:Int)<(y.shelf.length:Int):=Bl;have hez:=HE.out k aA;have pQ:=Bq (K6 y.shelf k aA);have hwk1:=HW.out (k+1);rw [pQ.out,Ob] at hwk1;have HWj:=Bq (show ∀ j,Fh y (y.shelf[k].take j)<=y.shelf[k].length from fun j=>Ah (Nv _ _) (by rw [Az];omega));have X1:=X.below hb;have sD:wr.cell? ⟨w,2,Ab⟩=Ac (Aa A1 y.shelf.length c1):=X1.cell 2 _ rfl;have uW:=X1.lt;go_wp2;clear sD uW X1;go_loopw [3,6] (fun n i wq=>∃ j:Nat,j<=y.shelf[k].length/\i = J U j/\n = J U (Gp y.runs+Fh y (y.shelf.take k).flatten+Fh y (y.shelf[k].take j):Nat)/\Below W W wq) (fun _ i _=>y.shelf[k].length - (intOf i).toNat);case atStart=>exact ⟨0,Ag _,rfl,by simp [Fh],hb⟩
     case round =>
      clear hb;obtain ⟨j,hj,rfl,rfl,hb⟩:=hrel;have hsj:=HWj.out j;have X:=X.below hb;obtain ⟨X_0,X_1,X_2,X_3,X_l⟩:=X.g4;obtain ⟨b,o,⟨As,ns,cs⟩,mT,aH,hr,d0⟩:=(h1.below (Bt B0 hb)).entryS aA;obtain rfl:ns=y.shelf[k].length:=RdL.at1 (s:=⟨As,ns,cs⟩) hr;subst mT;have bL:b<wr:=Ai aH (Bt B0 hb).size;by_cases cZ:j<y.shelf[k].length
      ·have gU:(j:Int)<(y.shelf[k].length:Int):=Bl;obtain ⟨b2,o2,_,hAs,gT,_,f0,f1,f2,f3⟩:=RdL.entry hr cZ;subst hAs;have eL:b2<wr:=Ai gT (Bt B0 hb).size;have aR:=C7 wr;have C:=Bq (show ∀ u:Jd wr,_ from fun u=>Oe y (⟨Ac ⟨b,o,Ab⟩,y.shelf.length,c1⟩,⟨A2,y.runs.length,c2⟩) y.shelf[k][j] u.1 hl (HR.out _ (Bt (Bt B0 hb) u.2)));have HY:=Bq (To (y:=y) cZ);have HN:=Bq (Vz (y:=y) cZ);cases q:El y y.shelf[k][j]
       ·have S:=Bq (HY.out q);rw [q] at C;go_wp2;refine Bw Bm Bm ?_;repeat (go_big_quiet_step ((go_at_call 87;(with_reducible exact Ir C.out))))
        refine Ak ?_;rintro _ ⟨⟨w3,b3⟩,rfl⟩;clear aR;go_wp2;exact ⟨⟨j+1,Bl,by go_num,by rw [S.out];go_num,Bt hb b3⟩,by simp [intOf];omega⟩
       ·have S:=Bq (HN.out q);rw [q] at C;go_wp2;refine Bw Bm Bm ?_;repeat (go_big_quiet_step ((go_at_call 87;(with_reducible exact Ir C.out))))
        refine Ak ?_;rintro _ ⟨⟨w3,b3⟩,rfl⟩;clear aR;go_wp2;exact ⟨⟨j+1,Bl,by go_num,by rw [S.out];go_num,Bt hb b3⟩,by simp [intOf];omega⟩
      ·have gU:¬ (j:Int)<(y.shelf[k].length:Int):=Bl;have hj':j=y.shelf[k].length:=Bl;subst hj';have S:=Bq (show Gp y.runs+Fh y (y.shelf.take (k+1)).flatten=Gp y.runs+Fh y (y.shelf.take k).flatten+Fh y (y.shelf[k].take y.shelf[k].length) by rw [pQ.out,Ob,List.take_length];omega);go_wp2;exact ⟨⟨k+1,Bl,by go_num,by rw [S.out],hb⟩,by simp [intOf];omega⟩
    ·have aB:¬ (k:Int)<(y.shelf.length:Int):=Bl;have bJ:k=y.shelf.length:=Bl;subst bJ;have X1:=X.below hb;have sD:wr.cell? ⟨w,2,Ab⟩=Ac (Aa A1 y.shelf.length c1):=X1.cell 2 _ rfl;have uW:=X1.lt;go_wp2;go_ret;exact ⟨Dc (by have:=HD.out;omega),Bt B0 hb⟩
def Iw (l:List Entry) (e:Entry):List Entry:=l.takeWhile (fun x=>Er x e) ++ e :: l.dropWhile (fun x=>Er x e)
theorem T7 {α:Type} {p:α->Bool} : ∀ {l:List α} {k:Nat},k<=l.length->(∀ j (hj:j<l.length),j<k->p l[j]=true)->(∀ h:k<l.length,p l[k]=false)->l.takeWhile p=l.take k/\l.dropWhile p=l.drop k
 | [],k,hk,_,_=>by
  obtain rfl:k=0:=by simpa using hk
  exact ⟨rfl,rfl⟩
 | x :: l,0,_,_,h=>by
  have:=h Bn
  simp only [List.getElem_cons_zero] at this;simp [List.takeWhile_cons,List.dropWhile_cons,this]
 | x :: l,k+1,hk,ha,h=>by
  have h0:=ha 0 Bn Bl;simp only [List.getElem_cons_zero] at h0;obtain ⟨i1,i2⟩:=T7 (p:=p) (l:=l) (k:=k) (by simpa using hk) (fun j hj fK=>by have:=ha (j+1) (by simpa using hj) Bl;simpa using this) (fun kH=>by have:=h (by simpa using kH);simpa using this);simp [List.takeWhile_cons,List.dropWhile_cons,h0,i1,i2]
theorem Sp {l:List Entry} {e:Entry} {k:Nat} (hk:k<=l.length) (ha:∀ j (hj:j<l.length),j<k->Er l[j] e=true) (h:∀ h:k<l.length,Er l[k] e=false):Iw l e=l.take k ++ [e] ++ l.drop k:=by
 unfold Iw;obtain ⟨h1,h2⟩:=T7 (p:=fun x=>Er x e) hk ha h;rw [h1,h2,List.append_assoc];rfl
theorem Za (l:List Entry) (e:Entry):(Iw l e).length=l.length+1:=by
 unfold Iw;rw [Bd,List.length_cons];have:(l.takeWhile (fun x=>Er x e) ++ l.dropWhile (fun x=>Er x e)).length=l.length:=by rw [List.takeWhile_append_dropWhile]
 rw [Bd] at this;omega
def Fu (a b:List Entry):List Entry:=if 80<a.length+b.length then a else b.foldl Iw a
theorem K7 (b:List Entry):∀ a:List Entry,(b.foldl Iw a).length=a.length+b.length:=by
 induction b with
 | nil=>intro a;rfl
 | cons x b ih=>intro a;rw [List.foldl_cons,ih,Za,List.length_cons];omega
theorem Zb (a b:List Entry):(Fu a b).length<=a.length+b.length:=by
 unfold Fu;split
 ·omega
 ·rw [K7];omega
def Cx (l:List Entry):Nat:=(l.length+1) / 2
theorem Zc (l:List Entry):Cx l<=l.length:=by unfold Cx;omega
def Cu (id:Int):Nat:=if (D6 id).length=0 then 0 else (Kj (D6 id) % 4).toNat
theorem T8 (id:Int):Cu id<4:=by
 unfold Cu;split
 ·decide
 ·have:=Int.emod_lt_of_pos (Kj (D6 id)) (show (0:Int)<4 by decide)
  have:=Int.emod_nonneg (Kj (D6 id)) (show (4:Int)≠0 by decide)
  omega
theorem OwL.swap {α:Type} {d:Dt α} {w:World} {F Fy:List Nat} {b o n c:Nat} {l:List α} (h:OwL d w F (Aa (Ac ⟨b,o,Ab⟩) n c) l) {j:Nat} (hj:j<l.length) {y:α} {s:d.S} (hy:d.ow w Fy y s) (hd:∀ x∈Fy,x∉F) :
  ∃ F',OwL d (G9 w b (o+j * d.enc.sz) (d.enc.cells (y,s))) F' (Aa (Ac ⟨b,o,Ab⟩) n c) (l.set j y)/\(∀ x∈F',x∈F\/x∈Fy)/\b∈F/\b∈F':=by
 obtain ⟨rs,H,G,hm,hh,ho,rfl,hn⟩:=h;have kL:j<rs.length:=by rw [<-hm,Ar] at hj;exact hj
 obtain ⟨b',o',hA,rfl,mI,hf⟩:=hh.at_ Bl;simp only [Option.some.injEq,Addr.mk.injEq,and_true] at hA;obtain ⟨rfl,rfl⟩:=hA;obtain ⟨F1,F2,rfl,h1,h2⟩:=ho.split j Bl;rw [List.drop_eq_getElem_cons kL] at h2;obtain ⟨Fx,F3,rfl,h3,h4⟩:=h2.head;have gI:b∉F1 ++ (Fx ++ F3):=by
  have:=hn
  simp only [List.singleton_append,List.nodup_cons] at this;exact this.1
 have qM:(F1 ++ (Fx ++ F3)).Nodup:=by
  have:=hn
  simp only [List.singleton_append,List.nodup_cons] at this;exact this.2
 have cM:b∉Fy:=fun hx=>hd b hx Bn;have hc:=Ie (d.enc.cells (y,s)) w b (o+j * d.enc.sz);have hp:=Rd.part hh.rd j kL (y,s) 0 (d.enc.cells (y,s)) (by rw [d.enc.len];omega) (fun i hi=>by rw [Nat.zero_add];exact List.getElem?_eq_getElem hi) (fun i hi ho=>by rw [d.enc.len] at ho;omega);rw [Nat.add_zero] at hp;have hz:=I9 (d.enc.cells (y,s)) w b (o+j * d.enc.sz);have dA:rs.set j (y,s)=rs.take j ++ ((y,s) :: rs.drop (j+1)):=by rw [List.set_eq_take_append_cons_drop,if_pos kL]
 refine ⟨[b] ++ (F1 ++ (Fy ++ F3)),⟨rs.set j (y,s),[b],F1 ++ (Fy ++ F3),?_,⟨?_,?_,fun g hg i=>?_⟩,?_,rfl,?_⟩,?_,Bn,Bn⟩
 ·rw [List.map_set,hm]
 ·rw [hz];exact hp
 ·have:=hh.2.1
  rw [List.length_set];exact this
 ·rw [Ih];simp only [Au] at hg;subst hg;exact hf i
 ·rw [dA];refine (h1.chg hc (fun x hx eW=>?_)).append (.cons (d.ow_chg hy hc (fun x hx eW=>?_)) (h4.chg hc (fun x hx eW=>?_)))
  ·simp only [Au] at eW;subst eW;exact gI (List.mem_append_left _ hx)
  ·simp only [Au] at eW;subst eW;exact cM hx
  ·simp only [Au] at eW;subst eW;exact gI (Be _ (Be _ hx))
 ·have hyN:=d.ow_nodup hy;rw [List.singleton_append,List.nodup_cons];refine ⟨fun hx=>?_,?_⟩
  ·simp only [Bi] at hx;rcases hx with hx | hx | hx
   ·exact gI (by simp [hx])
   ·exact cM hx
   ·exact gI (by simp [hx])
  ·rw [Ax] at qM ⊢;obtain ⟨n1,n2,n3⟩:=qM;rw [Ax] at n2;obtain ⟨m1,m2,m3⟩:=n2;refine ⟨n1,?_,fun a ha c hc=>?_⟩
   ·rw [Ax];exact ⟨hyN,m2,fun a ha c hc e=>hd a ha (by subst e;simp [hc])⟩
   ·rcases Bi.1 hc with hc | hc
    ·exact fun e=>hd c hc (by subst e;simp [ha])
    ·exact n3 a ha c (Be _ hc)
 ·intro x hx;simp only [Bi,Au] at hx ⊢;rcases hx with hx | hx | hx | hx
  ·exact .inl (.inl hx)
  ·exact .inl (.inr (.inl hx))
  ·exact .inr hx
  ·exact .inl (.inr (.inr (.inr hx)))
end Go.Proofs.YtonlnjdempbfoaaGreat
