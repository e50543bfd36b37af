/-
  Runs that stand in a yard as they should: the program's walk and the reference's. Copies of shelves and of runs, of the program and of the reference. Written by
-/
import Derived.Test.YtecnbnbopcblgaaGreatZVw0
import Derived.Test.YtecnbnbopcblgaaGreatZVw1
import Derived.Test.YtecnbnbopcblgaaGreatZVw2
import Derived.Test.YtecnbnbopcblgaaGreatZVw3
namespace Go.Proofs.YtecnbnbopcblgaaGreat
open Go.RowKit
set_option maxRecDepth 100000
set_option maxHeartbeats 4000000
set_option linter.unusedVariables false
set_option linter.unusedSimpArgs false
open Value renaming int->J,slice->Aa
open IntKind renaming i64->Ab
open Option renaming none->Ac,some->Ad
open Below renaming setCell->Ae,alloc->Af
open Nat renaming zero_le->Ah,le_trans->Ai,lt_of_lt_of_le->Aj
open Go renaming wpQuiet_nil->Al
open Go.Proofs.Tryz renaming prog->An
open IntWalk renaming i64_in->Ar
open List renaming length_map->Au,mem_singleton->Aw,getElem_mem->Ax,nodup_append->Ay,length_take->A0,length_append->Bd,mem_append_right->Be,mem_append->Bi
open Go.Proofs.Tryz
theorem Wi {now:Int} {r:Run} {es:List Entry} {t k:Nat} (ht:t<r.tasks.length) (h2:r.tasks[t].state=2) (hk:k<es.length) (hm:Gy r.id t es[k]=true) (hp:¬ es[k].prio=r.plan.prio):¬ K0 now r es:=by
 intro h;have h3:=(h t ht).1;rw [Co ht] at h3;exact hp ((h3 h2).1 _ (Ax hk) hm)
theorem Wj {now:Int} {r:Run} {es:List Entry} {t:Nat} (ht:t<r.tasks.length) (h2:r.tasks[t].state=2) (hm:¬ Ec r.id t es=1):¬ K0 now r es:=by
 intro h;have h3:=(h t ht).1;rw [Co ht] at h3;exact hm (h3 h2).2
theorem Wk {now:Int} {r:Run} {es:List Entry} {t:Nat} (ht:t<r.tasks.length) (h2:r.tasks[t].state=3) (hm:inB r.tasks[t].until_ (now+1) (now+r.plan.wait)=false):¬ K0 now r es:=by
 intro h;have h3:=(h t ht).2;rw [Co ht] at h3
 have:=Ct.2 (h3 h2)
 rw [hm] at this;cases this
theorem Pz {now:Int} {r:Run} {es:List Entry} {t:Nat} (ht:t<r.tasks.length) (h1:r.tasks[t].state=2->(∀ j (hj:j<es.length),Gy r.id t es[j]=true->es[j].prio=r.plan.prio)/\Ec r.id t es=1)
  (h2:r.tasks[t].state=3->inB r.tasks[t].until_ (now+1) (now+r.plan.wait)=true):Qk now r es t:=by
 unfold Qk;rw [Co ht];refine ⟨fun h=>⟨fun e he hm=>?_,(h1 h).2⟩,fun h=>Ct.1 (h2 h)⟩;obtain ⟨j,hj,rfl⟩:=List.getElem_of_mem he;exact (h1 h).1 j hj hm
def J2 (r:Run) (t:Nat) (es:List Entry) (k:Nat):Prop:=∀ j (hj:j<es.length),j<k->Gy r.id t es[j]=true->es[j].prio=r.plan.prio
theorem K1 {r:Run} {t:Nat} {es:List Entry} {k:Nat} (h:J2 r t es k) (hk:k<es.length) (hp:Gy r.id t es[k]=true->es[k].prio=r.plan.prio):J2 r t es (k+1):=by
 intro j hj fM hm;by_cases e:j=k
 ·subst e;exact hp hm
 ·exact h j hj Bl hm
theorem Yu (y:Yard) (s:Sl×Sl) (r:Run) (s2:Sl×Sl) (es:List Entry) (s3:Sl) (w:World) (eS:r.tasks.length<=2000000) (qS:es.length<=2000000) (hn:0<=y.now/\y.now<=999999980) (hw:1<=r.plan.wait/\r.plan.wait<=20)
  (h':Cn.rd w w r s2) (h3:Rd Cw w w s3.v es) :
  Calls An 143 #[Dh y s,Hx r s2,Aa s3.a s3.n s3.c] w fun e w'=>e = .returned (.bool (tf (K0 y.now r es)))/\Below w w w':=by
 obtain ⟨⟨A1,n1,c1⟩,⟨A2,n2,c2⟩⟩:=s;obtain ⟨⟨A4,n4,c4⟩,⟨A5,n5,c5⟩⟩:=s2;obtain ⟨A6,n6,c6⟩:=s3;obtain rfl:n5=r.tasks.length:=RdL.at1 (s:=⟨A5,n5,c5⟩) h'.2;obtain rfl:n6=es.length:=RdL.at1 (s:=⟨A6,n6,c6⟩) (Js h3);have h2:RdL Eu w w (Aa A5 r.tasks.length c5) r.tasks:=h'.2;have h3:RdL Ch w w (Aa A6 es.length c6) es:=Js h3;clear h';obtain ⟨W,aG,X,R,B0⟩:=bx2 w 31 [J Ab y.now,J Ab y.seq,Aa A1 n1 c1,Aa A2 n2 c2] 67 [J Ab r.id,J Ab r.plan.prio,J Ab r.plan.most,J Ab r.plan.wait,J Ab r.plan.tasks,Aa A4 n4 c4,J Ab r.state,Aa A5 r.tasks.length c5];have R_l:=R.lt;go_enter func143,ntmps143;go_wp2;rw [<-aG.out];clear aG;go_loopw [15] (fun i wr=>∃ k:Nat,k<=r.tasks.length/\i = J Ab k/\Hid (∀ t,t<k->Qk y.now r es t)/\Below W W wr) (fun i _=>r.tasks.length - (intOf i).toNat);case atStart=>exact ⟨0,Ah _,rfl,fun t ht=>absurd ht Bl,Br _ _⟩
 case round =>
  obtain ⟨t,hk,rfl,aY,hb⟩:=hrel;by_cases aB:t<r.tasks.length
  ·have aC:(t:Int)<(r.tasks.length:Int):=Bl;obtain ⟨b,o,_,hA5,aH,_,d0,d1,d2,d3⟩:=(h2.below (Bv B0 hb)).task aB;subst hA5;have bG:b<wr:=Aj aH (Bv B0 hb).size;have T:=DBox.new 203 [J Ab r.tasks[t].state,J Ab r.tasks[t].need,J Ab r.tasks[t].try_,J Ab r.tasks[t].until_] wr rfl;have ha:Below wr wr (wr.alloc (.cells #[J Ab r.tasks[t].state,J Ab r.tasks[t].need,J Ab r.tasks[t].try_,J Ab r.tasks[t].until_] 203)):=Bt;go_wp2;generalize wr.alloc (.cells #[J Ab r.tasks[t].state,J Ab r.tasks[t].need,J Ab r.tasks[t].try_,J Ab r.tasks[t].until_] 203)=W2 at *
   have Hb2:=Bv hb ha;clear d0 d1 d2 d3 bG;go_loopw [9,22] (fun n i wq=>∃ j:Nat,j<=es.length/\i = J Ab j/\n = J Ab (Ec r.id t (es.take j):Nat)/\Hid (r.tasks[t].state=2->J2 r t es j)/\Below W2 W2 wq) (fun _ i _=>es.length - (intOf i).toNat);case atStart=>exact ⟨0,Ah _,rfl,rfl,fun _ j hj h0=>absurd h0 Bl,Br _ _⟩
   case round =>
    obtain ⟨j,hj,rfl,rfl,mS,aJ⟩:=hrel;have hmn:=Acb r.id t (es.take j);rw [A0] at hmn;have X:=(X.below Hb2).below aJ;have R:=(R.below Hb2).below aJ;replace T:=T.below aJ;have X_:=X.g4;obtain ⟨R_0,R_1,R_2,R_3,R_4,R_5,R_6,R_7,R_l⟩:=R.g8;have T_:=T.g4;have B1:=Bv (Bv B0 Hb2) aJ;by_cases dE:j<es.length
    ·have gL:(j:Int)<(es.length:Int):=Bl;obtain ⟨b6,o6,_,hA6,hbb6,_,f0,f1,f2,f3⟩:=(h3.below B1).entry dE;subst hA6;have nY:b6<wr:=Aj hbb6 B1.size;have hE:Below wr wr (wr.alloc (.cells #[J Ab es[j].prio,J Ab es[j].seq,J Ab es[j].run,J Ab es[j].task] 71)):=Bt;have HM:Hid (Gy r.id t es[j]=((es[j].run == r.id) && (es[j].task == (t:Int)))):=rfl;have HY:=Bq (Zm (id:=r.id) (t:=t) dE);have HN:=Bq (Aca (id:=r.id) (t:=t) dE);cases q1:(es[j].run == r.id)
     ·have hm:Gy r.id t es[j]=false:=by rw [HM.out,q1];rfl
      have S:=Bq (HN.out hm);have S2:Hid (r.tasks[t].state=2->J2 r t es (j+1)):=fun h2=>K1 (mS.out h2) dE (fun hh=>by rw [hm] at hh;cases hh);clear hm;go_wp2;first
       | exact ⟨⟨j+1,Bl,by go_num,by rw [S.out],S2,Bv aJ hE⟩,clM⟩
       | (refine ⟨?_,clM⟩;(repeat apply Exists.intro);refine ⟨?_,clR⟩;exact ⟨j+1,Bl,by go_num,by rw [S.out],S2,Bv aJ hE⟩)
     cases q2:(es[j].task == (t:Int))
     ·have hm:Gy r.id t es[j]=false:=by rw [HM.out,q1,q2];rfl
      have S:=Bq (HN.out hm);have S2:Hid (r.tasks[t].state=2->J2 r t es (j+1)):=fun h2=>K1 (mS.out h2) dE (fun hh=>by rw [hm] at hh;cases hh);clear hm;go_wp2;first
       | exact ⟨⟨j+1,Bl,by go_num,by rw [S.out],S2,Bv aJ hE⟩,clM⟩
       | (refine ⟨?_,clM⟩;(repeat apply Exists.intro);refine ⟨?_,clR⟩;exact ⟨j+1,Bl,by go_num,by rw [S.out],S2,Bv aJ hE⟩)
     have hm:Gy r.id t es[j]=true:=by rw [HM.out,q1,q2];rfl
     have S:=Bq (HY.out hm);have HM2:=Bq hm;clear hm;by_cases q3:r.tasks[t].state=2
     ·have q3':(r.tasks[t].state == 2)=true:=beq_iff_eq.2 q3;by_cases q4:es[j].prio=r.plan.prio
      ·have q4':(es[j].prio != r.plan.prio)=false:=by simp [q4]
       have S2:Hid (r.tasks[t].state=2->J2 r t es (j+1)):=fun h2=>K1 (mS.out h2) dE (fun _=>q4);clear q3 q4;go_wp2;first
        | exact ⟨⟨j+1,Bl,by go_num,by rw [S.out];go_num,S2,Bv aJ hE⟩,clM⟩
        | (refine ⟨?_,clM⟩;(repeat apply Exists.intro);refine ⟨?_,clR⟩;exact ⟨j+1,Bl,by go_num,by rw [S.out];go_num,S2,Bv aJ hE⟩)
      ·have q4':(es[j].prio != r.plan.prio)=true:=by simp [q4]
       have H:=Bq (Cm (Wi (now:=y.now) aB q3 dE HM2.out q4));clear q3 q4;go_wp2;go_ret;exact ⟨Bx H.out.symm,Bv B1 hE⟩
     ·have q3':(r.tasks[t].state == 2)=false:=beq_eq_false_iff_ne.2 q3;have S2:Hid (r.tasks[t].state=2->J2 r t es (j+1)):=fun h2=>absurd h2 q3;clear q3;go_wp2;first
       | exact ⟨⟨j+1,Bl,by go_num,by rw [S.out];go_num,S2,Bv aJ hE⟩,clM⟩
       | (refine ⟨?_,clM⟩;(repeat apply Exists.intro);refine ⟨?_,clR⟩;exact ⟨j+1,Bl,by go_num,by rw [S.out];go_num,S2,Bv aJ hE⟩)
    ·have gL:¬ (j:Int)<(es.length:Int):=Bl;have hj':j=es.length:=Bl;subst hj';have HP:Hid (r.tasks[t].state=2 -> ∀ j (hj:j<es.length),Gy r.id t es[j]=true->es[j].prio=r.plan.prio):=fun h2 j hj hm=>mS.out h2 j hj hj hm;have HMt:=Bq (show Ec r.id t (es.take es.length)=Ec r.id t es by rw [List.take_length]);have HMb:=Bq (show ∀ M:Int,M=(Ec r.id t es:Nat)->(M=1 ↔ Ec r.id t es=1) from fun M hM=>Bl);have step:Qk y.now r es t->Hid (∀ t',t'<t+1->Qk y.now r es t'):=fun hx t' eI=>by
      by_cases e:t'=t
      ·subst e;exact hx
      ·exact aY.out t' Bl
     have w1':Ab.wrap (y.now+1)=y.now+1:=Ar _ Bl;have w2':Ab.wrap (y.now+r.plan.wait)=y.now+r.plan.wait:=Ar _ Bl;by_cases q3:r.tasks[t].state=2
     ·have q3':(r.tasks[t].state == 2)=true:=beq_iff_eq.2 q3;have q5':(r.tasks[t].state == 3)=false:=beq_eq_false_iff_ne.2 Bl;by_cases q4:Ec r.id t es=1
      ·have S:=step (Pz aB (fun h=>⟨HP.out h,q4⟩) (fun h=>Bl));have q4':((Ec r.id t es:Int) != 1)=false:=by simp [q4]
       clear q3 q4 step;go_wp2;first
        | exact ⟨⟨t+1,Bl,by go_num,S,Bv Hb2 aJ⟩,clM⟩
        | (refine ⟨?_,clM⟩;(repeat apply Exists.intro);refine ⟨?_,clR⟩;exact ⟨t+1,Bl,by go_num,S,Bv Hb2 aJ⟩)
      ·have H:=Bq (Cm (Wj (now:=y.now) aB q3 q4));have q4':((Ec r.id t es:Int) != 1)=true:=by simp;omega
       clear q3 q4 step;go_wp2;go_ret;exact ⟨Bx H.out.symm,B1⟩
     ·have q3':(r.tasks[t].state == 2)=false:=beq_eq_false_iff_ne.2 q3;by_cases q5:r.tasks[t].state=3
      ·have q5':(r.tasks[t].state == 3)=true:=beq_iff_eq.2 q5;cases q6:inB r.tasks[t].until_ (y.now+1) (y.now+r.plan.wait)
       ·have H:=Bq (Cm (Wk (es:=es) aB q5 q6));clear q3 q5 step;go_wp2_with (go_at_call 72;refine (Cq _ _ _ _).mono ?_;rintro e w' ⟨rfl,rfl⟩)
        go_ret;exact ⟨Bx H.out.symm,B1⟩
       ·have S:=step (Pz aB (fun h=>absurd h q3) (fun _=>q6));clear q3 q5 step;go_wp2_with (go_at_call 72;refine (Cq _ _ _ _).mono ?_;rintro e w' ⟨rfl,rfl⟩)
        first
         | exact ⟨⟨t+1,Bl,by go_num,S,Bv Hb2 aJ⟩,clM⟩
         | (refine ⟨?_,clM⟩;(repeat apply Exists.intro);refine ⟨?_,clR⟩;exact ⟨t+1,Bl,by go_num,S,Bv Hb2 aJ⟩)
      ·have q5':(r.tasks[t].state == 3)=false:=beq_eq_false_iff_ne.2 q5;have S:=step (Pz aB (fun h=>absurd h q3) (fun h=>absurd h q5));clear q3 q5 step;go_wp2;first
        | exact ⟨⟨t+1,Bl,by go_num,S,Bv Hb2 aJ⟩,clM⟩
        | (refine ⟨?_,clM⟩;(repeat apply Exists.intro);refine ⟨?_,clR⟩;exact ⟨t+1,Bl,by go_num,S,Bv Hb2 aJ⟩)
  ·have aC:¬ (t:Int)<(r.tasks.length:Int):=Bl;have H:=Bq (Ds (show K0 y.now r es from fun t' eI=>aY.out t' Bl));go_wp2;go_ret;exact ⟨Bx H.out.symm,Bv B0 hb⟩
theorem Yv (y:Yard) (s:Sl×Sl) (r:Run) (s2:Sl×Sl) (es:List Entry) (s3:Sl) (w:World) (eS:r.tasks.length<=2000000) (qS:es.length<=2000000) (hn:0<=y.now/\y.now<=999999980) (hw:1<=r.plan.wait/\r.plan.wait<=20)
  (h':Cn.rd w w r s2) (h3:Rd Cw w w s3.v es) :
  Calls An 235 #[Dh y s,Hx r s2,Aa s3.a s3.n s3.c] w fun e w'=>e = .returned (.bool (tf (K0 y.now r es)))/\Below w w w':=by
 obtain ⟨⟨A1,n1,c1⟩,⟨A2,n2,c2⟩⟩:=s;obtain ⟨⟨A4,n4,c4⟩,⟨A5,n5,c5⟩⟩:=s2;obtain ⟨A6,n6,c6⟩:=s3;obtain rfl:n5=r.tasks.length:=RdL.at1 (s:=⟨A5,n5,c5⟩) h'.2;obtain rfl:n6=es.length:=RdL.at1 (s:=⟨A6,n6,c6⟩) (Js h3);have h2:RdL Eu w w (Aa A5 r.tasks.length c5) r.tasks:=h'.2;have h3:RdL Ch w w (Aa A6 es.length c6) es:=Js h3;clear h';obtain ⟨W,aG,X,R,B0⟩:=bx2 w 31 [J Ab y.now,J Ab y.seq,Aa A1 n1 c1,Aa A2 n2 c2] 67 [J Ab r.id,J Ab r.plan.prio,J Ab r.plan.most,J Ab r.plan.wait,J Ab r.plan.tasks,Aa A4 n4 c4,J Ab r.state,Aa A5 r.tasks.length c5];go_enter func235,ntmps235;go_wp2;rw [<-aG.out];clear aG;go_loopw [7] (fun i wr=>∃ k:Nat,k<=r.tasks.length/\i = J Ab k/\Hid (∀ t,t<k->Qk y.now r es t)/\Below W W wr) (fun i _=>r.tasks.length - (intOf i).toNat);case atStart=>exact ⟨0,Ah _,rfl,fun t ht=>absurd ht Bl,Br _ _⟩
 case round =>
  obtain ⟨t,hk,rfl,aY,hb⟩:=hrel;by_cases aB:t<r.tasks.length
  ·have aC:(t:Int)<(r.tasks.length:Int):=Bl;have R1:=R.below hb;have qV:wr.cell? ⟨w+1,7,Ac⟩=Ad (Aa A5 r.tasks.length c5):=R1.cell 7 _ rfl;have vH:=R1.lt;go_wp2;clear qV vH R1;go_loopw [8,9] (fun n i wq=>∃ j:Nat,j<=es.length/\i = J Ab j/\n = J Ab (Ec r.id t (es.take j):Nat)/\Hid (r.tasks[t].state=2->J2 r t es j)/\Below W W wq) (fun _ i _=>es.length - (intOf i).toNat);case atStart=>exact ⟨0,Ah _,rfl,rfl,fun _ j hj h0=>absurd h0 Bl,hb⟩
   case round =>
    clear hb;obtain ⟨j,hj,rfl,rfl,mS,hb⟩:=hrel;have hmn:=Acb r.id t (es.take j);rw [A0] at hmn;have X:=X.below hb;have R:=R.below hb;have X_:=X.g4;have R_:=R.g8;have B1:=Bv B0 hb;obtain ⟨b,o,_,hA5,aH,_,d0,d1,d2,d3⟩:=(h2.below B1).task aB;subst hA5;have bG:b<wr:=Aj aH B1.size;have aN:=Df wr;by_cases dE:j<es.length
    ·have gL:(j:Int)<(es.length:Int):=Bl;obtain ⟨b6,o6,_,hA6,hbb6,_,f0,f1,f2,f3⟩:=(h3.below B1).entry dE;subst hA6;have nY:b6<wr:=Aj hbb6 B1.size;have HM:Hid (Gy r.id t es[j]=((es[j].run == r.id) && (es[j].task == (t:Int)))):=rfl;have HY:=Bq (Zm (id:=r.id) (t:=t) dE);have HN:=Bq (Aca (id:=r.id) (t:=t) dE);cases q1:(es[j].run == r.id)
     ·have hm:Gy r.id t es[j]=false:=by rw [HM.out,q1];rfl
      have S:=Bq (HN.out hm);have S2:Hid (r.tasks[t].state=2->J2 r t es (j+1)):=fun h2=>K1 (mS.out h2) dE (fun hh=>by rw [hm] at hh;cases hh);clear hm;go_wp2;go_quiet (fail);go_wp2;first
       | exact ⟨⟨j+1,Bl,by go_num,by rw [S.out],S2,Du hb _⟩,clM⟩
       | (refine ⟨?_,clM⟩;(repeat apply Exists.intro);refine ⟨?_,clR⟩;exact ⟨j+1,Bl,by go_num,by rw [S.out],S2,Du hb _⟩)
     cases q2:(es[j].task == (t:Int))
     ·have hm:Gy r.id t es[j]=false:=by rw [HM.out,q1,q2];rfl
      have S:=Bq (HN.out hm);have S2:Hid (r.tasks[t].state=2->J2 r t es (j+1)):=fun h2=>K1 (mS.out h2) dE (fun hh=>by rw [hm] at hh;cases hh);clear hm;go_wp2;go_quiet (fail);go_wp2;first
       | exact ⟨⟨j+1,Bl,by go_num,by rw [S.out],S2,Du hb _⟩,clM⟩
       | (refine ⟨?_,clM⟩;(repeat apply Exists.intro);refine ⟨?_,clR⟩;exact ⟨j+1,Bl,by go_num,by rw [S.out],S2,Du hb _⟩)
     have hm:Gy r.id t es[j]=true:=by rw [HM.out,q1,q2];rfl
     have S:=Bq (HY.out hm);have HM2:=Bq hm;clear hm;by_cases q3:r.tasks[t].state=2
     ·have q3':(r.tasks[t].state == 2)=true:=beq_iff_eq.2 q3;by_cases q4:es[j].prio=r.plan.prio
      ·have q4':(es[j].prio != r.plan.prio)=false:=by simp [q4]
       have S2:Hid (r.tasks[t].state=2->J2 r t es (j+1)):=fun h2=>K1 (mS.out h2) dE (fun _=>q4);clear q3 q4;go_wp2;go_quiet (fail);go_wp2;go_quiet (fail);go_wp2;first
        | exact ⟨⟨j+1,Bl,by go_num,by rw [S.out];go_num,S2,by first | exact Du hb _ | exact Du (Du hb _) _⟩,clM⟩
        | (refine ⟨?_,clM⟩;(repeat apply Exists.intro);refine ⟨?_,clR⟩;exact ⟨j+1,Bl,by go_num,by rw [S.out];go_num,S2,by first | exact Du hb _ | exact Du (Du hb _) _⟩)
      ·have q4':(es[j].prio != r.plan.prio)=true:=by simp [q4]
       have H:=Bq (Cm (Wi (now:=y.now) aB q3 dE HM2.out q4));clear q3 q4;go_wp2;go_quiet (fail);go_wp2;go_quiet (fail);go_wp2;go_ret;exact ⟨Bx H.out.symm,by first | exact Du B1 _ | exact Du (Du B1 _) _⟩
     ·have q3':(r.tasks[t].state == 2)=false:=beq_eq_false_iff_ne.2 q3;have S2:Hid (r.tasks[t].state=2->J2 r t es (j+1)):=fun h2=>absurd h2 q3;clear q3;go_wp2;go_quiet (fail);go_wp2;go_quiet (fail);go_wp2;first
       | exact ⟨⟨j+1,Bl,by go_num,by rw [S.out];go_num,S2,by first | exact Du hb _ | exact Du (Du hb _) _⟩,clM⟩
       | (refine ⟨?_,clM⟩;(repeat apply Exists.intro);refine ⟨?_,clR⟩;exact ⟨j+1,Bl,by go_num,by rw [S.out];go_num,S2,by first | exact Du hb _ | exact Du (Du hb _) _⟩)
    ·have gL:¬ (j:Int)<(es.length:Int):=Bl;have hj':j=es.length:=Bl;subst hj';rw [List.take_length] at *
     have HP:Hid (r.tasks[t].state=2 -> ∀ j (hj:j<es.length),Gy r.id t es[j]=true->es[j].prio=r.plan.prio):=fun h2 j hj hm=>mS.out h2 j hj hj hm;have step:Qk y.now r es t->Hid (∀ t',t'<t+1->Qk y.now r es t'):=fun hx t' eI=>by
      by_cases e:t'=t
      ·subst e;exact hx
      ·exact aY.out t' Bl
     have w1':Ab.wrap (y.now+1)=y.now+1:=Ar _ Bl;have w2':Ab.wrap (y.now+r.plan.wait)=y.now+r.plan.wait:=Ar _ Bl;generalize hM:(Ec r.id t es:Int)=M at *
     by_cases q3:r.tasks[t].state=2
     ·have q3':(r.tasks[t].state == 2)=true:=beq_iff_eq.2 q3;have q5':(r.tasks[t].state == 3)=false:=beq_eq_false_iff_ne.2 Bl;by_cases q4:M=1
      ·have S:=step (Pz aB (fun h=>⟨HP.out h,Bl⟩) (fun h=>Bl));have q4':(M != 1)=false:=by simp [q4]
       clear q3 q4 step hM;go_wp2;refine Bz Bm Bm ?_;repeat (go_big_quiet_step ((go_at_call 90;exact Dy (fun u=>Cl _ _ _ u.1))))
       refine Al ?_;rintro _ ⟨⟨w2,b2⟩,rfl⟩;clear aN;go_wp2;first
        | exact ⟨⟨t+1,Bl,by go_num,S,Bv hb b2⟩,clM⟩
        | (refine ⟨?_,clM⟩;(repeat apply Exists.intro);refine ⟨?_,clR⟩;exact ⟨t+1,Bl,by go_num,S,Bv hb b2⟩)
      ·have H:=Bq (Cm (Wj (now:=y.now) aB q3 (show ¬ Ec r.id t es=1 by omega)));have q4':(M != 1)=true:=by simp [q4]
       clear q3 q4 step hM;go_wp2;refine Bz Bm Bm ?_;repeat (go_big_quiet_step ((go_at_call 90;exact Dy (fun u=>Cl _ _ _ u.1))))
       refine Al ?_;rintro _ ⟨⟨w2,b2⟩,rfl⟩;clear aN;go_wp2;go_ret;exact ⟨Bx H.out.symm,Bv B1 b2⟩
     ·have q3':(r.tasks[t].state == 2)=false:=beq_eq_false_iff_ne.2 q3;clear hM;by_cases q5:r.tasks[t].state=3
      ·have q5':(r.tasks[t].state == 3)=true:=beq_iff_eq.2 q5;cases q6:inB r.tasks[t].until_ (y.now+1) (y.now+r.plan.wait)
       ·have H:=Bq (Cm (Wk (es:=es) aB q5 q6));clear q3 q5 step;go_wp2;refine Bz Bm Bm ?_;repeat (go_big_quiet_step ((go_at_call 90;exact Dy (fun u=>Cl _ _ _ u.1))))
        refine Al ?_;rintro _ ⟨⟨w2,b2⟩,rfl⟩;clear aN;go_wp2;go_ret;exact ⟨Bx H.out.symm,Bv B1 b2⟩
       ·have S:=step (Pz aB (fun h=>absurd h q3) (fun _=>q6));clear q3 q5 step;go_wp2;refine Bz Bm Bm ?_;repeat (go_big_quiet_step ((go_at_call 90;exact Dy (fun u=>Cl _ _ _ u.1))))
        refine Al ?_;rintro _ ⟨⟨w2,b2⟩,rfl⟩;clear aN;go_wp2;first
         | exact ⟨⟨t+1,Bl,by go_num,S,Bv hb b2⟩,clM⟩
         | (refine ⟨?_,clM⟩;(repeat apply Exists.intro);refine ⟨?_,clR⟩;exact ⟨t+1,Bl,by go_num,S,Bv hb b2⟩)
      ·have q5':(r.tasks[t].state == 3)=false:=beq_eq_false_iff_ne.2 q5;have S:=step (Pz aB (fun h=>absurd h q3) (fun h=>absurd h q5));clear q3 q5 step;go_wp2;refine Bz Bm Bm ?_;repeat (go_big_quiet_step ((go_at_call 90;exact Dy (fun u=>Cl _ _ _ u.1))))
       refine Al ?_;rintro _ ⟨⟨w2,b2⟩,rfl⟩;clear aN;go_wp2;first
        | exact ⟨⟨t+1,Bl,by go_num,S,Bv hb b2⟩,clM⟩
        | (refine ⟨?_,clM⟩;(repeat apply Exists.intro);refine ⟨?_,clR⟩;exact ⟨t+1,Bl,by go_num,S,Bv hb b2⟩)
  ·have aC:¬ (t:Int)<(r.tasks.length:Int):=Bl;have H:=Bq (Ds (show K0 y.now r es from fun t' eI=>aY.out t' Bl));have R1:=R.below hb;have qV:wr.cell? ⟨w+1,7,Ac⟩=Ad (Aa A5 r.tasks.length c5):=R1.cell 7 _ rfl;have vH:=R1.lt;go_wp2;go_ret;exact ⟨Bx H.out.symm,Bv B0 hb⟩
theorem Tb (w:World):∀ l:List Entry,Ows Ch w [] (l.map fun x=>(x,()))
 | []=>.nil
 | x :: l=>by
  have:=Ows.cons (d:=Ch) (w:=w) (F:=[]) (r:=(x,())) rfl (Tb w l)
  exact this
theorem Ib {w:World} {E:TypeId} {base:Nat} {v:Value} {l:List Entry} (h:Ow Cw E w base v l):∃ (s:Sl) (F:List Nat),v = Aa s.a s.n s.c/\OwL Ch w F s.v l /\ ∀ b∈F,base<=b:=by
 obtain ⟨h1,h2⟩:=Hw.of_ow h;obtain ⟨⟨A,c,hv,hc,hA⟩,hF,hf⟩:=id h1;subst hv;refine ⟨⟨A,l.length,c⟩,_,rfl,⟨l.map fun x=>(x,()),Ei (Aa A l.length c) l.length,[],by rw [List.map_map];exact List.map_id _,⟨⟨A,c,by rw [Au],by rw [Au];exact hc,fun hl=>?_⟩,by rw [Au],hf⟩,Tb w l,(List.append_nil _).symm,h1.nodup⟩,h2⟩;rw [Au] at hl;obtain ⟨b,o,h3,h4,h5⟩:=hA hl;refine ⟨b,o,h3,h4,fun k hk j u hu=>?_⟩;rw [List.getElem_map] at hu;exact h5 k (by rw [Au] at hk;exact hk) j u hu
def Fz:Enc Task:={ cells:=fun x=>[J Ab x.state,J Ab x.need,J Ab x.try_,J Ab x.until_],sz:=4,len:=fun _=>rfl,one:=fun _ u hu=>by simp at hu;rcases hu with rfl | rfl | rfl | rfl<;>rfl }
theorem Vm {w:World} {B:Nat} {v:Value} {l:List Task} (h:RdL Eu w B v l):Rd Fz w B v l:=by
 obtain ⟨rs,rfl,⟨A,c,rfl,hc,hA⟩,_⟩:=h;refine ⟨A,c,by rw [Au],by rw [Au];exact hc,fun hl=>?_⟩;rw [Au] at hl;obtain ⟨b,o,h1,h2,h3⟩:=hA hl;refine ⟨b,o,h1,h2,fun k hk j u hu=>?_⟩;rw [List.getElem_map] at hu;exact h3 k (by rw [Au] at hk;exact hk) j u hu
theorem Wl (w:World):∀ l:List Task,Ows Eu w [] (l.map fun x=>(x,()))
 | []=>.nil
 | x :: l=>by
  have:=Ows.cons (d:=Eu) (w:=w) (F:=[]) (r:=(x,())) rfl (Wl w l)
  exact this
theorem Vn {w:World} {E:TypeId} {base:Nat} {v:Value} {l:List Task} (h:Ow Fz E w base v l):∃ (s:Sl) (F:List Nat),v = Aa s.a s.n s.c/\OwL Eu w F s.v l /\ ∀ b∈F,base<=b:=by
 obtain ⟨h1,h2⟩:=Hw.of_ow h;obtain ⟨⟨A,c,hv,hc,hA⟩,hF,hf⟩:=id h1;subst hv;refine ⟨⟨A,l.length,c⟩,_,rfl,⟨l.map fun x=>(x,()),Ei (Aa A l.length c) l.length,[],by rw [List.map_map];exact List.map_id _,⟨⟨A,c,by rw [Au],by rw [Au];exact hc,fun hl=>?_⟩,by rw [Au],hf⟩,Wl w l,(List.append_nil _).symm,h1.nodup⟩,h2⟩;rw [Au] at hl;obtain ⟨b,o,h3,h4,h5⟩:=hA hl;refine ⟨b,o,h3,h4,fun k hk j u hu=>?_⟩;rw [List.getElem_map] at hu;exact h5 k (by rw [Au] at hk;exact hk) j u hu
theorem P4:(An.info? 203).map (fun i=>(i.zero,i.size,i.bytes))=Ad (Ad (.agg #[J Ab 0,J Ab 0,J Ab 0,J Ab 0]),4,32):=Bm
theorem Jz (l:List Entry) (s:Sl) (w:World) (hl:l.length<=2000000) (h:RdL Ch w w s.v l) :
  Calls An 145 #[Aa s.a s.n s.c] w (Fa (Dt.list Ch) slV l w):=by
 obtain ⟨A,n,c⟩:=s;obtain rfl:n=l.length:=RdL.at1 (s:=⟨A,n,c⟩) h;obtain ⟨i0,aQ,aW,aU,aR⟩:=info_parts Gi;go_enter func145,ntmps145;go_wp2_with (at_builtin;refine Cj _ Cw Bp rfl (.const (Aa Ac 0 0)) (.tmp 3) rfl underlying74 aQ aW aU aR rfl (v:=Aa Ac 0 0) (l:=[]) rfl (Ow.nil Cw 71 _ w) rfl (J3 h) Bn Bl Bp (Bs _) ?_;intro v1 w1 o1 g1 _;rw [List.nil_append] at o1)
 obtain ⟨s1,F1,rfl,o2,n2⟩:=Ib o1;go_ret;exact ⟨s1,F1,rfl,o2,n2,(Br w w).grown g1 (Bs _) (fun g hg=>by cases hg)⟩
theorem Ol (r:Run) (s:Sl×Sl) (w:World) (hl:Dc r<=2000000) (h:Cn.rd w w r s) :
  Calls An 146 #[Hx r s] w (Fa Cn Hx r w):=by
 obtain ⟨⟨A1,n1,c1⟩,⟨A2,n2,c2⟩⟩:=s;obtain rfl:n2=r.tasks.length:=RdL.at1 (s:=⟨A2,n2,c2⟩) h.2;have h1:Ck.rd w w r.plan ⟨A1,n1,c1⟩:=h.1;have h2:Rd Fz w w (Aa A2 r.tasks.length c2) r.tasks:=Vm h.2;have jZ:Hi r.plan<=2000000:=by unfold Dc at hl;omega
 have eS:r.tasks.length<=2000000:=Ai (Cv Ix _) (by unfold Dc at hl;omega);clear h hl;obtain ⟨W,aG,X,Z,B0⟩:=bx2 w 67 [J Ab r.id,J Ab r.plan.prio,J Ab r.plan.most,J Ab r.plan.wait,J Ab r.plan.tasks,Aa A1 n1 c1,J Ab r.state,Aa A2 r.tasks.length c2] 67 [J Ab 0,J Ab 0,J Ab 0,J Ab 0,J Ab 0,Aa Ac 0 0,J Ab 0,Aa Ac 0 0];obtain ⟨i0,aQ,aW,aU,aR⟩:=info_parts P4;go_enter func146,ntmps146;go_wp2_with fail
 rw [<-aG.out];clear aG;refine (Nj r.plan ⟨A1,n1,c1⟩ W jZ (Ck.rd_more (Ck.rd_below h1 B0) B0.size)).mono ?_;rintro e w0 ⟨⟨A3,n3,c3⟩,F0,rfl,o0,n0,b0⟩;have hW:w.heap.size+2<=W.heap.size:=Z.lt;replace X:=X.below b0;replace Z:=Z.below b0;replace B0:=Bv B0 b0;obtain ⟨X_0,X_1,X_2,X_3,X_4,X_5,X_6,X_7,X_l⟩:=X.g8;obtain ⟨Z_0,Z_1,Z_2,Z_3,Z_4,Z_5,Z_6,Z_7,Z_l⟩:=Z.g8;have X_f:=X.free;have Z_f:=Z.free;have uN:w.heap.size∉F0:=fun hm=>by have:=n0 _ hm;omega
 have X1:DBox w [J Ab r.id,J Ab r.plan.prio,J Ab r.plan.most,J Ab r.plan.wait,J Ab r.plan.tasks,Aa A3 n3 c3,J Ab r.state,Aa A2 r.tasks.length c2] (((((w0.setCell ⟨w,1,Ac⟩ (J Ab r.plan.prio)).setCell ⟨w,2,Ac⟩ (J Ab r.plan.most)).setCell ⟨w,3,Ac⟩ (J Ab r.plan.wait)).setCell ⟨w,4,Ac⟩ (J Ab r.plan.tasks)).setCell ⟨w,5,Ac⟩ (Aa A3 n3 c3)):=((((X.set 1 Bn (J Ab r.plan.prio)).set 2 Bn (J Ab r.plan.most)).set 3 Bn (J Ab r.plan.wait)).set 4 Bn (J Ab r.plan.tasks)).set 5 Bn (Aa A3 n3 c3);have Z1:=((((Z.setOther (a:=⟨w,1,Ac⟩) Bn (J Ab r.plan.prio)).setOther (a:=⟨w,2,Ac⟩) Bn (J Ab r.plan.most)).setOther (a:=⟨w,3,Ac⟩) Bn (J Ab r.plan.wait)).setOther (a:=⟨w,4,Ac⟩) Bn (J Ab r.plan.tasks)).setOther (a:=⟨w,5,Ac⟩) Bn (Aa A3 n3 c3);have o1:Ck.ow (((((w0.setCell ⟨w,1,Ac⟩ (J Ab r.plan.prio)).setCell ⟨w,2,Ac⟩ (J Ab r.plan.most)).setCell ⟨w,3,Ac⟩ (J Ab r.plan.wait)).setCell ⟨w,4,Ac⟩ (J Ab r.plan.tasks)).setCell ⟨w,5,Ac⟩ (Aa A3 n3 c3)) F0 r.plan ⟨A3,n3,c3⟩:=by repeat (first | (with_reducible exact o0) | refine Dt.ow_set Ck ?_ uN _)
 have B1:Below w w (((((w0.setCell ⟨w,1,Ac⟩ (J Ab r.plan.prio)).setCell ⟨w,2,Ac⟩ (J Ab r.plan.most)).setCell ⟨w,3,Ac⟩ (J Ab r.plan.wait)).setCell ⟨w,4,Ac⟩ (J Ab r.plan.tasks)).setCell ⟨w,5,Ac⟩ (Aa A3 n3 c3)):=by repeat (first | (with_reducible exact B0) | refine Ae ?_ Bn _)
 have HZ3:=Bq (show (((((w0.setCell ⟨w,1,Ac⟩ (J Ab r.plan.prio)).setCell ⟨w,2,Ac⟩ (J Ab r.plan.most)).setCell ⟨w,3,Ac⟩ (J Ab r.plan.wait)).setCell ⟨w,4,Ac⟩ (J Ab r.plan.tasks)).setCell ⟨w,5,Ac⟩ (Aa A3 n3 c3)).heap.size=w0.heap.size by simp);go_wp2_with (at_builtin;generalize pW:(((((w0.setCell ⟨w,1,Ac⟩ (J Ab r.plan.prio)).setCell ⟨w,2,Ac⟩ (J Ab r.plan.most)).setCell ⟨w,3,Ac⟩ (J Ab r.plan.wait)).setCell ⟨w,4,Ac⟩ (J Ab r.plan.tasks)).setCell ⟨w,5,Ac⟩ (Aa A3 n3 c3))=W3 at *;clear pW X_0 X_1 X_2 X_3 X_4 X_5 X_6 X_7 X_l X_f Z_0 Z_1 Z_2 Z_3 Z_4 Z_5 Z_6 Z_7 Z_l Z_f X Z o0;have gF:=(Br W3 W3);refine Cj _ Fz Bp rfl (.const (Aa Ac 0 0)) (.tmp 8) rfl underlying65 aQ aW aU aR rfl (v:=(Aa Ac 0 0)) (l:=[]) rfl (Ow.nil Fz 203 _ w0) rfl ((h2.below (Bv B1 gF)).more (Bv B1 gF).size) Bn Bl Bp (by have:=gF.size;have:=HZ3.out;omega) ?_;intro v1 w1 o5 g1 f1;rw [List.nil_append] at o5;have B31:Below W3 W3 w1:=gF.grown g1 gF.size (fun g hg=>by have:=HZ3.out;simp [Value.ownBlock] at hg<;>omega);clear f1 g1;obtain ⟨⟨A5,n5,c5⟩,F5,rfl,o6,n6⟩:=Vn o5;replace X1:=X1.below B31;replace Z1:=Z1.below B31;have y0:=X1.cell 0 _ rfl;have y1:=X1.cell 1 _ rfl;have y2:=X1.cell 2 _ rfl;have y3:=X1.cell 3 _ rfl;have y4:=X1.cell 4 _ rfl;have y5:=X1.cell 5 _ rfl;have y6:=X1.cell 6 _ rfl;have y7:=X1.cell 7 _ rfl;have yf:=X1.free;have yl:=X1.lt;have z0:=Z1.cell 0 _ rfl;have z1:=Z1.cell 1 _ rfl;have z2:=Z1.cell 2 _ rfl;have z3:=Z1.cell 3 _ rfl;have z4:=Z1.cell 4 _ rfl;have z5:=Z1.cell 5 _ rfl;have z6:=Z1.cell 6 _ rfl;have z7:=Z1.cell 7 _ rfl;have zf:=Z1.free;have zl:=Z1.lt)
 have B2:=Bv B1 B31;have o7:=Ck.ow_below o1 B31;have tW:=HZ3.out;have dJ:=b0.size;have l0:∀ b∈F0,b<w0:=fun b hb=>by have:=Ck.ow_lt o1 b hb;omega
 refine bodyPost_ret (v:=Hx r (⟨A3,n3,c3⟩,⟨A5,n5,c5⟩)) ?_ rfl ?_
 ·simp [Hx,results,results146,go_sem,z0,z1,z2,z3,z4,z5,z6,z7]
 ·refine ⟨(⟨A3,n3,c3⟩,⟨A5,n5,c5⟩),F0 ++ F5,rfl,⟨F0,F5,rfl,?_,?_,?_⟩,?_,?_⟩
  ·rw [Ay];refine ⟨Ck.ow_nodup o1,o6.nodup,fun u hu u' hu' e=>?_⟩
   have:=l0 u hu
   have:=n6 u' hu'
   omega
  ·have fP:w.heap.size+1∉F0:=fun hm=>by have:=n0 _ hm;omega
   repeat (first | (with_reducible exact o7) | refine Dt.ow_set Ck ?_ (by first | exact uN | exact fP) _)
  ·have pN:w.heap.size∉F5:=fun hm=>by have:=n6 _ hm;omega
   have fP:w.heap.size+1∉F5:=fun hm=>by have:=n6 _ hm;omega
   show OwL Eu _ F5 (Aa A5 n5 c5) r.tasks;repeat (first | (with_reducible exact o6) | refine OwL.set ?_ (by first | exact pN | exact fP) _)
  ·intro b hb;rcases Bi.1 hb with hb | hb
   ·have:=n0 b hb;omega
   ·have:=n6 b hb;omega
  ·repeat (first | (with_reducible exact B2) | refine Ae ?_ (by first | (simp;done) | (simp;omega)) _)
theorem I4 (r:Run) (s:Sl×Sl) (w:World) (hl:Dc r<=2000000) (h:Cn.rd w w r s) :
  Calls An 175 #[Hx r s] w (Fa Cn Hx r w):=by
 obtain ⟨⟨A1,n1,c1⟩,⟨A2,n2,c2⟩⟩:=s;obtain rfl:n2=r.tasks.length:=RdL.at1 (s:=⟨A2,n2,c2⟩) h.2;have h1:Ck.rd w w r.plan ⟨A1,n1,c1⟩:=h.1;have h2:Rd Fz w w (Aa A2 r.tasks.length c2) r.tasks:=Vm h.2;have jZ:Hi r.plan<=2000000:=by unfold Dc at hl;omega
 have eS:r.tasks.length<=2000000:=Ai (Cv Ix _) (by unfold Dc at hl;omega);clear h hl;obtain ⟨W,aG,X,Z,B0⟩:=bx2 w 67 [J Ab r.id,J Ab r.plan.prio,J Ab r.plan.most,J Ab r.plan.wait,J Ab r.plan.tasks,Aa A1 n1 c1,J Ab r.state,Aa A2 r.tasks.length c2] 67 [J Ab 0,J Ab 0,J Ab 0,J Ab 0,J Ab 0,Aa Ac 0 0,J Ab 0,Aa Ac 0 0];obtain ⟨i0,aQ,aW,aU,aR⟩:=info_parts P4;go_enter func175,ntmps175;go_wp2_with fail
 rw [<-aG.out];clear aG;refine (Nk r.plan ⟨A1,n1,c1⟩ W jZ (Ck.rd_more (Ck.rd_below h1 B0) B0.size)).mono ?_;rintro e w0 ⟨⟨A3,n3,c3⟩,F0,rfl,o0,n0,b0⟩;have hW:w.heap.size+2<=W.heap.size:=Z.lt;replace X:=X.below b0;replace Z:=Z.below b0;replace B0:=Bv B0 b0;obtain ⟨X_0,X_1,X_2,X_3,X_4,X_5,X_6,X_7,X_l⟩:=X.g8;obtain ⟨Z_0,Z_1,Z_2,Z_3,Z_4,Z_5,Z_6,Z_7,Z_l⟩:=Z.g8;have X_f:=X.free;have Z_f:=Z.free;have uN:w.heap.size∉F0:=fun hm=>by have:=n0 _ hm;omega
 have X1:DBox w [J Ab r.id,J Ab r.plan.prio,J Ab r.plan.most,J Ab r.plan.wait,J Ab r.plan.tasks,Aa A3 n3 c3,J Ab r.state,Aa A2 r.tasks.length c2] (((((w0.setCell ⟨w,1,Ac⟩ (J Ab r.plan.prio)).setCell ⟨w,2,Ac⟩ (J Ab r.plan.most)).setCell ⟨w,3,Ac⟩ (J Ab r.plan.wait)).setCell ⟨w,4,Ac⟩ (J Ab r.plan.tasks)).setCell ⟨w,5,Ac⟩ (Aa A3 n3 c3)):=((((X.set 1 Bn (J Ab r.plan.prio)).set 2 Bn (J Ab r.plan.most)).set 3 Bn (J Ab r.plan.wait)).set 4 Bn (J Ab r.plan.tasks)).set 5 Bn (Aa A3 n3 c3);have Z1:=((((Z.setOther (a:=⟨w,1,Ac⟩) Bn (J Ab r.plan.prio)).setOther (a:=⟨w,2,Ac⟩) Bn (J Ab r.plan.most)).setOther (a:=⟨w,3,Ac⟩) Bn (J Ab r.plan.wait)).setOther (a:=⟨w,4,Ac⟩) Bn (J Ab r.plan.tasks)).setOther (a:=⟨w,5,Ac⟩) Bn (Aa A3 n3 c3);have o1:Ck.ow (((((w0.setCell ⟨w,1,Ac⟩ (J Ab r.plan.prio)).setCell ⟨w,2,Ac⟩ (J Ab r.plan.most)).setCell ⟨w,3,Ac⟩ (J Ab r.plan.wait)).setCell ⟨w,4,Ac⟩ (J Ab r.plan.tasks)).setCell ⟨w,5,Ac⟩ (Aa A3 n3 c3)) F0 r.plan ⟨A3,n3,c3⟩:=by repeat (first | (with_reducible exact o0) | refine Dt.ow_set Ck ?_ uN _)
 have B1:Below w w (((((w0.setCell ⟨w,1,Ac⟩ (J Ab r.plan.prio)).setCell ⟨w,2,Ac⟩ (J Ab r.plan.most)).setCell ⟨w,3,Ac⟩ (J Ab r.plan.wait)).setCell ⟨w,4,Ac⟩ (J Ab r.plan.tasks)).setCell ⟨w,5,Ac⟩ (Aa A3 n3 c3)):=by repeat (first | (with_reducible exact B0) | refine Ae ?_ Bn _)
 have HZ3:=Bq (show (((((w0.setCell ⟨w,1,Ac⟩ (J Ab r.plan.prio)).setCell ⟨w,2,Ac⟩ (J Ab r.plan.most)).setCell ⟨w,3,Ac⟩ (J Ab r.plan.wait)).setCell ⟨w,4,Ac⟩ (J Ab r.plan.tasks)).setCell ⟨w,5,Ac⟩ (Aa A3 n3 c3)).heap.size=w0.heap.size by simp);go_wp2_with (at_builtin;generalize pW:(((((w0.setCell ⟨w,1,Ac⟩ (J Ab r.plan.prio)).setCell ⟨w,2,Ac⟩ (J Ab r.plan.most)).setCell ⟨w,3,Ac⟩ (J Ab r.plan.wait)).setCell ⟨w,4,Ac⟩ (J Ab r.plan.tasks)).setCell ⟨w,5,Ac⟩ (Aa A3 n3 c3))=W3 at *;clear pW X_0 X_1 X_2 X_3 X_4 X_5 X_6 X_7 X_l X_f Z_0 Z_1 Z_2 Z_3 Z_4 Z_5 Z_6 Z_7 Z_l Z_f X Z o0;have gF:=((Br W3 W3).alloc (Bs _) (.cells #[] 203));refine Cj _ Fz Bp rfl (.tmp 7) (.tmp 9) rfl underlying65 aQ aW aU aR rfl (v:=(Aa (Ad ⟨w0,0,Ac⟩) 0 0)) (l:=[]) rfl (Ow.empty Fz 203 W3 HZ3.out.symm) rfl ((h2.below (Bv B1 gF)).more (Bv B1 gF).size) Bn Bl Bp (by have:=gF.size;have:=HZ3.out;omega) ?_;intro v1 w1 o5 g1 f1;rw [List.nil_append] at o5;have B31:Below W3 W3 w1:=gF.grown g1 gF.size (fun g hg=>by have:=HZ3.out;simp [Value.ownBlock] at hg<;>omega);clear f1 g1;obtain ⟨⟨A5,n5,c5⟩,F5,rfl,o6,n6⟩:=Vn o5;replace X1:=X1.below B31;replace Z1:=Z1.below B31;have y0:=X1.cell 0 _ rfl;have y1:=X1.cell 1 _ rfl;have y2:=X1.cell 2 _ rfl;have y3:=X1.cell 3 _ rfl;have y4:=X1.cell 4 _ rfl;have y5:=X1.cell 5 _ rfl;have y6:=X1.cell 6 _ rfl;have y7:=X1.cell 7 _ rfl;have yf:=X1.free;have yl:=X1.lt;have z0:=Z1.cell 0 _ rfl;have z1:=Z1.cell 1 _ rfl;have z2:=Z1.cell 2 _ rfl;have z3:=Z1.cell 3 _ rfl;have z4:=Z1.cell 4 _ rfl;have z5:=Z1.cell 5 _ rfl;have z6:=Z1.cell 6 _ rfl;have z7:=Z1.cell 7 _ rfl;have zf:=Z1.free;have zl:=Z1.lt)
 have B2:=Bv B1 B31;have o7:=Ck.ow_below o1 B31;have tW:=HZ3.out;have dJ:=b0.size;have l0:∀ b∈F0,b<w0:=fun b hb=>by have:=Ck.ow_lt o1 b hb;omega
 refine bodyPost_ret (v:=Hx r (⟨A3,n3,c3⟩,⟨A5,n5,c5⟩)) ?_ rfl ?_
 ·simp [Hx,results,results175,go_sem,z0,z1,z2,z3,z4,z5,z6,z7]
 ·refine ⟨(⟨A3,n3,c3⟩,⟨A5,n5,c5⟩),F0 ++ F5,rfl,⟨F0,F5,rfl,?_,?_,?_⟩,?_,?_⟩
  ·rw [Ay];refine ⟨Ck.ow_nodup o1,o6.nodup,fun u hu u' hu' e=>?_⟩
   have:=l0 u hu
   have:=n6 u' hu'
   omega
  ·have fP:w.heap.size+1∉F0:=fun hm=>by have:=n0 _ hm;omega
   repeat (first | (with_reducible exact o7) | refine Dt.ow_set Ck ?_ (by first | exact uN | exact fP) _)
  ·have pN:w.heap.size∉F5:=fun hm=>by have:=n6 _ hm;omega
   have fP:w.heap.size+1∉F5:=fun hm=>by have:=n6 _ hm;omega
   show OwL Eu _ F5 (Aa A5 n5 c5) r.tasks;repeat (first | (with_reducible exact o6) | refine OwL.set ?_ (by first | exact pN | exact fP) _)
  ·intro b hb;rcases Bi.1 hb with hb | hb
   ·have:=n0 b hb;omega
   ·have:=n6 b hb;omega
  ·repeat (first | (with_reducible exact B2) | refine Ae ?_ (by first | (simp;done) | (simp;omega)) _)
def Fi (n:Int):Bool:=inB n 0 1000000000
def Ez (p:Plan):Bool:=Fi p.prio && Fi p.most && Fi p.wait && Fi p.tasks && decide (p.edges.length<=31) && p.edges.all fun e=>Fi e.fr && Fi e.to
def Fq (p:Plan):Bool:=p.prio == 0 && p.most == 0 && p.wait == 0 && p.tasks == 0 && p.edges.length == 0
def Dq (d:Deed):Bool :=
 inB d.kind 1 8 &&
 (if d.kind=2\/d.kind=5\/d.kind=8 then d.run == 0 else Fi d.run) &&
 (if d.kind=3\/d.kind=4 then Fi d.task && Fi d.try_ else d.task == 0 && d.try_ == 0) &&
 (if d.kind=2 then Fi d.worker && Fi d.draw else d.worker == 0 && d.draw == 0) &&
 (if d.kind=1 then Ez d.plan else Fq d.plan)
theorem Hr (p:Plan) (s:Sl) (w:World) (h:Ck.rd w w p s) :
  Calls An 163 #[Ni p s] w fun e w'=>e = .returned (.bool (Fq p))/\Below w w w':=by
 obtain ⟨A,n,c⟩:=s;obtain rfl:n=p.edges.length:=RdL.at1 (s:=⟨A,n,c⟩) h;have X:=DBox.new 43 [J Ab p.prio,J Ab p.most,J Ab p.wait,J Ab p.tasks,Aa A p.edges.length c] w (b:=w) rfl;have B0:Below w w (w.alloc (.cells #[J Ab p.prio,J Ab p.most,J Ab p.wait,J Ab p.tasks,Aa A p.edges.length c] 43)):=by repeat (first | exact Br _ _ | refine Af ?_ Bo _)
 have H:=Bq (show Fq p=(p.prio == 0 && p.most == 0 && p.wait == 0 && p.tasks == 0 && p.edges.length == 0) from rfl);by_cases a0:p.prio=0;case neg =>
  have b0:(p.prio == 0)=false:=by simpa using a0
  go_enter func163,ntmps163;go_wp2;go_ret;exact ⟨Bx (by rw [H.out];simp [b0]),B0⟩
 have b0:(p.prio == 0)=true:=by simpa using a0
 clear a0;by_cases a1:p.most=0;case neg =>
  have b1:(p.most == 0)=false:=by simpa using a1
  go_enter func163,ntmps163;go_wp2;go_ret;exact ⟨Bx (by rw [H.out];simp [b0,b1]),B0⟩
 have b1:(p.most == 0)=true:=by simpa using a1
 clear a1;by_cases a2:p.wait=0;case neg =>
  have b2:(p.wait == 0)=false:=by simpa using a2
  go_enter func163,ntmps163;go_wp2;go_ret;exact ⟨Bx (by rw [H.out];simp [b0,b1,b2]),B0⟩
 have b2:(p.wait == 0)=true:=by simpa using a2
 clear a2;by_cases a3:p.tasks=0;case neg =>
  have b3:(p.tasks == 0)=false:=by simpa using a3
  go_enter func163,ntmps163;go_wp2;go_ret;exact ⟨Bx (by rw [H.out];simp [b0,b1,b2,b3]),B0⟩
 have b3:(p.tasks == 0)=true:=by simpa using a3
 clear a3;by_cases a4:p.edges.length=0;case neg =>
  have b4:((p.edges.length:Int) == 0)=false:=by rw [beq_eq_false_iff_ne];omega
  have b5:(p.edges.length == 0)=false:=by rw [beq_eq_false_iff_ne];exact a4
  go_enter func163,ntmps163;go_wp2;go_ret;exact ⟨Bx (by rw [H.out];simp [b0,b1,b2,b3,b5]),B0⟩
 have b4:((p.edges.length:Int) == 0)=true:=by rw [beq_iff_eq];omega
 have b5:(p.edges.length == 0)=true:=by rw [beq_iff_eq];exact a4
 clear a4;go_enter func163,ntmps163;go_wp2;go_ret;exact ⟨Bx (by rw [H.out];simp [b0,b1,b2,b3,b5]),B0⟩
theorem Aho {α:Type} {f:α->Bool} {l:List α} {k:Nat} (h:k<l.length) (hn:f l[k]=false):l.all f=false:=by
 rw [List.all_eq_false];exact ⟨l[k],Ax h,by simp [hn]⟩
theorem T7 {p:Plan} {k:Nat} (h:k<p.edges.length) (hn:(Fi p.edges[k].fr && Fi p.edges[k].to)=false):Ez p=false:=by
 unfold Ez;rw [Aho h hn,Bool.and_false]
theorem U6 (p:Plan) (s:Sl) (w:World) (h:Ck.rd w w p s) :
  Calls An 162 #[Ni p s] w fun e w'=>e = .returned (.bool (Ez p))/\Below w w w':=by
 obtain ⟨A,n,c⟩:=s;obtain rfl:n=p.edges.length:=RdL.at1 (s:=⟨A,n,c⟩) h;have h2:Rd Gd w w (Aa A p.edges.length c) p.edges:=Ja h;clear h;have X:=DBox.new 43 [J Ab p.prio,J Ab p.most,J Ab p.wait,J Ab p.tasks,Aa A p.edges.length c] w (b:=w) rfl;have B0:Below w w (w.alloc (.cells #[J Ab p.prio,J Ab p.most,J Ab p.wait,J Ab p.tasks,Aa A p.edges.length c] 43)):=by repeat (first | exact Br _ _ | refine Af ?_ Bo _)
 cases b0:inB p.prio 0 1000000000;case false =>
  have H:=Bq (show Ez p=false by simp [Ez,Fi,b0]);go_enter func162,ntmps162;go_wp2_with (go_at_call 161;refine (Cu _ _).mono ?_;rintro e w9 ⟨rfl,rfl⟩)
  go_ret;exact ⟨Bx H.out.symm,B0⟩
 cases b1:inB p.most 0 1000000000;case false =>
  have H:=Bq (show Ez p=false by simp [Ez,Fi,b0,b1]);go_enter func162,ntmps162;go_wp2_with (go_at_call 161;refine (Cu _ _).mono ?_;rintro e w9 ⟨rfl,rfl⟩)
  go_ret;exact ⟨Bx H.out.symm,B0⟩
 cases b2:inB p.wait 0 1000000000;case false =>
  have H:=Bq (show Ez p=false by simp [Ez,Fi,b0,b1,b2]);go_enter func162,ntmps162;go_wp2_with (go_at_call 161;refine (Cu _ _).mono ?_;rintro e w9 ⟨rfl,rfl⟩)
  go_ret;exact ⟨Bx H.out.symm,B0⟩
 cases b3:inB p.tasks 0 1000000000;case false =>
  have H:=Bq (show Ez p=false by simp [Ez,Fi,b0,b1,b2,b3]);go_enter func162,ntmps162;go_wp2_with (go_at_call 161;refine (Cu _ _).mono ?_;rintro e w9 ⟨rfl,rfl⟩)
  go_ret;exact ⟨Bx H.out.symm,B0⟩
 by_cases a4:p.edges.length<=31;case neg =>
  have b4:(31:Int)<(p.edges.length:Int):=Bl;have H:=Bq (show Ez p=false by simp [Ez,a4]);go_enter func162,ntmps162;go_wp2_with (go_at_call 161;refine (Cu _ _).mono ?_;rintro e w9 ⟨rfl,rfl⟩)
  go_ret;exact ⟨Bx H.out.symm,B0⟩
 have b4:¬ (31:Int)<(p.edges.length:Int):=Bl;have HN:=Bq (show Ez p=p.edges.all (fun e=>Fi e.fr && Fi e.to) by simp [Ez,Fi,b0,b1,b2,b3,a4]);go_enter func162,ntmps162;go_wp2_with (go_at_call 161;refine (Cu _ _).mono ?_;rintro e w9 ⟨rfl,rfl⟩)
 generalize (w.alloc (.cells #[J Ab p.prio,J Ab p.most,J Ab p.wait,J Ab p.tasks,Aa A p.edges.length c] 43))=W at *
 clear b0 b1 b2 b3;go_loopw [3] (fun i wr=>∃ k:Nat,k<=p.edges.length/\i = J Ab k/\Hid ((p.edges.take k).all (fun e=>Fi e.fr && Fi e.to)=true)/\DBox w [J Ab p.prio,J Ab p.most,J Ab p.wait,J Ab p.tasks,Aa A p.edges.length c] wr/\Below w w wr) (fun i _=>p.edges.length - (intOf i).toNat);case atStart=>exact ⟨0,Ah _,rfl,rfl,X,B0⟩
 case round =>
  clear X B0;obtain ⟨k,hk,rfl,hA,X,hb⟩:=hrel;obtain ⟨X_0,X_1,X_2,X_3,X_4,X_l⟩:=X.g5;by_cases aB:k<p.edges.length
  ·have aC:(k:Int)<(p.edges.length:Int):=Bl;obtain ⟨b,o,rfl,aH,d0,d1⟩:=(h2.below hb).edge aB;cases q0:inB p.edges[k].fr 0 1000000000
   ·have H:=Bq (T7 aB (by simp [Fi,q0]));go_wp2_with (go_at_call 161;refine (Cu _ _).mono ?_;rintro e w9 ⟨rfl,rfl⟩)
    go_ret;exact ⟨Bx H.out.symm,hb⟩
   cases q1:inB p.edges[k].to 0 1000000000
   ·have H:=Bq (T7 aB (by simp [Fi,q1]));go_wp2_with (go_at_call 161;refine (Cu _ _).mono ?_;rintro e w9 ⟨rfl,rfl⟩)
    go_ret;exact ⟨Bx H.out.symm,hb⟩
   have S:Hid ((p.edges.take (k+1)).all (fun e=>Fi e.fr && Fi e.to)=true):=by
    show _=_;rw [List.take_succ_eq_append_getElem aB,List.all_append,hA.out];simp [Fi,q0,q1]
   go_wp2_with (go_at_call 161;refine (Cu _ _).mono ?_;rintro e w9 ⟨rfl,rfl⟩)
   exact ⟨⟨k+1,Bl,by go_num,S,X,hb⟩,clM⟩
  ·have H:=Bq (show Ez p=true by
    have:=hA.out
    rw [List.take_of_length_le Bl] at this;rw [HN.out,this])
   have aC:¬ (k:Int)<(p.edges.length:Int):=Bl;go_wp2;go_ret;exact ⟨Bx H.out.symm,hb⟩
theorem Aar (s k:Int) (hk:k≠0):decide (s=k/\s≠0)=(s == k):=by
 by_cases h:s=k
 ·subst h;simp [hk]
 ·simp [h]
theorem Aas (s:Int):decide (s=0/\s≠0)=false:=Bn
theorem Ace {r:Run} (h1:inB r.id 1 9999=true) (h2:Cr r.plan=0) (h3:(r.tasks.length:Int)=r.plan.tasks) (h4:∀ t,t<r.tasks.length->Gz r t) :
  tf (Gr r)=decide (r.state=stL r.tasks/\r.state≠0):=by
 rw [Bool.eq_iff_iff,Ll,decide_eq_true_eq];unfold Gr;exact ⟨fun h=>h.2.2.2.2,fun h=>⟨Ct.1 h1,h2,h3,h4,h⟩⟩
theorem Acf {r:Run} (h4:∀ t,t<r.tasks.length->Gz r t):Cp r.tasks 1+Cp r.tasks 2+Cp r.tasks 3+Cp r.tasks 4+Cp r.tasks 5+Cp r.tasks 6=r.tasks.length:=by
 have:=R8 (l:=r.tasks) (fun x hx=>by
  obtain ⟨t,ht,rfl⟩:=List.getElem_of_mem hx
  have:=(h4 t ht).1
  rwa [Co ht] at this)
 unfold Km at this;exact this
theorem Hn (r:Run) (s:Sl×Sl) (st:Int) (w:World) (hl:r.tasks.length<=2000000) (h:Cn.rd w w r s) :
  Calls An 79 #[Hx r s,J Ab st] w fun e w'=>∃ A c,e = .returned (Aa A (Cp r.tasks st) c)/\Below w w w' :=
 (I2 r s st w hl h).mono fun e w' ⟨v,he,ho,hb⟩=>by
  obtain ⟨A,c,hv,-⟩:=id (Rd.of_own ho);rw [T0] at hv;exact ⟨A,c,by rw [he,hv],hb⟩
theorem Qo (r:Run) (s:Sl×Sl) (w:World) (hl:Dc r<=2000000) (h:Cn.rd w w r s) :
  Calls An 142 #[Hx r s] w fun e w'=>e = .returned (.bool (tf (Gr r)))/\Below w w w':=by
 have HR:=Bq (show ∀ W,Below w w W->Cn.rd W W r s from fun W hW=>Cn.rd_more (Cn.rd_below h hW) hW.size);obtain ⟨⟨A1,n1,c1⟩,⟨A2,n2,c2⟩⟩:=s;obtain rfl:n2=r.tasks.length:=RdL.at1 (s:=⟨A2,n2,c2⟩) h.2;have h1:Rd Gd w w (Aa A1 n1 c1) r.plan.edges:=Ja h.1;have jZ:r.plan.edges.length<=2000000:=Ai (Cv Nx _) (by unfold Dc Hi at hl;omega);have eS:r.tasks.length<=2000000:=Ai (Cv Ix _) (by unfold Dc at hl;omega);clear h hl;have X:=DBox.new 67 [J Ab r.id,J Ab r.plan.prio,J Ab r.plan.most,J Ab r.plan.wait,J Ab r.plan.tasks,Aa A1 n1 c1,J Ab r.state,Aa A2 r.tasks.length c2] w (b:=w) rfl;have B0:Below w w (w.alloc (.cells #[J Ab r.id,J Ab r.plan.prio,J Ab r.plan.most,J Ab r.plan.wait,J Ab r.plan.tasks,Aa A1 n1 c1,J Ab r.state,Aa A2 r.tasks.length c2] 67)):=by repeat (first | exact Br _ _ | refine Af ?_ Bo _)
 have C1:=H9 r.plan (Aa A1 n1 c1) (w.alloc (.cells #[J Ab r.id,J Ab r.plan.prio,J Ab r.plan.most,J Ab r.plan.wait,J Ab r.plan.tasks,Aa A1 n1 c1,J Ab r.state,Aa A2 r.tasks.length c2] 67)) jZ ((h1.below B0).more B0.size);cases a1:inB r.id 1 9999;case false =>
  have H:=Bq (show tf (Gr r)=false from Cm (fun h=>by have:=Ct.2 h.1;rw [a1] at this;cases this));go_enter func142,ntmps142;go_wp2_with (go_at_call 72;refine (Cq _ _ _ _).mono ?_;rintro e w' ⟨rfl,rfl⟩)
  go_ret;exact ⟨Bx H.out.symm,B0⟩
 by_cases e2:Cr r.plan=0;case neg =>
  have a2:(Cr r.plan != 0)=true:=by simp [e2]
  have H:=Bq (show tf (Gr r)=false from Cm (fun h=>e2 h.2.1));clear e2;go_enter func142,ntmps142;go_wp2_with (first | (go_at_call 72;refine (Cq _ _ _ _).mono ?_;rintro e w' ⟨rfl,rfl⟩) | (go_at_call 200;refine C1.mono ?_;rintro e w1 ⟨rfl,b1⟩;have q1:=(Zc b1).1))
  go_ret;exact ⟨Bx H.out.symm,Bv B0 b1⟩
 have E2:=Bq e2;rw [e2] at C1;clear e2;by_cases e3:(r.tasks.length:Int)=r.plan.tasks;case neg =>
  have a3:((r.tasks.length:Int) != r.plan.tasks)=true:=by simp [e3]
  have H:=Bq (show tf (Gr r)=false from Cm (fun h=>e3 h.2.2.1));clear e3;go_enter func142,ntmps142;have X_3:=X.cell 3 _ rfl;have X_4:=X.cell 4 _ rfl;have X_7:=X.cell 7 _ rfl;have X_l:=X.lt;go_wp2_with fail
  go_wp2_with (first | (go_at_call 72;refine (Cq _ _ _ _).mono ?_;rintro e w' ⟨rfl,rfl⟩) | (go_at_call 200;refine C1.mono ?_;rintro e w1 ⟨rfl,b1⟩;have q1:=fun j=>(Zc b1).1 w.heap.size j X_l))
  go_ret;exact ⟨Bx H.out.symm,Bv B0 b1⟩
 have a3:((r.tasks.length:Int) != r.plan.tasks)=false:=by simp [e3]
 have E3:=Bq e3;clear e3;have X_l:=X.lt;go_enter func142,ntmps142;go_wp2_with fail
 go_wp2_with (first | (go_at_call 72;refine (Cq _ _ _ _).mono ?_;rintro e w' ⟨rfl,rfl⟩) | (go_at_call 200;refine C1.mono ?_;rintro e w1 ⟨rfl,b1⟩;have q1:=fun j=>(Zc b1).1 w.heap.size j X_l))
 clear q1;replace X:=X.below b1;replace B0:=Bv B0 b1;clear X_l C1 b1 a3;have A1_:=Bq a1;clear a1;go_loopw [30] (fun i wr=>∃ k:Nat,k<=r.tasks.length/\i = J Ab k/\Hid (∀ t,t<k->Gz r t)/\Below w1 w1 wr) (fun i _=>r.tasks.length - (intOf i).toNat);case atStart=>exact ⟨0,Ah _,rfl,fun t ht=>absurd ht Bl,Br _ _⟩
 case round =>
  obtain ⟨k,hk,rfl,aY,hb⟩:=hrel;replace X:=X.below hb;replace B0:=Bv B0 hb;obtain ⟨X_0,X_1,X_2,X_3,X_4,X_5,X_6,X_7,X_l⟩:=X.g8;by_cases aB:k<r.tasks.length
  ·have aC:(k:Int)<(r.tasks.length:Int):=Bl;have C:=Wh r (⟨A1,n1,c1⟩,⟨A2,r.tasks.length,c2⟩) k wr E2.out E3.out aB (HR.out _ B0);by_cases tk:Gz r k
   ·have S:Hid (∀ t,t<k+1->Gz r t):=by
     intro t ht;by_cases e:t=k
     ·subst e;exact tk
     ·exact aY.out t Bl
    rw [Ds tk] at C;clear tk;go_wp2_with fail
    refine C.mono ?_;rintro e w2 ⟨rfl,b2⟩;go_wp2;exact ⟨⟨k+1,Bl,by go_num,S,Bv hb b2⟩,clM⟩
   ·have H:=Bq (show tf (Gr r)=false from Cm (fun h=>tk (h.2.2.2.1 k aB)));rw [Cm tk] at C;clear tk;go_wp2_with fail
    refine C.mono ?_;rintro e w2 ⟨rfl,b2⟩;go_wp2;go_ret;exact ⟨Bx H.out.symm,Bv B0 b2⟩
  ·have aC:¬ (k:Int)<(r.tasks.length:Int):=Bl;have bE:k=r.tasks.length:=Bl;subst bE;have HF:=Bq (Ace A1_.out E2.out E3.out aY.out);have HI:=Bq (Afh r.tasks);have HSum:=Bq (Acf aY.out);go_wp2;go_region_held3 (fun w'=>w'.cell? ⟨w,0,Ac⟩=Ad (J Ab r.id)/\w'.cell? ⟨w,1,Ac⟩=Ad (J Ab r.plan.prio)/\w'.cell? ⟨w,2,Ac⟩=Ad (J Ab r.plan.most)/\w'.cell? ⟨w,3,Ac⟩=Ad (J Ab r.plan.wait)/\w'.cell? ⟨w,4,Ac⟩=Ad (J Ab r.plan.tasks)/\w'.cell? ⟨w,5,Ac⟩=Ad (Aa A1 n1 c1)/\w'.cell? ⟨w,6,Ac⟩=Ad (J Ab r.state)/\w'.cell? ⟨w,7,Ac⟩=Ad (Aa A2 r.tasks.length c2))
    (first | (refine ⟨?_,?_,?_,?_,?_,?_,?_,?_⟩<;>first | assumption | go_keep) | go_keep)
    (first
     | (go_at_call 79;(with_reducible refine (Hn r (⟨A1,n1,c1⟩,⟨A2,r.tasks.length,c2⟩) 4 _ eS (HR.out _ B0.drew)).mono ?_);rintro e w5 ⟨A5,c5,rfl,b5⟩;have B5:=Bv B0 (Bv ((Br wr wr).drew) b5);have X5:=X.below (Bv ((Br wr wr).drew) b5);have x50:=X5.cell 0 _ rfl;have x51:=X5.cell 1 _ rfl;have x52:=X5.cell 2 _ rfl;have x53:=X5.cell 3 _ rfl;have x54:=X5.cell 4 _ rfl;have x55:=X5.cell 5 _ rfl;have x56:=X5.cell 6 _ rfl;have x57:=X5.cell 7 _ rfl;have x5l:=X5.lt)
     | (go_at_call 79;(with_reducible refine (Hn r (⟨A1,n1,c1⟩,⟨A2,r.tasks.length,c2⟩) 5 _ eS (HR.out _ B5)).mono ?_);rintro e w6 ⟨A6,c6,rfl,b6⟩;have B6:=Bv B5 b6;have X6:=X5.below b6;have x60:=X6.cell 0 _ rfl;have x61:=X6.cell 1 _ rfl;have x62:=X6.cell 2 _ rfl;have x63:=X6.cell 3 _ rfl;have x64:=X6.cell 4 _ rfl;have x65:=X6.cell 5 _ rfl;have x66:=X6.cell 6 _ rfl;have x67:=X6.cell 7 _ rfl;have x6l:=X6.lt)
     | (go_at_call 79;(with_reducible refine (Hn r (⟨A1,n1,c1⟩,⟨A2,r.tasks.length,c2⟩) 6 _ eS (HR.out _ B6)).mono ?_);rintro e w7 ⟨A7,c7,rfl,b7⟩;have B7:=Bv B6 b7;have X7:=X6.below b7;have x70:=X7.cell 0 _ rfl;have x71:=X7.cell 1 _ rfl;have x72:=X7.cell 2 _ rfl;have x73:=X7.cell 3 _ rfl;have x74:=X7.cell 4 _ rfl;have x75:=X7.cell 5 _ rfl;have x76:=X7.cell 6 _ rfl;have x77:=X7.cell 7 _ rfl;have x7l:=X7.lt))
   clear X_0 X_1 X_2 X_3 X_4 X_5 X_6 X_7 X_l x50 x51 x52 x53 x54 x55 x56 x57 x5l x60 x61 x62 x63 x64 x65 x66 x67 x6l;have fU:((Cp r.tasks 1:Nat):Int)+(Cp r.tasks 2:Nat)+(Cp r.tasks 3:Nat)+(Cp r.tasks 4:Nat)+(Cp r.tasks 5:Nat)+(Cp r.tasks 6:Nat)=r.tasks.length:=by have:=HSum.out;omega
   generalize fX:((Cp r.tasks 1:Nat):Int)=c1' at *
   generalize tR:((Cp r.tasks 2:Nat):Int)=c2' at *
   generalize sK:((Cp r.tasks 3:Nat):Int)=c3' at *
   generalize tJ:((Cp r.tasks 4:Nat):Int)=c4' at *
   generalize rL:((Cp r.tasks 5:Nat):Int)=c5' at *
   generalize hc6:((Cp r.tasks 6:Nat):Int)=c6' at *
   have m1:0<=c1':=Bl;have m2:0<=c2':=Bl;have m3:0<=c3':=Bl;have m4:0<=c4'/\c4'<=2000000:=Bl;have m5:0<=c5'/\c5'<=2000000:=Bl;have m6:0<=c6'/\c6'<=2000000:=Bl;clear fX tR sK tJ rL hc6;have HV:Hid (tf (Gr r)=decide (r.state=stI c1' c2' c3' c4' c5' c6' r.tasks.length/\r.state≠0)):=by
    show tf (Gr r)=_;rw [HF.out,HI.out]
   clear HF HI;generalize r.state=rs at *
   by_cases q1:c4'=(r.tasks.length:Int)
   ·have H:=Bq (show tf (Gr r)=(rs == 2) by rw [HV.out];unfold stI;rw [if_pos q1];exact Aar _ _ Bl);have q1':(c4' == (r.tasks.length:Int))=true:=beq_iff_eq.2 q1;clear q1 fU;go_wp2;go_ret;exact ⟨Bx H.out.symm,B7⟩
   have q1':(c4' == (r.tasks.length:Int))=false:=beq_eq_false_iff_ne.2 q1;by_cases q2:c4'+c5'+c6'=(r.tasks.length:Int)
   ·have q2':(c4'+c5'+c6' == (r.tasks.length:Int))=true:=beq_iff_eq.2 q2;have r0:c1'+c2'+c3'=0:=Bl;by_cases q3:c5'=1
    ·have q3':(c5' == 1)=true:=beq_iff_eq.2 q3;have q4':(c5' == 0)=false:=beq_eq_false_iff_ne.2 Bl;have H:=Bq (show tf (Gr r)=(rs == 3) by rw [HV.out];unfold stI;rw [if_neg q1,if_pos ⟨q3,r0⟩];exact Aar _ _ Bl);clear q1 q2 q3 fU r0;go_wp2;go_ret;exact ⟨Bx H.out.symm,B7⟩
    have q3':(c5' == 1)=false:=beq_eq_false_iff_ne.2 q3;by_cases q4:c5'=0
    ·have q4':(c5' == 0)=true:=beq_iff_eq.2 q4;by_cases q5:c6'=0
     ·exact absurd (show c4'=(r.tasks.length:Int) by omega) q1
     ·have q5':(c6' == 0)=false:=beq_eq_false_iff_ne.2 q5;have q6:0<c6':=Bl;have q6':decide (0<c6')=true:=decide_eq_true q6;have H:=Bq (show tf (Gr r)=(rs == 4) by rw [HV.out];unfold stI;rw [if_neg q1,if_neg (fun h=>q3 h.1),if_pos ⟨q4,q6,r0⟩];exact Aar _ _ Bl);clear q1 q2 q3 q4 q5 q6 fU r0;go_wp2;go_ret;exact ⟨Bx H.out.symm,B7⟩
    ·have q4':(c5' == 0)=false:=beq_eq_false_iff_ne.2 q4;have H:=Bq (show tf (Gr r)=false by rw [HV.out];unfold stI;rw [if_neg q1,if_neg (fun h=>q3 h.1),if_neg (fun h=>q4 h.1),if_neg (fun h=>q4 h.1)];exact Aas _);clear q1 q2 q3 q4 fU r0;cases q7:(rs == 1)
     all_goals
      go_wp2;go_ret;exact ⟨Bx H.out.symm,B7⟩
   ·have q2':(c4'+c5'+c6' == (r.tasks.length:Int))=false:=beq_eq_false_iff_ne.2 q2;have r0:¬ c1'+c2'+c3'=0:=Bl;by_cases q4:c5'=0
    ·have q4':(c5' == 0)=true:=beq_iff_eq.2 q4;have q3':(c5' == 1)=false:=beq_eq_false_iff_ne.2 Bl;by_cases q5:c6'=0
     ·have q5':(c6' == 0)=true:=beq_iff_eq.2 q5;have q6':decide (0<c6')=false:=decide_eq_false Bl;have H:=Bq (show tf (Gr r)=(rs == 1) by rw [HV.out];unfold stI;rw [if_neg q1,if_neg (fun h=>r0 h.2),if_neg (fun h=>r0 h.2.2),if_pos ⟨q4,q5⟩];exact Aar _ _ Bl);clear q1 q2 q4 q5 fU r0;cases q7:(rs == 1)
      all_goals
       rw [q7] at H;go_wp2;go_ret;exact ⟨Bx H.out.symm,B7⟩
     ·have q5':(c6' == 0)=false:=beq_eq_false_iff_ne.2 q5;have q6':decide (0<c6')=true:=decide_eq_true Bl;have H:=Bq (show tf (Gr r)=false by rw [HV.out];unfold stI;rw [if_neg q1,if_neg (fun h=>r0 h.2),if_neg (fun h=>r0 h.2.2),if_neg (fun h=>q5 h.2)];exact Aas _);clear q1 q2 q4 q5 fU r0;cases q7:(rs == 1)
      all_goals
       go_wp2;go_ret;exact ⟨Bx H.out.symm,B7⟩
    ·have q4':(c5' == 0)=false:=beq_eq_false_iff_ne.2 q4;have H:=Bq (show tf (Gr r)=false by rw [HV.out];unfold stI;rw [if_neg q1,if_neg (fun h=>r0 h.2),if_neg (fun h=>r0 h.2.2),if_neg (fun h=>q4 h.1)];exact Aas _);clear q1 q2 q4 fU r0;cases q7:(rs == 1)<;>cases q3':(c5' == 1)
     all_goals
      go_wp2;go_ret;exact ⟨Bx H.out.symm,B7⟩
theorem M5 (r:Run) (s:Sl×Sl) (w:World) (hl:Dc r<=2000000) (h:Cn.rd w w r s) :
  Calls An 234 #[Hx r s] w fun e w'=>e = .returned (.bool (tf (Gr r)))/\Below w w w':=by
 have HR:=Bq (show ∀ W,Below w w W->Cn.rd W W r s from fun W hW=>Cn.rd_more (Cn.rd_below h hW) hW.size);obtain ⟨⟨A1,n1,c1⟩,⟨A2,n2,c2⟩⟩:=s;obtain rfl:n2=r.tasks.length:=RdL.at1 (s:=⟨A2,n2,c2⟩) h.2;have h1:Rd Gd w w (Aa A1 n1 c1) r.plan.edges:=Ja h.1;have h2:RdL Eu w w (Aa A2 r.tasks.length c2) r.tasks:=h.2;have jZ:r.plan.edges.length<=2000000:=Ai (Cv Nx _) (by unfold Dc Hi at hl;omega);have eS:r.tasks.length<=2000000:=Ai (Cv Ix _) (by unfold Dc at hl;omega);clear h hl;have X:=DBox.new 67 [J Ab r.id,J Ab r.plan.prio,J Ab r.plan.most,J Ab r.plan.wait,J Ab r.plan.tasks,Aa A1 n1 c1,J Ab r.state,Aa A2 r.tasks.length c2] w (b:=w) rfl;have B0:Below w w (w.alloc (.cells #[J Ab r.id,J Ab r.plan.prio,J Ab r.plan.most,J Ab r.plan.wait,J Ab r.plan.tasks,Aa A1 n1 c1,J Ab r.state,Aa A2 r.tasks.length c2] 67)):=by repeat (first | exact Br _ _ | refine Af ?_ Bo _)
 have C1:=Ki r.plan (Aa A1 n1 c1) (w.alloc (.cells #[J Ab r.id,J Ab r.plan.prio,J Ab r.plan.most,J Ab r.plan.wait,J Ab r.plan.tasks,Aa A1 n1 c1,J Ab r.state,Aa A2 r.tasks.length c2] 67)) jZ ((h1.below B0).more B0.size);have X_l:=X.lt;cases a1:inB r.id 1 9999;case false =>
  have H:=Bq (show tf (Gr r)=false from Cm (fun h=>by have:=Ct.2 h.1;rw [a1] at this;cases this));go_enter func234,ntmps234;go_wp2_with (go_at_call 90;refine (Cl _ _ _ _).mono ?_;rintro e w' ⟨rfl,rfl⟩)
  go_ret;exact ⟨Bx H.out.symm,B0⟩
 by_cases e2:Cr r.plan=0;case neg =>
  have a2:(Cr r.plan != 0)=true:=by simp [e2]
  have H:=Bq (show tf (Gr r)=false from Cm (fun h=>e2 h.2.1));clear e2;go_enter func234,ntmps234;go_wp2_with (first | (go_at_call 90;refine (Cl _ _ _ _).mono ?_;rintro e w' ⟨rfl,rfl⟩) | (go_at_call 237;refine C1.mono ?_;rintro e w1 ⟨rfl,b1⟩;have q1:=fun j=>(Zc b1).1 w.heap.size j X_l))
  go_ret;exact ⟨Bx H.out.symm,Bv B0 b1⟩
 have E2:=Bq e2;rw [e2] at C1;clear e2;by_cases e3:(r.tasks.length:Int)=r.plan.tasks;case neg =>
  have a3:((r.tasks.length:Int) != r.plan.tasks)=true:=by simp [e3]
  have H:=Bq (show tf (Gr r)=false from Cm (fun h=>e3 h.2.2.1));clear e3;go_enter func234,ntmps234;go_wp2_with (first | (go_at_call 90;refine (Cl _ _ _ _).mono ?_;rintro e w' ⟨rfl,rfl⟩) | (go_at_call 237;refine C1.mono ?_;rintro e w1 ⟨rfl,b1⟩;have q1:=fun j=>(Zc b1).1 w.heap.size j X_l))
  go_ret;exact ⟨Bx H.out.symm,Bv B0 b1⟩
 have a3:((r.tasks.length:Int) != r.plan.tasks)=false:=by simp [e3]
 have E3:=Bq e3;clear e3;go_enter func234,ntmps234;go_wp2_with (first | (go_at_call 90;refine (Cl _ _ _ _).mono ?_;rintro e w' ⟨rfl,rfl⟩) | (go_at_call 237;refine C1.mono ?_;rintro e w1 ⟨rfl,b1⟩;have q1:=fun j=>(Zc b1).1 w.heap.size j X_l))
 clear q1;replace X:=X.below b1;replace B0:=Bv B0 b1;clear X_l C1 b1 a3;have A1_:=Bq a1;clear a1;obtain ⟨X_0,X_1,X_2,X_3,X_4,X_5,X_6,X_7,X_l⟩:=X.g8;go_loop [3] (fun i=>∃ k:Nat,k<=r.tasks.length/\i = J Ab k/\Hid (∀ t (ht:t<r.tasks.length),t<k->1<=r.tasks[t].state/\r.tasks[t].state<=6)) (fun i=>r.tasks.length - (intOf i).toNat);case atStart=>exact ⟨0,Ah _,rfl,fun t _ ht=>absurd ht Bl⟩
 case round =>
  obtain ⟨k,hk,rfl,aY⟩:=hrel;by_cases aB:k<r.tasks.length
  ·have aC:(k:Int)<(r.tasks.length:Int):=Bl;obtain ⟨b,o,_,rfl,aH,_,d0,d1,d2,d3⟩:=(h2.below B0).task aB;cases tk:inB r.tasks[k].state 1 6
   ·have H:=Bq (show tf (Gr r)=false from Cm (fun h=>by
     have h3:=(h.2.2.2.1 k aB).1;rw [Co aB] at h3
     have:=Ct.2 h3
     rw [tk] at this;cases this))
    go_wp2_with (go_at_call 90;refine (Cl _ _ _ _).mono ?_;rintro e w' ⟨rfl,rfl⟩)
    go_ret;exact ⟨Bx H.out.symm,B0⟩
   ·have S:Hid (∀ t (ht:t<r.tasks.length),t<k+1->1<=r.tasks[t].state/\r.tasks[t].state<=6):=by
     intro t ht cU;by_cases e:t=k
     ·subst e;exact Ct.1 tk
     ·exact aY.out t ht Bl
    go_wp2_with (go_at_call 90;refine (Cl _ _ _ _).mono ?_;rintro e w' ⟨rfl,rfl⟩)
    exact ⟨⟨k+1,Bl,by go_num,S⟩,clM⟩
  ·have aC:¬ (k:Int)<(r.tasks.length:Int):=Bl;have bE:k=r.tasks.length:=Bl;subst bE;have HT:=aY;go_wp2;clear X_0 X_1 X_2 X_3 X_4 X_5 X_6 X_7 X_l aY aB hk aC;go_loopw [4] (fun i wr=>∃ k:Nat,k<=r.tasks.length/\i = J Ab k/\Hid (∀ t,t<k->Gz r t)/\Below w1 w1 wr) (fun i _=>r.tasks.length - (intOf i).toNat);case atStart=>exact ⟨0,Ah _,rfl,fun t ht=>absurd ht Bl,Br _ _⟩
   case round =>
    obtain ⟨k,hk,rfl,aY,hb⟩:=hrel;replace X:=X.below hb;replace B0:=Bv B0 hb;obtain ⟨X_0,X_1,X_2,X_3,X_4,X_5,X_6,X_7,X_l⟩:=X.g8;by_cases aB:k<r.tasks.length
    ·have aC:(k:Int)<(r.tasks.length:Int):=Bl;have C:=Aaq r (⟨A1,n1,c1⟩,⟨A2,r.tasks.length,c2⟩) k wr E2.out E3.out aB (HT.out k aB aB) (HR.out _ B0);by_cases tk:Gz r k
     ·have S:Hid (∀ t,t<k+1->Gz r t):=by
       intro t ht;by_cases e:t=k
       ·subst e;exact tk
       ·exact aY.out t Bl
      rw [Ds tk] at C;clear tk;go_wp2_with fail
      refine C.mono ?_;rintro e w2 ⟨rfl,b2⟩;go_wp2;exact ⟨⟨k+1,Bl,by go_num,S,Bv hb b2⟩,clM⟩
     ·have H:=Bq (show tf (Gr r)=false from Cm (fun h=>tk (h.2.2.2.1 k aB)));rw [Cm tk] at C;clear tk;go_wp2_with fail
      refine C.mono ?_;rintro e w2 ⟨rfl,b2⟩;go_wp2;go_ret;exact ⟨Bx H.out.symm,Bv B0 b2⟩
    ·have aC:¬ (k:Int)<(r.tasks.length:Int):=Bl;have bE:k=r.tasks.length:=Bl;subst bE;have HF:=Bq (Ace A1_.out E2.out E3.out aY.out);have aN:=Df wr;have C:=fun u:J7 wr=>Qn r (⟨A1,n1,c1⟩,⟨A2,r.tasks.length,c2⟩) u.1 eS (fun x hx=>by
      obtain ⟨t,ht,rfl⟩:=List.getElem_of_mem hx;exact HT.out t ht ht) (HR.out _ (Bv B0 u.2))
     have C2:=Bq C;clear C;generalize stL r.tasks=S at *
     have HG:Hid (tf (Gr r)=((r.state == S) && (r.state != 0))):=by
      show tf (Gr r)=_;rw [HF.out,Bool.eq_iff_iff];simp
     clear HF;cases q1:(r.state == S)<;>cases q2:(r.state != 0)
     all_goals
      rw [q1,q2] at HG;go_wp2;refine Bz Bm Bm ?_;repeat (go_big_quiet_step ((go_at_call 286;(with_reducible exact Jp C2.out))))
      refine Al ?_;rintro _ ⟨⟨w2,b2⟩,rfl⟩;clear aN;go_wp2;go_ret;exact ⟨Bx HG.out.symm,Bv B0 b2⟩
theorem Kn {y:Yard} (hl:Cf y<=2000000) (k:Nat):Gk (y.runs.take k)+y.runs.length<=2000000/\Gk (y.runs.take k)+(Ci y).length<=2000000:=by
 have h1:=Af7 (y.runs.take k);have h2:((y.runs.take k).map fun r=>r.tasks.length).sum<=(y.runs.map fun r=>r.tasks.length).sum:=by
  conv=>rhs;rw [<-List.take_append_drop k y.runs,List.map_append,List.sum_append]
  omega
 have h3:(y.runs.map fun r=>r.tasks.length).sum+y.runs.length<=Kv Dc y.runs:=by
  unfold Kv;have:∀ l:List Run,(l.map fun r=>r.tasks.length).sum<=(l.map Dc).sum:=by
   intro l;induction l with
   | nil=>simp
   | cons r l ih =>
    simp only [List.map_cons,List.sum_cons];have:r.tasks.length<=Dc r:=by unfold Dc;have:=Cv Ix r.tasks;omega
    omega
  have:=this y.runs
  omega
 have h4:=I0 y.shelf y.shelf.length;rw [List.take_length] at h4;unfold Cf at hl;unfold Ci;omega
theorem Acg {y:Yard} (hl:Cf y<=2000000):Gv y<=2000000:=by
 have h1:=(Kn hl y.runs.length).2;rw [List.take_length] at h1;have h2:=Pw y (Ci y);unfold Gv;omega
theorem Qp (y:Yard) (s:Sl×Sl) (w:World) (hl:Cf y<=2000000) (h:Bu.rd w w y s) :
  Calls An 144 #[Dh y s] w fun e w'=>e = .returned (J Ab (Gv y:Nat))/\Below w w w':=by
 have HR:=Bq (show ∀ W,Below w w W->Bu.rd W W y s from fun W hW=>Bu.rd_more (Bu.rd_below h hW) hW.size);obtain ⟨⟨A1,n1,c1⟩,⟨A2,n2,c2⟩⟩:=s;obtain rfl:n2=y.runs.length:=RdL.at1 (s:=⟨A2,n2,c2⟩) h.2;have h2:RdL Cn w w (Aa A2 y.runs.length c2) y.runs:=h.2;have eJ:y.runs.length<=2000000:=Ai (Cv Dc _) (by unfold Cf at hl;omega);have HB:=Bq (Kn hl);have HD:=Bq (show Gv y=Gk y.runs+Gu y (Ci y) from rfl);clear h;obtain ⟨W,aG,X,B0⟩:=bx1 w 31 [J Ab y.now,J Ab y.seq,Aa A1 n1 c1,Aa A2 y.runs.length c2];have X_l:=X.lt;go_enter func144,ntmps144;go_wp2;rw [<-aG.out];clear aG;go_loopw [3,11] (fun n i wr=>∃ k:Nat,k<=y.runs.length/\i = J Ab k/\n = J Ab (Gk (y.runs.take k):Nat)/\Below W W wr) (fun _ i _=>y.runs.length - (intOf i).toNat);case atStart=>exact ⟨0,Ah _,rfl,rfl,Br _ _⟩
 case round =>
  obtain ⟨k,hk,rfl,rfl,hb⟩:=hrel;have rH:=(HB.out k).1;by_cases aB:k<y.runs.length
  ·have aC:(k:Int)<(y.runs.length:Int):=Bl;obtain ⟨b,o,⟨s1,⟨At,nt,ct⟩⟩,rfl,aH,bP,c0_,c1_,c2_,c3_,c4_,c5_,c6_,c7_⟩:=(h2.below (Bv B0 hb)).run aB;obtain rfl:nt=y.runs[k].tasks.length:=RdL.at1 (s:=⟨At,nt,ct⟩) bP.2;have pC:=Fc hl aB;have bG:b<wr:=Aj aH (Bv B0 hb).size;by_cases q:y.runs[k].state=1
   ·have S:=Bq (We aB q);have q':(y.runs[k].state == 1)=true:=beq_iff_eq.2 q;clear q;go_wp2;refine ⟨⟨k+1,Bl,by go_num,by rw [S.out];go_num,?_⟩,clM⟩;exact Bv hb (by repeat (first | exact Br _ _ | refine Af ?_ Bo _))
   ·have S:=Bq (Zn aB q);have q':(y.runs[k].state == 1)=false:=beq_eq_false_iff_ne.2 q;clear q;go_wp2;refine ⟨⟨k+1,Bl,by go_num,by rw [S.out],?_⟩,clM⟩;exact Bv hb (by repeat (first | exact Br _ _ | refine Af ?_ Bo _))
  ·have aC:¬ (k:Int)<(y.runs.length:Int):=Bl;have bE:k=y.runs.length:=Bl;subst bE;have hbe:=(HB.out y.runs.length).2;rw [List.take_length] at hbe rH;replace X:=X.below hb;replace B0:=Bv B0 hb;clear X_l;obtain ⟨X_0,X_1,X_2,X_3,X_l⟩:=X.g4;have C:=Lm y (⟨A1,n1,c1⟩,⟨A2,y.runs.length,c2⟩) wr hl (HR.out _ B0);have HW:=Bq (Pw y);generalize Ci y=L at *
   go_wp2_with fail
   refine C.mono ?_;rintro e w2 ⟨v,rfl,o2,b2⟩;obtain ⟨A3,c3,rfl,-⟩:=id (Rd.of_own o2);replace X:=X.below b2;replace B0:=Bv B0 b2;clear X_0 X_1 X_2 X_3 X_l;go_wp2;generalize Gk y.runs=M at *
   go_loopw [3,27] (fun n i wr=>∃ k:Nat,k<=L.length/\i = J Ab k/\n = J Ab ((M+Gu y (L.take k):Nat))/\Below w2 w2 wr) (fun _ i _=>L.length - (intOf i).toNat);case atStart=>exact ⟨0,Ah _,rfl,by simp [Gu],Br _ _⟩
   case round =>
    obtain ⟨k,hk,rfl,rfl,aJ⟩:=hrel;have bL:=HW.out (L.take k);rw [A0] at bL;replace X:=X.below aJ;obtain ⟨X_0,X_1,X_2,X_3,X_l⟩:=X.g4;by_cases aB:k<L.length
    ·have aC:(k:Int)<(L.length:Int):=Bl;obtain ⟨b,o,_,fC,aH,_,d0,d1,d2,d3⟩:=RdL.entry (Js (Rd.of_own (o2.below aJ))) aB;subst fC;have ha:Below wr wr (wr.alloc (.cells #[J Ab L[k].prio,J Ab L[k].seq,J Ab L[k].run,J Ab L[k].task] 71)):=Bt;have C:=M3 y (⟨A1,n1,c1⟩,⟨A2,y.runs.length,c2⟩) L[k] _ hl (HR.out _ (Bv (Bv B0 aJ) ha));have HY:=Bq (Wd (y:=y) aB);have HN:=Bq (Zl (y:=y) aB);cases q:Di y L[k]
     ·have S:=Bq (HY.out q);rw [q] at C;go_wp2_with fail
      refine C.mono ?_;rintro e w3 ⟨rfl,b3⟩;go_wp2;exact ⟨⟨k+1,Bl,by go_num,by rw [S.out];go_num,Bv (Bv aJ ha) b3⟩,clM⟩
     ·have S:=Bq (HN.out q);rw [q] at C;go_wp2_with fail
      refine C.mono ?_;rintro e w3 ⟨rfl,b3⟩;go_wp2;exact ⟨⟨k+1,Bl,by go_num,by rw [S.out];go_num,Bv (Bv aJ ha) b3⟩,clM⟩
    ·have aC:¬ (k:Int)<(L.length:Int):=Bl;have bE:k=L.length:=Bl;subst bE;go_wp2;go_ret;exact ⟨D6 (by have:=HD.out;omega),Bv B0 aJ⟩
theorem Qq (y:Yard) (s:Sl×Sl) (w:World) (hl:Cf y<=2000000) (h:Bu.rd w w y s) :
  Calls An 236 #[Dh y s] w fun e w'=>e = .returned (J Ab (Gv y:Nat))/\Below w w w':=by
 have HR:=Bq (show ∀ W,Below w w W->Bu.rd W W y s from fun W hW=>Bu.rd_more (Bu.rd_below h hW) hW.size);obtain ⟨⟨A1,n1,c1⟩,⟨A2,n2,c2⟩⟩:=s;obtain rfl:n1=y.shelf.length:=RdL.at1 (s:=⟨A1,n1,c1⟩) h.1;obtain rfl:n2=y.runs.length:=RdL.at1 (s:=⟨A2,n2,c2⟩) h.2;have h1:RdL (Dt.list Ch) w w (Aa A1 y.shelf.length c1) y.shelf:=h.1;have h2:RdL Cn w w (Aa A2 y.runs.length c2) y.runs:=h.2;have eJ:y.runs.length<=2000000:=Ai (Cv Dc _) (by unfold Cf at hl;omega);have hls:y.shelf.length<=2000000:=Ai (Cv Dp _) (by unfold Cf at hl;omega);have HE:=Bq (show ∀ k (hk:k<y.shelf.length),y.shelf[k].length<=2000000 from fun k hk=>by
  have:=Gw (cnt:=Dp) (Ax hk)
  have h2:y.shelf[k].length<=Dp y.shelf[k]:=Cv Kk _;unfold Cf at hl;omega)
 have HB:=Bq (Kn hl);have HD:=Bq (show Gv y=Gk y.runs+Gu y y.shelf.flatten from rfl);have HW:=Bq (show ∀ k,Gk y.runs+Gu y (y.shelf.take k).flatten<=4000000 from fun k=>by
  have h3:=(Kn hl y.runs.length).2;rw [List.take_length] at h3;have h4:=I0 y.shelf k;have h5:=Pw y (y.shelf.take k).flatten;unfold Cf at hl;omega)
 clear h;obtain ⟨W,aG,X,B0⟩:=bx1 w 31 [J Ab y.now,J Ab y.seq,Aa A1 y.shelf.length c1,Aa A2 y.runs.length c2];go_enter func236,ntmps236;go_wp2;rw [<-aG.out];clear aG;obtain ⟨X_0,X_1,X_2,X_3,X_l⟩:=X.g4;go_loop [3,4] (fun n i=>∃ k:Nat,k<=y.runs.length/\i = J Ab k/\n = J Ab (Gk (y.runs.take k):Nat)) (fun _ i=>y.runs.length - (intOf i).toNat);case atStart=>exact ⟨0,Ah _,rfl,rfl⟩
 case round =>
  obtain ⟨k,hk,rfl,rfl⟩:=hrel;have rH:=(HB.out k).1;by_cases aB:k<y.runs.length
  ·have aC:(k:Int)<(y.runs.length:Int):=Bl;obtain ⟨b,o,⟨s1,⟨At,nt,ct⟩⟩,rfl,aH,bP,c0_,c1_,c2_,c3_,c4_,c5_,c6_,c7_⟩:=(h2.below B0).run aB;obtain rfl:nt=y.runs[k].tasks.length:=RdL.at1 (s:=⟨At,nt,ct⟩) bP.2;have pC:=Fc hl aB;by_cases q:y.runs[k].state=1
   ·have S:=Bq (We aB q);have q':(y.runs[k].state == 1)=true:=beq_iff_eq.2 q;clear q;go_wp2;exact ⟨⟨k+1,Bl,by go_num,by rw [S.out];go_num⟩,clM⟩
   ·have S:=Bq (Zn aB q);have q':(y.runs[k].state == 1)=false:=beq_eq_false_iff_ne.2 q;clear q;go_wp2;exact ⟨⟨k+1,Bl,by go_num,by rw [S.out]⟩,clM⟩
  ·have aC:¬ (k:Int)<(y.runs.length:Int):=Bl;have bE:k=y.runs.length:=Bl;subst bE;have HS:=Bq (show Gk (y.runs.take y.runs.length)=Gk y.runs by rw [List.take_length]);go_wp2;clear X_0 X_1 X_2 X_3 X_l rH aB hk aC;go_loopw [3,5] (fun n i wr=>∃ k:Nat,k<=y.shelf.length/\i = J Ab k/\n = J Ab (Gk y.runs+Gu y (y.shelf.take k).flatten:Nat)/\Below W W wr) (fun _ i _=>y.shelf.length - (intOf i).toNat);case atStart=>exact ⟨0,Ah _,rfl,by simp [Gu],Br _ _⟩
   case round =>
    obtain ⟨k,hk,rfl,rfl,hb⟩:=hrel;have hwk:=HW.out k;by_cases aB:k<y.shelf.length
    ·have aC:(k:Int)<(y.shelf.length:Int):=Bl;have hez:=HE.out k aB;have mR:=Bq (Mk y.shelf k aB);have hwk1:=HW.out (k+1);rw [mR.out,Ql] at hwk1;have HWj:=Bq (show ∀ j,Gu y (y.shelf[k].take j)<=y.shelf[k].length from fun j=>Ai (Pw _ _) (by rw [A0];omega));have X1:=X.below hb;have qV:wr.cell? ⟨w,2,Ac⟩=Ad (Aa A1 y.shelf.length c1):=X1.cell 2 _ rfl;have vH:=X1.lt;go_wp2;clear qV vH X1;go_loopw [3,6] (fun n i wq=>∃ j:Nat,j<=y.shelf[k].length/\i = J Ab j/\n = J Ab (Gk y.runs+Gu y (y.shelf.take k).flatten+Gu y (y.shelf[k].take j):Nat)/\Below W W wq) (fun _ i _=>y.shelf[k].length - (intOf i).toNat);case atStart=>exact ⟨0,Ah _,rfl,by simp [Gu],hb⟩
     case round =>
      clear hb;obtain ⟨j,hj,rfl,rfl,hb⟩:=hrel;have hsj:=HWj.out j;have X:=X.below hb;obtain ⟨X_0,X_1,X_2,X_3,X_l⟩:=X.g4;obtain ⟨b,o,⟨As,ns,cs⟩,mF,aH,hr,d0⟩:=(h1.below (Bv B0 hb)).entryS aB;obtain rfl:ns=y.shelf[k].length:=RdL.at1 (s:=⟨As,ns,cs⟩) hr;subst mF;have bG:b<wr:=Aj aH (Bv B0 hb).size;by_cases dE:j<y.shelf[k].length
      ·have gL:(j:Int)<(y.shelf[k].length:Int):=Bl;obtain ⟨b2,o2,_,hAs,mD,_,f0,f1,f2,f3⟩:=RdL.entry hr dE;subst hAs;have cN:b2<wr:=Aj mD (Bv B0 hb).size;have aN:=Df wr;have C:=Bq (show ∀ u:J7 wr,_ from fun u=>M4 y (⟨Ad ⟨b,o,Ac⟩,y.shelf.length,c1⟩,⟨A2,y.runs.length,c2⟩) y.shelf[k][j] u.1 hl (HR.out _ (Bv (Bv B0 hb) u.2)));have HY:=Bq (Wd (y:=y) dE);have HN:=Bq (Zl (y:=y) dE);cases q:Di y y.shelf[k][j]
       ·have S:=Bq (HY.out q);rw [q] at C;go_wp2;refine Bz Bm Bm ?_;repeat (go_big_quiet_step ((go_at_call 82;(with_reducible exact Jp C.out))))
        refine Al ?_;rintro _ ⟨⟨w3,b3⟩,rfl⟩;clear aN;go_wp2;exact ⟨⟨j+1,Bl,by go_num,by rw [S.out];go_num,Bv hb b3⟩,clM⟩
       ·have S:=Bq (HN.out q);rw [q] at C;go_wp2;refine Bz Bm Bm ?_;repeat (go_big_quiet_step ((go_at_call 82;(with_reducible exact Jp C.out))))
        refine Al ?_;rintro _ ⟨⟨w3,b3⟩,rfl⟩;clear aN;go_wp2;exact ⟨⟨j+1,Bl,by go_num,by rw [S.out];go_num,Bv hb b3⟩,clM⟩
      ·have gL:¬ (j:Int)<(y.shelf[k].length:Int):=Bl;have hj':j=y.shelf[k].length:=Bl;subst hj';have S:=Bq (show Gk y.runs+Gu y (y.shelf.take (k+1)).flatten=Gk y.runs+Gu y (y.shelf.take k).flatten+Gu y (y.shelf[k].take y.shelf[k].length) by rw [mR.out,Ql,List.take_length];omega);go_wp2;exact ⟨⟨k+1,Bl,by go_num,by rw [S.out],hb⟩,clM⟩
    ·have aC:¬ (k:Int)<(y.shelf.length:Int):=Bl;have bE:k=y.shelf.length:=Bl;subst bE;have X1:=X.below hb;have qV:wr.cell? ⟨w,2,Ac⟩=Ad (Aa A1 y.shelf.length c1):=X1.cell 2 _ rfl;have vH:=X1.lt;go_wp2;go_ret;exact ⟨D6 (by have:=HD.out;omega),Bv B0 hb⟩
def Ip (l:List Entry) (e:Entry):List Entry:=l.takeWhile (fun x=>D7 x e) ++ e :: l.dropWhile (fun x=>D7 x e)
theorem Wm {α:Type} {p:α->Bool} : ∀ {l:List α} {k:Nat},k<=l.length->(∀ j (hj:j<l.length),j<k->p l[j]=true)->(∀ h:k<l.length,p l[k]=false)->l.takeWhile p=l.take k/\l.dropWhile p=l.drop k
 | [],k,hk,_,_=>by
  obtain rfl:k=0:=by simpa using hk
  exact ⟨rfl,rfl⟩
 | x :: l,0,_,_,h=>by
  have:=h Bn
  simp only [List.getElem_cons_zero] at this;simp [List.takeWhile_cons,List.dropWhile_cons,this]
 | x :: l,k+1,hk,ha,h=>by
  have h0:=ha 0 Bn Bl;simp only [List.getElem_cons_zero] at h0;obtain ⟨i1,i2⟩:=Wm (p:=p) (l:=l) (k:=k) (by simpa using hk) (fun j hj fM=>by have:=ha (j+1) (by simpa using hj) Bl;simpa using this) (fun kP=>by have:=h (by simpa using kP);simpa using this);simp [List.takeWhile_cons,List.dropWhile_cons,h0,i1,i2]
theorem Vo {l:List Entry} {e:Entry} {k:Nat} (hk:k<=l.length) (ha:∀ j (hj:j<l.length),j<k->D7 l[j] e=true) (h:∀ h:k<l.length,D7 l[k] e=false):Ip l e=l.take k ++ [e] ++ l.drop k:=by
 unfold Ip;obtain ⟨h1,h2⟩:=Wm (p:=fun x=>D7 x e) hk ha h;rw [h1,h2,List.append_assoc];rfl
theorem Ach (l:List Entry) (e:Entry):(Ip l e).length=l.length+1:=by
 unfold Ip;rw [Bd,List.length_cons];have:(l.takeWhile (fun x=>D7 x e) ++ l.dropWhile (fun x=>D7 x e)).length=l.length:=by rw [List.takeWhile_append_dropWhile]
 rw [Bd] at this;omega
def Gp (a b:List Entry):List Entry:=if 80<a.length+b.length then a else b.foldl Ip a
theorem Ml (b:List Entry):∀ a:List Entry,(b.foldl Ip a).length=a.length+b.length:=by
 induction b with
 | nil=>intro a;rfl
 | cons x b ih=>intro a;rw [List.foldl_cons,ih,Ach,List.length_cons];omega
theorem Aci (a b:List Entry):(Gp a b).length<=a.length+b.length:=by
 unfold Gp;split
 ·omega
 ·rw [Ml];omega
def C9 (l:List Entry):Nat:=(l.length+1) / 2
theorem Acj (l:List Entry):C9 l<=l.length:=by unfold C9;omega
def Cz (id:Int):Nat:=if (Eo id).length=0 then 0 else (Lr (Eo id) % 4).toNat
theorem Q6 (id:Int):Cz id<4:=by
 unfold Cz;split
 ·decide
 ·have:=Int.emod_lt_of_pos (Lr (Eo id)) (show (0:Int)<4 by decide)
  have:=Int.emod_nonneg (Lr (Eo id)) (show (4:Int)≠0 by decide)
  omega
theorem OwL.swap {α:Type} {d:Dt α} {w:World} {F Fy:List Nat} {b o n c:Nat} {l:List α} (h:OwL d w F (Aa (Ad ⟨b,o,Ac⟩) n c) l) {j:Nat} (hj:j<l.length) {y:α} {s:d.S} (hy:d.ow w Fy y s) (hd:∀ x∈Fy,x∉F) :
  ∃ F',OwL d (Is w b (o+j * d.enc.sz) (d.enc.cells (y,s))) F' (Aa (Ad ⟨b,o,Ac⟩) n c) (l.set j y)/\(∀ x∈F',x∈F\/x∈Fy)/\b∈F/\b∈F':=by
 obtain ⟨rs,H,G,hm,hh,ho,rfl,hn⟩:=h;have kL:j<rs.length:=by rw [<-hm,Au] at hj;exact hj
 obtain ⟨b',o',hA,rfl,kG,hf⟩:=hh.at_ Bl;simp only [Option.some.injEq,Addr.mk.injEq,and_true] at hA;obtain ⟨rfl,rfl⟩:=hA;obtain ⟨F1,F2,rfl,h1,h2⟩:=ho.split j Bl;rw [List.drop_eq_getElem_cons kL] at h2;obtain ⟨Fx,F3,rfl,h3,h4⟩:=h2.head;have dP:b∉F1 ++ (Fx ++ F3):=by
  have:=hn
  simp only [List.singleton_append,List.nodup_cons] at this;exact this.1
 have qN:(F1 ++ (Fx ++ F3)).Nodup:=by
  have:=hn
  simp only [List.singleton_append,List.nodup_cons] at this;exact this.2
 have dG:b∉Fy:=fun hx=>hd b hx Bn;have hc:=Fn (d.enc.cells (y,s)) w b (o+j * d.enc.sz);have hp:=Rd.part hh.rd j kL (y,s) 0 (d.enc.cells (y,s)) (by rw [d.enc.len];omega) (fun i hi=>by rw [Nat.zero_add];exact List.getElem?_eq_getElem hi) (fun i hi ho=>by rw [d.enc.len] at ho;omega);rw [Nat.add_zero] at hp;have hz:=J8 (d.enc.cells (y,s)) w b (o+j * d.enc.sz);have eZ:rs.set j (y,s)=rs.take j ++ ((y,s) :: rs.drop (j+1)):=by rw [List.set_eq_take_append_cons_drop,if_pos kL]
 refine ⟨[b] ++ (F1 ++ (Fy ++ F3)),⟨rs.set j (y,s),[b],F1 ++ (Fy ++ F3),?_,⟨?_,?_,fun g hg i=>?_⟩,?_,rfl,?_⟩,?_,Bn,Bn⟩
 ·rw [List.map_set,hm]
 ·rw [hz];exact hp
 ·have:=hh.2.1
  rw [List.length_set];exact this
 ·rw [Jf];simp only [Aw] at hg;subst hg;exact hf i
 ·rw [eZ];refine (h1.chg hc (fun x hx fA=>?_)).append (.cons (d.ow_chg hy hc (fun x hx fA=>?_)) (h4.chg hc (fun x hx fA=>?_)))
  ·simp only [Aw] at fA;subst fA;exact dP (List.mem_append_left _ hx)
  ·simp only [Aw] at fA;subst fA;exact dG hx
  ·simp only [Aw] at fA;subst fA;exact dP (Be _ (Be _ hx))
 ·have hyN:=d.ow_nodup hy;rw [List.singleton_append,List.nodup_cons];refine ⟨fun hx=>?_,?_⟩
  ·simp only [Bi] at hx;rcases hx with hx | hx | hx
   ·exact dP (by simp [hx])
   ·exact dG hx
   ·exact dP (by simp [hx])
  ·rw [Ay] at qN ⊢;obtain ⟨n1,n2,n3⟩:=qN;rw [Ay] at n2;obtain ⟨m1,m2,m3⟩:=n2;refine ⟨n1,?_,fun a ha c hc=>?_⟩
   ·rw [Ay];exact ⟨hyN,m2,fun a ha c hc e=>hd a ha (by subst e;simp [hc])⟩
   ·rcases Bi.1 hc with hc | hc
    ·exact fun e=>hd c hc (by subst e;simp [ha])
    ·exact n3 a ha c (Be _ hc)
 ·intro x hx;simp only [Bi,Aw] at hx ⊢;rcases hx with hx | hx | hx | hx
  ·exact .inl (.inl hx)
  ·exact .inl (.inr (.inl hx))
  ·exact .inr hx
  ·exact .inl (.inr (.inr (.inr hx)))
end Go.Proofs.YtecnbnbopcblgaaGreat
