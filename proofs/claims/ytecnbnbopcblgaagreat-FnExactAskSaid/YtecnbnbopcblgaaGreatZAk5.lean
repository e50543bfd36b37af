/-
  Entries that stand ahead, shelves that are right, tasks in a state, tasks that a task waits for: the program's walks and the reference's. A variable in memory u
-/
import Derived.Test.YtecnbnbopcblgaaGreatZAk0
import Derived.Test.YtecnbnbopcblgaaGreatZAk2
import Derived.Test.YtecnbnbopcblgaaGreatZAk3
import Derived.Test.YtecnbnbopcblgaaGreatZAk4
namespace Go.Proofs.YtecnbnbopcblgaaGreat
open Go.RowKit
set_option maxRecDepth 100000
set_option maxHeartbeats 4000000
set_option linter.unusedVariables false
set_option linter.unusedSimpArgs false
open Value renaming int->J,slice->Aa
open IntKind renaming i64->U
open Option renaming none->Ab,some->Ac
open Below renaming setCell->Ad,alloc->Ae
open Nat renaming zero_le->Ag,le_trans->Ah,lt_of_lt_of_le->Ai
open Go renaming wpQuiet_nil->Ak
open Go.Proofs.Tryz renaming prog->Am
open Int renaming eq_ofNat_of_zero_le->Ap
open IntWalk renaming i64_in->Aq
open List renaming length_map->Ar,getElem_mem->Aw,nodup_append->Ax,length_take->Az,length_append->Bd,mem_append->Bi
open Go.Proofs.Tryz
theorem Aio {p:Prop} (h:p:=by
 refine ⟨(⟨A3,n3,c3⟩,⟨A5,n5,c5⟩),F0 ++ F5,rfl,⟨F0,F5,rfl,?_,?_,?_⟩,?_,?_⟩
 ·rw [Ax];refine ⟨Ce.ow_nodup o1,o6.nodup,fun u hu u' hu' e=>?_⟩
  have:=l0 u hu
  have:=n6 u' hu'
  omega
 ·have dS:w.heap.size+1∉F0:=fun hm=>by have:=n0 _ hm;omega
  repeat (first | (with_reducible exact o7) | refine Dt.ow_set Ce ?_ (by first | exact pK | exact dS) _)
 ·have fY:w.heap.size∉F5:=fun hm=>by have:=n6 _ hm;omega
  have dS:w.heap.size+1∉F5:=fun hm=>by have:=n6 _ hm;omega
  show OwL C8 _ F5 (Aa A5 n5 c5) r.tasks;repeat (first | (with_reducible exact o6) | refine OwL.set ?_ (by first | exact fY | exact dS) _)
 ·intro b hb;rcases Bi.1 hb with hb | hb
  ·have:=n0 b hb;omega
  ·have:=n6 b hb;omega
 ·repeat (first | (with_reducible exact B2) | refine Ad ?_ (by first | (simp;done) | (simp;omega)) _)):p:=h
theorem Aiu {p:Prop} (h:p:=by
 go_wp2;refine Bz Bm Bm ?_;repeat (go_big_quiet_step ((go_at_call 90;exact Da (fun u=>Cd _ _ _ u.1))))
 refine Ak ?_;rintro _ ⟨⟨w2,b2⟩,rfl⟩;clear aM;go_wp2;first
  | exact ⟨⟨t+1,Bl,by go_num,S,Bv hb b2⟩,clM⟩
  | (refine ⟨?_,clM⟩;(repeat apply Exists.intro);refine ⟨?_,clR⟩;exact ⟨t+1,Bl,by go_num,S,Bv hb b2⟩)):p:=h
theorem Aiy {p:Prop} (h:p:=by
 go_wp2_with fail
 generalize ((w.alloc (.cells #[J U y.now,J U y.seq,Aa A1 n1 c1,Aa A2 y.runs.length c2] 31)).alloc (.cells #[J U (⟨pr,sq,rn,tk⟩:Entry).prio,J U (⟨pr,sq,rn,tk⟩:Entry).seq,J U (⟨pr,sq,rn,tk⟩:Entry).run,J U (⟨pr,sq,rn,tk⟩:Entry).task] 71))=W at *
 refine C.mono ?_;rintro e1 w1 ⟨rfl,b1⟩;replace X:=X.below b1;replace E:=E.below b1;have X_:=X.g4;have E_:=E.g4;have aM:=Cw w1;go_wp2;refine Bz Bm Bm ?_;repeat (go_big_quiet_step (fail))
 refine Ak ?_;rintro _ ⟨⟨w2,b2⟩,rfl⟩;clear aM;go_wp2;go_ret;exact ⟨Bx H.out.symm,Bv (Bv B0 b1) b2⟩):p:=h
theorem Ai3 {p:Prop} (h:p:=by go_wp2;go_quiet (fail);go_wp2;go_quiet (fail);go_wp2;go_ret;exact ⟨Cy H.out.symm,by first | exact Dq hb _ | exact Dq (Dq hb _) _⟩):p:=h
theorem Ajh {p:Prop} (h:p:=by
 go_wp2;go_quiet (fail);go_wp2;go_quiet (fail);go_wp2;first
  | exact ⟨⟨j+1,Bl,by go_num,by rw [S.out];go_num,S2,by first | exact Dq hb _ | exact Dq (Dq hb _) _⟩,clM⟩
  | (refine ⟨?_,clM⟩;(repeat apply Exists.intro);refine ⟨?_,clR⟩;exact ⟨j+1,Bl,by go_num,by rw [S.out];go_num,S2,by first | exact Dq hb _ | exact Dq (Dq hb _) _⟩)):p:=h
theorem Aju {p:Prop} (h:p:=by
 refine Bz Bm Bm ?_;repeat (go_big_quiet_step ((first
  | (go_at_call 72;exact Da (fun u=>Cm _ _ _ u.1))
  | (go_at_call 280;(with_reducible exact Jf HC2.out)))))
 refine Ak ?_;rintro _ ⟨⟨w1,b1⟩,rfl⟩;go_wp2;go_ret;exact ⟨Bx H.out.symm,Bv B0 b1⟩):p:=h
theorem Aj4 {p:Prop} (h:p:=by
 go_wp2;first
  | exact ⟨⟨j+1,Bl,by go_num,by rw [S.out];go_num,S2,Bv aK hE⟩,clM⟩
  | (refine ⟨?_,clM⟩;(repeat apply Exists.intro);refine ⟨?_,clR⟩;exact ⟨j+1,Bl,by go_num,by rw [S.out];go_num,S2,Bv aK hE⟩)):p:=h
theorem Akh {p:Prop} (h:p:=by
 go_wp2;refine Bz Bm Bm ?_;repeat (go_big_quiet_step ((go_at_call 72;exact Da (fun u=>Cm _ _ _ u.1))))
 refine Ak ?_;rintro _ ⟨⟨w2,b2⟩,rfl⟩;clear aM;go_wp2;go_ret;exact ⟨Bx H.out.symm,Bv B0 b2⟩):p:=h
theorem Aki {p:Prop} (h:p:=by
 go_wp2;refine Bz Bm Bm ?_;repeat (go_big_quiet_step ((go_at_call 90;exact Da (fun u=>Cd _ _ _ u.1))))
 refine Ak ?_;rintro _ ⟨⟨w2,b2⟩,rfl⟩;clear aM;go_wp2;go_ret;exact ⟨Bx H.out.symm,Bv B0 b2⟩):p:=h
theorem Akj {p:Prop} (h:p:=by
 go_wp2;refine Bz Bm Bm ?_;repeat (go_big_quiet_step ((go_at_call 90;exact Da (fun u=>Cd _ _ _ u.1))))
 refine Ak ?_;rintro _ ⟨⟨w2,b2⟩,rfl⟩;clear aM;go_wp2;go_ret;exact ⟨Bx H.out.symm,Bv B1 b2⟩):p:=h
theorem Akp {p:Prop} (h:p:=by
 go_wp2;first
  | exact ⟨⟨t+1,Bl,by go_num,S,Bv Hb2 aK⟩,clM⟩
  | (refine ⟨?_,clM⟩;(repeat apply Exists.intro);refine ⟨?_,clR⟩;exact ⟨t+1,Bl,by go_num,S,Bv Hb2 aK⟩)):p:=h
theorem Akt {p:Prop} (h:p:=by have aB:¬ (k:Int)<(y.shelf.length:Int):=Bl;have aZ:k=y.shelf.length:=Bl;subst aZ;rw [List.take_length] at ho;go_wp2;go_ret;exact ⟨_,rfl,ho.more Bl,hb⟩):p:=h
theorem Akw {p:Prop} (h:p:=by rw [Ar] at hl;obtain ⟨b,o,hb,aA,hc⟩:=hA hl;refine ⟨b,o,hb,aA,fun k hk j u hu=>?_⟩;rw [Ar] at hk;rw [List.getElem_map] at hu;exact hc k hk j u hu):p:=h
theorem Alh {p:Prop} (h:p:=by go_wp2;go_ret;exact ⟨Bx H.out.symm,Bv B0 hb⟩):p:=h
theorem Alt {p:Prop} (h:p:=by go_wp2;go_ret;exact ⟨Bx (by rw [<-H.out,t1,t2,t3];rfl),by repeat (first | exact Bs _ _ | refine Ae ?_ Bp _)⟩):p:=h
theorem Ank {p:Prop} (h:p:=by exact Ah (List.length_filter_le _ _) Bo):p:=h
theorem Ann {p:Prop} (h:p:=by go_wp2;exact ⟨⟨k+1,Bl,by go_num,by rw [S.out];go_num⟩,clM⟩):p:=h
theorem Mw (a b:Entry) (w:World) :
  Calls Am 223 #[G6 a (),G6 b ()] w fun e w'=>e = .returned (.bool (Fg a b))/\Below w w w':=by
 cases t1:decide (b.prio<a.prio)<;>cases t2:(a.prio == b.prio)<;>cases t3:decide (a.seq<b.seq);all_goals
  have H:=Br (show (decide (b.prio<a.prio) || ((a.prio == b.prio) && decide (a.seq<b.seq)))=Fg a b from rfl);go_enter func223,ntmps223;exact Alt
theorem K2 (a b:Entry) (w:World) :
  Calls Am 305 #[G6 a (),G6 b ()] w fun e w'=>e = .returned (.bool (Fg a b))/\Below w w w':=by
 cases t1:decide (b.prio<a.prio)<;>cases t2:(a.prio == b.prio)<;>cases t3:decide (a.seq<b.seq);all_goals
  have H:=Br (show (decide (b.prio<a.prio) || ((a.prio == b.prio) && decide (a.seq<b.seq)))=Fg a b from rfl);go_enter func305,ntmps305;exact Alt
theorem Vj {l:List Entry} {k:Nat} (fC:1<=k) (aA:k<l.length) (h:∀ j (hj:j+1<l.length),j+1<k->Fg l[j] l[j+1]=true) (t:Fg l[k - 1] l[k]=true) :
  ∀ j (hj:j+1<l.length),j+1<k+1->Fg l[j] l[j+1]=true:=by
 intro j hj gB;by_cases e:j+1=k
 ·subst e;simpa using t
 ·exact h j hj Bl
theorem Yb {l:List Entry} {k:Nat} (fC:1<=k) (aA:k<l.length) (t:Fg l[k - 1] l[k]=false):¬ Ii l:=by
 rintro ⟨_,h⟩
 have:=h (k - 1) Bl
 have e:k - 1+1=k:=Bl;simp only [e] at this;rw [t] at this;cases this
theorem To (l:List Entry) (s:Sl) (w:World) (hl:l.length<=2000000) (h:RdL By w w s.v l) :
  Calls Am 139 #[Aa s.a s.n s.c] w fun e w'=>e = .returned (.bool (tf (Ii l)))/\Below w w w':=by
 obtain ⟨A,n,c⟩:=s;obtain rfl:n=l.length:=RdL.at1 (s:=⟨A,n,c⟩) h;go_enter func139,ntmps139;go_wp2;go_loopw [3] (fun i wr=>∃ k:Nat,1<=k/\(k<=l.length\/k=1)/\i = J U k/\Hid (∀ j (hj:j+1<l.length),j+1<k->Fg l[j] l[j+1]=true)/\Below w w wr) (fun i _=>l.length - (intOf i).toNat);case atStart=>exact ⟨1,Bt _,.inr rfl,rfl,fun j hj h0=>absurd h0 Bl,Bs _ _⟩
 case round =>
  obtain ⟨k,fC,hk,rfl,aY,hb⟩:=hrel;have vS:(0:Int)<(k:Int):=Bl;by_cases aA:k<l.length
  ·have aB:(k:Int)<(l.length:Int):=Bl;obtain ⟨b,o,_,rfl,aJ,_,c0,c1,c2,c3⟩:=(h.below hb).entry aA;obtain ⟨b',o',_,he,_,_,d0,d1,d2,d3⟩:=(h.below hb).entry (k:=k - 1) Bl;simp only [Option.some.injEq,Addr.mk.injEq,and_true] at he;obtain ⟨rfl,rfl⟩:=he;have hs:b<wr:=Ai aJ hb.size;have aM:=Cw wr;cases t2:Fg l[k - 1] l[k]
   ·have H:=Br (Cg (Yb fC aA t2));go_wp2;refine Bz Bm Bm ?_;repeat (go_big_quiet_step ((go_at_call 223;rename_i x;have h1:=Mw l[k - 1] l[k] x.1;exact Fu h1)))
    refine Ak ?_;rintro _ ⟨⟨w1,aG⟩,rfl⟩;clear aM;go_wp2;go_ret;exact ⟨Bx H.out.symm,Bv hb aG⟩
   ·have S:=Br (Vj fC aA aY.out t2);go_wp2;refine Bz Bm Bm ?_;repeat (go_big_quiet_step ((go_at_call 223;rename_i x;have h1:=Mw l[k - 1] l[k] x.1;exact Fu h1)))
    refine Ak ?_;rintro _ ⟨⟨w1,aG⟩,rfl⟩;clear aM;go_wp2;exact ⟨⟨k+1,Bl,Bl,by go_num,S,Bv hb aG⟩,clM⟩
  ·have aB:¬ (k:Int)<(l.length:Int):=Bl;by_cases h8:l.length<=80
   ·have H:=Br (Di (show Ii l from ⟨h8,fun j hj=>aY.out j hj Bl⟩));go_wp2;go_ret;exact ⟨Bx (by rw [H.out];exact decide_eq_true Bl),hb⟩
   ·have H:=Br (Cg (show ¬ Ii l from fun h=>h8 h.1));have h8i:¬ (l.length:Int)<=80:=Bl;go_wp2;go_ret;exact ⟨Bx (by rw [H.out]),hb⟩
theorem Tp (l:List Entry) (s:Sl) (w:World) (hl:l.length<=2000000) (h:RdL By w w s.v l) :
  Calls Am 284 #[Aa s.a s.n s.c] w fun e w'=>e = .returned (.bool (tf (Ii l)))/\Below w w w':=by
 obtain ⟨A,n,c⟩:=s;obtain rfl:n=l.length:=RdL.at1 (s:=⟨A,n,c⟩) h;by_cases h8:80<l.length
 ·have H:=Br (Cg (show ¬ Ii l from fun h=>by have:=h.1;omega));have h8i:(80:Int)<(l.length:Int):=Bl;go_enter func284,ntmps284;go_wp2;go_ret;exact ⟨Bx H.out.symm,Bs _ _⟩
 have h8i:¬ (80:Int)<(l.length:Int):=Bl;go_enter func284,ntmps284;go_wp2;go_loopw [3] (fun i wr=>∃ k:Nat,1<=k/\(k<=l.length\/k=1)/\i = J U k/\Hid (∀ j (hj:j+1<l.length),j+1<k->Fg l[j] l[j+1]=true)/\Below w w wr) (fun i _=>l.length - (intOf i).toNat);case atStart=>exact ⟨1,Bt _,.inr rfl,rfl,fun j hj h0=>absurd h0 Bl,Bs _ _⟩
 case round =>
  obtain ⟨k,fC,hk,rfl,aY,hb⟩:=hrel;have vS:(0:Int)<(k:Int):=Bl;by_cases aA:k<l.length
  ·have aB:(k:Int)<(l.length:Int):=Bl;obtain ⟨b,o,_,rfl,aJ,_,c0,c1,c2,c3⟩:=(h.below hb).entry aA;obtain ⟨b',o',_,he,_,_,d0,d1,d2,d3⟩:=(h.below hb).entry (k:=k - 1) Bl;simp only [Option.some.injEq,Addr.mk.injEq,and_true] at he;obtain ⟨rfl,rfl⟩:=he;have hs:b<wr:=Ai aJ hb.size;have aM:=Cw wr;cases t2:Fg l[k - 1] l[k]
   ·have H:=Br (Cg (Yb fC aA t2));go_wp2;refine Bz Bm Bm ?_;repeat (go_big_quiet_step ((go_at_call 305;rename_i x;have h1:=K2 l[k - 1] l[k] x.1;exact Fu h1)))
    refine Ak ?_;rintro _ ⟨⟨w1,aG⟩,rfl⟩;clear aM;go_wp2;go_ret;exact ⟨Bx H.out.symm,Bv hb aG⟩
   ·have S:=Br (Vj fC aA aY.out t2);go_wp2;refine Bz Bm Bm ?_;repeat (go_big_quiet_step ((go_at_call 305;rename_i x;have h1:=K2 l[k - 1] l[k] x.1;exact Fu h1)))
    refine Ak ?_;rintro _ ⟨⟨w1,aG⟩,rfl⟩;clear aM;go_wp2;exact ⟨⟨k+1,Bl,Bl,by go_num,S,Bv hb aG⟩,clM⟩
  ·have aB:¬ (k:Int)<(l.length:Int):=Bl;have H:=Br (Di (show Ii l from ⟨Bl,fun j hj=>aY.out j hj Bl⟩));go_wp2;go_ret;exact ⟨Bx H.out.symm,hb⟩
def Hg (l:List Task) (s:Int) (k:Nat):List Nat:=(List.range k).filter fun t=>(l.getD t ⟨0,0,0,0⟩).state == s
def Ia (l:List Task) (s:Int):List Nat:=Hg l s l.length
theorem Oq (l:List Task) (s:Int) (k:Nat) (hk:k<l.length):Hg l s (k+1)=Hg l s k ++ (if l[k].state=s then [k] else []):=by
 unfold Hg;rw [List.range_succ,List.filter_append];congr 1;have:l.getD k ⟨0,0,0,0⟩=l[k]:=by rw [List.getD_eq_getElem?_getD,List.getElem?_eq_getElem hk];rfl
 by_cases h:l[k].state=s
 ·simp [h,this,hk]
 ·simp [h,this,hk]
theorem Py (l:List Task) (s:Int):∀ (k:Nat),k<=l.length->(Hg l s k).length=Dx (l.take k) s
 | 0,_=>by simp [Hg,Dx]
 | k+1,hk=>by
  rw [Oq l s k Bl,Bd,Py l s k Bl];by_cases h:l[k].state=s
  ·rw [Abg Bl h,if_pos h];rfl
  ·rw [Aeq Bl h,if_neg h];rfl
theorem Sv (l:List Task) (s:Int):(Ia l s).length=Dx l s:=by
 unfold Ia;rw [Py l s _ (Bt _),List.take_length]
theorem Li (l:List Task) (s:Int) (k:Nat):(Hg l s k).length<=k:=by
 unfold Hg;exact Ank
theorem Ip (r:Run) (s:Sl×Sl) (st:Int) (w:World) (hl:r.tasks.length<=2000000) (h:Cf.rd w w r s) :
  Calls Am 79 #[G7 r s,J U st] w fun e w'=>∃ v,e = .returned v/\Ow E0 3 w' w v (Ia r.tasks st)/\Below w w w':=by
 obtain ⟨⟨A1,n1,c1⟩,⟨A2,n2,c2⟩⟩:=s;obtain rfl:n2=r.tasks.length:=RdL.at1 (s:=⟨A2,n2,c2⟩) h.2;have h2:RdL C8 w w (Aa A2 r.tasks.length c2) r.tasks:=h.2;obtain ⟨W,aH,X,B0⟩:=bx1 w 67 [J U r.id,J U r.plan.prio,J U r.plan.most,J U r.plan.wait,J U r.plan.tasks,Aa A1 n1 c1,J U r.state,Aa A2 r.tasks.length c2];obtain ⟨j0,bX,jz0,jz1,jz2⟩:=info_parts K4;go_enter func79,ntmps79;go_wp2;rw [<-aH.out];clear aH;go_loopw [5,11] (fun vl i wr=>∃ k:Nat,k<=r.tasks.length/\i = J U k/\Ow E0 3 wr (w+1) vl (Hg r.tasks st k)/\Below w w wr/\w.heap.size<wr.heap.size) (fun _ i _=>r.tasks.length - (intOf i).toNat);case atStart=>exact ⟨0,Ag _,rfl,by simpa [Hg] using Ow.nil E0 3 W (w.heap.size+1),B0,X.lt⟩
 case round =>
  clear X B0;obtain ⟨k,hk,rfl,ho,hb,bL⟩:=hrel;by_cases aA:k<r.tasks.length
  ·have aB:(k:Int)<(r.tasks.length:Int):=Bl;obtain ⟨b,o,_,rfl,aJ,_,d0,d1,d2,d3⟩:=(h2.below hb).task aA;have hS:=Oq r.tasks st k aA;have Hl:=Br (show (Hg r.tasks st k).length<=3000000 by have:=Li r.tasks st k;omega);by_cases hx:r.tasks[k].state=st
   ·rw [if_pos hx] at hS;have S:=Br hS;have t1:(r.tasks[k].state == st)=true:=beq_iff_eq.2 hx;clear hS hx;have ha:Hid (∀ w:World,Below w w ((w.alloc (.cells #[J U r.tasks[k].state,J U r.tasks[k].need,J U r.tasks[k].try_,J U r.tasks[k].until_] 203)).alloc (.cells #[J U (k:Int)] 3))):=fun w=>(Bu).alloc Bo _;go_wp2_with (at_builtin;refine Ci _ E0 Bq rfl (.tmp 20) (.tmp 22) rfl underlying26 bX jz0 jz1 jz2 rfl (l:=Hg r.tasks st k) rfl (ho.below (ha.out wr)) rfl (Rd.one E0 _ _ k Bo rfl 1 (Bt _) (Nat.lt_succ_self _)) Hl.out Bo Bq (by simp;omega) ?_;intro v5 w5 o5 g5 _)
    have aX:=Bv hb (ha.out wr);have W5:=aX.grown g5 aX.size (fun g hg=>by have:=ho.within _ hg;omega);have tK:=g5.size;simp only [World.size_alloc] at tK;refine ⟨⟨k+1,Bl,by go_num,?_,W5,Bl⟩,clM⟩;rw [S.out];exact o5
   ·rw [if_neg hx,List.append_nil] at hS;have S:=Br hS;have t1:(r.tasks[k].state == st)=false:=beq_eq_false_iff_ne.2 hx;clear hS hx;have ha:Hid (∀ w:World,Below w w (w.alloc (.cells #[J U r.tasks[k].state,J U r.tasks[k].need,J U r.tasks[k].try_,J U r.tasks[k].until_] 203))):=fun w=>Bu;exact Aj0
  ·have aB:¬ (k:Int)<(r.tasks.length:Int):=Bl;have aZ:k=r.tasks.length:=Bl;subst aZ;go_wp2;go_ret;exact ⟨_,rfl,ho.more Bl,hb⟩
theorem Vk {es:List (Nat×Nat)} {T t x:Nat} (h:x∈Eg es T t):x<T:=by
 unfold Eg at h;exact List.mem_range.1 (List.mem_filter.1 h).1
theorem Vl (r:Run) (s:Sl×Sl) (t:Nat) (w:World) (hf:Cr r.plan=0) (hT:(r.tasks.length:Int)=r.plan.tasks) (h:Cf.rd w w r s) :
  Calls Am 280 #[G7 r s,J U (t:Int)] w fun e w'=>e = .returned (J U (I1 r t:Nat))/\Below w w w':=by
 obtain ⟨⟨A1,n1,c1⟩,⟨A2,n2,c2⟩⟩:=s;obtain rfl:n2=r.tasks.length:=RdL.at1 (s:=⟨A2,n2,c2⟩) h.2;have h2:RdL C8 w w (Aa A2 r.tasks.length c2) r.tasks:=h.2;have h1:Rd He w w (Aa A1 n1 c1) r.plan.edges:=I2 h.1;have hl:r.tasks.length<=12:=by have:=Er (Dl.1 hf).1;omega
 have HL:=Br (show ∀ x∈Eg (Ea r.plan) r.plan.tasks.toNat t,x<r.tasks.length from fun x hx=>by have:=Vk hx;omega);have HN:=Br (show (Eg (Ea r.plan) r.plan.tasks.toNat t).length<=12 by have:=I9 (Ea r.plan) r.plan.tasks.toNat t;omega);have HD:=Br (show I1 r t=Ij r (Eg (Ea r.plan) r.plan.tasks.toNat t) from rfl);clear hT;obtain ⟨W,aH,X,B0⟩:=bx1 w 67 [J U r.id,J U r.plan.prio,J U r.plan.most,J U r.plan.wait,J U r.plan.tasks,Aa A1 n1 c1,J U r.state,Aa A2 r.tasks.length c2];go_enter func280,ntmps280;go_wp2_with fail
 rw [<-aH.out];clear aH;refine (On r.plan (Aa A1 n1 c1) t _ hf ((h1.below B0).more B0.size)).mono ?_;rintro e w1 ⟨v,rfl,o1,b1⟩;generalize Eg (Ea r.plan) r.plan.tasks.toNat t=L at *
 obtain ⟨A3,c3,rfl,-⟩:=id (Rd.of_own o1);replace B0:=Bv B0 b1;replace X:=X.below b1;have X_:=X.g8;have bS:=HN.out;go_wp2;go_loop [5,13] (fun n i=>∃ k:Nat,k<=L.length/\i = J U k/\n = J U (Ij r (L.take k):Nat)) (fun _ i=>L.length - (intOf i).toNat);case atStart=>exact ⟨0,Ag _,rfl,rfl⟩
 case round =>
  obtain ⟨k,hk,rfl,rfl⟩:=hrel;have ol:=Pc r (L.take k);rw [Az] at ol;by_cases aA:k<L.length
  ·have aB:(k:Int)<(L.length:Int):=Bl;have hx:=HL.out _ (Aw aA);obtain ⟨b3,o3,rfl,cB,e0⟩:=(Rd.of_own o1).nat aA;obtain ⟨b,o,_,rfl,aJ,_,d0,d1,d2,d3⟩:=(h2.below B0).task hx;have hxI:(L[k]:Int)<(r.tasks.length:Int):=Bl;have ht:=Br (Cu hx);by_cases h4:r.tasks[L[k]].state=4
   ·have S:=Br (Xw (r:=r) aA (by rw [ht.out];exact h4));have t4:(r.tasks[L[k]].state != 4)=false:=by simp [h4]
    clear h4;go_wp2;exact ⟨⟨k+1,Bl,by go_num,by rw [S.out]⟩,clM⟩
   ·have S:=Br (Vb (r:=r) aA (by rw [ht.out];exact h4));have t4:(r.tasks[L[k]].state != 4)=true:=by simp [h4]
    clear h4;exact Ann
  ·have aB:¬ (k:Int)<(L.length:Int):=Bl;have aZ:k=L.length:=Bl;subst aZ;go_wp2;go_ret;exact ⟨Cy (by rw [HD.out]),B0⟩
theorem DBox.set {b:Nat} {cs:List Value} {w:World} (h:DBox b cs w) (j:Nat) (hj:j<cs.length) (u:Value):DBox b (cs.set j u) (w.setCell ⟨b,j,Ab⟩ u):=by
 refine ⟨fun i x hx=>?_,fun i=>by rw [J5];exact h.free i,by simpa [World.setCell] using h.lt⟩;have hi:i<cs.length:=by
  have:=(List.getElem?_eq_some_iff.1 hx).1
  simpa using this
 rw [Np w b i j u cs[i] (h.cell i _ (List.getElem?_eq_getElem hi)) ⟨_,h.cell j _ (List.getElem?_eq_getElem hj)⟩];by_cases e:i=j
 ·subst e;rw [List.getElem?_set_self hi] at hx;rw [if_pos rfl];exact hx
 ·rw [List.getElem?_set_ne (Ne.symm e),List.getElem?_eq_getElem hi] at hx;rw [if_neg e];exact hx
theorem DBox.off {b:Nat} {cs:List Value} {w w':World} {row:Option Nat} (h:DBox b cs w) (hg:w.grownBy w' row) (aC:Ac b≠row):DBox b cs w' :=
 h.keep hg.size (fun j=>hg.cell_far ⟨b,j,Ab⟩ h.lt aC) (fun j=>hg.frozen_far ⟨b,j,Ab⟩ h.lt aC)
theorem DBox.setOther {b:Nat} {cs:List Value} {w:World} (h:DBox b cs w) {a:Addr} (aC:b≠a.block) (u:Value):DBox b cs (w.setCell a u) :=
 h.off (Pr w a u) (fun e=>aC (Option.some.inj e))
theorem Bld.setOther {α:Type} {d:Dt α} {E:TypeId} {w:World} {base:Nat} {v:Value} {rs:List (α×d.S)} (h:Bld d E w base v rs) {a:Addr} (ha:a.block<base) (u:Value):Bld d E (w.setCell a u) base v rs:=by
 obtain ⟨G,h1,h2,h3,h4⟩:=h;refine ⟨G,h1.setOther (fun e=>by have:=h1.within _ e;omega) u,h2.keep (by simp [World.setCell]) (fun b hb=>Below.heap_setCell w a u b (fun e=>by have:=(h4 b hb).1;omega)),h3,h4⟩
def Pf (x:Task) (most:Int):Bool :=
 (if x.state=3 then inB x.until_ 1 1000000000 else (x.until_ == 0)) && (if x.state=1 then decide (0<x.need) else if x.state=2 then (x.need == 0) && decide (x.try_<most) else if x.state=6 then true else (x.need == 0) && decide (1<=x.try_))
theorem Yc {x:Task} {N:Nat} {most:Int} (h1:1<=x.state/\x.state<=6) (h2:x.need=N) (h3:0<=x.try_/\x.try_<=most):tf (Oo x N most)=Pf x most:=by
 rw [Bool.eq_iff_iff,Mv];obtain ⟨st,nd,tr,un⟩:=x;unfold Oo Pf;simp only at *
 rcases (show st=1\/st=2\/st=3\/st=4\/st=5\/st=6 by omega) with rfl | rfl | rfl | rfl | rfl | rfl<;>simp [inB]<;>omega
theorem Ahr {a b:Int} (h:(a != b)=true):¬ a=b:=by simpa using h
theorem Ahs {a b:Int} (h:(a != b)=false):a=b:=by simpa using h
theorem Aht {a b:Int} (h:(a == b)=true):a=b:=by simpa using h
theorem Ahu {a b:Int} (h:(a == b)=false):¬ a=b:=by simpa using h
theorem Vm (r:Run) (s:Sl×Sl) (t:Nat) (w:World) (hf:Cr r.plan=0) (hT:(r.tasks.length:Int)=r.plan.tasks) (ht:t<r.tasks.length) (h:Cf.rd w w r s) :
  Calls Am 225 #[G7 r s,J U (t:Int)] w fun e w'=>e = .returned (.bool (tf (Hx r t)))/\Below w w w':=by
 have HC:=Br (show ∀ W,Below w w W->Calls Am 280 #[G7 r s,J U (t:Int)] W fun e w'=>e = .returned (J U (I1 r t:Nat))/\Below W W w' from
  fun W hW=>Vl r s t W hf hT (Cf.rd_more (Cf.rd_below h hW) hW.size))
 obtain ⟨⟨A1,n1,c1⟩,⟨A2,n2,c2⟩⟩:=s;obtain rfl:n2=r.tasks.length:=RdL.at1 (s:=⟨A2,n2,c2⟩) h.2;have h2:RdL C8 w w (Aa A2 r.tasks.length c2) r.tasks:=h.2;have hl:r.tasks.length<=12:=by have:=Er (Dl.1 hf).1;omega
 have HQ:=Br (show tf (Hx r t)=tf (Oo r.tasks[t] (I1 r t) r.plan.most) by unfold Hx;rw [Cu ht]);have kF:(t:Int)<(r.tasks.length:Int):=Bl;clear hT hf h;obtain ⟨b,o,_,hA,aJ,_,d0,d1,d2,d3⟩:=h2.task ht;subst hA;generalize I1 r t=N at *
 generalize r.tasks[t]=x at *
 obtain ⟨W,aH,X,T,B0⟩:=bx2 w 67 [J U r.id,J U r.plan.prio,J U r.plan.most,J U r.plan.wait,J U r.plan.tasks,Aa A1 n1 c1,J U r.state,Aa (Ac ⟨b,o,Ab⟩) r.tasks.length c2] 203 [J U x.state,J U x.need,J U x.try_,J U x.until_];go_enter func225,ntmps225;go_wp2;rw [<-aH.out];clear aH;clear d0 d1 d2 d3;have X_:=X.g8;have T_:=T.g4;have aM:=Cw W;have HC2:=Br (show ∀ u:J2 W,Calls Am 280 #[G7 r (⟨A1,n1,c1⟩,⟨Ac ⟨b,o,Ab⟩,r.tasks.length,c2⟩),J U (t:Int)] u.1 fun e w'=>e = .returned (J U (N:Nat))/\Below u.1 u.1 w' from fun u=>HC.out u.1 (Bv B0 u.2));clear HC;cases a1:inB x.state 1 6;case false =>
  have H:=Br (show tf (Hx r t)=false by rw [HQ.out];exact Cg (fun h=>by have:=Ct.2 h.1;rw [a1] at this;cases this));refine Bz Bm Bm ?_;repeat (go_big_quiet_step ((go_at_call 72;exact Da (fun u=>Cm _ _ _ u.1))))
  refine Ak ?_;rintro _ ⟨⟨w1,b1⟩,rfl⟩;go_wp2;go_ret;exact ⟨Bx H.out.symm,Bv B0 b1⟩
 cases a2:(x.need == (N:Int))
 case false =>
  have a2':(x.need != (N:Int))=true:=by simp [bne,a2]
  have H:=Br (show tf (Hx r t)=false by rw [HQ.out];exact Cg (fun h=>by have:=beq_iff_eq.2 h.2.1;rw [a2] at this;cases this));exact Aju
 have a2':(x.need != (N:Int))=false:=by simp [bne,a2]
 cases a3:inB x.try_ 0 r.plan.most;case false =>
  have H:=Br (show tf (Hx r t)=false by rw [HQ.out];exact Cg (fun h=>by have:=Ct.2 h.2.2.1;rw [a3] at this;cases this));exact Aju
 have H:=Br (show tf (Hx r t)=Pf x r.plan.most by rw [HQ.out];exact Yc (Ct.1 a1) (beq_iff_eq.1 a2) (Ct.1 a3));have a1':=Ct.1 a1;refine Bz Bm Bm ?_;repeat (go_big_quiet_step ((first
  | (go_at_call 72;exact Da (fun u=>Cm _ _ _ u.1))
  | (go_at_call 280;(with_reducible exact Jf HC2.out)))))
 refine Ak ?_;rintro _ ⟨⟨w1,b1⟩,rfl⟩;clear a1 a2 a2' a3 aM HC2;replace X:=X.below b1;clear X_;have X_:=X.g8;replace T:=T.below b1;clear T_;have T_:=T.g4;replace B0:=Bv B0 b1;obtain ⟨st,nd,tr,un⟩:=x;simp only at *
 have S:=(show st=1\/st=2\/st=3\/st=4\/st=5\/st=6 by omega)
 clear a1';rcases S with rfl | rfl | rfl | rfl | rfl | rfl
 all_goals
  go_wp2_with (go_at_call 72;refine (Cm _ _ _ _).mono ?_;rintro e w' ⟨rfl,rfl⟩)
  all_goals
   go_ret;exact ⟨Bx (by
    rw [H.out];unfold Pf;try have e1:=Ahr ‹(un != 0)=true›
    try have e1:=Ahs ‹(un != 0)=false›
    try have e3:=Aht ‹(nd == 0)=true›
    try have e3:=Ahu ‹(nd == 0)=false›
    simp [*]),B0⟩
def Cz:Enc Entry:={ cells:=fun x=>[J U x.prio,J U x.seq,J U x.run,J U x.task],sz:=4,len:=fun _=>rfl,one:=fun _ u hu=>by simp at hu;rcases hu with rfl | rfl | rfl | rfl<;>rfl }
theorem Jw {w:World} {B:Nat} {v:Value} {l:List Entry} (h:RdL By w B v l):Rd Cz w B v l:=by
 obtain ⟨rs,rfl,⟨A,c,rfl,cI,hA⟩,_⟩:=h;refine ⟨A,c,by rw [Ar],by rw [Ar];exact cI,fun hl=>?_⟩;exact Akw
theorem Lj {w:World} {B:Nat} {v:Value} {l:List Entry} (h:Rd Cz w B v l):RdL By w B v l:=by
 obtain ⟨A,c,rfl,cI,hA⟩:=h;refine ⟨l.map fun x=>(x,()),by rw [List.map_map];exact List.map_id' l,⟨A,c,by rw [Ar],by rw [Ar];exact cI,fun hl=>?_⟩,fun _ _=>trivial⟩;exact Akw
theorem Gp:(Am.info? 71).map (fun i=>(i.zero,i.size,i.bytes))=Ac (Ac (.agg #[J U 0,J U 0,J U 0,J U 0]),4,32):=Bm
theorem L9 {α:Type} (l:List (List α)) (k:Nat) (hk:k<l.length):(l.take (k+1)).flatten=(l.take k).flatten ++ l[k]:=by
 rw [Cp l k hk,List.flatten_append];simp
theorem Ik (l:List (List Entry)) (k:Nat):(l.take k).flatten.length<=Ek Cn l:=by
 induction l generalizing k with
 | nil=>simp
 | cons x l ih =>
  cases k with
  | zero=>simp
  | succ k =>
   have:=ih k
   rw [List.take_succ_cons,List.flatten_cons,Bd];unfold Ek at *
   have hx:x.length<=Cn x:=Ck D4 x;simp only [List.length_cons,List.map_cons,List.sum_cons];omega
theorem N9 (y:Yard) (s:Sl×Sl) (w:World) (hl:Ca y<=2000000) (h:Bw.rd w w y s) :
  Calls Am 140 #[Ds y s] w fun e w'=>∃ v,e = .returned v/\Ow Cz 71 w' w v (Ch y)/\Below w w w':=by
 obtain ⟨⟨A1,n1,c1⟩,⟨A2,n2,c2⟩⟩:=s;obtain rfl:n1=y.shelf.length:=RdL.at1 (s:=⟨A1,n1,c1⟩) h.1;have h1:RdL (Dt.list By) w w (Aa A1 y.shelf.length c1) y.shelf:=h.1;have bS:y.shelf.length<=2000000:=Ah (Ck Cn _) (by unfold Ca at hl;omega);have HL:=Br (show ∀ k,(y.shelf.take k).flatten.length<=2000000 from fun k=>Ah (Ik y.shelf k) (by unfold Ca at hl;omega));have HE:=Br (show ∀ k (hk:k<y.shelf.length),y.shelf[k].length<=2000000 from fun k hk=>by
  have:=Dm (cnt:=Cn) (Aw hk)
  have h2:y.shelf[k].length<=Cn y.shelf[k]:=Ck D4 _;unfold Ca at hl;omega)
 clear hl h;have X:=DBox.new 31 [J U y.now,J U y.seq,Aa A1 y.shelf.length c1,Aa A2 n2 c2] w (b:=w) rfl;have B0:Below w w (w.alloc (.cells #[J U y.now,J U y.seq,Aa A1 y.shelf.length c1,Aa A2 n2 c2] 31)):=by repeat (first | exact Bs _ _ | refine Ae ?_ Bp _)
 obtain ⟨j0,bX,jz0,jz1,jz2⟩:=info_parts Gp;go_enter func140,ntmps140;go_wp2;generalize (w.alloc (.cells #[J U y.now,J U y.seq,Aa A1 y.shelf.length c1,Aa A2 n2 c2] 31))=W at *
 go_loopw [3,9] (fun vl i wr=>∃ k:Nat,k<=y.shelf.length/\i = J U k/\Ow Cz 71 wr (w+1) vl (y.shelf.take k).flatten/\Below w w wr/\w.heap.size<wr.heap.size) (fun _ i _=>y.shelf.length - (intOf i).toNat);case atStart=>exact ⟨0,Ag _,rfl,by simpa using Ow.nil Cz 71 W (w.heap.size+1),B0,X.lt⟩
 case round =>
  clear X B0;obtain ⟨k,hk,rfl,ho,hb,bL⟩:=hrel;by_cases aA:k<y.shelf.length
  ·have aB:(k:Int)<(y.shelf.length:Int):=Bl;obtain ⟨b,o,⟨As,ns,cs⟩,rfl,aJ,hr,d0⟩:=(h1.below hb).entryS aA;obtain rfl:ns=y.shelf[k].length:=RdL.at1 (s:=⟨As,ns,cs⟩) hr;have cP:=(Jw hr).more hb.size;have S:=Br (L9 y.shelf k aA);have HLk:=Br (HL.out k);have HEk:=Br (HE.out k aA);go_wp2_with (at_builtin;refine Ci _ Cz Bq rfl (.tmp 13) (.tmp 14) rfl underlying74 bX jz0 jz1 jz2 rfl (l:=(y.shelf.take k).flatten) rfl ho rfl cP (Ah HLk.out Bl) (Ah HEk.out Bl) Bq Bl ?_;intro v5 w5 o5 g5 _)
   have W5:=hb.grown g5 hb.size (fun g hg=>by have:=ho.within _ hg;omega);have tK:=g5.size;refine ⟨⟨v5,_,J U ((k:Int)+1),⟨k+1,Bl,by go_num,?_,W5,Bl⟩,rfl,rfl,rfl⟩,clM⟩;rw [S.out];exact o5
  ·exact Akt
theorem Oa (y:Yard) (s:Sl×Sl) (w:World) (hl:Ca y<=2000000) (h:Bw.rd w w y s) :
  Calls Am 81 #[Ds y s] w fun e w'=>∃ v,e = .returned v/\Ow Cz 71 w' w v (Ch y)/\Below w w w':=by
 obtain ⟨⟨A1,n1,c1⟩,⟨A2,n2,c2⟩⟩:=s;obtain rfl:n1=y.shelf.length:=RdL.at1 (s:=⟨A1,n1,c1⟩) h.1;have h1:RdL (Dt.list By) w w (Aa A1 y.shelf.length c1) y.shelf:=h.1;have bS:y.shelf.length<=2000000:=Ah (Ck Cn _) (by unfold Ca at hl;omega);have HL:=Br (show ∀ k,(y.shelf.take k).flatten.length<=2000000 from fun k=>Ah (Ik y.shelf k) (by unfold Ca at hl;omega));have HE:=Br (show ∀ k (hk:k<y.shelf.length),y.shelf[k].length<=2000000 from fun k hk=>by
  have:=Dm (cnt:=Cn) (Aw hk)
  have h2:y.shelf[k].length<=Cn y.shelf[k]:=Ck D4 _;unfold Ca at hl;omega)
 clear hl h;have X:=(DBox.new 31 [J U y.now,J U y.seq,Aa A1 y.shelf.length c1,Aa A2 n2 c2] w (b:=w) rfl).below ((Bs _ _).alloc (Bt _) (.cells #[] 71));have E:=DBox.new 71 [] (w.alloc (.cells #[J U y.now,J U y.seq,Aa A1 y.shelf.length c1,Aa A2 n2 c2] 31)) (b:=w+1) Bo;have B0:Below w w ((w.alloc (.cells #[J U y.now,J U y.seq,Aa A1 y.shelf.length c1,Aa A2 n2 c2] 31)).alloc (.cells #[] 71)):=by repeat (first | exact Bs _ _ | refine Ae ?_ Bp _)
 have O0:=Ow.empty Cz 71 (w.alloc (.cells #[J U y.now,J U y.seq,Aa A1 y.shelf.length c1,Aa A2 n2 c2] 31)) (g:=w+1) Bo;obtain ⟨j0,bX,jz0,jz1,jz2⟩:=info_parts Gp;clear E;go_enter func81,ntmps81;go_wp2;generalize ((w.alloc (.cells #[J U y.now,J U y.seq,Aa A1 y.shelf.length c1,Aa A2 n2 c2] 31)).alloc (.cells #[] 71))=W at *
 go_loopw [3,4] (fun vl i wr=>∃ k:Nat,k<=y.shelf.length/\i = J U k/\Ow Cz 71 wr (w+1) vl (y.shelf.take k).flatten/\DBox w [J U y.now,J U y.seq,Aa A1 y.shelf.length c1,Aa A2 n2 c2] wr/\Below w w wr) (fun _ i _=>y.shelf.length - (intOf i).toNat);case atStart=>exact ⟨0,Ag _,rfl,by simpa using O0,X,B0⟩
 case round =>
  clear X B0 O0;obtain ⟨k,hk,rfl,ho,X,hb⟩:=hrel;obtain ⟨X_0,X_1,X_2,X_3,X_l⟩:=X.g4;by_cases aA:k<y.shelf.length
  ·have aB:(k:Int)<(y.shelf.length:Int):=Bl;obtain ⟨b,o,⟨As,ns,cs⟩,rfl,aJ,hr,d0⟩:=(h1.below hb).entryS aA;obtain rfl:ns=y.shelf[k].length:=RdL.at1 (s:=⟨As,ns,cs⟩) hr;have cP:=(Jw hr).more hb.size;have S:=Br (L9 y.shelf k aA);have HLk:=Br (HL.out k);have HEk:=Br (HE.out k aA);go_wp2_with (at_builtin;refine Ci _ Cz Bq rfl (.tmp 13) (.tmp 18) rfl underlying74 bX jz0 jz1 jz2 rfl (l:=(y.shelf.take k).flatten) rfl ho rfl cP (Ah HLk.out Bl) (Ah HEk.out Bl) Bq Bl ?_;intro v5 w5 o5 g5 _)
   have W5:=hb.grown g5 hb.size (fun g hg=>by have:=ho.within _ hg;omega);have X5:=X.off g5 (fun e=>by have:=ho.within _ e.symm;omega);refine ⟨⟨k+1,Bl,by go_num,?_,X5,W5⟩,clM⟩;rw [S.out];exact o5
  ·exact Akt
theorem Zn (r:Run) (s:Sl×Sl) (t:Nat) (w:World) (hf:Cr r.plan=0) (hT:(r.tasks.length:Int)=r.plan.tasks) (ht:t<r.tasks.length) (dX:1<=r.tasks[t].state/\r.tasks[t].state<=6) (h:Cf.rd w w r s) :
  Calls Am 285 #[G7 r s,J U (t:Int)] w fun e w'=>e = .returned (.bool (tf (Hx r t)))/\Below w w w':=by
 obtain ⟨⟨A1,n1,c1⟩,⟨A2,n2,c2⟩⟩:=s;obtain rfl:n2=r.tasks.length:=RdL.at1 (s:=⟨A2,n2,c2⟩) h.2;have h2:RdL C8 w w (Aa A2 r.tasks.length c2) r.tasks:=h.2;have h1:Rd He w w (Aa A1 n1 c1) r.plan.edges:=I2 h.1;have hz:=Dl.1 hf;have hl:r.tasks.length<=12:=by have:=Er hz.1;omega
 have HQ:=Br (show tf (Hx r t)=tf (Oo r.tasks[t] (I1 r t) r.plan.most) by unfold Hx;rw [Cu ht]);have kF:(t:Int)<(r.tasks.length:Int):=Bl;have HL:=Br (show ∀ x∈Eg (Ea r.plan) r.plan.tasks.toNat t,x<r.tasks.length from fun x hx=>by have:=Vk hx;omega);have HN:=Br (show (Eg (Ea r.plan) r.plan.tasks.toNat t).length<=12 by have:=I9 (Ea r.plan) r.plan.tasks.toNat t;omega);have HD:=Br (show I1 r t=Ij r (Eg (Ea r.plan) r.plan.tasks.toNat t) from rfl);have HS:=Br dX;have HZ:=Br hz;clear hT hf h dX hz;obtain ⟨b,o,_,hA,aJ,_,d0,d1,d2,d3⟩:=h2.task ht;subst hA;obtain ⟨W,aH,X,T,B0⟩:=bx2 w 67 [J U r.id,J U r.plan.prio,J U r.plan.most,J U r.plan.wait,J U r.plan.tasks,Aa A1 n1 c1,J U r.state,Aa (Ac ⟨b,o,Ab⟩) r.tasks.length c2] 203 [J U r.tasks[t].state,J U r.tasks[t].need,J U r.tasks[t].try_,J U r.tasks[t].until_];go_enter func285,ntmps285;go_wp2_with fail
 rw [<-aH.out];clear aH;clear d0 d1 d2 d3;refine (Ol r.plan (Aa A1 n1 c1) t _ HZ.out.1 HZ.out.2.1 HZ.out.2.2.1 ((h1.below B0).more B0.size)).mono ?_;rintro e w1 ⟨v,rfl,o1,b1⟩;generalize Eg (Ea r.plan) r.plan.tasks.toNat t=L at *
 generalize I1 r t=N at *
 obtain ⟨A3,c3,rfl,-⟩:=id (Rd.of_own o1);replace B0:=Bv B0 b1;replace X:=X.below b1;replace T:=T.below b1;have bS:=HN.out;go_wp2;go_loopw [6,8] (fun n i wr=>∃ k:Nat,k<=L.length/\i = J U k/\n = J U (Ij r (L.take k):Nat)/\Below w1 w1 wr) (fun _ i _=>L.length - (intOf i).toNat);case atStart=>exact ⟨0,Ag _,rfl,rfl,Bs _ _⟩
 case round =>
  obtain ⟨k,hk,rfl,rfl,hb⟩:=hrel;have ol:=Pc r (L.take k);rw [Az] at ol;by_cases aA:k<L.length
  ·have aB:(k:Int)<(L.length:Int):=Bl;have hx:=HL.out _ (Aw aA);obtain ⟨b3,o3,rfl,cB,e0⟩:=(Rd.of_own (o1.below hb)).nat aA;obtain ⟨b2,o2,_,he,mE,_,d0,d1,d2,d3⟩:=(h2.below (Bv B0 hb)).task hx;simp only [Option.some.injEq,Addr.mk.injEq,and_true] at he;obtain ⟨rfl,rfl⟩:=he;have bE:b<wr:=Ai aJ (Bv B0 hb).size;have hxI:(L[k]:Int)<(r.tasks.length:Int):=Bl;have vP:=Br (Cu hx);replace X:=X.below hb;have X_:=X.g8;by_cases h4:r.tasks[L[k]].state=4
   ·have S:=Br (Xw (r:=r) aA (by rw [vP.out];exact h4));have t4:(r.tasks[L[k]].state != 4)=false:=by simp [h4]
    clear h4;go_wp2;go_quiet (fail);go_wp2;exact ⟨⟨k+1,Bl,by go_num,by rw [S.out],Dq hb _⟩,clM⟩
   ·have S:=Br (Vb (r:=r) aA (by rw [vP.out];exact h4));have t4:(r.tasks[L[k]].state != 4)=true:=by simp [h4]
    clear h4;go_wp2;go_quiet (fail);go_wp2;exact ⟨⟨k+1,Bl,by go_num,by rw [S.out];go_num,Dq hb _⟩,clM⟩
  ·have aB:¬ (k:Int)<(L.length:Int):=Bl;have aZ:k=L.length:=Bl;subst aZ;replace X:=X.below hb;replace T:=T.below hb;have X_:=X.g8;have T_:=T.g4;have HN2:=Br (show (N:Int)=(Ij r (L.take L.length):Nat) by rw [HD.out,List.take_length]);have HSt:=HS.out;have B1:=Bv B0 hb;clear hb o1 B0;generalize r.tasks[t]=x at *
   generalize (Ij r (L.take L.length):Nat)=M at *
   generalize hM:(M:Int)=m at *
   have cL:0<=m:=Bl;have bZ:m<=12:=Bl;clear hM;by_cases a2:x.need=m;case neg =>
    have a2':(x.need != m)=true:=by simp [a2]
    have H:=Br (show tf (Hx r t)=false by rw [HQ.out];exact Cg (fun h=>a2 (by rw [h.2.1,HN2.out])));clear a2;go_wp2;go_ret;exact ⟨Bx H.out.symm,B1⟩
   have a2':(x.need != m)=false:=by simp [a2]
   cases a3:inB x.try_ 0 r.plan.most;case false =>
    have H:=Br (show tf (Hx r t)=false by rw [HQ.out];exact Cg (fun h=>by have:=Ct.2 h.2.2.1;rw [a3] at this;cases this));clear a2;go_wp2_with (go_at_call 90;refine (Cd _ _ _ _).mono ?_;rintro e w' ⟨rfl,rfl⟩)
    go_ret;exact ⟨Bx H.out.symm,B1⟩
   have H:=Br (show tf (Hx r t)=Pf x r.plan.most by rw [HQ.out];exact Yc HSt (by rw [a2,HN2.out]) (Ct.1 a3));obtain ⟨st,nd,tr,un⟩:=x;simp only at *
   subst a2;have S:=(show st=1\/st=2\/st=3\/st=4\/st=5\/st=6 by omega)
   clear HSt;rcases S with rfl | rfl | rfl | rfl | rfl | rfl
   all_goals
    go_wp2_with (go_at_call 90;refine (Cd _ _ _ _).mono ?_;rintro e w' ⟨rfl,rfl⟩)
    all_goals
     go_ret;exact ⟨Bx (by
      rw [H.out];unfold Pf;try have e1:=Ahr ‹(un != 0)=true›
      try have e1:=Ahs ‹(un != 0)=false›
      try have e3:=Aht ‹(nd == 0)=true›
      try have e3:=Ahu ‹(nd == 0)=false›
      simp [*]),B1⟩
def stI (c1 c2 c3 c4 c5 c6 n:Int):Int:=if c4=n then 2 else if c5=1/\c1+c2+c3=0 then 3 else if c5=0/\0<c6/\c1+c2+c3=0 then 4 else if c5=0/\c6=0 then 1 else 0
theorem Aer (l:List Task):stL l=stI (Dx l 1:Nat) (Dx l 2:Nat) (Dx l 3:Nat) (Dx l 4:Nat) (Dx l 5:Nat) (Dx l 6:Nat) (l.length:Nat):=by
 unfold stL stI La;generalize Dx l 1=a;generalize Dx l 2=b;generalize Dx l 3=c;generalize Dx l 4=d;generalize Dx l 5=e;generalize Dx l 6=f;repeat' split
 all_goals first | rfl | (exfalso;omega)
theorem Lq {l:List Task} {k:Nat} (hk:k<l.length) {s:Int} : ((Dx (l.take (k+1)) s:Nat):Int)=(Dx (l.take k) s:Nat)+(if l[k].state=s then 1 else 0):=by
 by_cases h:l[k].state=s
 ·rw [Abg hk h,if_pos h];rfl
 ·rw [Aeq hk h,if_neg h];simp
theorem Pz (r:Run) (s:Sl×Sl) (w:World) (hl:r.tasks.length<=2000000) (dX:∀ x∈r.tasks,1<=x.state/\x.state<=6) (h:Cf.rd w w r s) :
  Calls Am 286 #[G7 r s] w fun e w'=>e = .returned (J U (stL r.tasks))/\Below w w w':=by
 obtain ⟨⟨A1,n1,c1⟩,⟨A2,n2,c2⟩⟩:=s;obtain rfl:n2=r.tasks.length:=RdL.at1 (s:=⟨A2,n2,c2⟩) h.2;have h2:RdL C8 w w (Aa A2 r.tasks.length c2) r.tasks:=h.2;have HS:=Br (Aer r.tasks);have HT:=Br dX;clear h dX;obtain ⟨W,aH,X,E,B0⟩:=bx2 w 67 [J U r.id,J U r.plan.prio,J U r.plan.most,J U r.plan.wait,J U r.plan.tasks,Aa A1 n1 c1,J U r.state,Aa A2 r.tasks.length c2] 3 [J U 0,J U 0,J U 0,J U 0,J U 0,J U 0,J U 0];go_enter func286,ntmps286;go_wp2;rw [<-aH.out];clear aH;go_loopw [4] (fun i wr=>∃ k:Nat,k<=r.tasks.length/\i = J U k/\DBox w [J U r.id,J U r.plan.prio,J U r.plan.most,J U r.plan.wait,J U r.plan.tasks,Aa A1 n1 c1,J U r.state,Aa A2 r.tasks.length c2] wr/\DBox (w+1) [J U 0,J U (Dx (r.tasks.take k) 1:Nat),J U (Dx (r.tasks.take k) 2:Nat),J U (Dx (r.tasks.take k) 3:Nat),J U (Dx (r.tasks.take k) 4:Nat),J U (Dx (r.tasks.take k) 5:Nat),J U (Dx (r.tasks.take k) 6:Nat)] wr/\Below w w wr) (fun i _=>r.tasks.length - (intOf i).toNat);case atStart=>exact ⟨0,Ag _,rfl,X,E,B0⟩
 case round =>
  clear X E B0;obtain ⟨k,hk,rfl,X,E,hb⟩:=hrel;have X_:=X.g8;have E_:=E.g7;have Ef:=E.free;have L1:=Pd (r.tasks.take k) 1;have L2:=Pd (r.tasks.take k) 2;have L3:=Pd (r.tasks.take k) 3;have L4:=Pd (r.tasks.take k) 4;have L5:=Pd (r.tasks.take k) 5;have L6:=Pd (r.tasks.take k) 6;rw [Az] at L1 L2 L3 L4 L5 L6;by_cases aA:k<r.tasks.length
  ·have aB:(k:Int)<(r.tasks.length:Int):=Bl;obtain ⟨b,o,_,rfl,aJ,_,d0,d1,d2,d3⟩:=(h2.below hb).task aA;have hs:=hb.size;have S1:=Br (Lq (s:=1) aA);have S2:=Br (Lq (s:=2) aA);have S3:=Br (Lq (s:=3) aA);have S4:=Br (Lq (s:=4) aA);have S5:=Br (Lq (s:=5) aA);have S6:=Br (Lq (s:=6) aA);have dX:=HT.out _ (Aw aA);generalize r.tasks[k].state=st at *
   have S:=(show st=1\/st=2\/st=3\/st=4\/st=5\/st=6 by omega)
   clear dX;rcases S with rfl | rfl | rfl | rfl | rfl | rfl
   ·go_wp2;have E2:=E.set 1 Bo (J U ((Dx (r.tasks.take k) 1:Nat)+1));refine ⟨⟨k+1,Bl,by go_num,X.setOther Bo _,?_,Ad hb Bo _⟩,clM⟩;rw [S1.out,S2.out,S3.out,S4.out,S5.out,S6.out];simpa using E2
   ·go_wp2;have E2:=E.set 2 Bo (J U ((Dx (r.tasks.take k) 2:Nat)+1));refine ⟨⟨k+1,Bl,by go_num,X.setOther Bo _,?_,Ad hb Bo _⟩,clM⟩;rw [S1.out,S2.out,S3.out,S4.out,S5.out,S6.out];simpa using E2
   ·go_wp2;have E2:=E.set 3 Bo (J U ((Dx (r.tasks.take k) 3:Nat)+1));refine ⟨⟨k+1,Bl,by go_num,X.setOther Bo _,?_,Ad hb Bo _⟩,clM⟩;rw [S1.out,S2.out,S3.out,S4.out,S5.out,S6.out];simpa using E2
   ·go_wp2;have E2:=E.set 4 Bo (J U ((Dx (r.tasks.take k) 4:Nat)+1));refine ⟨⟨k+1,Bl,by go_num,X.setOther Bo _,?_,Ad hb Bo _⟩,clM⟩;rw [S1.out,S2.out,S3.out,S4.out,S5.out,S6.out];simpa using E2
   ·go_wp2;have E2:=E.set 5 Bo (J U ((Dx (r.tasks.take k) 5:Nat)+1));refine ⟨⟨k+1,Bl,by go_num,X.setOther Bo _,?_,Ad hb Bo _⟩,clM⟩;rw [S1.out,S2.out,S3.out,S4.out,S5.out,S6.out];simpa using E2
   ·go_wp2;have E2:=E.set 6 Bo (J U ((Dx (r.tasks.take k) 6:Nat)+1));refine ⟨⟨k+1,Bl,by go_num,X.setOther Bo _,?_,Ad hb Bo _⟩,clM⟩;rw [S1.out,S2.out,S3.out,S4.out,S5.out,S6.out];simpa using E2
  ·have aB:¬ (k:Int)<(r.tasks.length:Int):=Bl;have aZ:k=r.tasks.length:=Bl;subst aZ;rw [List.take_length] at *
   generalize rX:((Dx r.tasks 1:Nat):Int)=c1' at *
   generalize rY:((Dx r.tasks 2:Nat):Int)=c2' at *
   generalize qB:((Dx r.tasks 3:Nat):Int)=c3' at *
   generalize hc4:((Dx r.tasks 4:Nat):Int)=c4' at *
   generalize vU:((Dx r.tasks 5:Nat):Int)=c5' at *
   generalize hc6:((Dx r.tasks 6:Nat):Int)=c6' at *
   have m1:0<=c1'/\c1'<=2000000:=Bl;have m2:0<=c2'/\c2'<=2000000:=Bl;have m3:0<=c3'/\c3'<=2000000:=Bl;have m4:0<=c4':=Bl;have m5:0<=c5':=Bl;have m6:0<=c6':=Bl;clear rX rY qB hc4 vU hc6 L1 L2 L3 L4 L5 L6;have w1':U.wrap (c1'+c2')=c1'+c2':=Aq _ Bl;have w2':U.wrap (c1'+c2'+c3')=c1'+c2'+c3':=Aq _ Bl;have aM:=Cw wr;by_cases q1:c4'=(r.tasks.length:Int)
   ·have H:=Br (show stL r.tasks=2 by rw [HS.out];unfold stI;rw [if_pos q1]);have q1':(c4' == (r.tasks.length:Int))=true:=beq_iff_eq.2 q1;clear q1;exact Ai3
   have q1':(c4' == (r.tasks.length:Int))=false:=beq_eq_false_iff_ne.2 q1;by_cases q2:c1'+c2'+c3'=0;all_goals
    first
     | (have q2':(c1'+c2'+c3' == 0)=true:=beq_iff_eq.2 q2)
     | (have q2':(c1'+c2'+c3' == 0)=false:=beq_eq_false_iff_ne.2 q2)
    by_cases q3:c5'=1
    ·have q3':(c5' == 1)=true:=beq_iff_eq.2 q3;have q4':(c5' == 0)=false:=beq_eq_false_iff_ne.2 Bl;have H:=Br (show stL r.tasks=stI c1' c2' c3' c4' c5' c6' r.tasks.length from HS.out);simp only [stI,if_neg q1,q2,q3,and_self,if_true,and_true,true_and,if_false,false_and,and_false,show ¬ ((1:Int)=0) by omega] at H;clear q1 q2 q3;exact Ai3
    have q3':(c5' == 1)=false:=beq_eq_false_iff_ne.2 q3;by_cases q4:c5'=0
    ·have q4':(c5' == 0)=true:=beq_iff_eq.2 q4;by_cases q5:c6'=0
     ·have q5':(c6' == 0)=true:=beq_iff_eq.2 q5;have q6':decide (0<c6')=false:=decide_eq_false Bl;have H:=Br (show stL r.tasks=stI c1' c2' c3' c4' c5' c6' r.tasks.length from HS.out);simp only [stI,if_neg q1,q2,q3,q4,q5,and_self,if_true,and_true,true_and,if_false,false_and,and_false,show ¬ ((0:Int)=1) by omega,show ¬ ((0:Int)<0) by omega] at H;clear q1 q2 q3 q4 q5;exact Ai3
     ·have q5':(c6' == 0)=false:=beq_eq_false_iff_ne.2 q5;have q6:0<c6':=Bl;have q6':decide (0<c6')=true:=decide_eq_true q6;have H:=Br (show stL r.tasks=stI c1' c2' c3' c4' c5' c6' r.tasks.length from HS.out);simp only [stI,if_neg q1,q2,q3,q4,q5,q6,and_self,if_true,and_true,true_and,if_false,false_and,and_false,show ¬ ((0:Int)=1) by omega] at H;clear q1 q2 q3 q4 q5 q6;exact Ai3
    ·have q4':(c5' == 0)=false:=beq_eq_false_iff_ne.2 q4;have H:=Br (show stL r.tasks=stI c1' c2' c3' c4' c5' c6' r.tasks.length from HS.out);simp only [stI,if_neg q1,q2,q3,q4,and_self,if_true,and_true,true_and,if_false,false_and,and_false] at H;clear q1 q2 q3 q4;exact Ai3
theorem Abp {y:Yard} {e:Entry} (h:Dn y e.run = -1):Fc y e=false:=Cg (fun hh=>by have:=hh.1;omega)
theorem Yd {y:Yard} {e:Entry} {k:Nat} (hk:k<y.runs.length) (h:Dn y e.run=k) (hq:inB e.task 0 ((y.runs[k].tasks.length:Int) - 1)=false):Fc y e=false :=
 Cg (fun hh=>by
  have h2:=hh.2.1;rw [Ha hk h] at h2
  have:=Ct.2 (show 0<=e.task/\e.task<=(y.runs[k].tasks.length:Int) - 1 by omega)
  rw [hq] at this;cases this)
theorem Abq {y:Yard} {e:Entry} {k t:Nat} (hk:k<y.runs.length) (h:Dn y e.run=k) (ht:t<y.runs[k].tasks.length) (he:e.task=t):Fc y e=(y.runs[k].tasks[t].state == 2):=by
 unfold Fc;rw [Bool.eq_iff_iff,Mv,beq_iff_eq];unfold Vc;rw [Ha hk h,he,Int.toNat_natCast,Cu ht];constructor
 ·intro hh;exact hh.2.2
 ·intro hh;exact ⟨Bl,Bl,hh⟩
theorem Hf {y:Yard} {k:Nat} (hl:Ca y<=2000000) (hk:k<y.runs.length):y.runs[k].tasks.length<=2000000:=by
 have h1:=Dm (cnt:=Co) (Aw hk);have h2:y.runs[k].tasks.length<=Ek D7 y.runs[k].tasks:=Ck _ _;unfold Ca at hl;unfold Co at h1;unfold Co at hl;omega
theorem P4 (y:Yard) (s:Sl×Sl) (e:Entry) (w:World) (hl:Ca y<=2000000) (h:Bw.rd w w y s) :
  Calls Am 152 #[Ds y s,G6 e ()] w fun e' w'=>e' = .returned (.bool (Fc y e))/\Below w w w':=by
 have HR:=Br (show ∀ W,Below w w W->Bw.rd W W y s from fun W hW=>Bw.rd_more (Bw.rd_below h hW) hW.size);obtain ⟨⟨A1,n1,c1⟩,⟨A2,n2,c2⟩⟩:=s;obtain rfl:n2=y.runs.length:=RdL.at1 (s:=⟨A2,n2,c2⟩) h.2;have h2:RdL Cf w w (Aa A2 y.runs.length c2) y.runs:=h.2;have bS:y.runs.length<=2000000:=Ah (Ck Co _) (by unfold Ca at hl;omega);obtain ⟨pr,sq,rn,tk⟩:=e;have X:=(DBox.new 31 [J U y.now,J U y.seq,Aa A1 n1 c1,Aa A2 y.runs.length c2] w (b:=w) rfl).below ((Bs _ _).alloc (Bt _) (.cells #[J U (⟨pr,sq,rn,tk⟩:Entry).prio,J U (⟨pr,sq,rn,tk⟩:Entry).seq,J U (⟨pr,sq,rn,tk⟩:Entry).run,J U (⟨pr,sq,rn,tk⟩:Entry).task] 71));have E:=DBox.new 71 [J U (⟨pr,sq,rn,tk⟩:Entry).prio,J U (⟨pr,sq,rn,tk⟩:Entry).seq,J U (⟨pr,sq,rn,tk⟩:Entry).run,J U (⟨pr,sq,rn,tk⟩:Entry).task] (w.alloc (.cells #[J U y.now,J U y.seq,Aa A1 n1 c1,Aa A2 y.runs.length c2] 31)) (b:=w+1) Bo;have B0:Below w w ((w.alloc (.cells #[J U y.now,J U y.seq,Aa A1 n1 c1,Aa A2 y.runs.length c2] 31)).alloc (.cells #[J U (⟨pr,sq,rn,tk⟩:Entry).prio,J U (⟨pr,sq,rn,tk⟩:Entry).seq,J U (⟨pr,sq,rn,tk⟩:Entry).run,J U (⟨pr,sq,rn,tk⟩:Entry).task] 71)):=by repeat (first | exact Bs _ _ | refine Ae ?_ Bp _)
 have C:=Fj y (⟨A1,n1,c1⟩,⟨A2,y.runs.length,c2⟩) rn ((w.alloc (.cells #[J U y.now,J U y.seq,Aa A1 n1 c1,Aa A2 y.runs.length c2] 31)).alloc (.cells #[J U (⟨pr,sq,rn,tk⟩:Entry).prio,J U (⟨pr,sq,rn,tk⟩:Entry).seq,J U (⟨pr,sq,rn,tk⟩:Entry).run,J U (⟨pr,sq,rn,tk⟩:Entry).task] 71)) hl (HR.out _ B0);clear h;rcases E9 y rn with hr | ⟨k,hk,hr⟩
 ·have H:=Br (Abp (e:=⟨pr,sq,rn,tk⟩) hr);rw [hr] at C;clear hr;go_enter func152,ntmps152;exact Aiy
 ·have uR:=Hf hl hk;have HR2:=Br hr;rw [hr] at C;clear hr;go_enter func152,ntmps152;go_wp2_with fail
  generalize ((w.alloc (.cells #[J U y.now,J U y.seq,Aa A1 n1 c1,Aa A2 y.runs.length c2] 31)).alloc (.cells #[J U (⟨pr,sq,rn,tk⟩:Entry).prio,J U (⟨pr,sq,rn,tk⟩:Entry).seq,J U (⟨pr,sq,rn,tk⟩:Entry).run,J U (⟨pr,sq,rn,tk⟩:Entry).task] 71))=W at *
  refine C.mono ?_;rintro e1 w1 ⟨rfl,b1⟩;replace X:=X.below b1;replace E:=E.below b1;have X_:=X.g4;have E_:=E.g4;replace B0:=Bv B0 b1;obtain ⟨b,o,⟨s1,⟨At,nt,ct⟩⟩,eJ,aJ,cP,c0_,c1_,c2_,c3_,c4_,c5_,c6_,c7_⟩:=(h2.below B0).run hk;subst eJ;obtain rfl:nt=y.runs[k].tasks.length:=RdL.at1 (s:=⟨At,nt,ct⟩) cP.2;have h3:RdL C8 w1 w (Aa At y.runs[k].tasks.length ct) y.runs[k].tasks:=cP.2;have gJ:(k:Int)<(y.runs.length:Int):=Bl;have cE:decide ((0:Int)<=(k:Int))=true:=decide_eq_true Bl;have aM:=Cw w1;have bE:b<w1:=Ai aJ B0.size;have wr1:U.wrap ((y.runs[k].tasks.length:Int) - 1)=(y.runs[k].tasks.length:Int) - 1:=Aq _ Bl;cases q:inB tk 0 ((y.runs[k].tasks.length:Int) - 1)
  ·have H:=Br (Yd (e:=⟨pr,sq,rn,tk⟩) hk HR2.out q);exact Akh
  ·have qq:=Ct.1 q;obtain ⟨t,rfl⟩:=Ap qq.1;have ht:t<y.runs[k].tasks.length:=Bl;obtain ⟨b',o',_,sG,bF,_,d0,d1,d2,d3⟩:=h3.task ht;subst sG;have eB:b'<w1:=Ai bF B0.size;have kF:(t:Int)<(y.runs[k].tasks.length:Int):=Bl;have H:=Br (Abq (e:=⟨pr,sq,rn,(t:Int)⟩) hk HR2.out ht rfl);clear qq;generalize y.runs[k].tasks[t].state=st at *
   cases q2:(st == 2)
   all_goals
    rw [q2] at H;exact Akh
theorem P5 (y:Yard) (s:Sl×Sl) (e:Entry) (w:World) (hl:Ca y<=2000000) (h:Bw.rd w w y s) :
  Calls Am 82 #[Ds y s,G6 e ()] w fun e' w'=>e' = .returned (.bool (Fc y e))/\Below w w w':=by
 have HR:=Br (show ∀ W,Below w w W->Bw.rd W W y s from fun W hW=>Bw.rd_more (Bw.rd_below h hW) hW.size);obtain ⟨⟨A1,n1,c1⟩,⟨A2,n2,c2⟩⟩:=s;obtain rfl:n2=y.runs.length:=RdL.at1 (s:=⟨A2,n2,c2⟩) h.2;have h2:RdL Cf w w (Aa A2 y.runs.length c2) y.runs:=h.2;have bS:y.runs.length<=2000000:=Ah (Ck Co _) (by unfold Ca at hl;omega);obtain ⟨pr,sq,rn,tk⟩:=e;have X:=(DBox.new 31 [J U y.now,J U y.seq,Aa A1 n1 c1,Aa A2 y.runs.length c2] w (b:=w) rfl).below ((Bs _ _).alloc (Bt _) (.cells #[J U (⟨pr,sq,rn,tk⟩:Entry).prio,J U (⟨pr,sq,rn,tk⟩:Entry).seq,J U (⟨pr,sq,rn,tk⟩:Entry).run,J U (⟨pr,sq,rn,tk⟩:Entry).task] 71));have E:=DBox.new 71 [J U (⟨pr,sq,rn,tk⟩:Entry).prio,J U (⟨pr,sq,rn,tk⟩:Entry).seq,J U (⟨pr,sq,rn,tk⟩:Entry).run,J U (⟨pr,sq,rn,tk⟩:Entry).task] (w.alloc (.cells #[J U y.now,J U y.seq,Aa A1 n1 c1,Aa A2 y.runs.length c2] 31)) (b:=w+1) Bo;have B0:Below w w ((w.alloc (.cells #[J U y.now,J U y.seq,Aa A1 n1 c1,Aa A2 y.runs.length c2] 31)).alloc (.cells #[J U (⟨pr,sq,rn,tk⟩:Entry).prio,J U (⟨pr,sq,rn,tk⟩:Entry).seq,J U (⟨pr,sq,rn,tk⟩:Entry).run,J U (⟨pr,sq,rn,tk⟩:Entry).task] 71)):=by repeat (first | exact Bs _ _ | refine Ae ?_ Bp _)
 have C:=Fi y (⟨A1,n1,c1⟩,⟨A2,y.runs.length,c2⟩) rn ((w.alloc (.cells #[J U y.now,J U y.seq,Aa A1 n1 c1,Aa A2 y.runs.length c2] 31)).alloc (.cells #[J U (⟨pr,sq,rn,tk⟩:Entry).prio,J U (⟨pr,sq,rn,tk⟩:Entry).seq,J U (⟨pr,sq,rn,tk⟩:Entry).run,J U (⟨pr,sq,rn,tk⟩:Entry).task] 71)) hl (HR.out _ B0);clear h;rcases E9 y rn with hr | ⟨k,hk,hr⟩
 ·have H:=Br (Abp (e:=⟨pr,sq,rn,tk⟩) hr);rw [hr] at C;clear hr;go_enter func82,ntmps82;exact Aiy
 ·have uR:=Hf hl hk;have HR2:=Br hr;rw [hr] at C;clear hr;go_enter func82,ntmps82;go_wp2_with fail
  generalize ((w.alloc (.cells #[J U y.now,J U y.seq,Aa A1 n1 c1,Aa A2 y.runs.length c2] 31)).alloc (.cells #[J U (⟨pr,sq,rn,tk⟩:Entry).prio,J U (⟨pr,sq,rn,tk⟩:Entry).seq,J U (⟨pr,sq,rn,tk⟩:Entry).run,J U (⟨pr,sq,rn,tk⟩:Entry).task] 71))=W at *
  refine C.mono ?_;rintro e1 w1 ⟨rfl,b1⟩;replace X:=X.below b1;replace E:=E.below b1;have X_:=X.g4;have E_:=E.g4;replace B0:=Bv B0 b1;obtain ⟨b,o,⟨s1,⟨At,nt,ct⟩⟩,eJ,aJ,cP,c0_,c1_,c2_,c3_,c4_,c5_,c6_,c7_⟩:=(h2.below B0).run hk;subst eJ;obtain rfl:nt=y.runs[k].tasks.length:=RdL.at1 (s:=⟨At,nt,ct⟩) cP.2;have h3:RdL C8 w1 w (Aa At y.runs[k].tasks.length ct) y.runs[k].tasks:=cP.2;have gJ:(k:Int)<(y.runs.length:Int):=Bl;have cE:decide ((0:Int)<=(k:Int))=true:=decide_eq_true Bl;have aM:=Cw w1;have bE:b<w1:=Ai aJ B0.size;have wr1:U.wrap ((y.runs[k].tasks.length:Int) - 1)=(y.runs[k].tasks.length:Int) - 1:=Aq _ Bl;cases q:inB tk 0 ((y.runs[k].tasks.length:Int) - 1)
  ·have H:=Br (Yd (e:=⟨pr,sq,rn,tk⟩) hk HR2.out q);exact Aki
  ·have qq:=Ct.1 q;obtain ⟨t,rfl⟩:=Ap qq.1;have ht:t<y.runs[k].tasks.length:=Bl;obtain ⟨b',o',_,sG,bF,_,d0,d1,d2,d3⟩:=h3.task ht;subst sG;have eB:b'<w1:=Ai bF B0.size;have kF:(t:Int)<(y.runs[k].tasks.length:Int):=Bl;have H:=Br (Abq (e:=⟨pr,sq,rn,(t:Int)⟩) hk HR2.out ht rfl);clear qq;generalize y.runs[k].tasks[t].state=st at *
   cases q2:(st == 2)
   all_goals
    rw [q2] at H;exact Aki
theorem Vn {now:Int} {r:Run} {es:List Entry} {t k:Nat} (ht:t<r.tasks.length) (h2:r.tasks[t].state=2) (hk:k<es.length) (hm:Ki r.id t es[k]=true) (hp:¬ es[k].prio=r.plan.prio):¬ Kp now r es:=by
 intro h;have h3:=(h t ht).1;rw [Cu ht] at h3;exact hp ((h3 h2).1 _ (Aw hk) hm)
theorem Vo {now:Int} {r:Run} {es:List Entry} {t:Nat} (ht:t<r.tasks.length) (h2:r.tasks[t].state=2) (hm:¬ Jp r.id t es=1):¬ Kp now r es:=by
 intro h;have h3:=(h t ht).1;rw [Cu ht] at h3;exact hm (h3 h2).2
theorem Vp {now:Int} {r:Run} {es:List Entry} {t:Nat} (ht:t<r.tasks.length) (h2:r.tasks[t].state=3) (hm:inB r.tasks[t].until_ (now+1) (now+r.plan.wait)=false):¬ Kp now r es:=by
 intro h;have h3:=(h t ht).2;rw [Cu ht] at h3
 have:=Ct.2 (h3 h2)
 rw [hm] at this;cases this
theorem Ph {now:Int} {r:Run} {es:List Entry} {t:Nat} (ht:t<r.tasks.length) (h1:r.tasks[t].state=2->(∀ j (hj:j<es.length),Ki r.id t es[j]=true->es[j].prio=r.plan.prio)/\Jp r.id t es=1)
  (h2:r.tasks[t].state=3->inB r.tasks[t].until_ (now+1) (now+r.plan.wait)=true):Pv now r es t:=by
 unfold Pv;rw [Cu ht];refine ⟨fun h=>⟨fun e he hm=>?_,(h1 h).2⟩,fun h=>Ct.1 (h2 h)⟩;obtain ⟨j,hj,rfl⟩:=List.getElem_of_mem he;exact (h1 h).1 j hj hm
def Ju (r:Run) (t:Nat) (es:List Entry) (k:Nat):Prop:=∀ j (hj:j<es.length),j<k->Ki r.id t es[j]=true->es[j].prio=r.plan.prio
theorem Kq {r:Run} {t:Nat} {es:List Entry} {k:Nat} (h:Ju r t es k) (hk:k<es.length) (hp:Ki r.id t es[k]=true->es[k].prio=r.plan.prio):Ju r t es (k+1):=by
 intro j hj gB hm;by_cases e:j=k
 ·subst e;exact hp hm
 ·exact h j hj Bl hm
theorem Xf (y:Yard) (s:Sl×Sl) (r:Run) (s2:Sl×Sl) (es:List Entry) (s3:Sl) (w:World) (fL:r.tasks.length<=2000000) (qR:es.length<=2000000) (hn:0<=y.now/\y.now<=999999980) (hw:1<=r.plan.wait/\r.plan.wait<=20)
  (h':Cf.rd w w r s2) (h3:Rd Cz w w s3.v es) :
  Calls Am 143 #[Ds y s,G7 r s2,Aa s3.a s3.n s3.c] w fun e w'=>e = .returned (.bool (tf (Kp y.now r es)))/\Below w w w':=by
 obtain ⟨⟨A1,n1,c1⟩,⟨A2,n2,c2⟩⟩:=s;obtain ⟨⟨A4,n4,c4⟩,⟨A5,n5,c5⟩⟩:=s2;obtain ⟨A6,n6,c6⟩:=s3;obtain rfl:n5=r.tasks.length:=RdL.at1 (s:=⟨A5,n5,c5⟩) h'.2;obtain rfl:n6=es.length:=RdL.at1 (s:=⟨A6,n6,c6⟩) (Lj h3);have h2:RdL C8 w w (Aa A5 r.tasks.length c5) r.tasks:=h'.2;have h3:RdL By w w (Aa A6 es.length c6) es:=Lj h3;clear h';obtain ⟨W,aH,X,R,B0⟩:=bx2 w 31 [J U y.now,J U y.seq,Aa A1 n1 c1,Aa A2 n2 c2] 67 [J U r.id,J U r.plan.prio,J U r.plan.most,J U r.plan.wait,J U r.plan.tasks,Aa A4 n4 c4,J U r.state,Aa A5 r.tasks.length c5];have R_l:=R.lt;go_enter func143,ntmps143;go_wp2;rw [<-aH.out];clear aH;go_loopw [15] (fun i wr=>∃ k:Nat,k<=r.tasks.length/\i = J U k/\Hid (∀ t,t<k->Pv y.now r es t)/\Below W W wr) (fun i _=>r.tasks.length - (intOf i).toNat);case atStart=>exact ⟨0,Ag _,rfl,fun t ht=>absurd ht Bl,Bs _ _⟩
 case round =>
  obtain ⟨t,hk,rfl,aY,hb⟩:=hrel;by_cases aA:t<r.tasks.length
  ·have aB:(t:Int)<(r.tasks.length:Int):=Bl;obtain ⟨b,o,_,hA5,aJ,_,d0,d1,d2,d3⟩:=(h2.below (Bv B0 hb)).task aA;subst hA5;have bE:b<wr:=Ai aJ (Bv B0 hb).size;have T:=DBox.new 203 [J U r.tasks[t].state,J U r.tasks[t].need,J U r.tasks[t].try_,J U r.tasks[t].until_] wr rfl;have ha:Below wr wr (wr.alloc (.cells #[J U r.tasks[t].state,J U r.tasks[t].need,J U r.tasks[t].try_,J U r.tasks[t].until_] 203)):=Bu;go_wp2;generalize wr.alloc (.cells #[J U r.tasks[t].state,J U r.tasks[t].need,J U r.tasks[t].try_,J U r.tasks[t].until_] 203)=W2 at *
   have Hb2:=Bv hb ha;clear d0 d1 d2 d3 bE;go_loopw [9,22] (fun n i wq=>∃ j:Nat,j<=es.length/\i = J U j/\n = J U (Jp r.id t (es.take j):Nat)/\Hid (r.tasks[t].state=2->Ju r t es j)/\Below W2 W2 wq) (fun _ i _=>es.length - (intOf i).toNat);case atStart=>exact ⟨0,Ag _,rfl,rfl,fun _ j hj h0=>absurd h0 Bl,Bs _ _⟩
   case round =>
    obtain ⟨j,hj,rfl,rfl,rE,aK⟩:=hrel;have hmn:=Abi r.id t (es.take j);rw [Az] at hmn;have X:=(X.below Hb2).below aK;have R:=(R.below Hb2).below aK;replace T:=T.below aK;have X_:=X.g4;obtain ⟨R_0,R_1,R_2,R_3,R_4,R_5,R_6,R_7,R_l⟩:=R.g8;have T_:=T.g4;have B1:=Bv (Bv B0 Hb2) aK;by_cases dK:j<es.length
    ·have jF:(j:Int)<(es.length:Int):=Bl;obtain ⟨b6,o6,_,hA6,hbb6,_,f0,f1,f2,f3⟩:=(h3.below B1).entry dK;subst hA6;have qL:b6<wr:=Ai hbb6 B1.size;have hE:Below wr wr (wr.alloc (.cells #[J U es[j].prio,J U es[j].seq,J U es[j].run,J U es[j].task] 71)):=Bu;have HM:Hid (Ki r.id t es[j]=((es[j].run == r.id) && (es[j].task == (t:Int)))):=rfl;have HY:=Br (Xz (id:=r.id) (t:=t) dK);have HN:=Br (Abh (id:=r.id) (t:=t) dK);cases q1:(es[j].run == r.id)
     ·have hm:Ki r.id t es[j]=false:=by rw [HM.out,q1];rfl
      have S:=Br (HN.out hm);have S2:Hid (r.tasks[t].state=2->Ju r t es (j+1)):=fun h2=>Kq (rE.out h2) dK (fun hh=>by rw [hm] at hh;cases hh);clear hm;go_wp2;first
       | exact ⟨⟨j+1,Bl,by go_num,by rw [S.out],S2,Bv aK hE⟩,clM⟩
       | (refine ⟨?_,clM⟩;(repeat apply Exists.intro);refine ⟨?_,clR⟩;exact ⟨j+1,Bl,by go_num,by rw [S.out],S2,Bv aK hE⟩)
     cases q2:(es[j].task == (t:Int))
     ·have hm:Ki r.id t es[j]=false:=by rw [HM.out,q1,q2];rfl
      have S:=Br (HN.out hm);have S2:Hid (r.tasks[t].state=2->Ju r t es (j+1)):=fun h2=>Kq (rE.out h2) dK (fun hh=>by rw [hm] at hh;cases hh);clear hm;go_wp2;first
       | exact ⟨⟨j+1,Bl,by go_num,by rw [S.out],S2,Bv aK hE⟩,clM⟩
       | (refine ⟨?_,clM⟩;(repeat apply Exists.intro);refine ⟨?_,clR⟩;exact ⟨j+1,Bl,by go_num,by rw [S.out],S2,Bv aK hE⟩)
     have hm:Ki r.id t es[j]=true:=by rw [HM.out,q1,q2];rfl
     have S:=Br (HY.out hm);have HM2:=Br hm;clear hm;by_cases q3:r.tasks[t].state=2
     ·have q3':(r.tasks[t].state == 2)=true:=beq_iff_eq.2 q3;by_cases q4:es[j].prio=r.plan.prio
      ·have q4':(es[j].prio != r.plan.prio)=false:=by simp [q4]
       have S2:Hid (r.tasks[t].state=2->Ju r t es (j+1)):=fun h2=>Kq (rE.out h2) dK (fun _=>q4);clear q3 q4;exact Aj4
      ·have q4':(es[j].prio != r.plan.prio)=true:=by simp [q4]
       have H:=Br (Cg (Vn (now:=y.now) aA q3 dK HM2.out q4));clear q3 q4;go_wp2;go_ret;exact ⟨Bx H.out.symm,Bv B1 hE⟩
     ·have q3':(r.tasks[t].state == 2)=false:=beq_eq_false_iff_ne.2 q3;have S2:Hid (r.tasks[t].state=2->Ju r t es (j+1)):=fun h2=>absurd h2 q3;clear q3;exact Aj4
    ·have jF:¬ (j:Int)<(es.length:Int):=Bl;have hj':j=es.length:=Bl;subst hj';have HP:Hid (r.tasks[t].state=2 -> ∀ j (hj:j<es.length),Ki r.id t es[j]=true->es[j].prio=r.plan.prio):=fun h2 j hj hm=>rE.out h2 j hj hj hm;have HMt:=Br (show Jp r.id t (es.take es.length)=Jp r.id t es by rw [List.take_length]);have HMb:=Br (show ∀ M:Int,M=(Jp r.id t es:Nat)->(M=1 ↔ Jp r.id t es=1) from fun M hM=>Bl);have step:Pv y.now r es t->Hid (∀ t',t'<t+1->Pv y.now r es t'):=fun hx t' mB=>by
      by_cases e:t'=t
      ·subst e;exact hx
      ·exact aY.out t' Bl
     have w1':U.wrap (y.now+1)=y.now+1:=Aq _ Bl;have w2':U.wrap (y.now+r.plan.wait)=y.now+r.plan.wait:=Aq _ Bl;by_cases q3:r.tasks[t].state=2
     ·have q3':(r.tasks[t].state == 2)=true:=beq_iff_eq.2 q3;have q5':(r.tasks[t].state == 3)=false:=beq_eq_false_iff_ne.2 Bl;by_cases q4:Jp r.id t es=1
      ·have S:=step (Ph aA (fun h=>⟨HP.out h,q4⟩) (fun h=>Bl));have q4':((Jp r.id t es:Int) != 1)=false:=by simp [q4]
       clear q3 q4 step;exact Akp
      ·have H:=Br (Cg (Vo (now:=y.now) aA q3 q4));have q4':((Jp r.id t es:Int) != 1)=true:=by simp;omega
       clear q3 q4 step;go_wp2;go_ret;exact ⟨Bx H.out.symm,B1⟩
     ·have q3':(r.tasks[t].state == 2)=false:=beq_eq_false_iff_ne.2 q3;by_cases q5:r.tasks[t].state=3
      ·have q5':(r.tasks[t].state == 3)=true:=beq_iff_eq.2 q5;cases q6:inB r.tasks[t].until_ (y.now+1) (y.now+r.plan.wait)
       ·have H:=Br (Cg (Vp (es:=es) aA q5 q6));clear q3 q5 step;go_wp2_with (go_at_call 72;refine (Cm _ _ _ _).mono ?_;rintro e w' ⟨rfl,rfl⟩)
        go_ret;exact ⟨Bx H.out.symm,B1⟩
       ·have S:=step (Ph aA (fun h=>absurd h q3) (fun _=>q6));clear q3 q5 step;go_wp2_with (go_at_call 72;refine (Cm _ _ _ _).mono ?_;rintro e w' ⟨rfl,rfl⟩)
        first
         | exact ⟨⟨t+1,Bl,by go_num,S,Bv Hb2 aK⟩,clM⟩
         | (refine ⟨?_,clM⟩;(repeat apply Exists.intro);refine ⟨?_,clR⟩;exact ⟨t+1,Bl,by go_num,S,Bv Hb2 aK⟩)
      ·have q5':(r.tasks[t].state == 3)=false:=beq_eq_false_iff_ne.2 q5;have S:=step (Ph aA (fun h=>absurd h q3) (fun h=>absurd h q5));clear q3 q5 step;exact Akp
  ·have aB:¬ (t:Int)<(r.tasks.length:Int):=Bl;have H:=Br (Di (show Kp y.now r es from fun t' mB=>aY.out t' Bl));exact Alh
theorem Xg (y:Yard) (s:Sl×Sl) (r:Run) (s2:Sl×Sl) (es:List Entry) (s3:Sl) (w:World) (fL:r.tasks.length<=2000000) (qR:es.length<=2000000) (hn:0<=y.now/\y.now<=999999980) (hw:1<=r.plan.wait/\r.plan.wait<=20)
  (h':Cf.rd w w r s2) (h3:Rd Cz w w s3.v es) :
  Calls Am 235 #[Ds y s,G7 r s2,Aa s3.a s3.n s3.c] w fun e w'=>e = .returned (.bool (tf (Kp y.now r es)))/\Below w w w':=by
 obtain ⟨⟨A1,n1,c1⟩,⟨A2,n2,c2⟩⟩:=s;obtain ⟨⟨A4,n4,c4⟩,⟨A5,n5,c5⟩⟩:=s2;obtain ⟨A6,n6,c6⟩:=s3;obtain rfl:n5=r.tasks.length:=RdL.at1 (s:=⟨A5,n5,c5⟩) h'.2;obtain rfl:n6=es.length:=RdL.at1 (s:=⟨A6,n6,c6⟩) (Lj h3);have h2:RdL C8 w w (Aa A5 r.tasks.length c5) r.tasks:=h'.2;have h3:RdL By w w (Aa A6 es.length c6) es:=Lj h3;clear h';obtain ⟨W,aH,X,R,B0⟩:=bx2 w 31 [J U y.now,J U y.seq,Aa A1 n1 c1,Aa A2 n2 c2] 67 [J U r.id,J U r.plan.prio,J U r.plan.most,J U r.plan.wait,J U r.plan.tasks,Aa A4 n4 c4,J U r.state,Aa A5 r.tasks.length c5];go_enter func235,ntmps235;go_wp2;rw [<-aH.out];clear aH;go_loopw [7] (fun i wr=>∃ k:Nat,k<=r.tasks.length/\i = J U k/\Hid (∀ t,t<k->Pv y.now r es t)/\Below W W wr) (fun i _=>r.tasks.length - (intOf i).toNat);case atStart=>exact ⟨0,Ag _,rfl,fun t ht=>absurd ht Bl,Bs _ _⟩
 case round =>
  obtain ⟨t,hk,rfl,aY,hb⟩:=hrel;by_cases aA:t<r.tasks.length
  ·have aB:(t:Int)<(r.tasks.length:Int):=Bl;have R1:=R.below hb;have sZ:wr.cell? ⟨w+1,7,Ab⟩=Ac (Aa A5 r.tasks.length c5):=R1.cell 7 _ rfl;have uC:=R1.lt;go_wp2;clear sZ uC R1;go_loopw [8,9] (fun n i wq=>∃ j:Nat,j<=es.length/\i = J U j/\n = J U (Jp r.id t (es.take j):Nat)/\Hid (r.tasks[t].state=2->Ju r t es j)/\Below W W wq) (fun _ i _=>es.length - (intOf i).toNat);case atStart=>exact ⟨0,Ag _,rfl,rfl,fun _ j hj h0=>absurd h0 Bl,hb⟩
   case round =>
    clear hb;obtain ⟨j,hj,rfl,rfl,rE,hb⟩:=hrel;have hmn:=Abi r.id t (es.take j);rw [Az] at hmn;have X:=X.below hb;have R:=R.below hb;have X_:=X.g4;have R_:=R.g8;have B1:=Bv B0 hb;obtain ⟨b,o,_,hA5,aJ,_,d0,d1,d2,d3⟩:=(h2.below B1).task aA;subst hA5;have bE:b<wr:=Ai aJ B1.size;have aM:=Cw wr;by_cases dK:j<es.length
    ·have jF:(j:Int)<(es.length:Int):=Bl;obtain ⟨b6,o6,_,hA6,hbb6,_,f0,f1,f2,f3⟩:=(h3.below B1).entry dK;subst hA6;have qL:b6<wr:=Ai hbb6 B1.size;have HM:Hid (Ki r.id t es[j]=((es[j].run == r.id) && (es[j].task == (t:Int)))):=rfl;have HY:=Br (Xz (id:=r.id) (t:=t) dK);have HN:=Br (Abh (id:=r.id) (t:=t) dK);cases q1:(es[j].run == r.id)
     ·have hm:Ki r.id t es[j]=false:=by rw [HM.out,q1];rfl
      have S:=Br (HN.out hm);have S2:Hid (r.tasks[t].state=2->Ju r t es (j+1)):=fun h2=>Kq (rE.out h2) dK (fun hh=>by rw [hm] at hh;cases hh);clear hm;go_wp2;go_quiet (fail);go_wp2;first
       | exact ⟨⟨j+1,Bl,by go_num,by rw [S.out],S2,Dq hb _⟩,clM⟩
       | (refine ⟨?_,clM⟩;(repeat apply Exists.intro);refine ⟨?_,clR⟩;exact ⟨j+1,Bl,by go_num,by rw [S.out],S2,Dq hb _⟩)
     cases q2:(es[j].task == (t:Int))
     ·have hm:Ki r.id t es[j]=false:=by rw [HM.out,q1,q2];rfl
      have S:=Br (HN.out hm);have S2:Hid (r.tasks[t].state=2->Ju r t es (j+1)):=fun h2=>Kq (rE.out h2) dK (fun hh=>by rw [hm] at hh;cases hh);clear hm;go_wp2;go_quiet (fail);go_wp2;first
       | exact ⟨⟨j+1,Bl,by go_num,by rw [S.out],S2,Dq hb _⟩,clM⟩
       | (refine ⟨?_,clM⟩;(repeat apply Exists.intro);refine ⟨?_,clR⟩;exact ⟨j+1,Bl,by go_num,by rw [S.out],S2,Dq hb _⟩)
     have hm:Ki r.id t es[j]=true:=by rw [HM.out,q1,q2];rfl
     have S:=Br (HY.out hm);have HM2:=Br hm;clear hm;by_cases q3:r.tasks[t].state=2
     ·have q3':(r.tasks[t].state == 2)=true:=beq_iff_eq.2 q3;by_cases q4:es[j].prio=r.plan.prio
      ·have q4':(es[j].prio != r.plan.prio)=false:=by simp [q4]
       have S2:Hid (r.tasks[t].state=2->Ju r t es (j+1)):=fun h2=>Kq (rE.out h2) dK (fun _=>q4);clear q3 q4;exact Ajh
      ·have q4':(es[j].prio != r.plan.prio)=true:=by simp [q4]
       have H:=Br (Cg (Vn (now:=y.now) aA q3 dK HM2.out q4));clear q3 q4;go_wp2;go_quiet (fail);go_wp2;go_quiet (fail);go_wp2;go_ret;exact ⟨Bx H.out.symm,by first | exact Dq B1 _ | exact Dq (Dq B1 _) _⟩
     ·have q3':(r.tasks[t].state == 2)=false:=beq_eq_false_iff_ne.2 q3;have S2:Hid (r.tasks[t].state=2->Ju r t es (j+1)):=fun h2=>absurd h2 q3;clear q3;exact Ajh
    ·have jF:¬ (j:Int)<(es.length:Int):=Bl;have hj':j=es.length:=Bl;subst hj';rw [List.take_length] at *
     have HP:Hid (r.tasks[t].state=2 -> ∀ j (hj:j<es.length),Ki r.id t es[j]=true->es[j].prio=r.plan.prio):=fun h2 j hj hm=>rE.out h2 j hj hj hm;have step:Pv y.now r es t->Hid (∀ t',t'<t+1->Pv y.now r es t'):=fun hx t' mB=>by
      by_cases e:t'=t
      ·subst e;exact hx
      ·exact aY.out t' Bl
     have w1':U.wrap (y.now+1)=y.now+1:=Aq _ Bl;have w2':U.wrap (y.now+r.plan.wait)=y.now+r.plan.wait:=Aq _ Bl;generalize hM:(Jp r.id t es:Int)=M at *
     by_cases q3:r.tasks[t].state=2
     ·have q3':(r.tasks[t].state == 2)=true:=beq_iff_eq.2 q3;have q5':(r.tasks[t].state == 3)=false:=beq_eq_false_iff_ne.2 Bl;by_cases q4:M=1
      ·have S:=step (Ph aA (fun h=>⟨HP.out h,Bl⟩) (fun h=>Bl));have q4':(M != 1)=false:=by simp [q4]
       clear q3 q4 step hM;exact Aiu
      ·have H:=Br (Cg (Vo (now:=y.now) aA q3 (show ¬ Jp r.id t es=1 by omega)));have q4':(M != 1)=true:=by simp [q4]
       clear q3 q4 step hM;exact Akj
     ·have q3':(r.tasks[t].state == 2)=false:=beq_eq_false_iff_ne.2 q3;clear hM;by_cases q5:r.tasks[t].state=3
      ·have q5':(r.tasks[t].state == 3)=true:=beq_iff_eq.2 q5;cases q6:inB r.tasks[t].until_ (y.now+1) (y.now+r.plan.wait)
       ·have H:=Br (Cg (Vp (es:=es) aA q5 q6));clear q3 q5 step;exact Akj
       ·have S:=step (Ph aA (fun h=>absurd h q3) (fun _=>q6));clear q3 q5 step;exact Aiu
      ·have q5':(r.tasks[t].state == 3)=false:=beq_eq_false_iff_ne.2 q5;have S:=step (Ph aA (fun h=>absurd h q3) (fun h=>absurd h q5));clear q3 q5 step;exact Aiu
  ·have aB:¬ (t:Int)<(r.tasks.length:Int):=Bl;have H:=Br (Di (show Kp y.now r es from fun t' mB=>aY.out t' Bl));have R1:=R.below hb;have sZ:wr.cell? ⟨w+1,7,Ab⟩=Ac (Aa A5 r.tasks.length c5):=R1.cell 7 _ rfl;have uC:=R1.lt;exact Alh
theorem R8 (w:World):∀ l:List Entry,Ows By w [] (l.map fun x=>(x,()))
 | []=>.nil
 | x :: l=>by
  have:=Ows.cons (d:=By) (w:=w) (F:=[]) (r:=(x,())) rfl (R8 w l)
  exact this
theorem H7 {w:World} {E:TypeId} {base:Nat} {v:Value} {l:List Entry} (h:Ow Cz E w base v l):∃ (s:Sl) (F:List Nat),v = Aa s.a s.n s.c/\OwL By w F s.v l /\ ∀ b∈F,base<=b:=by
 obtain ⟨h1,h2⟩:=Hw.of_ow h;obtain ⟨⟨A,c,hv,hc,hA⟩,hF,hf⟩:=id h1;subst hv;refine ⟨⟨A,l.length,c⟩,_,rfl,⟨l.map fun x=>(x,()),El (Aa A l.length c) l.length,[],by rw [List.map_map];exact List.map_id _,⟨⟨A,c,by rw [Ar],by rw [Ar];exact hc,fun hl=>?_⟩,by rw [Ar],hf⟩,R8 w l,(List.append_nil _).symm,h1.nodup⟩,h2⟩;exact Aic
def Ge:Enc Task:={ cells:=fun x=>[J U x.state,J U x.need,J U x.try_,J U x.until_],sz:=4,len:=fun _=>rfl,one:=fun _ u hu=>by simp at hu;rcases hu with rfl | rfl | rfl | rfl<;>rfl }
theorem Ub {w:World} {B:Nat} {v:Value} {l:List Task} (h:RdL C8 w B v l):Rd Ge w B v l:=Aip
theorem Vq (w:World):∀ l:List Task,Ows C8 w [] (l.map fun x=>(x,()))
 | []=>.nil
 | x :: l=>by
  have:=Ows.cons (d:=C8) (w:=w) (F:=[]) (r:=(x,())) rfl (Vq w l)
  exact this
theorem Uc {w:World} {E:TypeId} {base:Nat} {v:Value} {l:List Task} (h:Ow Ge E w base v l):∃ (s:Sl) (F:List Nat),v = Aa s.a s.n s.c/\OwL C8 w F s.v l /\ ∀ b∈F,base<=b:=by
 obtain ⟨h1,h2⟩:=Hw.of_ow h;obtain ⟨⟨A,c,hv,hc,hA⟩,hF,hf⟩:=id h1;subst hv;refine ⟨⟨A,l.length,c⟩,_,rfl,⟨l.map fun x=>(x,()),El (Aa A l.length c) l.length,[],by rw [List.map_map];exact List.map_id _,⟨⟨A,c,by rw [Ar],by rw [Ar];exact hc,fun hl=>?_⟩,by rw [Ar],hf⟩,Vq w l,(List.append_nil _).symm,h1.nodup⟩,h2⟩;exact Aic
theorem Pi:(Am.info? 203).map (fun i=>(i.zero,i.size,i.bytes))=Ac (Ac (.agg #[J U 0,J U 0,J U 0,J U 0]),4,32):=Bm
theorem Jj (l:List Entry) (s:Sl) (w:World) (hl:l.length<=2000000) (h:RdL By w w s.v l) :
  Calls Am 145 #[Aa s.a s.n s.c] w (Dv (Dt.list By) slV l w):=by
 obtain ⟨A,n,c⟩:=s;obtain rfl:n=l.length:=RdL.at1 (s:=⟨A,n,c⟩) h;obtain ⟨i0,aQ,aU,aS,aR⟩:=info_parts Gp;go_enter func145,ntmps145;go_wp2_with (at_builtin;refine Ci _ Cz Bq rfl (.const (Aa Ab 0 0)) (.tmp 3) rfl underlying74 aQ aU aS aR rfl (v:=Aa Ab 0 0) (l:=[]) rfl (Ow.nil Cz 71 _ w) rfl (Jw h) Bo Bl Bq (Bt _) ?_;intro v1 w1 o1 g1 _;rw [List.nil_append] at o1)
 obtain ⟨s1,F1,rfl,o2,n2⟩:=H7 o1;go_ret;exact ⟨s1,F1,rfl,o2,n2,(Bs w w).grown g1 (Bt _) (fun g hg=>by cases hg)⟩
theorem Ob (r:Run) (s:Sl×Sl) (w:World) (hl:Co r<=2000000) (h:Cf.rd w w r s) :
  Calls Am 146 #[G7 r s] w (Dv Cf G7 r w):=by
 obtain ⟨⟨A1,n1,c1⟩,⟨A2,n2,c2⟩⟩:=s;obtain rfl:n2=r.tasks.length:=RdL.at1 (s:=⟨A2,n2,c2⟩) h.2;have h1:Ce.rd w w r.plan ⟨A1,n1,c1⟩:=h.1;have h2:Rd Ge w w (Aa A2 r.tasks.length c2) r.tasks:=Ub h.2;have kC:Ec r.plan<=2000000:=by unfold Co at hl;omega
 have fL:r.tasks.length<=2000000:=Ah (Ck D7 _) (by unfold Co at hl;omega);clear h hl;obtain ⟨W,aH,X,Z,B0⟩:=bx2 w 67 [J U r.id,J U r.plan.prio,J U r.plan.most,J U r.plan.wait,J U r.plan.tasks,Aa A1 n1 c1,J U r.state,Aa A2 r.tasks.length c2] 67 [J U 0,J U 0,J U 0,J U 0,J U 0,Aa Ab 0 0,J U 0,Aa Ab 0 0];obtain ⟨i0,aQ,aU,aS,aR⟩:=info_parts Pi;go_enter func146,ntmps146;go_wp2_with fail
 rw [<-aH.out];clear aH;refine (Nd r.plan ⟨A1,n1,c1⟩ W kC (Ce.rd_more (Ce.rd_below h1 B0) B0.size)).mono ?_;rintro e w0 ⟨⟨A3,n3,c3⟩,F0,rfl,o0,n0,b0⟩;have hW:w.heap.size+2<=W.heap.size:=Z.lt;replace X:=X.below b0;replace Z:=Z.below b0;replace B0:=Bv B0 b0;obtain ⟨X_0,X_1,X_2,X_3,X_4,X_5,X_6,X_7,X_l⟩:=X.g8;obtain ⟨Z_0,Z_1,Z_2,Z_3,Z_4,Z_5,Z_6,Z_7,Z_l⟩:=Z.g8;have X_f:=X.free;have Z_f:=Z.free;have pK:w.heap.size∉F0:=fun hm=>by have:=n0 _ hm;omega
 have X1:DBox w [J U r.id,J U r.plan.prio,J U r.plan.most,J U r.plan.wait,J U r.plan.tasks,Aa A3 n3 c3,J U r.state,Aa A2 r.tasks.length c2] (((((w0.setCell ⟨w,1,Ab⟩ (J U r.plan.prio)).setCell ⟨w,2,Ab⟩ (J U r.plan.most)).setCell ⟨w,3,Ab⟩ (J U r.plan.wait)).setCell ⟨w,4,Ab⟩ (J U r.plan.tasks)).setCell ⟨w,5,Ab⟩ (Aa A3 n3 c3)):=((((X.set 1 Bo (J U r.plan.prio)).set 2 Bo (J U r.plan.most)).set 3 Bo (J U r.plan.wait)).set 4 Bo (J U r.plan.tasks)).set 5 Bo (Aa A3 n3 c3);have Z1:=((((Z.setOther (a:=⟨w,1,Ab⟩) Bo (J U r.plan.prio)).setOther (a:=⟨w,2,Ab⟩) Bo (J U r.plan.most)).setOther (a:=⟨w,3,Ab⟩) Bo (J U r.plan.wait)).setOther (a:=⟨w,4,Ab⟩) Bo (J U r.plan.tasks)).setOther (a:=⟨w,5,Ab⟩) Bo (Aa A3 n3 c3);have o1:Ce.ow (((((w0.setCell ⟨w,1,Ab⟩ (J U r.plan.prio)).setCell ⟨w,2,Ab⟩ (J U r.plan.most)).setCell ⟨w,3,Ab⟩ (J U r.plan.wait)).setCell ⟨w,4,Ab⟩ (J U r.plan.tasks)).setCell ⟨w,5,Ab⟩ (Aa A3 n3 c3)) F0 r.plan ⟨A3,n3,c3⟩:=by repeat (first | (with_reducible exact o0) | refine Dt.ow_set Ce ?_ pK _)
 have B1:Below w w (((((w0.setCell ⟨w,1,Ab⟩ (J U r.plan.prio)).setCell ⟨w,2,Ab⟩ (J U r.plan.most)).setCell ⟨w,3,Ab⟩ (J U r.plan.wait)).setCell ⟨w,4,Ab⟩ (J U r.plan.tasks)).setCell ⟨w,5,Ab⟩ (Aa A3 n3 c3)):=by repeat (first | (with_reducible exact B0) | refine Ad ?_ Bo _)
 have HZ3:=Br (show (((((w0.setCell ⟨w,1,Ab⟩ (J U r.plan.prio)).setCell ⟨w,2,Ab⟩ (J U r.plan.most)).setCell ⟨w,3,Ab⟩ (J U r.plan.wait)).setCell ⟨w,4,Ab⟩ (J U r.plan.tasks)).setCell ⟨w,5,Ab⟩ (Aa A3 n3 c3)).heap.size=w0.heap.size by simp);go_wp2_with (at_builtin;generalize mQ:(((((w0.setCell ⟨w,1,Ab⟩ (J U r.plan.prio)).setCell ⟨w,2,Ab⟩ (J U r.plan.most)).setCell ⟨w,3,Ab⟩ (J U r.plan.wait)).setCell ⟨w,4,Ab⟩ (J U r.plan.tasks)).setCell ⟨w,5,Ab⟩ (Aa A3 n3 c3))=W3 at *;clear mQ X_0 X_1 X_2 X_3 X_4 X_5 X_6 X_7 X_l X_f Z_0 Z_1 Z_2 Z_3 Z_4 Z_5 Z_6 Z_7 Z_l Z_f X Z o0;have eS:=(Bs W3 W3);refine Ci _ Ge Bq rfl (.const (Aa Ab 0 0)) (.tmp 8) rfl underlying65 aQ aU aS aR rfl (v:=(Aa Ab 0 0)) (l:=[]) rfl (Ow.nil Ge 203 _ w0) rfl ((h2.below (Bv B1 eS)).more (Bv B1 eS).size) Bo Bl Bq (by have:=eS.size;have:=HZ3.out;omega) ?_;intro v1 w1 o5 g1 f1;rw [List.nil_append] at o5;have B31:Below W3 W3 w1:=eS.grown g1 eS.size (fun g hg=>by have:=HZ3.out;simp [Value.ownBlock] at hg<;>omega);clear f1 g1;obtain ⟨⟨A5,n5,c5⟩,F5,rfl,o6,n6⟩:=Uc o5;replace X1:=X1.below B31;replace Z1:=Z1.below B31;have y0:=X1.cell 0 _ rfl;have y1:=X1.cell 1 _ rfl;have y2:=X1.cell 2 _ rfl;have y3:=X1.cell 3 _ rfl;have y4:=X1.cell 4 _ rfl;have y5:=X1.cell 5 _ rfl;have y6:=X1.cell 6 _ rfl;have y7:=X1.cell 7 _ rfl;have yf:=X1.free;have yl:=X1.lt;have z0:=Z1.cell 0 _ rfl;have z1:=Z1.cell 1 _ rfl;have z2:=Z1.cell 2 _ rfl;have z3:=Z1.cell 3 _ rfl;have z4:=Z1.cell 4 _ rfl;have z5:=Z1.cell 5 _ rfl;have z6:=Z1.cell 6 _ rfl;have z7:=Z1.cell 7 _ rfl;have zf:=Z1.free;have zl:=Z1.lt)
 have B2:=Bv B1 B31;have o7:=Ce.ow_below o1 B31;have sE:=HZ3.out;have aN:=b0.size;have l0:∀ b∈F0,b<w0:=fun b hb=>by have:=Ce.ow_lt o1 b hb;omega
 refine bodyPost_ret (v:=G7 r (⟨A3,n3,c3⟩,⟨A5,n5,c5⟩)) ?_ rfl ?_
 ·simp [G7,results,results146,go_sem,z0,z1,z2,z3,z4,z5,z6,z7]
 ·exact Aio
theorem Iq (r:Run) (s:Sl×Sl) (w:World) (hl:Co r<=2000000) (h:Cf.rd w w r s) :
  Calls Am 175 #[G7 r s] w (Dv Cf G7 r w):=by
 obtain ⟨⟨A1,n1,c1⟩,⟨A2,n2,c2⟩⟩:=s;obtain rfl:n2=r.tasks.length:=RdL.at1 (s:=⟨A2,n2,c2⟩) h.2;have h1:Ce.rd w w r.plan ⟨A1,n1,c1⟩:=h.1;have h2:Rd Ge w w (Aa A2 r.tasks.length c2) r.tasks:=Ub h.2;have kC:Ec r.plan<=2000000:=by unfold Co at hl;omega
 have fL:r.tasks.length<=2000000:=Ah (Ck D7 _) (by unfold Co at hl;omega);clear h hl;obtain ⟨W,aH,X,Z,B0⟩:=bx2 w 67 [J U r.id,J U r.plan.prio,J U r.plan.most,J U r.plan.wait,J U r.plan.tasks,Aa A1 n1 c1,J U r.state,Aa A2 r.tasks.length c2] 67 [J U 0,J U 0,J U 0,J U 0,J U 0,Aa Ab 0 0,J U 0,Aa Ab 0 0];obtain ⟨i0,aQ,aU,aS,aR⟩:=info_parts Pi;go_enter func175,ntmps175;go_wp2_with fail
 rw [<-aH.out];clear aH;refine (Nf r.plan ⟨A1,n1,c1⟩ W kC (Ce.rd_more (Ce.rd_below h1 B0) B0.size)).mono ?_;rintro e w0 ⟨⟨A3,n3,c3⟩,F0,rfl,o0,n0,b0⟩;have hW:w.heap.size+2<=W.heap.size:=Z.lt;replace X:=X.below b0;replace Z:=Z.below b0;replace B0:=Bv B0 b0;obtain ⟨X_0,X_1,X_2,X_3,X_4,X_5,X_6,X_7,X_l⟩:=X.g8;obtain ⟨Z_0,Z_1,Z_2,Z_3,Z_4,Z_5,Z_6,Z_7,Z_l⟩:=Z.g8;have X_f:=X.free;have Z_f:=Z.free;have pK:w.heap.size∉F0:=fun hm=>by have:=n0 _ hm;omega
 have X1:DBox w [J U r.id,J U r.plan.prio,J U r.plan.most,J U r.plan.wait,J U r.plan.tasks,Aa A3 n3 c3,J U r.state,Aa A2 r.tasks.length c2] (((((w0.setCell ⟨w,1,Ab⟩ (J U r.plan.prio)).setCell ⟨w,2,Ab⟩ (J U r.plan.most)).setCell ⟨w,3,Ab⟩ (J U r.plan.wait)).setCell ⟨w,4,Ab⟩ (J U r.plan.tasks)).setCell ⟨w,5,Ab⟩ (Aa A3 n3 c3)):=((((X.set 1 Bo (J U r.plan.prio)).set 2 Bo (J U r.plan.most)).set 3 Bo (J U r.plan.wait)).set 4 Bo (J U r.plan.tasks)).set 5 Bo (Aa A3 n3 c3);have Z1:=((((Z.setOther (a:=⟨w,1,Ab⟩) Bo (J U r.plan.prio)).setOther (a:=⟨w,2,Ab⟩) Bo (J U r.plan.most)).setOther (a:=⟨w,3,Ab⟩) Bo (J U r.plan.wait)).setOther (a:=⟨w,4,Ab⟩) Bo (J U r.plan.tasks)).setOther (a:=⟨w,5,Ab⟩) Bo (Aa A3 n3 c3);have o1:Ce.ow (((((w0.setCell ⟨w,1,Ab⟩ (J U r.plan.prio)).setCell ⟨w,2,Ab⟩ (J U r.plan.most)).setCell ⟨w,3,Ab⟩ (J U r.plan.wait)).setCell ⟨w,4,Ab⟩ (J U r.plan.tasks)).setCell ⟨w,5,Ab⟩ (Aa A3 n3 c3)) F0 r.plan ⟨A3,n3,c3⟩:=by repeat (first | (with_reducible exact o0) | refine Dt.ow_set Ce ?_ pK _)
 have B1:Below w w (((((w0.setCell ⟨w,1,Ab⟩ (J U r.plan.prio)).setCell ⟨w,2,Ab⟩ (J U r.plan.most)).setCell ⟨w,3,Ab⟩ (J U r.plan.wait)).setCell ⟨w,4,Ab⟩ (J U r.plan.tasks)).setCell ⟨w,5,Ab⟩ (Aa A3 n3 c3)):=by repeat (first | (with_reducible exact B0) | refine Ad ?_ Bo _)
 have HZ3:=Br (show (((((w0.setCell ⟨w,1,Ab⟩ (J U r.plan.prio)).setCell ⟨w,2,Ab⟩ (J U r.plan.most)).setCell ⟨w,3,Ab⟩ (J U r.plan.wait)).setCell ⟨w,4,Ab⟩ (J U r.plan.tasks)).setCell ⟨w,5,Ab⟩ (Aa A3 n3 c3)).heap.size=w0.heap.size by simp);go_wp2_with (at_builtin;generalize mQ:(((((w0.setCell ⟨w,1,Ab⟩ (J U r.plan.prio)).setCell ⟨w,2,Ab⟩ (J U r.plan.most)).setCell ⟨w,3,Ab⟩ (J U r.plan.wait)).setCell ⟨w,4,Ab⟩ (J U r.plan.tasks)).setCell ⟨w,5,Ab⟩ (Aa A3 n3 c3))=W3 at *;clear mQ X_0 X_1 X_2 X_3 X_4 X_5 X_6 X_7 X_l X_f Z_0 Z_1 Z_2 Z_3 Z_4 Z_5 Z_6 Z_7 Z_l Z_f X Z o0;have eS:=((Bs W3 W3).alloc (Bt _) (.cells #[] 203));refine Ci _ Ge Bq rfl (.tmp 7) (.tmp 9) rfl underlying65 aQ aU aS aR rfl (v:=(Aa (Ac ⟨w0,0,Ab⟩) 0 0)) (l:=[]) rfl (Ow.empty Ge 203 W3 HZ3.out.symm) rfl ((h2.below (Bv B1 eS)).more (Bv B1 eS).size) Bo Bl Bq (by have:=eS.size;have:=HZ3.out;omega) ?_;intro v1 w1 o5 g1 f1;rw [List.nil_append] at o5;have B31:Below W3 W3 w1:=eS.grown g1 eS.size (fun g hg=>by have:=HZ3.out;simp [Value.ownBlock] at hg<;>omega);clear f1 g1;obtain ⟨⟨A5,n5,c5⟩,F5,rfl,o6,n6⟩:=Uc o5;replace X1:=X1.below B31;replace Z1:=Z1.below B31;have y0:=X1.cell 0 _ rfl;have y1:=X1.cell 1 _ rfl;have y2:=X1.cell 2 _ rfl;have y3:=X1.cell 3 _ rfl;have y4:=X1.cell 4 _ rfl;have y5:=X1.cell 5 _ rfl;have y6:=X1.cell 6 _ rfl;have y7:=X1.cell 7 _ rfl;have yf:=X1.free;have yl:=X1.lt;have z0:=Z1.cell 0 _ rfl;have z1:=Z1.cell 1 _ rfl;have z2:=Z1.cell 2 _ rfl;have z3:=Z1.cell 3 _ rfl;have z4:=Z1.cell 4 _ rfl;have z5:=Z1.cell 5 _ rfl;have z6:=Z1.cell 6 _ rfl;have z7:=Z1.cell 7 _ rfl;have zf:=Z1.free;have zl:=Z1.lt)
 have B2:=Bv B1 B31;have o7:=Ce.ow_below o1 B31;have sE:=HZ3.out;have aN:=b0.size;have l0:∀ b∈F0,b<w0:=fun b hb=>by have:=Ce.ow_lt o1 b hb;omega
 refine bodyPost_ret (v:=G7 r (⟨A3,n3,c3⟩,⟨A5,n5,c5⟩)) ?_ rfl ?_
 ·simp [G7,results,results175,go_sem,z0,z1,z2,z3,z4,z5,z6,z7]
 ·exact Aio
end Go.Proofs.YtecnbnbopcblgaaGreat
