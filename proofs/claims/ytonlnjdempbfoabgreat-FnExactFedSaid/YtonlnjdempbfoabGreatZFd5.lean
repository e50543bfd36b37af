/-
  Entries that stand ahead, shelves that are right, tasks in a state, tasks that a task waits for: the program's walks and the reference's. A variable in memory u
-/
import Derived.Test.YtonlnjdempbfoabGreatZFd0
import Derived.Test.YtonlnjdempbfoabGreatZFd2
import Derived.Test.YtonlnjdempbfoabGreatZFd4
namespace Go.Proofs.YtonlnjdempbfoabGreat
open Go.RowKit
set_option maxRecDepth 100000
set_option maxHeartbeats 4000000
set_option linter.unusedVariables false
set_option linter.unusedSimpArgs false
open Value renaming int->J,slice->Aa
open IntKind renaming i64->U
open Option renaming none->Ab,some->Ac
open Below renaming setCell->Ad,alloc->Ae
open Nat renaming zero_le->Ag,le_trans->Ah,lt_of_lt_of_le->Ai
open Go renaming wpQuiet_nil->Ak
open Go.Proofs.Tryz renaming prog->Am
open Int renaming eq_ofNat_of_zero_le->Ap
open IntWalk renaming i64_in->Aq
open List renaming length_map->Ar,getElem_mem->Aw,length_take->Az,length_append->Bd
open Go.Proofs.Tryz
theorem Mk (a b:Entry) (w:World) :
  Calls Am 217 #[Gs a (),Gs b ()] w fun e w'=>e = .returned (.bool (E7 a b))/\Below w w w':=by
 cases t1:decide (b.prio<a.prio)<;>cases t2:(a.prio == b.prio)<;>cases t3:decide (a.seq<b.seq);all_goals
  have H:=Bq (show (decide (b.prio<a.prio) || ((a.prio == b.prio) && decide (a.seq<b.seq)))=E7 a b from rfl);go_enter func217,ntmps217;go_wp2;go_ret;exact ⟨Bw (by rw [<-H.out,t1,t2,t3];rfl),by repeat (first | exact Br _ _ | refine Ae ?_ Bo _)⟩
theorem Ky (a b:Entry) (w:World) :
  Calls Am 272 #[Gs a (),Gs b ()] w fun e w'=>e = .returned (.bool (E7 a b))/\Below w w w':=by
 cases t1:decide (b.prio<a.prio)<;>cases t2:(a.prio == b.prio)<;>cases t3:decide (a.seq<b.seq);all_goals
  have H:=Bq (show (decide (b.prio<a.prio) || ((a.prio == b.prio) && decide (a.seq<b.seq)))=E7 a b from rfl);go_enter func272,ntmps272;go_wp2;go_ret;exact ⟨Bw (by rw [<-H.out,t1,t2,t3];rfl),by repeat (first | exact Br _ _ | refine Ae ?_ Bo _)⟩
theorem U2 {l:List Entry} {k:Nat} (fJ:1<=k) (aA:k<l.length) (h:∀ j (hj:j+1<l.length),j+1<k->E7 l[j] l[j+1]=true) (t:E7 l[k - 1] l[k]=true) :
  ∀ j (hj:j+1<l.length),j+1<k+1->E7 l[j] l[j+1]=true:=by
 intro j hj fS;by_cases e:j+1=k
 ·subst e;simpa using t
 ·exact h j hj Bl
theorem Xn {l:List Entry} {k:Nat} (fJ:1<=k) (aA:k<l.length) (t:E7 l[k - 1] l[k]=false):¬ H9 l:=by
 rintro ⟨_,h⟩
 have:=h (k - 1) Bl
 have e:k - 1+1=k:=Bl;simp only [e] at this;rw [t] at this;cases this
theorem S0 (l:List Entry) (s:Sl) (w:World) (hl:l.length<=2000000) (h:RdL Bx w w s.v l) :
  Calls Am 132 #[Aa s.a s.n s.c] w fun e w'=>e = .returned (.bool (tf (H9 l)))/\Below w w w':=by
 obtain ⟨A,n,c⟩:=s;obtain rfl:n=l.length:=RdL.at1 (s:=⟨A,n,c⟩) h;go_enter func132,ntmps132;go_wp2;go_loopw [3] (fun i wr=>∃ k:Nat,1<=k/\(k<=l.length\/k=1)/\i = J U k/\Hid (∀ j (hj:j+1<l.length),j+1<k->E7 l[j] l[j+1]=true)/\Below w w wr) (fun i _=>l.length - (intOf i).toNat);case atStart=>exact ⟨1,Bs _,.inr rfl,rfl,fun j hj h0=>absurd h0 Bl,Br _ _⟩
 case round =>
  obtain ⟨k,fJ,hk,rfl,bL,hb⟩:=hrel;have sP:(0:Int)<(k:Int):=Bl;by_cases aA:k<l.length
  ·have aB:(k:Int)<(l.length:Int):=Bl;obtain ⟨b,o,_,rfl,aK,_,c0,c1,c2,c3⟩:=(h.below hb).entry aA;obtain ⟨b',o',_,he,_,_,d0,d1,d2,d3⟩:=(h.below hb).entry (k:=k - 1) Bl;simp only [Option.some.injEq,Addr.mk.injEq,and_true] at he;obtain ⟨rfl,rfl⟩:=he;have hs:b<wr:=Ai aK hb.size;have aQ:=Di wr;cases t2:E7 l[k - 1] l[k]
   ·have H:=Bq (Ci (Xn fJ aA t2));go_wp2;refine Bz Bm Bm ?_;repeat (go_big_quiet_step ((go_at_call 217;rename_i x;have h1:=Mk l[k - 1] l[k] x.1;exact Fg h1)))
    refine Ak ?_;rintro _ ⟨⟨w1,aJ⟩,rfl⟩;clear aQ;go_wp2;go_ret;exact ⟨Bw H.out.symm,Bu hb aJ⟩
   ·have S:=Bq (U2 fJ aA bL.out t2);go_wp2;refine Bz Bm Bm ?_;repeat (go_big_quiet_step ((go_at_call 217;rename_i x;have h1:=Mk l[k - 1] l[k] x.1;exact Fg h1)))
    refine Ak ?_;rintro _ ⟨⟨w1,aJ⟩,rfl⟩;clear aQ;go_wp2;exact ⟨⟨k+1,Bl,Bl,by go_num,S,Bu hb aJ⟩,by simp [intOf];omega⟩
  ·have aB:¬ (k:Int)<(l.length:Int):=Bl;by_cases h8:l.length<=80
   ·have H:=Bq (Dp (show H9 l from ⟨h8,fun j hj=>bL.out j hj Bl⟩));go_wp2;go_ret;exact ⟨Bw (by rw [H.out];exact decide_eq_true Bl),hb⟩
   ·have H:=Bq (Ci (show ¬ H9 l from fun h=>h8 h.1));have h8i:¬ (l.length:Int)<=80:=Bl;go_wp2;go_ret;exact ⟨Bw (by rw [H.out]),hb⟩
theorem S7 (l:List Entry) (s:Sl) (w:World) (hl:l.length<=2000000) (h:RdL Bx w w s.v l) :
  Calls Am 229 #[Aa s.a s.n s.c] w fun e w'=>e = .returned (.bool (tf (H9 l)))/\Below w w w':=by
 obtain ⟨A,n,c⟩:=s;obtain rfl:n=l.length:=RdL.at1 (s:=⟨A,n,c⟩) h;by_cases h8:80<l.length
 ·have H:=Bq (Ci (show ¬ H9 l from fun h=>by have:=h.1;omega));have h8i:(80:Int)<(l.length:Int):=Bl;go_enter func229,ntmps229;go_wp2;go_ret;exact ⟨Bw H.out.symm,Br _ _⟩
 have h8i:¬ (80:Int)<(l.length:Int):=Bl;go_enter func229,ntmps229;go_wp2;go_loopw [3] (fun i wr=>∃ k:Nat,1<=k/\(k<=l.length\/k=1)/\i = J U k/\Hid (∀ j (hj:j+1<l.length),j+1<k->E7 l[j] l[j+1]=true)/\Below w w wr) (fun i _=>l.length - (intOf i).toNat);case atStart=>exact ⟨1,Bs _,.inr rfl,rfl,fun j hj h0=>absurd h0 Bl,Br _ _⟩
 case round =>
  obtain ⟨k,fJ,hk,rfl,bL,hb⟩:=hrel;have sP:(0:Int)<(k:Int):=Bl;by_cases aA:k<l.length
  ·have aB:(k:Int)<(l.length:Int):=Bl;obtain ⟨b,o,_,rfl,aK,_,c0,c1,c2,c3⟩:=(h.below hb).entry aA;obtain ⟨b',o',_,he,_,_,d0,d1,d2,d3⟩:=(h.below hb).entry (k:=k - 1) Bl;simp only [Option.some.injEq,Addr.mk.injEq,and_true] at he;obtain ⟨rfl,rfl⟩:=he;have hs:b<wr:=Ai aK hb.size;have aQ:=Di wr;cases t2:E7 l[k - 1] l[k]
   ·have H:=Bq (Ci (Xn fJ aA t2));go_wp2;refine Bz Bm Bm ?_;repeat (go_big_quiet_step ((go_at_call 272;rename_i x;have h1:=Ky l[k - 1] l[k] x.1;exact Fg h1)))
    refine Ak ?_;rintro _ ⟨⟨w1,aJ⟩,rfl⟩;clear aQ;go_wp2;go_ret;exact ⟨Bw H.out.symm,Bu hb aJ⟩
   ·have S:=Bq (U2 fJ aA bL.out t2);go_wp2;refine Bz Bm Bm ?_;repeat (go_big_quiet_step ((go_at_call 272;rename_i x;have h1:=Ky l[k - 1] l[k] x.1;exact Fg h1)))
    refine Ak ?_;rintro _ ⟨⟨w1,aJ⟩,rfl⟩;clear aQ;go_wp2;exact ⟨⟨k+1,Bl,Bl,by go_num,S,Bu hb aJ⟩,by simp [intOf];omega⟩
  ·have aB:¬ (k:Int)<(l.length:Int):=Bl;have H:=Bq (Dp (show H9 l from ⟨Bl,fun j hj=>bL.out j hj Bl⟩));go_wp2;go_ret;exact ⟨Bw H.out.symm,hb⟩
def G9 (l:List Task) (s:Int) (k:Nat):List Nat:=(List.range k).filter fun t=>(l.getD t ⟨0,0,0,0⟩).state == s
def Hv (l:List Task) (s:Int):List Nat:=G9 l s l.length
theorem Oe (l:List Task) (s:Int) (k:Nat) (hk:k<l.length):G9 l s (k+1)=G9 l s k ++ (if l[k].state=s then [k] else []):=by
 unfold G9;rw [List.range_succ,List.filter_append];congr 1;have:l.getD k ⟨0,0,0,0⟩=l[k]:=by rw [List.getD_eq_getElem?_getD,List.getElem?_eq_getElem hk];rfl
 by_cases h:l[k].state=s
 ·simp [h,this,hk]
 ·simp [h,this,hk]
theorem Pi (l:List Task) (s:Int):∀ (k:Nat),k<=l.length->(G9 l s k).length=Dv (l.take k) s
 | 0,_=>by simp [G9,Dv]
 | k+1,hk=>by
  rw [Oe l s k Bl,Bd,Pi l s k Bl];by_cases h:l[k].state=s
  ·rw [Aau Bl h,if_pos h];rfl
  ·rw [Ad6 Bl h,if_neg h];rfl
theorem Sc (l:List Task) (s:Int):(Hv l s).length=Dv l s:=by
 unfold Hv;rw [Pi l s _ (Bs _),List.take_length]
theorem Lb (l:List Task) (s:Int) (k:Nat):(G9 l s k).length<=k:=by
 unfold G9;exact Ah (List.length_filter_le _ _) Bn
theorem Ig (r:Run) (s:Sl×Sl) (st:Int) (w:World) (hl:r.tasks.length<=2000000) (h:Ce.rd w w r s) :
  Calls Am 180 #[Gt r s,J U st] w fun e w'=>∃ v,e = .returned v/\Ow Eu 3 w' w v (Hv r.tasks st)/\Below w w w':=by
 obtain ⟨⟨A1,n1,c1⟩,⟨A2,n2,c2⟩⟩:=s;obtain rfl:n2=r.tasks.length:=RdL.at1 (s:=⟨A2,n2,c2⟩) h.2;have h2:RdL C7 w w (Aa A2 r.tasks.length c2) r.tasks:=h.2;obtain ⟨W,aH,X,B0⟩:=bx1 w 167 [J U r.id,J U r.plan.prio,J U r.plan.most,J U r.plan.wait,J U r.plan.tasks,Aa A1 n1 c1,J U r.state,Aa A2 r.tasks.length c2];obtain ⟨j0,cJ,jz0,jz1,jz2⟩:=info_parts K0;go_enter func180,ntmps180;go_wp2;rw [<-aH.out];clear aH;go_loopw [5,11] (fun vl i wr=>∃ k:Nat,k<=r.tasks.length/\i = J U k/\Ow Eu 3 wr (w+1) vl (G9 r.tasks st k)/\Below w w wr/\w.heap.size<wr.heap.size) (fun _ i _=>r.tasks.length - (intOf i).toNat);case atStart=>exact ⟨0,Ag _,rfl,by simpa [G9] using Ow.nil Eu 3 W (w.heap.size+1),B0,X.lt⟩
 case round =>
  clear X B0;obtain ⟨k,hk,rfl,ho,hb,bM⟩:=hrel;by_cases aA:k<r.tasks.length
  ·have aB:(k:Int)<(r.tasks.length:Int):=Bl;obtain ⟨b,o,_,rfl,aK,_,d0,d1,d2,d3⟩:=(h2.below hb).task aA;have hS:=Oe r.tasks st k aA;have Hl:=Bq (show (G9 r.tasks st k).length<=3000000 by have:=Lb r.tasks st k;omega);by_cases hx:r.tasks[k].state=st
   ·rw [if_pos hx] at hS;have S:=Bq hS;have t1:(r.tasks[k].state == st)=true:=beq_iff_eq.2 hx;clear hS hx;have ha:Hid (∀ w:World,Below w w ((w.alloc (.cells #[J U r.tasks[k].state,J U r.tasks[k].need,J U r.tasks[k].try_,J U r.tasks[k].until_] 217)).alloc (.cells #[J U (k:Int)] 3))):=fun w=>(Bt).alloc Bn _;go_wp2_with (at_builtin;refine Ch _ Eu Bp rfl (.tmp 20) (.tmp 22) rfl underlying32 cJ jz0 jz1 jz2 rfl (l:=G9 r.tasks st k) rfl (ho.below (ha.out wr)) rfl (Rd.one Eu _ _ k Bn rfl 1 (Bs _) (Nat.lt_succ_self _)) Hl.out Bn Bp (by simp;omega) ?_;intro v5 w5 o5 g5 _)
    have aV:=Bu hb (ha.out wr);have W5:=aV.grown g5 aV.size (fun g hg=>by have:=ho.within _ hg;omega);have tG:=g5.size;simp only [World.size_alloc] at tG;refine ⟨⟨k+1,Bl,by go_num,?_,W5,Bl⟩,by simp [intOf];omega⟩;rw [S.out];exact o5
   ·rw [if_neg hx,List.append_nil] at hS;have S:=Bq hS;have t1:(r.tasks[k].state == st)=false:=beq_eq_false_iff_ne.2 hx;clear hS hx;have ha:Hid (∀ w:World,Below w w (w.alloc (.cells #[J U r.tasks[k].state,J U r.tasks[k].need,J U r.tasks[k].try_,J U r.tasks[k].until_] 217))):=fun w=>Bt;go_wp2;refine ⟨⟨k+1,Bl,by go_num,?_,Bu hb (ha.out wr),by simp;omega⟩,by simp [intOf];omega⟩;rw [S.out];exact ho.below (ha.out wr)
  ·have aB:¬ (k:Int)<(r.tasks.length:Int):=Bl;have bF:k=r.tasks.length:=Bl;subst bF;go_wp2;go_ret;exact ⟨_,rfl,ho.more Bl,hb⟩
theorem U3 {es:List (Nat×Nat)} {T t x:Nat} (h:x∈D9 es T t):x<T:=by
 unfold D9 at h;exact List.mem_range.1 (List.mem_filter.1 h).1
theorem U4 (r:Run) (s:Sl×Sl) (t:Nat) (w:World) (hf:Cs r.plan=0) (hT:(r.tasks.length:Int)=r.plan.tasks) (h:Ce.rd w w r s) :
  Calls Am 267 #[Gt r s,J U (t:Int)] w fun e w'=>e = .returned (J U (Iq r t:Nat))/\Below w w w':=by
 obtain ⟨⟨A1,n1,c1⟩,⟨A2,n2,c2⟩⟩:=s;obtain rfl:n2=r.tasks.length:=RdL.at1 (s:=⟨A2,n2,c2⟩) h.2;have h2:RdL C7 w w (Aa A2 r.tasks.length c2) r.tasks:=h.2;have h1:Rd G6 w w (Aa A1 n1 c1) r.plan.edges:=Ir h.1;have hl:r.tasks.length<=12:=by have:=Eh (Dj.1 hf).1;omega
 have HL:=Bq (show ∀ x∈D9 (D4 r.plan) r.plan.tasks.toNat t,x<r.tasks.length from fun x hx=>by have:=U3 hx;omega);have HN:=Bq (show (D9 (D4 r.plan) r.plan.tasks.toNat t).length<=12 by have:=Iz (D4 r.plan) r.plan.tasks.toNat t;omega);have HD:=Bq (show Iq r t=Ia r (D9 (D4 r.plan) r.plan.tasks.toNat t) from rfl);clear hT;obtain ⟨W,aH,X,B0⟩:=bx1 w 167 [J U r.id,J U r.plan.prio,J U r.plan.most,J U r.plan.wait,J U r.plan.tasks,Aa A1 n1 c1,J U r.state,Aa A2 r.tasks.length c2];go_enter func267,ntmps267;go_wp2_with fail
 rw [<-aH.out];clear aH;refine (Oc r.plan (Aa A1 n1 c1) t _ hf ((h1.below B0).more B0.size)).mono ?_;rintro e w1 ⟨v,rfl,o1,b1⟩;generalize D9 (D4 r.plan) r.plan.tasks.toNat t=L at *
 obtain ⟨A3,c3,rfl,-⟩:=id (Rd.of_own o1);replace B0:=Bu B0 b1;replace X:=X.below b1;have X_:=X.g8;have bZ:=HN.out;go_wp2;go_loop [5,13] (fun n i=>∃ k:Nat,k<=L.length/\i = J U k/\n = J U (Ia r (L.take k):Nat)) (fun _ i=>L.length - (intOf i).toNat);case atStart=>exact ⟨0,Ag _,rfl,rfl⟩
 case round =>
  obtain ⟨k,hk,rfl,rfl⟩:=hrel;have ol:=Oo r (L.take k);rw [Az] at ol;by_cases aA:k<L.length
  ·have aB:(k:Int)<(L.length:Int):=Bl;have hx:=HL.out _ (Aw aA);obtain ⟨b3,o3,rfl,cD,e0⟩:=(Rd.of_own o1).nat aA;obtain ⟨b,o,_,rfl,aK,_,d0,d1,d2,d3⟩:=(h2.below B0).task hx;have hxI:(L[k]:Int)<(r.tasks.length:Int):=Bl;have ht:=Bq (Cu hx);by_cases h4:r.tasks[L[k]].state=4
   ·have S:=Bq (Xh (r:=r) aA (by rw [ht.out];exact h4));have t4:(r.tasks[L[k]].state != 4)=false:=by simp [h4]
    clear h4;go_wp2;exact ⟨⟨k+1,Bl,by go_num,by rw [S.out]⟩,by simp [intOf];omega⟩
   ·have S:=Bq (Uv (r:=r) aA (by rw [ht.out];exact h4));have t4:(r.tasks[L[k]].state != 4)=true:=by simp [h4]
    clear h4;go_wp2;exact ⟨⟨k+1,Bl,by go_num,by rw [S.out];go_num⟩,by simp [intOf];omega⟩
  ·have aB:¬ (k:Int)<(L.length:Int):=Bl;have bF:k=L.length:=Bl;subst bF;go_wp2;go_ret;exact ⟨C8 (by rw [HD.out]),B0⟩
theorem DBox.set {b:Nat} {cs:List Value} {w:World} (h:DBox b cs w) (j:Nat) (hj:j<cs.length) (u:Value):DBox b (cs.set j u) (w.setCell ⟨b,j,Ab⟩ u):=by
 refine ⟨fun i x hx=>?_,fun i=>by rw [Jx];exact h.free i,by simpa [World.setCell] using h.lt⟩;have hi:i<cs.length:=by
  have:=(List.getElem?_eq_some_iff.1 hx).1
  simpa using this
 rw [Nc w b i j u cs[i] (h.cell i _ (List.getElem?_eq_getElem hi)) ⟨_,h.cell j _ (List.getElem?_eq_getElem hj)⟩];by_cases e:i=j
 ·subst e;rw [List.getElem?_set_self hi] at hx;rw [if_pos rfl];exact hx
 ·rw [List.getElem?_set_ne (Ne.symm e),List.getElem?_eq_getElem hi] at hx;rw [if_neg e];exact hx
theorem DBox.off {b:Nat} {cs:List Value} {w w':World} {row:Option Nat} (h:DBox b cs w) (hg:w.grownBy w' row) (aC:Ac b≠row):DBox b cs w' :=
 h.keep hg.size (fun j=>hg.cell_far ⟨b,j,Ab⟩ h.lt aC) (fun j=>hg.frozen_far ⟨b,j,Ab⟩ h.lt aC)
theorem DBox.setOther {b:Nat} {cs:List Value} {w:World} (h:DBox b cs w) {a:Addr} (aC:b≠a.block) (u:Value):DBox b cs (w.setCell a u) :=
 h.off (Pa w a u) (fun e=>aC (Option.some.inj e))
theorem Bld.setOther {α:Type} {d:Dt α} {E:TypeId} {w:World} {base:Nat} {v:Value} {rs:List (α×d.S)} (h:Bld d E w base v rs) {a:Addr} (ha:a.block<base) (u:Value):Bld d E (w.setCell a u) base v rs:=by
 obtain ⟨G,h1,h2,h3,h4⟩:=h;refine ⟨G,h1.setOther (fun e=>by have:=h1.within _ e;omega) u,h2.keep (by simp [World.setCell]) (fun b hb=>Below.heap_setCell w a u b (fun e=>by have:=(h4 b hb).1;omega)),h3,h4⟩
theorem Rm (x:Note) (s:Sl) (w:World) (hl:Cz x<=2000000) (h:Ct.rd w w x s) :
  Calls Am 160 #[Ls x s] w (Df Ct Ls x w):=by
 have aY:∀ W,Below w w W->Ct.rd W W x s:=fun W hW=>Ct.rd_more (Ct.rd_below h hW) hW.size;have D0:=DBox.new 125 [J U x.seq,J U x.deed.kind,J U x.deed.run,J U x.deed.plan.prio,J U x.deed.plan.most,J U x.deed.plan.wait,J U x.deed.plan.tasks,Aa s.a s.n s.c,J U x.deed.task,J U x.deed.try_,J U x.deed.worker,J U x.deed.draw] w rfl;have D:=D0.below ((Br _ _).alloc (Bs _) (.cells #[J U (⟨0,⟨0,0,⟨0,0,0,0,[]⟩,0,0,0,0⟩⟩:Note).seq,J U (⟨0,⟨0,0,⟨0,0,0,0,[]⟩,0,0,0,0⟩⟩:Note).deed.kind,J U (⟨0,⟨0,0,⟨0,0,0,0,[]⟩,0,0,0,0⟩⟩:Note).deed.run,J U (⟨0,⟨0,0,⟨0,0,0,0,[]⟩,0,0,0,0⟩⟩:Note).deed.plan.prio,J U (⟨0,⟨0,0,⟨0,0,0,0,[]⟩,0,0,0,0⟩⟩:Note).deed.plan.most,J U (⟨0,⟨0,0,⟨0,0,0,0,[]⟩,0,0,0,0⟩⟩:Note).deed.plan.wait,J U (⟨0,⟨0,0,⟨0,0,0,0,[]⟩,0,0,0,0⟩⟩:Note).deed.plan.tasks,Aa (⟨Ab,0,0⟩:Sl).a (⟨Ab,0,0⟩:Sl).n (⟨Ab,0,0⟩:Sl).c,J U (⟨0,⟨0,0,⟨0,0,0,0,[]⟩,0,0,0,0⟩⟩:Note).deed.task,J U (⟨0,⟨0,0,⟨0,0,0,0,[]⟩,0,0,0,0⟩⟩:Note).deed.try_,J U (⟨0,⟨0,0,⟨0,0,0,0,[]⟩,0,0,0,0⟩⟩:Note).deed.worker,J U (⟨0,⟨0,0,⟨0,0,0,0,[]⟩,0,0,0,0⟩⟩:Note).deed.draw] 125));go_enter func160,ntmps160;go_wp2_with fail
 generalize hW1:(w.alloc _).alloc _=w1;have B1:Below w w w1:=by rw [<-hW1];repeat (first | exact Br _ _ | refine Ae ?_ Bo _)
 have z1:w1.heap.size=w.heap.size+1+1:=by rw [<-hW1];simp
 have D:DBox w [J U x.seq,J U x.deed.kind,J U x.deed.run,J U x.deed.plan.prio,J U x.deed.plan.most,J U x.deed.plan.wait,J U x.deed.plan.tasks,Aa s.a s.n s.c,J U x.deed.task,J U x.deed.try_,J U x.deed.worker,J U x.deed.draw] w1:=by rw [<-hW1];exact D0.below (Bt)
 have Z:DBox (w+1) [J U 0,J U 0,J U 0,J U 0,J U 0,J U 0,J U 0,Aa Ab 0 0,J U 0,J U 0,J U 0,J U 0] w1:=by rw [<-hW1];exact DBox.new _ _ _ Bn
 clear hW1 D0;refine Db (fun w'=>w'.cell? ⟨w,0,Ab⟩=Ac (J U x.seq)/\w'.cell? ⟨w,1,Ab⟩=Ac (J U x.deed.kind)/\w'.cell? ⟨w,2,Ab⟩=Ac (J U x.deed.run)/\w'.cell? ⟨w,3,Ab⟩=Ac (J U x.deed.plan.prio)/\w'.cell? ⟨w,4,Ab⟩=Ac (J U x.deed.plan.most)/\w'.cell? ⟨w,5,Ab⟩=Ac (J U x.deed.plan.wait)/\w'.cell? ⟨w,6,Ab⟩=Ac (J U x.deed.plan.tasks)/\w'.cell? ⟨w,7,Ab⟩=Ac (Aa s.a s.n s.c)/\w'.cell? ⟨w,8,Ab⟩=Ac (J U x.deed.task)/\w'.cell? ⟨w,9,Ab⟩=Ac (J U x.deed.try_)/\w'.cell? ⟨w,10,Ab⟩=Ac (J U x.deed.worker)/\w'.cell? ⟨w,11,Ab⟩=Ac (J U x.deed.draw)) 6 Bm ?_ (fun hHeld=>?_)
 ·exact ⟨D.cell 0 _ rfl,D.cell 1 _ rfl,D.cell 2 _ rfl,D.cell 3 _ rfl,D.cell 4 _ rfl,D.cell 5 _ rfl,D.cell 6 _ rfl,D.cell 7 _ rfl,D.cell 8 _ rfl,D.cell 9 _ rfl,D.cell 10 _ rfl,D.cell 11 _ rfl⟩
 refine aT 0 hHeld ?_;try simp only [pS]
 refine aT 1 hHeld ?_;try simp only [pS]
 refine aT 2 hHeld ?_;try simp only [pS]
 refine aT 3 hHeld ?_;try simp only [pS]
 refine oT 4 (fun K hK=>?_)
 (go_simp;refine (Rk x.deed s _ (by unfold Cz at hl;omega) (aY _ B1.drew)).mono ?_;rintro e w2 ⟨s2,F2,rfl,o2,n2,b2⟩;have B12:=Bu ((Br w1 w1).drew) b2;have B2:=Bu B1 B12;have D2:=D.below B12;have Z2:=Z.below B12;have zf:=Z2.free;have k0:w2.cell? ⟨w,0,Ab⟩=Ac (J U x.seq):=D2.cell 0 _ rfl;have k1:w2.cell? ⟨w,1,Ab⟩=Ac (J U x.deed.kind):=D2.cell 1 _ rfl;have k2:w2.cell? ⟨w,2,Ab⟩=Ac (J U x.deed.run):=D2.cell 2 _ rfl;have k3:w2.cell? ⟨w,3,Ab⟩=Ac (J U x.deed.plan.prio):=D2.cell 3 _ rfl;have k4:w2.cell? ⟨w,4,Ab⟩=Ac (J U x.deed.plan.most):=D2.cell 4 _ rfl;have k5:w2.cell? ⟨w,5,Ab⟩=Ac (J U x.deed.plan.wait):=D2.cell 5 _ rfl;have k6:w2.cell? ⟨w,6,Ab⟩=Ac (J U x.deed.plan.tasks):=D2.cell 6 _ rfl;have k7:w2.cell? ⟨w,7,Ab⟩=Ac (Aa s.a s.n s.c):=D2.cell 7 _ rfl;have k8:w2.cell? ⟨w,8,Ab⟩=Ac (J U x.deed.task):=D2.cell 8 _ rfl;have k9:w2.cell? ⟨w,9,Ab⟩=Ac (J U x.deed.try_):=D2.cell 9 _ rfl;have k10:w2.cell? ⟨w,10,Ab⟩=Ac (J U x.deed.worker):=D2.cell 10 _ rfl;have k11:w2.cell? ⟨w,11,Ab⟩=Ac (J U x.deed.draw):=D2.cell 11 _ rfl;have z0:=Z2.cell 0 _ rfl;have z1:=Z2.cell 1 _ rfl;have z2:=Z2.cell 2 _ rfl;have z3:=Z2.cell 3 _ rfl;have z4:=Z2.cell 4 _ rfl;have z5:=Z2.cell 5 _ rfl;have z6:=Z2.cell 6 _ rfl;have z7:=Z2.cell 7 _ rfl;have z8:=Z2.cell 8 _ rfl;have z9:=Z2.cell 9 _ rfl;have z10:=Z2.cell 10 _ rfl;have z11:=Z2.cell 11 _ rfl;go_simp)
 refine hK.out _ _ (fun _=>?_) ?_
 ·exact ⟨k0,k1,k2,k3,k4,k5,k6,k7,k8,k9,k10,k11⟩
 clear hK K;try simp only [pS]
 refine oT 5 (fun K hK=>?_);go_simp;refine hK.out _ _ (fun _=>?_) ?_
 ·exact ⟨k0,k1,k2,k3,k4,k5,k6,k7,k8,k9,k10,k11⟩
 clear hK K;try simp only [pS]
 refine oT 6 (fun K hK=>?_);go_simp;refine hK.out _ _ (fun aC=>absurd rfl aC) ?_;clear hK K;try simp only [pS]
 refine D6 Bm ?_ _;go_wp2;refine bodyPost_ret (v:=Ls x s2) ?_ rfl ?_
 ·simp [Ls,results,results160,go_sem, *]
 ·refine ⟨s2,F2,rfl,?_,?_,?_⟩
  ·have hn:(w.heap.size+1)∉F2:=fun hm=>by have:=n2 _ hm;simp only [World.size_drew] at this;omega
   repeat (first | (with_reducible exact o2) | refine Dt.ow_set Ec ?_ hn _)
  ·intro b hb
   have:=n2 b hb
   simp only [World.size_drew] at this;omega
  ·repeat (first | (with_reducible exact B2) | refine Ad ?_ Bo _)
def Cy:Enc Entry:={ cells:=fun x=>[J U x.prio,J U x.seq,J U x.run,J U x.task],sz:=4,len:=fun _=>rfl,one:=fun _ u hu=>by simp at hu;rcases hu with rfl | rfl | rfl | rfl<;>rfl }
theorem Jm {w:World} {B:Nat} {v:Value} {l:List Entry} (h:RdL Bx w B v l):Rd Cy w B v l:=by
 obtain ⟨rs,rfl,⟨A,c,rfl,cI,hA⟩,_⟩:=h;refine ⟨A,c,by rw [Ar],by rw [Ar];exact cI,fun hl=>?_⟩;rw [Ar] at hl;obtain ⟨b,o,hb,aA,hc⟩:=hA hl;refine ⟨b,o,hb,aA,fun k hk j u hu=>?_⟩;rw [Ar] at hk;rw [List.getElem_map] at hu;exact hc k hk j u hu
theorem Lc {w:World} {B:Nat} {v:Value} {l:List Entry} (h:Rd Cy w B v l):RdL Bx w B v l:=by
 obtain ⟨A,c,rfl,cI,hA⟩:=h;refine ⟨l.map fun x=>(x,()),by rw [List.map_map];exact List.map_id' l,⟨A,c,by rw [Ar],by rw [Ar];exact cI,fun hl=>?_⟩,fun _ _=>trivial⟩;rw [Ar] at hl;obtain ⟨b,o,hb,aA,hc⟩:=hA hl;refine ⟨b,o,hb,aA,fun k hk j u hu=>?_⟩;rw [Ar] at hk;rw [List.getElem_map] at hu;exact hc k hk j u hu
theorem Gg:(Am.info? 163).map (fun i=>(i.zero,i.size,i.bytes))=Ac (Ac (.agg #[J U 0,J U 0,J U 0,J U 0]),4,32):=Bm
theorem Lu {α:Type} (l:List (List α)) (k:Nat) (hk:k<l.length):(l.take (k+1)).flatten=(l.take k).flatten ++ l[k]:=by
 rw [Cp l k hk,List.flatten_append];simp
theorem Ib (l:List (List Entry)) (k:Nat):(l.take k).flatten.length<=D8 Cl l:=by
 induction l generalizing k with
 | nil=>simp
 | cons x l ih =>
  cases k with
  | zero=>simp
  | succ k =>
   have:=ih k
   rw [List.take_succ_cons,List.flatten_cons,Bd];unfold D8 at *
   have hx:x.length<=Cl x:=Cj Dw x;simp only [List.length_cons,List.map_cons,List.sum_cons];omega
theorem Nv (y:Yard) (s:Sl×Sl) (w:World) (hl:Ca y<=2000000) (h:Bv.rd w w y s) :
  Calls Am 133 #[Dm y s] w fun e w'=>∃ v,e = .returned v/\Ow Cy 163 w' w v (Cf y)/\Below w w w':=by
 obtain ⟨⟨A1,n1,c1⟩,⟨A2,n2,c2⟩⟩:=s;obtain rfl:n1=y.shelf.length:=RdL.at1 (s:=⟨A1,n1,c1⟩) h.1;have h1:RdL (Dt.list Bx) w w (Aa A1 y.shelf.length c1) y.shelf:=h.1;have bZ:y.shelf.length<=2000000:=Ah (Cj Cl _) (by unfold Ca at hl;omega);have HL:=Bq (show ∀ k,(y.shelf.take k).flatten.length<=2000000 from fun k=>Ah (Ib y.shelf k) (by unfold Ca at hl;omega));have HE:=Bq (show ∀ k (hk:k<y.shelf.length),y.shelf[k].length<=2000000 from fun k hk=>by
  have:=C9 (cnt:=Cl) (Aw hk)
  have h2:y.shelf[k].length<=Cl y.shelf[k]:=Cj Dw _;unfold Ca at hl;omega)
 clear hl h;have X:=DBox.new 27 [J U y.now,J U y.seq,Aa A1 y.shelf.length c1,Aa A2 n2 c2] w (b:=w) rfl;have B0:Below w w (w.alloc (.cells #[J U y.now,J U y.seq,Aa A1 y.shelf.length c1,Aa A2 n2 c2] 27)):=by repeat (first | exact Br _ _ | refine Ae ?_ Bo _)
 obtain ⟨j0,cJ,jz0,jz1,jz2⟩:=info_parts Gg;go_enter func133,ntmps133;go_wp2;generalize (w.alloc (.cells #[J U y.now,J U y.seq,Aa A1 y.shelf.length c1,Aa A2 n2 c2] 27))=W at *
 go_loopw [3,9] (fun vl i wr=>∃ k:Nat,k<=y.shelf.length/\i = J U k/\Ow Cy 163 wr (w+1) vl (y.shelf.take k).flatten/\Below w w wr/\w.heap.size<wr.heap.size) (fun _ i _=>y.shelf.length - (intOf i).toNat);case atStart=>exact ⟨0,Ag _,rfl,by simpa using Ow.nil Cy 163 W (w.heap.size+1),B0,X.lt⟩
 case round =>
  clear X B0;obtain ⟨k,hk,rfl,ho,hb,bM⟩:=hrel;by_cases aA:k<y.shelf.length
  ·have aB:(k:Int)<(y.shelf.length:Int):=Bl;obtain ⟨b,o,⟨As,ns,cs⟩,rfl,aK,hr,d0⟩:=(h1.below hb).entryS aA;obtain rfl:ns=y.shelf[k].length:=RdL.at1 (s:=⟨As,ns,cs⟩) hr;have cM:=(Jm hr).more hb.size;have S:=Bq (Lu y.shelf k aA);have HLk:=Bq (HL.out k);have HEk:=Bq (HE.out k aA);go_wp2_with (at_builtin;refine Ch _ Cy Bp rfl (.tmp 13) (.tmp 14) rfl underlying122 cJ jz0 jz1 jz2 rfl (l:=(y.shelf.take k).flatten) rfl ho rfl cM (Ah HLk.out Bl) (Ah HEk.out Bl) Bp Bl ?_;intro v5 w5 o5 g5 _)
   have W5:=hb.grown g5 hb.size (fun g hg=>by have:=ho.within _ hg;omega);have tG:=g5.size;refine ⟨⟨v5,_,J U ((k:Int)+1),⟨k+1,Bl,by go_num,?_,W5,Bl⟩,rfl,rfl,rfl⟩,by simp [intOf];omega⟩;rw [S.out];exact o5
  ·have aB:¬ (k:Int)<(y.shelf.length:Int):=Bl;have bF:k=y.shelf.length:=Bl;subst bF;rw [List.take_length] at ho;go_wp2;go_ret;exact ⟨_,rfl,ho.more Bl,hb⟩
theorem Nw (y:Yard) (s:Sl×Sl) (w:World) (hl:Ca y<=2000000) (h:Bv.rd w w y s) :
  Calls Am 154 #[Dm y s] w fun e w'=>∃ v,e = .returned v/\Ow Cy 163 w' w v (Cf y)/\Below w w w':=by
 obtain ⟨⟨A1,n1,c1⟩,⟨A2,n2,c2⟩⟩:=s;obtain rfl:n1=y.shelf.length:=RdL.at1 (s:=⟨A1,n1,c1⟩) h.1;have h1:RdL (Dt.list Bx) w w (Aa A1 y.shelf.length c1) y.shelf:=h.1;have bZ:y.shelf.length<=2000000:=Ah (Cj Cl _) (by unfold Ca at hl;omega);have HL:=Bq (show ∀ k,(y.shelf.take k).flatten.length<=2000000 from fun k=>Ah (Ib y.shelf k) (by unfold Ca at hl;omega));have HE:=Bq (show ∀ k (hk:k<y.shelf.length),y.shelf[k].length<=2000000 from fun k hk=>by
  have:=C9 (cnt:=Cl) (Aw hk)
  have h2:y.shelf[k].length<=Cl y.shelf[k]:=Cj Dw _;unfold Ca at hl;omega)
 clear hl h;have X:=(DBox.new 27 [J U y.now,J U y.seq,Aa A1 y.shelf.length c1,Aa A2 n2 c2] w (b:=w) rfl).below ((Br _ _).alloc (Bs _) (.cells #[] 163));have E:=DBox.new 163 [] (w.alloc (.cells #[J U y.now,J U y.seq,Aa A1 y.shelf.length c1,Aa A2 n2 c2] 27)) (b:=w+1) Bn;have B0:Below w w ((w.alloc (.cells #[J U y.now,J U y.seq,Aa A1 y.shelf.length c1,Aa A2 n2 c2] 27)).alloc (.cells #[] 163)):=by repeat (first | exact Br _ _ | refine Ae ?_ Bo _)
 have O0:=Ow.empty Cy 163 (w.alloc (.cells #[J U y.now,J U y.seq,Aa A1 y.shelf.length c1,Aa A2 n2 c2] 27)) (g:=w+1) Bn;obtain ⟨j0,cJ,jz0,jz1,jz2⟩:=info_parts Gg;clear E;go_enter func154,ntmps154;go_wp2;generalize ((w.alloc (.cells #[J U y.now,J U y.seq,Aa A1 y.shelf.length c1,Aa A2 n2 c2] 27)).alloc (.cells #[] 163))=W at *
 go_loopw [3,4] (fun vl i wr=>∃ k:Nat,k<=y.shelf.length/\i = J U k/\Ow Cy 163 wr (w+1) vl (y.shelf.take k).flatten/\DBox w [J U y.now,J U y.seq,Aa A1 y.shelf.length c1,Aa A2 n2 c2] wr/\Below w w wr) (fun _ i _=>y.shelf.length - (intOf i).toNat);case atStart=>exact ⟨0,Ag _,rfl,by simpa using O0,X,B0⟩
 case round =>
  clear X B0 O0;obtain ⟨k,hk,rfl,ho,X,hb⟩:=hrel;obtain ⟨X_0,X_1,X_2,X_3,X_l⟩:=X.g4;by_cases aA:k<y.shelf.length
  ·have aB:(k:Int)<(y.shelf.length:Int):=Bl;obtain ⟨b,o,⟨As,ns,cs⟩,rfl,aK,hr,d0⟩:=(h1.below hb).entryS aA;obtain rfl:ns=y.shelf[k].length:=RdL.at1 (s:=⟨As,ns,cs⟩) hr;have cM:=(Jm hr).more hb.size;have S:=Bq (Lu y.shelf k aA);have HLk:=Bq (HL.out k);have HEk:=Bq (HE.out k aA);go_wp2_with (at_builtin;refine Ch _ Cy Bp rfl (.tmp 13) (.tmp 18) rfl underlying122 cJ jz0 jz1 jz2 rfl (l:=(y.shelf.take k).flatten) rfl ho rfl cM (Ah HLk.out Bl) (Ah HEk.out Bl) Bp Bl ?_;intro v5 w5 o5 g5 _)
   have W5:=hb.grown g5 hb.size (fun g hg=>by have:=ho.within _ hg;omega);have X5:=X.off g5 (fun e=>by have:=ho.within _ e.symm;omega);refine ⟨⟨k+1,Bl,by go_num,?_,X5,W5⟩,by simp [intOf];omega⟩;rw [S.out];exact o5
  ·have aB:¬ (k:Int)<(y.shelf.length:Int):=Bl;have bF:k=y.shelf.length:=Bl;subst bF;rw [List.take_length] at ho;go_wp2;go_ret;exact ⟨_,rfl,ho.more Bl,hb⟩
def Ot (x:Task) (most:Int):Bool :=
 (if x.state=3 then inB x.until_ 1 1000000000 else (x.until_ == 0)) && (if x.state=1 then decide (0<x.need) else if x.state=2 then (x.need == 0) && decide (x.try_<most) else if x.state=6 then true else (x.need == 0) && decide (1<=x.try_))
theorem Xo {x:Task} {N:Nat} {most:Int} (h1:1<=x.state/\x.state<=6) (h2:x.need=N) (h3:0<=x.try_/\x.try_<=most):tf (Od x N most)=Ot x most:=by
 rw [Bool.eq_iff_iff,Mj];obtain ⟨st,nd,tr,un⟩:=x;unfold Od Ot;simp only at *
 rcases (show st=1\/st=2\/st=3\/st=4\/st=5\/st=6 by omega) with rfl | rfl | rfl | rfl | rfl | rfl<;>simp [inB]<;>omega
theorem Ag3 {a b:Int} (h:(a != b)=true):¬ a=b:=by simpa using h
theorem Ag4 {a b:Int} (h:(a != b)=false):a=b:=by simpa using h
theorem Ag5 {a b:Int} (h:(a == b)=true):a=b:=by simpa using h
theorem Ag6 {a b:Int} (h:(a == b)=false):¬ a=b:=by simpa using h
theorem U5 (r:Run) (s:Sl×Sl) (t:Nat) (w:World) (hf:Cs r.plan=0) (hT:(r.tasks.length:Int)=r.plan.tasks) (ht:t<r.tasks.length) (h:Ce.rd w w r s) :
  Calls Am 219 #[Gt r s,J U (t:Int)] w fun e w'=>e = .returned (.bool (tf (Hk r t)))/\Below w w w':=by
 have HC:=Bq (show ∀ W,Below w w W->Calls Am 267 #[Gt r s,J U (t:Int)] W fun e w'=>e = .returned (J U (Iq r t:Nat))/\Below W W w' from
  fun W hW=>U4 r s t W hf hT (Ce.rd_more (Ce.rd_below h hW) hW.size))
 obtain ⟨⟨A1,n1,c1⟩,⟨A2,n2,c2⟩⟩:=s;obtain rfl:n2=r.tasks.length:=RdL.at1 (s:=⟨A2,n2,c2⟩) h.2;have h2:RdL C7 w w (Aa A2 r.tasks.length c2) r.tasks:=h.2;have hl:r.tasks.length<=12:=by have:=Eh (Dj.1 hf).1;omega
 have HQ:=Bq (show tf (Hk r t)=tf (Od r.tasks[t] (Iq r t) r.plan.most) by unfold Hk;rw [Cu ht]);have jR:(t:Int)<(r.tasks.length:Int):=Bl;clear hT hf h;obtain ⟨b,o,_,hA,aK,_,d0,d1,d2,d3⟩:=h2.task ht;subst hA;generalize Iq r t=N at *
 generalize r.tasks[t]=x at *
 obtain ⟨W,aH,X,T,B0⟩:=bx2 w 167 [J U r.id,J U r.plan.prio,J U r.plan.most,J U r.plan.wait,J U r.plan.tasks,Aa A1 n1 c1,J U r.state,Aa (Ac ⟨b,o,Ab⟩) r.tasks.length c2] 217 [J U x.state,J U x.need,J U x.try_,J U x.until_];go_enter func219,ntmps219;go_wp2;rw [<-aH.out];clear aH;clear d0 d1 d2 d3;have X_:=X.g8;have T_:=T.g4;have aQ:=Di W;have HC2:=Bq (show ∀ u:Ju W,Calls Am 267 #[Gt r (⟨A1,n1,c1⟩,⟨Ac ⟨b,o,Ab⟩,r.tasks.length,c2⟩),J U (t:Int)] u.1 fun e w'=>e = .returned (J U (N:Nat))/\Below u.1 u.1 w' from fun u=>HC.out u.1 (Bu B0 u.2));clear HC;cases a1:inB x.state 1 6;case false =>
  have H:=Bq (show tf (Hk r t)=false by rw [HQ.out];exact Ci (fun h=>by have:=Cw.2 h.1;rw [a1] at this;cases this));refine Bz Bm Bm ?_;repeat (go_big_quiet_step ((go_at_call 56;exact Ds (fun u=>Co _ _ _ u.1))))
  refine Ak ?_;rintro _ ⟨⟨w1,b1⟩,rfl⟩;go_wp2;go_ret;exact ⟨Bw H.out.symm,Bu B0 b1⟩
 cases a2:(x.need == (N:Int))
 case false =>
  have a2':(x.need != (N:Int))=true:=by simp [bne,a2]
  have H:=Bq (show tf (Hk r t)=false by rw [HQ.out];exact Ci (fun h=>by have:=beq_iff_eq.2 h.2.1;rw [a2] at this;cases this));refine Bz Bm Bm ?_;repeat (go_big_quiet_step ((first
   | (go_at_call 56;exact Ds (fun u=>Co _ _ _ u.1))
   | (go_at_call 267;(with_reducible exact I7 HC2.out)))))
  refine Ak ?_;rintro _ ⟨⟨w1,b1⟩,rfl⟩;go_wp2;go_ret;exact ⟨Bw H.out.symm,Bu B0 b1⟩
 have a2':(x.need != (N:Int))=false:=by simp [bne,a2]
 cases a3:inB x.try_ 0 r.plan.most;case false =>
  have H:=Bq (show tf (Hk r t)=false by rw [HQ.out];exact Ci (fun h=>by have:=Cw.2 h.2.2.1;rw [a3] at this;cases this));refine Bz Bm Bm ?_;repeat (go_big_quiet_step ((first
   | (go_at_call 56;exact Ds (fun u=>Co _ _ _ u.1))
   | (go_at_call 267;(with_reducible exact I7 HC2.out)))))
  refine Ak ?_;rintro _ ⟨⟨w1,b1⟩,rfl⟩;go_wp2;go_ret;exact ⟨Bw H.out.symm,Bu B0 b1⟩
 have H:=Bq (show tf (Hk r t)=Ot x r.plan.most by rw [HQ.out];exact Xo (Cw.1 a1) (beq_iff_eq.1 a2) (Cw.1 a3));have a1':=Cw.1 a1;refine Bz Bm Bm ?_;repeat (go_big_quiet_step ((first
  | (go_at_call 56;exact Ds (fun u=>Co _ _ _ u.1))
  | (go_at_call 267;(with_reducible exact I7 HC2.out)))))
 refine Ak ?_;rintro _ ⟨⟨w1,b1⟩,rfl⟩;clear a1 a2 a2' a3 aQ HC2;replace X:=X.below b1;clear X_;have X_:=X.g8;replace T:=T.below b1;clear T_;have T_:=T.g4;replace B0:=Bu B0 b1;obtain ⟨st,nd,tr,un⟩:=x;simp only at *
 have S:=(show st=1\/st=2\/st=3\/st=4\/st=5\/st=6 by omega)
 clear a1';rcases S with rfl | rfl | rfl | rfl | rfl | rfl
 all_goals
  go_wp2_with (go_at_call 56;refine (Co _ _ _ _).mono ?_;rintro e w' ⟨rfl,rfl⟩)
  all_goals
   go_ret;exact ⟨Bw (by
    rw [H.out];unfold Ot;try have e1:=Ag3 ‹(un != 0)=true›
    try have e1:=Ag4 ‹(un != 0)=false›
    try have e3:=Ag5 ‹(nd == 0)=true›
    try have e3:=Ag6 ‹(nd == 0)=false›
    simp [*]),B0⟩
theorem Aa2 {y:Yard} {e:Entry} (h:Dk y e.run = -1):E0 y e=false:=Ci (fun hh=>by have:=hh.1;omega)
theorem Xp {y:Yard} {e:Entry} {k:Nat} (hk:k<y.runs.length) (h:Dk y e.run=k) (hq:inB e.task 0 ((y.runs[k].tasks.length:Int) - 1)=false):E0 y e=false :=
 Ci (fun hh=>by
  have h2:=hh.2.1;rw [Gy hk h] at h2
  have:=Cw.2 (show 0<=e.task/\e.task<=(y.runs[k].tasks.length:Int) - 1 by omega)
  rw [hq] at this;cases this)
theorem Aa3 {y:Yard} {e:Entry} {k t:Nat} (hk:k<y.runs.length) (h:Dk y e.run=k) (ht:t<y.runs[k].tasks.length) (he:e.task=t):E0 y e=(y.runs[k].tasks[t].state == 2):=by
 unfold E0;rw [Bool.eq_iff_iff,Mj,beq_iff_eq];unfold Uw;rw [Gy hk h,he,Int.toNat_natCast,Cu ht];constructor
 ·intro hh;exact hh.2.2
 ·intro hh;exact ⟨Bl,Bl,hh⟩
theorem G8 {y:Yard} {k:Nat} (hl:Ca y<=2000000) (hk:k<y.runs.length):y.runs[k].tasks.length<=2000000:=by
 have h1:=C9 (cnt:=Cn) (Aw hk);have h2:y.runs[k].tasks.length<=D8 Dz y.runs[k].tasks:=Cj _ _;unfold Ca at hl;unfold Cn at h1;unfold Cn at hl;omega
theorem Pj (y:Yard) (s:Sl×Sl) (e:Entry) (w:World) (hl:Ca y<=2000000) (h:Bv.rd w w y s) :
  Calls Am 222 #[Dm y s,Gs e ()] w fun e' w'=>e' = .returned (.bool (E0 y e))/\Below w w w':=by
 have HR:=Bq (show ∀ W,Below w w W->Bv.rd W W y s from fun W hW=>Bv.rd_more (Bv.rd_below h hW) hW.size);obtain ⟨⟨A1,n1,c1⟩,⟨A2,n2,c2⟩⟩:=s;obtain rfl:n2=y.runs.length:=RdL.at1 (s:=⟨A2,n2,c2⟩) h.2;have h2:RdL Ce w w (Aa A2 y.runs.length c2) y.runs:=h.2;have bZ:y.runs.length<=2000000:=Ah (Cj Cn _) (by unfold Ca at hl;omega);obtain ⟨pr,sq,rn,tk⟩:=e;have X:=(DBox.new 27 [J U y.now,J U y.seq,Aa A1 n1 c1,Aa A2 y.runs.length c2] w (b:=w) rfl).below ((Br _ _).alloc (Bs _) (.cells #[J U (⟨pr,sq,rn,tk⟩:Entry).prio,J U (⟨pr,sq,rn,tk⟩:Entry).seq,J U (⟨pr,sq,rn,tk⟩:Entry).run,J U (⟨pr,sq,rn,tk⟩:Entry).task] 163));have E:=DBox.new 163 [J U (⟨pr,sq,rn,tk⟩:Entry).prio,J U (⟨pr,sq,rn,tk⟩:Entry).seq,J U (⟨pr,sq,rn,tk⟩:Entry).run,J U (⟨pr,sq,rn,tk⟩:Entry).task] (w.alloc (.cells #[J U y.now,J U y.seq,Aa A1 n1 c1,Aa A2 y.runs.length c2] 27)) (b:=w+1) Bn;have B0:Below w w ((w.alloc (.cells #[J U y.now,J U y.seq,Aa A1 n1 c1,Aa A2 y.runs.length c2] 27)).alloc (.cells #[J U (⟨pr,sq,rn,tk⟩:Entry).prio,J U (⟨pr,sq,rn,tk⟩:Entry).seq,J U (⟨pr,sq,rn,tk⟩:Entry).run,J U (⟨pr,sq,rn,tk⟩:Entry).task] 163)):=by repeat (first | exact Br _ _ | refine Ae ?_ Bo _)
 have C:=E9 y (⟨A1,n1,c1⟩,⟨A2,y.runs.length,c2⟩) rn ((w.alloc (.cells #[J U y.now,J U y.seq,Aa A1 n1 c1,Aa A2 y.runs.length c2] 27)).alloc (.cells #[J U (⟨pr,sq,rn,tk⟩:Entry).prio,J U (⟨pr,sq,rn,tk⟩:Entry).seq,J U (⟨pr,sq,rn,tk⟩:Entry).run,J U (⟨pr,sq,rn,tk⟩:Entry).task] 163)) hl (HR.out _ B0);clear h;rcases Ez y rn with hr | ⟨k,hk,hr⟩
 ·have H:=Bq (Aa2 (e:=⟨pr,sq,rn,tk⟩) hr);rw [hr] at C;clear hr;go_enter func222,ntmps222;go_wp2_with fail
  generalize ((w.alloc (.cells #[J U y.now,J U y.seq,Aa A1 n1 c1,Aa A2 y.runs.length c2] 27)).alloc (.cells #[J U (⟨pr,sq,rn,tk⟩:Entry).prio,J U (⟨pr,sq,rn,tk⟩:Entry).seq,J U (⟨pr,sq,rn,tk⟩:Entry).run,J U (⟨pr,sq,rn,tk⟩:Entry).task] 163))=W at *
  refine C.mono ?_;rintro e1 w1 ⟨rfl,b1⟩;replace X:=X.below b1;replace E:=E.below b1;have X_:=X.g4;have E_:=E.g4;have aQ:=Di w1;go_wp2;refine Bz Bm Bm ?_;repeat (go_big_quiet_step (fail))
  refine Ak ?_;rintro _ ⟨⟨w2,b2⟩,rfl⟩;clear aQ;go_wp2;go_ret;exact ⟨Bw H.out.symm,Bu (Bu B0 b1) b2⟩
 ·have tS:=G8 hl hk;have HR2:=Bq hr;rw [hr] at C;clear hr;go_enter func222,ntmps222;go_wp2_with fail
  generalize ((w.alloc (.cells #[J U y.now,J U y.seq,Aa A1 n1 c1,Aa A2 y.runs.length c2] 27)).alloc (.cells #[J U (⟨pr,sq,rn,tk⟩:Entry).prio,J U (⟨pr,sq,rn,tk⟩:Entry).seq,J U (⟨pr,sq,rn,tk⟩:Entry).run,J U (⟨pr,sq,rn,tk⟩:Entry).task] 163))=W at *
  refine C.mono ?_;rintro e1 w1 ⟨rfl,b1⟩;replace X:=X.below b1;replace E:=E.below b1;have X_:=X.g4;have E_:=E.g4;replace B0:=Bu B0 b1;obtain ⟨b,o,⟨s1,⟨At,nt,ct⟩⟩,eN,aK,cM,c0_,c1_,c2_,c3_,c4_,c5_,c6_,c7_⟩:=(h2.below B0).run hk;subst eN;obtain rfl:nt=y.runs[k].tasks.length:=RdL.at1 (s:=⟨At,nt,ct⟩) cM.2;have h3:RdL C7 w1 w (Aa At y.runs[k].tasks.length ct) y.runs[k].tasks:=cM.2;have gL:(k:Int)<(y.runs.length:Int):=Bl;have cL:decide ((0:Int)<=(k:Int))=true:=decide_eq_true Bl;have aQ:=Di w1;have bS:b<w1:=Ai aK B0.size;have wr1:U.wrap ((y.runs[k].tasks.length:Int) - 1)=(y.runs[k].tasks.length:Int) - 1:=Aq _ Bl;cases q:inB tk 0 ((y.runs[k].tasks.length:Int) - 1)
  ·have H:=Bq (Xp (e:=⟨pr,sq,rn,tk⟩) hk HR2.out q);go_wp2;refine Bz Bm Bm ?_;repeat (go_big_quiet_step ((go_at_call 56;exact Ds (fun u=>Co _ _ _ u.1))))
   refine Ak ?_;rintro _ ⟨⟨w2,b2⟩,rfl⟩;clear aQ;go_wp2;go_ret;exact ⟨Bw H.out.symm,Bu B0 b2⟩
  ·have qq:=Cw.1 q;obtain ⟨t,rfl⟩:=Ap qq.1;have ht:t<y.runs[k].tasks.length:=Bl;obtain ⟨b',o',_,sR,bI,_,d0,d1,d2,d3⟩:=h3.task ht;subst sR;have eV:b'<w1:=Ai bI B0.size;have jR:(t:Int)<(y.runs[k].tasks.length:Int):=Bl;have H:=Bq (Aa3 (e:=⟨pr,sq,rn,(t:Int)⟩) hk HR2.out ht rfl);clear qq;generalize y.runs[k].tasks[t].state=st at *
   cases q2:(st == 2)
   all_goals
    rw [q2] at H;go_wp2;refine Bz Bm Bm ?_;repeat (go_big_quiet_step ((go_at_call 56;exact Ds (fun u=>Co _ _ _ u.1))))
    refine Ak ?_;rintro _ ⟨⟨w2,b2⟩,rfl⟩;clear aQ;go_wp2;go_ret;exact ⟨Bw H.out.symm,Bu B0 b2⟩
theorem Pk (y:Yard) (s:Sl×Sl) (e:Entry) (w:World) (hl:Ca y<=2000000) (h:Bv.rd w w y s) :
  Calls Am 232 #[Dm y s,Gs e ()] w fun e' w'=>e' = .returned (.bool (E0 y e))/\Below w w w':=by
 have HR:=Bq (show ∀ W,Below w w W->Bv.rd W W y s from fun W hW=>Bv.rd_more (Bv.rd_below h hW) hW.size);obtain ⟨⟨A1,n1,c1⟩,⟨A2,n2,c2⟩⟩:=s;obtain rfl:n2=y.runs.length:=RdL.at1 (s:=⟨A2,n2,c2⟩) h.2;have h2:RdL Ce w w (Aa A2 y.runs.length c2) y.runs:=h.2;have bZ:y.runs.length<=2000000:=Ah (Cj Cn _) (by unfold Ca at hl;omega);obtain ⟨pr,sq,rn,tk⟩:=e;have X:=(DBox.new 27 [J U y.now,J U y.seq,Aa A1 n1 c1,Aa A2 y.runs.length c2] w (b:=w) rfl).below ((Br _ _).alloc (Bs _) (.cells #[J U (⟨pr,sq,rn,tk⟩:Entry).prio,J U (⟨pr,sq,rn,tk⟩:Entry).seq,J U (⟨pr,sq,rn,tk⟩:Entry).run,J U (⟨pr,sq,rn,tk⟩:Entry).task] 163));have E:=DBox.new 163 [J U (⟨pr,sq,rn,tk⟩:Entry).prio,J U (⟨pr,sq,rn,tk⟩:Entry).seq,J U (⟨pr,sq,rn,tk⟩:Entry).run,J U (⟨pr,sq,rn,tk⟩:Entry).task] (w.alloc (.cells #[J U y.now,J U y.seq,Aa A1 n1 c1,Aa A2 y.runs.length c2] 27)) (b:=w+1) Bn;have B0:Below w w ((w.alloc (.cells #[J U y.now,J U y.seq,Aa A1 n1 c1,Aa A2 y.runs.length c2] 27)).alloc (.cells #[J U (⟨pr,sq,rn,tk⟩:Entry).prio,J U (⟨pr,sq,rn,tk⟩:Entry).seq,J U (⟨pr,sq,rn,tk⟩:Entry).run,J U (⟨pr,sq,rn,tk⟩:Entry).task] 163)):=by repeat (first | exact Br _ _ | refine Ae ?_ Bo _)
 have C:=E8 y (⟨A1,n1,c1⟩,⟨A2,y.runs.length,c2⟩) rn ((w.alloc (.cells #[J U y.now,J U y.seq,Aa A1 n1 c1,Aa A2 y.runs.length c2] 27)).alloc (.cells #[J U (⟨pr,sq,rn,tk⟩:Entry).prio,J U (⟨pr,sq,rn,tk⟩:Entry).seq,J U (⟨pr,sq,rn,tk⟩:Entry).run,J U (⟨pr,sq,rn,tk⟩:Entry).task] 163)) hl (HR.out _ B0);clear h;rcases Ez y rn with hr | ⟨k,hk,hr⟩
 ·have H:=Bq (Aa2 (e:=⟨pr,sq,rn,tk⟩) hr);rw [hr] at C;clear hr;go_enter func232,ntmps232;go_wp2_with fail
  generalize ((w.alloc (.cells #[J U y.now,J U y.seq,Aa A1 n1 c1,Aa A2 y.runs.length c2] 27)).alloc (.cells #[J U (⟨pr,sq,rn,tk⟩:Entry).prio,J U (⟨pr,sq,rn,tk⟩:Entry).seq,J U (⟨pr,sq,rn,tk⟩:Entry).run,J U (⟨pr,sq,rn,tk⟩:Entry).task] 163))=W at *
  refine C.mono ?_;rintro e1 w1 ⟨rfl,b1⟩;replace X:=X.below b1;replace E:=E.below b1;have X_:=X.g4;have E_:=E.g4;have aQ:=Di w1;go_wp2;refine Bz Bm Bm ?_;repeat (go_big_quiet_step (fail))
  refine Ak ?_;rintro _ ⟨⟨w2,b2⟩,rfl⟩;clear aQ;go_wp2;go_ret;exact ⟨Bw H.out.symm,Bu (Bu B0 b1) b2⟩
 ·have tS:=G8 hl hk;have HR2:=Bq hr;rw [hr] at C;clear hr;go_enter func232,ntmps232;go_wp2_with fail
  generalize ((w.alloc (.cells #[J U y.now,J U y.seq,Aa A1 n1 c1,Aa A2 y.runs.length c2] 27)).alloc (.cells #[J U (⟨pr,sq,rn,tk⟩:Entry).prio,J U (⟨pr,sq,rn,tk⟩:Entry).seq,J U (⟨pr,sq,rn,tk⟩:Entry).run,J U (⟨pr,sq,rn,tk⟩:Entry).task] 163))=W at *
  refine C.mono ?_;rintro e1 w1 ⟨rfl,b1⟩;replace X:=X.below b1;replace E:=E.below b1;have X_:=X.g4;have E_:=E.g4;replace B0:=Bu B0 b1;obtain ⟨b,o,⟨s1,⟨At,nt,ct⟩⟩,eN,aK,cM,c0_,c1_,c2_,c3_,c4_,c5_,c6_,c7_⟩:=(h2.below B0).run hk;subst eN;obtain rfl:nt=y.runs[k].tasks.length:=RdL.at1 (s:=⟨At,nt,ct⟩) cM.2;have h3:RdL C7 w1 w (Aa At y.runs[k].tasks.length ct) y.runs[k].tasks:=cM.2;have gL:(k:Int)<(y.runs.length:Int):=Bl;have cL:decide ((0:Int)<=(k:Int))=true:=decide_eq_true Bl;have aQ:=Di w1;have bS:b<w1:=Ai aK B0.size;have wr1:U.wrap ((y.runs[k].tasks.length:Int) - 1)=(y.runs[k].tasks.length:Int) - 1:=Aq _ Bl;cases q:inB tk 0 ((y.runs[k].tasks.length:Int) - 1)
  ·have H:=Bq (Xp (e:=⟨pr,sq,rn,tk⟩) hk HR2.out q);go_wp2;refine Bz Bm Bm ?_;repeat (go_big_quiet_step ((go_at_call 63;exact Ds (fun u=>Cg _ _ _ u.1))))
   refine Ak ?_;rintro _ ⟨⟨w2,b2⟩,rfl⟩;clear aQ;go_wp2;go_ret;exact ⟨Bw H.out.symm,Bu B0 b2⟩
  ·have qq:=Cw.1 q;obtain ⟨t,rfl⟩:=Ap qq.1;have ht:t<y.runs[k].tasks.length:=Bl;obtain ⟨b',o',_,sR,bI,_,d0,d1,d2,d3⟩:=h3.task ht;subst sR;have eV:b'<w1:=Ai bI B0.size;have jR:(t:Int)<(y.runs[k].tasks.length:Int):=Bl;have H:=Bq (Aa3 (e:=⟨pr,sq,rn,(t:Int)⟩) hk HR2.out ht rfl);clear qq;generalize y.runs[k].tasks[t].state=st at *
   cases q2:(st == 2)
   all_goals
    rw [q2] at H;go_wp2;refine Bz Bm Bm ?_;repeat (go_big_quiet_step ((go_at_call 63;exact Ds (fun u=>Cg _ _ _ u.1))))
    refine Ak ?_;rintro _ ⟨⟨w2,b2⟩,rfl⟩;clear aQ;go_wp2;go_ret;exact ⟨Bw H.out.symm,Bu B0 b2⟩
theorem Yy (r:Run) (s:Sl×Sl) (t:Nat) (w:World) (hf:Cs r.plan=0) (hT:(r.tasks.length:Int)=r.plan.tasks) (ht:t<r.tasks.length) (eB:1<=r.tasks[t].state/\r.tasks[t].state<=6) (h:Ce.rd w w r s) :
  Calls Am 230 #[Gt r s,J U (t:Int)] w fun e w'=>e = .returned (.bool (tf (Hk r t)))/\Below w w w':=by
 obtain ⟨⟨A1,n1,c1⟩,⟨A2,n2,c2⟩⟩:=s;obtain rfl:n2=r.tasks.length:=RdL.at1 (s:=⟨A2,n2,c2⟩) h.2;have h2:RdL C7 w w (Aa A2 r.tasks.length c2) r.tasks:=h.2;have h1:Rd G6 w w (Aa A1 n1 c1) r.plan.edges:=Ir h.1;have hz:=Dj.1 hf;have hl:r.tasks.length<=12:=by have:=Eh hz.1;omega
 have HQ:=Bq (show tf (Hk r t)=tf (Od r.tasks[t] (Iq r t) r.plan.most) by unfold Hk;rw [Cu ht]);have jR:(t:Int)<(r.tasks.length:Int):=Bl;have HL:=Bq (show ∀ x∈D9 (D4 r.plan) r.plan.tasks.toNat t,x<r.tasks.length from fun x hx=>by have:=U3 hx;omega);have HN:=Bq (show (D9 (D4 r.plan) r.plan.tasks.toNat t).length<=12 by have:=Iz (D4 r.plan) r.plan.tasks.toNat t;omega);have HD:=Bq (show Iq r t=Ia r (D9 (D4 r.plan) r.plan.tasks.toNat t) from rfl);have HS:=Bq eB;have HZ:=Bq hz;clear hT hf h eB hz;obtain ⟨b,o,_,hA,aK,_,d0,d1,d2,d3⟩:=h2.task ht;subst hA;obtain ⟨W,aH,X,T,B0⟩:=bx2 w 167 [J U r.id,J U r.plan.prio,J U r.plan.most,J U r.plan.wait,J U r.plan.tasks,Aa A1 n1 c1,J U r.state,Aa (Ac ⟨b,o,Ab⟩) r.tasks.length c2] 217 [J U r.tasks[t].state,J U r.tasks[t].need,J U r.tasks[t].try_,J U r.tasks[t].until_];go_enter func230,ntmps230;go_wp2_with fail
 rw [<-aH.out];clear aH;clear d0 d1 d2 d3;refine (Oa r.plan (Aa A1 n1 c1) t _ HZ.out.1 HZ.out.2.1 HZ.out.2.2.1 ((h1.below B0).more B0.size)).mono ?_;rintro e w1 ⟨v,rfl,o1,b1⟩;generalize D9 (D4 r.plan) r.plan.tasks.toNat t=L at *
 generalize Iq r t=N at *
 obtain ⟨A3,c3,rfl,-⟩:=id (Rd.of_own o1);replace B0:=Bu B0 b1;replace X:=X.below b1;replace T:=T.below b1;have bZ:=HN.out;go_wp2;go_loopw [6,8] (fun n i wr=>∃ k:Nat,k<=L.length/\i = J U k/\n = J U (Ia r (L.take k):Nat)/\Below w1 w1 wr) (fun _ i _=>L.length - (intOf i).toNat);case atStart=>exact ⟨0,Ag _,rfl,rfl,Br _ _⟩
 case round =>
  obtain ⟨k,hk,rfl,rfl,hb⟩:=hrel;have ol:=Oo r (L.take k);rw [Az] at ol;by_cases aA:k<L.length
  ·have aB:(k:Int)<(L.length:Int):=Bl;have hx:=HL.out _ (Aw aA);obtain ⟨b3,o3,rfl,cD,e0⟩:=(Rd.of_own (o1.below hb)).nat aA;obtain ⟨b2,o2,_,he,mG,_,d0,d1,d2,d3⟩:=(h2.below (Bu B0 hb)).task hx;simp only [Option.some.injEq,Addr.mk.injEq,and_true] at he;obtain ⟨rfl,rfl⟩:=he;have bS:b<wr:=Ai aK (Bu B0 hb).size;have hxI:(L[k]:Int)<(r.tasks.length:Int):=Bl;have uZ:=Bq (Cu hx);replace X:=X.below hb;have X_:=X.g8;by_cases h4:r.tasks[L[k]].state=4
   ·have S:=Bq (Xh (r:=r) aA (by rw [uZ.out];exact h4));have t4:(r.tasks[L[k]].state != 4)=false:=by simp [h4]
    clear h4;go_wp2;go_quiet (fail);go_wp2;exact ⟨⟨k+1,Bl,by go_num,by rw [S.out],Cm hb _⟩,by simp [intOf];omega⟩
   ·have S:=Bq (Uv (r:=r) aA (by rw [uZ.out];exact h4));have t4:(r.tasks[L[k]].state != 4)=true:=by simp [h4]
    clear h4;go_wp2;go_quiet (fail);go_wp2;exact ⟨⟨k+1,Bl,by go_num,by rw [S.out];go_num,Cm hb _⟩,by simp [intOf];omega⟩
  ·have aB:¬ (k:Int)<(L.length:Int):=Bl;have bF:k=L.length:=Bl;subst bF;replace X:=X.below hb;replace T:=T.below hb;have X_:=X.g8;have T_:=T.g4;have HN2:=Bq (show (N:Int)=(Ia r (L.take L.length):Nat) by rw [HD.out,List.take_length]);have HSt:=HS.out;have B1:=Bu B0 hb;clear hb o1 B0;generalize r.tasks[t]=x at *
   generalize (Ia r (L.take L.length):Nat)=M at *
   generalize hM:(M:Int)=m at *
   have eP:0<=m:=Bl;have bU:m<=12:=Bl;clear hM;by_cases a2:x.need=m;case neg =>
    have a2':(x.need != m)=true:=by simp [a2]
    have H:=Bq (show tf (Hk r t)=false by rw [HQ.out];exact Ci (fun h=>a2 (by rw [h.2.1,HN2.out])));clear a2;go_wp2;go_ret;exact ⟨Bw H.out.symm,B1⟩
   have a2':(x.need != m)=false:=by simp [a2]
   cases a3:inB x.try_ 0 r.plan.most;case false =>
    have H:=Bq (show tf (Hk r t)=false by rw [HQ.out];exact Ci (fun h=>by have:=Cw.2 h.2.2.1;rw [a3] at this;cases this));clear a2;go_wp2_with (go_at_call 63;refine (Cg _ _ _ _).mono ?_;rintro e w' ⟨rfl,rfl⟩)
    go_ret;exact ⟨Bw H.out.symm,B1⟩
   have H:=Bq (show tf (Hk r t)=Ot x r.plan.most by rw [HQ.out];exact Xo HSt (by rw [a2,HN2.out]) (Cw.1 a3));obtain ⟨st,nd,tr,un⟩:=x;simp only at *
   subst a2;have S:=(show st=1\/st=2\/st=3\/st=4\/st=5\/st=6 by omega)
   clear HSt;rcases S with rfl | rfl | rfl | rfl | rfl | rfl
   all_goals
    go_wp2_with (go_at_call 63;refine (Cg _ _ _ _).mono ?_;rintro e w' ⟨rfl,rfl⟩)
    all_goals
     go_ret;exact ⟨Bw (by
      rw [H.out];unfold Ot;try have e1:=Ag3 ‹(un != 0)=true›
      try have e1:=Ag4 ‹(un != 0)=false›
      try have e3:=Ag5 ‹(nd == 0)=true›
      try have e3:=Ag6 ‹(nd == 0)=false›
      simp [*]),B1⟩
def stI (c1 c2 c3 c4 c5 c6 n:Int):Int:=if c4=n then 2 else if c5=1/\c1+c2+c3=0 then 3 else if c5=0/\0<c6/\c1+c2+c3=0 then 4 else if c5=0/\c6=0 then 1 else 0
theorem Ad7 (l:List Task):stL l=stI (Dv l 1:Nat) (Dv l 2:Nat) (Dv l 3:Nat) (Dv l 4:Nat) (Dv l 5:Nat) (Dv l 6:Nat) (l.length:Nat):=by
 unfold stL stI K6;generalize Dv l 1=a;generalize Dv l 2=b;generalize Dv l 3=c;generalize Dv l 4=d;generalize Dv l 5=e;generalize Dv l 6=f;repeat' split
 all_goals first | rfl | (exfalso;omega)
theorem Li {l:List Task} {k:Nat} (hk:k<l.length) {s:Int} : ((Dv (l.take (k+1)) s:Nat):Int)=(Dv (l.take k) s:Nat)+(if l[k].state=s then 1 else 0):=by
 by_cases h:l[k].state=s
 ·rw [Aau hk h,if_pos h];rfl
 ·rw [Ad6 hk h,if_neg h];simp
theorem Pm (r:Run) (s:Sl×Sl) (w:World) (hl:r.tasks.length<=2000000) (eB:∀ x∈r.tasks,1<=x.state/\x.state<=6) (h:Ce.rd w w r s) :
  Calls Am 231 #[Gt r s] w fun e w'=>e = .returned (J U (stL r.tasks))/\Below w w w':=by
 obtain ⟨⟨A1,n1,c1⟩,⟨A2,n2,c2⟩⟩:=s;obtain rfl:n2=r.tasks.length:=RdL.at1 (s:=⟨A2,n2,c2⟩) h.2;have h2:RdL C7 w w (Aa A2 r.tasks.length c2) r.tasks:=h.2;have HS:=Bq (Ad7 r.tasks);have HT:=Bq eB;clear h eB;obtain ⟨W,aH,X,E,B0⟩:=bx2 w 167 [J U r.id,J U r.plan.prio,J U r.plan.most,J U r.plan.wait,J U r.plan.tasks,Aa A1 n1 c1,J U r.state,Aa A2 r.tasks.length c2] 3 [J U 0,J U 0,J U 0,J U 0,J U 0,J U 0,J U 0];go_enter func231,ntmps231;go_wp2;rw [<-aH.out];clear aH;go_loopw [4] (fun i wr=>∃ k:Nat,k<=r.tasks.length/\i = J U k/\DBox w [J U r.id,J U r.plan.prio,J U r.plan.most,J U r.plan.wait,J U r.plan.tasks,Aa A1 n1 c1,J U r.state,Aa A2 r.tasks.length c2] wr/\DBox (w+1) [J U 0,J U (Dv (r.tasks.take k) 1:Nat),J U (Dv (r.tasks.take k) 2:Nat),J U (Dv (r.tasks.take k) 3:Nat),J U (Dv (r.tasks.take k) 4:Nat),J U (Dv (r.tasks.take k) 5:Nat),J U (Dv (r.tasks.take k) 6:Nat)] wr/\Below w w wr) (fun i _=>r.tasks.length - (intOf i).toNat);case atStart=>exact ⟨0,Ag _,rfl,X,E,B0⟩
 case round =>
  clear X E B0;obtain ⟨k,hk,rfl,X,E,hb⟩:=hrel;have X_:=X.g8;have E_:=E.g7;have Ef:=E.free;have L1:=Op (r.tasks.take k) 1;have L2:=Op (r.tasks.take k) 2;have L3:=Op (r.tasks.take k) 3;have L4:=Op (r.tasks.take k) 4;have L5:=Op (r.tasks.take k) 5;have L6:=Op (r.tasks.take k) 6;rw [Az] at L1 L2 L3 L4 L5 L6;by_cases aA:k<r.tasks.length
  ·have aB:(k:Int)<(r.tasks.length:Int):=Bl;obtain ⟨b,o,_,rfl,aK,_,d0,d1,d2,d3⟩:=(h2.below hb).task aA;have hs:=hb.size;have S1:=Bq (Li (s:=1) aA);have S2:=Bq (Li (s:=2) aA);have S3:=Bq (Li (s:=3) aA);have S4:=Bq (Li (s:=4) aA);have S5:=Bq (Li (s:=5) aA);have S6:=Bq (Li (s:=6) aA);have eB:=HT.out _ (Aw aA);generalize r.tasks[k].state=st at *
   have S:=(show st=1\/st=2\/st=3\/st=4\/st=5\/st=6 by omega)
   clear eB;rcases S with rfl | rfl | rfl | rfl | rfl | rfl
   ·go_wp2;have E2:=E.set 1 Bn (J U ((Dv (r.tasks.take k) 1:Nat)+1));refine ⟨⟨k+1,Bl,by go_num,X.setOther Bn _,?_,Ad hb Bn _⟩,by simp [intOf];omega⟩;rw [S1.out,S2.out,S3.out,S4.out,S5.out,S6.out];simpa using E2
   ·go_wp2;have E2:=E.set 2 Bn (J U ((Dv (r.tasks.take k) 2:Nat)+1));refine ⟨⟨k+1,Bl,by go_num,X.setOther Bn _,?_,Ad hb Bn _⟩,by simp [intOf];omega⟩;rw [S1.out,S2.out,S3.out,S4.out,S5.out,S6.out];simpa using E2
   ·go_wp2;have E2:=E.set 3 Bn (J U ((Dv (r.tasks.take k) 3:Nat)+1));refine ⟨⟨k+1,Bl,by go_num,X.setOther Bn _,?_,Ad hb Bn _⟩,by simp [intOf];omega⟩;rw [S1.out,S2.out,S3.out,S4.out,S5.out,S6.out];simpa using E2
   ·go_wp2;have E2:=E.set 4 Bn (J U ((Dv (r.tasks.take k) 4:Nat)+1));refine ⟨⟨k+1,Bl,by go_num,X.setOther Bn _,?_,Ad hb Bn _⟩,by simp [intOf];omega⟩;rw [S1.out,S2.out,S3.out,S4.out,S5.out,S6.out];simpa using E2
   ·go_wp2;have E2:=E.set 5 Bn (J U ((Dv (r.tasks.take k) 5:Nat)+1));refine ⟨⟨k+1,Bl,by go_num,X.setOther Bn _,?_,Ad hb Bn _⟩,by simp [intOf];omega⟩;rw [S1.out,S2.out,S3.out,S4.out,S5.out,S6.out];simpa using E2
   ·go_wp2;have E2:=E.set 6 Bn (J U ((Dv (r.tasks.take k) 6:Nat)+1));refine ⟨⟨k+1,Bl,by go_num,X.setOther Bn _,?_,Ad hb Bn _⟩,by simp [intOf];omega⟩;rw [S1.out,S2.out,S3.out,S4.out,S5.out,S6.out];simpa using E2
  ·have aB:¬ (k:Int)<(r.tasks.length:Int):=Bl;have bF:k=r.tasks.length:=Bl;subst bF;rw [List.take_length] at *
   generalize sB:((Dv r.tasks 1:Nat):Int)=c1' at *
   generalize uN:((Dv r.tasks 2:Nat):Int)=c2' at *
   generalize sJ:((Dv r.tasks 3:Nat):Int)=c3' at *
   generalize hc4:((Dv r.tasks 4:Nat):Int)=c4' at *
   generalize hc5:((Dv r.tasks 5:Nat):Int)=c5' at *
   generalize hc6:((Dv r.tasks 6:Nat):Int)=c6' at *
   have m1:0<=c1'/\c1'<=2000000:=Bl;have m2:0<=c2'/\c2'<=2000000:=Bl;have m3:0<=c3'/\c3'<=2000000:=Bl;have m4:0<=c4':=Bl;have m5:0<=c5':=Bl;have m6:0<=c6':=Bl;clear sB uN sJ hc4 hc5 hc6 L1 L2 L3 L4 L5 L6;have w1':U.wrap (c1'+c2')=c1'+c2':=Aq _ Bl;have w2':U.wrap (c1'+c2'+c3')=c1'+c2'+c3':=Aq _ Bl;have aQ:=Di wr;by_cases q1:c4'=(r.tasks.length:Int)
   ·have H:=Bq (show stL r.tasks=2 by rw [HS.out];unfold stI;rw [if_pos q1]);have q1':(c4' == (r.tasks.length:Int))=true:=beq_iff_eq.2 q1;clear q1;go_wp2;go_quiet (fail);go_wp2;go_quiet (fail);go_wp2;go_ret;exact ⟨C8 H.out.symm,by first | exact Cm hb _ | exact Cm (Cm hb _) _⟩
   have q1':(c4' == (r.tasks.length:Int))=false:=beq_eq_false_iff_ne.2 q1;by_cases q2:c1'+c2'+c3'=0;all_goals
    first
     | (have q2':(c1'+c2'+c3' == 0)=true:=beq_iff_eq.2 q2)
     | (have q2':(c1'+c2'+c3' == 0)=false:=beq_eq_false_iff_ne.2 q2)
    by_cases q3:c5'=1
    ·have q3':(c5' == 1)=true:=beq_iff_eq.2 q3;have q4':(c5' == 0)=false:=beq_eq_false_iff_ne.2 Bl;have H:=Bq (show stL r.tasks=stI c1' c2' c3' c4' c5' c6' r.tasks.length from HS.out);simp only [stI,if_neg q1,q2,q3,and_self,if_true,and_true,true_and,if_false,false_and,and_false,show ¬ ((1:Int)=0) by omega] at H;clear q1 q2 q3;go_wp2;go_quiet (fail);go_wp2;go_quiet (fail);go_wp2;go_ret;exact ⟨C8 H.out.symm,by first | exact Cm hb _ | exact Cm (Cm hb _) _⟩
    have q3':(c5' == 1)=false:=beq_eq_false_iff_ne.2 q3;by_cases q4:c5'=0
    ·have q4':(c5' == 0)=true:=beq_iff_eq.2 q4;by_cases q5:c6'=0
     ·have q5':(c6' == 0)=true:=beq_iff_eq.2 q5;have q6':decide (0<c6')=false:=decide_eq_false Bl;have H:=Bq (show stL r.tasks=stI c1' c2' c3' c4' c5' c6' r.tasks.length from HS.out);simp only [stI,if_neg q1,q2,q3,q4,q5,and_self,if_true,and_true,true_and,if_false,false_and,and_false,show ¬ ((0:Int)=1) by omega,show ¬ ((0:Int)<0) by omega] at H;clear q1 q2 q3 q4 q5;go_wp2;go_quiet (fail);go_wp2;go_quiet (fail);go_wp2;go_ret;exact ⟨C8 H.out.symm,by first | exact Cm hb _ | exact Cm (Cm hb _) _⟩
     ·have q5':(c6' == 0)=false:=beq_eq_false_iff_ne.2 q5;have q6:0<c6':=Bl;have q6':decide (0<c6')=true:=decide_eq_true q6;have H:=Bq (show stL r.tasks=stI c1' c2' c3' c4' c5' c6' r.tasks.length from HS.out);simp only [stI,if_neg q1,q2,q3,q4,q5,q6,and_self,if_true,and_true,true_and,if_false,false_and,and_false,show ¬ ((0:Int)=1) by omega] at H;clear q1 q2 q3 q4 q5 q6;go_wp2;go_quiet (fail);go_wp2;go_quiet (fail);go_wp2;go_ret;exact ⟨C8 H.out.symm,by first | exact Cm hb _ | exact Cm (Cm hb _) _⟩
    ·have q4':(c5' == 0)=false:=beq_eq_false_iff_ne.2 q4;have H:=Bq (show stL r.tasks=stI c1' c2' c3' c4' c5' c6' r.tasks.length from HS.out);simp only [stI,if_neg q1,q2,q3,q4,and_self,if_true,and_true,true_and,if_false,false_and,and_false] at H;clear q1 q2 q3 q4;go_wp2;go_quiet (fail);go_wp2;go_quiet (fail);go_wp2;go_ret;exact ⟨C8 H.out.symm,by first | exact Cm hb _ | exact Cm (Cm hb _) _⟩
theorem U6 {now:Int} {r:Run} {es:List Entry} {t k:Nat} (ht:t<r.tasks.length) (h2:r.tasks[t].state=2) (hk:k<es.length) (hm:Ka r.id t es[k]=true) (hp:¬ es[k].prio=r.plan.prio):¬ Ki now r es:=by
 intro h;have h3:=(h t ht).1;rw [Cu ht] at h3;exact hp ((h3 h2).1 _ (Aw hk) hm)
theorem U7 {now:Int} {r:Run} {es:List Entry} {t:Nat} (ht:t<r.tasks.length) (h2:r.tasks[t].state=2) (hm:¬ Jh r.id t es=1):¬ Ki now r es:=by
 intro h;have h3:=(h t ht).1;rw [Cu ht] at h3;exact hm (h3 h2).2
theorem U8 {now:Int} {r:Run} {es:List Entry} {t:Nat} (ht:t<r.tasks.length) (h2:r.tasks[t].state=3) (hm:inB r.tasks[t].until_ (now+1) (now+r.plan.wait)=false):¬ Ki now r es:=by
 intro h;have h3:=(h t ht).2;rw [Cu ht] at h3
 have:=Cw.2 (h3 h2)
 rw [hm] at this;cases this
theorem Ou {now:Int} {r:Run} {es:List Entry} {t:Nat} (ht:t<r.tasks.length) (h1:r.tasks[t].state=2->(∀ j (hj:j<es.length),Ka r.id t es[j]=true->es[j].prio=r.plan.prio)/\Jh r.id t es=1)
  (h2:r.tasks[t].state=3->inB r.tasks[t].until_ (now+1) (now+r.plan.wait)=true):Pe now r es t:=by
 unfold Pe;rw [Cu ht];refine ⟨fun h=>⟨fun e he hm=>?_,(h1 h).2⟩,fun h=>Cw.1 (h2 h)⟩;obtain ⟨j,hj,rfl⟩:=List.getElem_of_mem he;exact (h1 h).1 j hj hm
def Jk (r:Run) (t:Nat) (es:List Entry) (k:Nat):Prop:=∀ j (hj:j<es.length),j<k->Ka r.id t es[j]=true->es[j].prio=r.plan.prio
theorem Kl {r:Run} {t:Nat} {es:List Entry} {k:Nat} (h:Jk r t es k) (hk:k<es.length) (hp:Ka r.id t es[k]=true->es[k].prio=r.plan.prio):Jk r t es (k+1):=by
 intro j hj fS hm;by_cases e:j=k
 ·subst e;exact hp hm
 ·exact h j hj Bl hm
theorem Wt (y:Yard) (s:Sl×Sl) (r:Run) (s2:Sl×Sl) (es:List Entry) (s3:Sl) (w:World) (fH:r.tasks.length<=2000000) (qJ:es.length<=2000000) (hn:0<=y.now/\y.now<=999999980) (hw:1<=r.plan.wait/\r.plan.wait<=20)
  (h':Ce.rd w w r s2) (h3:Rd Cy w w s3.v es) :
  Calls Am 137 #[Dm y s,Gt r s2,Aa s3.a s3.n s3.c] w fun e w'=>e = .returned (.bool (tf (Ki y.now r es)))/\Below w w w':=by
 obtain ⟨⟨A1,n1,c1⟩,⟨A2,n2,c2⟩⟩:=s;obtain ⟨⟨A4,n4,c4⟩,⟨A5,n5,c5⟩⟩:=s2;obtain ⟨A6,n6,c6⟩:=s3;obtain rfl:n5=r.tasks.length:=RdL.at1 (s:=⟨A5,n5,c5⟩) h'.2;obtain rfl:n6=es.length:=RdL.at1 (s:=⟨A6,n6,c6⟩) (Lc h3);have h2:RdL C7 w w (Aa A5 r.tasks.length c5) r.tasks:=h'.2;have h3:RdL Bx w w (Aa A6 es.length c6) es:=Lc h3;clear h';obtain ⟨W,aH,X,R,B0⟩:=bx2 w 27 [J U y.now,J U y.seq,Aa A1 n1 c1,Aa A2 n2 c2] 167 [J U r.id,J U r.plan.prio,J U r.plan.most,J U r.plan.wait,J U r.plan.tasks,Aa A4 n4 c4,J U r.state,Aa A5 r.tasks.length c5];have R_l:=R.lt;go_enter func137,ntmps137;go_wp2;rw [<-aH.out];clear aH;go_loopw [15] (fun i wr=>∃ k:Nat,k<=r.tasks.length/\i = J U k/\Hid (∀ t,t<k->Pe y.now r es t)/\Below W W wr) (fun i _=>r.tasks.length - (intOf i).toNat);case atStart=>exact ⟨0,Ag _,rfl,fun t ht=>absurd ht Bl,Br _ _⟩
 case round =>
  obtain ⟨t,hk,rfl,bL,hb⟩:=hrel;by_cases aA:t<r.tasks.length
  ·have aB:(t:Int)<(r.tasks.length:Int):=Bl;obtain ⟨b,o,_,hA5,aK,_,d0,d1,d2,d3⟩:=(h2.below (Bu B0 hb)).task aA;subst hA5;have bS:b<wr:=Ai aK (Bu B0 hb).size;have T:=DBox.new 217 [J U r.tasks[t].state,J U r.tasks[t].need,J U r.tasks[t].try_,J U r.tasks[t].until_] wr rfl;have ha:Below wr wr (wr.alloc (.cells #[J U r.tasks[t].state,J U r.tasks[t].need,J U r.tasks[t].try_,J U r.tasks[t].until_] 217)):=Bt;go_wp2;generalize wr.alloc (.cells #[J U r.tasks[t].state,J U r.tasks[t].need,J U r.tasks[t].try_,J U r.tasks[t].until_] 217)=W2 at *
   have Hb2:=Bu hb ha;clear d0 d1 d2 d3 bS;go_loopw [9,22] (fun n i wq=>∃ j:Nat,j<=es.length/\i = J U j/\n = J U (Jh r.id t (es.take j):Nat)/\Hid (r.tasks[t].state=2->Jk r t es j)/\Below W2 W2 wq) (fun _ i _=>es.length - (intOf i).toNat);case atStart=>exact ⟨0,Ag _,rfl,rfl,fun _ j hj h0=>absurd h0 Bl,Br _ _⟩
   case round =>
    obtain ⟨j,hj,rfl,rfl,qN,aG⟩:=hrel;have hmn:=Aaw r.id t (es.take j);rw [Az] at hmn;have X:=(X.below Hb2).below aG;have R:=(R.below Hb2).below aG;replace T:=T.below aG;have X_:=X.g4;obtain ⟨R_0,R_1,R_2,R_3,R_4,R_5,R_6,R_7,R_l⟩:=R.g8;have T_:=T.g4;have B1:=Bu (Bu B0 Hb2) aG;by_cases dM:j<es.length
    ·have gS:(j:Int)<(es.length:Int):=Bl;obtain ⟨b6,o6,_,hA6,hbb6,_,f0,f1,f2,f3⟩:=(h3.below B1).entry dM;subst hA6;have pP:b6<wr:=Ai hbb6 B1.size;have hE:Below wr wr (wr.alloc (.cells #[J U es[j].prio,J U es[j].seq,J U es[j].run,J U es[j].task] 163)):=Bt;have HM:Hid (Ka r.id t es[j]=((es[j].run == r.id) && (es[j].task == (t:Int)))):=rfl;have HY:=Bq (Xk (id:=r.id) (t:=t) dM);have HN:=Bq (Aav (id:=r.id) (t:=t) dM);cases q1:(es[j].run == r.id)
     ·have hm:Ka r.id t es[j]=false:=by rw [HM.out,q1];rfl
      have S:=Bq (HN.out hm);have S2:Hid (r.tasks[t].state=2->Jk r t es (j+1)):=fun h2=>Kl (qN.out h2) dM (fun hh=>by rw [hm] at hh;cases hh);clear hm;go_wp2;first
       | exact ⟨⟨j+1,Bl,by go_num,by rw [S.out],S2,Bu aG hE⟩,by simp [intOf];omega⟩
       | (refine ⟨?_,by simp [intOf];omega⟩;(repeat apply Exists.intro);first | exact ⟨⟨j+1,Bl,by go_num,by rw [S.out],S2,Bu aG hE⟩,rfl⟩ | exact ⟨⟨j+1,Bl,by go_num,by rw [S.out],S2,Bu aG hE⟩,rfl,rfl⟩ | exact ⟨⟨j+1,Bl,by go_num,by rw [S.out],S2,Bu aG hE⟩,rfl,rfl,rfl⟩ | exact ⟨⟨j+1,Bl,by go_num,by rw [S.out],S2,Bu aG hE⟩,rfl,rfl,rfl,rfl⟩ | exact ⟨⟨j+1,Bl,by go_num,by rw [S.out],S2,Bu aG hE⟩,rfl,rfl,rfl,rfl,rfl⟩ | exact ⟨⟨j+1,Bl,by go_num,by rw [S.out],S2,Bu aG hE⟩,rfl,rfl,rfl,rfl,rfl,rfl⟩ | exact ⟨⟨j+1,Bl,by go_num,by rw [S.out],S2,Bu aG hE⟩,rfl,rfl,rfl,rfl,rfl,rfl,rfl⟩)
     cases q2:(es[j].task == (t:Int))
     ·have hm:Ka r.id t es[j]=false:=by rw [HM.out,q1,q2];rfl
      have S:=Bq (HN.out hm);have S2:Hid (r.tasks[t].state=2->Jk r t es (j+1)):=fun h2=>Kl (qN.out h2) dM (fun hh=>by rw [hm] at hh;cases hh);clear hm;go_wp2;first
       | exact ⟨⟨j+1,Bl,by go_num,by rw [S.out],S2,Bu aG hE⟩,by simp [intOf];omega⟩
       | (refine ⟨?_,by simp [intOf];omega⟩;(repeat apply Exists.intro);first | exact ⟨⟨j+1,Bl,by go_num,by rw [S.out],S2,Bu aG hE⟩,rfl⟩ | exact ⟨⟨j+1,Bl,by go_num,by rw [S.out],S2,Bu aG hE⟩,rfl,rfl⟩ | exact ⟨⟨j+1,Bl,by go_num,by rw [S.out],S2,Bu aG hE⟩,rfl,rfl,rfl⟩ | exact ⟨⟨j+1,Bl,by go_num,by rw [S.out],S2,Bu aG hE⟩,rfl,rfl,rfl,rfl⟩ | exact ⟨⟨j+1,Bl,by go_num,by rw [S.out],S2,Bu aG hE⟩,rfl,rfl,rfl,rfl,rfl⟩ | exact ⟨⟨j+1,Bl,by go_num,by rw [S.out],S2,Bu aG hE⟩,rfl,rfl,rfl,rfl,rfl,rfl⟩ | exact ⟨⟨j+1,Bl,by go_num,by rw [S.out],S2,Bu aG hE⟩,rfl,rfl,rfl,rfl,rfl,rfl,rfl⟩)
     have hm:Ka r.id t es[j]=true:=by rw [HM.out,q1,q2];rfl
     have S:=Bq (HY.out hm);have HM2:=Bq hm;clear hm;by_cases q3:r.tasks[t].state=2
     ·have q3':(r.tasks[t].state == 2)=true:=beq_iff_eq.2 q3;by_cases q4:es[j].prio=r.plan.prio
      ·have q4':(es[j].prio != r.plan.prio)=false:=by simp [q4]
       have S2:Hid (r.tasks[t].state=2->Jk r t es (j+1)):=fun h2=>Kl (qN.out h2) dM (fun _=>q4);clear q3 q4;go_wp2;first
        | exact ⟨⟨j+1,Bl,by go_num,by rw [S.out];go_num,S2,Bu aG hE⟩,by simp [intOf];omega⟩
        | (refine ⟨?_,by simp [intOf];omega⟩;(repeat apply Exists.intro);first | exact ⟨⟨j+1,Bl,by go_num,by rw [S.out];go_num,S2,Bu aG hE⟩,rfl⟩ | exact ⟨⟨j+1,Bl,by go_num,by rw [S.out];go_num,S2,Bu aG hE⟩,rfl,rfl⟩ | exact ⟨⟨j+1,Bl,by go_num,by rw [S.out];go_num,S2,Bu aG hE⟩,rfl,rfl,rfl⟩ | exact ⟨⟨j+1,Bl,by go_num,by rw [S.out];go_num,S2,Bu aG hE⟩,rfl,rfl,rfl,rfl⟩ | exact ⟨⟨j+1,Bl,by go_num,by rw [S.out];go_num,S2,Bu aG hE⟩,rfl,rfl,rfl,rfl,rfl⟩ | exact ⟨⟨j+1,Bl,by go_num,by rw [S.out];go_num,S2,Bu aG hE⟩,rfl,rfl,rfl,rfl,rfl,rfl⟩ | exact ⟨⟨j+1,Bl,by go_num,by rw [S.out];go_num,S2,Bu aG hE⟩,rfl,rfl,rfl,rfl,rfl,rfl,rfl⟩)
      ·have q4':(es[j].prio != r.plan.prio)=true:=by simp [q4]
       have H:=Bq (Ci (U6 (now:=y.now) aA q3 dM HM2.out q4));clear q3 q4;go_wp2;go_ret;exact ⟨Bw H.out.symm,Bu B1 hE⟩
     ·have q3':(r.tasks[t].state == 2)=false:=beq_eq_false_iff_ne.2 q3;have S2:Hid (r.tasks[t].state=2->Jk r t es (j+1)):=fun h2=>absurd h2 q3;clear q3;go_wp2;first
       | exact ⟨⟨j+1,Bl,by go_num,by rw [S.out];go_num,S2,Bu aG hE⟩,by simp [intOf];omega⟩
       | (refine ⟨?_,by simp [intOf];omega⟩;(repeat apply Exists.intro);first | exact ⟨⟨j+1,Bl,by go_num,by rw [S.out];go_num,S2,Bu aG hE⟩,rfl⟩ | exact ⟨⟨j+1,Bl,by go_num,by rw [S.out];go_num,S2,Bu aG hE⟩,rfl,rfl⟩ | exact ⟨⟨j+1,Bl,by go_num,by rw [S.out];go_num,S2,Bu aG hE⟩,rfl,rfl,rfl⟩ | exact ⟨⟨j+1,Bl,by go_num,by rw [S.out];go_num,S2,Bu aG hE⟩,rfl,rfl,rfl,rfl⟩ | exact ⟨⟨j+1,Bl,by go_num,by rw [S.out];go_num,S2,Bu aG hE⟩,rfl,rfl,rfl,rfl,rfl⟩ | exact ⟨⟨j+1,Bl,by go_num,by rw [S.out];go_num,S2,Bu aG hE⟩,rfl,rfl,rfl,rfl,rfl,rfl⟩ | exact ⟨⟨j+1,Bl,by go_num,by rw [S.out];go_num,S2,Bu aG hE⟩,rfl,rfl,rfl,rfl,rfl,rfl,rfl⟩)
    ·have gS:¬ (j:Int)<(es.length:Int):=Bl;have hj':j=es.length:=Bl;subst hj';have HP:Hid (r.tasks[t].state=2 -> ∀ j (hj:j<es.length),Ka r.id t es[j]=true->es[j].prio=r.plan.prio):=fun h2 j hj hm=>qN.out h2 j hj hj hm;have HMt:=Bq (show Jh r.id t (es.take es.length)=Jh r.id t es by rw [List.take_length]);have HMb:=Bq (show ∀ M:Int,M=(Jh r.id t es:Nat)->(M=1 ↔ Jh r.id t es=1) from fun M hM=>Bl);have step:Pe y.now r es t->Hid (∀ t',t'<t+1->Pe y.now r es t'):=fun hx t' kM=>by
      by_cases e:t'=t
      ·subst e;exact hx
      ·exact bL.out t' Bl
     have w1':U.wrap (y.now+1)=y.now+1:=Aq _ Bl;have w2':U.wrap (y.now+r.plan.wait)=y.now+r.plan.wait:=Aq _ Bl;by_cases q3:r.tasks[t].state=2
     ·have q3':(r.tasks[t].state == 2)=true:=beq_iff_eq.2 q3;have q5':(r.tasks[t].state == 3)=false:=beq_eq_false_iff_ne.2 Bl;by_cases q4:Jh r.id t es=1
      ·have S:=step (Ou aA (fun h=>⟨HP.out h,q4⟩) (fun h=>Bl));have q4':((Jh r.id t es:Int) != 1)=false:=by simp [q4]
       clear q3 q4 step;go_wp2;first
        | exact ⟨⟨t+1,Bl,by go_num,S,Bu Hb2 aG⟩,by simp [intOf];omega⟩
        | (refine ⟨?_,by simp [intOf];omega⟩;(repeat apply Exists.intro);first | exact ⟨⟨t+1,Bl,by go_num,S,Bu Hb2 aG⟩,rfl⟩ | exact ⟨⟨t+1,Bl,by go_num,S,Bu Hb2 aG⟩,rfl,rfl⟩ | exact ⟨⟨t+1,Bl,by go_num,S,Bu Hb2 aG⟩,rfl,rfl,rfl⟩ | exact ⟨⟨t+1,Bl,by go_num,S,Bu Hb2 aG⟩,rfl,rfl,rfl,rfl⟩ | exact ⟨⟨t+1,Bl,by go_num,S,Bu Hb2 aG⟩,rfl,rfl,rfl,rfl,rfl⟩ | exact ⟨⟨t+1,Bl,by go_num,S,Bu Hb2 aG⟩,rfl,rfl,rfl,rfl,rfl,rfl⟩ | exact ⟨⟨t+1,Bl,by go_num,S,Bu Hb2 aG⟩,rfl,rfl,rfl,rfl,rfl,rfl,rfl⟩)
      ·have H:=Bq (Ci (U7 (now:=y.now) aA q3 q4));have q4':((Jh r.id t es:Int) != 1)=true:=by simp;omega
       clear q3 q4 step;go_wp2;go_ret;exact ⟨Bw H.out.symm,B1⟩
     ·have q3':(r.tasks[t].state == 2)=false:=beq_eq_false_iff_ne.2 q3;by_cases q5:r.tasks[t].state=3
      ·have q5':(r.tasks[t].state == 3)=true:=beq_iff_eq.2 q5;cases q6:inB r.tasks[t].until_ (y.now+1) (y.now+r.plan.wait)
       ·have H:=Bq (Ci (U8 (es:=es) aA q5 q6));clear q3 q5 step;go_wp2_with (go_at_call 56;refine (Co _ _ _ _).mono ?_;rintro e w' ⟨rfl,rfl⟩)
        go_ret;exact ⟨Bw H.out.symm,B1⟩
       ·have S:=step (Ou aA (fun h=>absurd h q3) (fun _=>q6));clear q3 q5 step;go_wp2_with (go_at_call 56;refine (Co _ _ _ _).mono ?_;rintro e w' ⟨rfl,rfl⟩)
        first
         | exact ⟨⟨t+1,Bl,by go_num,S,Bu Hb2 aG⟩,by simp [intOf];omega⟩
         | (refine ⟨?_,by simp [intOf];omega⟩;(repeat apply Exists.intro);first | exact ⟨⟨t+1,Bl,by go_num,S,Bu Hb2 aG⟩,rfl⟩ | exact ⟨⟨t+1,Bl,by go_num,S,Bu Hb2 aG⟩,rfl,rfl⟩ | exact ⟨⟨t+1,Bl,by go_num,S,Bu Hb2 aG⟩,rfl,rfl,rfl⟩ | exact ⟨⟨t+1,Bl,by go_num,S,Bu Hb2 aG⟩,rfl,rfl,rfl,rfl⟩ | exact ⟨⟨t+1,Bl,by go_num,S,Bu Hb2 aG⟩,rfl,rfl,rfl,rfl,rfl⟩ | exact ⟨⟨t+1,Bl,by go_num,S,Bu Hb2 aG⟩,rfl,rfl,rfl,rfl,rfl,rfl⟩ | exact ⟨⟨t+1,Bl,by go_num,S,Bu Hb2 aG⟩,rfl,rfl,rfl,rfl,rfl,rfl,rfl⟩)
      ·have q5':(r.tasks[t].state == 3)=false:=beq_eq_false_iff_ne.2 q5;have S:=step (Ou aA (fun h=>absurd h q3) (fun h=>absurd h q5));clear q3 q5 step;go_wp2;first
        | exact ⟨⟨t+1,Bl,by go_num,S,Bu Hb2 aG⟩,by simp [intOf];omega⟩
        | (refine ⟨?_,by simp [intOf];omega⟩;(repeat apply Exists.intro);first | exact ⟨⟨t+1,Bl,by go_num,S,Bu Hb2 aG⟩,rfl⟩ | exact ⟨⟨t+1,Bl,by go_num,S,Bu Hb2 aG⟩,rfl,rfl⟩ | exact ⟨⟨t+1,Bl,by go_num,S,Bu Hb2 aG⟩,rfl,rfl,rfl⟩ | exact ⟨⟨t+1,Bl,by go_num,S,Bu Hb2 aG⟩,rfl,rfl,rfl,rfl⟩ | exact ⟨⟨t+1,Bl,by go_num,S,Bu Hb2 aG⟩,rfl,rfl,rfl,rfl,rfl⟩ | exact ⟨⟨t+1,Bl,by go_num,S,Bu Hb2 aG⟩,rfl,rfl,rfl,rfl,rfl,rfl⟩ | exact ⟨⟨t+1,Bl,by go_num,S,Bu Hb2 aG⟩,rfl,rfl,rfl,rfl,rfl,rfl,rfl⟩)
  ·have aB:¬ (t:Int)<(r.tasks.length:Int):=Bl;have H:=Bq (Dp (show Ki y.now r es from fun t' kM=>bL.out t' Bl));go_wp2;go_ret;exact ⟨Bw H.out.symm,Bu B0 hb⟩
theorem Wu (y:Yard) (s:Sl×Sl) (r:Run) (s2:Sl×Sl) (es:List Entry) (s3:Sl) (w:World) (fH:r.tasks.length<=2000000) (qJ:es.length<=2000000) (hn:0<=y.now/\y.now<=999999980) (hw:1<=r.plan.wait/\r.plan.wait<=20)
  (h':Ce.rd w w r s2) (h3:Rd Cy w w s3.v es) :
  Calls Am 155 #[Dm y s,Gt r s2,Aa s3.a s3.n s3.c] w fun e w'=>e = .returned (.bool (tf (Ki y.now r es)))/\Below w w w':=by
 obtain ⟨⟨A1,n1,c1⟩,⟨A2,n2,c2⟩⟩:=s;obtain ⟨⟨A4,n4,c4⟩,⟨A5,n5,c5⟩⟩:=s2;obtain ⟨A6,n6,c6⟩:=s3;obtain rfl:n5=r.tasks.length:=RdL.at1 (s:=⟨A5,n5,c5⟩) h'.2;obtain rfl:n6=es.length:=RdL.at1 (s:=⟨A6,n6,c6⟩) (Lc h3);have h2:RdL C7 w w (Aa A5 r.tasks.length c5) r.tasks:=h'.2;have h3:RdL Bx w w (Aa A6 es.length c6) es:=Lc h3;clear h';obtain ⟨W,aH,X,R,B0⟩:=bx2 w 27 [J U y.now,J U y.seq,Aa A1 n1 c1,Aa A2 n2 c2] 167 [J U r.id,J U r.plan.prio,J U r.plan.most,J U r.plan.wait,J U r.plan.tasks,Aa A4 n4 c4,J U r.state,Aa A5 r.tasks.length c5];go_enter func155,ntmps155;go_wp2;rw [<-aH.out];clear aH;go_loopw [7] (fun i wr=>∃ k:Nat,k<=r.tasks.length/\i = J U k/\Hid (∀ t,t<k->Pe y.now r es t)/\Below W W wr) (fun i _=>r.tasks.length - (intOf i).toNat);case atStart=>exact ⟨0,Ag _,rfl,fun t ht=>absurd ht Bl,Br _ _⟩
 case round =>
  obtain ⟨t,hk,rfl,bL,hb⟩:=hrel;by_cases aA:t<r.tasks.length
  ·have aB:(t:Int)<(r.tasks.length:Int):=Bl;have R1:=R.below hb;have rW:wr.cell? ⟨w+1,7,Ab⟩=Ac (Aa A5 r.tasks.length c5):=R1.cell 7 _ rfl;have uP:=R1.lt;go_wp2;clear rW uP R1;go_loopw [8,9] (fun n i wq=>∃ j:Nat,j<=es.length/\i = J U j/\n = J U (Jh r.id t (es.take j):Nat)/\Hid (r.tasks[t].state=2->Jk r t es j)/\Below W W wq) (fun _ i _=>es.length - (intOf i).toNat);case atStart=>exact ⟨0,Ag _,rfl,rfl,fun _ j hj h0=>absurd h0 Bl,hb⟩
   case round =>
    clear hb;obtain ⟨j,hj,rfl,rfl,qN,hb⟩:=hrel;have hmn:=Aaw r.id t (es.take j);rw [Az] at hmn;have X:=X.below hb;have R:=R.below hb;have X_:=X.g4;have R_:=R.g8;have B1:=Bu B0 hb;obtain ⟨b,o,_,hA5,aK,_,d0,d1,d2,d3⟩:=(h2.below B1).task aA;subst hA5;have bS:b<wr:=Ai aK B1.size;have aQ:=Di wr;by_cases dM:j<es.length
    ·have gS:(j:Int)<(es.length:Int):=Bl;obtain ⟨b6,o6,_,hA6,hbb6,_,f0,f1,f2,f3⟩:=(h3.below B1).entry dM;subst hA6;have pP:b6<wr:=Ai hbb6 B1.size;have HM:Hid (Ka r.id t es[j]=((es[j].run == r.id) && (es[j].task == (t:Int)))):=rfl;have HY:=Bq (Xk (id:=r.id) (t:=t) dM);have HN:=Bq (Aav (id:=r.id) (t:=t) dM);cases q1:(es[j].run == r.id)
     ·have hm:Ka r.id t es[j]=false:=by rw [HM.out,q1];rfl
      have S:=Bq (HN.out hm);have S2:Hid (r.tasks[t].state=2->Jk r t es (j+1)):=fun h2=>Kl (qN.out h2) dM (fun hh=>by rw [hm] at hh;cases hh);clear hm;go_wp2;go_quiet (fail);go_wp2;first
       | exact ⟨⟨j+1,Bl,by go_num,by rw [S.out],S2,Cm hb _⟩,by simp [intOf];omega⟩
       | (refine ⟨?_,by simp [intOf];omega⟩;(repeat apply Exists.intro);first | exact ⟨⟨j+1,Bl,by go_num,by rw [S.out],S2,Cm hb _⟩,rfl⟩ | exact ⟨⟨j+1,Bl,by go_num,by rw [S.out],S2,Cm hb _⟩,rfl,rfl⟩ | exact ⟨⟨j+1,Bl,by go_num,by rw [S.out],S2,Cm hb _⟩,rfl,rfl,rfl⟩ | exact ⟨⟨j+1,Bl,by go_num,by rw [S.out],S2,Cm hb _⟩,rfl,rfl,rfl,rfl⟩ | exact ⟨⟨j+1,Bl,by go_num,by rw [S.out],S2,Cm hb _⟩,rfl,rfl,rfl,rfl,rfl⟩ | exact ⟨⟨j+1,Bl,by go_num,by rw [S.out],S2,Cm hb _⟩,rfl,rfl,rfl,rfl,rfl,rfl⟩ | exact ⟨⟨j+1,Bl,by go_num,by rw [S.out],S2,Cm hb _⟩,rfl,rfl,rfl,rfl,rfl,rfl,rfl⟩)
     cases q2:(es[j].task == (t:Int))
     ·have hm:Ka r.id t es[j]=false:=by rw [HM.out,q1,q2];rfl
      have S:=Bq (HN.out hm);have S2:Hid (r.tasks[t].state=2->Jk r t es (j+1)):=fun h2=>Kl (qN.out h2) dM (fun hh=>by rw [hm] at hh;cases hh);clear hm;go_wp2;go_quiet (fail);go_wp2;first
       | exact ⟨⟨j+1,Bl,by go_num,by rw [S.out],S2,Cm hb _⟩,by simp [intOf];omega⟩
       | (refine ⟨?_,by simp [intOf];omega⟩;(repeat apply Exists.intro);first | exact ⟨⟨j+1,Bl,by go_num,by rw [S.out],S2,Cm hb _⟩,rfl⟩ | exact ⟨⟨j+1,Bl,by go_num,by rw [S.out],S2,Cm hb _⟩,rfl,rfl⟩ | exact ⟨⟨j+1,Bl,by go_num,by rw [S.out],S2,Cm hb _⟩,rfl,rfl,rfl⟩ | exact ⟨⟨j+1,Bl,by go_num,by rw [S.out],S2,Cm hb _⟩,rfl,rfl,rfl,rfl⟩ | exact ⟨⟨j+1,Bl,by go_num,by rw [S.out],S2,Cm hb _⟩,rfl,rfl,rfl,rfl,rfl⟩ | exact ⟨⟨j+1,Bl,by go_num,by rw [S.out],S2,Cm hb _⟩,rfl,rfl,rfl,rfl,rfl,rfl⟩ | exact ⟨⟨j+1,Bl,by go_num,by rw [S.out],S2,Cm hb _⟩,rfl,rfl,rfl,rfl,rfl,rfl,rfl⟩)
     have hm:Ka r.id t es[j]=true:=by rw [HM.out,q1,q2];rfl
     have S:=Bq (HY.out hm);have HM2:=Bq hm;clear hm;by_cases q3:r.tasks[t].state=2
     ·have q3':(r.tasks[t].state == 2)=true:=beq_iff_eq.2 q3;by_cases q4:es[j].prio=r.plan.prio
      ·have q4':(es[j].prio != r.plan.prio)=false:=by simp [q4]
       have S2:Hid (r.tasks[t].state=2->Jk r t es (j+1)):=fun h2=>Kl (qN.out h2) dM (fun _=>q4);clear q3 q4;go_wp2;go_quiet (fail);go_wp2;go_quiet (fail);go_wp2;first
        | exact ⟨⟨j+1,Bl,by go_num,by rw [S.out];go_num,S2,by first | exact Cm hb _ | exact Cm (Cm hb _) _⟩,by simp [intOf];omega⟩
        | (refine ⟨?_,by simp [intOf];omega⟩;(repeat apply Exists.intro);first | exact ⟨⟨j+1,Bl,by go_num,by rw [S.out];go_num,S2,by first | exact Cm hb _ | exact Cm (Cm hb _) _⟩,rfl⟩ | exact ⟨⟨j+1,Bl,by go_num,by rw [S.out];go_num,S2,by first | exact Cm hb _ | exact Cm (Cm hb _) _⟩,rfl,rfl⟩ | exact ⟨⟨j+1,Bl,by go_num,by rw [S.out];go_num,S2,by first | exact Cm hb _ | exact Cm (Cm hb _) _⟩,rfl,rfl,rfl⟩ | exact ⟨⟨j+1,Bl,by go_num,by rw [S.out];go_num,S2,by first | exact Cm hb _ | exact Cm (Cm hb _) _⟩,rfl,rfl,rfl,rfl⟩ | exact ⟨⟨j+1,Bl,by go_num,by rw [S.out];go_num,S2,by first | exact Cm hb _ | exact Cm (Cm hb _) _⟩,rfl,rfl,rfl,rfl,rfl⟩ | exact ⟨⟨j+1,Bl,by go_num,by rw [S.out];go_num,S2,by first | exact Cm hb _ | exact Cm (Cm hb _) _⟩,rfl,rfl,rfl,rfl,rfl,rfl⟩ | exact ⟨⟨j+1,Bl,by go_num,by rw [S.out];go_num,S2,by first | exact Cm hb _ | exact Cm (Cm hb _) _⟩,rfl,rfl,rfl,rfl,rfl,rfl,rfl⟩)
      ·have q4':(es[j].prio != r.plan.prio)=true:=by simp [q4]
       have H:=Bq (Ci (U6 (now:=y.now) aA q3 dM HM2.out q4));clear q3 q4;go_wp2;go_quiet (fail);go_wp2;go_quiet (fail);go_wp2;go_ret;exact ⟨Bw H.out.symm,by first | exact Cm B1 _ | exact Cm (Cm B1 _) _⟩
     ·have q3':(r.tasks[t].state == 2)=false:=beq_eq_false_iff_ne.2 q3;have S2:Hid (r.tasks[t].state=2->Jk r t es (j+1)):=fun h2=>absurd h2 q3;clear q3;go_wp2;go_quiet (fail);go_wp2;go_quiet (fail);go_wp2;first
       | exact ⟨⟨j+1,Bl,by go_num,by rw [S.out];go_num,S2,by first | exact Cm hb _ | exact Cm (Cm hb _) _⟩,by simp [intOf];omega⟩
       | (refine ⟨?_,by simp [intOf];omega⟩;(repeat apply Exists.intro);first | exact ⟨⟨j+1,Bl,by go_num,by rw [S.out];go_num,S2,by first | exact Cm hb _ | exact Cm (Cm hb _) _⟩,rfl⟩ | exact ⟨⟨j+1,Bl,by go_num,by rw [S.out];go_num,S2,by first | exact Cm hb _ | exact Cm (Cm hb _) _⟩,rfl,rfl⟩ | exact ⟨⟨j+1,Bl,by go_num,by rw [S.out];go_num,S2,by first | exact Cm hb _ | exact Cm (Cm hb _) _⟩,rfl,rfl,rfl⟩ | exact ⟨⟨j+1,Bl,by go_num,by rw [S.out];go_num,S2,by first | exact Cm hb _ | exact Cm (Cm hb _) _⟩,rfl,rfl,rfl,rfl⟩ | exact ⟨⟨j+1,Bl,by go_num,by rw [S.out];go_num,S2,by first | exact Cm hb _ | exact Cm (Cm hb _) _⟩,rfl,rfl,rfl,rfl,rfl⟩ | exact ⟨⟨j+1,Bl,by go_num,by rw [S.out];go_num,S2,by first | exact Cm hb _ | exact Cm (Cm hb _) _⟩,rfl,rfl,rfl,rfl,rfl,rfl⟩ | exact ⟨⟨j+1,Bl,by go_num,by rw [S.out];go_num,S2,by first | exact Cm hb _ | exact Cm (Cm hb _) _⟩,rfl,rfl,rfl,rfl,rfl,rfl,rfl⟩)
    ·have gS:¬ (j:Int)<(es.length:Int):=Bl;have hj':j=es.length:=Bl;subst hj';rw [List.take_length] at *
     have HP:Hid (r.tasks[t].state=2 -> ∀ j (hj:j<es.length),Ka r.id t es[j]=true->es[j].prio=r.plan.prio):=fun h2 j hj hm=>qN.out h2 j hj hj hm;have step:Pe y.now r es t->Hid (∀ t',t'<t+1->Pe y.now r es t'):=fun hx t' kM=>by
      by_cases e:t'=t
      ·subst e;exact hx
      ·exact bL.out t' Bl
     have w1':U.wrap (y.now+1)=y.now+1:=Aq _ Bl;have w2':U.wrap (y.now+r.plan.wait)=y.now+r.plan.wait:=Aq _ Bl;generalize hM:(Jh r.id t es:Int)=M at *
     by_cases q3:r.tasks[t].state=2
     ·have q3':(r.tasks[t].state == 2)=true:=beq_iff_eq.2 q3;have q5':(r.tasks[t].state == 3)=false:=beq_eq_false_iff_ne.2 Bl;by_cases q4:M=1
      ·have S:=step (Ou aA (fun h=>⟨HP.out h,Bl⟩) (fun h=>Bl));have q4':(M != 1)=false:=by simp [q4]
       clear q3 q4 step hM;go_wp2;refine Bz Bm Bm ?_;repeat (go_big_quiet_step ((go_at_call 63;exact Ds (fun u=>Cg _ _ _ u.1))))
       refine Ak ?_;rintro _ ⟨⟨w2,b2⟩,rfl⟩;clear aQ;go_wp2;first
        | exact ⟨⟨t+1,Bl,by go_num,S,Bu hb b2⟩,by simp [intOf];omega⟩
        | (refine ⟨?_,by simp [intOf];omega⟩;(repeat apply Exists.intro);first | exact ⟨⟨t+1,Bl,by go_num,S,Bu hb b2⟩,rfl⟩ | exact ⟨⟨t+1,Bl,by go_num,S,Bu hb b2⟩,rfl,rfl⟩ | exact ⟨⟨t+1,Bl,by go_num,S,Bu hb b2⟩,rfl,rfl,rfl⟩ | exact ⟨⟨t+1,Bl,by go_num,S,Bu hb b2⟩,rfl,rfl,rfl,rfl⟩ | exact ⟨⟨t+1,Bl,by go_num,S,Bu hb b2⟩,rfl,rfl,rfl,rfl,rfl⟩ | exact ⟨⟨t+1,Bl,by go_num,S,Bu hb b2⟩,rfl,rfl,rfl,rfl,rfl,rfl⟩ | exact ⟨⟨t+1,Bl,by go_num,S,Bu hb b2⟩,rfl,rfl,rfl,rfl,rfl,rfl,rfl⟩)
      ·have H:=Bq (Ci (U7 (now:=y.now) aA q3 (show ¬ Jh r.id t es=1 by omega)));have q4':(M != 1)=true:=by simp [q4]
       clear q3 q4 step hM;go_wp2;refine Bz Bm Bm ?_;repeat (go_big_quiet_step ((go_at_call 63;exact Ds (fun u=>Cg _ _ _ u.1))))
       refine Ak ?_;rintro _ ⟨⟨w2,b2⟩,rfl⟩;clear aQ;go_wp2;go_ret;exact ⟨Bw H.out.symm,Bu B1 b2⟩
     ·have q3':(r.tasks[t].state == 2)=false:=beq_eq_false_iff_ne.2 q3;clear hM;by_cases q5:r.tasks[t].state=3
      ·have q5':(r.tasks[t].state == 3)=true:=beq_iff_eq.2 q5;cases q6:inB r.tasks[t].until_ (y.now+1) (y.now+r.plan.wait)
       ·have H:=Bq (Ci (U8 (es:=es) aA q5 q6));clear q3 q5 step;go_wp2;refine Bz Bm Bm ?_;repeat (go_big_quiet_step ((go_at_call 63;exact Ds (fun u=>Cg _ _ _ u.1))))
        refine Ak ?_;rintro _ ⟨⟨w2,b2⟩,rfl⟩;clear aQ;go_wp2;go_ret;exact ⟨Bw H.out.symm,Bu B1 b2⟩
       ·have S:=step (Ou aA (fun h=>absurd h q3) (fun _=>q6));clear q3 q5 step;go_wp2;refine Bz Bm Bm ?_;repeat (go_big_quiet_step ((go_at_call 63;exact Ds (fun u=>Cg _ _ _ u.1))))
        refine Ak ?_;rintro _ ⟨⟨w2,b2⟩,rfl⟩;clear aQ;go_wp2;first
         | exact ⟨⟨t+1,Bl,by go_num,S,Bu hb b2⟩,by simp [intOf];omega⟩
         | (refine ⟨?_,by simp [intOf];omega⟩;(repeat apply Exists.intro);first | exact ⟨⟨t+1,Bl,by go_num,S,Bu hb b2⟩,rfl⟩ | exact ⟨⟨t+1,Bl,by go_num,S,Bu hb b2⟩,rfl,rfl⟩ | exact ⟨⟨t+1,Bl,by go_num,S,Bu hb b2⟩,rfl,rfl,rfl⟩ | exact ⟨⟨t+1,Bl,by go_num,S,Bu hb b2⟩,rfl,rfl,rfl,rfl⟩ | exact ⟨⟨t+1,Bl,by go_num,S,Bu hb b2⟩,rfl,rfl,rfl,rfl,rfl⟩ | exact ⟨⟨t+1,Bl,by go_num,S,Bu hb b2⟩,rfl,rfl,rfl,rfl,rfl,rfl⟩ | exact ⟨⟨t+1,Bl,by go_num,S,Bu hb b2⟩,rfl,rfl,rfl,rfl,rfl,rfl,rfl⟩)
      ·have q5':(r.tasks[t].state == 3)=false:=beq_eq_false_iff_ne.2 q5;have S:=step (Ou aA (fun h=>absurd h q3) (fun h=>absurd h q5));clear q3 q5 step;go_wp2;refine Bz Bm Bm ?_;repeat (go_big_quiet_step ((go_at_call 63;exact Ds (fun u=>Cg _ _ _ u.1))))
       refine Ak ?_;rintro _ ⟨⟨w2,b2⟩,rfl⟩;clear aQ;go_wp2;first
        | exact ⟨⟨t+1,Bl,by go_num,S,Bu hb b2⟩,by simp [intOf];omega⟩
        | (refine ⟨?_,by simp [intOf];omega⟩;(repeat apply Exists.intro);first | exact ⟨⟨t+1,Bl,by go_num,S,Bu hb b2⟩,rfl⟩ | exact ⟨⟨t+1,Bl,by go_num,S,Bu hb b2⟩,rfl,rfl⟩ | exact ⟨⟨t+1,Bl,by go_num,S,Bu hb b2⟩,rfl,rfl,rfl⟩ | exact ⟨⟨t+1,Bl,by go_num,S,Bu hb b2⟩,rfl,rfl,rfl,rfl⟩ | exact ⟨⟨t+1,Bl,by go_num,S,Bu hb b2⟩,rfl,rfl,rfl,rfl,rfl⟩ | exact ⟨⟨t+1,Bl,by go_num,S,Bu hb b2⟩,rfl,rfl,rfl,rfl,rfl,rfl⟩ | exact ⟨⟨t+1,Bl,by go_num,S,Bu hb b2⟩,rfl,rfl,rfl,rfl,rfl,rfl,rfl⟩)
  ·have aB:¬ (t:Int)<(r.tasks.length:Int):=Bl;have H:=Bq (Dp (show Ki y.now r es from fun t' kM=>bL.out t' Bl));have R1:=R.below hb;have rW:wr.cell? ⟨w+1,7,Ab⟩=Ac (Aa A5 r.tasks.length c5):=R1.cell 7 _ rfl;have uP:=R1.lt;go_wp2;go_ret;exact ⟨Bw H.out.symm,Bu B0 hb⟩
end Go.Proofs.YtonlnjdempbfoabGreat
