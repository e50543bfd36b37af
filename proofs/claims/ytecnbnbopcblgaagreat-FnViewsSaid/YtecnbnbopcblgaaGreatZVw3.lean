/-
  RunAt of the reference and of the program. Written by program (cs.py). Slices of plain structs that are held against each other: slices.Equal. Written by progra
-/
import Derived.Test.YtecnbnbopcblgaaGreatZVw0
import Derived.Test.YtecnbnbopcblgaaGreatZVw1
import Derived.Test.YtecnbnbopcblgaaGreatZVw2
import Derived.Deep.RegionHeld3
import Derived.IntWalk
namespace Go.Proofs.YtecnbnbopcblgaaGreat
open Go.RowKit
set_option maxRecDepth 100000
set_option maxHeartbeats 4000000
set_option linter.unusedVariables false
set_option linter.unusedSimpArgs false
open Value renaming int->J,slice->Aa
open IntKind renaming i64->Ab
open Option renaming none->Ac,some->Ad
open Below renaming setCell->Ae,alloc->Af
open Nat renaming zero_le->Ah,le_trans->Ai,lt_of_lt_of_le->Aj
open Go renaming wpQuiet_nil->Al
open Go.Proofs.Tryz renaming prog->An
open Int renaming toNat_natCast->Ap,eq_ofNat_of_zero_le->Aq
open IntWalk renaming i64_in->Ar
open List renaming length_map->Au,getElem_mem->Ax,length_take->A0,length_append->Bd,take_of_length_le->Bg
open World renaming size_alloc->Bj
open Go.Proofs.Tryz
def Lg (id:Int) (r:Run):Bool:=r.id == id
def Db (y:Yard) (id:Int):Int:=if y.runs.length<=8 then He (Lg id) y.runs else -1
theorem Pu {y:Yard} {id:Int} (h:¬ y.runs.length<=8):Db y id = -1:=by unfold Db;rw [if_neg h]
theorem Jq {y:Yard} {id:Int} (h:y.runs.length<=8):Db y id=He (Lg id) y.runs:=by unfold Db;rw [if_pos h]
theorem Mv {α:Type} (p:α->Bool) (l:List α):He p l = -1 \/ ∃ k:Nat,k<l.length/\He p l=k:=by
 unfold He;cases h:l.findIdx? p with
 | none=>exact .inl rfl
 | some i=>exact .inr ⟨i,(List.findIdx?_eq_some_iff_getElem.1 h).1,rfl⟩
theorem Ek (y:Yard) (id:Int):Db y id = -1 \/ ∃ k:Nat,k<y.runs.length/\Db y id=k:=by
 by_cases h:y.runs.length<=8
 ·rw [Jq h];exact Mv _ _
 ·exact .inl (Pu h)
theorem Fo (y:Yard) (s:Sl×Sl) (id:Int) (w:World) (hl:Cf y<=2000000) (h:Bu.rd w w y s) :
  Calls An 153 #[Dh y s,J Ab id] w fun e w'=>e = .returned (J Ab (Db y id))/\Below w w w':=by
 obtain ⟨s1,⟨A,n,c⟩⟩:=s;have h1:RdL Cn w w (Sl.v ⟨A,n,c⟩) y.runs:=h.2;obtain ⟨A',c',hv,-⟩:=h1.form;simp only [Sl.v,Value.slice.injEq] at hv;obtain ⟨rfl,rfl,rfl⟩:=hv;have eJ:y.runs.length<=2000000:=Ai (Cv Dc _) (by unfold Cf at hl;omega);have D:=DBox.new 31 [J Ab y.now,J Ab y.seq,Aa (s1,(⟨A,y.runs.length,c⟩:Sl)).1.a (s1,(⟨A,y.runs.length,c⟩:Sl)).1.n (s1,(⟨A,y.runs.length,c⟩:Sl)).1.c,Aa (s1,(⟨A,y.runs.length,c⟩:Sl)).2.a (s1,(⟨A,y.runs.length,c⟩:Sl)).2.n (s1,(⟨A,y.runs.length,c⟩:Sl)).2.c] w rfl;have dJ:Below w w (w.alloc (.cells #[J Ab y.now,J Ab y.seq,Aa (s1,(⟨A,y.runs.length,c⟩:Sl)).1.a (s1,(⟨A,y.runs.length,c⟩:Sl)).1.n (s1,(⟨A,y.runs.length,c⟩:Sl)).1.c,Aa (s1,(⟨A,y.runs.length,c⟩:Sl)).2.a (s1,(⟨A,y.runs.length,c⟩:Sl)).2.n (s1,(⟨A,y.runs.length,c⟩:Sl)).2.c] 31)):=Bt;go_enter func153,ntmps153;go_wp2_with fail
 generalize (w.alloc (.cells #[J Ab y.now,J Ab y.seq,Aa (s1,(⟨A,y.runs.length,c⟩:Sl)).1.a (s1,(⟨A,y.runs.length,c⟩:Sl)).1.n (s1,(⟨A,y.runs.length,c⟩:Sl)).1.c,Aa (s1,(⟨A,y.runs.length,c⟩:Sl)).2.a (s1,(⟨A,y.runs.length,c⟩:Sl)).2.n (s1,(⟨A,y.runs.length,c⟩:Sl)).2.c] 31))=W at *
 have k3:W.cell? ⟨w,3,Ac⟩=Ad (Aa A y.runs.length c):=D.cell 3 _ rfl;have h2:=h1.below dJ;go_wp2;go_loop [5] (fun i=>∃ k:Nat,k<=y.runs.length/\i = J Ab k/\Hid (∀ j (hj:j<y.runs.length),j<k->Lg id y.runs[j]=false)) (fun i=>y.runs.length - (intOf i).toNat);case atStart=>exact ⟨0,Ah _,rfl,fun j hj h0=>absurd h0 Bl⟩
 case round =>
  obtain ⟨k,hk,rfl,bY⟩:=hrel;by_cases h8:y.runs.length<=8
  ·by_cases aB:k<y.runs.length
   ·obtain ⟨b,o,s',rfl,aH,hr,c0,-⟩:=h2.run aB;have aC:(k:Int)<(y.runs.length:Int):=Bl;cases hp:Lg id y.runs[k]
    ·have t0:(y.runs[k].id == id)=false:=hp;have S:Hid (∀ j (hj:j<y.runs.length),j<k+1->Lg id y.runs[j]=false):=by
      intro j hj h0;by_cases e:j=k
      ·subst e;exact hp
      ·exact bY.out j hj Bl
     clear hp;go_wp2;exact ⟨⟨k+1,Bl,by go_num,S⟩,clM⟩
    ·have t0:(y.runs[k].id == id)=true:=hp;have H:=Bq (show Db y id=k by rw [Jq h8];exact It aB (fun j hj=>bY.out j Bl hj) hp);clear hp;go_wp2;go_ret;exact ⟨D6 H.out.symm,dJ⟩
   ·have H:=Bq (show Db y id = -1 by rw [Jq h8];exact Jd (fun j hj=>bY.out j hj Bl));have aC:¬ ((k:Int)<(y.runs.length:Int)):=Bl;go_wp2;go_ret;exact ⟨D6 H.out.symm,dJ⟩
  ·have H:=Bq (Pu (id:=id) h8);by_cases aB:k<y.runs.length
   ·have aC:(k:Int)<(y.runs.length:Int):=Bl;go_wp2;go_ret;exact ⟨D6 H.out.symm,dJ⟩
   ·have aC:¬ ((k:Int)<(y.runs.length:Int)):=Bl;go_wp2;go_ret;exact ⟨D6 H.out.symm,dJ⟩
theorem Wa (r:Run) (s:Sl×Sl) (id:Int) (p:Nat) (w:World) (hp:w.cell? ⟨p,0,Ac⟩=Ad (J Ab id)) (hp':p<w) :
  Calls An 151 #[Hx r s,.pointer (Ad ⟨p,0,Ac⟩)] w fun e w'=>e = .returned (.bool (Lg id r))/\Below w w w':=by
 unfold Lg;cases t1:(r.id == id)
 all_goals
  go_enter func151,ntmps151;go_wp2;go_ret;exact ⟨rfl,by repeat (first | exact Br _ _ | refine Af ?_ Bo _)⟩
theorem Aam (l:List Run) (s:Sl) (id:Int) (p:Nat) (w:World) (hl:l.length<=2000000) (h:RdL Cn w w s.v l) (hp:w.cell? ⟨p,0,Ac⟩=Ad (J Ab id)) (hp':p<w) :
  Calls An 150 #[Aa s.a s.n s.c,.func (.func 151) #[] #[.pointer (Ad ⟨p,0,Ac⟩)]] w
   fun e w'=>e = .returned (J Ab (He (Lg id) l))/\Below w w w':=by
 obtain ⟨A,n,c⟩:=s;obtain ⟨A',c',hv,-⟩:=h.form;simp only [Sl.v,Value.slice.injEq] at hv;obtain ⟨rfl,rfl,rfl⟩:=hv;go_enter func150,ntmps150;go_wp2;go_loopw [8] (fun i wr=>∃ k:Nat,k<=l.length/\i = J Ab k/\Hid (∀ j (hj:j<k) (hj':j<l.length),Lg id l[j]=false)/\Below w w wr) (fun i _=>l.length - (intOf i).toNat);case atStart=>exact ⟨0,Ah _,rfl,fun j hj=>absurd hj Bl,Br _ _⟩
 case round =>
  obtain ⟨k,hk,rfl,bY,hb⟩:=hrel;by_cases aB:k<l.length
  ·obtain ⟨b,o,s',rfl,aH,hr,c0,c1,c2,c3,c4,c5,c6,c7⟩:=(h.below hb).run aB;have hp1:=(hb.cell (p:=⟨p,0,Ac⟩) hp').trans hp;have hs:=hb.size;cases t1:Lg id l[k]
   ·have S:Hid (∀ j (hj:j<k+1) (hj':j<l.length),Lg id l[j]=false):=by
     intro j hj hj';by_cases e:j=k
     ·subst e;exact t1
     ·exact bY.out j Bl hj'
    go_wp2_with (go_at_call 151;refine (Wa l[k] s' id p _ hp1 Bl).mono ?_;rintro e w1 ⟨rfl,aZ⟩;simp only [t1])
    exact ⟨⟨k+1,Bl,by go_num,S,hb.trans (aZ.mono hb.size)⟩,clM⟩
   ·have H:=Bq (It aB (fun j hj=>bY.out j hj Bl) t1);go_wp2_with (go_at_call 151;refine (Wa l[k] s' id p _ hp1 Bl).mono ?_;rintro e w1 ⟨rfl,aZ⟩;simp only [t1])
    go_ret;exact ⟨D6 (by rw [H.out]),hb.trans (aZ.mono hb.size)⟩
  ·have H:=Bq (Jd (p:=Lg id) (l:=l) (fun j hj=>bY.out j Bl hj));go_wp2;go_ret;exact ⟨D6 (by rw [H.out]),hb⟩
theorem Ep (y:Yard) (s:Sl×Sl) (id:Int) (w:World) (hl:Cf y<=2000000) (h:Bu.rd w w y s) :
  Calls An 78 #[Dh y s,J Ab id] w fun e w'=>e = .returned (J Ab (Db y id))/\Below w w w':=by
 obtain ⟨s1,⟨A,n,c⟩⟩:=s;have h1:RdL Cn w w (Sl.v ⟨A,n,c⟩) y.runs:=h.2;obtain ⟨A',c',hv,-⟩:=h1.form;simp only [Sl.v,Value.slice.injEq] at hv;obtain ⟨rfl,rfl,rfl⟩:=hv;have eJ:y.runs.length<=2000000:=Ai (Cv Dc _) (by unfold Cf at hl;omega);have D0:=DBox.new 31 [J Ab y.now,J Ab y.seq,Aa (s1,(⟨A,y.runs.length,c⟩:Sl)).1.a (s1,(⟨A,y.runs.length,c⟩:Sl)).1.n (s1,(⟨A,y.runs.length,c⟩:Sl)).1.c,Aa (s1,(⟨A,y.runs.length,c⟩:Sl)).2.a (s1,(⟨A,y.runs.length,c⟩:Sl)).2.n (s1,(⟨A,y.runs.length,c⟩:Sl)).2.c] w rfl;have D:=D0.below ((Br _ _).alloc (Bs _) (.cells #[J Ab id] 3));have E:=DBox.new 3 [J Ab id] (w.alloc (.cells #[J Ab y.now,J Ab y.seq,Aa (s1,(⟨A,y.runs.length,c⟩:Sl)).1.a (s1,(⟨A,y.runs.length,c⟩:Sl)).1.n (s1,(⟨A,y.runs.length,c⟩:Sl)).1.c,Aa (s1,(⟨A,y.runs.length,c⟩:Sl)).2.a (s1,(⟨A,y.runs.length,c⟩:Sl)).2.n (s1,(⟨A,y.runs.length,c⟩:Sl)).2.c] 31)) (b:=w+1) Bn;have dJ:Below w w ((w.alloc (.cells #[J Ab y.now,J Ab y.seq,Aa (s1,(⟨A,y.runs.length,c⟩:Sl)).1.a (s1,(⟨A,y.runs.length,c⟩:Sl)).1.n (s1,(⟨A,y.runs.length,c⟩:Sl)).1.c,Aa (s1,(⟨A,y.runs.length,c⟩:Sl)).2.a (s1,(⟨A,y.runs.length,c⟩:Sl)).2.n (s1,(⟨A,y.runs.length,c⟩:Sl)).2.c] 31)).alloc (.cells #[J Ab id] 3)):=by repeat (first | exact Br _ _ | refine Af ?_ Bo _)
 clear D0;by_cases h8:y.runs.length<=8;case neg =>
  have H:=Bq (Pu (id:=id) h8);go_enter func78,ntmps78;go_wp2;go_ret;exact ⟨D6 H.out.symm,dJ⟩
 have H:=Bq (Jq (id:=id) h8);go_enter func78,ntmps78;go_wp2_with fail
 generalize ((w.alloc (.cells #[J Ab y.now,J Ab y.seq,Aa (s1,(⟨A,y.runs.length,c⟩:Sl)).1.a (s1,(⟨A,y.runs.length,c⟩:Sl)).1.n (s1,(⟨A,y.runs.length,c⟩:Sl)).1.c,Aa (s1,(⟨A,y.runs.length,c⟩:Sl)).2.a (s1,(⟨A,y.runs.length,c⟩:Sl)).2.n (s1,(⟨A,y.runs.length,c⟩:Sl)).2.c] 31)).alloc (.cells #[J Ab id] 3))=W at *
 have e0:W.cell? ⟨w+1,0,Ac⟩=Ad (J Ab id):=E.cell 0 _ rfl;have el:=E.lt;refine (Aam y.runs ⟨A,y.runs.length,c⟩ id (w+1) _ eJ ((h1.below dJ).more dJ.size) e0 el).mono ?_;rintro e w1 ⟨rfl,aZ⟩;go_wp2;go_ret;exact ⟨D6 H.out.symm,Bv dJ aZ⟩
theorem Yt (l l':List Edge) (s s':Sl) (w:World) (hl:l.length<=2000000) (hl':l'.length<=2000000) (h:RdL Kj w w s.v l) (h':RdL Kj w w s'.v l') :
  Calls An 269 #[Aa s.a s.n s.c,Aa s'.a s'.n s'.c] w fun e w'=>e = .returned (.bool (decide (l=l')))/\Below w w w':=by
 obtain ⟨A,n,c⟩:=s;obtain ⟨A',n',c'⟩:=s';obtain ⟨A1,e1,hv,-⟩:=h.form;obtain ⟨A2,e2,mT,-⟩:=h'.form;simp only [Sl.v,Value.slice.injEq] at hv mT;obtain ⟨rfl,rfl,rfl⟩:=hv;obtain ⟨rfl,rfl,rfl⟩:=mT;by_cases aE:l.length=l'.length
 ·have dJ:((l.length:Int) != (l'.length:Int))=false:=by simp [aE]
  have Hne:=Bq aE;clear aE;go_enter func269,ntmps269;go_wp2;go_loopw [13] (fun i wr=>∃ k:Nat,k<=l.length/\i = J Ab k/\Hid (l.take k=l'.take k)/\Below w w wr) (fun i _=>l.length - (intOf i).toNat);case atStart=>exact ⟨0,Ah _,rfl,rfl,Br _ _⟩
  case round =>
   obtain ⟨k,hk,rfl,rU,hb⟩:=hrel;by_cases aB:k<l.length
   ·have hlt':k<l'.length:=by rw [<-Hne.out];exact aB
    obtain ⟨b,o,_,rfl,aH,_,c0,c1⟩:=(h.below hb).edge aB;obtain ⟨b',o',_,rfl,bS,_,d0,d1⟩:=(h'.below hb).edge hlt';have i1:(k:Int)<(l.length:Int):=Bl;have i2:(k:Int)<(l'.length:Int):=Bl;have no:l[k]≠l'[k]->Hid (decide (l=l')=false):=fun hx=>by
     show decide (l=l')=false;simp only [decide_eq_false_iff_not];intro e;subst e;exact hx rfl
    by_cases h0:l[k].fr=l'[k].fr;case neg =>
     have t0:(l[k].fr == l'[k].fr)=false:=beq_eq_false_iff_ne.2 h0;have H:=no (fun e=>h0 (by rw [e]));clear h0 no;go_wp2;go_quiet (fail);go_wp2;go_ret;exact ⟨Bx H.out.symm,Du hb _⟩
    rw [<-h0] at d0;have H0:=Bq h0;clear h0;by_cases h1:l[k].to=l'[k].to;case neg =>
     have t1:(l[k].to == l'[k].to)=false:=beq_eq_false_iff_ne.2 h1;have H:=no (fun e=>h1 (by rw [e]));clear h1 no;go_wp2;go_quiet (fail);go_wp2;go_ret;exact ⟨Bx H.out.symm,Du hb _⟩
    rw [<-h1] at d1;have H1:=Bq h1;clear h1;have S:Hid (l.take (k+1)=l'.take (k+1)):=by
     show l.take (k+1)=l'.take (k+1);have hx:l[k]=l'[k]:=by
      have g0:=H0.out ;have g1:=H1.out;revert g0 g1;cases l[k];cases l'[k];simp only;rintro rfl;rintro rfl;rfl
     rw [Cy l k aB,Cy l' k hlt',rU.out,hx]
    clear no;go_wp2;go_quiet (fail);go_wp2;exact ⟨⟨k+1,Bl,by go_num,S,Du hb _⟩,clM⟩
   ·go_wp2;go_ret;refine ⟨Bx ?_,hb⟩;have h1:=rU.out;rw [Bg Bl,Bg (by rw [<-Hne.out];omega)] at h1;simp [h1]
 ·have dJ:((l.length:Int) != (l'.length:Int))=true:=by simp;omega
  go_enter func269,ntmps269;go_wp2;go_ret;refine ⟨Bx ?_,Br _ _⟩;simp only [Bool.false_eq,decide_eq_false_iff_not];intro e;exact aE (by rw [e])
theorem Aan (x y:Plan) (s r:Sl) (w:World) (hl:Hi x<=2000000) (hl':Hi y<=2000000) (h:Ck.rd w w x s) (h':Ck.rd w w y r) :
  Calls An 197 #[Ni x s,Ni y r] w fun e w'=>e = .returned (.bool (decide (x=y)))/\Below w w w':=by
 have fN:∀ W,Below w w W->Ck.rd W W x s:=fun W hW=>Ck.rd_more (Ck.rd_below h hW) hW.size;have dG:∀ W,Below w w W->Ck.rd W W y r:=fun W hW=>Ck.rd_more (Ck.rd_below h' hW) hW.size;have no:∀ {P:Prop},(x=y->P) -> ¬ P->Hid (decide (x=y)=false):=fun f g=>decide_eq_false (fun e=>g (f e));have a1:Below w w (w.alloc (.cells #[J Ab x.prio,J Ab x.most,J Ab x.wait,J Ab x.tasks,Aa s.a s.n s.c] 43)):=Bt;have a2:Below (w.alloc (.cells #[J Ab x.prio,J Ab x.most,J Ab x.wait,J Ab x.tasks,Aa s.a s.n s.c] 43)) (w.alloc (.cells #[J Ab x.prio,J Ab x.most,J Ab x.wait,J Ab x.tasks,Aa s.a s.n s.c] 43)) ((w.alloc (.cells #[J Ab x.prio,J Ab x.most,J Ab x.wait,J Ab x.tasks,Aa s.a s.n s.c] 43)).alloc (.cells #[J Ab y.prio,J Ab y.most,J Ab y.wait,J Ab y.tasks,Aa r.a r.n r.c] 43)):=Bt;have X:=(DBox.new 43 [J Ab x.prio,J Ab x.most,J Ab x.wait,J Ab x.tasks,Aa s.a s.n s.c] w rfl).below a2;have Y:=DBox.new 43 [J Ab y.prio,J Ab y.most,J Ab y.wait,J Ab y.tasks,Aa r.a r.n r.c] (w.alloc (.cells #[J Ab x.prio,J Ab x.most,J Ab x.wait,J Ab x.tasks,Aa s.a s.n s.c] 43)) (b:=w+1) Bn;have B0:=Bv a1 a2;clear a1 a2;by_cases h0:x.prio=y.prio;case neg =>
  have t0:(x.prio == y.prio)=false:=beq_eq_false_iff_ne.2 h0;have H:=no (fun e=>by rw [e]) h0;clear h0 no fN dG;go_enter func197,ntmps197;go_wp2;go_ret;exact ⟨Bx H.out.symm,B0⟩
 have t0:(x.prio == y.prio)=true:=by simp [h0]
 have H0:=Bq h0;clear h0;by_cases h1:x.most=y.most;case neg =>
  have t1:(x.most == y.most)=false:=beq_eq_false_iff_ne.2 h1;have H:=no (fun e=>by rw [e]) h1;clear h1 no fN dG;go_enter func197,ntmps197;go_wp2;go_ret;exact ⟨Bx H.out.symm,B0⟩
 have t1:(x.most == y.most)=true:=by simp [h1]
 have H1:=Bq h1;clear h1;by_cases h2:x.wait=y.wait;case neg =>
  have t2:(x.wait == y.wait)=false:=beq_eq_false_iff_ne.2 h2;have H:=no (fun e=>by rw [e]) h2;clear h2 no fN dG;go_enter func197,ntmps197;go_wp2;go_ret;exact ⟨Bx H.out.symm,B0⟩
 have t2:(x.wait == y.wait)=true:=by simp [h2]
 have H2:=Bq h2;clear h2;by_cases h3:x.tasks=y.tasks;case neg =>
  have t3:(x.tasks == y.tasks)=false:=beq_eq_false_iff_ne.2 h3;have H:=no (fun e=>by rw [e]) h3;clear h3 no fN dG;go_enter func197,ntmps197;go_wp2;go_ret;exact ⟨Bx H.out.symm,B0⟩
 have t3:(x.tasks == y.tasks)=true:=by simp [h3]
 have H3:=Bq h3;clear h3;go_enter func197,ntmps197;go_wp2_with fail
 generalize ((w.alloc (.cells #[J Ab x.prio,J Ab x.most,J Ab x.wait,J Ab x.tasks,Aa s.a s.n s.c] 43)).alloc (.cells #[J Ab y.prio,J Ab y.most,J Ab y.wait,J Ab y.tasks,Aa r.a r.n r.c] 43))=w0 at *
 refine (Yt x.edges y.edges s r _ (Ai (Cv Nx _) (by unfold Hi at hl;omega)) (Ai (Cv Nx _) (by unfold Hi at hl';omega)) (fN _ B0) (dG _ B0)).mono ?_;rintro e w1 ⟨rfl,b1⟩;replace X:=X.below b1;replace Y:=Y.below b1;replace B0:=Bv B0 b1;have u0:=X.cell 0 _ rfl;have v0:=Y.cell 0 _ rfl;have u1:=X.cell 1 _ rfl;have v1:=Y.cell 1 _ rfl;have u2:=X.cell 2 _ rfl;have v2:=Y.cell 2 _ rfl;have u3:=X.cell 3 _ rfl;have v3:=Y.cell 3 _ rfl;have u4:=X.cell 4 _ rfl;have v4:=Y.cell 4 _ rfl;have us:=X.lt;have vs:=Y.lt;by_cases h4:x.edges=y.edges;case neg =>
  have t4:decide (x.edges=y.edges)=false:=decide_eq_false h4;have H:=no (fun e=>by rw [e]) h4;rw [t4];clear h4 no fN dG t4;go_wp2;go_ret;exact ⟨Bx H.out.symm,B0⟩
 have t4:decide (x.edges=y.edges)=true:=decide_eq_true h4;rw [t4];have H4:=Bq h4;clear h4 t4 b1;have H:Hid (decide (x=y)=true):=decide_eq_true (by
  have e0:=H0.out ;have e1:=H1.out ;have e2:=H2.out ;have e3:=H3.out ;have e4:=H4.out;cases x;cases y;simp only at e0 e1 e2 e3 e4;subst e0 e1 e2 e3 e4;rfl)
 clear no fN dG;go_wp2;go_ret;exact ⟨Bx H.out.symm,B0⟩
section
def Ai2 (f:Nat->List Nat) (k:Nat):List Nat:=(List.range k).filter fun t=>(f t).isEmpty
open Classical in
noncomputable def Af6 (p:Plan):List Nat:=if Cr p=0 then Ai2 (fun t=>Dv (Dr p) p.tasks.toNat t) p.tasks.toNat else []
open Classical in
noncomputable def Aip (p:Plan):List Nat:=if Cr p=0 then Ai2 (fun t=>D9 (Dr p) p.tasks.toNat t) p.tasks.toNat else []
end
theorem Ja {w:World} {B:Nat} {v:Value} {l:List Edge} (h:RdL Kj w B v l):Rd Gd w B v l:=by
 obtain ⟨rs,rfl,⟨A,c,rfl,hc,hA⟩,_⟩:=h;refine ⟨A,c,by rw [Au],by rw [Au];exact hc,fun hl=>?_⟩;rw [Au] at hl;obtain ⟨b,o,h1,h2,h3⟩:=hA hl;refine ⟨b,o,h1,h2,fun k hk j u hu=>?_⟩;rw [List.getElem_map] at hu;exact h3 k (by rw [Au] at hk;exact hk) j u hu
theorem Ab9 (w:World):∀ l:List Edge,Ows Kj w [] (l.map fun x=>(x,()))
 | []=>.nil
 | x :: l=>by
  have:=Ows.cons (d:=Kj) (w:=w) (F:=[]) (r:=(x,())) rfl (Ab9 w l)
  exact this
theorem Afg {w:World} {E:TypeId} {base:Nat} {v:Value} {l:List Edge} (h:Ow Gd E w base v l):∃ (s:Sl) (F:List Nat),v = Aa s.a s.n s.c/\OwL Kj w F s.v l /\ ∀ b∈F,base<=b:=by
 obtain ⟨h1,h2⟩:=Hw.of_ow h;obtain ⟨⟨A,c,hv,hc,hA⟩,hF,hf⟩:=id h1;subst hv;refine ⟨⟨A,l.length,c⟩,_,rfl,⟨l.map fun x=>(x,()),Ei (Aa A l.length c) l.length,[],by rw [List.map_map];exact List.map_id _,⟨⟨A,c,by rw [Au],by rw [Au];exact hc,fun hl=>?_⟩,by rw [Au],hf⟩,Ab9 w l,(List.append_nil _).symm,h1.nodup⟩,h2⟩;rw [Au] at hl;obtain ⟨b,o,h3,h4,h5⟩:=hA hl;refine ⟨b,o,h3,h4,fun k hk j u hu=>?_⟩;rw [List.getElem_map] at hu;exact h5 k (by rw [Au] at hk;exact hk) j u hu
theorem Tz {x:Plan} {w:World} {e:Ending} {w':World} (h:Q1 x w e w'):Fa Ck Ni x w e w':=by
 obtain ⟨v,rfl,h1,h2⟩:=h;obtain ⟨s,F,rfl,h3,h4⟩:=Afg h1;exact ⟨s,F,rfl,h3,h4,h2⟩
theorem Nj (x:Plan) (s:Sl) (w:World) (hl:Hi x<=2000000) (h:Ck.rd w w x s) :
  Calls An 176 #[Ni x s] w (Fa Ck Ni x w) :=
 (Aag x s.v w (Ai (Cv _ _) hl) (Ja h)).mono fun _ _=>Tz
theorem Nk (x:Plan) (s:Sl) (w:World) (hl:Hi x<=2000000) (h:Ck.rd w w x s) :
  Calls An 178 #[Ni x s] w (Fa Ck Ni x w) :=
 (Aah x s.v w (Ai (Cv _ _) hl) (Ja h)).mono fun _ _=>Tz
theorem Bld.push1 {α:Type} {d:Dt α} {E:TypeId} {w w1 w2 w5:World} {base:Nat} {v v5:Value} {rs:List (α×d.S)} {x:α} {s:d.S} {F:List Nat} (h:Bld d E w base v rs) (hb:Below w w w1) (o1:d.ow w1 F x s) (n1:∀ b∈F,w<=b)
  (aS:base<=w.heap.size) (aJ:Below w1 w1 w2) (o5:Ow d.enc E w5 base v5 (rs ++ [(x,s)])) (g5:w2.grownBy w5 v.ownBlock) (f5:v5.ownBlock=v.ownBlock\/v5.ownBlock=Ad w2.heap.size):Bld d E w5 base v5 (rs ++ [(x,s)]):=by
 refine Bld.push h (Bv hb aJ) (Ows.one (r:=(x,s)) (d.ow_below o1 aJ)) n1 (d.ow_nodup o1) aS o5 g5 ?_;rcases f5 with f5 | f5
 ·exact .inl f5
 ·exact .inr ⟨_,f5,Bs _⟩
def Bls {α:Type} (d:Dt α) (E:TypeId) (w:World) (base:Nat) (v:Value) (l:List α):Prop:=∃ rs,rs.map (·.1)=l/\Bld d E w base v rs
noncomputable def tf (p:Prop):Bool:=@decide p (Classical.propDecidable p)
theorem Ds {p:Prop} (h:p):tf p=true:=by unfold tf;exact @decide_eq_true p (Classical.propDecidable p) h
theorem Cm {p:Prop} (h:¬ p):tf p=false:=by unfold tf;exact @decide_eq_false p (Classical.propDecidable p) h
theorem Ll {p:Prop} : tf p=true ↔ p:=by
 constructor
 ·intro h;by_cases hp:p
  ·exact hp
  ·rw [Cm hp] at h;cases h
 ·exact Ds
theorem Ahm {p q:Prop} (h:p ↔ q):tf p=tf q:=by
 by_cases hp:p
 ·rw [Ds hp,Ds (h.1 hp)]
 ·rw [Cm hp,Cm (fun hq=>hp (h.2 hq))]
def D7 (a b:Entry):Bool:=decide (b.prio<a.prio) || ((a.prio == b.prio) && decide (a.seq<b.seq))
def Iz (l:List Entry):Prop:=l.length<=80 /\ ∀ i (h:i+1<l.length),D7 l[i] l[i+1]=true
def By (r:Run) (k:Nat):Task:=r.tasks.getD k ⟨0,0,0,0⟩
theorem Co {r:Run} {k:Nat} (h:k<r.tasks.length):By r k=r.tasks[k]:=by unfold By;rw [List.getD_eq_getElem?_getD,List.getElem?_eq_getElem h];rfl
def Gn (r:Run) (l:List Nat):Nat:=(l.filter fun b=>(By r b).state != 4).length
def Ge (r:Run) (t:Nat):Nat:=Gn r (Dv (Dr r.plan) r.plan.tasks.toNat t)
theorem Pv (r:Run) (l:List Nat):Gn r l<=l.length:=List.length_filter_le _ _
theorem Wb {r:Run} {l:List Nat} {k:Nat} (hk:k<l.length) (h:(By r l[k]).state≠4):Gn r (l.take (k+1))=Gn r (l.take k)+1:=by
 unfold Gn;rw [Cy l k hk,List.filter_append,Bd,List.filter_cons,if_pos (by simpa using h)];rfl
theorem Zi {r:Run} {l:List Nat} {k:Nat} (hk:k<l.length) (h:(By r l[k]).state=4):Gn r (l.take (k+1))=Gn r (l.take k):=by
 unfold Gn;rw [Cy l k hk,List.filter_append,Bd,List.filter_cons,if_neg (by simp [h])];rfl
def Ls (x:Task) (N:Nat) (most:Int):Prop :=
 (1<=x.state/\x.state<=6)/\x.need=N/\(0<=x.try_/\x.try_<=most)/\(x.state=3->1<=x.until_/\x.until_<=1000000000)/\(x.state≠3->x.until_=0) /\
 (x.state=1->0<x.need)/\(x.state=2->x.need=0/\x.try_<most)/\(x.state=3\/x.state=4\/x.state=5->x.need=0/\1<=x.try_)
def Gz (r:Run) (t:Nat):Prop:=Ls (By r t) (Ge r t) r.plan.most
def Cp (l:List Task) (s:Int):Nat:=(l.filter fun x=>x.state == s).length
theorem Ia (l:List Task) (s:Int):Cp l s<=l.length:=List.length_filter_le _ _
theorem Zj (l:List Task) (x:Task) (s:Int):Cp (l ++ [x]) s=Cp l s+if x.state=s then 1 else 0:=by
 unfold Cp;rw [List.filter_append,Bd];congr 1;by_cases h:x.state=s<;>simp [h]
theorem Wc {l:List Task} {s:Int} {k:Nat} (hk:k<l.length) (h:l[k].state=s):Cp (l.take (k+1)) s=Cp (l.take k) s+1:=by
 rw [Cy l k hk,Zj,if_pos h]
theorem Aao {l:List Task} {s:Int} {k:Nat} (hk:k<l.length) (h:¬ l[k].state=s):Cp (l.take (k+1)) s=Cp (l.take k) s:=by
 rw [Cy l k hk,Zj,if_neg h,Nat.add_zero]
def Km (l:List Task):Nat:=Cp l 1+Cp l 2+Cp l 3
theorem R8 {l:List Task} (h:∀ x∈l,1<=x.state/\x.state<=6):Km l+Cp l 4+Cp l 5+Cp l 6=l.length:=by
 unfold Km;induction l with
 | nil=>rfl
 | cons x l ih =>
  have h1:=ih (fun y hy=>h y (List.mem_cons_of_mem _ hy));have hx:=h x (List.mem_cons_self ..);have hc:∀ s,Cp (x :: l) s=(if x.state=s then 1 else 0)+Cp l s:=by
   intro s;unfold Cp;by_cases h:x.state=s<;>simp [h];omega
  simp only [hc,List.length_cons];rcases (show x.state=1\/x.state=2\/x.state=3\/x.state=4\/x.state=5\/x.state=6 by omega) with e | e | e | e | e | e<;>simp [e]<;>omega
def stL (l:List Task):Int :=
 if Cp l 4=l.length then 2 else if Cp l 5=1/\Km l=0 then 3 else if Cp l 5=0/\0<Cp l 6/\Km l=0 then 4 else if Cp l 5=0/\Cp l 6=0 then 1 else 0
def Gr (r:Run):Prop :=
 (1<=r.id/\r.id<=9999)/\Cr r.plan=0/\(r.tasks.length:Int)=r.plan.tasks/\(∀ t,t<r.tasks.length->Gz r t)/\r.state=stL r.tasks/\r.state≠0
def Ci (y:Yard):List Entry:=y.shelf.flatten
def Ij (y:Yard) (id:Int):Run:=y.runs.getD (Db y id).toNat ⟨0,⟨0,0,0,0,[]⟩,0,[]⟩
theorem Ey {y:Yard} {id:Int} {k:Nat} (hk:k<y.runs.length) (h:Db y id=k):Ij y id=y.runs[k]:=by
 unfold Ij;rw [h,Ap,List.getD_eq_getElem?_getD,List.getElem?_eq_getElem hk];rfl
def Q4 (y:Yard) (e:Entry):Prop:=0<=Db y e.run/\(0<=e.task/\e.task<(Ij y e.run).tasks.length)/\(By (Ij y e.run) e.task.toNat).state=2
noncomputable def Di (y:Yard) (e:Entry):Bool:=tf (Q4 y e)
def Gk (l:List Run):Nat:=((l.filter fun r=>r.state == 1).map fun r=>r.tasks.length).sum
noncomputable def Gu (y:Yard) (l:List Entry):Nat:=(l.filter fun e=>!Di y e).length
noncomputable def Gv (y:Yard):Nat:=Gk y.runs+Gu y (Ci y)
def Gy (id:Int) (t:Nat) (e:Entry):Bool:=(e.run == id) && (e.task == (t:Int))
def Ec (id:Int) (t:Nat) (l:List Entry):Nat:=(l.filter (Gy id t)).length
def Qk (now:Int) (r:Run) (es:List Entry) (t:Nat):Prop :=
 ((By r t).state=2->(∀ e∈es,Gy r.id t e=true->e.prio=r.plan.prio)/\Ec r.id t es=1)/\((By r t).state=3->now+1<=(By r t).until_/\(By r t).until_<=now+r.plan.wait)
def K0 (now:Int) (r:Run) (es:List Entry):Prop:=∀ t,t<r.tasks.length->Qk now r es t
def Dn (y:Yard):Prop :=
 (0<=y.now/\y.now<=999999980)/\(1<=y.seq/\y.seq<=1000000000)/\y.shelf.length=4/\(∀ l∈y.shelf,Iz l)/\(∀ e∈Ci y,1<=e.seq/\e.seq<=y.seq - 1)/\((Ci y).map (·.seq)).Nodup /\
 y.runs.length<=8/\(∀ k (h:k<y.runs.length),Gr y.runs[k]/\Db y y.runs[k].id=k)/\(∀ r∈y.runs,K0 y.now r (Ci y))/\Gv y<=40
theorem Wd {y:Yard} {l:List Entry} {k:Nat} (hk:k<l.length) (h:Di y l[k]=false):Gu y (l.take (k+1))=Gu y (l.take k)+1:=by
 unfold Gu;rw [Cy l k hk,List.filter_append,Bd,List.filter_cons,if_pos (by simp [h])];rfl
theorem Zl {y:Yard} {l:List Entry} {k:Nat} (hk:k<l.length) (h:Di y l[k]=true):Gu y (l.take (k+1))=Gu y (l.take k):=by
 unfold Gu;rw [Cy l k hk,List.filter_append,Bd,List.filter_cons,if_neg (by simp [h])];rfl
theorem Pw (y:Yard) (l:List Entry):Gu y l<=l.length:=List.length_filter_le _ _
theorem Ql (y:Yard) (l l':List Entry):Gu y (l ++ l')=Gu y l+Gu y l':=by
 unfold Gu;rw [List.filter_append,Bd]
theorem Zm {id:Int} {t:Nat} {l:List Entry} {k:Nat} (hk:k<l.length) (h:Gy id t l[k]=true):Ec id t (l.take (k+1))=Ec id t (l.take k)+1:=by
 unfold Ec;rw [Cy l k hk,List.filter_append,Bd,List.filter_cons,if_pos h];rfl
theorem Aca {id:Int} {t:Nat} {l:List Entry} {k:Nat} (hk:k<l.length) (h:Gy id t l[k]=false):Ec id t (l.take (k+1))=Ec id t (l.take k):=by
 unfold Ec;rw [Cy l k hk,List.filter_append,Bd,List.filter_cons,if_neg (by simp [h])];rfl
theorem Acb (id:Int) (t:Nat) (l:List Entry):Ec id t l<=l.length:=List.length_filter_le _ _
theorem We {l:List Run} {k:Nat} (hk:k<l.length) (h:l[k].state=1):Gk (l.take (k+1))=Gk (l.take k)+l[k].tasks.length:=by
 unfold Gk;rw [Cy l k hk,List.filter_append,List.map_append,List.sum_append,List.filter_cons,if_pos (by simp [h])];simp
theorem Zn {l:List Run} {k:Nat} (hk:k<l.length) (h:¬ l[k].state=1):Gk (l.take (k+1))=Gk (l.take k):=by
 unfold Gk;rw [Cy l k hk,List.filter_append,List.map_append,List.sum_append,List.filter_cons,if_neg (by simp [h])];simp
theorem Af7 (l:List Run):Gk l<=(l.map fun r=>r.tasks.length).sum:=by
 unfold Gk;induction l with
 | nil=>simp
 | cons r l ih =>
  rw [List.filter_cons];split
  ·simp only [List.map_cons,List.sum_cons];omega
  ·simp only [List.map_cons,List.sum_cons];omega
theorem Aap (x y:Deed) (s r:Sl) (w:World) (hl:Iy x<=2000000) (hl':Iy y<=2000000) (h:Fb.rd w w x s) (h':Fb.rd w w y r) :
  Calls An 127 #[Dw x s,Dw y r] w fun e w'=>e = .returned (.bool (decide (x=y)))/\Below w w w':=by
 have fN:∀ W,Below w w W->Fb.rd W W x s:=fun W hW=>Fb.rd_more (Fb.rd_below h hW) hW.size;have dG:∀ W,Below w w W->Fb.rd W W y r:=fun W hW=>Fb.rd_more (Fb.rd_below h' hW) hW.size;have no:∀ {P:Prop},(x=y->P) -> ¬ P->Hid (decide (x=y)=false):=fun f g=>decide_eq_false (fun e=>g (f e));have a1:Below w w (w.alloc (.cells #[J Ab x.kind,J Ab x.run,J Ab x.plan.prio,J Ab x.plan.most,J Ab x.plan.wait,J Ab x.plan.tasks,Aa s.a s.n s.c,J Ab x.task,J Ab x.try_,J Ab x.worker,J Ab x.draw] 45)):=Bt;have a2:Below (w.alloc (.cells #[J Ab x.kind,J Ab x.run,J Ab x.plan.prio,J Ab x.plan.most,J Ab x.plan.wait,J Ab x.plan.tasks,Aa s.a s.n s.c,J Ab x.task,J Ab x.try_,J Ab x.worker,J Ab x.draw] 45)) (w.alloc (.cells #[J Ab x.kind,J Ab x.run,J Ab x.plan.prio,J Ab x.plan.most,J Ab x.plan.wait,J Ab x.plan.tasks,Aa s.a s.n s.c,J Ab x.task,J Ab x.try_,J Ab x.worker,J Ab x.draw] 45)) ((w.alloc (.cells #[J Ab x.kind,J Ab x.run,J Ab x.plan.prio,J Ab x.plan.most,J Ab x.plan.wait,J Ab x.plan.tasks,Aa s.a s.n s.c,J Ab x.task,J Ab x.try_,J Ab x.worker,J Ab x.draw] 45)).alloc (.cells #[J Ab y.kind,J Ab y.run,J Ab y.plan.prio,J Ab y.plan.most,J Ab y.plan.wait,J Ab y.plan.tasks,Aa r.a r.n r.c,J Ab y.task,J Ab y.try_,J Ab y.worker,J Ab y.draw] 45)):=Bt;have X:=(DBox.new 45 [J Ab x.kind,J Ab x.run,J Ab x.plan.prio,J Ab x.plan.most,J Ab x.plan.wait,J Ab x.plan.tasks,Aa s.a s.n s.c,J Ab x.task,J Ab x.try_,J Ab x.worker,J Ab x.draw] w rfl).below a2;have Y:=DBox.new 45 [J Ab y.kind,J Ab y.run,J Ab y.plan.prio,J Ab y.plan.most,J Ab y.plan.wait,J Ab y.plan.tasks,Aa r.a r.n r.c,J Ab y.task,J Ab y.try_,J Ab y.worker,J Ab y.draw] (w.alloc (.cells #[J Ab x.kind,J Ab x.run,J Ab x.plan.prio,J Ab x.plan.most,J Ab x.plan.wait,J Ab x.plan.tasks,Aa s.a s.n s.c,J Ab x.task,J Ab x.try_,J Ab x.worker,J Ab x.draw] 45)) (b:=w+1) Bn;have B0:=Bv a1 a2;clear a1 a2;by_cases h0:x.kind=y.kind;case neg =>
  have t0:(x.kind == y.kind)=false:=beq_eq_false_iff_ne.2 h0;have H:=no (fun e=>by rw [e]) h0;clear h0 no fN dG;go_enter func127,ntmps127;go_wp2;go_ret;exact ⟨Bx H.out.symm,B0⟩
 have t0:(x.kind == y.kind)=true:=by simp [h0]
 have H0:=Bq h0;clear h0;by_cases h1:x.run=y.run;case neg =>
  have t1:(x.run == y.run)=false:=beq_eq_false_iff_ne.2 h1;have H:=no (fun e=>by rw [e]) h1;clear h1 no fN dG;go_enter func127,ntmps127;go_wp2;go_ret;exact ⟨Bx H.out.symm,B0⟩
 have t1:(x.run == y.run)=true:=by simp [h1]
 have H1:=Bq h1;clear h1;go_enter func127,ntmps127;go_wp2_with fail
 generalize ((w.alloc (.cells #[J Ab x.kind,J Ab x.run,J Ab x.plan.prio,J Ab x.plan.most,J Ab x.plan.wait,J Ab x.plan.tasks,Aa s.a s.n s.c,J Ab x.task,J Ab x.try_,J Ab x.worker,J Ab x.draw] 45)).alloc (.cells #[J Ab y.kind,J Ab y.run,J Ab y.plan.prio,J Ab y.plan.most,J Ab y.plan.wait,J Ab y.plan.tasks,Aa r.a r.n r.c,J Ab y.task,J Ab y.try_,J Ab y.worker,J Ab y.draw] 45))=w0 at *
 refine (Aan x.plan y.plan s r _ (by unfold Iy at hl;omega) (by unfold Iy at hl';omega) (fN _ B0) (dG _ B0)).mono ?_;rintro e w1 ⟨rfl,b1⟩;replace X:=X.below b1;replace Y:=Y.below b1;replace B0:=Bv B0 b1;have u0:=X.cell 0 _ rfl;have v0:=Y.cell 0 _ rfl;have u1:=X.cell 1 _ rfl;have v1:=Y.cell 1 _ rfl;have u2:=X.cell 2 _ rfl;have v2:=Y.cell 2 _ rfl;have u3:=X.cell 3 _ rfl;have v3:=Y.cell 3 _ rfl;have u4:=X.cell 4 _ rfl;have v4:=Y.cell 4 _ rfl;have u5:=X.cell 5 _ rfl;have v5:=Y.cell 5 _ rfl;have u6:=X.cell 6 _ rfl;have v6:=Y.cell 6 _ rfl;have u7:=X.cell 7 _ rfl;have v7:=Y.cell 7 _ rfl;have u8:=X.cell 8 _ rfl;have v8:=Y.cell 8 _ rfl;have u9:=X.cell 9 _ rfl;have v9:=Y.cell 9 _ rfl;have u10:=X.cell 10 _ rfl;have v10:=Y.cell 10 _ rfl;have us:=X.lt;have vs:=Y.lt;by_cases h2:x.plan=y.plan;case neg =>
  have t2:decide (x.plan=y.plan)=false:=decide_eq_false h2;have H:=no (fun e=>by rw [e]) h2;rw [t2];clear h2 no fN dG t2;go_wp2;go_ret;exact ⟨Bx H.out.symm,B0⟩
 have t2:decide (x.plan=y.plan)=true:=decide_eq_true h2;rw [t2];have H2:=Bq h2;clear h2 t2 b1;by_cases h3:x.task=y.task;case neg =>
  have t3:(x.task == y.task)=false:=beq_eq_false_iff_ne.2 h3;have H:=no (fun e=>by rw [e]) h3;clear h3 no fN dG;go_wp2;go_ret;exact ⟨Bx H.out.symm,B0⟩
 have t3:(x.task == y.task)=true:=by simp [h3]
 have H3:=Bq h3;clear h3;by_cases h4:x.try_=y.try_;case neg =>
  have t4:(x.try_ == y.try_)=false:=beq_eq_false_iff_ne.2 h4;have H:=no (fun e=>by rw [e]) h4;clear h4 no fN dG;go_wp2;go_ret;exact ⟨Bx H.out.symm,B0⟩
 have t4:(x.try_ == y.try_)=true:=by simp [h4]
 have H4:=Bq h4;clear h4;by_cases h5:x.worker=y.worker;case neg =>
  have t5:(x.worker == y.worker)=false:=beq_eq_false_iff_ne.2 h5;have H:=no (fun e=>by rw [e]) h5;clear h5 no fN dG;go_wp2;go_ret;exact ⟨Bx H.out.symm,B0⟩
 have t5:(x.worker == y.worker)=true:=by simp [h5]
 have H5:=Bq h5;clear h5;by_cases h6:x.draw=y.draw;case neg =>
  have t6:(x.draw == y.draw)=false:=beq_eq_false_iff_ne.2 h6;have H:=no (fun e=>by rw [e]) h6;clear h6 no fN dG;go_wp2;go_ret;exact ⟨Bx H.out.symm,B0⟩
 have t6:(x.draw == y.draw)=true:=by simp [h6]
 have H6:=Bq h6;clear h6;have H:Hid (decide (x=y)=true):=decide_eq_true (by
  have e0:=H0.out ;have e1:=H1.out ;have e2:=H2.out ;have e3:=H3.out ;have e4:=H4.out ;have e5:=H5.out ;have e6:=H6.out;cases x;cases y;simp only at e0 e1 e2 e3 e4 e5 e6;subst e0 e1 e2 e3 e4 e5 e6;rfl)
 clear no fN dG;go_wp2;go_ret;exact ⟨Bx H.out.symm,B0⟩
def Aje (t:Int) (a b:Nat):Edge:=⟨(a:Int),(b:Int)+t⟩
def Ahn (t:Int) (B:List Nat) (a:Nat):List Edge:=B.map (Aje t a)
def Ajf (t:Int) (A B:List Nat):List Edge:=A.flatMap (Ahn t B)
noncomputable def Ajl (p q:Plan):List Edge:=Ajf p.tasks (Aip p) (Af6 q)
theorem DBox.set {b:Nat} {cs:List Value} {w:World} (h:DBox b cs w) (j:Nat) (hj:j<cs.length) (u:Value):DBox b (cs.set j u) (w.setCell ⟨b,j,Ac⟩ u):=by
 refine ⟨fun i x hx=>?_,fun i=>by rw [Je];exact h.free i,by simpa [World.setCell] using h.lt⟩;have hi:i<cs.length:=by
  have:=(List.getElem?_eq_some_iff.1 hx).1
  simpa using this
 rw [Lw w b i j u cs[i] (h.cell i _ (List.getElem?_eq_getElem hi)) ⟨_,h.cell j _ (List.getElem?_eq_getElem hj)⟩];by_cases e:i=j
 ·subst e;rw [List.getElem?_set_self hi] at hx;rw [if_pos rfl];exact hx
 ·rw [List.getElem?_set_ne (Ne.symm e),List.getElem?_eq_getElem hi] at hx;rw [if_neg e];exact hx
theorem DBox.off {b:Nat} {cs:List Value} {w w':World} {row:Option Nat} (h:DBox b cs w) (hg:w.grownBy w' row) (aE:Ad b≠row):DBox b cs w' :=
 h.keep hg.size (fun j=>hg.cell_far ⟨b,j,Ac⟩ h.lt aE) (fun j=>hg.frozen_far ⟨b,j,Ac⟩ h.lt aE)
theorem DBox.setOther {b:Nat} {cs:List Value} {w:World} (h:DBox b cs w) {a:Addr} (aE:b≠a.block) (u:Value):DBox b cs (w.setCell a u) :=
 h.off (Qj w a u) (fun e=>aE (Option.some.inj e))
theorem Bld.setOther {α:Type} {d:Dt α} {E:TypeId} {w:World} {base:Nat} {v:Value} {rs:List (α×d.S)} (h:Bld d E w base v rs) {a:Addr} (ha:a.block<base) (u:Value):Bld d E (w.setCell a u) base v rs:=by
 obtain ⟨G,h1,h2,h3,h4⟩:=h;refine ⟨G,h1.setOther (fun e=>by have:=h1.within _ e;omega) u,h2.keep (by simp [World.setCell]) (fun b hb=>Below.heap_setCell w a u b (fun e=>by have:=(h4 b hb).1;omega)),h3,h4⟩
theorem M2 (a b:Entry) (w:World) :
  Calls An 223 #[Io a (),Io b ()] w fun e w'=>e = .returned (.bool (D7 a b))/\Below w w w':=by
 cases t1:decide (b.prio<a.prio)<;>cases t2:(a.prio == b.prio)<;>cases t3:decide (a.seq<b.seq);all_goals
  have H:=Bq (show (decide (b.prio<a.prio) || ((a.prio == b.prio) && decide (a.seq<b.seq)))=D7 a b from rfl);go_enter func223,ntmps223;go_wp2;go_ret;exact ⟨Bx (by rw [<-H.out,t1,t2,t3];rfl),by repeat (first | exact Br _ _ | refine Af ?_ Bo _)⟩
theorem Le (a b:Entry) (w:World) :
  Calls An 305 #[Io a (),Io b ()] w fun e w'=>e = .returned (.bool (D7 a b))/\Below w w w':=by
 cases t1:decide (b.prio<a.prio)<;>cases t2:(a.prio == b.prio)<;>cases t3:decide (a.seq<b.seq);all_goals
  have H:=Bq (show (decide (b.prio<a.prio) || ((a.prio == b.prio) && decide (a.seq<b.seq)))=D7 a b from rfl);go_enter func305,ntmps305;go_wp2;go_ret;exact ⟨Bx (by rw [<-H.out,t1,t2,t3];rfl),by repeat (first | exact Br _ _ | refine Af ?_ Bo _)⟩
theorem Wf {l:List Entry} {k:Nat} (qG:1<=k) (aB:k<l.length) (h:∀ j (hj:j+1<l.length),j+1<k->D7 l[j] l[j+1]=true) (t:D7 l[k - 1] l[k]=true) :
  ∀ j (hj:j+1<l.length),j+1<k+1->D7 l[j] l[j+1]=true:=by
 intro j hj fM;by_cases e:j+1=k
 ·subst e;simpa using t
 ·exact h j hj Bl
theorem Zo {l:List Entry} {k:Nat} (qG:1<=k) (aB:k<l.length) (t:D7 l[k - 1] l[k]=false):¬ Iz l:=by
 rintro ⟨_,h⟩
 have:=h (k - 1) Bl
 have e:k - 1+1=k:=Bl;simp only [e] at this;rw [t] at this;cases this
theorem U2 (l:List Entry) (s:Sl) (w:World) (hl:l.length<=2000000) (h:RdL Ch w w s.v l) :
  Calls An 139 #[Aa s.a s.n s.c] w fun e w'=>e = .returned (.bool (tf (Iz l)))/\Below w w w':=by
 obtain ⟨A,n,c⟩:=s;obtain rfl:n=l.length:=RdL.at1 (s:=⟨A,n,c⟩) h;go_enter func139,ntmps139;go_wp2;go_loopw [3] (fun i wr=>∃ k:Nat,1<=k/\(k<=l.length\/k=1)/\i = J Ab k/\Hid (∀ j (hj:j+1<l.length),j+1<k->D7 l[j] l[j+1]=true)/\Below w w wr) (fun i _=>l.length - (intOf i).toNat);case atStart=>exact ⟨1,Bs _,.inr rfl,rfl,fun j hj h0=>absurd h0 Bl,Br _ _⟩
 case round =>
  obtain ⟨k,qG,hk,rfl,aY,hb⟩:=hrel;have uP:(0:Int)<(k:Int):=Bl;by_cases aB:k<l.length
  ·have aC:(k:Int)<(l.length:Int):=Bl;obtain ⟨b,o,_,rfl,aH,_,c0,c1,c2,c3⟩:=(h.below hb).entry aB;obtain ⟨b',o',_,he,_,_,d0,d1,d2,d3⟩:=(h.below hb).entry (k:=k - 1) Bl;simp only [Option.some.injEq,Addr.mk.injEq,and_true] at he;obtain ⟨rfl,rfl⟩:=he;have hs:b<wr:=Aj aH hb.size;have aN:=Df wr;cases t2:D7 l[k - 1] l[k]
   ·have H:=Bq (Cm (Zo qG aB t2));go_wp2;refine Bz Bm Bm ?_;repeat (go_big_quiet_step ((go_at_call 223;rename_i x;have h1:=M2 l[k - 1] l[k] x.1;exact Fk h1)))
    refine Al ?_;rintro _ ⟨⟨w1,aZ⟩,rfl⟩;clear aN;go_wp2;go_ret;exact ⟨Bx H.out.symm,Bv hb aZ⟩
   ·have S:=Bq (Wf qG aB aY.out t2);go_wp2;refine Bz Bm Bm ?_;repeat (go_big_quiet_step ((go_at_call 223;rename_i x;have h1:=M2 l[k - 1] l[k] x.1;exact Fk h1)))
    refine Al ?_;rintro _ ⟨⟨w1,aZ⟩,rfl⟩;clear aN;go_wp2;exact ⟨⟨k+1,Bl,Bl,by go_num,S,Bv hb aZ⟩,clM⟩
  ·have aC:¬ (k:Int)<(l.length:Int):=Bl;by_cases h8:l.length<=80
   ·have H:=Bq (Ds (show Iz l from ⟨h8,fun j hj=>aY.out j hj Bl⟩));go_wp2;go_ret;exact ⟨Bx (by rw [H.out];exact decide_eq_true Bl),hb⟩
   ·have H:=Bq (Cm (show ¬ Iz l from fun h=>h8 h.1));have h8i:¬ (l.length:Int)<=80:=Bl;go_wp2;go_ret;exact ⟨Bx (by rw [H.out]),hb⟩
theorem U3 (l:List Entry) (s:Sl) (w:World) (hl:l.length<=2000000) (h:RdL Ch w w s.v l) :
  Calls An 284 #[Aa s.a s.n s.c] w fun e w'=>e = .returned (.bool (tf (Iz l)))/\Below w w w':=by
 obtain ⟨A,n,c⟩:=s;obtain rfl:n=l.length:=RdL.at1 (s:=⟨A,n,c⟩) h;by_cases h8:80<l.length
 ·have H:=Bq (Cm (show ¬ Iz l from fun h=>by have:=h.1;omega));have h8i:(80:Int)<(l.length:Int):=Bl;go_enter func284,ntmps284;go_wp2;go_ret;exact ⟨Bx H.out.symm,Br _ _⟩
 have h8i:¬ (80:Int)<(l.length:Int):=Bl;go_enter func284,ntmps284;go_wp2;go_loopw [3] (fun i wr=>∃ k:Nat,1<=k/\(k<=l.length\/k=1)/\i = J Ab k/\Hid (∀ j (hj:j+1<l.length),j+1<k->D7 l[j] l[j+1]=true)/\Below w w wr) (fun i _=>l.length - (intOf i).toNat);case atStart=>exact ⟨1,Bs _,.inr rfl,rfl,fun j hj h0=>absurd h0 Bl,Br _ _⟩
 case round =>
  obtain ⟨k,qG,hk,rfl,aY,hb⟩:=hrel;have uP:(0:Int)<(k:Int):=Bl;by_cases aB:k<l.length
  ·have aC:(k:Int)<(l.length:Int):=Bl;obtain ⟨b,o,_,rfl,aH,_,c0,c1,c2,c3⟩:=(h.below hb).entry aB;obtain ⟨b',o',_,he,_,_,d0,d1,d2,d3⟩:=(h.below hb).entry (k:=k - 1) Bl;simp only [Option.some.injEq,Addr.mk.injEq,and_true] at he;obtain ⟨rfl,rfl⟩:=he;have hs:b<wr:=Aj aH hb.size;have aN:=Df wr;cases t2:D7 l[k - 1] l[k]
   ·have H:=Bq (Cm (Zo qG aB t2));go_wp2;refine Bz Bm Bm ?_;repeat (go_big_quiet_step ((go_at_call 305;rename_i x;have h1:=Le l[k - 1] l[k] x.1;exact Fk h1)))
    refine Al ?_;rintro _ ⟨⟨w1,aZ⟩,rfl⟩;clear aN;go_wp2;go_ret;exact ⟨Bx H.out.symm,Bv hb aZ⟩
   ·have S:=Bq (Wf qG aB aY.out t2);go_wp2;refine Bz Bm Bm ?_;repeat (go_big_quiet_step ((go_at_call 305;rename_i x;have h1:=Le l[k - 1] l[k] x.1;exact Fk h1)))
    refine Al ?_;rintro _ ⟨⟨w1,aZ⟩,rfl⟩;clear aN;go_wp2;exact ⟨⟨k+1,Bl,Bl,by go_num,S,Bv hb aZ⟩,clM⟩
  ·have aC:¬ (k:Int)<(l.length:Int):=Bl;have H:=Bq (Ds (show Iz l from ⟨Bl,fun j hj=>aY.out j hj Bl⟩));go_wp2;go_ret;exact ⟨Bx H.out.symm,hb⟩
def Ff (l:List Task) (s:Int) (k:Nat):List Nat:=(List.range k).filter fun t=>(l.getD t ⟨0,0,0,0⟩).state == s
def Dd (l:List Task) (s:Int):List Nat:=Ff l s l.length
theorem Mj (l:List Task) (s:Int) (k:Nat) (hk:k<l.length):Ff l s (k+1)=Ff l s k ++ (if l[k].state=s then [k] else []):=by
 unfold Ff;rw [List.range_succ,List.filter_append];congr 1;have:l.getD k ⟨0,0,0,0⟩=l[k]:=by rw [List.getD_eq_getElem?_getD,List.getElem?_eq_getElem hk];rfl
 by_cases h:l[k].state=s
 ·simp [h,this,hk]
 ·simp [h,this,hk]
theorem Qm (l:List Task) (s:Int):∀ (k:Nat),k<=l.length->(Ff l s k).length=Cp (l.take k) s
 | 0,_=>by simp [Ff,Cp]
 | k+1,hk=>by
  rw [Mj l s k Bl,Bd,Qm l s k Bl];by_cases h:l[k].state=s
  ·rw [Wc Bl h,if_pos h];rfl
  ·rw [Aao Bl h,if_neg h];rfl
theorem T0 (l:List Task) (s:Int):(Dd l s).length=Cp l s:=by
 unfold Dd;rw [Qm l s _ (Bs _),List.take_length]
theorem Jr (l:List Task) (s:Int) (k:Nat):(Ff l s k).length<=k:=by
 unfold Ff;exact Ai (List.length_filter_le _ _) Bn
theorem I2 (r:Run) (s:Sl×Sl) (st:Int) (w:World) (hl:r.tasks.length<=2000000) (h:Cn.rd w w r s) :
  Calls An 79 #[Hx r s,J Ab st] w fun e w'=>∃ v,e = .returned v/\Ow En 3 w' w v (Dd r.tasks st)/\Below w w w':=by
 obtain ⟨⟨A1,n1,c1⟩,⟨A2,n2,c2⟩⟩:=s;obtain rfl:n2=r.tasks.length:=RdL.at1 (s:=⟨A2,n2,c2⟩) h.2;have h2:RdL Eu w w (Aa A2 r.tasks.length c2) r.tasks:=h.2;obtain ⟨W,aG,X,B0⟩:=bx1 w 67 [J Ab r.id,J Ab r.plan.prio,J Ab r.plan.most,J Ab r.plan.wait,J Ab r.plan.tasks,Aa A1 n1 c1,J Ab r.state,Aa A2 r.tasks.length c2];obtain ⟨j0,bZ,jz0,jz1,jz2⟩:=info_parts Kg;go_enter func79,ntmps79;go_wp2;rw [<-aG.out];clear aG;go_loopw [5,11] (fun vl i wr=>∃ k:Nat,k<=r.tasks.length/\i = J Ab k/\Ow En 3 wr (w+1) vl (Ff r.tasks st k)/\Below w w wr/\w.heap.size<wr.heap.size) (fun _ i _=>r.tasks.length - (intOf i).toNat);case atStart=>exact ⟨0,Ah _,rfl,by simpa [Ff] using Ow.nil En 3 W (w.heap.size+1),B0,X.lt⟩
 case round =>
  clear X B0;obtain ⟨k,hk,rfl,ho,hb,bJ⟩:=hrel;by_cases aB:k<r.tasks.length
  ·have aC:(k:Int)<(r.tasks.length:Int):=Bl;obtain ⟨b,o,_,rfl,aH,_,d0,d1,d2,d3⟩:=(h2.below hb).task aB;have hS:=Mj r.tasks st k aB;have Hl:=Bq (show (Ff r.tasks st k).length<=3000000 by have:=Jr r.tasks st k;omega);by_cases hx:r.tasks[k].state=st
   ·rw [if_pos hx] at hS;have S:=Bq hS;have t1:(r.tasks[k].state == st)=true:=beq_iff_eq.2 hx;clear hS hx;have ha:Hid (∀ w:World,Below w w ((w.alloc (.cells #[J Ab r.tasks[k].state,J Ab r.tasks[k].need,J Ab r.tasks[k].try_,J Ab r.tasks[k].until_] 203)).alloc (.cells #[J Ab (k:Int)] 3))):=fun w=>(Bt).alloc Bn _;go_wp2_with (at_builtin;refine Cj _ En Bp rfl (.tmp 20) (.tmp 22) rfl underlying26 bZ jz0 jz1 jz2 rfl (l:=Ff r.tasks st k) rfl (ho.below (ha.out wr)) rfl (Rd.one En _ _ k Bn rfl 1 (Bs _) (Nat.lt_succ_self _)) Hl.out Bn Bp (by simp;omega) ?_;intro v5 w5 o5 g5 _)
    have bH:=Bv hb (ha.out wr);have W5:=bH.grown g5 bH.size (fun g hg=>by have:=ho.within _ hg;omega);have pR:=g5.size;simp only [Bj] at pR;refine ⟨⟨k+1,Bl,by go_num,?_,W5,Bl⟩,clM⟩;rw [S.out];exact o5
   ·rw [if_neg hx,List.append_nil] at hS;have S:=Bq hS;have t1:(r.tasks[k].state == st)=false:=beq_eq_false_iff_ne.2 hx;clear hS hx;have ha:Hid (∀ w:World,Below w w (w.alloc (.cells #[J Ab r.tasks[k].state,J Ab r.tasks[k].need,J Ab r.tasks[k].try_,J Ab r.tasks[k].until_] 203))):=fun w=>Bt;go_wp2;refine ⟨⟨k+1,Bl,by go_num,?_,Bv hb (ha.out wr),by simp;omega⟩,clM⟩;rw [S.out];exact ho.below (ha.out wr)
  ·have aC:¬ (k:Int)<(r.tasks.length:Int):=Bl;have bE:k=r.tasks.length:=Bl;subst bE;go_wp2;go_ret;exact ⟨_,rfl,ho.more Bl,hb⟩
theorem Q5 {es:List (Nat×Nat)} {T t x:Nat} (h:x∈Dv es T t):x<T:=by
 unfold Dv at h;exact List.mem_range.1 (List.mem_filter.1 h).1
theorem Wg (r:Run) (s:Sl×Sl) (t:Nat) (w:World) (hf:Cr r.plan=0) (hT:(r.tasks.length:Int)=r.plan.tasks) (h:Cn.rd w w r s) :
  Calls An 280 #[Hx r s,J Ab (t:Int)] w fun e w'=>e = .returned (J Ab (Ge r t:Nat))/\Below w w w':=by
 obtain ⟨⟨A1,n1,c1⟩,⟨A2,n2,c2⟩⟩:=s;obtain rfl:n2=r.tasks.length:=RdL.at1 (s:=⟨A2,n2,c2⟩) h.2;have h2:RdL Eu w w (Aa A2 r.tasks.length c2) r.tasks:=h.2;have h1:Rd Gd w w (Aa A1 n1 c1) r.plan.edges:=Ja h.1;have hl:r.tasks.length<=12:=by have:=Dx (Cs.1 hf).1;omega
 have HL:=Bq (show ∀ x∈Dv (Dr r.plan) r.plan.tasks.toNat t,x<r.tasks.length from fun x hx=>by have:=Q5 hx;omega);have HN:=Bq (show (Dv (Dr r.plan) r.plan.tasks.toNat t).length<=12 by have:=Jh (Dr r.plan) r.plan.tasks.toNat t;omega);have HD:=Bq (show Ge r t=Gn r (Dv (Dr r.plan) r.plan.tasks.toNat t) from rfl);clear hT;obtain ⟨W,aG,X,B0⟩:=bx1 w 67 [J Ab r.id,J Ab r.plan.prio,J Ab r.plan.most,J Ab r.plan.wait,J Ab r.plan.tasks,Aa A1 n1 c1,J Ab r.state,Aa A2 r.tasks.length c2];go_enter func280,ntmps280;go_wp2_with fail
 rw [<-aG.out];clear aG;refine (O8 r.plan (Aa A1 n1 c1) t _ hf ((h1.below B0).more B0.size)).mono ?_;rintro e w1 ⟨v,rfl,o1,b1⟩;generalize Dv (Dr r.plan) r.plan.tasks.toNat t=L at *
 obtain ⟨A3,c3,rfl,-⟩:=id (Rd.of_own o1);replace B0:=Bv B0 b1;replace X:=X.below b1;have X_:=X.g8;have eJ:=HN.out;go_wp2;go_loop [5,13] (fun n i=>∃ k:Nat,k<=L.length/\i = J Ab k/\n = J Ab (Gn r (L.take k):Nat)) (fun _ i=>L.length - (intOf i).toNat);case atStart=>exact ⟨0,Ah _,rfl,rfl⟩
 case round =>
  obtain ⟨k,hk,rfl,rfl⟩:=hrel;have ol:=Pv r (L.take k);rw [A0] at ol;by_cases aB:k<L.length
  ·have aC:(k:Int)<(L.length:Int):=Bl;have hx:=HL.out _ (Ax aB);obtain ⟨b3,o3,rfl,bU,e0⟩:=(Rd.of_own o1).nat aB;obtain ⟨b,o,_,rfl,aH,_,d0,d1,d2,d3⟩:=(h2.below B0).task hx;have hxI:(L[k]:Int)<(r.tasks.length:Int):=Bl;have ht:=Bq (Co hx);by_cases h4:r.tasks[L[k]].state=4
   ·have S:=Bq (Zi (r:=r) aB (by rw [ht.out];exact h4));have t4:(r.tasks[L[k]].state != 4)=false:=by simp [h4]
    clear h4;go_wp2;exact ⟨⟨k+1,Bl,by go_num,by rw [S.out]⟩,clM⟩
   ·have S:=Bq (Wb (r:=r) aB (by rw [ht.out];exact h4));have t4:(r.tasks[L[k]].state != 4)=true:=by simp [h4]
    clear h4;go_wp2;exact ⟨⟨k+1,Bl,by go_num,by rw [S.out];go_num⟩,clM⟩
  ·have aC:¬ (k:Int)<(L.length:Int):=Bl;have bE:k=L.length:=Bl;subst bE;go_wp2;go_ret;exact ⟨D6 (by rw [HD.out]),B0⟩
def Cw:Enc Entry:={ cells:=fun x=>[J Ab x.prio,J Ab x.seq,J Ab x.run,J Ab x.task],sz:=4,len:=fun _=>rfl,one:=fun _ u hu=>by simp at hu;rcases hu with rfl | rfl | rfl | rfl<;>rfl }
theorem J3 {w:World} {B:Nat} {v:Value} {l:List Entry} (h:RdL Ch w B v l):Rd Cw w B v l:=by
 obtain ⟨rs,rfl,⟨A,c,rfl,cA,hA⟩,_⟩:=h;refine ⟨A,c,by rw [Au],by rw [Au];exact cA,fun hl=>?_⟩;rw [Au] at hl;obtain ⟨b,o,hb,aB,hc⟩:=hA hl;refine ⟨b,o,hb,aB,fun k hk j u hu=>?_⟩;rw [Au] at hk;rw [List.getElem_map] at hu;exact hc k hk j u hu
theorem Js {w:World} {B:Nat} {v:Value} {l:List Entry} (h:Rd Cw w B v l):RdL Ch w B v l:=by
 obtain ⟨A,c,rfl,cA,hA⟩:=h;refine ⟨l.map fun x=>(x,()),by rw [List.map_map];exact List.map_id' l,⟨A,c,by rw [Au],by rw [Au];exact cA,fun hl=>?_⟩,fun _ _=>trivial⟩;rw [Au] at hl;obtain ⟨b,o,hb,aB,hc⟩:=hA hl;refine ⟨b,o,hb,aB,fun k hk j u hu=>?_⟩;rw [Au] at hk;rw [List.getElem_map] at hu;exact hc k hk j u hu
theorem Gi:(An.info? 71).map (fun i=>(i.zero,i.size,i.bytes))=Ad (Ad (.agg #[J Ab 0,J Ab 0,J Ab 0,J Ab 0]),4,32):=Bm
theorem Mk {α:Type} (l:List (List α)) (k:Nat) (hk:k<l.length):(l.take (k+1)).flatten=(l.take k).flatten ++ l[k]:=by
 rw [Cy l k hk,List.flatten_append];simp
theorem I0 (l:List (List Entry)) (k:Nat):(l.take k).flatten.length<=Kv Dp l:=by
 induction l generalizing k with
 | nil=>simp
 | cons x l ih =>
  cases k with
  | zero=>simp
  | succ k =>
   have:=ih k
   rw [List.take_succ_cons,List.flatten_cons,Bd];unfold Kv at *
   have hx:x.length<=Dp x:=Cv Kk x;simp only [List.length_cons,List.map_cons,List.sum_cons];omega
theorem Lm (y:Yard) (s:Sl×Sl) (w:World) (hl:Cf y<=2000000) (h:Bu.rd w w y s) :
  Calls An 140 #[Dh y s] w fun e w'=>∃ v,e = .returned v/\Ow Cw 71 w' w v (Ci y)/\Below w w w':=by
 obtain ⟨⟨A1,n1,c1⟩,⟨A2,n2,c2⟩⟩:=s;obtain rfl:n1=y.shelf.length:=RdL.at1 (s:=⟨A1,n1,c1⟩) h.1;have h1:RdL (Dt.list Ch) w w (Aa A1 y.shelf.length c1) y.shelf:=h.1;have eJ:y.shelf.length<=2000000:=Ai (Cv Dp _) (by unfold Cf at hl;omega);have HL:=Bq (show ∀ k,(y.shelf.take k).flatten.length<=2000000 from fun k=>Ai (I0 y.shelf k) (by unfold Cf at hl;omega));have HE:=Bq (show ∀ k (hk:k<y.shelf.length),y.shelf[k].length<=2000000 from fun k hk=>by
  have:=Gw (cnt:=Dp) (Ax hk)
  have h2:y.shelf[k].length<=Dp y.shelf[k]:=Cv Kk _;unfold Cf at hl;omega)
 clear hl h;have X:=DBox.new 31 [J Ab y.now,J Ab y.seq,Aa A1 y.shelf.length c1,Aa A2 n2 c2] w (b:=w) rfl;have B0:Below w w (w.alloc (.cells #[J Ab y.now,J Ab y.seq,Aa A1 y.shelf.length c1,Aa A2 n2 c2] 31)):=by repeat (first | exact Br _ _ | refine Af ?_ Bo _)
 obtain ⟨j0,bZ,jz0,jz1,jz2⟩:=info_parts Gi;go_enter func140,ntmps140;go_wp2;generalize (w.alloc (.cells #[J Ab y.now,J Ab y.seq,Aa A1 y.shelf.length c1,Aa A2 n2 c2] 31))=W at *
 go_loopw [3,9] (fun vl i wr=>∃ k:Nat,k<=y.shelf.length/\i = J Ab k/\Ow Cw 71 wr (w+1) vl (y.shelf.take k).flatten/\Below w w wr/\w.heap.size<wr.heap.size) (fun _ i _=>y.shelf.length - (intOf i).toNat);case atStart=>exact ⟨0,Ah _,rfl,by simpa using Ow.nil Cw 71 W (w.heap.size+1),B0,X.lt⟩
 case round =>
  clear X B0;obtain ⟨k,hk,rfl,ho,hb,bJ⟩:=hrel;by_cases aB:k<y.shelf.length
  ·have aC:(k:Int)<(y.shelf.length:Int):=Bl;obtain ⟨b,o,⟨As,ns,cs⟩,rfl,aH,hr,d0⟩:=(h1.below hb).entryS aB;obtain rfl:ns=y.shelf[k].length:=RdL.at1 (s:=⟨As,ns,cs⟩) hr;have bP:=(J3 hr).more hb.size;have S:=Bq (Mk y.shelf k aB);have HLk:=Bq (HL.out k);have HEk:=Bq (HE.out k aB);go_wp2_with (at_builtin;refine Cj _ Cw Bp rfl (.tmp 13) (.tmp 14) rfl underlying74 bZ jz0 jz1 jz2 rfl (l:=(y.shelf.take k).flatten) rfl ho rfl bP (Ai HLk.out Bl) (Ai HEk.out Bl) Bp Bl ?_;intro v5 w5 o5 g5 _)
   have W5:=hb.grown g5 hb.size (fun g hg=>by have:=ho.within _ hg;omega);have pR:=g5.size;refine ⟨⟨v5,_,J Ab ((k:Int)+1),⟨k+1,Bl,by go_num,?_,W5,Bl⟩,rfl,rfl,rfl⟩,clM⟩;rw [S.out];exact o5
  ·have aC:¬ (k:Int)<(y.shelf.length:Int):=Bl;have bE:k=y.shelf.length:=Bl;subst bE;rw [List.take_length] at ho;go_wp2;go_ret;exact ⟨_,rfl,ho.more Bl,hb⟩
theorem Ln (y:Yard) (s:Sl×Sl) (w:World) (hl:Cf y<=2000000) (h:Bu.rd w w y s) :
  Calls An 81 #[Dh y s] w fun e w'=>∃ v,e = .returned v/\Ow Cw 71 w' w v (Ci y)/\Below w w w':=by
 obtain ⟨⟨A1,n1,c1⟩,⟨A2,n2,c2⟩⟩:=s;obtain rfl:n1=y.shelf.length:=RdL.at1 (s:=⟨A1,n1,c1⟩) h.1;have h1:RdL (Dt.list Ch) w w (Aa A1 y.shelf.length c1) y.shelf:=h.1;have eJ:y.shelf.length<=2000000:=Ai (Cv Dp _) (by unfold Cf at hl;omega);have HL:=Bq (show ∀ k,(y.shelf.take k).flatten.length<=2000000 from fun k=>Ai (I0 y.shelf k) (by unfold Cf at hl;omega));have HE:=Bq (show ∀ k (hk:k<y.shelf.length),y.shelf[k].length<=2000000 from fun k hk=>by
  have:=Gw (cnt:=Dp) (Ax hk)
  have h2:y.shelf[k].length<=Dp y.shelf[k]:=Cv Kk _;unfold Cf at hl;omega)
 clear hl h;have X:=(DBox.new 31 [J Ab y.now,J Ab y.seq,Aa A1 y.shelf.length c1,Aa A2 n2 c2] w (b:=w) rfl).below ((Br _ _).alloc (Bs _) (.cells #[] 71));have E:=DBox.new 71 [] (w.alloc (.cells #[J Ab y.now,J Ab y.seq,Aa A1 y.shelf.length c1,Aa A2 n2 c2] 31)) (b:=w+1) Bn;have B0:Below w w ((w.alloc (.cells #[J Ab y.now,J Ab y.seq,Aa A1 y.shelf.length c1,Aa A2 n2 c2] 31)).alloc (.cells #[] 71)):=by repeat (first | exact Br _ _ | refine Af ?_ Bo _)
 have O0:=Ow.empty Cw 71 (w.alloc (.cells #[J Ab y.now,J Ab y.seq,Aa A1 y.shelf.length c1,Aa A2 n2 c2] 31)) (g:=w+1) Bn;obtain ⟨j0,bZ,jz0,jz1,jz2⟩:=info_parts Gi;clear E;go_enter func81,ntmps81;go_wp2;generalize ((w.alloc (.cells #[J Ab y.now,J Ab y.seq,Aa A1 y.shelf.length c1,Aa A2 n2 c2] 31)).alloc (.cells #[] 71))=W at *
 go_loopw [3,4] (fun vl i wr=>∃ k:Nat,k<=y.shelf.length/\i = J Ab k/\Ow Cw 71 wr (w+1) vl (y.shelf.take k).flatten/\DBox w [J Ab y.now,J Ab y.seq,Aa A1 y.shelf.length c1,Aa A2 n2 c2] wr/\Below w w wr) (fun _ i _=>y.shelf.length - (intOf i).toNat);case atStart=>exact ⟨0,Ah _,rfl,by simpa using O0,X,B0⟩
 case round =>
  clear X B0 O0;obtain ⟨k,hk,rfl,ho,X,hb⟩:=hrel;obtain ⟨X_0,X_1,X_2,X_3,X_l⟩:=X.g4;by_cases aB:k<y.shelf.length
  ·have aC:(k:Int)<(y.shelf.length:Int):=Bl;obtain ⟨b,o,⟨As,ns,cs⟩,rfl,aH,hr,d0⟩:=(h1.below hb).entryS aB;obtain rfl:ns=y.shelf[k].length:=RdL.at1 (s:=⟨As,ns,cs⟩) hr;have bP:=(J3 hr).more hb.size;have S:=Bq (Mk y.shelf k aB);have HLk:=Bq (HL.out k);have HEk:=Bq (HE.out k aB);go_wp2_with (at_builtin;refine Cj _ Cw Bp rfl (.tmp 13) (.tmp 18) rfl underlying74 bZ jz0 jz1 jz2 rfl (l:=(y.shelf.take k).flatten) rfl ho rfl bP (Ai HLk.out Bl) (Ai HEk.out Bl) Bp Bl ?_;intro v5 w5 o5 g5 _)
   have W5:=hb.grown g5 hb.size (fun g hg=>by have:=ho.within _ hg;omega);have X5:=X.off g5 (fun e=>by have:=ho.within _ e.symm;omega);refine ⟨⟨k+1,Bl,by go_num,?_,X5,W5⟩,clM⟩;rw [S.out];exact o5
  ·have aC:¬ (k:Int)<(y.shelf.length:Int):=Bl;have bE:k=y.shelf.length:=Bl;subst bE;rw [List.take_length] at ho;go_wp2;go_ret;exact ⟨_,rfl,ho.more Bl,hb⟩
def Py (x:Task) (most:Int):Bool :=
 (if x.state=3 then inB x.until_ 1 1000000000 else (x.until_ == 0)) && (if x.state=1 then decide (0<x.need) else if x.state=2 then (x.need == 0) && decide (x.try_<most) else if x.state=6 then true else (x.need == 0) && decide (1<=x.try_))
theorem Zp {x:Task} {N:Nat} {most:Int} (h1:1<=x.state/\x.state<=6) (h2:x.need=N) (h3:0<=x.try_/\x.try_<=most):tf (Ls x N most)=Py x most:=by
 rw [Bool.eq_iff_iff,Ll];obtain ⟨st,nd,tr,un⟩:=x;unfold Ls Py;simp only at *
 rcases (show st=1\/st=2\/st=3\/st=4\/st=5\/st=6 by omega) with rfl | rfl | rfl | rfl | rfl | rfl<;>simp [inB]<;>omega
theorem Ai3 {a b:Int} (h:(a != b)=true):¬ a=b:=by simpa using h
theorem Ai4 {a b:Int} (h:(a != b)=false):a=b:=by simpa using h
theorem Ai5 {a b:Int} (h:(a == b)=true):a=b:=by simpa using h
theorem Ai6 {a b:Int} (h:(a == b)=false):¬ a=b:=by simpa using h
theorem Wh (r:Run) (s:Sl×Sl) (t:Nat) (w:World) (hf:Cr r.plan=0) (hT:(r.tasks.length:Int)=r.plan.tasks) (ht:t<r.tasks.length) (h:Cn.rd w w r s) :
  Calls An 225 #[Hx r s,J Ab (t:Int)] w fun e w'=>e = .returned (.bool (tf (Gz r t)))/\Below w w w':=by
 have HC:=Bq (show ∀ W,Below w w W->Calls An 280 #[Hx r s,J Ab (t:Int)] W fun e w'=>e = .returned (J Ab (Ge r t:Nat))/\Below W W w' from
  fun W hW=>Wg r s t W hf hT (Cn.rd_more (Cn.rd_below h hW) hW.size))
 obtain ⟨⟨A1,n1,c1⟩,⟨A2,n2,c2⟩⟩:=s;obtain rfl:n2=r.tasks.length:=RdL.at1 (s:=⟨A2,n2,c2⟩) h.2;have h2:RdL Eu w w (Aa A2 r.tasks.length c2) r.tasks:=h.2;have hl:r.tasks.length<=12:=by have:=Dx (Cs.1 hf).1;omega
 have HQ:=Bq (show tf (Gz r t)=tf (Ls r.tasks[t] (Ge r t) r.plan.most) by unfold Gz;rw [Co ht]);have jX:(t:Int)<(r.tasks.length:Int):=Bl;clear hT hf h;obtain ⟨b,o,_,hA,aH,_,d0,d1,d2,d3⟩:=h2.task ht;subst hA;generalize Ge r t=N at *
 generalize r.tasks[t]=x at *
 obtain ⟨W,aG,X,T,B0⟩:=bx2 w 67 [J Ab r.id,J Ab r.plan.prio,J Ab r.plan.most,J Ab r.plan.wait,J Ab r.plan.tasks,Aa A1 n1 c1,J Ab r.state,Aa (Ad ⟨b,o,Ac⟩) r.tasks.length c2] 203 [J Ab x.state,J Ab x.need,J Ab x.try_,J Ab x.until_];go_enter func225,ntmps225;go_wp2;rw [<-aG.out];clear aG;clear d0 d1 d2 d3;have X_:=X.g8;have T_:=T.g4;have aN:=Df W;have HC2:=Bq (show ∀ u:J7 W,Calls An 280 #[Hx r (⟨A1,n1,c1⟩,⟨Ad ⟨b,o,Ac⟩,r.tasks.length,c2⟩),J Ab (t:Int)] u.1 fun e w'=>e = .returned (J Ab (N:Nat))/\Below u.1 u.1 w' from fun u=>HC.out u.1 (Bv B0 u.2));clear HC;cases a1:inB x.state 1 6;case false =>
  have H:=Bq (show tf (Gz r t)=false by rw [HQ.out];exact Cm (fun h=>by have:=Ct.2 h.1;rw [a1] at this;cases this));refine Bz Bm Bm ?_;repeat (go_big_quiet_step ((go_at_call 72;exact Dy (fun u=>Cq _ _ _ u.1))))
  refine Al ?_;rintro _ ⟨⟨w1,b1⟩,rfl⟩;go_wp2;go_ret;exact ⟨Bx H.out.symm,Bv B0 b1⟩
 cases a2:(x.need == (N:Int))
 case false =>
  have a2':(x.need != (N:Int))=true:=by simp [bne,a2]
  have H:=Bq (show tf (Gz r t)=false by rw [HQ.out];exact Cm (fun h=>by have:=beq_iff_eq.2 h.2.1;rw [a2] at this;cases this));refine Bz Bm Bm ?_;repeat (go_big_quiet_step ((first
   | (go_at_call 72;exact Dy (fun u=>Cq _ _ _ u.1))
   | (go_at_call 280;(with_reducible exact Jp HC2.out)))))
  refine Al ?_;rintro _ ⟨⟨w1,b1⟩,rfl⟩;go_wp2;go_ret;exact ⟨Bx H.out.symm,Bv B0 b1⟩
 have a2':(x.need != (N:Int))=false:=by simp [bne,a2]
 cases a3:inB x.try_ 0 r.plan.most;case false =>
  have H:=Bq (show tf (Gz r t)=false by rw [HQ.out];exact Cm (fun h=>by have:=Ct.2 h.2.2.1;rw [a3] at this;cases this));refine Bz Bm Bm ?_;repeat (go_big_quiet_step ((first
   | (go_at_call 72;exact Dy (fun u=>Cq _ _ _ u.1))
   | (go_at_call 280;(with_reducible exact Jp HC2.out)))))
  refine Al ?_;rintro _ ⟨⟨w1,b1⟩,rfl⟩;go_wp2;go_ret;exact ⟨Bx H.out.symm,Bv B0 b1⟩
 have H:=Bq (show tf (Gz r t)=Py x r.plan.most by rw [HQ.out];exact Zp (Ct.1 a1) (beq_iff_eq.1 a2) (Ct.1 a3));have a1':=Ct.1 a1;refine Bz Bm Bm ?_;repeat (go_big_quiet_step ((first
  | (go_at_call 72;exact Dy (fun u=>Cq _ _ _ u.1))
  | (go_at_call 280;(with_reducible exact Jp HC2.out)))))
 refine Al ?_;rintro _ ⟨⟨w1,b1⟩,rfl⟩;clear a1 a2 a2' a3 aN HC2;replace X:=X.below b1;clear X_;have X_:=X.g8;replace T:=T.below b1;clear T_;have T_:=T.g4;replace B0:=Bv B0 b1;obtain ⟨st,nd,tr,un⟩:=x;simp only at *
 have S:=(show st=1\/st=2\/st=3\/st=4\/st=5\/st=6 by omega)
 clear a1';rcases S with rfl | rfl | rfl | rfl | rfl | rfl
 all_goals
  go_wp2_with (go_at_call 72;refine (Cq _ _ _ _).mono ?_;rintro e w' ⟨rfl,rfl⟩)
  all_goals
   go_ret;exact ⟨Bx (by
    rw [H.out];unfold Py;try have e1:=Ai3 ‹(un != 0)=true›
    try have e1:=Ai4 ‹(un != 0)=false›
    try have e3:=Ai5 ‹(nd == 0)=true›
    try have e3:=Ai6 ‹(nd == 0)=false›
    simp [*]),B0⟩
def Fg:Yard:=⟨0,1,[[],[],[],[]],[]⟩
theorem Ows.nils {w:World} : ∀ (n:Nat),Ows (Dt.list Ch) w [] (List.replicate n (([],⟨Ac,0,0⟩):List Entry×Sl))
 | 0=>.nil
 | n+1=>by
  have:=Ows.cons (d:=Dt.list Ch) (r:=([],⟨Ac,0,0⟩)) (OwL.nil Ch w Ac 0) (Ows.nils n)
  exact this
theorem U4 (w:World):Calls An 14 #[] w (Fa Bu Dh Fg w):=by
 obtain ⟨i0,aQ,aW,aU,aR⟩:=info_parts Lx;have pK:∀ w:World,(Instr.makeSlice 28 (.int .i64 4) (.int .i64 4)).run An w = .ok (.slice (Ad ⟨w,0,Ac⟩) 4 4) (w.alloc (.cells (madeCells #[.slice Ac 0 0] 4) 74)):=by
  intro w
  have:=run_make (P:=An) w 28 74 i0 _ underlying28 aQ aW .i64 .i64 4 4 Bl Bl (by rw [aR];omega) Bl
  rw [aU] at this;simpa [Value.cells] using this
 go_enter func14,ntmps14;go_wp2;refine bodyPost_ret (v:=Dh Fg (⟨Ad ⟨w+1,0,Ac⟩,4,4⟩,⟨Ac,0,0⟩)) ?_ rfl ?_
 ·simp [Dh,Fg,results,results14,go_sem]
 ·have hO:=Ow.made (Dt.list Ch).enc 74 (w.alloc (.cells #[.int .i64 0,.int .i64 1,.slice (Ad ⟨w+1,0,Ac⟩) 4 4,.slice Ac 0 0] 31)) ([],⟨Ac,0,0⟩) 4 Bp (by simp [maxLen]) (z:=#[.slice Ac 0 0]) rfl (m:=4) rfl;have hs:(w.alloc (.cells #[.int .i64 0,.int .i64 1,.slice (Ad ⟨w+1,0,Ac⟩) 4 4,.slice Ac 0 0] 31)).heap.size=w.heap.size+1:=Bn;rw [hs] at hO;obtain ⟨F,h1,h2⟩:=Bld.owl (l:=[[],[],[],[]]) ⟨[],hO,Ows.nils 4,List.nodup_nil,fun b hb=>by cases hb⟩ rfl;refine ⟨_,F,rfl,⟨F,[],(List.append_nil F).symm,h1.nodup,?_,OwL.nil _ _ _ _⟩,fun b hb=>by have:=h2 b hb;omega,?_⟩
  ·have hn:w.heap.size∉F:=fun hm=>by have:=h2 _ hm;omega
   show OwL (Dt.list Ch) _ F (.slice (Ad ⟨w+1,0,Ac⟩) 4 4) [[],[],[],[]];repeat (first | (with_reducible exact h1) | refine OwL.set ?_ hn _)
  ·repeat (first | exact Br _ _ | refine Ae ?_ Bo _ | refine Af ?_ Bo _)
theorem U5 (w:World):Calls An 42 #[] w (Fa Bu Dh Fg w):=by
 obtain ⟨i0,aQ,aW,aU,aR⟩:=info_parts Lx;have D0:=DBox.new 31 [J Ab 0,J Ab 0,Aa Ac 0 0,Aa Ac 0 0] w rfl;have D1:=D0.below ((Br _ _).alloc (Bs _) (.cells #[J Ab 0,J Ab 1,Aa Ac 0 0,Aa Ac 0 0] 31));have E1:=DBox.new 31 [J Ab 0,J Ab 1,Aa Ac 0 0,Aa Ac 0 0] (w.alloc (.cells #[J Ab 0,J Ab 0,Aa Ac 0 0,Aa Ac 0 0] 31)) (b:=w+1) Bn;have B0:Below w w ((w.alloc (.cells #[J Ab 0,J Ab 0,Aa Ac 0 0,Aa Ac 0 0] 31)).alloc (.cells #[J Ab 0,J Ab 1,Aa Ac 0 0,Aa Ac 0 0] 31)):=by repeat (first | exact Br _ _ | refine Af ?_ Bo _)
 have S0:w.heap.size+2<=((w.alloc (.cells #[J Ab 0,J Ab 0,Aa Ac 0 0,Aa Ac 0 0] 31)).alloc (.cells #[J Ab 0,J Ab 1,Aa Ac 0 0,Aa Ac 0 0] 31)).heap.size:=Bn;clear D0;go_enter func42,ntmps42;go_wp2;generalize ((w.alloc (.cells #[J Ab 0,J Ab 0,Aa Ac 0 0,Aa Ac 0 0] 31)).alloc (.cells #[J Ab 0,J Ab 1,Aa Ac 0 0,Aa Ac 0 0] 31))=W at *
 go_loopw [2] (fun i wr=>∃ (k:Nat) (v:Value),k<=4/\i = J Ab k/\Hid (Bls (Dt.list Ch) 74 wr (w+2) v (List.replicate k []))/\DBox w [J Ab 0,J Ab 0,Aa Ac 0 0,Aa Ac 0 0] wr/\DBox (w+1) [J Ab 0,J Ab 1,v,Aa Ac 0 0] wr/\Below w w wr/\w.heap.size+2<=wr.heap.size) (fun i _=>4 - (intOf i).toNat);case atStart=>exact ⟨0,_,Ah _,rfl,⟨[],rfl,Bld.nil _ _ _ _⟩,D1,E1,B0,S0⟩
 case round =>
  clear D1 E1 B0 S0;obtain ⟨k,v,hk,rfl,gA,D,E,hb,bJ⟩:=hrel;have e0:wr.cell? ⟨w+1,0,Ac⟩=Ad (J Ab 0):=E.cell 0 _ rfl;have e1:wr.cell? ⟨w+1,1,Ac⟩=Ad (J Ab 1):=E.cell 1 _ rfl;have e2:wr.cell? ⟨w+1,2,Ac⟩=Ad v:=E.cell 2 _ rfl;have e3:wr.cell? ⟨w+1,3,Ac⟩=Ad (Aa Ac 0 0):=E.cell 3 _ rfl;have ef:=E.free;have el:=E.lt;by_cases aB:k<4
  ·obtain ⟨rs,hm,hB⟩:=gA.out;have cK:rs.length=k:=by have:=congrArg List.length hm;simpa using this
   have hO:=hB.ow;have aE:v.ownBlock≠Ad (w.heap.size+1):=fun e=>by have:=hO.within _ e;omega
   have kD:v.ownBlock≠Ad w.heap.size:=fun e=>by have:=hO.within _ e;omega
   have B1:=(Br wr wr).alloc (Bs _) (.cells #[] 71);go_wp2_with (at_builtin;refine Cj _ (Dt.list Ch).enc Bp rfl (.tmp 9) (.tmp 11) rfl underlying28 aQ aW aU aR rfl (v:=v) (l:=rs) rfl (hO.below (B1.alloc Bn _)) rfl (Rd.one (Dt.list Ch).enc _ _ (([]:List Entry),(⟨Ad ⟨wr,0,Ac⟩,0,0⟩:Sl)) Bn rfl 1 (Bs _) (Nat.lt_succ_self _)) Bl Bn Bp (by simp;omega) ?_;intro v5 w5 o5 g5 f5;obtain ⟨A5,c5,rfl,-⟩:=id (Rd.of_own o5);have E5:=((E.below B1).below (Bt)).off g5 (fun e=>aE e.symm);have D5:=((D.below B1).below (Bt)).off g5 (fun e=>kD e.symm);have m2:w5.cell? ⟨w+1,2,Ac⟩=Ad v:=E5.cell 2 _ rfl;have mf:=E5.free;have ml:=E5.lt)
   have hP:=Bld.push1 (d:=Dt.list Ch) (x:=[]) (s:=⟨Ad ⟨wr,0,Ac⟩,0,0⟩) hB B1 (OwL.nil Ch _ _ _) (fun b bH=>by cases bH) bJ (Bt) o5 g5 f5;have aK:(rs ++ [(([]:List Entry),(⟨Ad ⟨wr,0,Ac⟩,0,0⟩:Sl))]).length=k+1:=by simp [cK]
   rw [aK] at hP;have g5s:=g5.size;simp only [Bj] at g5s;refine ⟨⟨k+1,_,Bl,by go_num,⟨rs ++ [([],⟨Ad ⟨wr,0,Ac⟩,0,0⟩)],by rw [List.map_append,hm,List.replicate_succ'];rfl,hP.setOther (a:=⟨w+1,2,Ac⟩) (by show w.heap.size+1<_;omega) _⟩,D5.setOther (a:=⟨w+1,2,Ac⟩) (by show w.heap.size≠w.heap.size+1;omega) _,E5.set 2 Bn _,?_,by simp [World.setCell];omega⟩,clM⟩;exact Ae ((((hb.trans (B1.mono hb.size)).alloc (by simp;omega) _).grown g5 (by simp;omega) (fun g hg=>by have:=hO.within g hg;omega))) (by first | (simp;done) | (simp;omega)) _
  ·have pX:k=4:=Bl;subst pX;have d0:wr.cell? ⟨w,0,Ac⟩=Ad (J Ab 0):=D.cell 0 _ rfl;have d1:wr.cell? ⟨w,1,Ac⟩=Ad (J Ab 0):=D.cell 1 _ rfl;have d2:wr.cell? ⟨w,2,Ac⟩=Ad (Aa Ac 0 0):=D.cell 2 _ rfl;have d3:wr.cell? ⟨w,3,Ac⟩=Ad (Aa Ac 0 0):=D.cell 3 _ rfl;have df:=D.free;have dl:=D.lt;obtain ⟨rs,hm,hB⟩:=gA.out;obtain ⟨F,h1,h2⟩:=hB.owl hm;obtain ⟨A9,c9,rfl,-⟩:=h1.form;simp only [List.length_replicate] at e2 h1;go_wp2;refine bodyPost_ret (v:=Dh Fg (⟨A9,4,c9⟩,⟨Ac,0,0⟩)) ?_ rfl ?_
   ·simp [Dh,Fg,results,results42,go_sem,d0,d1,d2,d3]
   ·refine ⟨(⟨A9,4,c9⟩,⟨Ac,0,0⟩),F,rfl,⟨F,[],(List.append_nil F).symm,h1.nodup,?_,OwL.nil _ _ _ _⟩,fun b hb=>by have:=h2 b hb;omega,?_⟩
    ·have hn:w.heap.size∉F:=fun hm=>by have:=h2 _ hm;omega
     have h1:OwL (Dt.list Ch) wr F (Aa A9 4 c9) [[],[],[],[]]:=h1;show OwL (Dt.list Ch) _ F (Aa A9 4 c9) [[],[],[],[]];repeat (first | (with_reducible exact h1) | refine OwL.set ?_ hn _)
    ·repeat (first | (with_reducible exact hb) | refine Ae ?_ Bo _)
theorem Acc {y:Yard} {e:Entry} (h:Db y e.run = -1):Di y e=false:=Cm (fun hh=>by have:=hh.1;omega)
theorem Zq {y:Yard} {e:Entry} {k:Nat} (hk:k<y.runs.length) (h:Db y e.run=k) (hq:inB e.task 0 ((y.runs[k].tasks.length:Int) - 1)=false):Di y e=false :=
 Cm (fun hh=>by
  have h2:=hh.2.1;rw [Ey hk h] at h2
  have:=Ct.2 (show 0<=e.task/\e.task<=(y.runs[k].tasks.length:Int) - 1 by omega)
  rw [hq] at this;cases this)
theorem Acd {y:Yard} {e:Entry} {k t:Nat} (hk:k<y.runs.length) (h:Db y e.run=k) (ht:t<y.runs[k].tasks.length) (he:e.task=t):Di y e=(y.runs[k].tasks[t].state == 2):=by
 unfold Di;rw [Bool.eq_iff_iff,Ll,beq_iff_eq];unfold Q4;rw [Ey hk h,he,Ap,Co ht];constructor
 ·intro hh;exact hh.2.2
 ·intro hh;exact ⟨Bl,Bl,hh⟩
theorem Fc {y:Yard} {k:Nat} (hl:Cf y<=2000000) (hk:k<y.runs.length):y.runs[k].tasks.length<=2000000:=by
 have h1:=Gw (cnt:=Dc) (Ax hk);have h2:y.runs[k].tasks.length<=Kv Ix y.runs[k].tasks:=Cv _ _;unfold Cf at hl;unfold Dc at h1;unfold Dc at hl;omega
theorem M3 (y:Yard) (s:Sl×Sl) (e:Entry) (w:World) (hl:Cf y<=2000000) (h:Bu.rd w w y s) :
  Calls An 152 #[Dh y s,Io e ()] w fun e' w'=>e' = .returned (.bool (Di y e))/\Below w w w':=by
 have HR:=Bq (show ∀ W,Below w w W->Bu.rd W W y s from fun W hW=>Bu.rd_more (Bu.rd_below h hW) hW.size);obtain ⟨⟨A1,n1,c1⟩,⟨A2,n2,c2⟩⟩:=s;obtain rfl:n2=y.runs.length:=RdL.at1 (s:=⟨A2,n2,c2⟩) h.2;have h2:RdL Cn w w (Aa A2 y.runs.length c2) y.runs:=h.2;have eJ:y.runs.length<=2000000:=Ai (Cv Dc _) (by unfold Cf at hl;omega);obtain ⟨pr,sq,rn,tk⟩:=e;have X:=(DBox.new 31 [J Ab y.now,J Ab y.seq,Aa A1 n1 c1,Aa A2 y.runs.length c2] w (b:=w) rfl).below ((Br _ _).alloc (Bs _) (.cells #[J Ab (⟨pr,sq,rn,tk⟩:Entry).prio,J Ab (⟨pr,sq,rn,tk⟩:Entry).seq,J Ab (⟨pr,sq,rn,tk⟩:Entry).run,J Ab (⟨pr,sq,rn,tk⟩:Entry).task] 71));have E:=DBox.new 71 [J Ab (⟨pr,sq,rn,tk⟩:Entry).prio,J Ab (⟨pr,sq,rn,tk⟩:Entry).seq,J Ab (⟨pr,sq,rn,tk⟩:Entry).run,J Ab (⟨pr,sq,rn,tk⟩:Entry).task] (w.alloc (.cells #[J Ab y.now,J Ab y.seq,Aa A1 n1 c1,Aa A2 y.runs.length c2] 31)) (b:=w+1) Bn;have B0:Below w w ((w.alloc (.cells #[J Ab y.now,J Ab y.seq,Aa A1 n1 c1,Aa A2 y.runs.length c2] 31)).alloc (.cells #[J Ab (⟨pr,sq,rn,tk⟩:Entry).prio,J Ab (⟨pr,sq,rn,tk⟩:Entry).seq,J Ab (⟨pr,sq,rn,tk⟩:Entry).run,J Ab (⟨pr,sq,rn,tk⟩:Entry).task] 71)):=by repeat (first | exact Br _ _ | refine Af ?_ Bo _)
 have C:=Ep y (⟨A1,n1,c1⟩,⟨A2,y.runs.length,c2⟩) rn ((w.alloc (.cells #[J Ab y.now,J Ab y.seq,Aa A1 n1 c1,Aa A2 y.runs.length c2] 31)).alloc (.cells #[J Ab (⟨pr,sq,rn,tk⟩:Entry).prio,J Ab (⟨pr,sq,rn,tk⟩:Entry).seq,J Ab (⟨pr,sq,rn,tk⟩:Entry).run,J Ab (⟨pr,sq,rn,tk⟩:Entry).task] 71)) hl (HR.out _ B0);clear h;rcases Ek y rn with hr | ⟨k,hk,hr⟩
 ·have H:=Bq (Acc (e:=⟨pr,sq,rn,tk⟩) hr);rw [hr] at C;clear hr;go_enter func152,ntmps152;go_wp2_with fail
  generalize ((w.alloc (.cells #[J Ab y.now,J Ab y.seq,Aa A1 n1 c1,Aa A2 y.runs.length c2] 31)).alloc (.cells #[J Ab (⟨pr,sq,rn,tk⟩:Entry).prio,J Ab (⟨pr,sq,rn,tk⟩:Entry).seq,J Ab (⟨pr,sq,rn,tk⟩:Entry).run,J Ab (⟨pr,sq,rn,tk⟩:Entry).task] 71))=W at *
  refine C.mono ?_;rintro e1 w1 ⟨rfl,b1⟩;replace X:=X.below b1;replace E:=E.below b1;have X_:=X.g4;have E_:=E.g4;have aN:=Df w1;go_wp2;refine Bz Bm Bm ?_;repeat (go_big_quiet_step (fail))
  refine Al ?_;rintro _ ⟨⟨w2,b2⟩,rfl⟩;clear aN;go_wp2;go_ret;exact ⟨Bx H.out.symm,Bv (Bv B0 b1) b2⟩
 ·have pC:=Fc hl hk;have HR2:=Bq hr;rw [hr] at C;clear hr;go_enter func152,ntmps152;go_wp2_with fail
  generalize ((w.alloc (.cells #[J Ab y.now,J Ab y.seq,Aa A1 n1 c1,Aa A2 y.runs.length c2] 31)).alloc (.cells #[J Ab (⟨pr,sq,rn,tk⟩:Entry).prio,J Ab (⟨pr,sq,rn,tk⟩:Entry).seq,J Ab (⟨pr,sq,rn,tk⟩:Entry).run,J Ab (⟨pr,sq,rn,tk⟩:Entry).task] 71))=W at *
  refine C.mono ?_;rintro e1 w1 ⟨rfl,b1⟩;replace X:=X.below b1;replace E:=E.below b1;have X_:=X.g4;have E_:=E.g4;replace B0:=Bv B0 b1;obtain ⟨b,o,⟨s1,⟨At,nt,ct⟩⟩,eG,aH,bP,c0_,c1_,c2_,c3_,c4_,c5_,c6_,c7_⟩:=(h2.below B0).run hk;subst eG;obtain rfl:nt=y.runs[k].tasks.length:=RdL.at1 (s:=⟨At,nt,ct⟩) bP.2;have h3:RdL Eu w1 w (Aa At y.runs[k].tasks.length ct) y.runs[k].tasks:=bP.2;have gJ:(k:Int)<(y.runs.length:Int):=Bl;have dF:decide ((0:Int)<=(k:Int))=true:=decide_eq_true Bl;have aN:=Df w1;have bG:b<w1:=Aj aH B0.size;have wr1:Ab.wrap ((y.runs[k].tasks.length:Int) - 1)=(y.runs[k].tasks.length:Int) - 1:=Ar _ Bl;cases q:inB tk 0 ((y.runs[k].tasks.length:Int) - 1)
  ·have H:=Bq (Zq (e:=⟨pr,sq,rn,tk⟩) hk HR2.out q);go_wp2;refine Bz Bm Bm ?_;repeat (go_big_quiet_step ((go_at_call 72;exact Dy (fun u=>Cq _ _ _ u.1))))
   refine Al ?_;rintro _ ⟨⟨w2,b2⟩,rfl⟩;clear aN;go_wp2;go_ret;exact ⟨Bx H.out.symm,Bv B0 b2⟩
  ·have qq:=Ct.1 q;obtain ⟨t,rfl⟩:=Aq qq.1;have ht:t<y.runs[k].tasks.length:=Bl;obtain ⟨b',o',_,pP,bS,_,d0,d1,d2,d3⟩:=h3.task ht;subst pP;have cN:b'<w1:=Aj bS B0.size;have jX:(t:Int)<(y.runs[k].tasks.length:Int):=Bl;have H:=Bq (Acd (e:=⟨pr,sq,rn,(t:Int)⟩) hk HR2.out ht rfl);clear qq;generalize y.runs[k].tasks[t].state=st at *
   cases q2:(st == 2)
   all_goals
    rw [q2] at H;go_wp2;refine Bz Bm Bm ?_;repeat (go_big_quiet_step ((go_at_call 72;exact Dy (fun u=>Cq _ _ _ u.1))))
    refine Al ?_;rintro _ ⟨⟨w2,b2⟩,rfl⟩;clear aN;go_wp2;go_ret;exact ⟨Bx H.out.symm,Bv B0 b2⟩
theorem M4 (y:Yard) (s:Sl×Sl) (e:Entry) (w:World) (hl:Cf y<=2000000) (h:Bu.rd w w y s) :
  Calls An 82 #[Dh y s,Io e ()] w fun e' w'=>e' = .returned (.bool (Di y e))/\Below w w w':=by
 have HR:=Bq (show ∀ W,Below w w W->Bu.rd W W y s from fun W hW=>Bu.rd_more (Bu.rd_below h hW) hW.size);obtain ⟨⟨A1,n1,c1⟩,⟨A2,n2,c2⟩⟩:=s;obtain rfl:n2=y.runs.length:=RdL.at1 (s:=⟨A2,n2,c2⟩) h.2;have h2:RdL Cn w w (Aa A2 y.runs.length c2) y.runs:=h.2;have eJ:y.runs.length<=2000000:=Ai (Cv Dc _) (by unfold Cf at hl;omega);obtain ⟨pr,sq,rn,tk⟩:=e;have X:=(DBox.new 31 [J Ab y.now,J Ab y.seq,Aa A1 n1 c1,Aa A2 y.runs.length c2] w (b:=w) rfl).below ((Br _ _).alloc (Bs _) (.cells #[J Ab (⟨pr,sq,rn,tk⟩:Entry).prio,J Ab (⟨pr,sq,rn,tk⟩:Entry).seq,J Ab (⟨pr,sq,rn,tk⟩:Entry).run,J Ab (⟨pr,sq,rn,tk⟩:Entry).task] 71));have E:=DBox.new 71 [J Ab (⟨pr,sq,rn,tk⟩:Entry).prio,J Ab (⟨pr,sq,rn,tk⟩:Entry).seq,J Ab (⟨pr,sq,rn,tk⟩:Entry).run,J Ab (⟨pr,sq,rn,tk⟩:Entry).task] (w.alloc (.cells #[J Ab y.now,J Ab y.seq,Aa A1 n1 c1,Aa A2 y.runs.length c2] 31)) (b:=w+1) Bn;have B0:Below w w ((w.alloc (.cells #[J Ab y.now,J Ab y.seq,Aa A1 n1 c1,Aa A2 y.runs.length c2] 31)).alloc (.cells #[J Ab (⟨pr,sq,rn,tk⟩:Entry).prio,J Ab (⟨pr,sq,rn,tk⟩:Entry).seq,J Ab (⟨pr,sq,rn,tk⟩:Entry).run,J Ab (⟨pr,sq,rn,tk⟩:Entry).task] 71)):=by repeat (first | exact Br _ _ | refine Af ?_ Bo _)
 have C:=Fo y (⟨A1,n1,c1⟩,⟨A2,y.runs.length,c2⟩) rn ((w.alloc (.cells #[J Ab y.now,J Ab y.seq,Aa A1 n1 c1,Aa A2 y.runs.length c2] 31)).alloc (.cells #[J Ab (⟨pr,sq,rn,tk⟩:Entry).prio,J Ab (⟨pr,sq,rn,tk⟩:Entry).seq,J Ab (⟨pr,sq,rn,tk⟩:Entry).run,J Ab (⟨pr,sq,rn,tk⟩:Entry).task] 71)) hl (HR.out _ B0);clear h;rcases Ek y rn with hr | ⟨k,hk,hr⟩
 ·have H:=Bq (Acc (e:=⟨pr,sq,rn,tk⟩) hr);rw [hr] at C;clear hr;go_enter func82,ntmps82;go_wp2_with fail
  generalize ((w.alloc (.cells #[J Ab y.now,J Ab y.seq,Aa A1 n1 c1,Aa A2 y.runs.length c2] 31)).alloc (.cells #[J Ab (⟨pr,sq,rn,tk⟩:Entry).prio,J Ab (⟨pr,sq,rn,tk⟩:Entry).seq,J Ab (⟨pr,sq,rn,tk⟩:Entry).run,J Ab (⟨pr,sq,rn,tk⟩:Entry).task] 71))=W at *
  refine C.mono ?_;rintro e1 w1 ⟨rfl,b1⟩;replace X:=X.below b1;replace E:=E.below b1;have X_:=X.g4;have E_:=E.g4;have aN:=Df w1;go_wp2;refine Bz Bm Bm ?_;repeat (go_big_quiet_step (fail))
  refine Al ?_;rintro _ ⟨⟨w2,b2⟩,rfl⟩;clear aN;go_wp2;go_ret;exact ⟨Bx H.out.symm,Bv (Bv B0 b1) b2⟩
 ·have pC:=Fc hl hk;have HR2:=Bq hr;rw [hr] at C;clear hr;go_enter func82,ntmps82;go_wp2_with fail
  generalize ((w.alloc (.cells #[J Ab y.now,J Ab y.seq,Aa A1 n1 c1,Aa A2 y.runs.length c2] 31)).alloc (.cells #[J Ab (⟨pr,sq,rn,tk⟩:Entry).prio,J Ab (⟨pr,sq,rn,tk⟩:Entry).seq,J Ab (⟨pr,sq,rn,tk⟩:Entry).run,J Ab (⟨pr,sq,rn,tk⟩:Entry).task] 71))=W at *
  refine C.mono ?_;rintro e1 w1 ⟨rfl,b1⟩;replace X:=X.below b1;replace E:=E.below b1;have X_:=X.g4;have E_:=E.g4;replace B0:=Bv B0 b1;obtain ⟨b,o,⟨s1,⟨At,nt,ct⟩⟩,eG,aH,bP,c0_,c1_,c2_,c3_,c4_,c5_,c6_,c7_⟩:=(h2.below B0).run hk;subst eG;obtain rfl:nt=y.runs[k].tasks.length:=RdL.at1 (s:=⟨At,nt,ct⟩) bP.2;have h3:RdL Eu w1 w (Aa At y.runs[k].tasks.length ct) y.runs[k].tasks:=bP.2;have gJ:(k:Int)<(y.runs.length:Int):=Bl;have dF:decide ((0:Int)<=(k:Int))=true:=decide_eq_true Bl;have aN:=Df w1;have bG:b<w1:=Aj aH B0.size;have wr1:Ab.wrap ((y.runs[k].tasks.length:Int) - 1)=(y.runs[k].tasks.length:Int) - 1:=Ar _ Bl;cases q:inB tk 0 ((y.runs[k].tasks.length:Int) - 1)
  ·have H:=Bq (Zq (e:=⟨pr,sq,rn,tk⟩) hk HR2.out q);go_wp2;refine Bz Bm Bm ?_;repeat (go_big_quiet_step ((go_at_call 90;exact Dy (fun u=>Cl _ _ _ u.1))))
   refine Al ?_;rintro _ ⟨⟨w2,b2⟩,rfl⟩;clear aN;go_wp2;go_ret;exact ⟨Bx H.out.symm,Bv B0 b2⟩
  ·have qq:=Ct.1 q;obtain ⟨t,rfl⟩:=Aq qq.1;have ht:t<y.runs[k].tasks.length:=Bl;obtain ⟨b',o',_,pP,bS,_,d0,d1,d2,d3⟩:=h3.task ht;subst pP;have cN:b'<w1:=Aj bS B0.size;have jX:(t:Int)<(y.runs[k].tasks.length:Int):=Bl;have H:=Bq (Acd (e:=⟨pr,sq,rn,(t:Int)⟩) hk HR2.out ht rfl);clear qq;generalize y.runs[k].tasks[t].state=st at *
   cases q2:(st == 2)
   all_goals
    rw [q2] at H;go_wp2;refine Bz Bm Bm ?_;repeat (go_big_quiet_step ((go_at_call 90;exact Dy (fun u=>Cl _ _ _ u.1))))
    refine Al ?_;rintro _ ⟨⟨w2,b2⟩,rfl⟩;clear aN;go_wp2;go_ret;exact ⟨Bx H.out.symm,Bv B0 b2⟩
theorem Aaq (r:Run) (s:Sl×Sl) (t:Nat) (w:World) (hf:Cr r.plan=0) (hT:(r.tasks.length:Int)=r.plan.tasks) (ht:t<r.tasks.length) (bL:1<=r.tasks[t].state/\r.tasks[t].state<=6) (h:Cn.rd w w r s) :
  Calls An 285 #[Hx r s,J Ab (t:Int)] w fun e w'=>e = .returned (.bool (tf (Gz r t)))/\Below w w w':=by
 obtain ⟨⟨A1,n1,c1⟩,⟨A2,n2,c2⟩⟩:=s;obtain rfl:n2=r.tasks.length:=RdL.at1 (s:=⟨A2,n2,c2⟩) h.2;have h2:RdL Eu w w (Aa A2 r.tasks.length c2) r.tasks:=h.2;have h1:Rd Gd w w (Aa A1 n1 c1) r.plan.edges:=Ja h.1;have hz:=Cs.1 hf;have hl:r.tasks.length<=12:=by have:=Dx hz.1;omega
 have HQ:=Bq (show tf (Gz r t)=tf (Ls r.tasks[t] (Ge r t) r.plan.most) by unfold Gz;rw [Co ht]);have jX:(t:Int)<(r.tasks.length:Int):=Bl;have HL:=Bq (show ∀ x∈Dv (Dr r.plan) r.plan.tasks.toNat t,x<r.tasks.length from fun x hx=>by have:=Q5 hx;omega);have HN:=Bq (show (Dv (Dr r.plan) r.plan.tasks.toNat t).length<=12 by have:=Jh (Dr r.plan) r.plan.tasks.toNat t;omega);have HD:=Bq (show Ge r t=Gn r (Dv (Dr r.plan) r.plan.tasks.toNat t) from rfl);have HS:=Bq bL;have HZ:=Bq hz;clear hT hf h bL hz;obtain ⟨b,o,_,hA,aH,_,d0,d1,d2,d3⟩:=h2.task ht;subst hA;obtain ⟨W,aG,X,T,B0⟩:=bx2 w 67 [J Ab r.id,J Ab r.plan.prio,J Ab r.plan.most,J Ab r.plan.wait,J Ab r.plan.tasks,Aa A1 n1 c1,J Ab r.state,Aa (Ad ⟨b,o,Ac⟩) r.tasks.length c2] 203 [J Ab r.tasks[t].state,J Ab r.tasks[t].need,J Ab r.tasks[t].try_,J Ab r.tasks[t].until_];go_enter func285,ntmps285;go_wp2_with fail
 rw [<-aG.out];clear aG;clear d0 d1 d2 d3;refine (O3 r.plan (Aa A1 n1 c1) t _ HZ.out.1 HZ.out.2.1 HZ.out.2.2.1 ((h1.below B0).more B0.size)).mono ?_;rintro e w1 ⟨v,rfl,o1,b1⟩;generalize Dv (Dr r.plan) r.plan.tasks.toNat t=L at *
 generalize Ge r t=N at *
 obtain ⟨A3,c3,rfl,-⟩:=id (Rd.of_own o1);replace B0:=Bv B0 b1;replace X:=X.below b1;replace T:=T.below b1;have eJ:=HN.out;go_wp2;go_loopw [6,8] (fun n i wr=>∃ k:Nat,k<=L.length/\i = J Ab k/\n = J Ab (Gn r (L.take k):Nat)/\Below w1 w1 wr) (fun _ i _=>L.length - (intOf i).toNat);case atStart=>exact ⟨0,Ah _,rfl,rfl,Br _ _⟩
 case round =>
  obtain ⟨k,hk,rfl,rfl,hb⟩:=hrel;have ol:=Pv r (L.take k);rw [A0] at ol;by_cases aB:k<L.length
  ·have aC:(k:Int)<(L.length:Int):=Bl;have hx:=HL.out _ (Ax aB);obtain ⟨b3,o3,rfl,bU,e0⟩:=(Rd.of_own (o1.below hb)).nat aB;obtain ⟨b2,o2,_,he,mD,_,d0,d1,d2,d3⟩:=(h2.below (Bv B0 hb)).task hx;simp only [Option.some.injEq,Addr.mk.injEq,and_true] at he;obtain ⟨rfl,rfl⟩:=he;have bG:b<wr:=Aj aH (Bv B0 hb).size;have hxI:(L[k]:Int)<(r.tasks.length:Int):=Bl;have tN:=Bq (Co hx);replace X:=X.below hb;have X_:=X.g8;by_cases h4:r.tasks[L[k]].state=4
   ·have S:=Bq (Zi (r:=r) aB (by rw [tN.out];exact h4));have t4:(r.tasks[L[k]].state != 4)=false:=by simp [h4]
    clear h4;go_wp2;go_quiet (fail);go_wp2;exact ⟨⟨k+1,Bl,by go_num,by rw [S.out],Du hb _⟩,clM⟩
   ·have S:=Bq (Wb (r:=r) aB (by rw [tN.out];exact h4));have t4:(r.tasks[L[k]].state != 4)=true:=by simp [h4]
    clear h4;go_wp2;go_quiet (fail);go_wp2;exact ⟨⟨k+1,Bl,by go_num,by rw [S.out];go_num,Du hb _⟩,clM⟩
  ·have aC:¬ (k:Int)<(L.length:Int):=Bl;have bE:k=L.length:=Bl;subst bE;replace X:=X.below hb;replace T:=T.below hb;have X_:=X.g8;have T_:=T.g4;have HN2:=Bq (show (N:Int)=(Gn r (L.take L.length):Nat) by rw [HD.out,List.take_length]);have HSt:=HS.out;have B1:=Bv B0 hb;clear hb o1 B0;generalize r.tasks[t]=x at *
   generalize (Gn r (L.take L.length):Nat)=M at *
   generalize hM:(M:Int)=m at *
   have sV:0<=m:=Bl;have cS:m<=12:=Bl;clear hM;by_cases a2:x.need=m;case neg =>
    have a2':(x.need != m)=true:=by simp [a2]
    have H:=Bq (show tf (Gz r t)=false by rw [HQ.out];exact Cm (fun h=>a2 (by rw [h.2.1,HN2.out])));clear a2;go_wp2;go_ret;exact ⟨Bx H.out.symm,B1⟩
   have a2':(x.need != m)=false:=by simp [a2]
   cases a3:inB x.try_ 0 r.plan.most;case false =>
    have H:=Bq (show tf (Gz r t)=false by rw [HQ.out];exact Cm (fun h=>by have:=Ct.2 h.2.2.1;rw [a3] at this;cases this));clear a2;go_wp2_with (go_at_call 90;refine (Cl _ _ _ _).mono ?_;rintro e w' ⟨rfl,rfl⟩)
    go_ret;exact ⟨Bx H.out.symm,B1⟩
   have H:=Bq (show tf (Gz r t)=Py x r.plan.most by rw [HQ.out];exact Zp HSt (by rw [a2,HN2.out]) (Ct.1 a3));obtain ⟨st,nd,tr,un⟩:=x;simp only at *
   subst a2;have S:=(show st=1\/st=2\/st=3\/st=4\/st=5\/st=6 by omega)
   clear HSt;rcases S with rfl | rfl | rfl | rfl | rfl | rfl
   all_goals
    go_wp2_with (go_at_call 90;refine (Cl _ _ _ _).mono ?_;rintro e w' ⟨rfl,rfl⟩)
    all_goals
     go_ret;exact ⟨Bx (by
      rw [H.out];unfold Py;try have e1:=Ai3 ‹(un != 0)=true›
      try have e1:=Ai4 ‹(un != 0)=false›
      try have e3:=Ai5 ‹(nd == 0)=true›
      try have e3:=Ai6 ‹(nd == 0)=false›
      simp [*]),B1⟩
def stI (c1 c2 c3 c4 c5 c6 n:Int):Int:=if c4=n then 2 else if c5=1/\c1+c2+c3=0 then 3 else if c5=0/\0<c6/\c1+c2+c3=0 then 4 else if c5=0/\c6=0 then 1 else 0
theorem Afh (l:List Task):stL l=stI (Cp l 1:Nat) (Cp l 2:Nat) (Cp l 3:Nat) (Cp l 4:Nat) (Cp l 5:Nat) (Cp l 6:Nat) (l.length:Nat):=by
 unfold stL stI Km;generalize Cp l 1=a;generalize Cp l 2=b;generalize Cp l 3=c;generalize Cp l 4=d;generalize Cp l 5=e;generalize Cp l 6=f;repeat' split
 all_goals first | rfl | (exfalso;omega)
theorem Ma {l:List Task} {k:Nat} (hk:k<l.length) {s:Int} : ((Cp (l.take (k+1)) s:Nat):Int)=(Cp (l.take k) s:Nat)+(if l[k].state=s then 1 else 0):=by
 by_cases h:l[k].state=s
 ·rw [Wc hk h,if_pos h];rfl
 ·rw [Aao hk h,if_neg h];simp
theorem Qn (r:Run) (s:Sl×Sl) (w:World) (hl:r.tasks.length<=2000000) (bL:∀ x∈r.tasks,1<=x.state/\x.state<=6) (h:Cn.rd w w r s) :
  Calls An 286 #[Hx r s] w fun e w'=>e = .returned (J Ab (stL r.tasks))/\Below w w w':=by
 obtain ⟨⟨A1,n1,c1⟩,⟨A2,n2,c2⟩⟩:=s;obtain rfl:n2=r.tasks.length:=RdL.at1 (s:=⟨A2,n2,c2⟩) h.2;have h2:RdL Eu w w (Aa A2 r.tasks.length c2) r.tasks:=h.2;have HS:=Bq (Afh r.tasks);have HT:=Bq bL;clear h bL;obtain ⟨W,aG,X,E,B0⟩:=bx2 w 67 [J Ab r.id,J Ab r.plan.prio,J Ab r.plan.most,J Ab r.plan.wait,J Ab r.plan.tasks,Aa A1 n1 c1,J Ab r.state,Aa A2 r.tasks.length c2] 3 [J Ab 0,J Ab 0,J Ab 0,J Ab 0,J Ab 0,J Ab 0,J Ab 0];go_enter func286,ntmps286;go_wp2;rw [<-aG.out];clear aG;go_loopw [4] (fun i wr=>∃ k:Nat,k<=r.tasks.length/\i = J Ab k/\DBox w [J Ab r.id,J Ab r.plan.prio,J Ab r.plan.most,J Ab r.plan.wait,J Ab r.plan.tasks,Aa A1 n1 c1,J Ab r.state,Aa A2 r.tasks.length c2] wr/\DBox (w+1) [J Ab 0,J Ab (Cp (r.tasks.take k) 1:Nat),J Ab (Cp (r.tasks.take k) 2:Nat),J Ab (Cp (r.tasks.take k) 3:Nat),J Ab (Cp (r.tasks.take k) 4:Nat),J Ab (Cp (r.tasks.take k) 5:Nat),J Ab (Cp (r.tasks.take k) 6:Nat)] wr/\Below w w wr) (fun i _=>r.tasks.length - (intOf i).toNat);case atStart=>exact ⟨0,Ah _,rfl,X,E,B0⟩
 case round =>
  clear X E B0;obtain ⟨k,hk,rfl,X,E,hb⟩:=hrel;have X_:=X.g8;have E_:=E.g7;have Ef:=E.free;have L1:=Ia (r.tasks.take k) 1;have L2:=Ia (r.tasks.take k) 2;have L3:=Ia (r.tasks.take k) 3;have L4:=Ia (r.tasks.take k) 4;have L5:=Ia (r.tasks.take k) 5;have L6:=Ia (r.tasks.take k) 6;rw [A0] at L1 L2 L3 L4 L5 L6;by_cases aB:k<r.tasks.length
  ·have aC:(k:Int)<(r.tasks.length:Int):=Bl;obtain ⟨b,o,_,rfl,aH,_,d0,d1,d2,d3⟩:=(h2.below hb).task aB;have hs:=hb.size;have S1:=Bq (Ma (s:=1) aB);have S2:=Bq (Ma (s:=2) aB);have S3:=Bq (Ma (s:=3) aB);have S4:=Bq (Ma (s:=4) aB);have S5:=Bq (Ma (s:=5) aB);have S6:=Bq (Ma (s:=6) aB);have bL:=HT.out _ (Ax aB);generalize r.tasks[k].state=st at *
   have S:=(show st=1\/st=2\/st=3\/st=4\/st=5\/st=6 by omega)
   clear bL;rcases S with rfl | rfl | rfl | rfl | rfl | rfl
   ·go_wp2;have E2:=E.set 1 Bn (J Ab ((Cp (r.tasks.take k) 1:Nat)+1));refine ⟨⟨k+1,Bl,by go_num,X.setOther Bn _,?_,Ae hb Bn _⟩,clM⟩;rw [S1.out,S2.out,S3.out,S4.out,S5.out,S6.out];simpa using E2
   ·go_wp2;have E2:=E.set 2 Bn (J Ab ((Cp (r.tasks.take k) 2:Nat)+1));refine ⟨⟨k+1,Bl,by go_num,X.setOther Bn _,?_,Ae hb Bn _⟩,clM⟩;rw [S1.out,S2.out,S3.out,S4.out,S5.out,S6.out];simpa using E2
   ·go_wp2;have E2:=E.set 3 Bn (J Ab ((Cp (r.tasks.take k) 3:Nat)+1));refine ⟨⟨k+1,Bl,by go_num,X.setOther Bn _,?_,Ae hb Bn _⟩,clM⟩;rw [S1.out,S2.out,S3.out,S4.out,S5.out,S6.out];simpa using E2
   ·go_wp2;have E2:=E.set 4 Bn (J Ab ((Cp (r.tasks.take k) 4:Nat)+1));refine ⟨⟨k+1,Bl,by go_num,X.setOther Bn _,?_,Ae hb Bn _⟩,clM⟩;rw [S1.out,S2.out,S3.out,S4.out,S5.out,S6.out];simpa using E2
   ·go_wp2;have E2:=E.set 5 Bn (J Ab ((Cp (r.tasks.take k) 5:Nat)+1));refine ⟨⟨k+1,Bl,by go_num,X.setOther Bn _,?_,Ae hb Bn _⟩,clM⟩;rw [S1.out,S2.out,S3.out,S4.out,S5.out,S6.out];simpa using E2
   ·go_wp2;have E2:=E.set 6 Bn (J Ab ((Cp (r.tasks.take k) 6:Nat)+1));refine ⟨⟨k+1,Bl,by go_num,X.setOther Bn _,?_,Ae hb Bn _⟩,clM⟩;rw [S1.out,S2.out,S3.out,S4.out,S5.out,S6.out];simpa using E2
  ·have aC:¬ (k:Int)<(r.tasks.length:Int):=Bl;have bE:k=r.tasks.length:=Bl;subst bE;rw [List.take_length] at *
   generalize fX:((Cp r.tasks 1:Nat):Int)=c1' at *
   generalize tR:((Cp r.tasks 2:Nat):Int)=c2' at *
   generalize sK:((Cp r.tasks 3:Nat):Int)=c3' at *
   generalize tJ:((Cp r.tasks 4:Nat):Int)=c4' at *
   generalize rL:((Cp r.tasks 5:Nat):Int)=c5' at *
   generalize hc6:((Cp r.tasks 6:Nat):Int)=c6' at *
   have m1:0<=c1'/\c1'<=2000000:=Bl;have m2:0<=c2'/\c2'<=2000000:=Bl;have m3:0<=c3'/\c3'<=2000000:=Bl;have m4:0<=c4':=Bl;have m5:0<=c5':=Bl;have m6:0<=c6':=Bl;clear fX tR sK tJ rL hc6 L1 L2 L3 L4 L5 L6;have w1':Ab.wrap (c1'+c2')=c1'+c2':=Ar _ Bl;have w2':Ab.wrap (c1'+c2'+c3')=c1'+c2'+c3':=Ar _ Bl;have aN:=Df wr;by_cases q1:c4'=(r.tasks.length:Int)
   ·have H:=Bq (show stL r.tasks=2 by rw [HS.out];unfold stI;rw [if_pos q1]);have q1':(c4' == (r.tasks.length:Int))=true:=beq_iff_eq.2 q1;clear q1;go_wp2;go_quiet (fail);go_wp2;go_quiet (fail);go_wp2;go_ret;exact ⟨D6 H.out.symm,by first | exact Du hb _ | exact Du (Du hb _) _⟩
   have q1':(c4' == (r.tasks.length:Int))=false:=beq_eq_false_iff_ne.2 q1;by_cases q2:c1'+c2'+c3'=0;all_goals
    first
     | (have q2':(c1'+c2'+c3' == 0)=true:=beq_iff_eq.2 q2)
     | (have q2':(c1'+c2'+c3' == 0)=false:=beq_eq_false_iff_ne.2 q2)
    by_cases q3:c5'=1
    ·have q3':(c5' == 1)=true:=beq_iff_eq.2 q3;have q4':(c5' == 0)=false:=beq_eq_false_iff_ne.2 Bl;have H:=Bq (show stL r.tasks=stI c1' c2' c3' c4' c5' c6' r.tasks.length from HS.out);simp only [stI,if_neg q1,q2,q3,and_self,if_true,and_true,true_and,if_false,false_and,and_false,show ¬ ((1:Int)=0) by omega] at H;clear q1 q2 q3;go_wp2;go_quiet (fail);go_wp2;go_quiet (fail);go_wp2;go_ret;exact ⟨D6 H.out.symm,by first | exact Du hb _ | exact Du (Du hb _) _⟩
    have q3':(c5' == 1)=false:=beq_eq_false_iff_ne.2 q3;by_cases q4:c5'=0
    ·have q4':(c5' == 0)=true:=beq_iff_eq.2 q4;by_cases q5:c6'=0
     ·have q5':(c6' == 0)=true:=beq_iff_eq.2 q5;have q6':decide (0<c6')=false:=decide_eq_false Bl;have H:=Bq (show stL r.tasks=stI c1' c2' c3' c4' c5' c6' r.tasks.length from HS.out);simp only [stI,if_neg q1,q2,q3,q4,q5,and_self,if_true,and_true,true_and,if_false,false_and,and_false,show ¬ ((0:Int)=1) by omega,show ¬ ((0:Int)<0) by omega] at H;clear q1 q2 q3 q4 q5;go_wp2;go_quiet (fail);go_wp2;go_quiet (fail);go_wp2;go_ret;exact ⟨D6 H.out.symm,by first | exact Du hb _ | exact Du (Du hb _) _⟩
     ·have q5':(c6' == 0)=false:=beq_eq_false_iff_ne.2 q5;have q6:0<c6':=Bl;have q6':decide (0<c6')=true:=decide_eq_true q6;have H:=Bq (show stL r.tasks=stI c1' c2' c3' c4' c5' c6' r.tasks.length from HS.out);simp only [stI,if_neg q1,q2,q3,q4,q5,q6,and_self,if_true,and_true,true_and,if_false,false_and,and_false,show ¬ ((0:Int)=1) by omega] at H;clear q1 q2 q3 q4 q5 q6;go_wp2;go_quiet (fail);go_wp2;go_quiet (fail);go_wp2;go_ret;exact ⟨D6 H.out.symm,by first | exact Du hb _ | exact Du (Du hb _) _⟩
    ·have q4':(c5' == 0)=false:=beq_eq_false_iff_ne.2 q4;have H:=Bq (show stL r.tasks=stI c1' c2' c3' c4' c5' c6' r.tasks.length from HS.out);simp only [stI,if_neg q1,q2,q3,q4,and_self,if_true,and_true,true_and,if_false,false_and,and_false] at H;clear q1 q2 q3 q4;go_wp2;go_quiet (fail);go_wp2;go_quiet (fail);go_wp2;go_ret;exact ⟨D6 H.out.symm,by first | exact Du hb _ | exact Du (Du hb _) _⟩
end Go.Proofs.YtecnbnbopcblgaaGreat
