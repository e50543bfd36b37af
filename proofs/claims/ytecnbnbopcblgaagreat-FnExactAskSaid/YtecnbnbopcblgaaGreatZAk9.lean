/-
  Desks that are right: the program's walk and the reference's. l10Lay of the reference: tasks are laid on their run's shelf. Written by program (ke.py). DeedOk o
-/
import Derived.Test.YtecnbnbopcblgaaGreatZAk0
import Derived.Test.YtecnbnbopcblgaaGreatZAk3
import Derived.Test.YtecnbnbopcblgaaGreatZAk4
import Derived.Test.YtecnbnbopcblgaaGreatZAk5
import Derived.Test.YtecnbnbopcblgaaGreatZAk6
import Derived.Test.YtecnbnbopcblgaaGreatZAk8
import Derived.Deep.Cut
namespace Go.Proofs.YtecnbnbopcblgaaGreat
open Go.RowKit
set_option maxRecDepth 100000
set_option maxHeartbeats 4000000
set_option linter.unusedVariables false
set_option linter.unusedSimpArgs false
open Value renaming int->J,slice->Aa
open IntKind renaming i64->U
open Option renaming none->Ab,some->Ac
open Below renaming setCell->Ad,alloc->Ae
open Nat renaming zero_le->Ag,le_trans->Ah,lt_of_lt_of_le->Ai
open Go renaming bodyPost_ret->Aj,wpQuiet_nil->Ak
open Go.Proofs.Tryz renaming prog->Am
open IntWalk renaming i64_in->Aq
open List renaming length_map->Ar,mem_singleton->Au,getElem_mem->Aw,nodup_append->Ax,mem_append_right->Be,mem_append_left->Bf,take_of_length_le->Bg,mem_append->Bi
open Go.Proofs.Tryz
theorem Aib {p:Prop} (h:p:=by exact ⟨(b2.cell (p:=⟨_,_,Ab⟩) (by show w.heap.size<wr.heap.size;omega)).trans Y_1,(b2.cell (p:=⟨_,_,Ab⟩) (by show w.heap.size<wr.heap.size;omega)).trans Y_2,(b2.cell (p:=⟨_,_,Ab⟩) (by show w.heap.size+1+1<wr.heap.size;omega)).trans RB_0,(b2.cell (p:=⟨_,_,Ab⟩) (by show w.heap.size+1+1<wr.heap.size;omega)).trans RB_1,(b2.cell (p:=⟨_,_,Ab⟩) (by show g<wr;have:=hb.size;omega)).trans ck⟩):p:=h
theorem Ajo {p:Prop} (h:p:=by repeat (first | (with_reducible exact B2) | refine Ad ?_ (by first | (simp;done) | (simp;omega)) _)):p:=h
theorem Aj6 {p:Prop} (h:p:=by
 have aM:=Cw wr;go_wp2;refine Bz Bm Bm ?_;repeat (go_big_quiet_step ((go_at_call 90;exact Da (fun u=>Cd _ _ _ u.1))))
 refine Ak ?_;rintro _ ⟨⟨w3,b3⟩,rfl⟩;clear aM;go_wp2;go_ret;exact ⟨Bx H.out.symm,Bv B0 b3⟩):p:=h
theorem Akl {p:Prop} (h:p:=by
 refine Bz Bm Bm ?_;repeat (go_big_quiet_step ((go_at_call 72;exact Da (fun u=>Cm _ _ _ u.1))))
 refine Ak ?_;rintro _ ⟨⟨w3,b3⟩,rfl⟩;clear aM;go_wp2;go_ret;exact ⟨Bx H.out.symm,Bv B0 b3⟩):p:=h
theorem Alv {p:Prop} (h:p:=by go_wp2;exact ⟨⟨n+1,F,Bl,by go_num,by rw [aF.out];exact hO,by rw [aF.out];exact Y,WB,RB,RES,hb⟩,clM⟩):p:=h
theorem Aly {p:Prop} (h:p:=by rw [show (Dt.list By).enc.sz=1 from rfl,Nat.mul_one];rfl):p:=h
theorem Anp {p:Prop} (h:p:=by have aB:¬ (j:Int)<(k.memos.length:Int):=Bl;have H:=Br (Di (show Kk k from ⟨P1.out,p2,P3.out,fun i hi _=>aY.out i hi Bl⟩));exact Aja):p:=h
def Q8 (f:Int) (l:List Memo) (k:Nat):Prop:=∀ j (hj:j<l.length),j<k->(f<=l[j].id/\l[j].id<=1000000000)/\(∀ h0:0<j,l[j - 1].id<l[j].id)
def Kk (k:Desk):Prop:=Dk k.yard/\k.memos.length<=40/\(1<=k.fr/\k.fr<=1000000000)/\Q8 k.fr k.memos k.memos.length
theorem Vy {f:Int} {l:List Memo} {k:Nat} (h:Q8 f l k) (hk:k<l.length) (h1:inB l[k].id f 1000000000=true) (h2:∀ h0:0<k,l[k - 1].id<l[k].id):Q8 f l (k+1):=Ams
theorem Vz (k:Desk) (s:(Sl×Sl)×Sl) (w:World) (cL:Dd k<=2000000) (h:Cj.rd w w k s) :
  Calls Am 89 #[Ih k s] w fun e w'=>e = .returned (.bool (tf (Kk k)))/\Below w w w':=by
 have HR:=Br (show ∀ W,Below w w W->Cj.rd W W k s from fun W hW=>Cj.rd_more (Cj.rd_below h hW) hW.size);obtain ⟨⟨⟨A1,n1,c1⟩,⟨A2,n2,c2⟩⟩,⟨A3,n3,c3⟩⟩:=s;obtain rfl:n3=k.memos.length:=RdL.at1 (s:=⟨A3,n3,c3⟩) h.2;have h3:RdL Ed w w (Aa A3 k.memos.length c3) k.memos:=h.2;have hl:Ca k.yard<=2000000:=by unfold Dd at cL;omega
 have bS:k.memos.length<=2000000:=Ah (Ck Ee _) (by unfold Dd at cL;omega);clear h;have X:=DBox.new 81 [J U k.yard.now,J U k.yard.seq,Aa A1 n1 c1,Aa A2 n2 c2,Aa A3 k.memos.length c3,J U k.fr] w (b:=w) rfl;have B0:Below w w (w.alloc (.cells #[J U k.yard.now,J U k.yard.seq,Aa A1 n1 c1,Aa A2 n2 c2,Aa A3 k.memos.length c3,J U k.fr] 81)):=by repeat (first | exact Bs _ _ | refine Ae ?_ Bp _)
 have X_l:=X.lt;have C1:=Gl k.yard (⟨A1,n1,c1⟩,⟨A2,n2,c2⟩) (w.alloc (.cells #[J U k.yard.now,J U k.yard.seq,Aa A1 n1 c1,Aa A2 n2 c2,Aa A3 k.memos.length c3,J U k.fr] 81)) hl (HR.out _ B0).1;by_cases p1:Dk k.yard;case neg =>
  have H:=Br (Cg (show ¬ Kk k from fun h=>p1 h.1));rw [Cg p1] at C1;clear p1;go_enter func89,ntmps89;go_wp2_with (go_at_call 160;refine C1.mono ?_;rintro e w1 ⟨rfl,b1⟩)
  go_ret;exact ⟨Bx H.out.symm,Bv B0 b1⟩
 rw [Di p1] at C1;by_cases p2:k.memos.length<=40;case neg =>
  have H:=Br (Cg (show ¬ Kk k from fun h=>p2 h.2.1));have p2':(40:Int)<(k.memos.length:Int):=Bl;clear p1 p2;go_enter func89,ntmps89;go_wp2_with (go_at_call 160;refine C1.mono ?_;rintro e w1 ⟨rfl,b1⟩;have q1:=fun j=>(Gf b1).1 w.heap.size j X_l)
  go_ret;exact ⟨Bx H.out.symm,Bv B0 b1⟩
 have p2':¬ (40:Int)<(k.memos.length:Int):=Bl;cases p3:inB k.fr 1 1000000000;case false =>
  have H:=Br (Cg (show ¬ Kk k from fun h=>by have:=Ct.2 h.2.2.1;rw [p3] at this;cases this));clear p1;go_enter func89,ntmps89;go_wp2_with (first | (go_at_call 160;refine C1.mono ?_;rintro e w1 ⟨rfl,b1⟩;have q1:=fun j=>(Gf b1).1 w.heap.size j X_l) | (go_at_call 90;refine (Cd _ _ _ _).mono ?_;rintro e w' ⟨rfl,rfl⟩))
  go_ret;exact ⟨Bx H.out.symm,Bv B0 b1⟩
 have P1:=Br p1;clear p1;go_enter func89,ntmps89;go_wp2_with (first | (go_at_call 160;refine C1.mono ?_;rintro e w1 ⟨rfl,b1⟩;have q1:=fun j=>(Gf b1).1 w.heap.size j X_l) | (go_at_call 90;refine (Cd _ _ _ _).mono ?_;rintro e w' ⟨rfl,rfl⟩))
 have P3:=Br (Ct.1 p3);clear q1 p2' p3 X_l C1;replace X:=X.below b1;replace B0:=Bv B0 b1;go_loopw [3] (fun i wr=>∃ j:Nat,j<=k.memos.length/\i = J U j/\Hid (Q8 k.fr k.memos j)/\Below w1 w1 wr) (fun i _=>k.memos.length - (intOf i).toNat);case atStart=>exact ⟨0,Ag _,rfl,fun j _ h0=>absurd h0 Bl,Bs _ _⟩
 case round =>
  obtain ⟨j,hj,rfl,aY,hb⟩:=hrel;replace X:=X.below hb;replace B0:=Bv B0 hb;obtain ⟨X_0,X_1,X_2,X_3,X_4,X_5,X_l⟩:=X.g6;by_cases aA:j<k.memos.length
  ·have aB:(j:Int)<(k.memos.length:Int):=Bl;obtain ⟨b,o,_,gX,aJ,_,d0,d1,d2,d3,d4⟩:=(h3.below B0).memo aA;subst gX;have bE:b<wr:=Ai aJ B0.size;have bad:(inB k.memos[j].id k.fr 1000000000=false \/ ∃ h0:0<j,k.memos[j].id<=k.memos[j - 1].id)->Hid (tf (Kk k)=false):=fun hh=>Cg (fun h=>by
    have h1:=h.2.2.2 j aA aA;rcases hh with hh | ⟨h0,hh⟩
    ·have:=Ct.2 h1.1
     rw [hh] at this;cases this
    ·have:=h1.2 h0
     omega)
   have step:=Br (Vy aY.out aA);cases q1:inB k.memos[j].id k.fr 1000000000
   ·have H:=bad (.inl q1);clear bad;exact Aj6
   ·by_cases bX:j=0
    ·subst bX;have S:=Br (step.out q1 (fun h0=>absurd h0 Bl));clear bad;simp only [Nat.zero_mul,Nat.add_zero] at d0 d1 d2 d3 d4;have aM:=Cw wr;go_wp2;refine Bz Bm Bm ?_;repeat (go_big_quiet_step ((go_at_call 90;exact Da (fun u=>Cd _ _ _ u.1))))
     refine Ak ?_;rintro _ ⟨⟨w3,b3⟩,rfl⟩;clear aM;go_wp2;first
      | exact ⟨⟨0+1,Bl,by go_num,S,Bv hb b3⟩,clM⟩
      | (refine ⟨?_,clM⟩;(repeat apply Exists.intro);refine ⟨?_,clR⟩;exact ⟨0+1,Bl,by go_num,S,Bv hb b3⟩)
    ·obtain ⟨b',o',_,bU,bF,_,f0,f1,f2,f3,f4⟩:=(h3.below B0).memo (k:=j - 1) Bl;simp only [Option.some.injEq,Addr.mk.injEq,and_true] at bU;obtain ⟨rfl,rfl⟩:=bU;have hkp:0<j:=Bl;have gJ:(0:Int)<(j:Int):=Bl;by_cases q2:k.memos[j].id<=k.memos[j - 1].id
     ·have H:=bad (.inr ⟨hkp,q2⟩);have q2':decide (k.memos[j].id<=k.memos[j - 1].id)=true:=decide_eq_true q2;clear bad q2;exact Aj6
     ·have S:=Br (step.out q1 (fun _=>Bl));have q2':decide (k.memos[j].id<=k.memos[j - 1].id)=false:=decide_eq_false q2;clear bad q2;have aM:=Cw wr;go_wp2;refine Bz Bm Bm ?_;repeat (go_big_quiet_step ((go_at_call 90;exact Da (fun u=>Cd _ _ _ u.1))))
      refine Ak ?_;rintro _ ⟨⟨w3,b3⟩,rfl⟩;clear aM;go_wp2;first
       | exact ⟨⟨j+1,Bl,by go_num,S,Bv hb b3⟩,clM⟩
       | (refine ⟨?_,clM⟩;(repeat apply Exists.intro);refine ⟨?_,clR⟩;exact ⟨j+1,Bl,by go_num,S,Bv hb b3⟩)
  ·exact Anp
theorem V0 (k:Desk) (s:(Sl×Sl)×Sl) (w:World) (cL:Dd k<=2000000) (h:Cj.rd w w k s) :
  Calls Am 34 #[Ih k s] w fun e w'=>e = .returned (.bool (tf (Kk k)))/\Below w w w':=by
 have HR:=Br (show ∀ W,Below w w W->Cj.rd W W k s from fun W hW=>Cj.rd_more (Cj.rd_below h hW) hW.size);obtain ⟨⟨⟨A1,n1,c1⟩,⟨A2,n2,c2⟩⟩,⟨A3,n3,c3⟩⟩:=s;obtain rfl:n3=k.memos.length:=RdL.at1 (s:=⟨A3,n3,c3⟩) h.2;have h3:RdL Ed w w (Aa A3 k.memos.length c3) k.memos:=h.2;have hl:Ca k.yard<=2000000:=by unfold Dd at cL;omega
 have bS:k.memos.length<=2000000:=Ah (Ck Ee _) (by unfold Dd at cL;omega);clear h;have X:=DBox.new 81 [J U k.yard.now,J U k.yard.seq,Aa A1 n1 c1,Aa A2 n2 c2,Aa A3 k.memos.length c3,J U k.fr] w (b:=w) rfl;have B0:Below w w (w.alloc (.cells #[J U k.yard.now,J U k.yard.seq,Aa A1 n1 c1,Aa A2 n2 c2,Aa A3 k.memos.length c3,J U k.fr] 81)):=by repeat (first | exact Bs _ _ | refine Ae ?_ Bp _)
 have X_l:=X.lt;have C1:=Gk k.yard (⟨A1,n1,c1⟩,⟨A2,n2,c2⟩) (w.alloc (.cells #[J U k.yard.now,J U k.yard.seq,Aa A1 n1 c1,Aa A2 n2 c2,Aa A3 k.memos.length c3,J U k.fr] 81)) hl (HR.out _ B0).1;by_cases p1:Dk k.yard;case neg =>
  have H:=Br (Cg (show ¬ Kk k from fun h=>p1 h.1));rw [Cg p1] at C1;clear p1;go_enter func34,ntmps34;go_wp2_with (go_at_call 71;refine C1.mono ?_;rintro e w1 ⟨rfl,b1⟩)
  go_ret;exact ⟨Bx H.out.symm,Bv B0 b1⟩
 rw [Di p1] at C1;by_cases p2:k.memos.length<=40;case neg =>
  have H:=Br (Cg (show ¬ Kk k from fun h=>p2 h.2.1));have p2':(40:Int)<(k.memos.length:Int):=Bl;clear p1 p2;go_enter func34,ntmps34;go_wp2_with (go_at_call 71;refine C1.mono ?_;rintro e w1 ⟨rfl,b1⟩;have q1:=fun j=>(Gf b1).1 w.heap.size j X_l)
  go_ret;exact ⟨Bx H.out.symm,Bv B0 b1⟩
 have p2':¬ (40:Int)<(k.memos.length:Int):=Bl;cases p3:inB k.fr 1 1000000000;case false =>
  have H:=Br (Cg (show ¬ Kk k from fun h=>by have:=Ct.2 h.2.2.1;rw [p3] at this;cases this));clear p1;go_enter func34,ntmps34;go_wp2_with (first | (go_at_call 71;refine C1.mono ?_;rintro e w1 ⟨rfl,b1⟩;have q1:=fun j=>(Gf b1).1 w.heap.size j X_l) | (go_at_call 72;refine (Cm _ _ _ _).mono ?_;rintro e w' ⟨rfl,rfl⟩))
  go_ret;exact ⟨Bx H.out.symm,Bv B0 b1⟩
 have P1:=Br p1;clear p1;go_enter func34,ntmps34;go_wp2_with (first | (go_at_call 71;refine C1.mono ?_;rintro e w1 ⟨rfl,b1⟩;have q1:=fun j=>(Gf b1).1 w.heap.size j X_l) | (go_at_call 72;refine (Cm _ _ _ _).mono ?_;rintro e w' ⟨rfl,rfl⟩))
 have P3:=Br (Ct.1 p3);clear q1 p2' p3 X_l C1;replace X:=X.below b1;replace B0:=Bv B0 b1;go_loopw [24] (fun i wr=>∃ j:Nat,j<=k.memos.length/\i = J U j/\Hid (Q8 k.fr k.memos j)/\Below w1 w1 wr) (fun i _=>k.memos.length - (intOf i).toNat);case atStart=>exact ⟨0,Ag _,rfl,fun j _ h0=>absurd h0 Bl,Bs _ _⟩
 case round =>
  obtain ⟨j,hj,rfl,aY,hb⟩:=hrel;replace X:=X.below hb;replace B0:=Bv B0 hb;obtain ⟨X_0,X_1,X_2,X_3,X_4,X_5,X_l⟩:=X.g6;by_cases aA:j<k.memos.length
  ·have aB:(j:Int)<(k.memos.length:Int):=Bl;obtain ⟨b,o,_,gX,aJ,_,d0,d1,d2,d3,d4⟩:=(h3.below B0).memo aA;subst gX;have bE:b<wr:=Ai aJ B0.size;have bad:(inB k.memos[j].id k.fr 1000000000=false \/ ∃ h0:0<j,k.memos[j].id<=k.memos[j - 1].id)->Hid (tf (Kk k)=false):=fun hh=>Cg (fun h=>by
    have h1:=h.2.2.2 j aA aA;rcases hh with hh | ⟨h0,hh⟩
    ·have:=Ct.2 h1.1
     rw [hh] at this;cases this
    ·have:=h1.2 h0
     omega)
   have step:=Br (Vy aY.out aA);cases q1:inB k.memos[j].id k.fr 1000000000
   ·have H:=bad (.inl q1);clear bad;have ha:=(Bs wr wr).alloc (Bt _) (.cells #[J U k.memos[j].id,J U k.memos[j].reply.code,J U k.memos[j].reply.run,J U k.memos[j].reply.task,J U k.memos[j].reply.try_] 154);have T:=DBox.new 154 [J U k.memos[j].id,J U k.memos[j].reply.code,J U k.memos[j].reply.run,J U k.memos[j].reply.task,J U k.memos[j].reply.try_] wr rfl;go_wp2;generalize wr.alloc (.cells #[J U k.memos[j].id,J U k.memos[j].reply.code,J U k.memos[j].reply.run,J U k.memos[j].reply.task,J U k.memos[j].reply.try_] 154)=W2 at *
    have X2:=X.below ha;have X2_:=X2.g6;have T_:=T.g5;have d0':W2.cell? ⟨b,o+j * 5,Ab⟩=Ac (J U k.memos[j].id):=(ha.cell (p:=⟨b,o+j * 5,Ab⟩) bE).trans d0;have eB:b<W2:=Ai bE ha.size;have aM:=Cw W2;refine Bz Bm Bm ?_;repeat (go_big_quiet_step ((go_at_call 72;exact Da (fun u=>Cm _ _ _ u.1))))
    refine Ak ?_;rintro _ ⟨⟨w3,b3⟩,rfl⟩;clear aM;go_wp2;go_ret;exact ⟨Bx H.out.symm,Bv (Bv B0 ha) b3⟩
   ·by_cases bX:j=0
    ·subst bX;have S:=Br (step.out q1 (fun h0=>absurd h0 Bl));clear bad;simp only [Nat.zero_mul,Nat.add_zero] at d0 d1 d2 d3 d4;have ha:=(Bs wr wr).alloc (Bt _) (.cells #[J U k.memos[0].id,J U k.memos[0].reply.code,J U k.memos[0].reply.run,J U k.memos[0].reply.task,J U k.memos[0].reply.try_] 154);have T:=DBox.new 154 [J U k.memos[0].id,J U k.memos[0].reply.code,J U k.memos[0].reply.run,J U k.memos[0].reply.task,J U k.memos[0].reply.try_] wr rfl;go_wp2;generalize wr.alloc (.cells #[J U k.memos[0].id,J U k.memos[0].reply.code,J U k.memos[0].reply.run,J U k.memos[0].reply.task,J U k.memos[0].reply.try_] 154)=W2 at *
     have X2:=X.below ha;have X2_:=X2.g6;have T_:=T.g5;have d0':W2.cell? ⟨b,o,Ab⟩=Ac (J U k.memos[0].id):=(ha.cell (p:=⟨b,o,Ab⟩) bE).trans d0;have eB:b<W2:=Ai bE ha.size;have aM:=Cw W2;refine Bz Bm Bm ?_;repeat (go_big_quiet_step ((go_at_call 72;exact Da (fun u=>Cm _ _ _ u.1))))
     refine Ak ?_;rintro _ ⟨⟨w3,b3⟩,rfl⟩;clear aM;go_wp2;first
      | exact ⟨⟨0+1,Bl,by go_num,S,Bv (Bv hb ha) b3⟩,clM⟩
      | (refine ⟨?_,clM⟩;(repeat apply Exists.intro);refine ⟨?_,clR⟩;exact ⟨0+1,Bl,by go_num,S,Bv (Bv hb ha) b3⟩)
    ·obtain ⟨b',o',_,bU,bF,_,f0,f1,f2,f3,f4⟩:=(h3.below B0).memo (k:=j - 1) Bl;simp only [Option.some.injEq,Addr.mk.injEq,and_true] at bU;obtain ⟨rfl,rfl⟩:=bU;have hkp:0<j:=Bl;have gJ:(0:Int)<(j:Int):=Bl;by_cases q2:k.memos[j].id<=k.memos[j - 1].id
     ·have H:=bad (.inr ⟨hkp,q2⟩);have q2':decide (k.memos[j].id<=k.memos[j - 1].id)=true:=decide_eq_true q2;clear bad q2;have ha:=(Bs wr wr).alloc (Bt _) (.cells #[J U k.memos[j].id,J U k.memos[j].reply.code,J U k.memos[j].reply.run,J U k.memos[j].reply.task,J U k.memos[j].reply.try_] 154);have T:=DBox.new 154 [J U k.memos[j].id,J U k.memos[j].reply.code,J U k.memos[j].reply.run,J U k.memos[j].reply.task,J U k.memos[j].reply.try_] wr rfl;go_wp2;generalize wr.alloc (.cells #[J U k.memos[j].id,J U k.memos[j].reply.code,J U k.memos[j].reply.run,J U k.memos[j].reply.task,J U k.memos[j].reply.try_] 154)=W2 at *
      have X2:=X.below ha;have X2_:=X2.g6;have T_:=T.g5;have d0':W2.cell? ⟨b,o+j * 5,Ab⟩=Ac (J U k.memos[j].id):=(ha.cell (p:=⟨b,o+j * 5,Ab⟩) bE).trans d0;have eB:b<W2:=Ai bE ha.size;have f0':W2.cell? ⟨b,o+(j - 1) * 5,Ab⟩=Ac (J U k.memos[j - 1].id):=(ha.cell (p:=⟨b,o+(j - 1) * 5,Ab⟩) bE).trans f0;have aM:=Cw W2;refine Bz Bm Bm ?_;repeat (go_big_quiet_step ((go_at_call 72;exact Da (fun u=>Cm _ _ _ u.1))))
      refine Ak ?_;rintro _ ⟨⟨w3,b3⟩,rfl⟩;clear aM;go_wp2;go_ret;exact ⟨Bx H.out.symm,Bv (Bv B0 ha) b3⟩
     ·have S:=Br (step.out q1 (fun _=>Bl));have q2':decide (k.memos[j].id<=k.memos[j - 1].id)=false:=decide_eq_false q2;clear bad q2;have ha:=(Bs wr wr).alloc (Bt _) (.cells #[J U k.memos[j].id,J U k.memos[j].reply.code,J U k.memos[j].reply.run,J U k.memos[j].reply.task,J U k.memos[j].reply.try_] 154);have T:=DBox.new 154 [J U k.memos[j].id,J U k.memos[j].reply.code,J U k.memos[j].reply.run,J U k.memos[j].reply.task,J U k.memos[j].reply.try_] wr rfl;go_wp2;generalize wr.alloc (.cells #[J U k.memos[j].id,J U k.memos[j].reply.code,J U k.memos[j].reply.run,J U k.memos[j].reply.task,J U k.memos[j].reply.try_] 154)=W2 at *
      have X2:=X.below ha;have X2_:=X2.g6;have T_:=T.g5;have d0':W2.cell? ⟨b,o+j * 5,Ab⟩=Ac (J U k.memos[j].id):=(ha.cell (p:=⟨b,o+j * 5,Ab⟩) bE).trans d0;have eB:b<W2:=Ai bE ha.size;have f0':W2.cell? ⟨b,o+(j - 1) * 5,Ab⟩=Ac (J U k.memos[j - 1].id):=(ha.cell (p:=⟨b,o+(j - 1) * 5,Ab⟩) bE).trans f0;have aM:=Cw W2;refine Bz Bm Bm ?_;repeat (go_big_quiet_step ((go_at_call 72;exact Da (fun u=>Cm _ _ _ u.1))))
      refine Ak ?_;rintro _ ⟨⟨w3,b3⟩,rfl⟩;clear aM;go_wp2;first
       | exact ⟨⟨j+1,Bl,by go_num,S,Bv (Bv hb ha) b3⟩,clM⟩
       | (refine ⟨?_,clM⟩;(repeat apply Exists.intro);refine ⟨?_,clR⟩;exact ⟨j+1,Bl,by go_num,S,Bv (Bv hb ha) b3⟩)
  ·exact Anp
def Ir (y:Yard) (was r:Run) (n:Nat):Yard:=(Oe was r n).foldl (fun y t=>Mb y r t) y
theorem Ab7 {y:Yard} {was r:Run} {n:Nat} (h1:(Cv r n).state=2) (h2:¬ (Cv was n).state=2):Ir y was r (n+1)=Mb (Ir y was r n) r n:=by
 unfold Ir;rw [Vu,if_pos ⟨h1,h2⟩,List.foldl_append];rfl
theorem Aev {y:Yard} {was r:Run} {n:Nat} (h:¬ ((Cv r n).state=2 /\ ¬ (Cv was n).state=2)):Ir y was r (n+1)=Ir y was r n:=by
 unfold Ir;rw [Vu,if_neg h,List.append_nil]
theorem Af2 (was r:Run) (n:Nat):(Oe was r n).length<=n:=by
 unfold Oe;exact Ank
theorem N0 (r:Run) (M:Nat):∀ (l:List Nat) (y:Yard),(∀ s∈y.shelf,s.length<=M) -> ∀ s∈(l.foldl (fun y t=>Mb y r t) y).shelf,s.length<=M+l.length
 | [],y,h=>fun s hs=>by simpa using h s hs
 | t :: l,y,h=>fun s hs=>by
  have h1:∀ s∈(Mb y r t).shelf,s.length<=M+1:=by
   intro s hs;unfold Mb at hs;rcases List.mem_or_eq_of_mem_set hs with h2 | h2
   ·exact Nat.le_succ_of_le (h s h2)
   ·subst h2;rw [Abt,List.getD_eq_getElem?_getD];cases q:y.shelf[C7 r.id]? with
    | none=>simp
    | some z=>have:=h z (List.mem_of_getElem? q);simp;omega
  have:=N0 r (M+1) l (Mb y r t) h1 s hs
  rw [List.length_cons];omega
structure LayF (y:Yard) (r:Run) (M n:Nat) (z:Yard):Prop where
 now:z.now=y.now
 runs:z.runs=y.runs
 len:z.shelf.length=y.shelf.length
 seq:y.seq<=z.seq/\z.seq<=y.seq+n
 all:∀ s∈z.shelf,s.length<=M+n
theorem Qo {y:Yard} {was r:Run} {M:Nat} (hM:∀ s∈y.shelf,s.length<=M) (n:Nat):LayF y r M n (Ir y was r n):=by
 obtain ⟨h1,h2,h3,h4⟩:=Q5 r (Oe was r n) y;have h5:=Af2 was r n;exact ⟨h1,h2,h3,by unfold Ir;rw [h4];omega,fun s hs=>Ah (N0 r M (Oe was r n) y hM s hs) Bl⟩
theorem Chg.high {F:List Nat} {a b:World} (h:Chg F a b) {g:Nat} (hg:a<=g) (o:Nat) (u:Value):Chg F a (b.setCell ⟨g,o,Ab⟩ u) :=
 ⟨h.os,h.tape,h.output,by simp [World.setCell];exact h.size,fun i hi hn=>(Below.heap_setCell b ⟨g,o,Ab⟩ u i (by show i≠g;omega)).trans (h.block i hi hn)⟩
theorem Chg.drew {F:List Nat} {a b:World} (h:Chg F a b):Chg F a b.drew:=⟨h.os,h.tape,h.output,h.size,h.block⟩
def Ahh (z:Yard) (g o cs n:Nat) (R:Sl) (Fs:List Nat) (w:World) (e:Ending) (w':World):Prop :=
 ∃ F',e = .returned (Ds z (⟨Ac ⟨g,o,Ab⟩,n,cs⟩,R))/\OwL (Dt.list By) w' F' (Aa (Ac ⟨g,o,Ab⟩) n cs) z.shelf/\(∀ x∈F',x∈Fs\/w<=x)/\Chg [g] w w'
theorem OwL.free0 {α:Type} {d:Dt α} {w:World} {F:List Nat} {b o n c:Nat} {l:List α} (h:OwL d w F (Aa (Ac ⟨b,o,Ab⟩) n c) l) (hp:0<l.length):∀ j,w.frozen? ⟨b,j,Ab⟩=false:=by
 obtain ⟨rs,H,G,hm,hh,ho,rfl,hn⟩:=h;have kV:0<rs.length:=by rw [<-hm,Ar] at hp;exact hp
 obtain ⟨b',o',hA,rfl,mX,hf⟩:=hh.at_ kV;simp only [Option.some.injEq,Addr.mk.injEq,and_true] at hA;obtain ⟨rfl,rfl⟩:=hA;exact hf
theorem Ahi {b:Nat} {w:World} {u0 u1 u2 u3:Value} (X:DBox b [u0,u1,u2,u3] w) {v0 v1 v2 v3 v4 v5:Value} {rest:List Value} :
  (results Tryz.f240 (v0 :: v1 :: v2 :: v3 :: v4 :: v5 :: .pointer (Ac ⟨b,0,Ab⟩) :: rest).toArray).run Am w = .ok (.agg #[u0,u1,u2,u3]) w:=by
 have c0:=X.cell 0 _ rfl;have c1:=X.cell 1 _ rfl;have c2:=X.cell 2 _ rfl;have c3:=X.cell 3 _ rfl;simp [results,results240,go_sem,c0,c1,c2,c3]
theorem S0 (y:Yard) (g o cs:Nat) (R:Sl) (was:Run) (sw:Sl×Sl) (r:Run) (sr:Sl×Sl) (w:World) (Fs:List Nat) (h4:y.shelf.length=4) (hM:∀ s∈y.shelf,s.length<=1000000) (hq:0<=y.seq/\y.seq<=2000000000) (hT:r.tasks.length<=1000) (rV:was.tasks.length<=1000)
  (hs:OwL (Dt.list By) w Fs (Aa (Ac ⟨g,o,Ab⟩) y.shelf.length cs) y.shelf)
  (HR:Hid (∀ W,Chg [g] w W->RdL C8 W W (Aa sr.2.a sr.2.n sr.2.c) r.tasks)) (HW:Hid (∀ W,Chg [g] w W->RdL C8 W W (Aa sw.2.a sw.2.n sw.2.c) was.tasks)) :
  Calls Am 240 #[Ds y (⟨Ac ⟨g,o,Ab⟩,y.shelf.length,cs⟩,R),G7 was sw,G7 r sr] w (Ahh (Ny y was r) g o cs y.shelf.length R Fs w):=by
 have eY:g<w:=by
  obtain ⟨b,o',s,hA,hb,_⟩:=hs.rd.entryS (k:=0) (by omega);simp only [Option.some.injEq,Addr.mk.injEq,and_true] at hA;omega
 have jU:=Br hs.lt;have uH:C7 r.id<y.shelf.length:=by rw [h4];exact Vs _
 obtain ⟨⟨ea,en,ec⟩,⟨ta,tn,tc⟩⟩:=sr;obtain ⟨⟨ea',en',ec'⟩,⟨ta',tn',tc'⟩⟩:=sw;have uE:tn=r.tasks.length:=RdL.at1 (s:=⟨ta,tn,tc⟩) (HR.out w (Chg.refl _ _));have htn':tn'=was.tasks.length:=RdL.at1 (s:=⟨ta',tn',tc'⟩) (HW.out w (Chg.refl _ _));subst uE htn';replace h4:=Br h4;have Y:=(((DBox.new 31 [J U y.now,J U y.seq,Aa (Ac ⟨g,o,Ab⟩) y.shelf.length cs,Aa R.a R.n R.c] w (b:=w) rfl).below ((Bs _ _).alloc (Bt _) (.cells #[J U was.id,J U was.plan.prio,J U was.plan.most,J U was.plan.wait,J U was.plan.tasks,Aa ea' en' ec',J U was.state,Aa ta' was.tasks.length tc'] 67))).below ((Bs _ _).alloc (Bt _) (.cells #[J U r.id,J U r.plan.prio,J U r.plan.most,J U r.plan.wait,J U r.plan.tasks,Aa ea en ec,J U r.state,Aa ta r.tasks.length tc] 67))).below ((Bs _ _).alloc (Bt _) (.cells #[J U 0,J U 0,Aa Ab 0 0,Aa Ab 0 0] 31));have WB:=((DBox.new 67 [J U was.id,J U was.plan.prio,J U was.plan.most,J U was.plan.wait,J U was.plan.tasks,Aa ea' en' ec',J U was.state,Aa ta' was.tasks.length tc'] (w.alloc (.cells #[J U y.now,J U y.seq,Aa (Ac ⟨g,o,Ab⟩) y.shelf.length cs,Aa R.a R.n R.c] 31)) (b:=w+1) Bo).below ((Bs _ _).alloc (Bt _) (.cells #[J U r.id,J U r.plan.prio,J U r.plan.most,J U r.plan.wait,J U r.plan.tasks,Aa ea en ec,J U r.state,Aa ta r.tasks.length tc] 67))).below ((Bs _ _).alloc (Bt _) (.cells #[J U 0,J U 0,Aa Ab 0 0,Aa Ab 0 0] 31));have RB:=(DBox.new 67 [J U r.id,J U r.plan.prio,J U r.plan.most,J U r.plan.wait,J U r.plan.tasks,Aa ea en ec,J U r.state,Aa ta r.tasks.length tc] ((w.alloc (.cells #[J U y.now,J U y.seq,Aa (Ac ⟨g,o,Ab⟩) y.shelf.length cs,Aa R.a R.n R.c] 31)).alloc (.cells #[J U was.id,J U was.plan.prio,J U was.plan.most,J U was.plan.wait,J U was.plan.tasks,Aa ea' en' ec',J U was.state,Aa ta' was.tasks.length tc'] 67)) (b:=w+1+1) Bo).below ((Bs _ _).alloc (Bt _) (.cells #[J U 0,J U 0,Aa Ab 0 0,Aa Ab 0 0] 31));have RES:=DBox.new 31 [J U 0,J U 0,Aa Ab 0 0,Aa Ab 0 0] (((w.alloc (.cells #[J U y.now,J U y.seq,Aa (Ac ⟨g,o,Ab⟩) y.shelf.length cs,Aa R.a R.n R.c] 31)).alloc (.cells #[J U was.id,J U was.plan.prio,J U was.plan.most,J U was.plan.wait,J U was.plan.tasks,Aa ea' en' ec',J U was.state,Aa ta' was.tasks.length tc'] 67)).alloc (.cells #[J U r.id,J U r.plan.prio,J U r.plan.most,J U r.plan.wait,J U r.plan.tasks,Aa ea en ec,J U r.state,Aa ta r.tasks.length tc] 67)) (b:=w+1+1+1) Bo;have B0:Below w w ((((w.alloc (.cells #[J U y.now,J U y.seq,Aa (Ac ⟨g,o,Ab⟩) y.shelf.length cs,Aa R.a R.n R.c] 31)).alloc (.cells #[J U was.id,J U was.plan.prio,J U was.plan.most,J U was.plan.wait,J U was.plan.tasks,Aa ea' en' ec',J U was.state,Aa ta' was.tasks.length tc'] 67)).alloc (.cells #[J U r.id,J U r.plan.prio,J U r.plan.most,J U r.plan.wait,J U r.plan.tasks,Aa ea en ec,J U r.state,Aa ta r.tasks.length tc] 67)).alloc (.cells #[J U 0,J U 0,Aa Ab 0 0,Aa Ab 0 0] 31)):=by repeat (first | exact Bs _ _ | refine Ae ?_ Bp _)
 go_enter func240,ntmps240;go_wp2_with (go_at_call 290;refine (Tt r.id _).mono ?_;rintro e w1 ⟨rfl,b1⟩)
 replace Y:=Y.below b1;replace WB:=WB.below b1;replace RB:=RB.below b1;replace RES:=RES.below b1;replace B0:=Bv B0 b1;clear b1;generalize Ds y (⟨Ac ⟨g,o,Ab⟩,y.shelf.length,cs⟩,R)=yv;generalize G7 was (⟨ea',en',ec'⟩,⟨ta',was.tasks.length,tc'⟩)=wv;generalize G7 r (⟨ea,en,ec⟩,⟨ta,r.tasks.length,tc⟩)=rv;have C0:=Chg.of_below [g] B0;have uW:=hs.below B0;go_loopw [8] (fun i wr=>∃ (n:Nat) (F:List Nat),n<=r.tasks.length/\i = J U n/\Hid (OwL (Dt.list By) wr F (Aa (Ac ⟨g,o,Ab⟩) y.shelf.length cs) (Ir y was r n).shelf/\(∀ x∈F,x∈Fs\/w+4<=x))/\DBox w [J U y.now,J U (Ir y was r n).seq,Aa (Ac ⟨g,o,Ab⟩) y.shelf.length cs,Aa R.a R.n R.c] wr/\DBox (w+1) [J U was.id,J U was.plan.prio,J U was.plan.most,J U was.plan.wait,J U was.plan.tasks,Aa ea' en' ec',J U was.state,Aa ta' was.tasks.length tc'] wr/\DBox (w+1+1) [J U r.id,J U r.plan.prio,J U r.plan.most,J U r.plan.wait,J U r.plan.tasks,Aa ea en ec,J U r.state,Aa ta r.tasks.length tc] wr/\DBox (w+1+1+1) [J U 0,J U 0,Aa Ab 0 0,Aa Ab 0 0] wr/\Chg [g] w wr) (fun i _=>r.tasks.length - (intOf i).toNat);case atStart=>exact ⟨0,Fs,Ag _,rfl,⟨uW,fun x hx=>.inl hx⟩,Y,WB,RB,RES,C0⟩
 case round =>
  clear Y WB RB RES C0 uW B0;obtain ⟨n,F,hn,rfl,hO,Y,WB,RB,RES,hb⟩:=hrel;have hf:=Qo (was:=was) (r:=r) hM n;obtain ⟨Y_0,Y_1,Y_2,Y_3,Y_l⟩:=Y.g4;have WB_:=WB.g8;obtain ⟨RB_0,RB_1,RB_2,RB_3,RB_4,RB_5,RB_6,RB_7,RB_l⟩:=RB.g8;obtain ⟨RES_0,RES_1,RES_2,RES_3,RES_l⟩:=RES.g4;by_cases aA:n<r.tasks.length;case neg =>
   have aB:¬ (n:Int)<(r.tasks.length:Int):=Bl;obtain rfl:n=r.tasks.length:=Bl;have HE:Hid (Ir y was r r.tasks.length=Ny y was r):=rfl;have rf:=RES.free;go_wp2;have R4:=DBox.row4 RES rfl (J U y.now) (J U (Ir y was r r.tasks.length).seq) (Aa (Ac ⟨g,o,Ab⟩) y.shelf.length cs) (Aa R.a R.n R.c);refine Aj (Ahi R4) rfl ⟨F,?_,?_,?_,?_⟩
   ·rw [<-HE.out,<-hf.now]
   ·rw [<-HE.out];have mV:w.heap.size+1+1+1∉F:=fun hx=>by rcases hO.out.2 _ hx with h | h;(have:=jU.out _ h;omega);omega
    exact (((hO.out.1.set (a:=⟨_,_,Ab⟩) mV _).set (a:=⟨_,_,Ab⟩) mV _).set (a:=⟨_,_,Ab⟩) mV _).set (a:=⟨_,_,Ab⟩) mV _
   ·exact fun x hx=>(hO.out.2 x hx).imp id (fun h=>Bl)
   ·exact (((hb.high Bl _ _).high Bl _ _).high Bl _ _).high Bl _ _
  have aB:(n:Int)<(r.tasks.length:Int):=Bl;have vT:(0:Int)<=(n:Int):=Bl;obtain ⟨b1,o1,_,rfl,aJ,_,c0,-,-,-⟩:=(HR.out wr hb).task aA;have ht:=Br (Cu aA);by_cases q1:r.tasks[n].state=2;case neg =>
   have q2:(r.tasks[n].state != 2)=true:=by simp [q1]
   have aF:=Br (Aev (y:=y) (was:=was) (r:=r) (n:=n) (fun h=>by rw [ht.out] at h;exact q1 h.1));clear q1;exact Alv
  have q2:(r.tasks[n].state != 2)=false:=by simp [q1]
  have tX:=Br (show (Cv r n).state=2 by rw [ht.out];exact q1);clear q1;by_cases rI:n<was.tasks.length
  ·have hlwI:(n:Int)<(was.tasks.length:Int):=Bl;obtain ⟨b2,o2,_,rfl,mE,_,d0,-,-,-⟩:=(HW.out wr hb).task rI;have vP:=Br (Cu rI);by_cases q3:was.tasks[n].state=2
   ·have q4:(was.tasks[n].state == 2)=true:=by simp [q3]
    have aF:=Br (Aev (y:=y) (was:=was) (r:=r) (n:=n) (fun h=>by rw [vP.out] at h;exact h.2 q3));clear q3;exact Alv
   ·have q4:(was.tasks[n].state == 2)=false:=by simp [q3]
    have aF:=Br (Ab7 (y:=y) tX.out (show ¬ (Cv was n).state=2 by rw [vP.out];exact q3));clear q3;have jS:C7 r.id<(Ir y was r n).shelf.length:=by rw [hf.len];exact uH
    obtain ⟨b9,o9,sk,dD,hbb9,dI,ck⟩:=hO.out.1.rd.entryS jS;simp only [Option.some.injEq,Addr.mk.injEq,and_true] at dD;obtain ⟨rfl,rfl⟩:=dD;have gJ:((C7 r.id:Nat):Int)<(y.shelf.length:Int):=Bl;have cE:(0:Int)<=((C7 r.id:Nat):Int):=Bl;have rK:(Ir y was r n).shelf[C7 r.id].length<=2000000:=by have:=hf.all _ (Aw jS);omega
    have dF:=Br (show (Ir y was r n).shelf.getD (C7 r.id) []=(Ir y was r n).shelf[C7 r.id] by rw [List.getD_eq_getElem?_getD,List.getElem?_eq_getElem jS];rfl);have gI:=hO.out.1.free0 Bl;have CP:=Br (Ku (Ir y was r n).shelf[C7 r.id] sk ⟨r.plan.prio,(Ir y was r n).seq,r.id,n⟩ wr.drew rK (dI.below (Bs _ _).drew));go_wp2;refine Dh (fun w'=>w'.cell? ⟨w,1,Ab⟩=Ac (J U (Ir y was r n).seq)/\w'.cell? ⟨w,2,Ab⟩=Ac (Aa (Ac ⟨g,o,Ab⟩) y.shelf.length cs)/\w'.cell? ⟨w+1+1,0,Ab⟩=Ac (J U r.id)/\w'.cell? ⟨w+1+1,1,Ab⟩=Ac (J U r.plan.prio)/\w'.cell? ⟨g,o+C7 r.id,Ab⟩=Ac (Aa sk.a sk.n sk.c)) 19 Bm ?_ (fun hHeld=>?_)
    ·exact ⟨Y_1,Y_2,RB_0,RB_1,ck⟩
    refine aT 0 hHeld ?_;try simp only [pS]
    refine aT 1 hHeld ?_;try simp only [pS]
    refine aT 2 hHeld ?_;try simp only [pS]
    refine aT 3 hHeld ?_;try simp only [pS]
    refine aT 4 hHeld ?_;try simp only [pS]
    refine aT 5 hHeld ?_;try simp only [pS]
    refine aT 6 hHeld ?_;try simp only [pS]
    refine aT 7 hHeld ?_;try simp only [pS]
    refine aT 8 hHeld ?_;try simp only [pS]
    refine aT 9 hHeld ?_;try simp only [pS]
    refine aT 10 hHeld ?_;try simp only [pS]
    refine aT 11 hHeld ?_;try simp only [pS]
    refine aT 12 hHeld ?_;try simp only [pS]
    refine aT 13 hHeld ?_;try simp only [pS]
    refine aT 14 hHeld ?_;try simp only [pS]
    refine aT 15 hHeld ?_;try simp only [pS]
    refine aT 16 hHeld ?_;try simp only [pS]
    refine oT 17 (fun K hK=>?_)
    (go_simp;refine CP.out.mono ?_;rintro e w2 ⟨t2,F2,rfl,o2,n2,b2⟩;have hgs:w2.cell? ⟨g,o+C7 r.id,Ab⟩=Ac (Aa sk.a sk.n sk.c):=(b2.cell (p:=⟨_,_,Ab⟩) (by show g<wr;have:=hb.size;omega)).trans ck;have qJ:w2.frozen? ⟨g,o+C7 r.id,Ab⟩=false:=(b2.frozen (p:=⟨_,_,Ab⟩) (by show g<wr;have:=hb.size;omega)).trans (gI _))
    refine hK.out _ _ (fun _=>?_) ?_
    ·exact Aib
    clear hK K;try simp only [pS]
    refine oT 18 (fun K hK=>?_);go_simp;refine hK.out _ _ (fun _=>?_) ?_
    ·exact Aib
    clear hK K;try simp only [pS]
    refine oT 19 (fun K hK=>?_);go_simp;refine hK.out _ _ (fun aC=>absurd rfl aC) ?_;clear hK K;try simp only [pS]
    refine Eh Bm ?_ _;have b2':Below wr wr w2:=Bv (Bs _ _).drew b2;obtain ⟨F',p1,p2,p3,p4⟩:=OwL.swap (hO.out.1.below b2') jS (y:=Jk (Ir y was r n).shelf[C7 r.id] ⟨r.plan.prio,(Ir y was r n).seq,r.id,n⟩) (s:=t2) (Fy:=F2) o2 (fun x hx bI=>by have h1:=n2 x hx;have h2:=hO.out.1.lt x bI;have h3:wr.drew.heap.size=wr.heap.size:=rfl;omega);have fK:Ie w2 g (o+C7 r.id * (Dt.list By).enc.sz) ((Dt.list By).enc.cells (Jk (Ir y was r n).shelf[C7 r.id] ⟨r.plan.prio,(Ir y was r n).seq,r.id,n⟩,t2))=w2.setCell ⟨g,o+C7 r.id,Ab⟩ (Aa t2.a t2.n t2.c):=Aly
    rw [fK] at p1;have B3:Chg [g] w (w2.setCell ⟨g,o+C7 r.id,Ab⟩ (Aa t2.a t2.n t2.c)):=(hb.trans (Chg.of_below [g] b2')).trans (Chg.setCell w2 g _ _);have bL:=RES_l;clear Y_0 Y_1 Y_2 Y_3 Y_l;clear WB_;clear RB_0 RB_1 RB_2 RB_3 RB_4 RB_5 RB_6 RB_7 RB_l;clear RES_0 RES_1 RES_2 RES_3 RES_l;replace Y:=(Y.below b2').setOther (a:=⟨g,o+C7 r.id,Ab⟩) (by show w.heap.size≠g;omega) (Aa t2.a t2.n t2.c);replace WB:=(WB.below b2').setOther (a:=⟨g,o+C7 r.id,Ab⟩) (by show w.heap.size+1≠g;omega) (Aa t2.a t2.n t2.c);replace RB:=(RB.below b2').setOther (a:=⟨g,o+C7 r.id,Ab⟩) (by show w.heap.size+1+1≠g;omega) (Aa t2.a t2.n t2.c);replace RES:=(RES.below b2').setOther (a:=⟨g,o+C7 r.id,Ab⟩) (by show w.heap.size+1+1+1≠g;omega) (Aa t2.a t2.n t2.c);generalize w2.setCell ⟨g,o+C7 r.id,Ab⟩ (Aa t2.a t2.n t2.c)=w3 at *
    have kC:=hf.seq;have y1:=Y.cell 1 _ rfl;have yf:=Y.free;have yl:=Y.lt;have vI:w.heap.size∉F':=fun hx=>by rcases p2 _ hx with h | h;(rcases hO.out.2 _ h with h | h;(have:=jU.out _ h;omega);omega);(have:=n2 _ h;have h3:wr.drew.heap.size=wr.heap.size:=rfl;omega)
    clear hHeld;go_wp2;exact ⟨⟨n+1,F',Bl,by go_num,⟨by rw [aF.out];unfold Mb;rw [dF.out];exact p1.set (a:=⟨w,1,Ab⟩) vI _,fun x hx=>by rcases p2 x hx with h | h;exact hO.out.2 x h;right;have:=n2 _ h;have h3:wr.drew.heap.size=wr.heap.size:=rfl;omega⟩,by rw [aF.out];exact Y.set 1 Bo _,WB.setOther (by show w.heap.size+1≠w.heap.size;omega) _,RB.setOther (by show w.heap.size+1+1≠w.heap.size;omega) _,RES.setOther (by show w.heap.size+1+1+1≠w.heap.size;omega) _,B3.high (Bt _) _ _⟩,clM⟩
  ·have hlwI:¬ (n:Int)<(was.tasks.length:Int):=Bl;have aF:=Br (Ab7 (y:=y) tX.out (show ¬ (Cv was n).state=2 by unfold Cv;rw [List.getD_eq_getElem?_getD,List.getElem?_eq_none Bl];simp));have jS:C7 r.id<(Ir y was r n).shelf.length:=by rw [hf.len];exact uH
   obtain ⟨b9,o9,sk,dD,hbb9,dI,ck⟩:=hO.out.1.rd.entryS jS;simp only [Option.some.injEq,Addr.mk.injEq,and_true] at dD;obtain ⟨rfl,rfl⟩:=dD;have gJ:((C7 r.id:Nat):Int)<(y.shelf.length:Int):=Bl;have cE:(0:Int)<=((C7 r.id:Nat):Int):=Bl;have rK:(Ir y was r n).shelf[C7 r.id].length<=2000000:=by have:=hf.all _ (Aw jS);omega
   have dF:=Br (show (Ir y was r n).shelf.getD (C7 r.id) []=(Ir y was r n).shelf[C7 r.id] by rw [List.getD_eq_getElem?_getD,List.getElem?_eq_getElem jS];rfl);have gI:=hO.out.1.free0 Bl;have CP:=Br (Ku (Ir y was r n).shelf[C7 r.id] sk ⟨r.plan.prio,(Ir y was r n).seq,r.id,n⟩ wr.drew rK (dI.below (Bs _ _).drew));go_wp2;refine Dh (fun w'=>w'.cell? ⟨w,1,Ab⟩=Ac (J U (Ir y was r n).seq)/\w'.cell? ⟨w,2,Ab⟩=Ac (Aa (Ac ⟨g,o,Ab⟩) y.shelf.length cs)/\w'.cell? ⟨w+1+1,0,Ab⟩=Ac (J U r.id)/\w'.cell? ⟨w+1+1,1,Ab⟩=Ac (J U r.plan.prio)/\w'.cell? ⟨g,o+C7 r.id,Ab⟩=Ac (Aa sk.a sk.n sk.c)) 19 Bm ?_ (fun hHeld=>?_)
   ·exact ⟨Y_1,Y_2,RB_0,RB_1,ck⟩
   refine aT 0 hHeld ?_;try simp only [pS]
   refine aT 1 hHeld ?_;try simp only [pS]
   refine aT 2 hHeld ?_;try simp only [pS]
   refine aT 3 hHeld ?_;try simp only [pS]
   refine aT 4 hHeld ?_;try simp only [pS]
   refine aT 5 hHeld ?_;try simp only [pS]
   refine aT 6 hHeld ?_;try simp only [pS]
   refine aT 7 hHeld ?_;try simp only [pS]
   refine aT 8 hHeld ?_;try simp only [pS]
   refine aT 9 hHeld ?_;try simp only [pS]
   refine aT 10 hHeld ?_;try simp only [pS]
   refine aT 11 hHeld ?_;try simp only [pS]
   refine aT 12 hHeld ?_;try simp only [pS]
   refine aT 13 hHeld ?_;try simp only [pS]
   refine aT 14 hHeld ?_;try simp only [pS]
   refine aT 15 hHeld ?_;try simp only [pS]
   refine aT 16 hHeld ?_;try simp only [pS]
   refine oT 17 (fun K hK=>?_)
   (go_simp;refine CP.out.mono ?_;rintro e w2 ⟨t2,F2,rfl,o2,n2,b2⟩;have hgs:w2.cell? ⟨g,o+C7 r.id,Ab⟩=Ac (Aa sk.a sk.n sk.c):=(b2.cell (p:=⟨_,_,Ab⟩) (by show g<wr;have:=hb.size;omega)).trans ck;have qJ:w2.frozen? ⟨g,o+C7 r.id,Ab⟩=false:=(b2.frozen (p:=⟨_,_,Ab⟩) (by show g<wr;have:=hb.size;omega)).trans (gI _))
   refine hK.out _ _ (fun _=>?_) ?_
   ·exact Aib
   clear hK K;try simp only [pS]
   refine oT 18 (fun K hK=>?_);go_simp;refine hK.out _ _ (fun _=>?_) ?_
   ·exact Aib
   clear hK K;try simp only [pS]
   refine oT 19 (fun K hK=>?_);go_simp;refine hK.out _ _ (fun aC=>absurd rfl aC) ?_;clear hK K;try simp only [pS]
   refine Eh Bm ?_ _;have b2':Below wr wr w2:=Bv (Bs _ _).drew b2;obtain ⟨F',p1,p2,p3,p4⟩:=OwL.swap (hO.out.1.below b2') jS (y:=Jk (Ir y was r n).shelf[C7 r.id] ⟨r.plan.prio,(Ir y was r n).seq,r.id,n⟩) (s:=t2) (Fy:=F2) o2 (fun x hx bI=>by have h1:=n2 x hx;have h2:=hO.out.1.lt x bI;have h3:wr.drew.heap.size=wr.heap.size:=rfl;omega);have fK:Ie w2 g (o+C7 r.id * (Dt.list By).enc.sz) ((Dt.list By).enc.cells (Jk (Ir y was r n).shelf[C7 r.id] ⟨r.plan.prio,(Ir y was r n).seq,r.id,n⟩,t2))=w2.setCell ⟨g,o+C7 r.id,Ab⟩ (Aa t2.a t2.n t2.c):=Aly
   rw [fK] at p1;have B3:Chg [g] w (w2.setCell ⟨g,o+C7 r.id,Ab⟩ (Aa t2.a t2.n t2.c)):=(hb.trans (Chg.of_below [g] b2')).trans (Chg.setCell w2 g _ _);have bL:=RES_l;clear Y_0 Y_1 Y_2 Y_3 Y_l;clear WB_;clear RB_0 RB_1 RB_2 RB_3 RB_4 RB_5 RB_6 RB_7 RB_l;clear RES_0 RES_1 RES_2 RES_3 RES_l;replace Y:=(Y.below b2').setOther (a:=⟨g,o+C7 r.id,Ab⟩) (by show w.heap.size≠g;omega) (Aa t2.a t2.n t2.c);replace WB:=(WB.below b2').setOther (a:=⟨g,o+C7 r.id,Ab⟩) (by show w.heap.size+1≠g;omega) (Aa t2.a t2.n t2.c);replace RB:=(RB.below b2').setOther (a:=⟨g,o+C7 r.id,Ab⟩) (by show w.heap.size+1+1≠g;omega) (Aa t2.a t2.n t2.c);replace RES:=(RES.below b2').setOther (a:=⟨g,o+C7 r.id,Ab⟩) (by show w.heap.size+1+1+1≠g;omega) (Aa t2.a t2.n t2.c);generalize w2.setCell ⟨g,o+C7 r.id,Ab⟩ (Aa t2.a t2.n t2.c)=w3 at *
   have kC:=hf.seq;have y1:=Y.cell 1 _ rfl;have yf:=Y.free;have yl:=Y.lt;have vI:w.heap.size∉F':=fun hx=>by rcases p2 _ hx with h | h;(rcases hO.out.2 _ h with h | h;(have:=jU.out _ h;omega);omega);(have:=n2 _ h;have h3:wr.drew.heap.size=wr.heap.size:=rfl;omega)
   clear hHeld;go_wp2;exact ⟨⟨n+1,F',Bl,by go_num,⟨by rw [aF.out];unfold Mb;rw [dF.out];exact p1.set (a:=⟨w,1,Ab⟩) vI _,fun x hx=>by rcases p2 x hx with h | h;exact hO.out.2 x h;right;have:=n2 _ h;have h3:wr.drew.heap.size=wr.heap.size:=rfl;omega⟩,by rw [aF.out];exact Y.set 1 Bo _,WB.setOther (by show w.heap.size+1≠w.heap.size;omega) _,RB.setOther (by show w.heap.size+1+1≠w.heap.size;omega) _,RES.setOther (by show w.heap.size+1+1+1≠w.heap.size;omega) _,B3.high (Bt _) _ _⟩,clM⟩
def V1 (d:Deed) (s:Sl):Sl:=if d.kind=1 then s else ⟨Ab,0,0⟩
theorem Zt (d:Deed) (s:Sl) (w:World) :
  Calls Am 128 #[Dc d s] w fun e w'=>e = .returned (Dc (Gz d) (V1 d s))/\Below w w w':=by
 by_cases k1:d.kind=1
 ·exact Afu d s w k1
 by_cases k2:d.kind=2
 ·exact Afv d s w k2
 by_cases k3:d.kind=3
 ·exact Afw d s w k3
 by_cases k4:d.kind=4
 ·exact Afx d s w k4
 by_cases k6:d.kind=6
 ·exact Afy d s w k6
 by_cases k7:d.kind=7
 ·exact Afz d s w k7
 exact Af0 d s w (beq_eq_false_iff_ne.2 k1) (beq_eq_false_iff_ne.2 k2) (beq_eq_false_iff_ne.2 k3) (beq_eq_false_iff_ne.2 k4) (beq_eq_false_iff_ne.2 k6) (beq_eq_false_iff_ne.2 k7)
theorem Zu (p:Plan):Fn p=decide (p=Kj):=by
 obtain ⟨a,b,c,d,l⟩:=p;rw [Bool.eq_iff_iff];simp [Fn,Kj,and_assoc]
theorem Zv (l:List Edge):(H8 l).all Fk=l.all (fun e=>Fk e.fr && Fk e.to):=by
 induction l with
 | nil=>rfl
 | cons a l ih=>rw [show H8 (a :: l)=[a.fr,a.to] ++ H8 l from rfl,List.all_append,ih];simp [Bool.and_assoc]
theorem Ah5 (d:Deed) (h0:inB d.kind 1 8=true) (hl:d.plan.edges.length<=31):Dg d=(decide (d=Gz d) && (E7 d).all Fk):=by
 obtain ⟨kd,rn,p,tk,ty,wk,dr⟩:=d;replace h0:inB kd 1 8=true:=h0;replace hl:p.edges.length<=31:=hl;have hn:Fk (p.edges.length:Int)=true:=by simp [Fk,inB];omega
 have:kd=1\/kd=2\/kd=3\/kd=4\/kd=5\/kd=6\/kd=7\/kd=8:=by
  simp [inB] at h0;omega
 rcases this with rfl | rfl | rfl | rfl | rfl | rfl | rfl | rfl<;>(rw [Bool.eq_iff_iff];simp [Dg,Gz,E7,Zu,Ff,Zv,hn,hl,h0];try (constructor<;>intro h<;>simp_all))
theorem Ah6 (d:Deed) (hl:¬ d.plan.edges.length<=31):Dg d=false:=by
 have h1:Ff d.plan=false:=by simp [Ff,hl]
 have h2:Fn d.plan=false:=by
  have:(d.plan.edges.length == 0)=false:=beq_eq_false_iff_ne.2 Bl;simp [Fn,this]
 simp [Dg,h1,h2]
theorem Ahj {d:Deed} {s:Sl} {w:World} {B:Nat} (h:Cq.rd w B d s):Cq.rd w B (Gz d) (V1 d s):=by
 have h0:Ce.rd w B d.plan s:=h;show Ce.rd w B (Gz d).plan (V1 d s);unfold Gz V1;split
 ·exact h0
 ·have e:∀ q:Plan,q.edges=[]->Ce.rd w B q ⟨Ab,0,0⟩:=fun q hq=>by
   show RdL Ep w B (Aa Ab 0 0) q.edges;rw [hq];exact ⟨[],rfl,⟨Ab,0,rfl,Bt _,fun h=>absurd h Bo⟩,Bo⟩
  split
  ·exact e _ rfl
  split
  ·exact e _ rfl
  split<;>exact e _ rfl
theorem Tv (d du:Deed) (A:Option Addr) (c:Nat) (su:Sl) (nd:List Int) (D:Bool) (w:World) (LN:nd.length<=6+2 * d.plan.edges.length)
  (CS:Hid (∀ W,Below w w W->Calls Am 127 #[Dc d ⟨A,d.plan.edges.length,c⟩,Dc du su] W fun e w'=>e = .returned (.bool (decide (d=du)))/\Below W W w'))
  (CU:Hid (∀ W,Calls Am 128 #[Dc d ⟨A,d.plan.edges.length,c⟩] W fun e w'=>e = .returned (Dc du su)/\Below W W w'))
  (CN:Hid (∀ W,d.plan.edges.length<=31->Below w w W->Calls Am 125 #[Dc d ⟨A,d.plan.edges.length,c⟩] W fun e w'=>∃ v,e = .returned v/\Ow Iz 3 w' W v nd/\Below W W w'))
  (L0:Hid (inB d.kind 1 8=false->D=false)) (L1:Hid (¬ d.plan.edges.length<=31->D=false)) (L2:Hid (inB d.kind 1 8=true->d.plan.edges.length<=31->D=(decide (d=du) && nd.all Fk))) :
  Calls Am 67 #[Dc d ⟨A,d.plan.edges.length,c⟩] w fun e w'=>e = .returned (.bool D)/\Below w w w':=by
 obtain ⟨W,aH,X,B0⟩:=bx1 w 45 [J U d.kind,J U d.run,J U d.plan.prio,J U d.plan.most,J U d.plan.wait,J U d.plan.tasks,Aa A d.plan.edges.length c,J U d.task,J U d.try_,J U d.worker,J U d.draw];go_enter func67,ntmps67;go_wp2;rw [<-aH.out];clear aH;have X_:=X.g11;have aM:=Cw W;cases a0:inB d.kind 1 8;case false =>
  have H:=Br (L0.out a0);clear L0 L1 L2 CS CU CN;exact Akl
 by_cases hl:d.plan.edges.length<=31;case neg =>
  have H:=Br (L1.out hl);have hlI:(31:Int)<(d.plan.edges.length:Int):=Bl;clear L0 L1 L2 CS CU CN hl;exact Akl
 have HD:=Br (L2.out a0 hl);have LN:=Br (show nd.length<=68 by omega);have CN:=Br (fun W hW=>CN.out W hl hW);have hlI:¬ (31:Int)<(d.plan.edges.length:Int):=Bl;clear L0 L1 L2;cases a1:decide (d=du);case false =>
  have H:=Br (show D=false by rw [HD.out,a1,Bool.false_and]);rw [a1] at CS;clear CN HD;refine Bz Bm Bm ?_;repeat (go_big_quiet_step ((first
   | (go_at_call 72;exact Da (fun u=>Cm _ _ _ u.1))
   | (go_at_call 128;rename_i x;have h1:=CU.out x.1;exact Fu h1)
   | (go_at_call 127;rename_i x;have h1:=CS.out x.1 (Bv B0 x.2);exact Fu h1))))
  refine Ak ?_;rintro _ ⟨⟨w3,b3⟩,rfl⟩;clear aM;go_wp2;go_ret;exact ⟨Bx H.out.symm,Bv B0 b3⟩
 have HD:=Br (show D=nd.all Fk by rw [HD.out,a1,Bool.true_and]);rw [a1] at CS;refine Bz Bm Bm ?_;repeat (go_big_quiet_step ((first
  | (go_at_call 72;exact Da (fun u=>Cm _ _ _ u.1))
  | (go_at_call 128;rename_i x;have h1:=CU.out x.1;exact Fu h1)
  | (go_at_call 127;rename_i x;have h1:=CS.out x.1 (Bv B0 x.2);exact Fu h1))))
 refine Ak ?_;rintro _ ⟨⟨w3,b3⟩,rfl⟩;clear aM CS CU a0 a1 hlI hl;replace B0:=Bv B0 b3;replace X:=X.below b3;clear X_;have X_:=X.g11;clear b3;go_wp2_with (go_at_call 125;refine (CN.out _ B0).mono ?_;rintro e w4 ⟨v,rfl,o4,b4⟩;obtain ⟨A9,c9,rfl,-⟩:=id (Rd.of_own o4))
 clear X_;clear X CN;replace B0:=Bv B0 b4;have h5:=Br (Rd.of_own o4);clear o4 b4;go_loopw [26] (fun i wr=>∃ k:Nat,k<=nd.length/\i = J U k/\Hid ((nd.take k).all Fk=true)/\Below w4 w4 wr) (fun i _=>nd.length - (intOf i).toNat);case atStart=>exact ⟨0,Ag _,rfl,rfl,Bs _ _⟩
 case round =>
  obtain ⟨k,hk,rfl,hA,hb⟩:=hrel;have LN:=LN.out;by_cases aA:k<nd.length
  ·have aB:(k:Int)<(nd.length:Int):=Bl;obtain ⟨b,o,rfl,aJ,d0⟩:=(h5.out.below hb).int aA;cases q0:inB nd[k] 0 1000000000
   ·have H:=Br (show D=false by rw [HD.out];exact Agt aA q0);go_wp2_with (go_at_call 72;refine (Cm _ _ _ _).mono ?_;rintro e w5 ⟨rfl,rfl⟩)
    go_ret;exact ⟨Bx H.out.symm,Bv B0 hb⟩
   ·have S:=Br (show (nd.take (k+1)).all Fk=true by rw [List.take_succ_eq_append_getElem aA,List.all_append,hA.out];simp [Fk,q0]);go_wp2_with (go_at_call 72;refine (Cm _ _ _ _).mono ?_;rintro e w5 ⟨rfl,rfl⟩)
    exact ⟨⟨k+1,Bl,by go_num,S,hb⟩,clM⟩
  ·have aB:¬ (k:Int)<(nd.length:Int):=Bl;have H:=Br (show D=true by rw [HD.out,<-hA.out,Bg Bl]);exact Alh
theorem Ov (d:Deed) (s:Sl) (w:World) (hc:E8 d<=2000000) (h:Cq.rd w w d s) :
  Calls Am 67 #[Dc d s] w fun e w'=>e = .returned (.bool (Dg d))/\Below w w w':=by
 have hcu:E8 (Gz d)<=2000000:=by
  have:E8 (Gz d)<=E8 d:=by
   unfold E8 Ec Gz;split
   ·exact Bt _
   split
   ·exact Ag _
   split
   ·exact Ag _
   split<;>exact Ag _
  omega
 have HR:Hid (∀ W,Below w w W->Cq.rd W W d s):=fun W hW=>Cq.rd_more (Cq.rd_below h hW) hW.size;have HU:Hid (∀ W,Below w w W->Cq.rd W W (Gz d) (V1 d s)):=fun W hW=>Ahj (HR.out W hW);have CS:=Br (fun W hW=>Zh d (Gz d) s (V1 d s) W hc hcu (HR.out W hW) (HU.out W hW));have CU:=Br (Zt d s);have CN:=Br (fun W (hl:d.plan.edges.length<=31) hW=>Ts d s W Bl (HR.out W hW));have L1:=Br (Ah6 d);have L2:=Br (Ah5 d);have L0:Hid (inB d.kind 1 8=false->Dg d=false):=fun a0=>by simp [Dg,a0]
 have h1:s.n=d.plan.edges.length:=by
  have h0:Ce.rd w w d.plan s:=h;exact RdL.at1 h0
 obtain ⟨A,n,c⟩:=s;replace h1:n=d.plan.edges.length:=h1;subst h1;exact Tv d (Gz d) A c (V1 d ⟨A,d.plan.edges.length,c⟩) (E7 d) (Dg d) w (Xi d) CS CU CN L0 L1 L2
theorem Aew {w:World} {B:Nat} {v:Value} {l:List Entry} (h:Rd Cz w B v l):RdL By w B v l:=by
 obtain ⟨A,c,rfl,hc,hA⟩:=h;refine ⟨l.map fun x=>(x,()),by rw [List.map_map];exact List.map_id _,⟨A,c,by rw [Ar],by rw [Ar];exact hc,fun hl=>?_⟩,fun _ _=>trivial⟩;exact Aic
theorem Yg {b:Nat} {w:World} {u0 u1 u2 u3:Value} (X:DBox b [u0,u1,u2,u3] w) {v0 v1 v3 v4:Value} {rest:List Value} :
  (results Tryz.f208 (v0 :: v1 :: .pointer (Ac ⟨b,0,Ab⟩) :: v3 :: v4 :: rest).toArray).run Am w = .ok (.tuple #[.agg #[u0,u1,u2,u3],v3,v4]) w:=by
 obtain ⟨c0,c1,c2,c3,-⟩:=X.g4;simp [results,results208,go_sem,c0,c1,c2,c3]
theorem Q9 (l:List Entry) (s:Sl) (w:World) (hl:l.length<=2000000) (h:RdL By w w s.v l) :
  Calls Am 208 #[Aa s.a s.n s.c] w (Ab5 l w):=by
 obtain ⟨A,n,c⟩:=s;obtain rfl:n=l.length:=RdL.at1 (s:=⟨A,n,c⟩) h;have R:=DBox.new 71 [J U 0,J U 0,J U 0,J U 0] w (b:=w) rfl;have B0:Below w w (w.alloc (.cells #[J U 0,J U 0,J U 0,J U 0] 71)):=by repeat (first | exact Bs _ _ | refine Ae ?_ Bp _)
 cases l with
 | nil =>
  go_enter func208,ntmps208;go_wp2;refine Aj (Yg R) rfl ⟨⟨Ab,0,0⟩,[],rfl,⟨[],[],[],rfl,Hw.nil _ _ _ _,.nil,rfl,List.nodup_nil⟩,fun _ h=>(by cases h),?_⟩;repeat (first | (with_reducible exact B0) | refine Ad ?_ Bp _)
 | cons e tl =>
  have h1:((((e :: tl).length:Nat):Int) == 0)=false:=by rw [beq_eq_false_iff_ne];simp;omega
  have HC:=Br (fun W (hW:Below w w W) (s':Sl) (hs':RdL By w w s'.v tl)=>Jj tl s' W (by simp at hl;omega) ((hs'.below hW).more hW.size));obtain ⟨b,o,_,rfl,aJ,_,c0,c1,c2,c3⟩:=h.entry (k:=0) (by simp);simp only [Nat.zero_mul,Nat.add_zero,List.getElem_cons_zero] at c0 c1 c2 c3;have cI:(e :: tl).length<=c:=(Jw h).cap;have hd0:=(Jw h).fromL 1 Bo;generalize hL:(e :: tl).length=L at *
  have tT:0<L:=by rw [<-hL];simp
  have hLI:(0:Int)<(L:Int):=Bl;have hLI1:(1:Int)<=(L:Int):=Bl;have hLN:0<L:=Bl;have HS:=Br (show ∀ W,Below w w W->(fun w'=>w'.cell? ⟨b,o,Ab⟩=Ac (J U e.prio)/\w'.cell? ⟨b,o+1,Ab⟩=Ac (J U e.seq)/\w'.cell? ⟨b,o+2,Ab⟩=Ac (J U e.run)/\w'.cell? ⟨b,o+3,Ab⟩=Ac (J U e.task)) W from fun W hW=>⟨(hW.cell (p:=⟨b,o,Ab⟩) aJ).trans c0,(hW.cell (p:=⟨b,o+1,Ab⟩) aJ).trans c1,(hW.cell (p:=⟨b,o+2,Ab⟩) aJ).trans c2,(hW.cell (p:=⟨b,o+3,Ab⟩) aJ).trans c3⟩);have hdB:=Br (show RdL By w w.heap.size (Sl.v ⟨Ac ⟨b,o+4,Ab⟩,L - 1,c - 1⟩) tl from Aew hd0);have hdA:=Br (show c=1->RdL By w w (Sl.v ⟨Ac ⟨b,o,Ab⟩,0,0⟩) tl from fun h=>by
   have:tl=[]:=List.eq_nil_of_length_eq_zero (by simp at hL;omega);subst this;exact ⟨[],rfl,⟨_,0,rfl,Ag _,fun h=>absurd h Bo⟩,fun _ h=>by cases h⟩)
  clear hd0 c0 c1 c2 c3 hL;have rX:c=1\/(¬ c=1/\(1:Int)<=(c:Int)/\1<c):=Bl;go_enter func208,ntmps208;go_upto_region 3 with fail
  generalize (w.alloc (.cells #[J U 0,J U 0,J U 0,J U 0] 71))=W at *
  rcases rX with rfl | ⟨rX,rY,qB⟩
  have HX:=Br (fun W hW=>HC.out W hW ⟨Ac ⟨b,o,Ab⟩,0,0⟩ (hdA.out rfl));rotate_left;have HX:=Br (fun W hW=>HC.out W hW ⟨Ac ⟨b,o+4,Ab⟩,L - 1,c - 1⟩ hdB.out);all_goals
   have bV:=B0.size;have hbW:b<W:=Bl;refine Go.wp_region_noPanic ?_;refine wp_region_held_drew (S:=(fun w'=>w'.cell? ⟨b,o,Ab⟩=Ac (J U e.prio)/\w'.cell? ⟨b,o+1,Ab⟩=Ac (J U e.seq)/\w'.cell? ⟨b,o+2,Ab⟩=Ac (J U e.run)/\w'.cell? ⟨b,o+3,Ab⟩=Ac (J U e.task))) Bm (HS.out _ B0.drew) (fun hHeld=>?_);replace R:=DBox.drew4 R;have B1:=B0.drew;generalize W.drew=w1 at *
   have hRl1:=R.lt;refine tY 0 ?_
   (try simp only [pS])
   refine tY 1 ?_
   (try simp only [pS])
   refine tV 2 ?_
   (try simp only [pS])
   refine tY 3 ?_
   (try simp only [pS])
   refine tY 4 ?_
   (try simp only [pS])
   refine rC 5 (fun K_ hK=>?_);go_simp;refine (HX.out w1 B1).mono ?_;rintro e2 w3 ⟨s3,F3,rfl,o3,n3,b3⟩;dsimp only [slV];have B3:=Bv B1 b3;replace R:=R.below b3;have hwl:=R.lt;have vV:=B1.size;refine hK.out _ _ (HS.out _ B3) (fun hHeld=>?_);clear hK K_
   (try simp only [pS])
   obtain ⟨r0,r1,r2,r3,-⟩:=R.g4;have rf:=R.free;refine rC 6 (fun K_ hK=>?_);go_simp;have R4:=DBox.row4 R rfl (J U e.prio) (J U e.seq) (J U e.run) (J U e.task);have B4:Below w w ((((w3.setCell ⟨w,0,Ab⟩ (J U e.prio)).setCell ⟨w,1,Ab⟩ (J U e.seq)).setCell ⟨w,2,Ab⟩ (J U e.run)).setCell ⟨w,3,Ab⟩ (J U e.task)):=Ajq
   have dB:w.heap.size∉F3:=fun hx=>by have:=n3 _ hx;omega
   have o4:OwL By ((((w3.setCell ⟨w,0,Ab⟩ (J U e.prio)).setCell ⟨w,1,Ab⟩ (J U e.seq)).setCell ⟨w,2,Ab⟩ (J U e.run)).setCell ⟨w,3,Ab⟩ (J U e.task)) F3 s3.v tl:=(((o3.set (a:=⟨_,_,Ab⟩) dB _).set (a:=⟨_,_,Ab⟩) dB _).set (a:=⟨_,_,Ab⟩) dB _).set (a:=⟨_,_,Ab⟩) dB _;generalize ((((w3.setCell ⟨w,0,Ab⟩ (J U e.prio)).setCell ⟨w,1,Ab⟩ (J U e.seq)).setCell ⟨w,2,Ab⟩ (J U e.run)).setCell ⟨w,3,Ab⟩ (J U e.task))=w4 at *
   clear r0 r1 r2 r3 rf R;refine hK.out _ _ (HS.out _ B4) (fun hHeld=>?_);clear hK K_
   (try simp only [pS])
   refine rC 7 (fun K_ hK=>?_);go_simp;refine hK.out _ _ hHeld (fun hHeld=>?_);clear hK K_
   (try simp only [pS])
   refine rC 8 (fun K_ hK=>?_);go_simp;refine hK.out _ _ hHeld (fun hHeld=>?_);clear hK K_
   (try simp only [pS])
   refine wpAnyH_done Bm ?_ _;refine NoPanic.normal ?_;clear hHeld;go_wp2;exact Aj (Yg R4) rfl ⟨s3,F3,rfl,o4,fun x hx=>by have:=n3 x hx;omega,B4⟩
theorem Zw (l:List Entry) (s:Sl) (w:World) (hl:l.length<=2000000) (h:RdL By w w s.v l) :
  Calls Am 206 #[Aa s.a s.n s.c] w (Vw l w):=by
 obtain ⟨A,n,c⟩:=s;obtain rfl:n=l.length:=RdL.at1 (s:=⟨A,n,c⟩) h;have hd:=Ab6 l.length;rw [show (l.length+1) / 2=Df l from rfl] at hd;have mA:=Abv l;have vV:U.wrap ((l.length:Int)+1)=(l.length:Int)+1:=Aq _ Bl;have sJ:U.wrap (Df l:Int)=(Df l:Int):=Aq _ Bl;have cI:l.length<=c:=(Jw h).cap;have nZ:Df l<=c:=Bl;have hkcI:(Df l:Int)<=(c:Int):=Bl;have hklI:(Df l:Int)<=(l.length:Int):=Bl;have hk0I:(0:Int)<=(Df l:Int):=Bl;have HC:=Br (fun W (hW:Below w w W) (k:List Entry) (hk:k.length<=2000000) (s':Sl) (hs':Rd Cz w w s'.v k)=>Md k s' W hk ((Aew hs').below hW |>.more hW.size));have a0:=Br ((Jw h).take mA c nZ);have a1:=Br ((Jw h).dropM (Df l) mA);have a2:=Br (show Df l=c->Rd Cz w w (Aa A 0 0) (l.drop (Df l)) from fun hh=>by
  rw [List.drop_eq_nil_of_le Bl];exact ⟨A,0,rfl,Ag _,fun h=>absurd h Bo⟩)
 go_enter func206,ntmps206;go_upto_region 2 with fail
 rcases Nat.lt_or_ge (Df l) c with hk2 | hk2
 have qK:¬ c=Df l:=Bl;have HX:=Br (fun W hW=>HC.out W hW (l.drop (Df l)) (by simp;omega) ⟨A.map fun x=>x.add (Df l * 4),l.length - Df l,c - Df l⟩ a1.out);have HY:=Br (fun W hW=>HC.out W hW (l.take (Df l)) (by simp;omega) ⟨A,Df l,c⟩ a0.out);rotate_left;have qK:c=Df l:=Bl;have tI:l.length=Df l:=Bl;have HX:=Br (fun W hW=>HC.out W hW (l.drop (Df l)) (by simp;omega) ⟨A,0,0⟩ (a2.out Bl));have HY:=Br (fun W hW=>HC.out W hW (l.take (Df l)) (by simp;omega) ⟨A,Df l,Df l⟩ (by have:=a0.out;rw [qK] at this;exact this));all_goals
  refine Go.wp_region_noPanic ?_;refine wp_region_held_drew (S:=fun _=>True) Bm trivial (fun hHeld=>?_);have B1:Below w w w.drew:=(Bs _ _).drew;generalize w.drew=w1 at *
  refine tY 0 ?_
  (try simp only [pS])
  refine tY 1 ?_
  (try simp only [pS])
  refine tY 2 ?_
  (try simp only [pS])
  refine tY 4 ?_
  (try simp only [pS])
  refine tY 5 ?_
  (try simp only [pS])
  refine tY 6 ?_
  (try simp only [pS])
  refine rC 3 (fun K_ hK=>?_);go_simp;refine (HY.out w1 B1).mono ?_;rintro e2 w3 ⟨v3,rfl,o3,b3⟩;have B3:=Bv B1 b3;refine hK.out _ _ trivial (fun hHeld=>?_);clear hK K_
  (try simp only [pS])
  refine rC 7 (fun K_ hK=>?_);go_simp;refine (HX.out w3 B3).mono ?_;rintro e4 w4 ⟨v4,rfl,o4,b4⟩;refine hK.out _ _ trivial (fun hHeld=>?_);clear hK K_
  (try simp only [pS])
  refine rC 8 (fun K_ hK=>?_);go_simp;refine hK.out _ _ hHeld (fun hHeld=>?_);clear hK K_
  (try simp only [pS])
  refine rC 9 (fun K_ hK=>?_);go_simp;refine hK.out _ _ hHeld (fun hHeld=>?_);clear hK K_
  (try simp only [pS])
  refine wpAnyH_done Bm ?_ _;refine NoPanic.normal ?_;clear hHeld;have aS:=B1.size;have ow3:=o3.within;obtain ⟨s5,F5,rfl,o5,n5,m5⟩:=J0 (o3.below b4);obtain ⟨s6,F6,rfl,o6,n6,m6⟩:=J0 o4;have HF:=Br (show Vw l w (.returned (.tuple #[Aa s5.a s5.n s5.c,Aa s6.a s6.n s6.c])) w4 from ⟨s5,F5,s6,F6,rfl,o5,o6,fun x hx=>Ah aS (n5 x hx),fun x hx=>Ah B3.size (n6 x hx),fun x hx hx2=>by have h1:=(ow3 x (m5 x hx)).2;have h2:=n6 x hx2;omega,Bv B3 b4⟩);clear ow3 o5 o6 n5 n6 m5 m6 o3 o4;go_wp2;refine Aj ?_ rfl HF.out;simp [results,results206,go_sem]
def Ej:Enc Memo:={ cells:=fun x=>[J U x.id,J U x.reply.code,J U x.reply.run,J U x.reply.task,J U x.reply.try_],sz:=5,len:=fun _=>rfl,one:=fun _ u hu=>by simp at hu;rcases hu with rfl | rfl | rfl | rfl | rfl<;>rfl }
theorem Pj:(Am.info? 154).map (fun i=>(i.zero,i.size,i.bytes))=Ac (Ac (.agg #[J U 0,J U 0,J U 0,J U 0,J U 0]),5,40):=Bm
theorem Zx {w:World} {B:Nat} {v:Value} {l:List Memo} (h:RdL Ed w B v l):Rd Ej w B v l:=Aip
theorem Ab8 (w:World):∀ l:List Memo,Ows Ed w [] (l.map fun x=>(x,()))
 | []=>.nil
 | x :: l=>by
  have:=Ows.cons (d:=Ed) (w:=w) (F:=[]) (r:=(x,())) rfl (Ab8 w l)
  exact this
theorem Ab9 {w:World} {F:List Nat} {v:Value} {l:List Memo} (h1:Hw Ej w F v l):OwL Ed w F v l:=by
 obtain ⟨⟨A,c,hv,hc,hA⟩,hF,hf⟩:=id h1;subst hv;refine ⟨l.map fun x=>(x,()),F,[],by rw [List.map_map];exact List.map_id _,⟨⟨A,c,by rw [Ar],by rw [Ar];exact hc,fun hl=>?_⟩,by rw [Ar];exact hF,hf⟩,Ab8 w l,(List.append_nil _).symm,h1.nodup⟩;exact Aic
theorem Rd.memo_ {w:World} {B:Nat} {A:Option Addr} {n c:Nat} {l:List Memo} (h:Rd Ej w B (Aa A n c) l) {k:Nat} (hk:k<l.length) :
  ∃ b o,A=Ac ⟨b,o,Ab⟩/\b<B/\w.cell? ⟨b,o+k * 5,Ab⟩=Ac (J U l[k].id)/\w.cell? ⟨b,o+k * 5+1,Ab⟩=Ac (J U l[k].reply.code)/\w.cell? ⟨b,o+k * 5+2,Ab⟩=Ac (J U l[k].reply.run)/\w.cell? ⟨b,o+k * 5+3,Ab⟩=Ac (J U l[k].reply.task)/\w.cell? ⟨b,o+k * 5+4,Ab⟩=Ac (J U l[k].reply.try_):=by
 obtain ⟨A',c',hv,_,hA⟩:=h;simp only [Value.slice.injEq] at hv;obtain ⟨rfl,_,_⟩:=hv;obtain ⟨b,o,rfl,hb,hc⟩:=hA Bl;exact ⟨b,o,rfl,hb,hc k hk 0 _ rfl,hc k hk 1 _ rfl,hc k hk 2 _ rfl,hc k hk 3 _ rfl,hc k hk 4 _ rfl⟩
theorem OwL.elem {α:Type} {d:Dt α} {w:World} {F:List Nat} {b o n c:Nat} {l:List α} (h:OwL d w F (Aa (Ac ⟨b,o,Ab⟩) n c) l) {j:Nat} (hj:j<l.length) :
  ∃ (s:d.S) (Fx:List Nat),d.ow w Fx l[j] s/\(∀ x∈Fx,x∈F)/\b∉Fx/\b∈F/\(∀ i,w.frozen? ⟨b,i,Ab⟩=false)/\(∀ i u,(d.enc.cells (l[j],s))[i]? = Ac u->w.cell? ⟨b,o+j * d.enc.sz+i,Ab⟩=Ac u):=by
 obtain ⟨rs,H,G,hm,hh,ho,rfl,hn⟩:=h;subst hm;have kV:j<rs.length:=by rw [Ar] at hj;exact hj
 obtain ⟨b',o',hA,rfl,mX,hf⟩:=hh.at_ Bl;simp only [Option.some.injEq,Addr.mk.injEq,and_true] at hA;obtain ⟨rfl,rfl⟩:=hA;obtain ⟨F1,F2,rfl,h1,h2⟩:=ho.split j Bl;rw [List.drop_eq_getElem_cons kV] at h2;obtain ⟨Fx,F3,rfl,h3,h4⟩:=h2.head;have gU:b∉F1 ++ (Fx ++ F3):=Ak0
 have e:(rs.map (·.1))[j]'(by rw [Ar];exact kV)=rs[j].1:=by rw [List.getElem_map]
 refine ⟨rs[j].2,Fx,by rw [e];exact h3,fun x hx=>by simp [hx],fun hx=>gU (by simp [hx]),Bo,hf,fun i u hu=>?_⟩;rw [e] at hu;obtain ⟨A',c',hv,_,hA⟩:=hh.rd;simp only [Value.slice.injEq] at hv;obtain ⟨rfl,_,_⟩:=hv;obtain ⟨b2,o2,eJ,_,hc⟩:=hA Bl;simp only [Option.some.injEq,Addr.mk.injEq,and_true] at eJ;obtain ⟨rfl,rfl⟩:=eJ;exact hc j kV i u hu
theorem Agx {b:Nat} {w:World} {u0 u1 u2 u3:Value} (X:DBox b [u0,u1,u2,u3] w) {v0 v1 v2 v3 v4 v5:Value} {rest:List Value} :
  (results Tryz.f248 (v0 :: v1 :: v2 :: v3 :: v4 :: v5 :: .pointer (Ac ⟨b,0,Ab⟩) :: rest).toArray).run Am w = .ok (.agg #[u0,u1,u2,u3]) w:=by
 have c0:=X.cell 0 _ rfl;have c1:=X.cell 1 _ rfl;have c2:=X.cell 2 _ rfl;have c3:=X.cell 3 _ rfl;simp [results,results248,go_sem,c0,c1,c2,c3]
def Agy (z:Yard) (F Fr:List Nat) (w:World) (e:Ending) (w':World):Prop :=
 ∃ (s':Sl×Sl) (F':List Nat),e = .returned (Ds z s')/\Bw.ow w' F' z s'/\(∀ x∈F',x∈F\/x∈Fr\/w<=x)/\Chg F w w'
theorem Lm (y:Yard) (s:Sl×Sl) (k:Nat) (r:Run) (sr:Sl×Sl) (w:World) (F Fr:List Nat) (h4:y.shelf.length=4) (hM:∀ s∈y.shelf,s.length<=1000000) (hq:0<=y.seq/\y.seq<=2000000000) (hk:k<y.runs.length) (hT:r.tasks.length<=1000) (rV:y.runs[k].tasks.length<=1000)
  (hy:Bw.ow w F y s) (hr:Cf.ow w Fr r sr) (hd:∀ x∈Fr,x∉F) :
  Calls Am 248 #[Ds y s,J U k,G7 r sr] w (Agy (Gn y k r) F Fr w):=by
 obtain ⟨F1,F2,rfl,hn,hs,gA⟩:=hy;obtain ⟨⟨sa,sn,sc⟩,⟨ra,rn,rc⟩⟩:=s;replace hs:OwL (Dt.list By) w F1 (Aa sa sn sc) y.shelf:=hs;replace gA:OwL Cf w F2 (Aa ra rn rc) y.runs:=gA;obtain rfl:sn=y.shelf.length:=RdL.at1 (s:=⟨sa,sn,sc⟩) hs.rd;obtain rfl:rn=y.runs.length:=RdL.at1 (s:=⟨ra,rn,rc⟩) gA.rd;have rZ:0<y.shelf.length:=Bl;replace h4:=Br h4;obtain ⟨g,o,_,rfl,gD,_,_⟩:=hs.rd.entryS (k:=0) rZ;obtain ⟨gr,o2,_,rfl,dN,_⟩:=gA.rd.run hk;obtain ⟨sw,Fx,hx,bI,kX,fT,qJ,pY⟩:=gA.elem hk;obtain ⟨_,_,_,_,_,eY,hgfr,_⟩:=hs.elem (j:=0) rZ;have c0:w.cell? ⟨gr,o2+k * 8,Ab⟩=Ac (J U y.runs[k].id):=pY 0 _ rfl;have c1:w.cell? ⟨gr,o2+k * 8+1,Ab⟩=Ac (J U y.runs[k].plan.prio):=pY 1 _ rfl;have c2:w.cell? ⟨gr,o2+k * 8+2,Ab⟩=Ac (J U y.runs[k].plan.most):=pY 2 _ rfl;have c3:w.cell? ⟨gr,o2+k * 8+3,Ab⟩=Ac (J U y.runs[k].plan.wait):=pY 3 _ rfl;have c4:w.cell? ⟨gr,o2+k * 8+4,Ab⟩=Ac (J U y.runs[k].plan.tasks):=pY 4 _ rfl;have c5:w.cell? ⟨gr,o2+k * 8+5,Ab⟩=Ac (Aa sw.1.a sw.1.n sw.1.c):=pY 5 _ rfl;have c6:w.cell? ⟨gr,o2+k * 8+6,Ab⟩=Ac (J U y.runs[k].state):=pY 6 _ rfl;have c7:w.cell? ⟨gr,o2+k * 8+7,Ab⟩=Ac (Aa sw.2.a sw.2.n sw.2.c):=pY 7 _ rfl;have gJ:(k:Int)<(y.runs.length:Int):=Bl;have cE:(0:Int)<=(k:Int):=Bl;obtain ⟨W,aH,Y,RB,RES,B0⟩:=bx3 w 31 [J U y.now,J U y.seq,Aa (Ac ⟨g,o,Ab⟩) y.shelf.length sc,Aa (Ac ⟨gr,o2,Ab⟩) y.runs.length rc] 67 [J U r.id,J U r.plan.prio,J U r.plan.most,J U r.plan.wait,J U r.plan.tasks,Aa sr.1.a sr.1.n sr.1.c,J U r.state,Aa sr.2.a sr.2.n sr.2.c] 31 [J U 0,J U 0,Aa Ab 0 0,Aa Ab 0 0];go_enter func248,ntmps248;go_upto_region 1 with fail
 rw [<-aH.out];clear aH;have Y_:=Y.g4;have RB_:=RB.g8;obtain ⟨RES_0,RES_1,RES_2,RES_3,RES_l⟩:=RES.g4;replace c0:=(B0.cell (p:=⟨gr,o2+k * 8,Ab⟩) dN).trans c0;replace c1:=(B0.cell (p:=⟨gr,o2+k * 8+1,Ab⟩) dN).trans c1;replace c2:=(B0.cell (p:=⟨gr,o2+k * 8+2,Ab⟩) dN).trans c2;replace c3:=(B0.cell (p:=⟨gr,o2+k * 8+3,Ab⟩) dN).trans c3;replace c4:=(B0.cell (p:=⟨gr,o2+k * 8+4,Ab⟩) dN).trans c4;replace c5:=(B0.cell (p:=⟨gr,o2+k * 8+5,Ab⟩) dN).trans c5;replace c6:=(B0.cell (p:=⟨gr,o2+k * 8+6,Ab⟩) dN).trans c6;replace c7:=(B0.cell (p:=⟨gr,o2+k * 8+7,Ab⟩) dN).trans c7;have hfW:=fun i=>(B0.frozen (p:=⟨gr,i,Ab⟩) dN).trans (qJ i);have tP:=B0.size;have qT:gr<W:=Bl;go_upto_region 2 with fail
 have b1:Below W W (W.alloc (.cells #[J U y.runs[k].id,J U y.runs[k].plan.prio,J U y.runs[k].plan.most,J U y.runs[k].plan.wait,J U y.runs[k].plan.tasks,Aa sw.1.a sw.1.n sw.1.c,J U y.runs[k].state,Aa sw.2.a sw.2.n sw.2.c] 67)):=Bu;have WB:=DBox.new 67 [J U y.runs[k].id,J U y.runs[k].plan.prio,J U y.runs[k].plan.most,J U y.runs[k].plan.wait,J U y.runs[k].plan.tasks,Aa sw.1.a sw.1.n sw.1.c,J U y.runs[k].state,Aa sw.2.a sw.2.n sw.2.c] W (b:=W) rfl;clear Y_;clear RB_;clear RES_0 RES_1 RES_2 RES_3 RES_l;replace Y:=Y.below b1;replace RB:=RB.below b1;replace RES:=RES.below b1;have B1:=Bv B0 b1;replace c0:=(b1.cell (p:=⟨gr,o2+k * 8,Ab⟩) qT).trans c0;replace c1:=(b1.cell (p:=⟨gr,o2+k * 8+1,Ab⟩) qT).trans c1;replace c2:=(b1.cell (p:=⟨gr,o2+k * 8+2,Ab⟩) qT).trans c2;replace c3:=(b1.cell (p:=⟨gr,o2+k * 8+3,Ab⟩) qT).trans c3;replace c4:=(b1.cell (p:=⟨gr,o2+k * 8+4,Ab⟩) qT).trans c4;replace c5:=(b1.cell (p:=⟨gr,o2+k * 8+5,Ab⟩) qT).trans c5;replace c6:=(b1.cell (p:=⟨gr,o2+k * 8+6,Ab⟩) qT).trans c6;replace c7:=(b1.cell (p:=⟨gr,o2+k * 8+7,Ab⟩) qT).trans c7;replace hfW:=fun i=>(b1.frozen (p:=⟨gr,i,Ab⟩) qT).trans (hfW i);obtain ⟨hwb,hwbE⟩:∃ x,x=W.heap.size:=⟨_,rfl⟩
 rw [<-hwbE] at WB ⊢;have hwb1:=Nat.le_of_eq hwbE;have hwb2:=Nat.le_of_eq hwbE.symm;clear hwbE;generalize W.alloc (.cells #[J U y.runs[k].id,J U y.runs[k].plan.prio,J U y.runs[k].plan.most,J U y.runs[k].plan.wait,J U y.runs[k].plan.tasks,Aa sw.1.a sw.1.n sw.1.c,J U y.runs[k].state,Aa sw.2.a sw.2.n sw.2.c] 67)=W2 at *
 have Y_:=Y.g4;have RB_:=RB.g8;obtain ⟨RES_0,RES_1,RES_2,RES_3,RES_l⟩:=RES.g4;have WB_:=WB.g8;have hrn2:=gA.below B1;have tX:=Cf.ow_below hr B1;have jM:gr∉Fr:=fun h=>hd _ h (Be _ fT);have dW:g∉Fr:=fun h=>hd _ h (Bf _ eY);have eK:∀ x∈F1,x∉F2:=fun x h1 h2=>(Ax.1 hn).2.2 x h1 x h2 rfl;obtain ⟨F2',p1,p2,p3,p4⟩:=OwL.swap hrn2 hk (y:=r) (s:=sr) tX (fun x hx hx2=>hd x hx (Be _ hx2));have fK:Ie W2 gr (o2+k * Cf.enc.sz) (Cf.enc.cells (r,sr))=((((((((W2.setCell ⟨gr,o2+k * 8,Ab⟩ (J U r.id)).setCell ⟨gr,o2+k * 8+1,Ab⟩ (J U r.plan.prio)).setCell ⟨gr,o2+k * 8+2,Ab⟩ (J U r.plan.most)).setCell ⟨gr,o2+k * 8+3,Ab⟩ (J U r.plan.wait)).setCell ⟨gr,o2+k * 8+4,Ab⟩ (J U r.plan.tasks)).setCell ⟨gr,o2+k * 8+5,Ab⟩ (Aa sr.1.a sr.1.n sr.1.c)).setCell ⟨gr,o2+k * 8+6,Ab⟩ (J U r.state)).setCell ⟨gr,o2+k * 8+7,Ab⟩ (Aa sr.2.a sr.2.n sr.2.c)):=rfl;have hC:Chg [gr] W2 ((((((((W2.setCell ⟨gr,o2+k * 8,Ab⟩ (J U r.id)).setCell ⟨gr,o2+k * 8+1,Ab⟩ (J U r.plan.prio)).setCell ⟨gr,o2+k * 8+2,Ab⟩ (J U r.plan.most)).setCell ⟨gr,o2+k * 8+3,Ab⟩ (J U r.plan.wait)).setCell ⟨gr,o2+k * 8+4,Ab⟩ (J U r.plan.tasks)).setCell ⟨gr,o2+k * 8+5,Ab⟩ (Aa sr.1.a sr.1.n sr.1.c)).setCell ⟨gr,o2+k * 8+6,Ab⟩ (J U r.state)).setCell ⟨gr,o2+k * 8+7,Ab⟩ (Aa sr.2.a sr.2.n sr.2.c)):=by rw [<-fK];exact I6 _ _ _ _
 rw [fK] at p1;clear fK;have pF:gr∉F1:=fun h=>eK _ h fT;have hgx2:g∉Fx:=fun h=>eK _ eY (bI _ h);have kT:=(hs.below B1).chg hC (fun x hx h=>by simp only [Au] at h;subst h;exact pF hx);have hx3:=Cf.ow_chg (Cf.ow_below hx B1) hC (fun x hx h=>by simp only [Au] at h;subst h;exact kX hx);have hr3:=Cf.ow_chg tX hC (fun x hx h=>by simp only [Au] at h;subst h;exact jM hx);have hYl:=RES_l;have hsz2:=B1.size;have hszb:=b1.size;go_upto_region 3 with fail
 clear Y_;clear RB_;clear RES_0 RES_1 RES_2 RES_3 RES_l;clear WB_;replace Y:=Y.chg hC (by simp only [Au];omega);replace RB:=RB.chg hC (by simp only [Au];omega);replace RES:=RES.chg hC (by simp only [Au];omega);replace WB:=WB.chg hC (by simp only [Au];omega);have hsz3:=hC.size;generalize ((((((((W2.setCell ⟨gr,o2+k * 8,Ab⟩ (J U r.id)).setCell ⟨gr,o2+k * 8+1,Ab⟩ (J U r.plan.prio)).setCell ⟨gr,o2+k * 8+2,Ab⟩ (J U r.plan.most)).setCell ⟨gr,o2+k * 8+3,Ab⟩ (J U r.plan.wait)).setCell ⟨gr,o2+k * 8+4,Ab⟩ (J U r.plan.tasks)).setCell ⟨gr,o2+k * 8+5,Ab⟩ (Aa sr.1.a sr.1.n sr.1.c)).setCell ⟨gr,o2+k * 8+6,Ab⟩ (J U r.state)).setCell ⟨gr,o2+k * 8+7,Ab⟩ (Aa sr.2.a sr.2.n sr.2.c))=W3 at *
 have Y_:=Y.g4;have RB_:=RB.g8;obtain ⟨RES_0,RES_1,RES_2,RES_3,RES_l⟩:=RES.g4;have WB_:=WB.g8;clear c0 c1 c2 c3 c4 c5 c6 c7 hfW;go_wp2_with fail
 refine (S0 ⟨y.now,y.seq,y.shelf,y.runs.set k r⟩ g o sc ⟨Ac ⟨gr,o2,Ab⟩,y.runs.length,rc⟩ y.runs[k] sw r sr W3 F1 h4.out hM hq hT rV kT (Br fun W hW=>(Cf.ow_rd (Cf.ow_chg hr3 hW (fun x hx h=>by simp only [Au] at h;subst h;exact dW hx))).2) (Br fun W hW=>(Cf.ow_rd (Cf.ow_chg hx3 hW (fun x hx h=>by simp only [Au] at h;subst h;exact hgx2 hx))).2)).mono ?_;rintro e W4 ⟨F1',rfl,q1,q2,q3⟩;have HE:=Br (show Gn y k r=Ny ⟨y.now,y.seq,y.shelf,y.runs.set k r⟩ y.runs[k] r by unfold Gn;rw [List.getD_eq_getElem?_getD,List.getElem?_eq_getElem hk];rfl);have gI:=Br (show (Ny ⟨y.now,y.seq,y.shelf,y.runs.set k r⟩ y.runs[k] r).runs=y.runs.set k r from (Qo (y:=⟨y.now,y.seq,y.shelf,y.runs.set k r⟩) (was:=y.runs[k]) (r:=r) hM r.tasks.length).runs);dsimp only at q1;generalize Ny ⟨y.now,y.seq,y.shelf,y.runs.set k r⟩ y.runs[k] r=Z at *
 have hsz4:=q3.size;clear Y_;clear RB_;clear RES_0 RES_1 RES_2 RES_3 RES_l;clear WB_;replace RES:=RES.chg q3 (by simp only [Au];omega);obtain ⟨RES_0,RES_1,RES_2,RES_3,RES_l⟩:=RES.g4;have rf:=RES.free;have hg1':∀ x∈F1',x∈F1\/W3<=x:=q2;have cD:∀ x∈F1,x<w:=hs.lt;have aW:∀ x∈F2,x<w:=gA.lt;have hltr:∀ x∈Fr,x<w:=Cf.ow_lt hr;have fY:w.heap.size+1+1∉F1':=fun h=>by
  rcases q2 _ h with h | h
  ·have:=cD _ h;omega
  ·omega
 have dS:w.heap.size+1+1∉F2':=fun h=>by
  rcases p2 _ h with h | h
  ·have:=aW _ h;omega
  ·have:=hltr _ h;omega
 have p5:=p1.chg q3 (fun x hx h=>by
  simp only [Au] at h;subst h;rcases p2 _ hx with h | h
  ·exact eK _ eY h
  ·exact dW h)
 have bP:(F1' ++ F2').Nodup:=by
  rw [Ax];refine ⟨q1.nodup,p1.nodup,fun a ha c hc e=>?_⟩;subst e;rcases q2 _ ha with h | h<;>rcases p2 _ hc with h' | h'
  ·exact eK _ h h'
  ·exact hd _ h' (Bf _ h)
  ·have:=aW _ h';omega
  ·have:=hltr _ h';omega
 have hcw:Chg (F1 ++ F2) w W4:=(((Chg.of_below (F1 ++ F2) B1).trans (hC.mono (fun x hx=>by simp only [Au] at hx;subst hx;exact Be _ fT))).trans (q3.mono (fun x hx=>by simp only [Au] at hx;subst hx;exact Bf _ eY)))
 go_wp2;refine Aj (Agx (DBox.row4 RES rfl _ _ _ _)) rfl ⟨(⟨Ac ⟨g,o,Ab⟩,y.shelf.length,sc⟩,⟨Ac ⟨gr,o2,Ab⟩,y.runs.length,rc⟩),F1' ++ F2',by rw [HE.out],⟨F1',F2',rfl,bP,?_,?_⟩,?_,?_⟩
 ·rw [HE.out];show OwL (Dt.list By) _ F1' (Aa (Ac ⟨g,o,Ab⟩) y.shelf.length sc) Z.shelf;exact (((q1.set (a:=⟨_,_,Ab⟩) fY _).set (a:=⟨_,_,Ab⟩) fY _).set (a:=⟨_,_,Ab⟩) fY _).set (a:=⟨_,_,Ab⟩) fY _
 ·rw [HE.out];show OwL Cf _ F2' (Aa (Ac ⟨gr,o2,Ab⟩) y.runs.length rc) Z.runs;rw [gI.out];exact (((p5.set (a:=⟨_,_,Ab⟩) dS _).set (a:=⟨_,_,Ab⟩) dS _).set (a:=⟨_,_,Ab⟩) dS _).set (a:=⟨_,_,Ab⟩) dS _
 ·intro x hx;rcases Bi.1 hx with hx | hx
  ·rcases q2 _ hx with h | h
   ·exact .inl (Bf _ h)
   ·right;right;omega
  ·rcases p2 _ hx with h | h
   ·exact .inl (Be _ h)
   ·exact .inr (.inl h)
 ·exact (((hcw.high Bl _ _).high Bl _ _).high Bl _ _).high Bl _ _
theorem V2 (a b:List Entry) (s r:Sl) (w:World) (hl:a.length<=400000) (hl':b.length<=400000) (h:RdL By w w s.v a) (h':RdL By w w r.v b) :
  Calls Am 207 #[Aa s.a s.n s.c,Aa r.a r.n r.c] w (Dv (Dt.list By) slV (Gy a b) w):=by
 have CC:=Br (Jj a s w Bl h);obtain ⟨A,n,c⟩:=s;obtain rfl:n=a.length:=RdL.at1 (s:=⟨A,n,c⟩) h;obtain ⟨A',n',c'⟩:=r;obtain rfl:n'=b.length:=RdL.at1 (s:=⟨A',n',c'⟩) h';by_cases h8:80<a.length+b.length
 ·have hI:(80:Int)<(a.length:Int)+(b.length:Int):=Bl;have H:=Br (show Gy a b=a from if_pos h8);go_enter func207,ntmps207;go_wp2_with fail
  refine CC.out.mono ?_;rintro e w1 ⟨s9,F9,rfl,o9,n9,b1⟩;dsimp only [slV];go_wp2;go_ret;exact ⟨s9,F9,rfl,by rw [H.out];exact o9,n9,b1⟩
 have hI:¬ (80:Int)<(a.length:Int)+(b.length:Int):=Bl;have H:=Br (show Gy a b=b.foldl Jk a from if_neg h8);go_enter func207,ntmps207;go_wp2_with fail
 refine CC.out.mono ?_;rintro e w1 ⟨s9,F9,rfl,o9,n9,d1⟩;dsimp only [slV];go_wp2;clear CC;go_loopw [5,19] (fun x i wr=>∃ (k:Nat) (t:Sl) (F:List Nat),k<=b.length/\x = Aa t.a t.n t.c/\i = J U k/\Hid (OwL By wr F t.v ((b.take k).foldl Jk a)/\(∀ x∈F,w<=x))/\Below w w wr) (fun _ i _=>b.length - (intOf i).toNat);case atStart=>exact ⟨0,s9,F9,Ag _,rfl,rfl,⟨o9,n9⟩,d1⟩
 case round =>
  clear o9 n9 d1;obtain ⟨k,t,F,hk,rfl,rfl,hO,hb⟩:=hrel;by_cases aA:k<b.length
  ·have aB:(k:Int)<(b.length:Int):=Bl;obtain ⟨b1,o,_,rfl,aJ,_,c0,c1,c2,c3⟩:=(h'.below hb).entry aA;have hs:=hb.size;have bV:b1<wr:=Bl;have HT:=Br (Kv Jk a b k aA);have aE:((b.take k).foldl Jk a).length<=900000:=by rw [Ma];simp;omega
   have ha:Below wr wr (wr.alloc (.cells #[J U b[k].prio,J U b[k].seq,J U b[k].run,J U b[k].task] 71)):=Bu;have CP:=Br (Nh ((b.take k).foldl Jk a) t b[k] _ aE ((hO.out.1.below ha).rd));generalize (b.take k).foldl Jk a=L at *
   go_wp2_with (go_at_call 274;refine CP.out.mono ?_;rintro e w2 ⟨t2,F2,rfl,o2,n2,b2⟩)
   have hE:=Bv hb (Bv ha b2);have hz:=ha.size;exact ⟨⟨k+1,t2,F2,Bl,rfl,by go_num,⟨by rw [HT.out];exact o2,fun x hx=>by have:=n2 x hx;omega⟩,hE⟩,clM⟩
  ·have aB:¬ (k:Int)<(b.length:Int):=Bl;have HO:=hO.out.1;rw [Bg Bl] at HO;exact Anl
theorem Ahk {w:World} {E:TypeId} {base:Nat} {v:Value} {l:List Memo} (h:Ow Ej E w base v l):∃ (s:Sl) (F:List Nat),v = Aa s.a s.n s.c/\OwL Ed w F s.v l /\ ∀ b∈F,base<=b:=by
 obtain ⟨h1,h2⟩:=Hw.of_ow h;obtain ⟨A,c,hv,_⟩:=id h1.1;subst hv;exact ⟨⟨A,l.length,c⟩,_,rfl,Ab9 h1,h2⟩
theorem R9 (k:Desk) (s:(Sl×Sl)×Sl) (w:World) (cL:Dd k<=2000000) (h:Cj.rd w w k s) :
  Calls Am 87 #[Ih k s] w (Dv Cj Ih k w):=by
 obtain ⟨⟨⟨A1,n1,c1⟩,⟨A2,n2,c2⟩⟩,⟨A3,n3,c3⟩⟩:=s;obtain rfl:n3=k.memos.length:=RdL.at1 (s:=⟨A3,n3,c3⟩) h.2;have h1:Bw.rd w w k.yard (⟨A1,n1,c1⟩,⟨A2,n2,c2⟩):=h.1;have h2:Rd Ej w w (Aa A3 k.memos.length c3) k.memos:=Zx h.2;have hl:Ca k.yard<=2000000:=by unfold Dd at cL;omega
 have bS:k.memos.length<=2000000:=Ah (Ck Ee _) (by unfold Dd at cL;omega);clear h cL;obtain ⟨W,aH,X,Z,B0⟩:=bx2 w 81 [J U k.yard.now,J U k.yard.seq,Aa A1 n1 c1,Aa A2 n2 c2,Aa A3 k.memos.length c3,J U k.fr] 81 [J U 0,J U 0,Aa Ab 0 0,Aa Ab 0 0,Aa Ab 0 0,J U 0];obtain ⟨i0,aQ,aU,aS,aR⟩:=info_parts Pj;go_enter func87,ntmps87;go_wp2_with fail
 rw [<-aH.out];clear aH;refine (E1 k.yard (⟨A1,n1,c1⟩,⟨A2,n2,c2⟩) W hl (Bw.rd_more (Bw.rd_below h1 B0) B0.size)).mono ?_;rintro e w0 ⟨⟨⟨A4,n4,c4⟩,⟨A5,n5,c5⟩⟩,F0,rfl,o0,n0,b0⟩;have hW:w.heap.size+2<=W.heap.size:=Z.lt;replace X:=X.below b0;replace Z:=Z.below b0;replace B0:=Bv B0 b0;obtain ⟨X_0,X_1,X_2,X_3,X_4,X_5,X_l⟩:=X.g6;obtain ⟨Z_0,Z_1,Z_2,Z_3,Z_4,Z_5,Z_l⟩:=Z.g6;have X_f:=X.free;have Z_f:=Z.free;have pK:w.heap.size∉F0:=fun hm=>by have:=n0 _ hm;omega
 have X1:DBox w [J U k.yard.now,J U k.yard.seq,Aa A4 n4 c4,Aa A5 n5 c5,Aa A3 k.memos.length c3,J U k.fr] ((((w0.setCell ⟨w,0,Ab⟩ (J U k.yard.now)).setCell ⟨w,1,Ab⟩ (J U k.yard.seq)).setCell ⟨w,2,Ab⟩ (Aa A4 n4 c4)).setCell ⟨w,3,Ab⟩ (Aa A5 n5 c5)):=(((X.set 0 Bo (J U k.yard.now)).set 1 Bo (J U k.yard.seq)).set 2 Bo (Aa A4 n4 c4)).set 3 Bo (Aa A5 n5 c5);have Z1:=(((Z.setOther (a:=⟨w,0,Ab⟩) Bo (J U k.yard.now)).setOther (a:=⟨w,1,Ab⟩) Bo (J U k.yard.seq)).setOther (a:=⟨w,2,Ab⟩) Bo (Aa A4 n4 c4)).setOther (a:=⟨w,3,Ab⟩) Bo (Aa A5 n5 c5);have o1:Bw.ow ((((w0.setCell ⟨w,0,Ab⟩ (J U k.yard.now)).setCell ⟨w,1,Ab⟩ (J U k.yard.seq)).setCell ⟨w,2,Ab⟩ (Aa A4 n4 c4)).setCell ⟨w,3,Ab⟩ (Aa A5 n5 c5)) F0 k.yard (⟨A4,n4,c4⟩,⟨A5,n5,c5⟩):=by repeat (first | (with_reducible exact o0) | refine Dt.ow_set Bw ?_ pK _)
 have B1:Below w w ((((w0.setCell ⟨w,0,Ab⟩ (J U k.yard.now)).setCell ⟨w,1,Ab⟩ (J U k.yard.seq)).setCell ⟨w,2,Ab⟩ (Aa A4 n4 c4)).setCell ⟨w,3,Ab⟩ (Aa A5 n5 c5)):=by repeat (first | (with_reducible exact B0) | refine Ad ?_ Bo _)
 have HZ3:=Br (show ((((w0.setCell ⟨w,0,Ab⟩ (J U k.yard.now)).setCell ⟨w,1,Ab⟩ (J U k.yard.seq)).setCell ⟨w,2,Ab⟩ (Aa A4 n4 c4)).setCell ⟨w,3,Ab⟩ (Aa A5 n5 c5)).heap.size=w0.heap.size by simp);go_wp2_with (at_builtin;generalize mQ:((((w0.setCell ⟨w,0,Ab⟩ (J U k.yard.now)).setCell ⟨w,1,Ab⟩ (J U k.yard.seq)).setCell ⟨w,2,Ab⟩ (Aa A4 n4 c4)).setCell ⟨w,3,Ab⟩ (Aa A5 n5 c5))=W3 at *;clear mQ X_0 X_1 X_2 X_3 X_4 X_5 X_l X_f Z_0 Z_1 Z_2 Z_3 Z_4 Z_5 Z_l Z_f X Z o0;have eS:=((Bs W3 W3).alloc (Bt _) (.cells #[] 154));refine Ci _ Ej Bq rfl (.tmp 7) (.tmp 9) rfl underlying79 aQ aU aS aR rfl (v:=(Aa (Ac ⟨w0,0,Ab⟩) 0 0)) (l:=[]) rfl (Ow.empty Ej 154 W3 HZ3.out.symm) rfl ((h2.below (Bv B1 eS)).more (Bv B1 eS).size) Bo Bl Bq (by have:=eS.size;have:=HZ3.out;omega) ?_;intro v1 w1 o5 g1 f1;rw [List.nil_append] at o5;have B31:Below W3 W3 w1:=eS.grown g1 eS.size (fun g hg=>by have:=HZ3.out;simp [Value.ownBlock] at hg<;>omega);clear f1 g1;obtain ⟨⟨A6,n6,c6⟩,F5,rfl,o6,n6'⟩:=Ahk o5;replace X1:=X1.below B31;replace Z1:=Z1.below B31;have y0:=X1.cell 0 _ rfl;have y1:=X1.cell 1 _ rfl;have y2:=X1.cell 2 _ rfl;have y3:=X1.cell 3 _ rfl;have y4:=X1.cell 4 _ rfl;have y5:=X1.cell 5 _ rfl;have yf:=X1.free;have yl:=X1.lt;have z0:=Z1.cell 0 _ rfl;have z1:=Z1.cell 1 _ rfl;have z2:=Z1.cell 2 _ rfl;have z3:=Z1.cell 3 _ rfl;have z4:=Z1.cell 4 _ rfl;have z5:=Z1.cell 5 _ rfl;have zf:=Z1.free;have zl:=Z1.lt)
 have B2:=Bv B1 B31;replace o1:Bw.ow W3 F0 k.yard (⟨A4,n4,c4⟩,⟨A5,n5,c5⟩):=o1;have o7:Bw.ow w1 F0 k.yard (⟨A4,n4,c4⟩,⟨A5,n5,c5⟩):=Bw.ow_below (x:=k.yard) (s:=(⟨A4,n4,c4⟩,⟨A5,n5,c5⟩)) o1 B31;have sE:=HZ3.out;have aN:=b0.size;have l0:∀ b∈F0,b<w0:=fun b hb=>by have:=Bw.ow_lt (x:=k.yard) (s:=(⟨A4,n4,c4⟩,⟨A5,n5,c5⟩)) o1 b hb;omega
 refine Aj (v:=Ih k ((⟨A4,n4,c4⟩,⟨A5,n5,c5⟩),⟨A6,n6,c6⟩)) ?_ rfl ?_
 ·simp [Ih,results,results87,go_sem,z0,z1,z2,z3,z4,z5]
 ·refine ⟨((⟨A4,n4,c4⟩,⟨A5,n5,c5⟩),⟨A6,n6,c6⟩),F0 ++ F5,rfl,⟨F0,F5,rfl,?_,?_,?_⟩,?_,?_⟩
  ·rw [Ax];refine ⟨Bw.ow_nodup (x:=k.yard) (s:=(⟨A4,n4,c4⟩,⟨A5,n5,c5⟩)) o1,o6.nodup,fun u hu u' hu' e=>?_⟩
   have:=l0 u hu
   have:=n6' u' hu'
   omega
  ·have dS:w.heap.size+1∉F0:=fun hm=>by have:=n0 _ hm;omega
   show Bw.ow _ F0 k.yard (⟨A4,n4,c4⟩,⟨A5,n5,c5⟩);repeat (first | (with_reducible exact o7) | refine Dt.ow_set Bw ?_ (by first | exact pK | exact dS) _)
  ·have fY:w.heap.size∉F5:=fun hm=>by have:=n6' _ hm;omega
   have dS:w.heap.size+1∉F5:=fun hm=>by have:=n6' _ hm;omega
   show OwL Ed _ F5 (Aa A6 n6 c6) k.memos;repeat (first | (with_reducible exact o6) | refine OwL.set ?_ (by first | exact fY | exact dS) _)
  ·intro b hb;rcases Bi.1 hb with hb | hb
   ·have:=n0 b hb;omega
   ·have:=n6' b hb;omega
  ·exact Ajo
end Go.Proofs.YtecnbnbopcblgaaGreat
