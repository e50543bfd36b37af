/-
  Runs that are right: the program's walk and the reference's. The slots that a yard takes: the program's walk and the reference's. Copies of yards, of the progra
-/
import Derived.Test.YtecnbnbopcblgaaGreatZAk0
import Derived.Test.YtecnbnbopcblgaaGreatZAk1
import Derived.Test.YtecnbnbopcblgaaGreatZAk2
import Derived.Test.YtecnbnbopcblgaaGreatZAk3
import Derived.Test.YtecnbnbopcblgaaGreatZAk4
import Derived.Test.YtecnbnbopcblgaaGreatZAk5
namespace Go.Proofs.YtecnbnbopcblgaaGreat
open Go.RowKit
set_option maxRecDepth 100000
set_option maxHeartbeats 4000000
set_option linter.unusedVariables false
set_option linter.unusedSimpArgs false
open Value renaming int->J,slice->Aa
open IntKind renaming i64->U
open Option renaming none->Ab,some->Ac
open Below renaming setCell->Ad,alloc->Ae
open Nat renaming zero_le->Ag,le_trans->Ah,lt_of_lt_of_le->Ai
open Go renaming wpQuiet_nil->Ak
open Go.Proofs.Tryz renaming prog->Am
open List renaming mem_singleton->Au,getElem_mem->Aw,nodup_append->Ax,length_take->Az,length_append->Bd,mem_append_right->Be,length_set->Bh,mem_append->Bi
open World renaming size_alloc->Bj
open Go.Proofs.Tryz
theorem Aiz {p:Prop} (h:p:=by
 have OS1:=OS.out;refine ⟨⟨A9,n9,c9⟩,⟨A10,n10,c10⟩,F1,ws.heap.size,rfl,?_,fun b aX=>⟨by have:=nS b aX;omega,lS b aX⟩,Bl,?_,?_,?_⟩
 ·have hn:w.heap.size+1∉F1:=fun hm=>by have:=nS _ hm;omega
  show OwL (Dt.list By) _ F1 (Aa A9 n9 c9) y.shelf;repeat (first | (with_reducible exact OS1) | refine OwL.set ?_ hn _)
 ·simp [World.setCell];exact kB
 ·repeat (first | (with_reducible exact OR) | refine Bls.setOther ?_ (by show w.heap.size+1<ws.heap.size;omega) _)
 ·repeat (first | (with_reducible exact hb) | refine Ad ?_ (by first | (simp;done) | (simp;omega)) _)):p:=h
theorem Ai1 {p:Prop} (h:p:=by
 go_enter func162,ntmps162;go_wp2_with (go_at_call 161;refine (Cs _ _).mono ?_;rintro e w9 ⟨rfl,rfl⟩)
 go_ret;exact ⟨Bx H.out.symm,B0⟩):p:=h
theorem Ai7 {p:Prop} (h:p:=by
 by_cases tk:Hx r k
 ·have S:Hid (∀ t,t<k+1->Hx r t):=by
   intro t ht;by_cases e:t=k
   ·subst e;exact tk
   ·exact aY.out t Bl
  rw [Di tk] at C;clear tk;go_wp2_with fail
  refine C.mono ?_;rintro e w2 ⟨rfl,b2⟩;go_wp2;exact ⟨⟨k+1,Bl,by go_num,S,Bv hb b2⟩,clM⟩
 ·have H:=Br (show tf (Hn r)=false from Cg (fun h=>tk (h.2.2.2.1 k aA)));rw [Cg tk] at C;clear tk;go_wp2_with fail
  refine C.mono ?_;rintro e w2 ⟨rfl,b2⟩;go_wp2;go_ret;exact ⟨Bx H.out.symm,Bv B0 b2⟩):p:=h
theorem Ai9 {p:Prop} (h:p:=by
 go_wp2_with (go_at_call 90;refine (Cd _ _ _ _).mono ?_;rintro e w' ⟨rfl,rfl⟩)
 go_ret;exact ⟨Bx H.out.symm,B0⟩):p:=h
theorem Aji {p:Prop} (h:p:=by
 go_wp2_with (go_at_call 72;refine (Cm _ _ _ _).mono ?_;rintro e w' ⟨rfl,rfl⟩)
 go_ret;exact ⟨Bx H.out.symm,B0⟩):p:=h
theorem Ajr {p:Prop} (h:p:=by
 go_enter func234,ntmps234;go_wp2_with (first | (go_at_call 90;refine (Cd _ _ _ _).mono ?_;rintro e w' ⟨rfl,rfl⟩) | (go_at_call 237;refine C1.mono ?_;rintro e w1 ⟨rfl,b1⟩;have q1:=fun j=>(Gf b1).1 w.heap.size j X_l))
 go_ret;exact ⟨Bx H.out.symm,Bv B0 b1⟩):p:=h
theorem Ajy {p:Prop} (h:p:=by
 rw [q] at C;go_wp2;refine Bz Bm Bm ?_;repeat (go_big_quiet_step ((go_at_call 82;(with_reducible exact Jf C.out))))
 refine Ak ?_;rintro _ ⟨⟨w3,b3⟩,rfl⟩;clear aM;go_wp2;exact ⟨⟨j+1,Bl,by go_num,by rw [S.out];go_num,Bv hb b3⟩,clM⟩):p:=h
theorem Akc {p:Prop} (h:p:=by go_wp2;go_ret;exact ⟨Bx H.out.symm,B7⟩):p:=h
theorem Akq {p:Prop} (h:p:=by obtain ⟨rs,hm,hB⟩:=jX.out;rw [aZ,List.take_length] at hm;obtain ⟨F,h1,h2⟩:=hB.owl hm;obtain ⟨A,c,rfl,_⟩:=h1.form;exact ⟨F,⟨⟨A,y.shelf.length,c⟩,rfl,h1⟩,h2⟩):p:=h
theorem Aku {p:Prop} (h:p:=by
 rw [q] at C;go_wp2_with fail
 refine C.mono ?_;rintro e w3 ⟨rfl,b3⟩;go_wp2;exact ⟨⟨k+1,Bl,by go_num,by rw [S.out];go_num,Bv (Bv aK ha) b3⟩,clM⟩):p:=h
theorem Ak0 {p:Prop} (h:p:=by
 have:=hn
 simp only [List.singleton_append,List.nodup_cons] at this;exact this.1):p:=h
theorem Alb {p:Prop} (h:p:=by obtain ⟨rs,hm,hB⟩:=jX.out;rw [aZ,List.take_length] at hm;obtain ⟨A,c,rfl,_⟩:=hB.rd.form;exact ⟨⟨A,_,c⟩,rfl,rs,hm,hB⟩):p:=h
theorem Alq {p:Prop} (h:p:=by
 go_wp2_with (go_at_call 161;refine (Cs _ _).mono ?_;rintro e w9 ⟨rfl,rfl⟩)
 go_ret;exact ⟨Bx H.out.symm,hb⟩):p:=h
theorem Alr {p:Prop} (h:p:=by
 simp only [Bi] at hx;rcases hx with hx | hx | hx
 ·exact gU (by simp [hx])
 ·exact cC hx
 ·exact gU (by simp [hx])):p:=h
theorem Amr {p:Prop} (h:p:=by
 have:=hn
 simp only [List.singleton_append,List.nodup_cons] at this;exact this.2):p:=h
theorem Zo (s k:Int) (hk:k≠0):decide (s=k/\s≠0)=(s == k):=by
 by_cases h:s=k
 ·subst h;simp [hk]
 ·simp [h]
theorem Zp (s:Int):decide (s=0/\s≠0)=false:=Bo
theorem Abr {r:Run} (h1:inB r.id 1 9999=true) (h2:Cr r.plan=0) (h3:(r.tasks.length:Int)=r.plan.tasks) (h4:∀ t,t<r.tasks.length->Hx r t) :
  tf (Hn r)=decide (r.state=stL r.tasks/\r.state≠0):=by
 rw [Bool.eq_iff_iff,Mv,decide_eq_true_eq];unfold Hn;exact ⟨fun h=>h.2.2.2.2,fun h=>⟨Ct.1 h1,h2,h3,h4,h⟩⟩
theorem Ags {r:Run} (h4:∀ t,t<r.tasks.length->Hx r t):Dx r.tasks 1+Dx r.tasks 2+Dx r.tasks 3+Dx r.tasks 4+Dx r.tasks 5+Dx r.tasks 6=r.tasks.length:=by
 have:=Agq (l:=r.tasks) (fun x hx=>by
  obtain ⟨t,ht,rfl⟩:=List.getElem_of_mem hx
  have:=(h4 t ht).1
  rwa [Cu ht] at this)
 unfold La at this;exact this
theorem Kr (r:Run) (s:Sl×Sl) (st:Int) (w:World) (hl:r.tasks.length<=2000000) (h:Cf.rd w w r s) :
  Calls Am 79 #[G7 r s,J U st] w fun e w'=>∃ A c,e = .returned (Aa A (Dx r.tasks st) c)/\Below w w w' :=
 (Ip r s st w hl h).mono fun e w' ⟨v,he,ho,hb⟩=>by
  obtain ⟨A,c,hv,-⟩:=id (Rd.of_own ho);rw [Sv] at hv;exact ⟨A,c,by rw [he,hv],hb⟩
theorem P6 (r:Run) (s:Sl×Sl) (w:World) (hl:Co r<=2000000) (h:Cf.rd w w r s) :
  Calls Am 142 #[G7 r s] w fun e w'=>e = .returned (.bool (tf (Hn r)))/\Below w w w':=by
 have HR:=Br (show ∀ W,Below w w W->Cf.rd W W r s from fun W hW=>Cf.rd_more (Cf.rd_below h hW) hW.size);obtain ⟨⟨A1,n1,c1⟩,⟨A2,n2,c2⟩⟩:=s;obtain rfl:n2=r.tasks.length:=RdL.at1 (s:=⟨A2,n2,c2⟩) h.2;have h1:Rd He w w (Aa A1 n1 c1) r.plan.edges:=I2 h.1;have kC:r.plan.edges.length<=2000000:=Ah (Ck Ei _) (by unfold Co Ec at hl;omega);have fL:r.tasks.length<=2000000:=Ah (Ck D7 _) (by unfold Co at hl;omega);clear h hl;have X:=DBox.new 67 [J U r.id,J U r.plan.prio,J U r.plan.most,J U r.plan.wait,J U r.plan.tasks,Aa A1 n1 c1,J U r.state,Aa A2 r.tasks.length c2] w (b:=w) rfl;have B0:Below w w (w.alloc (.cells #[J U r.id,J U r.plan.prio,J U r.plan.most,J U r.plan.wait,J U r.plan.tasks,Aa A1 n1 c1,J U r.state,Aa A2 r.tasks.length c2] 67)):=by repeat (first | exact Bs _ _ | refine Ae ?_ Bp _)
 have C1:=Hz r.plan (Aa A1 n1 c1) (w.alloc (.cells #[J U r.id,J U r.plan.prio,J U r.plan.most,J U r.plan.wait,J U r.plan.tasks,Aa A1 n1 c1,J U r.state,Aa A2 r.tasks.length c2] 67)) kC ((h1.below B0).more B0.size);cases a1:inB r.id 1 9999;case false =>
  have H:=Br (show tf (Hn r)=false from Cg (fun h=>by have:=Ct.2 h.1;rw [a1] at this;cases this));go_enter func142,ntmps142;exact Aji
 by_cases e2:Cr r.plan=0;case neg =>
  have a2:(Cr r.plan != 0)=true:=by simp [e2]
  have H:=Br (show tf (Hn r)=false from Cg (fun h=>e2 h.2.1));clear e2;go_enter func142,ntmps142;go_wp2_with (first | (go_at_call 72;refine (Cm _ _ _ _).mono ?_;rintro e w' ⟨rfl,rfl⟩) | (go_at_call 200;refine C1.mono ?_;rintro e w1 ⟨rfl,b1⟩;have q1:=(Gf b1).1))
  go_ret;exact ⟨Bx H.out.symm,Bv B0 b1⟩
 have E2:=Br e2;rw [e2] at C1;clear e2;by_cases e3:(r.tasks.length:Int)=r.plan.tasks;case neg =>
  have a3:((r.tasks.length:Int) != r.plan.tasks)=true:=by simp [e3]
  have H:=Br (show tf (Hn r)=false from Cg (fun h=>e3 h.2.2.1));clear e3;go_enter func142,ntmps142;have X_3:=X.cell 3 _ rfl;have X_4:=X.cell 4 _ rfl;have X_7:=X.cell 7 _ rfl;have X_l:=X.lt;go_wp2_with fail
  go_wp2_with (first | (go_at_call 72;refine (Cm _ _ _ _).mono ?_;rintro e w' ⟨rfl,rfl⟩) | (go_at_call 200;refine C1.mono ?_;rintro e w1 ⟨rfl,b1⟩;have q1:=fun j=>(Gf b1).1 w.heap.size j X_l))
  go_ret;exact ⟨Bx H.out.symm,Bv B0 b1⟩
 have a3:((r.tasks.length:Int) != r.plan.tasks)=false:=by simp [e3]
 have E3:=Br e3;clear e3;have X_l:=X.lt;go_enter func142,ntmps142;go_wp2_with fail
 go_wp2_with (first | (go_at_call 72;refine (Cm _ _ _ _).mono ?_;rintro e w' ⟨rfl,rfl⟩) | (go_at_call 200;refine C1.mono ?_;rintro e w1 ⟨rfl,b1⟩;have q1:=fun j=>(Gf b1).1 w.heap.size j X_l))
 clear q1;replace X:=X.below b1;replace B0:=Bv B0 b1;clear X_l C1 b1 a3;have A1_:=Br a1;clear a1;go_loopw [30] (fun i wr=>∃ k:Nat,k<=r.tasks.length/\i = J U k/\Hid (∀ t,t<k->Hx r t)/\Below w1 w1 wr) (fun i _=>r.tasks.length - (intOf i).toNat);case atStart=>exact ⟨0,Ag _,rfl,fun t ht=>absurd ht Bl,Bs _ _⟩
 case round =>
  obtain ⟨k,hk,rfl,aY,hb⟩:=hrel;replace X:=X.below hb;replace B0:=Bv B0 hb;obtain ⟨X_0,X_1,X_2,X_3,X_4,X_5,X_6,X_7,X_l⟩:=X.g8;by_cases aA:k<r.tasks.length
  ·have aB:(k:Int)<(r.tasks.length:Int):=Bl;have C:=Vm r (⟨A1,n1,c1⟩,⟨A2,r.tasks.length,c2⟩) k wr E2.out E3.out aA (HR.out _ B0);exact Ai7
  ·have aB:¬ (k:Int)<(r.tasks.length:Int):=Bl;have aZ:k=r.tasks.length:=Bl;subst aZ;have HF:=Br (Abr A1_.out E2.out E3.out aY.out);have HI:=Br (Aer r.tasks);have HSum:=Br (Ags aY.out);go_wp2;go_region_held3 (fun w'=>w'.cell? ⟨w,0,Ab⟩=Ac (J U r.id)/\w'.cell? ⟨w,1,Ab⟩=Ac (J U r.plan.prio)/\w'.cell? ⟨w,2,Ab⟩=Ac (J U r.plan.most)/\w'.cell? ⟨w,3,Ab⟩=Ac (J U r.plan.wait)/\w'.cell? ⟨w,4,Ab⟩=Ac (J U r.plan.tasks)/\w'.cell? ⟨w,5,Ab⟩=Ac (Aa A1 n1 c1)/\w'.cell? ⟨w,6,Ab⟩=Ac (J U r.state)/\w'.cell? ⟨w,7,Ab⟩=Ac (Aa A2 r.tasks.length c2))
    (first | (refine ⟨?_,?_,?_,?_,?_,?_,?_,?_⟩<;>first | assumption | go_keep) | go_keep)
    (first
     | (go_at_call 79;(with_reducible refine (Kr r (⟨A1,n1,c1⟩,⟨A2,r.tasks.length,c2⟩) 4 _ fL (HR.out _ B0.drew)).mono ?_);rintro e w5 ⟨A5,c5,rfl,b5⟩;have B5:=Bv B0 (Bv ((Bs wr wr).drew) b5);have X5:=X.below (Bv ((Bs wr wr).drew) b5);have x50:=X5.cell 0 _ rfl;have x51:=X5.cell 1 _ rfl;have x52:=X5.cell 2 _ rfl;have x53:=X5.cell 3 _ rfl;have x54:=X5.cell 4 _ rfl;have x55:=X5.cell 5 _ rfl;have x56:=X5.cell 6 _ rfl;have x57:=X5.cell 7 _ rfl;have x5l:=X5.lt)
     | (go_at_call 79;(with_reducible refine (Kr r (⟨A1,n1,c1⟩,⟨A2,r.tasks.length,c2⟩) 5 _ fL (HR.out _ B5)).mono ?_);rintro e w6 ⟨A6,c6,rfl,b6⟩;have B6:=Bv B5 b6;have X6:=X5.below b6;have x60:=X6.cell 0 _ rfl;have x61:=X6.cell 1 _ rfl;have x62:=X6.cell 2 _ rfl;have x63:=X6.cell 3 _ rfl;have x64:=X6.cell 4 _ rfl;have x65:=X6.cell 5 _ rfl;have x66:=X6.cell 6 _ rfl;have x67:=X6.cell 7 _ rfl;have x6l:=X6.lt)
     | (go_at_call 79;(with_reducible refine (Kr r (⟨A1,n1,c1⟩,⟨A2,r.tasks.length,c2⟩) 6 _ fL (HR.out _ B6)).mono ?_);rintro e w7 ⟨A7,c7,rfl,b7⟩;have B7:=Bv B6 b7;have X7:=X6.below b7;have x70:=X7.cell 0 _ rfl;have x71:=X7.cell 1 _ rfl;have x72:=X7.cell 2 _ rfl;have x73:=X7.cell 3 _ rfl;have x74:=X7.cell 4 _ rfl;have x75:=X7.cell 5 _ rfl;have x76:=X7.cell 6 _ rfl;have x77:=X7.cell 7 _ rfl;have x7l:=X7.lt))
   clear X_0 X_1 X_2 X_3 X_4 X_5 X_6 X_7 X_l x50 x51 x52 x53 x54 x55 x56 x57 x5l x60 x61 x62 x63 x64 x65 x66 x67 x6l;have kQ:((Dx r.tasks 1:Nat):Int)+(Dx r.tasks 2:Nat)+(Dx r.tasks 3:Nat)+(Dx r.tasks 4:Nat)+(Dx r.tasks 5:Nat)+(Dx r.tasks 6:Nat)=r.tasks.length:=by have:=HSum.out;omega
   generalize rX:((Dx r.tasks 1:Nat):Int)=c1' at *
   generalize rY:((Dx r.tasks 2:Nat):Int)=c2' at *
   generalize qB:((Dx r.tasks 3:Nat):Int)=c3' at *
   generalize hc4:((Dx r.tasks 4:Nat):Int)=c4' at *
   generalize vU:((Dx r.tasks 5:Nat):Int)=c5' at *
   generalize hc6:((Dx r.tasks 6:Nat):Int)=c6' at *
   have m1:0<=c1':=Bl;have m2:0<=c2':=Bl;have m3:0<=c3':=Bl;have m4:0<=c4'/\c4'<=2000000:=Bl;have m5:0<=c5'/\c5'<=2000000:=Bl;have m6:0<=c6'/\c6'<=2000000:=Bl;clear rX rY qB hc4 vU hc6;have HV:Hid (tf (Hn r)=decide (r.state=stI c1' c2' c3' c4' c5' c6' r.tasks.length/\r.state≠0)):=by
    show tf (Hn r)=_;rw [HF.out,HI.out]
   clear HF HI;generalize r.state=rs at *
   by_cases q1:c4'=(r.tasks.length:Int)
   ·have H:=Br (show tf (Hn r)=(rs == 2) by rw [HV.out];unfold stI;rw [if_pos q1];exact Zo _ _ Bl);have q1':(c4' == (r.tasks.length:Int))=true:=beq_iff_eq.2 q1;clear q1 kQ;exact Akc
   have q1':(c4' == (r.tasks.length:Int))=false:=beq_eq_false_iff_ne.2 q1;by_cases q2:c4'+c5'+c6'=(r.tasks.length:Int)
   ·have q2':(c4'+c5'+c6' == (r.tasks.length:Int))=true:=beq_iff_eq.2 q2;have r0:c1'+c2'+c3'=0:=Bl;by_cases q3:c5'=1
    ·have q3':(c5' == 1)=true:=beq_iff_eq.2 q3;have q4':(c5' == 0)=false:=beq_eq_false_iff_ne.2 Bl;have H:=Br (show tf (Hn r)=(rs == 3) by rw [HV.out];unfold stI;rw [if_neg q1,if_pos ⟨q3,r0⟩];exact Zo _ _ Bl);clear q1 q2 q3 kQ r0;exact Akc
    have q3':(c5' == 1)=false:=beq_eq_false_iff_ne.2 q3;by_cases q4:c5'=0
    ·have q4':(c5' == 0)=true:=beq_iff_eq.2 q4;by_cases q5:c6'=0
     ·exact absurd (show c4'=(r.tasks.length:Int) by omega) q1
     ·have q5':(c6' == 0)=false:=beq_eq_false_iff_ne.2 q5;have q6:0<c6':=Bl;have q6':decide (0<c6')=true:=decide_eq_true q6;have H:=Br (show tf (Hn r)=(rs == 4) by rw [HV.out];unfold stI;rw [if_neg q1,if_neg (fun h=>q3 h.1),if_pos ⟨q4,q6,r0⟩];exact Zo _ _ Bl);clear q1 q2 q3 q4 q5 q6 kQ r0;exact Akc
    ·have q4':(c5' == 0)=false:=beq_eq_false_iff_ne.2 q4;have H:=Br (show tf (Hn r)=false by rw [HV.out];unfold stI;rw [if_neg q1,if_neg (fun h=>q3 h.1),if_neg (fun h=>q4 h.1),if_neg (fun h=>q4 h.1)];exact Zp _);clear q1 q2 q3 q4 kQ r0;cases q7:(rs == 1)
     all_goals
      exact Akc
   ·have q2':(c4'+c5'+c6' == (r.tasks.length:Int))=false:=beq_eq_false_iff_ne.2 q2;have r0:¬ c1'+c2'+c3'=0:=Bl;by_cases q4:c5'=0
    ·have q4':(c5' == 0)=true:=beq_iff_eq.2 q4;have q3':(c5' == 1)=false:=beq_eq_false_iff_ne.2 Bl;by_cases q5:c6'=0
     ·have q5':(c6' == 0)=true:=beq_iff_eq.2 q5;have q6':decide (0<c6')=false:=decide_eq_false Bl;have H:=Br (show tf (Hn r)=(rs == 1) by rw [HV.out];unfold stI;rw [if_neg q1,if_neg (fun h=>r0 h.2),if_neg (fun h=>r0 h.2.2),if_pos ⟨q4,q5⟩];exact Zo _ _ Bl);clear q1 q2 q4 q5 kQ r0;cases q7:(rs == 1)
      all_goals
       rw [q7] at H;exact Akc
     ·have q5':(c6' == 0)=false:=beq_eq_false_iff_ne.2 q5;have q6':decide (0<c6')=true:=decide_eq_true Bl;have H:=Br (show tf (Hn r)=false by rw [HV.out];unfold stI;rw [if_neg q1,if_neg (fun h=>r0 h.2),if_neg (fun h=>r0 h.2.2),if_neg (fun h=>q5 h.2)];exact Zp _);clear q1 q2 q4 q5 kQ r0;cases q7:(rs == 1)
      all_goals
       exact Akc
    ·have q4':(c5' == 0)=false:=beq_eq_false_iff_ne.2 q4;have H:=Br (show tf (Hn r)=false by rw [HV.out];unfold stI;rw [if_neg q1,if_neg (fun h=>r0 h.2),if_neg (fun h=>r0 h.2.2),if_neg (fun h=>q4 h.1)];exact Zp _);clear q1 q2 q4 kQ r0;cases q7:(rs == 1)<;>cases q3':(c5' == 1)
     all_goals
      exact Akc
theorem Mx (r:Run) (s:Sl×Sl) (w:World) (hl:Co r<=2000000) (h:Cf.rd w w r s) :
  Calls Am 234 #[G7 r s] w fun e w'=>e = .returned (.bool (tf (Hn r)))/\Below w w w':=by
 have HR:=Br (show ∀ W,Below w w W->Cf.rd W W r s from fun W hW=>Cf.rd_more (Cf.rd_below h hW) hW.size);obtain ⟨⟨A1,n1,c1⟩,⟨A2,n2,c2⟩⟩:=s;obtain rfl:n2=r.tasks.length:=RdL.at1 (s:=⟨A2,n2,c2⟩) h.2;have h1:Rd He w w (Aa A1 n1 c1) r.plan.edges:=I2 h.1;have h2:RdL C8 w w (Aa A2 r.tasks.length c2) r.tasks:=h.2;have kC:r.plan.edges.length<=2000000:=Ah (Ck Ei _) (by unfold Co Ec at hl;omega);have fL:r.tasks.length<=2000000:=Ah (Ck D7 _) (by unfold Co at hl;omega);clear h hl;have X:=DBox.new 67 [J U r.id,J U r.plan.prio,J U r.plan.most,J U r.plan.wait,J U r.plan.tasks,Aa A1 n1 c1,J U r.state,Aa A2 r.tasks.length c2] w (b:=w) rfl;have B0:Below w w (w.alloc (.cells #[J U r.id,J U r.plan.prio,J U r.plan.most,J U r.plan.wait,J U r.plan.tasks,Aa A1 n1 c1,J U r.state,Aa A2 r.tasks.length c2] 67)):=by repeat (first | exact Bs _ _ | refine Ae ?_ Bp _)
 have C1:=J7 r.plan (Aa A1 n1 c1) (w.alloc (.cells #[J U r.id,J U r.plan.prio,J U r.plan.most,J U r.plan.wait,J U r.plan.tasks,Aa A1 n1 c1,J U r.state,Aa A2 r.tasks.length c2] 67)) kC ((h1.below B0).more B0.size);have X_l:=X.lt;cases a1:inB r.id 1 9999;case false =>
  have H:=Br (show tf (Hn r)=false from Cg (fun h=>by have:=Ct.2 h.1;rw [a1] at this;cases this));go_enter func234,ntmps234;exact Ai9
 by_cases e2:Cr r.plan=0;case neg =>
  have a2:(Cr r.plan != 0)=true:=by simp [e2]
  have H:=Br (show tf (Hn r)=false from Cg (fun h=>e2 h.2.1));clear e2;exact Ajr
 have E2:=Br e2;rw [e2] at C1;clear e2;by_cases e3:(r.tasks.length:Int)=r.plan.tasks;case neg =>
  have a3:((r.tasks.length:Int) != r.plan.tasks)=true:=by simp [e3]
  have H:=Br (show tf (Hn r)=false from Cg (fun h=>e3 h.2.2.1));clear e3;exact Ajr
 have a3:((r.tasks.length:Int) != r.plan.tasks)=false:=by simp [e3]
 have E3:=Br e3;clear e3;go_enter func234,ntmps234;go_wp2_with (first | (go_at_call 90;refine (Cd _ _ _ _).mono ?_;rintro e w' ⟨rfl,rfl⟩) | (go_at_call 237;refine C1.mono ?_;rintro e w1 ⟨rfl,b1⟩;have q1:=fun j=>(Gf b1).1 w.heap.size j X_l))
 clear q1;replace X:=X.below b1;replace B0:=Bv B0 b1;clear X_l C1 b1 a3;have A1_:=Br a1;clear a1;obtain ⟨X_0,X_1,X_2,X_3,X_4,X_5,X_6,X_7,X_l⟩:=X.g8;go_loop [3] (fun i=>∃ k:Nat,k<=r.tasks.length/\i = J U k/\Hid (∀ t (ht:t<r.tasks.length),t<k->1<=r.tasks[t].state/\r.tasks[t].state<=6)) (fun i=>r.tasks.length - (intOf i).toNat);case atStart=>exact ⟨0,Ag _,rfl,fun t _ ht=>absurd ht Bl⟩
 case round =>
  obtain ⟨k,hk,rfl,aY⟩:=hrel;by_cases aA:k<r.tasks.length
  ·have aB:(k:Int)<(r.tasks.length:Int):=Bl;obtain ⟨b,o,_,rfl,aJ,_,d0,d1,d2,d3⟩:=(h2.below B0).task aA;cases tk:inB r.tasks[k].state 1 6
   ·have H:=Br (show tf (Hn r)=false from Cg (fun h=>by
     have h3:=(h.2.2.2.1 k aA).1;rw [Cu aA] at h3
     have:=Ct.2 h3
     rw [tk] at this;cases this))
    exact Ai9
   ·have S:Hid (∀ t (ht:t<r.tasks.length),t<k+1->1<=r.tasks[t].state/\r.tasks[t].state<=6):=by
     intro t ht dE;by_cases e:t=k
     ·subst e;exact Ct.1 tk
     ·exact aY.out t ht Bl
    go_wp2_with (go_at_call 90;refine (Cd _ _ _ _).mono ?_;rintro e w' ⟨rfl,rfl⟩)
    exact ⟨⟨k+1,Bl,by go_num,S⟩,clM⟩
  ·have aB:¬ (k:Int)<(r.tasks.length:Int):=Bl;have aZ:k=r.tasks.length:=Bl;subst aZ;have HT:=aY;go_wp2;clear X_0 X_1 X_2 X_3 X_4 X_5 X_6 X_7 X_l aY aA hk aB;go_loopw [4] (fun i wr=>∃ k:Nat,k<=r.tasks.length/\i = J U k/\Hid (∀ t,t<k->Hx r t)/\Below w1 w1 wr) (fun i _=>r.tasks.length - (intOf i).toNat);case atStart=>exact ⟨0,Ag _,rfl,fun t ht=>absurd ht Bl,Bs _ _⟩
   case round =>
    obtain ⟨k,hk,rfl,aY,hb⟩:=hrel;replace X:=X.below hb;replace B0:=Bv B0 hb;obtain ⟨X_0,X_1,X_2,X_3,X_4,X_5,X_6,X_7,X_l⟩:=X.g8;by_cases aA:k<r.tasks.length
    ·have aB:(k:Int)<(r.tasks.length:Int):=Bl;have C:=Zn r (⟨A1,n1,c1⟩,⟨A2,r.tasks.length,c2⟩) k wr E2.out E3.out aA (HT.out k aA aA) (HR.out _ B0);exact Ai7
    ·have aB:¬ (k:Int)<(r.tasks.length:Int):=Bl;have aZ:k=r.tasks.length:=Bl;subst aZ;have HF:=Br (Abr A1_.out E2.out E3.out aY.out);have aM:=Cw wr;have C:=fun u:J2 wr=>Pz r (⟨A1,n1,c1⟩,⟨A2,r.tasks.length,c2⟩) u.1 fL (fun x hx=>by
      obtain ⟨t,ht,rfl⟩:=List.getElem_of_mem hx;exact HT.out t ht ht) (HR.out _ (Bv B0 u.2))
     have C2:=Br C;clear C;generalize stL r.tasks=S at *
     have HG:Hid (tf (Hn r)=((r.state == S) && (r.state != 0))):=by
      show tf (Hn r)=_;rw [HF.out,Bool.eq_iff_iff];simp
     clear HF;cases q1:(r.state == S)<;>cases q2:(r.state != 0)
     all_goals
      rw [q1,q2] at HG;go_wp2;refine Bz Bm Bm ?_;repeat (go_big_quiet_step ((go_at_call 286;(with_reducible exact Jf C2.out))))
      refine Ak ?_;rintro _ ⟨⟨w2,b2⟩,rfl⟩;clear aM;go_wp2;go_ret;exact ⟨Bx HG.out.symm,Bv B0 b2⟩
theorem Ll {y:Yard} (hl:Ca y<=2000000) (k:Nat):Ho (y.runs.take k)+y.runs.length<=2000000/\Ho (y.runs.take k)+(Ch y).length<=2000000:=by
 have h1:=Aff (y.runs.take k);have h2:((y.runs.take k).map fun r=>r.tasks.length).sum<=(y.runs.map fun r=>r.tasks.length).sum:=by
  conv=>rhs;rw [<-List.take_append_drop k y.runs,List.map_append,List.sum_append]
  omega
 have h3:(y.runs.map fun r=>r.tasks.length).sum+y.runs.length<=Ek Co y.runs:=by
  unfold Ek;have:∀ l:List Run,(l.map fun r=>r.tasks.length).sum<=(l.map Co).sum:=by
   intro l;induction l with
   | nil=>simp
   | cons r l ih =>
    simp only [List.map_cons,List.sum_cons];have:r.tasks.length<=Co r:=by unfold Co;have:=Ck D7 r.tasks;omega
    omega
  have:=this y.runs
  omega
 have h4:=Ik y.shelf y.shelf.length;rw [List.take_length] at h4;unfold Ca at hl;unfold Ch;omega
theorem Abs {y:Yard} (hl:Ca y<=2000000):Gw y<=2000000:=by
 have h1:=(Ll hl y.runs.length).2;rw [List.take_length] at h1;have h2:=Pe y (Ch y);unfold Gw;omega
theorem P7 (y:Yard) (s:Sl×Sl) (w:World) (hl:Ca y<=2000000) (h:Bw.rd w w y s) :
  Calls Am 144 #[Ds y s] w fun e w'=>e = .returned (J U (Gw y:Nat))/\Below w w w':=by
 have HR:=Br (show ∀ W,Below w w W->Bw.rd W W y s from fun W hW=>Bw.rd_more (Bw.rd_below h hW) hW.size);obtain ⟨⟨A1,n1,c1⟩,⟨A2,n2,c2⟩⟩:=s;obtain rfl:n2=y.runs.length:=RdL.at1 (s:=⟨A2,n2,c2⟩) h.2;have h2:RdL Cf w w (Aa A2 y.runs.length c2) y.runs:=h.2;have bS:y.runs.length<=2000000:=Ah (Ck Co _) (by unfold Ca at hl;omega);have HB:=Br (Ll hl);have HD:=Br (show Gw y=Ho y.runs+Gu y (Ch y) from rfl);clear h;obtain ⟨W,aH,X,B0⟩:=bx1 w 31 [J U y.now,J U y.seq,Aa A1 n1 c1,Aa A2 y.runs.length c2];have X_l:=X.lt;go_enter func144,ntmps144;go_wp2;rw [<-aH.out];clear aH;go_loopw [3,11] (fun n i wr=>∃ k:Nat,k<=y.runs.length/\i = J U k/\n = J U (Ho (y.runs.take k):Nat)/\Below W W wr) (fun _ i _=>y.runs.length - (intOf i).toNat);case atStart=>exact ⟨0,Ag _,rfl,rfl,Bs _ _⟩
 case round =>
  obtain ⟨k,hk,rfl,rfl,hb⟩:=hrel;have tD:=(HB.out k).1;by_cases aA:k<y.runs.length
  ·have aB:(k:Int)<(y.runs.length:Int):=Bl;obtain ⟨b,o,⟨s1,⟨At,nt,ct⟩⟩,rfl,aJ,cP,c0_,c1_,c2_,c3_,c4_,c5_,c6_,c7_⟩:=(h2.below (Bv B0 hb)).run aA;obtain rfl:nt=y.runs[k].tasks.length:=RdL.at1 (s:=⟨At,nt,ct⟩) cP.2;have uR:=Hf hl aA;have bE:b<wr:=Ai aJ (Bv B0 hb).size;by_cases q:y.runs[k].state=1
   ·have S:=Br (Ve aA q);have q':(y.runs[k].state == 1)=true:=beq_iff_eq.2 q;clear q;go_wp2;refine ⟨⟨k+1,Bl,by go_num,by rw [S.out];go_num,?_⟩,clM⟩;exact Bv hb (by repeat (first | exact Bs _ _ | refine Ae ?_ Bp _))
   ·have S:=Br (X0 aA q);have q':(y.runs[k].state == 1)=false:=beq_eq_false_iff_ne.2 q;clear q;go_wp2;refine ⟨⟨k+1,Bl,by go_num,by rw [S.out],?_⟩,clM⟩;exact Bv hb (by repeat (first | exact Bs _ _ | refine Ae ?_ Bp _))
  ·have aB:¬ (k:Int)<(y.runs.length:Int):=Bl;have aZ:k=y.runs.length:=Bl;subst aZ;have hbe:=(HB.out y.runs.length).2;rw [List.take_length] at hbe tD;replace X:=X.below hb;replace B0:=Bv B0 hb;clear X_l;obtain ⟨X_0,X_1,X_2,X_3,X_l⟩:=X.g4;have C:=N9 y (⟨A1,n1,c1⟩,⟨A2,y.runs.length,c2⟩) wr hl (HR.out _ B0);have HW:=Br (Pe y);generalize Ch y=L at *
   go_wp2_with fail
   refine C.mono ?_;rintro e w2 ⟨v,rfl,o2,b2⟩;obtain ⟨A3,c3,rfl,-⟩:=id (Rd.of_own o2);replace X:=X.below b2;replace B0:=Bv B0 b2;clear X_0 X_1 X_2 X_3 X_l;go_wp2;generalize Ho y.runs=M at *
   go_loopw [3,27] (fun n i wr=>∃ k:Nat,k<=L.length/\i = J U k/\n = J U ((M+Gu y (L.take k):Nat))/\Below w2 w2 wr) (fun _ i _=>L.length - (intOf i).toNat);case atStart=>exact ⟨0,Ag _,rfl,by simp [Gu],Bs _ _⟩
   case round =>
    obtain ⟨k,hk,rfl,rfl,aK⟩:=hrel;have dX:=HW.out (L.take k);rw [Az] at dX;replace X:=X.below aK;obtain ⟨X_0,X_1,X_2,X_3,X_l⟩:=X.g4;by_cases aA:k<L.length
    ·have aB:(k:Int)<(L.length:Int):=Bl;obtain ⟨b,o,_,gX,aJ,_,d0,d1,d2,d3⟩:=RdL.entry (Lj (Rd.of_own (o2.below aK))) aA;subst gX;have ha:Below wr wr (wr.alloc (.cells #[J U L[k].prio,J U L[k].seq,J U L[k].run,J U L[k].task] 71)):=Bu;have C:=P4 y (⟨A1,n1,c1⟩,⟨A2,y.runs.length,c2⟩) L[k] _ hl (HR.out _ (Bv (Bv B0 aK) ha));have HY:=Br (Vd (y:=y) aA);have HN:=Br (Xy (y:=y) aA);cases q:Fc y L[k]
     ·have S:=Br (HY.out q);exact Aku
     ·have S:=Br (HN.out q);exact Aku
    ·have aB:¬ (k:Int)<(L.length:Int):=Bl;have aZ:k=L.length:=Bl;subst aZ;go_wp2;go_ret;exact ⟨Cy (by have:=HD.out;omega),Bv B0 aK⟩
theorem P8 (y:Yard) (s:Sl×Sl) (w:World) (hl:Ca y<=2000000) (h:Bw.rd w w y s) :
  Calls Am 236 #[Ds y s] w fun e w'=>e = .returned (J U (Gw y:Nat))/\Below w w w':=by
 have HR:=Br (show ∀ W,Below w w W->Bw.rd W W y s from fun W hW=>Bw.rd_more (Bw.rd_below h hW) hW.size);obtain ⟨⟨A1,n1,c1⟩,⟨A2,n2,c2⟩⟩:=s;obtain rfl:n1=y.shelf.length:=RdL.at1 (s:=⟨A1,n1,c1⟩) h.1;obtain rfl:n2=y.runs.length:=RdL.at1 (s:=⟨A2,n2,c2⟩) h.2;have h1:RdL (Dt.list By) w w (Aa A1 y.shelf.length c1) y.shelf:=h.1;have h2:RdL Cf w w (Aa A2 y.runs.length c2) y.runs:=h.2;have bS:y.runs.length<=2000000:=Ah (Ck Co _) (by unfold Ca at hl;omega);have hls:y.shelf.length<=2000000:=Ah (Ck Cn _) (by unfold Ca at hl;omega);have HE:=Br (show ∀ k (hk:k<y.shelf.length),y.shelf[k].length<=2000000 from fun k hk=>by
  have:=Dm (cnt:=Cn) (Aw hk)
  have h2:y.shelf[k].length<=Cn y.shelf[k]:=Ck D4 _;unfold Ca at hl;omega)
 have HB:=Br (Ll hl);have HD:=Br (show Gw y=Ho y.runs+Gu y y.shelf.flatten from rfl);have HW:=Br (show ∀ k,Ho y.runs+Gu y (y.shelf.take k).flatten<=4000000 from fun k=>by
  have h3:=(Ll hl y.runs.length).2;rw [List.take_length] at h3;have h4:=Ik y.shelf k;have h5:=Pe y (y.shelf.take k).flatten;unfold Ca at hl;omega)
 clear h;obtain ⟨W,aH,X,B0⟩:=bx1 w 31 [J U y.now,J U y.seq,Aa A1 y.shelf.length c1,Aa A2 y.runs.length c2];go_enter func236,ntmps236;go_wp2;rw [<-aH.out];clear aH;obtain ⟨X_0,X_1,X_2,X_3,X_l⟩:=X.g4;go_loop [3,4] (fun n i=>∃ k:Nat,k<=y.runs.length/\i = J U k/\n = J U (Ho (y.runs.take k):Nat)) (fun _ i=>y.runs.length - (intOf i).toNat);case atStart=>exact ⟨0,Ag _,rfl,rfl⟩
 case round =>
  obtain ⟨k,hk,rfl,rfl⟩:=hrel;have tD:=(HB.out k).1;by_cases aA:k<y.runs.length
  ·have aB:(k:Int)<(y.runs.length:Int):=Bl;obtain ⟨b,o,⟨s1,⟨At,nt,ct⟩⟩,rfl,aJ,cP,c0_,c1_,c2_,c3_,c4_,c5_,c6_,c7_⟩:=(h2.below B0).run aA;obtain rfl:nt=y.runs[k].tasks.length:=RdL.at1 (s:=⟨At,nt,ct⟩) cP.2;have uR:=Hf hl aA;by_cases q:y.runs[k].state=1
   ·have S:=Br (Ve aA q);have q':(y.runs[k].state == 1)=true:=beq_iff_eq.2 q;clear q;exact Ann
   ·have S:=Br (X0 aA q);have q':(y.runs[k].state == 1)=false:=beq_eq_false_iff_ne.2 q;clear q;go_wp2;exact ⟨⟨k+1,Bl,by go_num,by rw [S.out]⟩,clM⟩
  ·have aB:¬ (k:Int)<(y.runs.length:Int):=Bl;have aZ:k=y.runs.length:=Bl;subst aZ;have HS:=Br (show Ho (y.runs.take y.runs.length)=Ho y.runs by rw [List.take_length]);go_wp2;clear X_0 X_1 X_2 X_3 X_l tD aA hk aB;go_loopw [3,5] (fun n i wr=>∃ k:Nat,k<=y.shelf.length/\i = J U k/\n = J U (Ho y.runs+Gu y (y.shelf.take k).flatten:Nat)/\Below W W wr) (fun _ i _=>y.shelf.length - (intOf i).toNat);case atStart=>exact ⟨0,Ag _,rfl,by simp [Gu],Bs _ _⟩
   case round =>
    obtain ⟨k,hk,rfl,rfl,hb⟩:=hrel;have hwk:=HW.out k;by_cases aA:k<y.shelf.length
    ·have aB:(k:Int)<(y.shelf.length:Int):=Bl;have hez:=HE.out k aA;have qC:=Br (L9 y.shelf k aA);have hwk1:=HW.out (k+1);rw [qC.out,Pw] at hwk1;have HWj:=Br (show ∀ j,Gu y (y.shelf[k].take j)<=y.shelf[k].length from fun j=>Ah (Pe _ _) (by rw [Az];omega));have X1:=X.below hb;have sZ:wr.cell? ⟨w,2,Ab⟩=Ac (Aa A1 y.shelf.length c1):=X1.cell 2 _ rfl;have uC:=X1.lt;go_wp2;clear sZ uC X1;go_loopw [3,6] (fun n i wq=>∃ j:Nat,j<=y.shelf[k].length/\i = J U j/\n = J U (Ho y.runs+Gu y (y.shelf.take k).flatten+Gu y (y.shelf[k].take j):Nat)/\Below W W wq) (fun _ i _=>y.shelf[k].length - (intOf i).toNat);case atStart=>exact ⟨0,Ag _,rfl,by simp [Gu],hb⟩
     case round =>
      clear hb;obtain ⟨j,hj,rfl,rfl,hb⟩:=hrel;have hsj:=HWj.out j;have X:=X.below hb;obtain ⟨X_0,X_1,X_2,X_3,X_l⟩:=X.g4;obtain ⟨b,o,⟨As,ns,cs⟩,mR,aJ,hr,d0⟩:=(h1.below (Bv B0 hb)).entryS aA;obtain rfl:ns=y.shelf[k].length:=RdL.at1 (s:=⟨As,ns,cs⟩) hr;subst mR;have bE:b<wr:=Ai aJ (Bv B0 hb).size;by_cases dK:j<y.shelf[k].length
      ·have jF:(j:Int)<(y.shelf[k].length:Int):=Bl;obtain ⟨b2,o2,_,hAs,mE,_,f0,f1,f2,f3⟩:=RdL.entry hr dK;subst hAs;have eB:b2<wr:=Ai mE (Bv B0 hb).size;have aM:=Cw wr;have C:=Br (show ∀ u:J2 wr,_ from fun u=>P5 y (⟨Ac ⟨b,o,Ab⟩,y.shelf.length,c1⟩,⟨A2,y.runs.length,c2⟩) y.shelf[k][j] u.1 hl (HR.out _ (Bv (Bv B0 hb) u.2)));have HY:=Br (Vd (y:=y) dK);have HN:=Br (Xy (y:=y) dK);cases q:Fc y y.shelf[k][j]
       ·have S:=Br (HY.out q);exact Ajy
       ·have S:=Br (HN.out q);exact Ajy
      ·have jF:¬ (j:Int)<(y.shelf[k].length:Int):=Bl;have hj':j=y.shelf[k].length:=Bl;subst hj';have S:=Br (show Ho y.runs+Gu y (y.shelf.take (k+1)).flatten=Ho y.runs+Gu y (y.shelf.take k).flatten+Gu y (y.shelf[k].take y.shelf[k].length) by rw [qC.out,Pw,List.take_length];omega);go_wp2;exact ⟨⟨k+1,Bl,by go_num,by rw [S.out],hb⟩,clM⟩
    ·have aB:¬ (k:Int)<(y.shelf.length:Int):=Bl;have aZ:k=y.shelf.length:=Bl;subst aZ;have X1:=X.below hb;have sZ:wr.cell? ⟨w,2,Ab⟩=Ac (Aa A1 y.shelf.length c1):=X1.cell 2 _ rfl;have uC:=X1.lt;go_wp2;go_ret;exact ⟨Cy (by have:=HD.out;omega),Bv B0 hb⟩
theorem OwL.grown {α:Type} {d:Dt α} {w w':World} {F:List Nat} {v:Value} {l:List α} {row:Option Nat} (h:OwL d w F v l) (hg:w.grownBy w' row) (hd:∀ b∈F,row≠Ac b):OwL d w' F v l :=
 h.keep hg.size fun b hb=>hg.block b (h.lt b hb) (fun e=>hd b hb e.symm)
def CopyYPost (y:Yard) (w:World) (e:Ending) (w':World):Prop :=
 ∃ (s1 s2:Sl) (F1:List Nat) (base:Nat),e = .returned (Ds y (s1,s2))/\OwL (Dt.list By) w' F1 s1.v y.shelf/\(∀ b∈F1,w<=b/\b<base)/\w.heap.size+1<base/\base<=w'.heap.size/\Bls Cf 67 w' base s2.v y.runs/\Below w w w'
theorem CopyYPost.own {y:Yard} {w w':World} {e:Ending} (h:CopyYPost y w e w'):Dv Bw Ds y w e w':=by
 obtain ⟨s1,s2,F1,base,rfl,h1,h2,h3,_,⟨rs,hm,hB⟩,h4⟩:=h;obtain ⟨F2,h5,h6⟩:=hB.owl hm;refine ⟨(s1,s2),F1 ++ F2,rfl,⟨F1,F2,rfl,?_,h1,h5⟩,fun b hb=>?_,h4⟩
 ·rw [Ax];refine ⟨h1.nodup,h5.nodup,fun u hu u' hu' e=>?_⟩
  have:=h2 u hu
  have:=h6 u' hu'
  omega
 ·rcases Bi.1 hb with hb | hb
  ·exact (h2 b hb).1
  ·have:=h6 b hb;omega
theorem Bls.below {α:Type} {d:Dt α} {E:TypeId} {w w':World} {base:Nat} {v:Value} {l:List α} (h:Bls d E w base v l) (hb:Below w w w'):Bls d E w' base v l:=by
 obtain ⟨rs,hm,hB⟩:=h;exact ⟨rs,hm,hB.below hb⟩
theorem Bls.setOther {α:Type} {d:Dt α} {E:TypeId} {w:World} {base:Nat} {v:Value} {l:List α} (h:Bls d E w base v l) {a:Addr} (ha:a.block<base) (u:Value):Bls d E (w.setCell a u) base v l:=by
 obtain ⟨rs,hm,hB⟩:=h;exact ⟨rs,hm,hB.setOther ha u⟩
theorem Ks (y:Yard) (s:Sl×Sl) (w:World) (hl:Ca y<=2000000) (h:Bw.rd w w y s) :
  Calls Am 73 #[Ds y s] w (CopyYPost y w):=by
 obtain ⟨⟨A1,n1,c1⟩,⟨A2,n2,c2⟩⟩:=s;obtain rfl:n1=y.shelf.length:=RdL.at1 (s:=⟨A1,n1,c1⟩) h.1;obtain rfl:n2=y.runs.length:=RdL.at1 (s:=⟨A2,n2,c2⟩) h.2;have h1:RdL (Dt.list By) w w (Aa A1 y.shelf.length c1) y.shelf:=h.1;have h2:RdL Cf w w (Aa A2 y.runs.length c2) y.runs:=h.2;have bS:y.runs.length<=2000000:=Ah (Ck Co _) (by unfold Ca at hl;omega);have hls:y.shelf.length<=2000000:=Ah (Ck Cn _) (by unfold Ca at hl;omega);have HE:=Br (show ∀ k (hk:k<y.shelf.length),y.shelf[k].length<=2000000 from fun k hk=>by
  have:=Dm (cnt:=Cn) (Aw hk)
  have h2:y.shelf[k].length<=Cn y.shelf[k]:=Ck D4 _;unfold Ca at hl;omega)
 have HC:=Br (show ∀ k (hk:k<y.runs.length),Co y.runs[k]<=2000000 from fun k hk=>by
  have:=Dm (cnt:=Co) (Aw hk)
  unfold Ca at hl;omega)
 clear h;obtain ⟨W,aH,X,Z,O,B0⟩:=bx3 w 31 [J U y.now,J U y.seq,Aa A1 y.shelf.length c1,Aa A2 y.runs.length c2] 31 [J U 0,J U 0,Aa Ab 0 0,Aa Ab 0 0] 31 [J U y.now,J U y.seq,Aa Ab 0 0,Aa Ab 0 0];obtain ⟨i0,aQ,aU,aS,aR⟩:=info_parts Nr;obtain ⟨e0,he0,ez0,ez1,ez2⟩:=info_parts Gp;obtain ⟨j0,bX,jz0,jz1,jz2⟩:=info_parts Kn;go_enter func73,ntmps73;go_wp2;rw [<-aH.out];clear aH;have mQ:w.heap.size+3<=W.heap.size:=O.lt;go_loopw [16] (fun i wr=>∃ (k:Nat) (v:Value),k<=y.shelf.length/\i = J U k/\Hid (Bls (Dt.list By) 74 wr (w+3) v (y.shelf.take k))/\DBox w [J U y.now,J U y.seq,Aa A1 y.shelf.length c1,Aa A2 y.runs.length c2] wr/\DBox (w+1) [J U 0,J U 0,Aa Ab 0 0,Aa Ab 0 0] wr/\DBox (w+1+1) [J U y.now,J U y.seq,v,Aa Ab 0 0] wr/\Below w w wr/\w.heap.size+3<=wr.heap.size) (fun i _=>y.shelf.length - (intOf i).toNat);case atStart=>exact ⟨0,_,Ag _,rfl,⟨[],rfl,Bld.nil _ _ _ _⟩,X,Z,O,B0,mQ⟩
 case round =>
  clear X Z O B0 mQ;obtain ⟨k,v,hk,rfl,jX,X,Z,O,hb,bL⟩:=hrel;obtain ⟨X_0,X_1,X_2,X_3,X_l⟩:=X.g4;obtain ⟨O_0,O_1,O_2,O_3,O_l⟩:=O.g4;have O_f:=O.free;by_cases aA:k<y.shelf.length
  ·have aB:(k:Int)<(y.shelf.length:Int):=Bl;obtain ⟨b,o,⟨As,ns,cs⟩,mR,aJ,hr,d0⟩:=(h1.below hb).entryS aA;obtain rfl:ns=y.shelf[k].length:=RdL.at1 (s:=⟨As,ns,cs⟩) hr;subst mR;have bE:b<wr:=Ai aJ hb.size;have hez:=HE.out k aA;obtain ⟨rs,hm,hB⟩:=jX.out;have bK:rs.length=k:=by have:=congrArg List.length hm;simpa [Nat.min_eq_left hk] using this
   have hrl':rs.length<=2000000:=Bl;have Hrl:=Br bK;clear bK;have hO:=hB.ow;have aC:v.ownBlock≠Ac (w.heap.size+1+1):=fun e=>by have:=hO.within _ e;omega
   have cP:=Br (show ∀ W,Below wr wr W->RdL By W W (Sl.v ⟨As,y.shelf[k].length,cs⟩) y.shelf[k] from fun W hW=>RdL.more (RdL.below (RdL.more hr hb.size) hW) hW.size);go_wp2;refine Dh (fun w'=>w'.cell? ⟨w+1+1,2,Ab⟩=Ac v) 7 Bm ?_ (fun hHeld=>?_)
   ·simpa [go_sem] using O_2
   refine aT 0 hHeld ?_;try simp only [pS]
   refine aT 1 hHeld ?_;try simp only [pS]
   refine aT 2 hHeld ?_;try simp only [pS]
   refine oT 3 (fun K hK=>?_)
   (go_simp;refine (Jj y.shelf[k] ⟨As,y.shelf[k].length,cs⟩ _ hez (cP.out _ (Bs _ _).drew)).mono ?_;rintro e w2 ⟨s2,F2,rfl,o2,n2,b2⟩;(try dsimp only [slV]);have B12:=Bv ((Bs wr wr).drew) b2;have z2:=B12.size;simp only [World.size_drew] at n2;have O2:=O.below B12;have X2:=X.below B12;have k0:w2.cell? ⟨w+1+1,2,Ab⟩=Ac v:=O2.cell 2 _ rfl;have d2f:=O2.free;have d2l:=O2.lt;go_simp)
   refine hK.out _ _ (fun _=>?_) ?_
   ·exact k0
   clear hK K;try simp only [pS]
   refine oT 4 (fun K hK=>?_);go_simp;refine hK.out _ _ (fun _=>?_) ?_
   ·(first | assumption | go_keep)
   clear hK K;try simp only [pS]
   refine oT 5 (fun K hK=>?_)
   (refine Gs _ (Dt.list By).enc Bq (by rfl) (.tmp 21) (.tmp 24) (by rfl) underlying28 aQ aU aS aR (by rfl) (v:=v) (l:=rs) (by rfl) (hO.below (B12.alloc Bl _)) (by rfl) (Rd.one (Dt.list By).enc _ _ (y.shelf[k],s2) Bo rfl 1 (Bt _) (Nat.lt_succ_self _)) Bl Bo Bq (by (try simp only [Bj]);omega) ?_;intro v5 w5 o5 g5 f5;obtain ⟨A5,c5,rfl,-⟩:=id (Rd.of_own o5);simp only [Bd,List.length_singleton] at o5 f5;have dZ:=(Bs w2 w2).alloc (Bt _) (.cells #[Aa s2.a s2.n s2.c] 74);have O5:=(O2.below dZ).off g5 (fun e=>aC e.symm);have m0:w5.cell? ⟨w+1+1,2,Ab⟩=Ac v:=O5.cell 2 _ rfl;have X5:=(X2.below dZ).off g5 (fun e=>by have:=hO.within _ e.symm;omega);have fO:=O5.free;have lO:=O5.lt)
   refine hK.out _ _ (fun _=>?_) ?_
   ·exact m0
   clear hK K;try simp only [pS]
   refine oT 6 (fun K hK=>?_);go_simp;refine hK.out _ _ (fun _=>?_) ?_
   ·exact m0
   clear hK K;try simp only [pS]
   refine oT 7 (fun K hK=>?_);go_simp;refine hK.out _ _ (fun aC=>absurd rfl aC) ?_;clear hK K;try simp only [pS]
   refine Eh Bm ?_ _;go_wp2;have Z5:=((Z.below B12).below dZ).off g5 (fun e=>by have:=hO.within _ e.symm;omega);have hP:=Bld.push1 (d:=Dt.list By) hB B12 o2 (fun b aX=>by have:=n2 b aX;omega) bL dZ o5 g5 f5;have W5:=((hb.trans (B12.mono hb.size)).alloc Bl (.cells #[Aa s2.a s2.n s2.c] 74)).grown g5 (by (try simp only [Bj]);omega) (fun g hg=>by have:=hO.within g hg;omega);have S:Hid (Bls (Dt.list By) 74 (w5.setCell ⟨w+1+1,2,Ab⟩ (Aa A5 (rs.length+1) c5)) (w+3) (Aa A5 (rs.length+1) c5) (y.shelf.take (k+1))):=⟨rs ++ [(y.shelf[k],s2)],by rw [List.map_append,hm,Cp y.shelf k aA];rfl,hP.setOther (a:=⟨w+1+1,2,Ab⟩) (by show w.heap.size+1+1<_;omega) _⟩
   have g5s:=g5.size;simp only [Bj] at g5s;have SX:=X5.setOther (a:=⟨w+1+1,2,Ab⟩) (by show w.heap.size≠w.heap.size+1+1;omega) (Aa A5 (rs.length+1) c5);have SZ:=Z5.setOther (a:=⟨w+1+1,2,Ab⟩) (by show w.heap.size+1≠w.heap.size+1+1;omega) (Aa A5 (rs.length+1) c5);have SO:DBox (w+1+1) [J U y.now,J U y.seq,Aa A5 (rs.length+1) c5,Aa Ab 0 0] (w5.setCell ⟨w+1+1,2,Ab⟩ (Aa A5 (rs.length+1) c5)):=O5.set 2 Bo _;have SW:Below w w (w5.setCell ⟨w+1+1,2,Ab⟩ (Aa A5 (rs.length+1) c5)):=W5.setCell (by show w.heap.size<=w.heap.size+1+1;omega) _;have SS:w.heap.size+3<=(w5.setCell ⟨w+1+1,2,Ab⟩ (Aa A5 (rs.length+1) c5)).heap.size:=by simp [World.setCell];omega
   first
    | exact ⟨⟨k+1,Bl,Bo,Aa A5 (rs.length+1) c5,S,SX,SZ,SO,SW,by simpa using SS⟩,clM⟩
    | exact ⟨⟨k+1,Aa A5 (rs.length+1) c5,Bl,by go_num,S,SX,SZ,SO,SW,SS⟩,clM⟩
    | (refine ⟨?_,clM⟩;(repeat apply Exists.intro);refine ⟨?_,clR⟩;exact ⟨k+1,Aa A5 (rs.length+1) c5,Bl,by go_num,S,SX,SZ,SO,SW,SS⟩)
  ·have aB:¬ (k:Int)<(y.shelf.length:Int):=Bl;have aZ:k=y.shelf.length:=Bl;obtain ⟨F1,⟨⟨A9,n9,c9⟩,rfl,OS⟩,nS⟩:∃ F1,(∃ s:Sl,v = Aa s.a s.n s.c/\OwL (Dt.list By) wr F1 s.v y.shelf) /\ ∀ b∈F1,w+3<=b:=Akq
   go_wp2;clear X_0 X_1 X_2 X_3 X_l O_0 O_1 O_2 O_3 O_l O_f aA aB aZ hk jX;obtain ⟨ws,sD⟩:∃ ws,ws=wr:=⟨_,rfl⟩
   rw [<-sD] at hb X Z O OS bL ⊢;clear sD;have lS:∀ b∈F1,b<ws:=OS.lt;have hsw3:w.heap.size+3<=ws.heap.size:=bL;go_loopw [31] (fun i wr=>∃ (k:Nat) (v:Value),k<=y.runs.length/\i = J U k/\Hid (Bls Cf 67 wr ws v (y.runs.take k))/\Hid (OwL (Dt.list By) wr F1 (Aa A9 n9 c9) y.shelf)/\DBox w [J U y.now,J U y.seq,Aa A1 y.shelf.length c1,Aa A2 y.runs.length c2] wr/\DBox (w+1) [J U 0,J U 0,Aa Ab 0 0,Aa Ab 0 0] wr/\DBox (w+1+1) [J U y.now,J U y.seq,Aa A9 n9 c9,v] wr/\Below w w wr/\ws.heap.size<=wr.heap.size) (fun i _=>y.runs.length - (intOf i).toNat);case atStart=>exact ⟨0,_,Ag _,rfl,⟨[],rfl,Bld.nil _ _ _ _⟩,OS,X,Z,O,hb,Bt _⟩
   case round =>
    clear X Z O hb OS;obtain ⟨k,v,hk,rfl,jX,OS,X,Z,O,hb,kB⟩:=hrel;obtain ⟨X_0,X_1,X_2,X_3,X_l⟩:=X.g4;obtain ⟨O_0,O_1,O_2,O_3,O_l⟩:=O.g4;have O_f:=O.free;by_cases aA:k<y.runs.length
    ·have aB:(k:Int)<(y.runs.length:Int):=Bl;obtain ⟨b,o,⟨⟨A8,n8,c8⟩,⟨At,nt,ct⟩⟩,eJ,aJ,cP,e0,e1,e2,e3,e4,e5,e6,e7⟩:=(h2.below hb).run aA;subst eJ;have bE:b<wr:=Ai aJ hb.size;have HRr:=Br (show ∀ W,Below wr wr W->Cf.rd W W y.runs[k] (⟨A8,n8,c8⟩,⟨At,nt,ct⟩) from fun W hW=>Cf.rd_more (Cf.rd_below (Cf.rd_more cP hb.size) hW) hW.size);have mT:=HC.out k aA;obtain ⟨rs,hm,hB⟩:=jX.out;have bK:rs.length=k:=by have:=congrArg List.length hm;simpa [Nat.min_eq_left hk] using this
     have hrl':rs.length<=2000000:=Bl;have Hrl:=Br bK;clear bK;have hO:=hB.ow;have aC:v.ownBlock≠Ac (w.heap.size+1+1):=fun e=>by have:=hO.within _ e;omega
     have T:=DBox.new 67 [J U y.runs[k].id,J U y.runs[k].plan.prio,J U y.runs[k].plan.most,J U y.runs[k].plan.wait,J U y.runs[k].plan.tasks,Aa A8 n8 c8,J U y.runs[k].state,Aa At nt ct] wr rfl;have ha:=(Bs wr wr).alloc (Bt _) (.cells #[J U y.runs[k].id,J U y.runs[k].plan.prio,J U y.runs[k].plan.most,J U y.runs[k].plan.wait,J U y.runs[k].plan.tasks,Aa A8 n8 c8,J U y.runs[k].state,Aa At nt ct] 67);go_wp2;generalize tJ:wr.alloc (.cells #[J U y.runs[k].id,J U y.runs[k].plan.prio,J U y.runs[k].plan.most,J U y.runs[k].plan.wait,J U y.runs[k].plan.tasks,Aa A8 n8 c8,J U y.runs[k].state,Aa At nt ct] 67)=w1 at *
     clear tJ X_0 X_1 X_2 X_3 X_l O_0 O_1 O_2 O_3 O_l O_f e0 e1 e2 e3 e4 e5 e6 e7;have X1:=X.below ha;have O1:=O.below ha;have sa:=ha.size;have Tl:=T.lt;refine Dh (fun w'=>w'.cell? ⟨w+1+1,3,Ab⟩=Ac v/\w'.cell? ⟨wr,0,Ab⟩=Ac (J U y.runs[k].id)/\w'.cell? ⟨wr,1,Ab⟩=Ac (J U y.runs[k].plan.prio)/\w'.cell? ⟨wr,2,Ab⟩=Ac (J U y.runs[k].plan.most)/\w'.cell? ⟨wr,3,Ab⟩=Ac (J U y.runs[k].plan.wait)/\w'.cell? ⟨wr,4,Ab⟩=Ac (J U y.runs[k].plan.tasks)/\w'.cell? ⟨wr,5,Ab⟩=Ac (Aa A8 n8 c8)/\w'.cell? ⟨wr,6,Ab⟩=Ac (J U y.runs[k].state)/\w'.cell? ⟨wr,7,Ab⟩=Ac (Aa At nt ct)) 7 Bm ?_ (fun hHeld=>?_)
     ·exact ⟨by simpa [go_sem] using O1.cell 3 _ rfl,by simpa [go_sem] using T.cell 0 _ rfl,by simpa [go_sem] using T.cell 1 _ rfl,by simpa [go_sem] using T.cell 2 _ rfl,by simpa [go_sem] using T.cell 3 _ rfl,by simpa [go_sem] using T.cell 4 _ rfl,by simpa [go_sem] using T.cell 5 _ rfl,by simpa [go_sem] using T.cell 6 _ rfl,by simpa [go_sem] using T.cell 7 _ rfl⟩
     refine aT 0 hHeld ?_;try simp only [pS]
     refine aT 1 hHeld ?_;try simp only [pS]
     refine aT 2 hHeld ?_;try simp only [pS]
     refine oT 3 (fun K hK=>?_)
     (go_simp;refine (Ob y.runs[k] (⟨A8,n8,c8⟩,⟨At,nt,ct⟩) _ mT (HRr.out _ ha.drew)).mono ?_;rintro e w2 ⟨s2,F2,rfl,o2,n2,b2⟩;have B12:=Bv ha (Bv ((Bs w1 w1).drew) b2);have z2:=B12.size;simp only [World.size_drew] at n2;have O2:=O.below B12;have k0:w2.cell? ⟨w+1+1,3,Ab⟩=Ac v:=O2.cell 3 _ rfl;have X2:=X.below B12;have T2:=T.below (Bv ((Bs w1 w1).drew) b2);have q0:w2.cell? ⟨wr,0,Ab⟩=Ac (J U y.runs[k].id):=T2.cell 0 _ rfl;have q1:w2.cell? ⟨wr,1,Ab⟩=Ac (J U y.runs[k].plan.prio):=T2.cell 1 _ rfl;have q2:w2.cell? ⟨wr,2,Ab⟩=Ac (J U y.runs[k].plan.most):=T2.cell 2 _ rfl;have q3:w2.cell? ⟨wr,3,Ab⟩=Ac (J U y.runs[k].plan.wait):=T2.cell 3 _ rfl;have q4:w2.cell? ⟨wr,4,Ab⟩=Ac (J U y.runs[k].plan.tasks):=T2.cell 4 _ rfl;have q5:w2.cell? ⟨wr,5,Ab⟩=Ac (Aa A8 n8 c8):=T2.cell 5 _ rfl;have q6:w2.cell? ⟨wr,6,Ab⟩=Ac (J U y.runs[k].state):=T2.cell 6 _ rfl;have q7:w2.cell? ⟨wr,7,Ab⟩=Ac (Aa At nt ct):=T2.cell 7 _ rfl;have d2f:=O2.free;have d2l:=O2.lt;go_simp)
     refine hK.out _ _ (fun _=>?_) ?_
     ·exact ⟨k0,q0,q1,q2,q3,q4,q5,q6,q7⟩
     clear hK K;try simp only [pS]
     refine oT 4 (fun K hK=>?_);go_simp;refine hK.out _ _ (fun _=>?_) ?_
     ·(refine ⟨?_,?_,?_,?_,?_,?_,?_,?_,?_⟩<;>first | assumption | go_keep)
     clear hK K;try simp only [pS]
     refine oT 5 (fun K hK=>?_)
     (refine Gs _ Cf.enc Bq (by rfl) (.tmp 36) (.tmp 39) (by rfl) underlying29 bX jz0 jz1 jz2 (by rfl) (v:=v) (l:=rs) (by rfl) (hO.below (B12.alloc Bl _)) (by rfl) (Rd.one Cf.enc _ _ (y.runs[k],s2) Bo rfl 1 (Bt _) (Nat.lt_succ_self _)) Bl Bo Bq (by (try simp only [Bj]);omega) ?_;intro v5 w5 o5 g5 f5;obtain ⟨A5,c5,rfl,-⟩:=id (Rd.of_own o5);simp only [Bd,List.length_singleton] at o5 f5;have dZ:=(Bs w2 w2).alloc (Bt _) (.cells #[J U y.runs[k].id,J U y.runs[k].plan.prio,J U y.runs[k].plan.most,J U y.runs[k].plan.wait,J U y.runs[k].plan.tasks,Aa s2.1.a s2.1.n s2.1.c,J U y.runs[k].state,Aa s2.2.a s2.2.n s2.2.c] 67);have O5:=(O2.below dZ).off g5 (fun e=>aC e.symm);have m0:w5.cell? ⟨w+1+1,3,Ab⟩=Ac v:=O5.cell 3 _ rfl;have X5:=(X2.below dZ).off g5 (fun e=>by have:=hO.within _ e.symm;omega);have T5:=(T2.below dZ).off g5 (fun e=>by have:=hO.within _ e.symm;omega);have r0:w5.cell? ⟨wr,0,Ab⟩=Ac (J U y.runs[k].id):=T5.cell 0 _ rfl;have r1:w5.cell? ⟨wr,1,Ab⟩=Ac (J U y.runs[k].plan.prio):=T5.cell 1 _ rfl;have r2:w5.cell? ⟨wr,2,Ab⟩=Ac (J U y.runs[k].plan.most):=T5.cell 2 _ rfl;have r3:w5.cell? ⟨wr,3,Ab⟩=Ac (J U y.runs[k].plan.wait):=T5.cell 3 _ rfl;have r4:w5.cell? ⟨wr,4,Ab⟩=Ac (J U y.runs[k].plan.tasks):=T5.cell 4 _ rfl;have r5:w5.cell? ⟨wr,5,Ab⟩=Ac (Aa A8 n8 c8):=T5.cell 5 _ rfl;have r6:w5.cell? ⟨wr,6,Ab⟩=Ac (J U y.runs[k].state):=T5.cell 6 _ rfl;have r7:w5.cell? ⟨wr,7,Ab⟩=Ac (Aa At nt ct):=T5.cell 7 _ rfl;have fO:=O5.free;have lO:=O5.lt)
     refine hK.out _ _ (fun _=>?_) ?_
     ·exact ⟨m0,r0,r1,r2,r3,r4,r5,r6,r7⟩
     clear hK K;try simp only [pS]
     refine oT 6 (fun K hK=>?_);go_simp;refine hK.out _ _ (fun _=>?_) ?_
     ·exact ⟨m0,r0,r1,r2,r3,r4,r5,r6,r7⟩
     clear hK K;try simp only [pS]
     refine oT 7 (fun K hK=>?_);go_simp;refine hK.out _ _ (fun aC=>absurd rfl aC) ?_;clear hK K;try simp only [pS]
     refine Eh Bm ?_ _;go_wp2;have Z5:=((Z.below B12).below dZ).off g5 (fun e=>by have:=hO.within _ e.symm;omega);have OS5:=((OS.out.below B12).below dZ).grown g5 (fun b aX e=>by have:=hO.within _ e;have:=lS b aX;omega);have hP:=Bld.push1 (d:=Cf) hB B12 o2 (fun b aX=>by have:=n2 b aX;omega) kB dZ o5 g5 f5;have W5:=((hb.trans (B12.mono hb.size)).alloc Bl (.cells #[J U y.runs[k].id,J U y.runs[k].plan.prio,J U y.runs[k].plan.most,J U y.runs[k].plan.wait,J U y.runs[k].plan.tasks,Aa s2.1.a s2.1.n s2.1.c,J U y.runs[k].state,Aa s2.2.a s2.2.n s2.2.c] 67)).grown g5 (by (try simp only [Bj]);omega) (fun g hg=>by have:=hO.within g hg;omega);have S:Hid (Bls Cf 67 (w5.setCell ⟨w+1+1,3,Ab⟩ (Aa A5 (rs.length+1) c5)) ws (Aa A5 (rs.length+1) c5) (y.runs.take (k+1))):=⟨rs ++ [(y.runs[k],s2)],by rw [List.map_append,hm,Cp y.runs k aA];rfl,hP.setOther (a:=⟨w+1+1,3,Ab⟩) (by show w.heap.size+1+1<_;omega) _⟩
     have S2:Hid (OwL (Dt.list By) (w5.setCell ⟨w+1+1,3,Ab⟩ (Aa A5 (rs.length+1) c5)) F1 (Aa A9 n9 c9) y.shelf):=OwL.set OS5 (fun hm=>by have:_<=w.heap.size+1+1:=nS _ hm;omega) _;have g5s:=g5.size;simp only [Bj] at g5s;have SX:=X5.setOther (a:=⟨w+1+1,3,Ab⟩) (by show w.heap.size≠w.heap.size+1+1;omega) (Aa A5 (rs.length+1) c5);have SZ:=Z5.setOther (a:=⟨w+1+1,3,Ab⟩) (by show w.heap.size+1≠w.heap.size+1+1;omega) (Aa A5 (rs.length+1) c5);have SO:DBox (w+1+1) [J U y.now,J U y.seq,Aa A9 n9 c9,Aa A5 (rs.length+1) c5] (w5.setCell ⟨w+1+1,3,Ab⟩ (Aa A5 (rs.length+1) c5)):=O5.set 3 Bo _;have SW:Below w w (w5.setCell ⟨w+1+1,3,Ab⟩ (Aa A5 (rs.length+1) c5)):=W5.setCell (by show w.heap.size<=w.heap.size+1+1;omega) _;have SS:ws.heap.size<=(w5.setCell ⟨w+1+1,3,Ab⟩ (Aa A5 (rs.length+1) c5)).heap.size:=by simp [World.setCell];omega
     first
      | exact ⟨⟨k+1,Bl,Bo,Aa A5 (rs.length+1) c5,S,S2,SX,SZ,SO,SW,by simpa using SS⟩,clM⟩
      | exact ⟨⟨k+1,Aa A5 (rs.length+1) c5,Bl,by go_num,S,S2,SX,SZ,SO,SW,SS⟩,clM⟩
      | (refine ⟨?_,clM⟩;(repeat apply Exists.intro);refine ⟨?_,clR⟩;exact ⟨k+1,Aa A5 (rs.length+1) c5,Bl,by go_num,S,S2,SX,SZ,SO,SW,SS⟩)
    ·have aB:¬ (k:Int)<(y.runs.length:Int):=Bl;have aZ:k=y.runs.length:=Bl;obtain ⟨⟨A10,n10,c10⟩,rfl,OR⟩:∃ s:Sl,v = Aa s.a s.n s.c/\Bls Cf 67 wr ws s.v y.runs:=Alb
     have hws3:=hsw3;have Z_f:=Z.free;obtain ⟨Z_0,Z_1,Z_2,Z_3,Z_l⟩:=Z.g4;go_wp2;refine bodyPost_ret (v:=Ds y (⟨A9,n9,c9⟩,⟨A10,n10,c10⟩)) ?_ rfl ?_
     ·simp [Ds,results,results73,go_sem,Z_0,Z_1,Z_2,Z_3]
     ·exact Aiz
theorem Fe (y:Yard) (s:Sl×Sl) (w:World) (hl:Ca y<=2000000) (h:Bw.rd w w y s) :
  Calls Am 73 #[Ds y s] w (Dv Bw Ds y w):=(Ks y s w hl h).mono fun _ _ h=>h.own
theorem Ng (y:Yard) (s:Sl×Sl) (w:World) (hl:Ca y<=2000000) (h:Bw.rd w w y s) :
  Calls Am 100 #[Ds y s] w (CopyYPost y w):=by
 obtain ⟨⟨A1,n1,c1⟩,⟨A2,n2,c2⟩⟩:=s;obtain rfl:n1=y.shelf.length:=RdL.at1 (s:=⟨A1,n1,c1⟩) h.1;obtain rfl:n2=y.runs.length:=RdL.at1 (s:=⟨A2,n2,c2⟩) h.2;have h1:RdL (Dt.list By) w w (Aa A1 y.shelf.length c1) y.shelf:=h.1;have h2:RdL Cf w w (Aa A2 y.runs.length c2) y.runs:=h.2;have bS:y.runs.length<=2000000:=Ah (Ck Co _) (by unfold Ca at hl;omega);have hls:y.shelf.length<=2000000:=Ah (Ck Cn _) (by unfold Ca at hl;omega);have HE:=Br (show ∀ k (hk:k<y.shelf.length),y.shelf[k].length<=2000000 from fun k hk=>by
  have:=Dm (cnt:=Cn) (Aw hk)
  have h2:y.shelf[k].length<=Cn y.shelf[k]:=Ck D4 _;unfold Ca at hl;omega)
 have HC:=Br (show ∀ k (hk:k<y.runs.length),Co y.runs[k]<=2000000 from fun k hk=>by
  have:=Dm (cnt:=Co) (Aw hk)
  unfold Ca at hl;omega)
 clear h;obtain ⟨W,aH,X,Z,O,B0⟩:=bx3 w 31 [J U y.now,J U y.seq,Aa A1 y.shelf.length c1,Aa A2 y.runs.length c2] 31 [J U 0,J U 0,Aa Ab 0 0,Aa Ab 0 0] 31 [J U y.now,J U y.seq,Aa Ab 0 0,Aa Ab 0 0];obtain ⟨i0,aQ,aU,aS,aR⟩:=info_parts Nr;obtain ⟨e0,he0,ez0,ez1,ez2⟩:=info_parts Gp;obtain ⟨j0,bX,jz0,jz1,jz2⟩:=info_parts Kn;go_enter func100,ntmps100;go_wp2;rw [<-aH.out];clear aH;have mQ:w.heap.size+3<=W.heap.size:=O.lt;go_loopw [4] (fun i wr=>∃ (k:Nat) (v:Value),k<=y.shelf.length/\i = J U k/\Hid (Bls (Dt.list By) 74 wr (w+3) v (y.shelf.take k))/\DBox w [J U y.now,J U y.seq,Aa A1 y.shelf.length c1,Aa A2 y.runs.length c2] wr/\DBox (w+1) [J U 0,J U 0,Aa Ab 0 0,Aa Ab 0 0] wr/\DBox (w+1+1) [J U y.now,J U y.seq,v,Aa Ab 0 0] wr/\Below w w wr/\w.heap.size+3<=wr.heap.size) (fun i _=>y.shelf.length - (intOf i).toNat);case atStart=>exact ⟨0,_,Ag _,rfl,⟨[],rfl,Bld.nil _ _ _ _⟩,X,Z,O,B0,mQ⟩
 case round =>
  clear X Z O B0 mQ;obtain ⟨k,v,hk,rfl,jX,X,Z,O,hb,bL⟩:=hrel;obtain ⟨X_0,X_1,X_2,X_3,X_l⟩:=X.g4;obtain ⟨O_0,O_1,O_2,O_3,O_l⟩:=O.g4;have O_f:=O.free;by_cases aA:k<y.shelf.length
  ·have aB:(k:Int)<(y.shelf.length:Int):=Bl;obtain ⟨b,o,⟨As,ns,cs⟩,mR,aJ,hr,d0⟩:=(h1.below hb).entryS aA;obtain rfl:ns=y.shelf[k].length:=RdL.at1 (s:=⟨As,ns,cs⟩) hr;subst mR;have bE:b<wr:=Ai aJ hb.size;have hez:=HE.out k aA;obtain ⟨rs,hm,hB⟩:=jX.out;have bK:rs.length=k:=by have:=congrArg List.length hm;simpa [Nat.min_eq_left hk] using this
   have hrl':rs.length<=2000000:=Bl;have Hrl:=Br bK;clear bK;have hO:=hB.ow;have aC:v.ownBlock≠Ac (w.heap.size+1+1):=fun e=>by have:=hO.within _ e;omega
   have cP:=Br (show ∀ W,Below wr wr W->RdL By W W (Sl.v ⟨As,y.shelf[k].length,cs⟩) y.shelf[k] from fun W hW=>RdL.more (RdL.below (RdL.more hr hb.size) hW) hW.size);go_wp2;refine Dh (fun w'=>w'.cell? ⟨w+1+1,2,Ab⟩=Ac v/\w'.cell? ⟨w,2,Ab⟩=Ac (Aa (Ac ⟨b,o,Ab⟩) y.shelf.length c1)/\w'.cell? ⟨b,o+k,Ab⟩=Ac (Aa As y.shelf[k].length cs)) 12 Bm ?_ (fun hHeld=>?_)
   ·exact ⟨by simpa [go_sem] using O_2,by simpa [go_sem] using X_2,by simpa [go_sem] using d0⟩
   refine aT 0 hHeld ?_;try simp only [pS]
   refine aT 1 hHeld ?_;try simp only [pS]
   refine aT 3 hHeld ?_;try simp only [pS]
   refine aT 4 hHeld ?_;try simp only [pS]
   refine aT 5 hHeld ?_;try simp only [pS]
   refine aT 6 hHeld ?_;try simp only [pS]
   refine aT 7 hHeld ?_;try simp only [pS]
   refine oT 2 (fun K hK=>?_);go_simp;refine hK.out _ _ (fun _=>?_) ?_
   ·(refine ⟨?_,?_,?_⟩<;>first | assumption | go_keep)
   clear hK K;try simp only [pS]
   refine oT 8 (fun K hK=>?_)
   (refine Gs _ Cz Bq (by rfl) (.tmp 20) (.tmp 25) (by rfl) underlying74 he0 ez0 ez1 ez2 (by rfl) (v:=Aa (Ac ⟨wr,0,Ab⟩) 0 0) (l:=[]) (by rfl) (Ow.empty Cz 71 wr.drew (g:=wr) Bo) (by rfl) (Jw (cP.out _ ((Bs wr wr).drew.alloc Bo _))) Bo Bl Bq Bo ?_;intro v2 w2 o2' g2 f2;rw [List.nil_append] at o2';have B12:Below wr wr w2:=(((Bs wr wr).drew.alloc Bo _).grown g2 Bo (fun g hg=>by simp [Value.ownBlock] at hg;omega));obtain ⟨s2,F2,rfl,o2,n2⟩:=H7 o2';have O2:=O.below B12;have X2:=X.below B12;have k0:w2.cell? ⟨w+1+1,2,Ab⟩=Ac v:=O2.cell 2 _ rfl;have k1:w2.cell? ⟨w,2,Ab⟩=Ac (Aa (Ac ⟨b,o,Ab⟩) y.shelf.length c1):=X2.cell 2 _ rfl;have k2:w2.cell? ⟨b,o+k,Ab⟩=Ac (Aa As y.shelf[k].length cs):=(B12.cell (p:=⟨b,o+k,Ab⟩) bE).trans d0;have z2:=B12.size;have d2f:=O2.free;have d2l:=O2.lt)
   refine hK.out _ _ (fun _=>?_) ?_
   ·exact ⟨k0,k1,k2⟩
   clear hK K;try simp only [pS]
   refine oT 9 (fun K hK=>?_);go_simp;refine hK.out _ _ (fun _=>?_) ?_
   ·(refine ⟨?_,?_,?_⟩<;>first | assumption | go_keep)
   clear hK K;try simp only [pS]
   refine oT 10 (fun K hK=>?_)
   (refine Gs _ (Dt.list By).enc Bq (by rfl) (.tmp 19) (.tmp 27) (by rfl) underlying28 aQ aU aS aR (by rfl) (v:=v) (l:=rs) (by rfl) (hO.below (B12.alloc Bl _)) (by rfl) (Rd.one (Dt.list By).enc _ _ (y.shelf[k],s2) Bo rfl 1 (Bt _) (Nat.lt_succ_self _)) Bl Bo Bq (by (try simp only [Bj]);omega) ?_;intro v5 w5 o5 g5 f5;obtain ⟨A5,c5,rfl,-⟩:=id (Rd.of_own o5);simp only [Bd,List.length_singleton] at o5 f5;have dZ:=(Bs w2 w2).alloc (Bt _) (.cells #[Aa s2.a s2.n s2.c] 74);have O5:=(O2.below dZ).off g5 (fun e=>aC e.symm);have m0:w5.cell? ⟨w+1+1,2,Ab⟩=Ac v:=O5.cell 2 _ rfl;have X5:=(X2.below dZ).off g5 (fun e=>by have:=hO.within _ e.symm;omega);have m1:w5.cell? ⟨w,2,Ab⟩=Ac (Aa (Ac ⟨b,o,Ab⟩) y.shelf.length c1):=X5.cell 2 _ rfl;have m2:w5.cell? ⟨b,o+k,Ab⟩=Ac (Aa As y.shelf[k].length cs):=(g5.cell_far ⟨b,o+k,Ab⟩ (by simp;omega) (fun e=>by have:_<=b/\b<_:=hO.within _ e.symm;omega)).trans ((dZ.cell (p:=⟨b,o+k,Ab⟩) (by show b<_;omega)).trans k2);have fO:=O5.free;have lO:=O5.lt)
   refine hK.out _ _ (fun _=>?_) ?_
   ·exact ⟨m0,m1,m2⟩
   clear hK K;try simp only [pS]
   refine oT 11 (fun K hK=>?_);go_simp;refine hK.out _ _ (fun _=>?_) ?_
   ·exact ⟨m0,m1,m2⟩
   clear hK K;try simp only [pS]
   refine oT 12 (fun K hK=>?_);go_simp;refine hK.out _ _ (fun aC=>absurd rfl aC) ?_;clear hK K;try simp only [pS]
   refine Eh Bm ?_ _;go_wp2;have Z5:=((Z.below B12).below dZ).off g5 (fun e=>by have:=hO.within _ e.symm;omega);have hP:=Bld.push1 (d:=Dt.list By) hB B12 o2 (fun b aX=>by have:=n2 b aX;omega) bL dZ o5 g5 f5;have W5:=((hb.trans (B12.mono hb.size)).alloc Bl (.cells #[Aa s2.a s2.n s2.c] 74)).grown g5 (by (try simp only [Bj]);omega) (fun g hg=>by have:=hO.within g hg;omega);have S:Hid (Bls (Dt.list By) 74 (w5.setCell ⟨w+1+1,2,Ab⟩ (Aa A5 (rs.length+1) c5)) (w+3) (Aa A5 (rs.length+1) c5) (y.shelf.take (k+1))):=⟨rs ++ [(y.shelf[k],s2)],by rw [List.map_append,hm,Cp y.shelf k aA];rfl,hP.setOther (a:=⟨w+1+1,2,Ab⟩) (by show w.heap.size+1+1<_;omega) _⟩
   have g5s:=g5.size;simp only [Bj] at g5s;have SX:=X5.setOther (a:=⟨w+1+1,2,Ab⟩) (by show w.heap.size≠w.heap.size+1+1;omega) (Aa A5 (rs.length+1) c5);have SZ:=Z5.setOther (a:=⟨w+1+1,2,Ab⟩) (by show w.heap.size+1≠w.heap.size+1+1;omega) (Aa A5 (rs.length+1) c5);have SO:DBox (w+1+1) [J U y.now,J U y.seq,Aa A5 (rs.length+1) c5,Aa Ab 0 0] (w5.setCell ⟨w+1+1,2,Ab⟩ (Aa A5 (rs.length+1) c5)):=O5.set 2 Bo _;have SW:Below w w (w5.setCell ⟨w+1+1,2,Ab⟩ (Aa A5 (rs.length+1) c5)):=W5.setCell (by show w.heap.size<=w.heap.size+1+1;omega) _;have SS:w.heap.size+3<=(w5.setCell ⟨w+1+1,2,Ab⟩ (Aa A5 (rs.length+1) c5)).heap.size:=by simp [World.setCell];omega
   first
    | exact ⟨⟨k+1,Bl,Bo,Aa A5 (rs.length+1) c5,S,SX,SZ,SO,SW,by simpa using SS⟩,clM⟩
    | exact ⟨⟨k+1,Aa A5 (rs.length+1) c5,Bl,by go_num,S,SX,SZ,SO,SW,SS⟩,clM⟩
    | (refine ⟨?_,clM⟩;(repeat apply Exists.intro);refine ⟨?_,clR⟩;exact ⟨k+1,Aa A5 (rs.length+1) c5,Bl,by go_num,S,SX,SZ,SO,SW,SS⟩)
  ·have aB:¬ (k:Int)<(y.shelf.length:Int):=Bl;have aZ:k=y.shelf.length:=Bl;obtain ⟨F1,⟨⟨A9,n9,c9⟩,rfl,OS⟩,nS⟩:∃ F1,(∃ s:Sl,v = Aa s.a s.n s.c/\OwL (Dt.list By) wr F1 s.v y.shelf) /\ ∀ b∈F1,w+3<=b:=Akq
   go_wp2;clear X_0 X_1 X_2 X_3 X_l O_0 O_1 O_2 O_3 O_l O_f aA aB aZ hk jX;obtain ⟨ws,sD⟩:∃ ws,ws=wr:=⟨_,rfl⟩
   rw [<-sD] at hb X Z O OS bL ⊢;clear sD;have lS:∀ b∈F1,b<ws:=OS.lt;have hsw3:w.heap.size+3<=ws.heap.size:=bL;go_loopw [5] (fun i wr=>∃ (k:Nat) (v:Value),k<=y.runs.length/\i = J U k/\Hid (Bls Cf 67 wr ws v (y.runs.take k))/\Hid (OwL (Dt.list By) wr F1 (Aa A9 n9 c9) y.shelf)/\DBox w [J U y.now,J U y.seq,Aa A1 y.shelf.length c1,Aa A2 y.runs.length c2] wr/\DBox (w+1) [J U 0,J U 0,Aa Ab 0 0,Aa Ab 0 0] wr/\DBox (w+1+1) [J U y.now,J U y.seq,Aa A9 n9 c9,v] wr/\Below w w wr/\ws.heap.size<=wr.heap.size) (fun i _=>y.runs.length - (intOf i).toNat);case atStart=>exact ⟨0,_,Ag _,rfl,⟨[],rfl,Bld.nil _ _ _ _⟩,OS,X,Z,O,hb,Bt _⟩
   case round =>
    clear X Z O hb OS;obtain ⟨k,v,hk,rfl,jX,OS,X,Z,O,hb,kB⟩:=hrel;obtain ⟨X_0,X_1,X_2,X_3,X_l⟩:=X.g4;obtain ⟨O_0,O_1,O_2,O_3,O_l⟩:=O.g4;have O_f:=O.free;by_cases aA:k<y.runs.length
    ·have aB:(k:Int)<(y.runs.length:Int):=Bl;obtain ⟨b,o,⟨⟨A8,n8,c8⟩,⟨At,nt,ct⟩⟩,eJ,aJ,cP,e0,e1,e2,e3,e4,e5,e6,e7⟩:=(h2.below hb).run aA;subst eJ;have bE:b<wr:=Ai aJ hb.size;have HRr:=Br (show ∀ W,Below wr wr W->Cf.rd W W y.runs[k] (⟨A8,n8,c8⟩,⟨At,nt,ct⟩) from fun W hW=>Cf.rd_more (Cf.rd_below (Cf.rd_more cP hb.size) hW) hW.size);have mT:=HC.out k aA;obtain ⟨rs,hm,hB⟩:=jX.out;have bK:rs.length=k:=by have:=congrArg List.length hm;simpa [Nat.min_eq_left hk] using this
     have hrl':rs.length<=2000000:=Bl;have Hrl:=Br bK;clear bK;have hO:=hB.ow;have aC:v.ownBlock≠Ac (w.heap.size+1+1):=fun e=>by have:=hO.within _ e;omega
     go_wp2;refine Dh (fun w'=>w'.cell? ⟨w+1+1,3,Ab⟩=Ac v/\w'.cell? ⟨w,3,Ab⟩=Ac (Aa (Ac ⟨b,o,Ab⟩) y.runs.length c2)/\w'.cell? ⟨b,o+k * 8,Ab⟩=Ac (J U y.runs[k].id)/\w'.cell? ⟨b,o+k * 8+1,Ab⟩=Ac (J U y.runs[k].plan.prio)/\w'.cell? ⟨b,o+k * 8+2,Ab⟩=Ac (J U y.runs[k].plan.most)/\w'.cell? ⟨b,o+k * 8+3,Ab⟩=Ac (J U y.runs[k].plan.wait)/\w'.cell? ⟨b,o+k * 8+4,Ab⟩=Ac (J U y.runs[k].plan.tasks)/\w'.cell? ⟨b,o+k * 8+5,Ab⟩=Ac (Aa A8 n8 c8)/\w'.cell? ⟨b,o+k * 8+6,Ab⟩=Ac (J U y.runs[k].state)/\w'.cell? ⟨b,o+k * 8+7,Ab⟩=Ac (Aa At nt ct)) 11 Bm ?_ (fun hHeld=>?_)
     ·exact ⟨by simpa [go_sem] using O_3,by simpa [go_sem] using X_3,by simpa [go_sem] using e0,by simpa [go_sem] using e1,by simpa [go_sem] using e2,by simpa [go_sem] using e3,by simpa [go_sem] using e4,by simpa [go_sem] using e5,by simpa [go_sem] using e6,by simpa [go_sem] using e7⟩
     refine aT 0 hHeld ?_;try simp only [pS]
     refine aT 1 hHeld ?_;try simp only [pS]
     refine aT 2 hHeld ?_;try simp only [pS]
     refine aT 3 hHeld ?_;try simp only [pS]
     refine aT 4 hHeld ?_;try simp only [pS]
     refine aT 5 hHeld ?_;try simp only [pS]
     refine aT 6 hHeld ?_;try simp only [pS]
     refine oT 7 (fun K hK=>?_)
     (go_simp;refine (Iq y.runs[k] (⟨A8,n8,c8⟩,⟨At,nt,ct⟩) _ mT (HRr.out _ (Bs _ _).drew)).mono ?_;rintro e w2 ⟨s2,F2,rfl,o2,n2,b2⟩;have B12:=Bv ((Bs wr wr).drew) b2;have z2:=B12.size;simp only [World.size_drew] at n2;have O2:=O.below B12;have k0:w2.cell? ⟨w+1+1,3,Ab⟩=Ac v:=O2.cell 3 _ rfl;have X2:=X.below B12;have k1:w2.cell? ⟨w,3,Ab⟩=Ac (Aa (Ac ⟨b,o,Ab⟩) y.runs.length c2):=X2.cell 3 _ rfl;have q0:w2.cell? ⟨b,o+k * 8,Ab⟩=Ac (J U y.runs[k].id):=(B12.cell (p:=⟨b,o+k * 8,Ab⟩) bE).trans e0;have q1:w2.cell? ⟨b,o+k * 8+1,Ab⟩=Ac (J U y.runs[k].plan.prio):=(B12.cell (p:=⟨b,o+k * 8+1,Ab⟩) bE).trans e1;have q2:w2.cell? ⟨b,o+k * 8+2,Ab⟩=Ac (J U y.runs[k].plan.most):=(B12.cell (p:=⟨b,o+k * 8+2,Ab⟩) bE).trans e2;have q3:w2.cell? ⟨b,o+k * 8+3,Ab⟩=Ac (J U y.runs[k].plan.wait):=(B12.cell (p:=⟨b,o+k * 8+3,Ab⟩) bE).trans e3;have q4:w2.cell? ⟨b,o+k * 8+4,Ab⟩=Ac (J U y.runs[k].plan.tasks):=(B12.cell (p:=⟨b,o+k * 8+4,Ab⟩) bE).trans e4;have q5:w2.cell? ⟨b,o+k * 8+5,Ab⟩=Ac (Aa A8 n8 c8):=(B12.cell (p:=⟨b,o+k * 8+5,Ab⟩) bE).trans e5;have q6:w2.cell? ⟨b,o+k * 8+6,Ab⟩=Ac (J U y.runs[k].state):=(B12.cell (p:=⟨b,o+k * 8+6,Ab⟩) bE).trans e6;have q7:w2.cell? ⟨b,o+k * 8+7,Ab⟩=Ac (Aa At nt ct):=(B12.cell (p:=⟨b,o+k * 8+7,Ab⟩) bE).trans e7;have d2f:=O2.free;have d2l:=O2.lt;go_simp)
     refine hK.out _ _ (fun _=>?_) ?_
     ·exact ⟨k0,k1,q0,q1,q2,q3,q4,q5,q6,q7⟩
     clear hK K;try simp only [pS]
     refine oT 8 (fun K hK=>?_);go_simp;refine hK.out _ _ (fun _=>?_) ?_
     ·(refine ⟨?_,?_,?_,?_,?_,?_,?_,?_,?_,?_⟩<;>first | assumption | go_keep)
     clear hK K;try simp only [pS]
     refine oT 9 (fun K hK=>?_)
     (refine Gs _ Cf.enc Bq (by rfl) (.tmp 38) (.tmp 45) (by rfl) underlying29 bX jz0 jz1 jz2 (by rfl) (v:=v) (l:=rs) (by rfl) (hO.below (B12.alloc Bl _)) (by rfl) (Rd.one Cf.enc _ _ (y.runs[k],s2) Bo rfl 1 (Bt _) (Nat.lt_succ_self _)) Bl Bo Bq (by (try simp only [Bj]);omega) ?_;intro v5 w5 o5 g5 f5;obtain ⟨A5,c5,rfl,-⟩:=id (Rd.of_own o5);simp only [Bd,List.length_singleton] at o5 f5;have dZ:=(Bs w2 w2).alloc (Bt _) (.cells #[J U y.runs[k].id,J U y.runs[k].plan.prio,J U y.runs[k].plan.most,J U y.runs[k].plan.wait,J U y.runs[k].plan.tasks,Aa s2.1.a s2.1.n s2.1.c,J U y.runs[k].state,Aa s2.2.a s2.2.n s2.2.c] 67);have O5:=(O2.below dZ).off g5 (fun e=>aC e.symm);have m0:w5.cell? ⟨w+1+1,3,Ab⟩=Ac v:=O5.cell 3 _ rfl;have X5:=(X2.below dZ).off g5 (fun e=>by have:=hO.within _ e.symm;omega);have m1:w5.cell? ⟨w,3,Ab⟩=Ac (Aa (Ac ⟨b,o,Ab⟩) y.runs.length c2):=X5.cell 3 _ rfl;have r0:w5.cell? ⟨b,o+k * 8,Ab⟩=Ac (J U y.runs[k].id):=(g5.cell_far ⟨b,o+k * 8,Ab⟩ (by simp;omega) (fun e=>by have:_<=b/\b<_:=hO.within _ e.symm;omega)).trans ((dZ.cell (p:=⟨b,o+k * 8,Ab⟩) (by show b<_;omega)).trans q0);have r1:w5.cell? ⟨b,o+k * 8+1,Ab⟩=Ac (J U y.runs[k].plan.prio):=(g5.cell_far ⟨b,o+k * 8+1,Ab⟩ (by simp;omega) (fun e=>by have:_<=b/\b<_:=hO.within _ e.symm;omega)).trans ((dZ.cell (p:=⟨b,o+k * 8+1,Ab⟩) (by show b<_;omega)).trans q1);have r2:w5.cell? ⟨b,o+k * 8+2,Ab⟩=Ac (J U y.runs[k].plan.most):=(g5.cell_far ⟨b,o+k * 8+2,Ab⟩ (by simp;omega) (fun e=>by have:_<=b/\b<_:=hO.within _ e.symm;omega)).trans ((dZ.cell (p:=⟨b,o+k * 8+2,Ab⟩) (by show b<_;omega)).trans q2);have r3:w5.cell? ⟨b,o+k * 8+3,Ab⟩=Ac (J U y.runs[k].plan.wait):=(g5.cell_far ⟨b,o+k * 8+3,Ab⟩ (by simp;omega) (fun e=>by have:_<=b/\b<_:=hO.within _ e.symm;omega)).trans ((dZ.cell (p:=⟨b,o+k * 8+3,Ab⟩) (by show b<_;omega)).trans q3);have r4:w5.cell? ⟨b,o+k * 8+4,Ab⟩=Ac (J U y.runs[k].plan.tasks):=(g5.cell_far ⟨b,o+k * 8+4,Ab⟩ (by simp;omega) (fun e=>by have:_<=b/\b<_:=hO.within _ e.symm;omega)).trans ((dZ.cell (p:=⟨b,o+k * 8+4,Ab⟩) (by show b<_;omega)).trans q4);have r5:w5.cell? ⟨b,o+k * 8+5,Ab⟩=Ac (Aa A8 n8 c8):=(g5.cell_far ⟨b,o+k * 8+5,Ab⟩ (by simp;omega) (fun e=>by have:_<=b/\b<_:=hO.within _ e.symm;omega)).trans ((dZ.cell (p:=⟨b,o+k * 8+5,Ab⟩) (by show b<_;omega)).trans q5);have r6:w5.cell? ⟨b,o+k * 8+6,Ab⟩=Ac (J U y.runs[k].state):=(g5.cell_far ⟨b,o+k * 8+6,Ab⟩ (by simp;omega) (fun e=>by have:_<=b/\b<_:=hO.within _ e.symm;omega)).trans ((dZ.cell (p:=⟨b,o+k * 8+6,Ab⟩) (by show b<_;omega)).trans q6);have r7:w5.cell? ⟨b,o+k * 8+7,Ab⟩=Ac (Aa At nt ct):=(g5.cell_far ⟨b,o+k * 8+7,Ab⟩ (by simp;omega) (fun e=>by have:_<=b/\b<_:=hO.within _ e.symm;omega)).trans ((dZ.cell (p:=⟨b,o+k * 8+7,Ab⟩) (by show b<_;omega)).trans q7);have fO:=O5.free;have lO:=O5.lt)
     refine hK.out _ _ (fun _=>?_) ?_
     ·exact ⟨m0,m1,r0,r1,r2,r3,r4,r5,r6,r7⟩
     clear hK K;try simp only [pS]
     refine oT 10 (fun K hK=>?_);go_simp;refine hK.out _ _ (fun _=>?_) ?_
     ·exact ⟨m0,m1,r0,r1,r2,r3,r4,r5,r6,r7⟩
     clear hK K;try simp only [pS]
     refine oT 11 (fun K hK=>?_);go_simp;refine hK.out _ _ (fun aC=>absurd rfl aC) ?_;clear hK K;try simp only [pS]
     refine Eh Bm ?_ _;go_wp2;have Z5:=((Z.below B12).below dZ).off g5 (fun e=>by have:=hO.within _ e.symm;omega);have OS5:=((OS.out.below B12).below dZ).grown g5 (fun b aX e=>by have:=hO.within _ e;have:=lS b aX;omega);have hP:=Bld.push1 (d:=Cf) hB B12 o2 (fun b aX=>by have:=n2 b aX;omega) kB dZ o5 g5 f5;have W5:=((hb.trans (B12.mono hb.size)).alloc Bl (.cells #[J U y.runs[k].id,J U y.runs[k].plan.prio,J U y.runs[k].plan.most,J U y.runs[k].plan.wait,J U y.runs[k].plan.tasks,Aa s2.1.a s2.1.n s2.1.c,J U y.runs[k].state,Aa s2.2.a s2.2.n s2.2.c] 67)).grown g5 (by (try simp only [Bj]);omega) (fun g hg=>by have:=hO.within g hg;omega);have S:Hid (Bls Cf 67 (w5.setCell ⟨w+1+1,3,Ab⟩ (Aa A5 (rs.length+1) c5)) ws (Aa A5 (rs.length+1) c5) (y.runs.take (k+1))):=⟨rs ++ [(y.runs[k],s2)],by rw [List.map_append,hm,Cp y.runs k aA];rfl,hP.setOther (a:=⟨w+1+1,3,Ab⟩) (by show w.heap.size+1+1<_;omega) _⟩
     have S2:Hid (OwL (Dt.list By) (w5.setCell ⟨w+1+1,3,Ab⟩ (Aa A5 (rs.length+1) c5)) F1 (Aa A9 n9 c9) y.shelf):=OwL.set OS5 (fun hm=>by have:_<=w.heap.size+1+1:=nS _ hm;omega) _;have g5s:=g5.size;simp only [Bj] at g5s;have SX:=X5.setOther (a:=⟨w+1+1,3,Ab⟩) (by show w.heap.size≠w.heap.size+1+1;omega) (Aa A5 (rs.length+1) c5);have SZ:=Z5.setOther (a:=⟨w+1+1,3,Ab⟩) (by show w.heap.size+1≠w.heap.size+1+1;omega) (Aa A5 (rs.length+1) c5);have SO:DBox (w+1+1) [J U y.now,J U y.seq,Aa A9 n9 c9,Aa A5 (rs.length+1) c5] (w5.setCell ⟨w+1+1,3,Ab⟩ (Aa A5 (rs.length+1) c5)):=O5.set 3 Bo _;have SW:Below w w (w5.setCell ⟨w+1+1,3,Ab⟩ (Aa A5 (rs.length+1) c5)):=W5.setCell (by show w.heap.size<=w.heap.size+1+1;omega) _;have SS:ws.heap.size<=(w5.setCell ⟨w+1+1,3,Ab⟩ (Aa A5 (rs.length+1) c5)).heap.size:=by simp [World.setCell];omega
     first
      | exact ⟨⟨k+1,Bl,Bo,Aa A5 (rs.length+1) c5,S,S2,SX,SZ,SO,SW,by simpa using SS⟩,clM⟩
      | exact ⟨⟨k+1,Aa A5 (rs.length+1) c5,Bl,by go_num,S,S2,SX,SZ,SO,SW,SS⟩,clM⟩
      | (refine ⟨?_,clM⟩;(repeat apply Exists.intro);refine ⟨?_,clR⟩;exact ⟨k+1,Aa A5 (rs.length+1) c5,Bl,by go_num,S,S2,SX,SZ,SO,SW,SS⟩)
    ·have aB:¬ (k:Int)<(y.runs.length:Int):=Bl;have aZ:k=y.runs.length:=Bl;obtain ⟨⟨A10,n10,c10⟩,rfl,OR⟩:∃ s:Sl,v = Aa s.a s.n s.c/\Bls Cf 67 wr ws s.v y.runs:=Alb
     have hws3:=hsw3;have Z_f:=Z.free;obtain ⟨Z_0,Z_1,Z_2,Z_3,Z_l⟩:=Z.g4;go_wp2;refine bodyPost_ret (v:=Ds y (⟨A9,n9,c9⟩,⟨A10,n10,c10⟩)) ?_ rfl ?_
     ·simp [Ds,results,results100,go_sem,Z_0,Z_1,Z_2,Z_3]
     ·exact Aiz
theorem E1 (y:Yard) (s:Sl×Sl) (w:World) (hl:Ca y<=2000000) (h:Bw.rd w w y s) :
  Calls Am 100 #[Ds y s] w (Dv Bw Ds y w):=(Ng y s w hl h).mono fun _ _ h=>h.own
def Fk (n:Int):Bool:=inB n 0 1000000000
def Ff (p:Plan):Bool:=Fk p.prio && Fk p.most && Fk p.wait && Fk p.tasks && decide (p.edges.length<=31) && p.edges.all fun e=>Fk e.fr && Fk e.to
def Fn (p:Plan):Bool:=p.prio == 0 && p.most == 0 && p.wait == 0 && p.tasks == 0 && p.edges.length == 0
def Dg (d:Deed):Bool :=
 inB d.kind 1 8 &&
 (if d.kind=2\/d.kind=5\/d.kind=8 then d.run == 0 else Fk d.run) &&
 (if d.kind=3\/d.kind=4 then Fk d.task && Fk d.try_ else d.task == 0 && d.try_ == 0) &&
 (if d.kind=2 then Fk d.worker && Fk d.draw else d.worker == 0 && d.draw == 0) &&
 (if d.kind=1 then Ff d.plan else Fn d.plan)
theorem Hs (p:Plan) (s:Sl) (w:World) (h:Ce.rd w w p s) :
  Calls Am 163 #[Jo p s] w fun e w'=>e = .returned (.bool (Fn p))/\Below w w w':=by
 obtain ⟨A,n,c⟩:=s;obtain rfl:n=p.edges.length:=RdL.at1 (s:=⟨A,n,c⟩) h;have X:=DBox.new 43 [J U p.prio,J U p.most,J U p.wait,J U p.tasks,Aa A p.edges.length c] w (b:=w) rfl;have B0:Below w w (w.alloc (.cells #[J U p.prio,J U p.most,J U p.wait,J U p.tasks,Aa A p.edges.length c] 43)):=by repeat (first | exact Bs _ _ | refine Ae ?_ Bp _)
 have H:=Br (show Fn p=(p.prio == 0 && p.most == 0 && p.wait == 0 && p.tasks == 0 && p.edges.length == 0) from rfl);by_cases a0:p.prio=0;case neg =>
  have b0:(p.prio == 0)=false:=by simpa using a0
  go_enter func163,ntmps163;go_wp2;go_ret;exact ⟨Bx (by rw [H.out];simp [b0]),B0⟩
 have b0:(p.prio == 0)=true:=by simpa using a0
 clear a0;by_cases a1:p.most=0;case neg =>
  have b1:(p.most == 0)=false:=by simpa using a1
  go_enter func163,ntmps163;go_wp2;go_ret;exact ⟨Bx (by rw [H.out];simp [b0,b1]),B0⟩
 have b1:(p.most == 0)=true:=by simpa using a1
 clear a1;by_cases a2:p.wait=0;case neg =>
  have b2:(p.wait == 0)=false:=by simpa using a2
  go_enter func163,ntmps163;go_wp2;go_ret;exact ⟨Bx (by rw [H.out];simp [b0,b1,b2]),B0⟩
 have b2:(p.wait == 0)=true:=by simpa using a2
 clear a2;by_cases a3:p.tasks=0;case neg =>
  have b3:(p.tasks == 0)=false:=by simpa using a3
  go_enter func163,ntmps163;go_wp2;go_ret;exact ⟨Bx (by rw [H.out];simp [b0,b1,b2,b3]),B0⟩
 have b3:(p.tasks == 0)=true:=by simpa using a3
 clear a3;by_cases a4:p.edges.length=0;case neg =>
  have b4:((p.edges.length:Int) == 0)=false:=by rw [beq_eq_false_iff_ne];omega
  have b5:(p.edges.length == 0)=false:=by rw [beq_eq_false_iff_ne];exact a4
  go_enter func163,ntmps163;go_wp2;go_ret;exact ⟨Bx (by rw [H.out];simp [b0,b1,b2,b3,b5]),B0⟩
 have b4:((p.edges.length:Int) == 0)=true:=by rw [beq_iff_eq];omega
 have b5:(p.edges.length == 0)=true:=by rw [beq_iff_eq];exact a4
 clear a4;go_enter func163,ntmps163;go_wp2;go_ret;exact ⟨Bx (by rw [H.out];simp [b0,b1,b2,b3,b5]),B0⟩
theorem Agt {α:Type} {f:α->Bool} {l:List α} {k:Nat} (h:k<l.length) (hn:f l[k]=false):l.all f=false:=by
 rw [List.all_eq_false];exact ⟨l[k],Aw h,by simp [hn]⟩
theorem Sw {p:Plan} {k:Nat} (h:k<p.edges.length) (hn:(Fk p.edges[k].fr && Fk p.edges[k].to)=false):Ff p=false:=by
 unfold Ff;rw [Agt h hn,Bool.and_false]
theorem Tq (p:Plan) (s:Sl) (w:World) (h:Ce.rd w w p s) :
  Calls Am 162 #[Jo p s] w fun e w'=>e = .returned (.bool (Ff p))/\Below w w w':=by
 obtain ⟨A,n,c⟩:=s;obtain rfl:n=p.edges.length:=RdL.at1 (s:=⟨A,n,c⟩) h;have h2:Rd He w w (Aa A p.edges.length c) p.edges:=I2 h;clear h;have X:=DBox.new 43 [J U p.prio,J U p.most,J U p.wait,J U p.tasks,Aa A p.edges.length c] w (b:=w) rfl;have B0:Below w w (w.alloc (.cells #[J U p.prio,J U p.most,J U p.wait,J U p.tasks,Aa A p.edges.length c] 43)):=by repeat (first | exact Bs _ _ | refine Ae ?_ Bp _)
 cases b0:inB p.prio 0 1000000000;case false =>
  have H:=Br (show Ff p=false by simp [Ff,Fk,b0]);exact Ai1
 cases b1:inB p.most 0 1000000000;case false =>
  have H:=Br (show Ff p=false by simp [Ff,Fk,b0,b1]);exact Ai1
 cases b2:inB p.wait 0 1000000000;case false =>
  have H:=Br (show Ff p=false by simp [Ff,Fk,b0,b1,b2]);exact Ai1
 cases b3:inB p.tasks 0 1000000000;case false =>
  have H:=Br (show Ff p=false by simp [Ff,Fk,b0,b1,b2,b3]);exact Ai1
 by_cases a4:p.edges.length<=31;case neg =>
  have b4:(31:Int)<(p.edges.length:Int):=Bl;have H:=Br (show Ff p=false by simp [Ff,a4]);exact Ai1
 have b4:¬ (31:Int)<(p.edges.length:Int):=Bl;have HN:=Br (show Ff p=p.edges.all (fun e=>Fk e.fr && Fk e.to) by simp [Ff,Fk,b0,b1,b2,b3,a4]);go_enter func162,ntmps162;go_wp2_with (go_at_call 161;refine (Cs _ _).mono ?_;rintro e w9 ⟨rfl,rfl⟩)
 generalize (w.alloc (.cells #[J U p.prio,J U p.most,J U p.wait,J U p.tasks,Aa A p.edges.length c] 43))=W at *
 clear b0 b1 b2 b3;go_loopw [3] (fun i wr=>∃ k:Nat,k<=p.edges.length/\i = J U k/\Hid ((p.edges.take k).all (fun e=>Fk e.fr && Fk e.to)=true)/\DBox w [J U p.prio,J U p.most,J U p.wait,J U p.tasks,Aa A p.edges.length c] wr/\Below w w wr) (fun i _=>p.edges.length - (intOf i).toNat);case atStart=>exact ⟨0,Ag _,rfl,rfl,X,B0⟩
 case round =>
  clear X B0;obtain ⟨k,hk,rfl,hA,X,hb⟩:=hrel;obtain ⟨X_0,X_1,X_2,X_3,X_4,X_l⟩:=X.g5;by_cases aA:k<p.edges.length
  ·have aB:(k:Int)<(p.edges.length:Int):=Bl;obtain ⟨b,o,rfl,aJ,d0,d1⟩:=(h2.below hb).edge aA;cases q0:inB p.edges[k].fr 0 1000000000
   ·have H:=Br (Sw aA (by simp [Fk,q0]));exact Alq
   cases q1:inB p.edges[k].to 0 1000000000
   ·have H:=Br (Sw aA (by simp [Fk,q1]));exact Alq
   have S:Hid ((p.edges.take (k+1)).all (fun e=>Fk e.fr && Fk e.to)=true):=by
    show _=_;rw [List.take_succ_eq_append_getElem aA,List.all_append,hA.out];simp [Fk,q0,q1]
   go_wp2_with (go_at_call 161;refine (Cs _ _).mono ?_;rintro e w9 ⟨rfl,rfl⟩)
   exact ⟨⟨k+1,Bl,by go_num,S,X,hb⟩,clM⟩
  ·have H:=Br (show Ff p=true by
    have:=hA.out
    rw [List.take_of_length_le Bl] at this;rw [HN.out,this])
   have aB:¬ (k:Int)<(p.edges.length:Int):=Bl;go_wp2;go_ret;exact ⟨Bx H.out.symm,hb⟩
def Jk (l:List Entry) (e:Entry):List Entry:=l.takeWhile (fun x=>Fg x e) ++ e :: l.dropWhile (fun x=>Fg x e)
theorem Vr {α:Type} {p:α->Bool} : ∀ {l:List α} {k:Nat},k<=l.length->(∀ j (hj:j<l.length),j<k->p l[j]=true)->(∀ h:k<l.length,p l[k]=false)->l.takeWhile p=l.take k/\l.dropWhile p=l.drop k
 | [],k,hk,_,_=>by
  obtain rfl:k=0:=by simpa using hk
  exact ⟨rfl,rfl⟩
 | x :: l,0,_,_,h=>by
  have:=h Bo
  simp only [List.getElem_cons_zero] at this;simp [List.takeWhile_cons,List.dropWhile_cons,this]
 | x :: l,k+1,hk,ha,h=>by
  have h0:=ha 0 Bo Bl;simp only [List.getElem_cons_zero] at h0;obtain ⟨i1,i2⟩:=Vr (p:=p) (l:=l) (k:=k) (by simpa using hk) (fun j hj gB=>by have:=ha (j+1) (by simpa using hj) Bl;simpa using this) (fun mA=>by have:=h (by simpa using mA);simpa using this);simp [List.takeWhile_cons,List.dropWhile_cons,h0,i1,i2]
theorem Ud {l:List Entry} {e:Entry} {k:Nat} (hk:k<=l.length) (ha:∀ j (hj:j<l.length),j<k->Fg l[j] e=true) (h:∀ h:k<l.length,Fg l[k] e=false):Jk l e=l.take k ++ [e] ++ l.drop k:=by
 unfold Jk;obtain ⟨h1,h2⟩:=Vr (p:=fun x=>Fg x e) hk ha h;rw [h1,h2,List.append_assoc];rfl
theorem Abt (l:List Entry) (e:Entry):(Jk l e).length=l.length+1:=by
 unfold Jk;rw [Bd,List.length_cons];have:(l.takeWhile (fun x=>Fg x e) ++ l.dropWhile (fun x=>Fg x e)).length=l.length:=by rw [List.takeWhile_append_dropWhile]
 rw [Bd] at this;omega
def Gy (a b:List Entry):List Entry:=if 80<a.length+b.length then a else b.foldl Jk a
theorem Ma (b:List Entry):∀ a:List Entry,(b.foldl Jk a).length=a.length+b.length:=by
 induction b with
 | nil=>intro a;rfl
 | cons x b ih=>intro a;rw [List.foldl_cons,ih,Abt,List.length_cons];omega
theorem Abu (a b:List Entry):(Gy a b).length<=a.length+b.length:=by
 unfold Gy;split
 ·omega
 ·rw [Ma];omega
def Df (l:List Entry):Nat:=(l.length+1) / 2
theorem Abv (l:List Entry):Df l<=l.length:=by unfold Df;omega
def C7 (id:Int):Nat:=if (Ex id).length=0 then 0 else (Le (Ex id) % 4).toNat
theorem Vs (id:Int):C7 id<4:=by
 unfold C7;split
 ·decide
 ·have:=Int.emod_lt_of_pos (Le (Ex id)) (show (0:Int)<4 by decide)
  have:=Int.emod_nonneg (Le (Ex id)) (show (4:Int)≠0 by decide)
  omega
theorem OwL.swap {α:Type} {d:Dt α} {w:World} {F Fy:List Nat} {b o n c:Nat} {l:List α} (h:OwL d w F (Aa (Ac ⟨b,o,Ab⟩) n c) l) {j:Nat} (hj:j<l.length) {y:α} {s:d.S} (hy:d.ow w Fy y s) (hd:∀ x∈Fy,x∉F) :
  ∃ F',OwL d (Ie w b (o+j * d.enc.sz) (d.enc.cells (y,s))) F' (Aa (Ac ⟨b,o,Ab⟩) n c) (l.set j y)/\(∀ x∈F',x∈F\/x∈Fy)/\b∈F/\b∈F':=by
 obtain ⟨rs,H,G,hm,hh,ho,rfl,hn⟩:=h;have kV:j<rs.length:=by rw [<-hm,List.length_map] at hj;exact hj
 obtain ⟨b',o',hA,rfl,mX,hf⟩:=hh.at_ Bl;simp only [Option.some.injEq,Addr.mk.injEq,and_true] at hA;obtain ⟨rfl,rfl⟩:=hA;obtain ⟨F1,F2,rfl,h1,h2⟩:=ho.split j Bl;rw [List.drop_eq_getElem_cons kV] at h2;obtain ⟨Fx,F3,rfl,h3,h4⟩:=h2.head;have gU:b∉F1 ++ (Fx ++ F3):=Ak0
 have rG:(F1 ++ (Fx ++ F3)).Nodup:=Amr
 have cC:b∉Fy:=fun hx=>hd b hx Bo;have hc:=I6 (d.enc.cells (y,s)) w b (o+j * d.enc.sz);have hp:=Rd.part hh.rd j kV (y,s) 0 (d.enc.cells (y,s)) (by rw [d.enc.len];omega) (fun i hi=>by rw [Nat.zero_add];exact List.getElem?_eq_getElem hi) (fun i hi ho=>by rw [d.enc.len] at ho;omega);rw [Nat.add_zero] at hp;have hz:=Jz (d.enc.cells (y,s)) w b (o+j * d.enc.sz);have bW:rs.set j (y,s)=rs.take j ++ ((y,s) :: rs.drop (j+1)):=by rw [List.set_eq_take_append_cons_drop,if_pos kV]
 refine ⟨[b] ++ (F1 ++ (Fy ++ F3)),⟨rs.set j (y,s),[b],F1 ++ (Fy ++ F3),?_,⟨?_,?_,fun g hg i=>?_⟩,?_,rfl,?_⟩,?_,Bo,Bo⟩
 ·rw [List.map_set,hm]
 ·rw [hz];exact hp
 ·have:=hh.2.1
  rw [Bh];exact this
 ·rw [I7];simp only [Au] at hg;subst hg;exact hf i
 ·rw [bW];refine (h1.chg hc (fun x hx fB=>?_)).append (.cons (d.ow_chg hy hc (fun x hx fB=>?_)) (h4.chg hc (fun x hx fB=>?_)))
  ·simp only [Au] at fB;subst fB;exact gU (List.mem_append_left _ hx)
  ·simp only [Au] at fB;subst fB;exact cC hx
  ·simp only [Au] at fB;subst fB;exact gU (Be _ (Be _ hx))
 ·have hyN:=d.ow_nodup hy;rw [List.singleton_append,List.nodup_cons];refine ⟨fun hx=>?_,?_⟩
  ·exact Alr
  ·rw [Ax] at rG ⊢;obtain ⟨n1,n2,n3⟩:=rG;rw [Ax] at n2;obtain ⟨m1,m2,m3⟩:=n2;refine ⟨n1,?_,fun a ha c hc=>?_⟩
   ·rw [Ax];exact ⟨hyN,m2,fun a ha c hc e=>hd a ha (by subst e;simp [hc])⟩
   ·rcases Bi.1 hc with hc | hc
    ·exact fun e=>hd c hc (by subst e;simp [ha])
    ·exact n3 a ha c (Be _ hc)
 ·intro x hx;simp only [Bi,Au] at hx ⊢;rcases hx with hx | hx | hx | hx
  ·exact .inl (.inl hx)
  ·exact .inl (.inr (.inl hx))
  ·exact .inr hx
  ·exact .inl (.inr (.inr (.inr hx)))
theorem P9 (b:Nat):∀ (us:List Value) (o:Nat) (w:World),w.setCells b o us=Ie w b o us
 | [],_,_=>rfl
 | u :: us,o,w=>by rw [World.setCells,Ie,P9 b us (o+1)]
theorem Oc {P:Program} (w:World) (t e ty:TypeId) (z:Value) (ht:P.underlying t=Ac (.slice e)) (hv:∀ w,(zeroValue e).run P w = .ok z w) (b o n c:Nat) (hn:0<n) (h1:∀ v∈z.cells,v.oneCell'=true)
  (hc:∀ j,j<n * z.cells.size->(w.cell? ⟨b,o+j,Ab⟩).isSome=true) (hf:∀ j,w.frozen? ⟨b,j,Ab⟩=false) :
  (Builtin.clear_ #[t] ty #[Aa (Ac ⟨b,o,Ab⟩) n c]).run P w = .ok (.tuple #[]) (Ie w b o (Builtin.zeroCells z.cells n).toList):=by
 have hl:(Builtin.zeroCells z.cells n).toList.length=n * z.cells.size:=by simp [Builtin.zeroCells]
 have dX:=run_storeCells_cells (P:=P) b o (Builtin.zeroCells z.cells n).toList 0 w (by rw [hl];simpa using hc) (fun j _=>hf _) (by
  intro v sI;simp only [Builtin.zeroCells,Array.toList_map,Array.toList_range,List.mem_map,List.mem_range] at sI;obtain ⟨i,hi,rfl⟩:=sI;have hz:0<z.cells.size:=Nat.pos_of_ne_zero (fun h=>by rw [h] at hi;simp at hi);have aA:i % z.cells.size<z.cells.size:=Nat.mod_lt _ hz;rw [getElem!_pos z.cells (i % z.cells.size) aA];exact h1 _ (Array.getElem_mem aA))
 simp only [Nat.add_zero] at dX;obtain ⟨m,rfl⟩:∃ m,n=m+1:=⟨n - 1,Bl⟩
 rw [<-P9];simp [Builtin.clear_,run_underlying ht,hv,dX]
theorem Q4:∀ (us:List Value) (w:World) (b i o:Nat),o<i->(Ie w b i us).cell? ⟨b,o,Ab⟩=w.cell? ⟨b,o,Ab⟩
 | [],_,_,_,_,_=>rfl
 | u :: us,w,b,i,o,h=>by
  rw [Ie,Q4 us _ b (i+1) o Bl];exact World.cell?_setCell_other _ _ _ _ (fun e=>by injection e with _ h2 _;omega)
theorem Rd.clear {α:Type} {e:Enc α} {w:World} {B b o n c:Nat} {l:List α} (h:Rd e w B (Aa (Ac ⟨b,o,Ab⟩) n c) l) (k:Nat) (hk:k<=l.length) (us:List Value):Rd e (Ie w b (o+k * e.sz) us) B (Aa (Ac ⟨b,o,Ab⟩) k c) (l.take k):=by
 have h1:=h.take hk c (by have:=h.cap;omega);obtain ⟨A',c',hv,cI,hA⟩:=h1;simp only [Value.slice.injEq] at hv;obtain ⟨rfl,aE,rfl⟩:=hv;have h2:(l.take k).length=k:=by rw [Az,Nat.min_eq_left hk]
 refine ⟨_,c,by rw [h2],Bl,fun hl=>?_⟩;obtain ⟨b',o',he,aA,hc⟩:=hA hl;simp only [Option.some.injEq,Addr.mk.injEq,and_true] at he;obtain ⟨rfl,rfl⟩:=he;refine ⟨b,o,rfl,aA,fun i hi j u hu=>?_⟩;have hj:j<e.sz:=by
  have:=(List.getElem?_eq_some_iff.1 hu).1
  rwa [e.len] at this
 rw [Q4 _ _ _ _ _ (by
  have:(i+1) * e.sz<=k * e.sz:=Nat.mul_le_mul_right _ Bl;rw [Nat.succ_mul] at this;omega)]
 exact hc i hi j u hu
theorem Rd.some_ {α:Type} {e:Enc α} {w:World} {B b o n c:Nat} {l:List α} (h:Rd e w B (Aa (Ac ⟨b,o,Ab⟩) n c) l) (bL:0<e.sz) (q:Nat) (hq:q<l.length * e.sz):(w.cell? ⟨b,o+q,Ab⟩).isSome=true:=by
 obtain ⟨A',c',hv,cI,hA⟩:=h;simp only [Value.slice.injEq] at hv;obtain ⟨rfl,aE,rfl⟩:=hv;have hk:q / e.sz<l.length:=Nat.div_lt_of_lt_mul (by rw [Nat.mul_comm];exact hq);have hj:q % e.sz<e.sz:=Nat.mod_lt _ bL;have sA:q / e.sz * e.sz+q % e.sz=q:=by rw [Nat.mul_comm];exact Nat.div_add_mod _ _
 obtain ⟨b',o',he,aA,hc⟩:=hA (Nat.lt_of_le_of_lt (Ag _) hk);simp only [Option.some.injEq,Addr.mk.injEq,and_true] at he;obtain ⟨rfl,rfl⟩:=he;have pZ:q % e.sz<(e.cells l[q / e.sz]).length:=by rw [e.len];exact hj
 have:=hc (q / e.sz) hk (q % e.sz) _ (List.getElem?_eq_getElem pZ)
 rw [Nat.add_assoc,sA] at this;rw [this];rfl
theorem Hw.of_rd {α:Type} {e:Enc α} {w:World} {b o n c:Nat} {l:List α} (h:Rd e w w (Aa (Ac ⟨b,o,Ab⟩) n c) l) (hf:∀ j,w.frozen? ⟨b,j,Ab⟩=false):Hw e w (El (Aa (Ac ⟨b,o,Ab⟩) n c) l.length) (Aa (Ac ⟨b,o,Ab⟩) n c) l:=by
 refine ⟨h,rfl,fun g hg j=>?_⟩
 have:=H9 _ _ _ hg
 have:b=g:=by simpa [Value.ownBlock] using this
 subst this;exact hf j
def Ahg {α:Type} (e:Enc α) (A:Option Addr) (c:Nat) (F:List Nat) (l:List α) (w:World) (en:Ending) (w':World):Prop :=
 ∃ k F',en = .returned (Aa A k c)/\Hw e w' F' (Aa A k c) l/\(∀ b∈F',b∈F)/\Chg F w w'
structure Kept {α:Type} (p:α->Bool) (l M:List α) (i j:Nat):Prop where
 len:M.length=l.length
 head:M.take i=(l.take j).filter fun x=>!p x
 tail:∀ t (h:t<l.length) (h':t<M.length),j<=t->M[t]=l[t]
theorem Kept.drop {α:Type} {p:α->Bool} {l M:List α} {i j:Nat} (h:Kept p l M i j) (hj:j<l.length) (hp:p l[j]=true):Kept p l M i (j+1):=by
 refine ⟨h.len,?_,fun t ht mB htj=>h.tail t ht mB Bl⟩;rw [h.head,Cp l j hj,List.filter_append];simp [hp]
theorem Kept.keep {α:Type} {p:α->Bool} {l M:List α} {i j:Nat} (h:Kept p l M i j) (hj:j<l.length) (hi:i<j) (hp:p l[j]=false):Kept p l (M.set i l[j]) (i+1) (j+1):=by
 have hl:=h.len;refine ⟨by rw [Bh];exact h.len,?_,fun t ht mB htj=>?_⟩
 ·rw [Cp l j hj,List.filter_append,<-h.head,Cp _ i (by rw [Bh];omega),List.getElem_set_self,List.take_set_of_le (Bt _)];simp [hp]
 ·rw [List.getElem_set_ne Bl];exact h.tail t ht (by rw [Bh] at mB;exact mB) Bl
theorem Ad2 {α:Type} {p:α->Bool} {l:List α} {k:Nat} (hk:k<l.length) (h:∀ j (hj:j<l.length),j<k->p l[j]=false) (hp:p l[k]=true):Kept p l l k (k+1):=by
 refine ⟨rfl,?_,fun t _ _ _=>rfl⟩;rw [Cp l k hk,List.filter_append];have:(l.take k).filter (fun x=>!p x)=l.take k:=List.filter_eq_self.2 (fun x hx=>by
  obtain ⟨j,hj,rfl⟩:=List.getElem_of_mem hx;rw [Az] at hj;rw [List.getElem_take];simp [h j Bl Bl])
 rw [this];simp [hp]
theorem Agu {α:Type} {p:α->Bool} {l:List α} (h:∀ j (hj:j<l.length),p l[j]=false):(l.filter fun x=>!p x)=l:=List.filter_eq_self.2 (fun x hx=>by
 obtain ⟨j,hj,rfl⟩:=List.getElem_of_mem hx
 simp [h j hj])
end Go.Proofs.YtecnbnbopcblgaaGreat
