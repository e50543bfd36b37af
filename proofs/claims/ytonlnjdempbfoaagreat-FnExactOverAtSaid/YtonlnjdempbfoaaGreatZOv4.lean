/-
  Tasks that are right: the reference's walk. The state that a run has to have: the reference's walk; runs that are right: the program's. Runs that stand in a yar
-/
import Derived.Test.YtonlnjdempbfoaaGreatZOv0
import Derived.Test.YtonlnjdempbfoaaGreatZOv1
import Derived.Test.YtonlnjdempbfoaaGreatZOv3
namespace Go.Proofs.YtonlnjdempbfoaaGreat
open Go.RowKit
set_option maxRecDepth 100000
set_option maxHeartbeats 4000000
set_option linter.unusedVariables false
set_option linter.unusedSimpArgs false
theorem U0 (r:Run) (s:Sl×Sl) (t:Nat) (w:World) (hf:Aq r.plan=0) (hT:(r.tasks.length:Int)=r.plan.tasks) (ht:t<r.tasks.length) (cF:1<=r.tasks[t].state/\r.tasks[t].state<=6) (h:Am.rd w w.heap.size r s) :
  Calls Tryz.prog 246 #[Ey r s,.int .i64 (t:Int)] w fun e w'=>e = .returned (.bool (tf (Ev r t)))/\Below w.heap.size w w':=by
 obtain ⟨⟨A1,n1,c1⟩,⟨A2,n2,c2⟩⟩:=s
 obtain rfl:n2=r.tasks.length:=RdL.at1 (s:=⟨A2,n2,c2⟩) h.2
 have h2:RdL Cv w w.heap.size (.slice A2 r.tasks.length c2) r.tasks:=h.2
 have h1:Rd Ei w w.heap.size (.slice A1 n1 c1) r.plan.edges:=Gf h.1
 have hz:=Bn.1 hf
 have hl:r.tasks.length<=12:=by have:=Ch hz.1;omega
 have HQ:=Lib.hid (show tf (Ev r t)=tf (Lm r.tasks[t] (Ge r t) r.plan.most) by unfold Ev;rw [Aw ht])
 have jR:(t:Int)<(r.tasks.length:Int):=by omega
 have HL:=Lib.hid (show ∀ x∈Cf (Ca r.plan) r.plan.tasks.toNat t,x<r.tasks.length from fun x hx=>by have:=Rf hx;omega)
 have HN:=Lib.hid (show (Cf (Ca r.plan) r.plan.tasks.toNat t).length<=12 by have:=Gn (Ca r.plan) r.plan.tasks.toNat t;omega)
 have HD:=Lib.hid (show Ge r t=Fe r (Cf (Ca r.plan) r.plan.tasks.toNat t) from rfl)
 have HS:=Lib.hid cF
 have HZ:=Lib.hid hz
 clear hT hf h cF hz
 obtain ⟨b,o,_,hA,aH,_,d0,d1,d2,d3⟩:=h2.task ht
 subst hA
 obtain ⟨W,aG,X,T,B0⟩:=bx2 w 89 [.int .i64 r.id,.int .i64 r.plan.prio,.int .i64 r.plan.most,.int .i64 r.plan.wait,.int .i64 r.plan.tasks,.slice A1 n1 c1,.int .i64 r.state,.slice (some ⟨b,o,none⟩) r.tasks.length c2] 138 [.int .i64 r.tasks[t].state,.int .i64 r.tasks[t].need,.int .i64 r.tasks[t].try_,.int .i64 r.tasks[t].until_]
 go_enter Tryz.func246,Tryz.ntmps246
 go_wp2_with fail
 rw [<-aG.out]
 clear aG
 clear d0 d1 d2 d3
 refine (Lf r.plan (.slice A1 n1 c1) t _ HZ.out.1 HZ.out.2.1 HZ.out.2.2.1 ((h1.below B0).more B0.size)).mono ?_
 rintro e w1 ⟨v,rfl,o1,b1⟩
 generalize Cf (Ca r.plan) r.plan.tasks.toNat t=L at *
 generalize Ge r t=N at *
 obtain ⟨A3,c3,rfl,-⟩:=id (Rd.of_own o1)
 replace B0:=Aa B0 b1
 replace X:=X.below b1
 replace T:=T.below b1
 have dI:=HN.out
 go_wp2
 go_loopw [6,8] (fun n i wr=>∃ k:Nat,k<=L.length/\i = .int .i64 k/\n = .int .i64 (Fe r (L.take k):Nat)/\Below w1.heap.size w1 wr) (fun _ i _=>L.length - (intOf i).toNat)
 case atStart=>exact ⟨0,Nat.zero_le _,rfl,rfl,Below.refl _ _⟩
 case round =>
  obtain ⟨k,hk,rfl,rfl,hb⟩:=hrel
  have ol:=Lw r (L.take k)
  rw [List.length_take] at ol
  by_cases aA:k<L.length
  ·have aB:(k:Int)<(L.length:Int):=by omega
   have hx:=HL.out _ (List.getElem_mem aA)
   obtain ⟨b3,o3,rfl,bZ,e0⟩:=(Rd.of_own (o1.below hb)).nat aA
   obtain ⟨b2,o2,_,he,kF,_,d0,d1,d2,d3⟩:=(h2.below (Aa B0 hb)).task hx
   simp only [Option.some.injEq,Addr.mk.injEq,and_true] at he
   obtain ⟨rfl,rfl⟩:=he
   have bJ:b<wr.heap.size:=Nat.lt_of_lt_of_le aH (Aa B0 hb).size
   have hxI:(L[k]:Int)<(r.tasks.length:Int):=by omega
   have tG:=Lib.hid (Aw hx)
   replace X:=X.below hb
   obtain ⟨X_0,X_1,X_2,X_3,X_4,X_5,X_6,X_7,X_l⟩:=X.g8
   by_cases h4:r.tasks[L[k]].state=4
   ·have S:=Lib.hid (Tv (r:=r) aA (by rw [tG.out];exact h4))
    have t4:(r.tasks[L[k]].state != 4)=false:=by simp [h4]
    clear h4
    go_wp2
    go_quiet (fail)
    go_wp2
    exact ⟨⟨k+1,by omega,by go_num,by rw [S.out],Ao hb _⟩,by simp [intOf];omega⟩
   ·have S:=Lib.hid (Q7 (r:=r) aA (by rw [tG.out];exact h4))
    have t4:(r.tasks[L[k]].state != 4)=true:=by simp [h4]
    clear h4
    go_wp2
    go_quiet (fail)
    go_wp2
    exact ⟨⟨k+1,by omega,by go_num,by rw [S.out];go_num,Ao hb _⟩,by simp [intOf];omega⟩
  ·have aB:¬ (k:Int)<(L.length:Int):=by omega
   have bH:k=L.length:=by omega
   subst bH
   replace X:=X.below hb
   replace T:=T.below hb
   obtain ⟨X_0,X_1,X_2,X_3,X_4,X_5,X_6,X_7,X_l⟩:=X.g8
   obtain ⟨T_0,T_1,T_2,T_3,T_l⟩:=T.g4
   have HN2:=Lib.hid (show (N:Int)=(Fe r (L.take L.length):Nat) by rw [HD.out,List.take_length])
   have HSt:=HS.out
   have B1:=Aa B0 hb
   clear hb o1 B0
   generalize r.tasks[t]=x at *
   generalize (Fe r (L.take L.length):Nat)=M at *
   generalize hM:(M:Int)=m at *
   have kJ:0<=m:=by omega
   have cM:m<=12:=by omega
   clear hM
   by_cases a2:x.need=m
   case neg =>
    have a2':(x.need != m)=true:=by simp [a2]
    have H:=Lib.hid (show tf (Ev r t)=false by rw [HQ.out];exact Al (fun h=>a2 (by rw [h.2.1,HN2.out])))
    clear a2
    go_wp2
    go_ret
    exact ⟨Ac H.out.symm,B1⟩
   have a2':(x.need != m)=false:=by simp [a2]
   cases a3:inB x.try_ 0 r.plan.most
   case false =>
    have H:=Lib.hid (show tf (Ev r t)=false by rw [HQ.out];exact Al (fun h=>by have:=Bf.2 h.2.2.1;rw [a3] at this;cases this))
    clear a2
    go_wp2_with (go_at_call 155;refine (Aj _ _ _ _).mono ?_;rintro e w' ⟨rfl,rfl⟩)
    go_ret
    exact ⟨Ac H.out.symm,B1⟩
   have H:=Lib.hid (show tf (Ev r t)=Lz x r.plan.most by rw [HQ.out];exact T7 HSt (by rw [a2,HN2.out]) (Bf.1 a3))
   obtain ⟨st,nd,tr,un⟩:=x
   simp only at *
   subst a2
   have S:=(show st=1\/st=2\/st=3\/st=4\/st=5\/st=6 by omega)
   clear HSt
   rcases S with rfl | rfl | rfl | rfl | rfl | rfl
   all_goals
    go_wp2_with (go_at_call 155;refine (Aj _ _ _ _).mono ?_;rintro e w' ⟨rfl,rfl⟩)
    all_goals
     go_ret
     exact ⟨Ac (by
      rw [H.out]
      unfold Lz
      try have e1:=Acb ‹(un != 0)=true›
      try have e1:=Acc ‹(un != 0)=false›
      try have e3:=Acd ‹(nd == 0)=true›
      try have e3:=Ace ‹(nd == 0)=false›
      simp [*]),B1⟩
def stI (c1 c2 c3 c4 c5 c6 n:Int):Int:=if c4=n then 2 else if c5=1/\c1+c2+c3=0 then 3 else if c5=0/\0<c6/\c1+c2+c3=0 then 4 else if c5=0/\c6=0 then 1 else 0
theorem Zm (l:List Task):stL l=stI (Bx l 1:Nat) (Bx l 2:Nat) (Bx l 3:Nat) (Bx l 4:Nat) (Bx l 5:Nat) (Bx l 6:Nat) (l.length:Nat):=by
 unfold stL stI Iz
 generalize Bx l 1=a
 generalize Bx l 2=b
 generalize Bx l 3=c
 generalize Bx l 4=d
 generalize Bx l 5=e
 generalize Bx l 6=f
 repeat' split
 all_goals first | rfl | (exfalso;omega)
theorem Je {l:List Task} {k:Nat} (hk:k<l.length) {s:Int} : ((Bx (l.take (k+1)) s:Nat):Int)=(Bx (l.take k) s:Nat)+(if l[k].state=s then 1 else 0):=by
 by_cases h:l[k].state=s
 ·rw [Wi hk h,if_pos h];rfl
 ·rw [Zl hk h,if_neg h];simp
theorem Mn (r:Run) (s:Sl×Sl) (w:World) (hl:r.tasks.length<=2000000) (cF:∀ x∈r.tasks,1<=x.state/\x.state<=6) (h:Am.rd w w.heap.size r s) :
  Calls Tryz.prog 243 #[Ey r s] w fun e w'=>e = .returned (.int .i64 (stL r.tasks))/\Below w.heap.size w w':=by
 obtain ⟨⟨A1,n1,c1⟩,⟨A2,n2,c2⟩⟩:=s
 obtain rfl:n2=r.tasks.length:=RdL.at1 (s:=⟨A2,n2,c2⟩) h.2
 have h2:RdL Cv w w.heap.size (.slice A2 r.tasks.length c2) r.tasks:=h.2
 have HS:=Lib.hid (Zm r.tasks)
 have HT:=Lib.hid cF
 clear h cF
 obtain ⟨W,aG,X,E,B0⟩:=bx2 w 89 [.int .i64 r.id,.int .i64 r.plan.prio,.int .i64 r.plan.most,.int .i64 r.plan.wait,.int .i64 r.plan.tasks,.slice A1 n1 c1,.int .i64 r.state,.slice A2 r.tasks.length c2] 3 [.int .i64 0,.int .i64 0,.int .i64 0,.int .i64 0,.int .i64 0,.int .i64 0,.int .i64 0]
 go_enter Tryz.func243,Tryz.ntmps243
 go_wp2
 rw [<-aG.out]
 clear aG
 go_loopw [4] (fun i wr=>∃ k:Nat,k<=r.tasks.length/\i = .int .i64 k/\DBox w.heap.size [.int .i64 r.id,.int .i64 r.plan.prio,.int .i64 r.plan.most,.int .i64 r.plan.wait,.int .i64 r.plan.tasks,.slice A1 n1 c1,.int .i64 r.state,.slice A2 r.tasks.length c2] wr/\DBox (w.heap.size+1) [.int .i64 0,.int .i64 (Bx (r.tasks.take k) 1:Nat),.int .i64 (Bx (r.tasks.take k) 2:Nat),.int .i64 (Bx (r.tasks.take k) 3:Nat),.int .i64 (Bx (r.tasks.take k) 4:Nat),.int .i64 (Bx (r.tasks.take k) 5:Nat),.int .i64 (Bx (r.tasks.take k) 6:Nat)] wr/\Below w.heap.size w wr) (fun i _=>r.tasks.length - (intOf i).toNat)
 case atStart=>exact ⟨0,Nat.zero_le _,rfl,X,E,B0⟩
 case round =>
  clear X E B0
  obtain ⟨k,hk,rfl,X,E,hb⟩:=hrel
  obtain ⟨X_0,X_1,X_2,X_3,X_4,X_5,X_6,X_7,X_l⟩:=X.g8
  obtain ⟨E_0,E_1,E_2,E_3,E_4,E_5,E_6,E_l⟩:=E.g7
  have Ef:=E.free
  have L1:=Lx (r.tasks.take k) 1
  have L2:=Lx (r.tasks.take k) 2
  have L3:=Lx (r.tasks.take k) 3
  have L4:=Lx (r.tasks.take k) 4
  have L5:=Lx (r.tasks.take k) 5
  have L6:=Lx (r.tasks.take k) 6
  rw [List.length_take] at L1 L2 L3 L4 L5 L6
  by_cases aA:k<r.tasks.length
  ·have aB:(k:Int)<(r.tasks.length:Int):=by omega
   obtain ⟨b,o,_,rfl,aH,_,d0,d1,d2,d3⟩:=(h2.below hb).task aA
   have hs:=hb.size
   have S1:=Lib.hid (Je (s:=1) aA)
   have S2:=Lib.hid (Je (s:=2) aA)
   have S3:=Lib.hid (Je (s:=3) aA)
   have S4:=Lib.hid (Je (s:=4) aA)
   have S5:=Lib.hid (Je (s:=5) aA)
   have S6:=Lib.hid (Je (s:=6) aA)
   have cF:=HT.out _ (List.getElem_mem aA)
   generalize r.tasks[k].state=st at *
   have S:=(show st=1\/st=2\/st=3\/st=4\/st=5\/st=6 by omega)
   clear cF
   rcases S with rfl | rfl | rfl | rfl | rfl | rfl
   ·go_wp2
    have E2:=E.set 1 (by simp) (.int .i64 ((Bx (r.tasks.take k) 1:Nat)+1))
    refine ⟨⟨k+1,by omega,by go_num,X.setOther (by simp) _,?_,Below.setCell hb (by simp) _⟩,by simp [intOf];omega⟩
    rw [S1.out,S2.out,S3.out,S4.out,S5.out,S6.out]
    simpa using E2
   ·go_wp2
    have E2:=E.set 2 (by simp) (.int .i64 ((Bx (r.tasks.take k) 2:Nat)+1))
    refine ⟨⟨k+1,by omega,by go_num,X.setOther (by simp) _,?_,Below.setCell hb (by simp) _⟩,by simp [intOf];omega⟩
    rw [S1.out,S2.out,S3.out,S4.out,S5.out,S6.out]
    simpa using E2
   ·go_wp2
    have E2:=E.set 3 (by simp) (.int .i64 ((Bx (r.tasks.take k) 3:Nat)+1))
    refine ⟨⟨k+1,by omega,by go_num,X.setOther (by simp) _,?_,Below.setCell hb (by simp) _⟩,by simp [intOf];omega⟩
    rw [S1.out,S2.out,S3.out,S4.out,S5.out,S6.out]
    simpa using E2
   ·go_wp2
    have E2:=E.set 4 (by simp) (.int .i64 ((Bx (r.tasks.take k) 4:Nat)+1))
    refine ⟨⟨k+1,by omega,by go_num,X.setOther (by simp) _,?_,Below.setCell hb (by simp) _⟩,by simp [intOf];omega⟩
    rw [S1.out,S2.out,S3.out,S4.out,S5.out,S6.out]
    simpa using E2
   ·go_wp2
    have E2:=E.set 5 (by simp) (.int .i64 ((Bx (r.tasks.take k) 5:Nat)+1))
    refine ⟨⟨k+1,by omega,by go_num,X.setOther (by simp) _,?_,Below.setCell hb (by simp) _⟩,by simp [intOf];omega⟩
    rw [S1.out,S2.out,S3.out,S4.out,S5.out,S6.out]
    simpa using E2
   ·go_wp2
    have E2:=E.set 6 (by simp) (.int .i64 ((Bx (r.tasks.take k) 6:Nat)+1))
    refine ⟨⟨k+1,by omega,by go_num,X.setOther (by simp) _,?_,Below.setCell hb (by simp) _⟩,by simp [intOf];omega⟩
    rw [S1.out,S2.out,S3.out,S4.out,S5.out,S6.out]
    simpa using E2
  ·have aB:¬ (k:Int)<(r.tasks.length:Int):=by omega
   have bH:k=r.tasks.length:=by omega
   subst bH
   rw [List.take_length] at *
   generalize rK:((Bx r.tasks 1:Nat):Int)=c1' at *
   generalize uE:((Bx r.tasks 2:Nat):Int)=c2' at *
   generalize rY:((Bx r.tasks 3:Nat):Int)=c3' at *
   generalize hc4:((Bx r.tasks 4:Nat):Int)=c4' at *
   generalize hc5:((Bx r.tasks 5:Nat):Int)=c5' at *
   generalize hc6:((Bx r.tasks 6:Nat):Int)=c6' at *
   have m1:0<=c1'/\c1'<=2000000:=by omega
   have m2:0<=c2'/\c2'<=2000000:=by omega
   have m3:0<=c3'/\c3'<=2000000:=by omega
   have m4:0<=c4':=by omega
   have m5:0<=c5':=by omega
   have m6:0<=c6':=by omega
   clear rK uE rY hc4 hc5 hc6 L1 L2 L3 L4 L5 L6
   have w1':IntKind.i64.wrap (c1'+c2')=c1'+c2':=IntWalk.i64_in _ (by omega)
   have w2':IntKind.i64.wrap (c1'+c2'+c3')=c1'+c2'+c3':=IntWalk.i64_in _ (by omega)
   have aN:=Bk wr
   by_cases q1:c4'=(r.tasks.length:Int)
   ·have H:=Lib.hid (show stL r.tasks=2 by rw [HS.out];unfold stI;rw [if_pos q1])
    have q1':(c4' == (r.tasks.length:Int))=true:=beq_iff_eq.2 q1
    clear q1
    go_wp2
    go_quiet (fail)
    go_wp2
    go_quiet (fail)
    go_wp2
    go_ret
    exact ⟨Bw H.out.symm,by first | exact Ao hb _ | exact Ao (Ao hb _) _⟩
   have q1':(c4' == (r.tasks.length:Int))=false:=beq_eq_false_iff_ne.2 q1
   by_cases q2:c1'+c2'+c3'=0
   all_goals
    first
     | (have q2':(c1'+c2'+c3' == 0)=true:=beq_iff_eq.2 q2)
     | (have q2':(c1'+c2'+c3' == 0)=false:=beq_eq_false_iff_ne.2 q2)
    by_cases q3:c5'=1
    ·have q3':(c5' == 1)=true:=beq_iff_eq.2 q3
     have q4':(c5' == 0)=false:=beq_eq_false_iff_ne.2 (by omega)
     have H:=Lib.hid (show stL r.tasks=stI c1' c2' c3' c4' c5' c6' r.tasks.length from HS.out)
     simp only [stI,if_neg q1,q2,q3,and_self,if_true,and_true,true_and,if_false,false_and,and_false,show ¬ ((1:Int)=0) by omega] at H
     clear q1 q2 q3
     go_wp2
     go_quiet (fail)
     go_wp2
     go_quiet (fail)
     go_wp2
     go_ret
     exact ⟨Bw H.out.symm,by first | exact Ao hb _ | exact Ao (Ao hb _) _⟩
    have q3':(c5' == 1)=false:=beq_eq_false_iff_ne.2 q3
    by_cases q4:c5'=0
    ·have q4':(c5' == 0)=true:=beq_iff_eq.2 q4
     by_cases q5:c6'=0
     ·have q5':(c6' == 0)=true:=beq_iff_eq.2 q5
      have q6':decide (0<c6')=false:=decide_eq_false (by omega)
      have H:=Lib.hid (show stL r.tasks=stI c1' c2' c3' c4' c5' c6' r.tasks.length from HS.out)
      simp only [stI,if_neg q1,q2,q3,q4,q5,and_self,if_true,and_true,true_and,if_false,false_and,and_false,show ¬ ((0:Int)=1) by omega,show ¬ ((0:Int)<0) by omega] at H
      clear q1 q2 q3 q4 q5
      go_wp2
      go_quiet (fail)
      go_wp2
      go_quiet (fail)
      go_wp2
      go_ret
      exact ⟨Bw H.out.symm,by first | exact Ao hb _ | exact Ao (Ao hb _) _⟩
     ·have q5':(c6' == 0)=false:=beq_eq_false_iff_ne.2 q5
      have q6:0<c6':=by omega
      have q6':decide (0<c6')=true:=decide_eq_true q6
      have H:=Lib.hid (show stL r.tasks=stI c1' c2' c3' c4' c5' c6' r.tasks.length from HS.out)
      simp only [stI,if_neg q1,q2,q3,q4,q5,q6,and_self,if_true,and_true,true_and,if_false,false_and,and_false,show ¬ ((0:Int)=1) by omega] at H
      clear q1 q2 q3 q4 q5 q6
      go_wp2
      go_quiet (fail)
      go_wp2
      go_quiet (fail)
      go_wp2
      go_ret
      exact ⟨Bw H.out.symm,by first | exact Ao hb _ | exact Ao (Ao hb _) _⟩
    ·have q4':(c5' == 0)=false:=beq_eq_false_iff_ne.2 q4
     have H:=Lib.hid (show stL r.tasks=stI c1' c2' c3' c4' c5' c6' r.tasks.length from HS.out)
     simp only [stI,if_neg q1,q2,q3,q4,and_self,if_true,and_true,true_and,if_false,false_and,and_false] at H
     clear q1 q2 q3 q4
     go_wp2
     go_quiet (fail)
     go_wp2
     go_quiet (fail)
     go_wp2
     go_ret
     exact ⟨Bw H.out.symm,by first | exact Ao hb _ | exact Ao (Ao hb _) _⟩
theorem Ri {now:Int} {r:Run} {es:List Entry} {t k:Nat} (ht:t<r.tasks.length) (h2:r.tasks[t].state=2) (hk:k<es.length) (hm:H9 r.id t es[k]=true) (hp:¬ es[k].prio=r.plan.prio):¬ Ie now r es:=by
 intro h
 have h3:=(h t ht).1
 rw [Aw ht] at h3
 exact hp ((h3 h2).1 _ (List.getElem_mem hk) hm)
theorem Rj {now:Int} {r:Run} {es:List Entry} {t:Nat} (ht:t<r.tasks.length) (h2:r.tasks[t].state=2) (hm:¬ G8 r.id t es=1):¬ Ie now r es:=by
 intro h
 have h3:=(h t ht).1
 rw [Aw ht] at h3
 exact hm (h3 h2).2
theorem Rk {now:Int} {r:Run} {es:List Entry} {t:Nat} (ht:t<r.tasks.length) (h2:r.tasks[t].state=3) (hm:inB r.tasks[t].until_ (now+1) (now+r.plan.wait)=false):¬ Ie now r es:=by
 intro h
 have h3:=(h t ht).2
 rw [Aw ht] at h3
 have:=Bf.2 (h3 h2)
 rw [hm] at this
 cases this
theorem L7 {now:Int} {r:Run} {es:List Entry} {t:Nat} (ht:t<r.tasks.length) (h1:r.tasks[t].state=2->(∀ j (hj:j<es.length),H9 r.id t es[j]=true->es[j].prio=r.plan.prio)/\G8 r.id t es=1)
  (h2:r.tasks[t].state=3->inB r.tasks[t].until_ (now+1) (now+r.plan.wait)=true):Mi now r es t:=by
 unfold Mi
 rw [Aw ht]
 refine ⟨fun h=>⟨fun e he hm=>?_,(h1 h).2⟩,fun h=>Bf.1 (h2 h)⟩
 obtain ⟨j,hj,rfl⟩:=List.getElem_of_mem he
 exact (h1 h).1 j hj hm
def Hb (r:Run) (t:Nat) (es:List Entry) (k:Nat):Prop:=∀ j (hj:j<es.length),j<k->H9 r.id t es[j]=true->es[j].prio=r.plan.prio
theorem Ig {r:Run} {t:Nat} {es:List Entry} {k:Nat} (h:Hb r t es k) (hk:k<es.length) (hp:H9 r.id t es[k]=true->es[k].prio=r.plan.prio):Hb r t es (k+1):=by
 intro j hj fD hm
 by_cases e:j=k
 ·subst e;exact hp hm
 ·exact h j hj (by omega) hm
theorem Te (y:Yard) (s:Sl×Sl) (r:Run) (s2:Sl×Sl) (es:List Entry) (s3:Sl) (w:World) (eV:r.tasks.length<=2000000) (pZ:es.length<=2000000) (hn:0<=y.now/\y.now<=999999980) (hw:1<=r.plan.wait/\r.plan.wait<=20)
  (h':Am.rd w w.heap.size r s2) (h3:Rd Az w w.heap.size s3.v es) :
  Calls Tryz.prog 120 #[By y s,Ey r s2,.slice s3.a s3.n s3.c] w fun e w'=>e = .returned (.bool (tf (Ie y.now r es)))/\Below w.heap.size w w':=by
 obtain ⟨⟨A1,n1,c1⟩,⟨A2,n2,c2⟩⟩:=s
 obtain ⟨⟨A4,n4,c4⟩,⟨A5,n5,c5⟩⟩:=s2
 obtain ⟨A6,n6,c6⟩:=s3
 obtain rfl:n5=r.tasks.length:=RdL.at1 (s:=⟨A5,n5,c5⟩) h'.2
 obtain rfl:n6=es.length:=RdL.at1 (s:=⟨A6,n6,c6⟩) (I7 h3)
 have h2:RdL Cv w w.heap.size (.slice A5 r.tasks.length c5) r.tasks:=h'.2
 have h3:RdL Af w w.heap.size (.slice A6 es.length c6) es:=I7 h3
 clear h'
 obtain ⟨W,aG,X,R,B0⟩:=bx2 w 31 [.int .i64 y.now,.int .i64 y.seq,.slice A1 n1 c1,.slice A2 n2 c2] 89 [.int .i64 r.id,.int .i64 r.plan.prio,.int .i64 r.plan.most,.int .i64 r.plan.wait,.int .i64 r.plan.tasks,.slice A4 n4 c4,.int .i64 r.state,.slice A5 r.tasks.length c5]
 have R_l:=R.lt
 go_enter Tryz.func120,Tryz.ntmps120
 go_wp2
 rw [<-aG.out]
 clear aG
 go_loopw [15] (fun i wr=>∃ k:Nat,k<=r.tasks.length/\i = .int .i64 k/\Hid (∀ t,t<k->Mi y.now r es t)/\Below W.heap.size W wr) (fun i _=>r.tasks.length - (intOf i).toNat)
 case atStart=>exact ⟨0,Nat.zero_le _,rfl,fun t ht=>absurd ht (by omega),Below.refl _ _⟩
 case round =>
  obtain ⟨t,hk,rfl,aW,hb⟩:=hrel
  by_cases aA:t<r.tasks.length
  ·have aB:(t:Int)<(r.tasks.length:Int):=by omega
   obtain ⟨b,o,_,hA5,aH,_,d0,d1,d2,d3⟩:=(h2.below (Aa B0 hb)).task aA
   subst hA5
   have bJ:b<wr.heap.size:=Nat.lt_of_lt_of_le aH (Aa B0 hb).size
   have T:=DBox.new 138 [.int .i64 r.tasks[t].state,.int .i64 r.tasks[t].need,.int .i64 r.tasks[t].try_,.int .i64 r.tasks[t].until_] wr rfl
   have ha:Below wr.heap.size wr (wr.alloc (.cells #[.int .i64 r.tasks[t].state,.int .i64 r.tasks[t].need,.int .i64 r.tasks[t].try_,.int .i64 r.tasks[t].until_] 138)):=(Below.refl _ _).alloc (Nat.le_refl _) _
   go_wp2
   generalize wr.alloc (.cells #[.int .i64 r.tasks[t].state,.int .i64 r.tasks[t].need,.int .i64 r.tasks[t].try_,.int .i64 r.tasks[t].until_] 138)=W2 at *
   have Hb2:=Aa hb ha
   clear d0 d1 d2 d3 bJ
   go_loopw [9,22] (fun n i wq=>∃ j:Nat,j<=es.length/\i = .int .i64 j/\n = .int .i64 (G8 r.id t (es.take j):Nat)/\Hid (r.tasks[t].state=2->Hb r t es j)/\Below W2.heap.size W2 wq) (fun _ i _=>es.length - (intOf i).toNat)
   case atStart=>exact ⟨0,Nat.zero_le _,rfl,rfl,fun _ j hj h0=>absurd h0 (by omega),Below.refl _ _⟩
   case round =>
    obtain ⟨j,hj,rfl,rfl,pU,aF⟩:=hrel
    have hmn:=Wk r.id t (es.take j)
    rw [List.length_take] at hmn
    have X:=(X.below Hb2).below aF
    have R:=(R.below Hb2).below aF
    replace T:=T.below aF
    obtain ⟨X_0,X_1,X_2,X_3,X_l⟩:=X.g4
    obtain ⟨R_0,R_1,R_2,R_3,R_4,R_5,R_6,R_7,R_l⟩:=R.g8
    obtain ⟨T_0,T_1,T_2,T_3,T_l⟩:=T.g4
    have B1:=Aa (Aa B0 Hb2) aF
    by_cases cZ:j<es.length
    ·have fU:(j:Int)<(es.length:Int):=by omega
     obtain ⟨b6,o6,_,hA6,hbb6,_,f0,f1,f2,f3⟩:=(h3.below B1).entry cZ
     subst hA6
     have pG:b6<wr.heap.size:=Nat.lt_of_lt_of_le hbb6 B1.size
     have hE:Below wr.heap.size wr (wr.alloc (.cells #[.int .i64 es[j].prio,.int .i64 es[j].seq,.int .i64 es[j].run,.int .i64 es[j].task] 93)):=(Below.refl _ _).alloc (Nat.le_refl _) _
     have HM:Hid (H9 r.id t es[j]=((es[j].run == r.id) && (es[j].task == (t:Int)))):=rfl
     have HY:=Lib.hid (Ty (id:=r.id) (t:=t) cZ)
     have HN:=Lib.hid (Wj (id:=r.id) (t:=t) cZ)
     cases q1:(es[j].run == r.id)
     ·have hm:H9 r.id t es[j]=false:=by rw [HM.out,q1];rfl
      have S:=Lib.hid (HN.out hm)
      have S2:Hid (r.tasks[t].state=2->Hb r t es (j+1)):=fun h2=>Ig (pU.out h2) cZ (fun hh=>by rw [hm] at hh;cases hh)
      clear hm
      go_wp2
      first
       | exact ⟨⟨j+1,by omega,by go_num,by rw [S.out],S2,Aa aF hE⟩,by simp [intOf];omega⟩
       | (refine ⟨?_,by simp [intOf];omega⟩;(repeat apply Exists.intro);first | exact ⟨⟨j+1,by omega,by go_num,by rw [S.out],S2,Aa aF hE⟩,rfl⟩ | exact ⟨⟨j+1,by omega,by go_num,by rw [S.out],S2,Aa aF hE⟩,rfl,rfl⟩ | exact ⟨⟨j+1,by omega,by go_num,by rw [S.out],S2,Aa aF hE⟩,rfl,rfl,rfl⟩ | exact ⟨⟨j+1,by omega,by go_num,by rw [S.out],S2,Aa aF hE⟩,rfl,rfl,rfl,rfl⟩ | exact ⟨⟨j+1,by omega,by go_num,by rw [S.out],S2,Aa aF hE⟩,rfl,rfl,rfl,rfl,rfl⟩ | exact ⟨⟨j+1,by omega,by go_num,by rw [S.out],S2,Aa aF hE⟩,rfl,rfl,rfl,rfl,rfl,rfl⟩ | exact ⟨⟨j+1,by omega,by go_num,by rw [S.out],S2,Aa aF hE⟩,rfl,rfl,rfl,rfl,rfl,rfl,rfl⟩)
     cases q2:(es[j].task == (t:Int))
     ·have hm:H9 r.id t es[j]=false:=by rw [HM.out,q1,q2];rfl
      have S:=Lib.hid (HN.out hm)
      have S2:Hid (r.tasks[t].state=2->Hb r t es (j+1)):=fun h2=>Ig (pU.out h2) cZ (fun hh=>by rw [hm] at hh;cases hh)
      clear hm
      go_wp2
      first
       | exact ⟨⟨j+1,by omega,by go_num,by rw [S.out],S2,Aa aF hE⟩,by simp [intOf];omega⟩
       | (refine ⟨?_,by simp [intOf];omega⟩;(repeat apply Exists.intro);first | exact ⟨⟨j+1,by omega,by go_num,by rw [S.out],S2,Aa aF hE⟩,rfl⟩ | exact ⟨⟨j+1,by omega,by go_num,by rw [S.out],S2,Aa aF hE⟩,rfl,rfl⟩ | exact ⟨⟨j+1,by omega,by go_num,by rw [S.out],S2,Aa aF hE⟩,rfl,rfl,rfl⟩ | exact ⟨⟨j+1,by omega,by go_num,by rw [S.out],S2,Aa aF hE⟩,rfl,rfl,rfl,rfl⟩ | exact ⟨⟨j+1,by omega,by go_num,by rw [S.out],S2,Aa aF hE⟩,rfl,rfl,rfl,rfl,rfl⟩ | exact ⟨⟨j+1,by omega,by go_num,by rw [S.out],S2,Aa aF hE⟩,rfl,rfl,rfl,rfl,rfl,rfl⟩ | exact ⟨⟨j+1,by omega,by go_num,by rw [S.out],S2,Aa aF hE⟩,rfl,rfl,rfl,rfl,rfl,rfl,rfl⟩)
     have hm:H9 r.id t es[j]=true:=by rw [HM.out,q1,q2];rfl
     have S:=Lib.hid (HY.out hm)
     have HM2:=Lib.hid hm
     clear hm
     by_cases q3:r.tasks[t].state=2
     ·have q3':(r.tasks[t].state == 2)=true:=beq_iff_eq.2 q3
      by_cases q4:es[j].prio=r.plan.prio
      ·have q4':(es[j].prio != r.plan.prio)=false:=by simp [q4]
       have S2:Hid (r.tasks[t].state=2->Hb r t es (j+1)):=fun h2=>Ig (pU.out h2) cZ (fun _=>q4)
       clear q3 q4
       go_wp2
       first
        | exact ⟨⟨j+1,by omega,by go_num,by rw [S.out];go_num,S2,Aa aF hE⟩,by simp [intOf];omega⟩
        | (refine ⟨?_,by simp [intOf];omega⟩;(repeat apply Exists.intro);first | exact ⟨⟨j+1,by omega,by go_num,by rw [S.out];go_num,S2,Aa aF hE⟩,rfl⟩ | exact ⟨⟨j+1,by omega,by go_num,by rw [S.out];go_num,S2,Aa aF hE⟩,rfl,rfl⟩ | exact ⟨⟨j+1,by omega,by go_num,by rw [S.out];go_num,S2,Aa aF hE⟩,rfl,rfl,rfl⟩ | exact ⟨⟨j+1,by omega,by go_num,by rw [S.out];go_num,S2,Aa aF hE⟩,rfl,rfl,rfl,rfl⟩ | exact ⟨⟨j+1,by omega,by go_num,by rw [S.out];go_num,S2,Aa aF hE⟩,rfl,rfl,rfl,rfl,rfl⟩ | exact ⟨⟨j+1,by omega,by go_num,by rw [S.out];go_num,S2,Aa aF hE⟩,rfl,rfl,rfl,rfl,rfl,rfl⟩ | exact ⟨⟨j+1,by omega,by go_num,by rw [S.out];go_num,S2,Aa aF hE⟩,rfl,rfl,rfl,rfl,rfl,rfl,rfl⟩)
      ·have q4':(es[j].prio != r.plan.prio)=true:=by simp [q4]
       have H:=Lib.hid (Al (Ri (now:=y.now) aA q3 cZ HM2.out q4))
       clear q3 q4
       go_wp2
       go_ret
       exact ⟨Ac H.out.symm,Aa B1 hE⟩
     ·have q3':(r.tasks[t].state == 2)=false:=beq_eq_false_iff_ne.2 q3
      have S2:Hid (r.tasks[t].state=2->Hb r t es (j+1)):=fun h2=>absurd h2 q3
      clear q3
      go_wp2
      first
       | exact ⟨⟨j+1,by omega,by go_num,by rw [S.out];go_num,S2,Aa aF hE⟩,by simp [intOf];omega⟩
       | (refine ⟨?_,by simp [intOf];omega⟩;(repeat apply Exists.intro);first | exact ⟨⟨j+1,by omega,by go_num,by rw [S.out];go_num,S2,Aa aF hE⟩,rfl⟩ | exact ⟨⟨j+1,by omega,by go_num,by rw [S.out];go_num,S2,Aa aF hE⟩,rfl,rfl⟩ | exact ⟨⟨j+1,by omega,by go_num,by rw [S.out];go_num,S2,Aa aF hE⟩,rfl,rfl,rfl⟩ | exact ⟨⟨j+1,by omega,by go_num,by rw [S.out];go_num,S2,Aa aF hE⟩,rfl,rfl,rfl,rfl⟩ | exact ⟨⟨j+1,by omega,by go_num,by rw [S.out];go_num,S2,Aa aF hE⟩,rfl,rfl,rfl,rfl,rfl⟩ | exact ⟨⟨j+1,by omega,by go_num,by rw [S.out];go_num,S2,Aa aF hE⟩,rfl,rfl,rfl,rfl,rfl,rfl⟩ | exact ⟨⟨j+1,by omega,by go_num,by rw [S.out];go_num,S2,Aa aF hE⟩,rfl,rfl,rfl,rfl,rfl,rfl,rfl⟩)
    ·have fU:¬ (j:Int)<(es.length:Int):=by omega
     have hj':j=es.length:=by omega
     subst hj'
     have HP:Hid (r.tasks[t].state=2 -> ∀ j (hj:j<es.length),H9 r.id t es[j]=true->es[j].prio=r.plan.prio):=fun h2 j hj hm=>pU.out h2 j hj hj hm
     have HMt:=Lib.hid (show G8 r.id t (es.take es.length)=G8 r.id t es by rw [List.take_length])
     have HMb:=Lib.hid (show ∀ M:Int,M=(G8 r.id t es:Nat)->(M=1 ↔ G8 r.id t es=1) from fun M hM=>by omega)
     have step:Mi y.now r es t->Hid (∀ t',t'<t+1->Mi y.now r es t'):=fun hx t' jV=>by
      by_cases e:t'=t
      ·subst e;exact hx
      ·exact aW.out t' (by omega)
     have w1':IntKind.i64.wrap (y.now+1)=y.now+1:=IntWalk.i64_in _ (by omega)
     have w2':IntKind.i64.wrap (y.now+r.plan.wait)=y.now+r.plan.wait:=IntWalk.i64_in _ (by omega)
     by_cases q3:r.tasks[t].state=2
     ·have q3':(r.tasks[t].state == 2)=true:=beq_iff_eq.2 q3
      have q5':(r.tasks[t].state == 3)=false:=beq_eq_false_iff_ne.2 (by omega)
      by_cases q4:G8 r.id t es=1
      ·have S:=step (L7 aA (fun h=>⟨HP.out h,q4⟩) (fun h=>by omega))
       have q4':((G8 r.id t es:Int) != 1)=false:=by simp [q4]
       clear q3 q4 step
       go_wp2
       first
        | exact ⟨⟨t+1,by omega,by go_num,S,Aa Hb2 aF⟩,by simp [intOf];omega⟩
        | (refine ⟨?_,by simp [intOf];omega⟩;(repeat apply Exists.intro);first | exact ⟨⟨t+1,by omega,by go_num,S,Aa Hb2 aF⟩,rfl⟩ | exact ⟨⟨t+1,by omega,by go_num,S,Aa Hb2 aF⟩,rfl,rfl⟩ | exact ⟨⟨t+1,by omega,by go_num,S,Aa Hb2 aF⟩,rfl,rfl,rfl⟩ | exact ⟨⟨t+1,by omega,by go_num,S,Aa Hb2 aF⟩,rfl,rfl,rfl,rfl⟩ | exact ⟨⟨t+1,by omega,by go_num,S,Aa Hb2 aF⟩,rfl,rfl,rfl,rfl,rfl⟩ | exact ⟨⟨t+1,by omega,by go_num,S,Aa Hb2 aF⟩,rfl,rfl,rfl,rfl,rfl,rfl⟩ | exact ⟨⟨t+1,by omega,by go_num,S,Aa Hb2 aF⟩,rfl,rfl,rfl,rfl,rfl,rfl,rfl⟩)
      ·have H:=Lib.hid (Al (Rj (now:=y.now) aA q3 q4))
       have q4':((G8 r.id t es:Int) != 1)=true:=by simp;omega
       clear q3 q4 step
       go_wp2
       go_ret
       exact ⟨Ac H.out.symm,B1⟩
     ·have q3':(r.tasks[t].state == 2)=false:=beq_eq_false_iff_ne.2 q3
      by_cases q5:r.tasks[t].state=3
      ·have q5':(r.tasks[t].state == 3)=true:=beq_iff_eq.2 q5
       cases q6:inB r.tasks[t].until_ (y.now+1) (y.now+r.plan.wait)
       ·have H:=Lib.hid (Al (Rk (es:=es) aA q5 q6))
        clear q3 q5 step
        go_wp2_with (go_at_call 58;refine (Ap _ _ _ _).mono ?_;rintro e w' ⟨rfl,rfl⟩)
        go_ret
        exact ⟨Ac H.out.symm,B1⟩
       ·have S:=step (L7 aA (fun h=>absurd h q3) (fun _=>q6))
        clear q3 q5 step
        go_wp2_with (go_at_call 58;refine (Ap _ _ _ _).mono ?_;rintro e w' ⟨rfl,rfl⟩)
        first
         | exact ⟨⟨t+1,by omega,by go_num,S,Aa Hb2 aF⟩,by simp [intOf];omega⟩
         | (refine ⟨?_,by simp [intOf];omega⟩;(repeat apply Exists.intro);first | exact ⟨⟨t+1,by omega,by go_num,S,Aa Hb2 aF⟩,rfl⟩ | exact ⟨⟨t+1,by omega,by go_num,S,Aa Hb2 aF⟩,rfl,rfl⟩ | exact ⟨⟨t+1,by omega,by go_num,S,Aa Hb2 aF⟩,rfl,rfl,rfl⟩ | exact ⟨⟨t+1,by omega,by go_num,S,Aa Hb2 aF⟩,rfl,rfl,rfl,rfl⟩ | exact ⟨⟨t+1,by omega,by go_num,S,Aa Hb2 aF⟩,rfl,rfl,rfl,rfl,rfl⟩ | exact ⟨⟨t+1,by omega,by go_num,S,Aa Hb2 aF⟩,rfl,rfl,rfl,rfl,rfl,rfl⟩ | exact ⟨⟨t+1,by omega,by go_num,S,Aa Hb2 aF⟩,rfl,rfl,rfl,rfl,rfl,rfl,rfl⟩)
      ·have q5':(r.tasks[t].state == 3)=false:=beq_eq_false_iff_ne.2 q5
       have S:=step (L7 aA (fun h=>absurd h q3) (fun h=>absurd h q5))
       clear q3 q5 step
       go_wp2
       first
        | exact ⟨⟨t+1,by omega,by go_num,S,Aa Hb2 aF⟩,by simp [intOf];omega⟩
        | (refine ⟨?_,by simp [intOf];omega⟩;(repeat apply Exists.intro);first | exact ⟨⟨t+1,by omega,by go_num,S,Aa Hb2 aF⟩,rfl⟩ | exact ⟨⟨t+1,by omega,by go_num,S,Aa Hb2 aF⟩,rfl,rfl⟩ | exact ⟨⟨t+1,by omega,by go_num,S,Aa Hb2 aF⟩,rfl,rfl,rfl⟩ | exact ⟨⟨t+1,by omega,by go_num,S,Aa Hb2 aF⟩,rfl,rfl,rfl,rfl⟩ | exact ⟨⟨t+1,by omega,by go_num,S,Aa Hb2 aF⟩,rfl,rfl,rfl,rfl,rfl⟩ | exact ⟨⟨t+1,by omega,by go_num,S,Aa Hb2 aF⟩,rfl,rfl,rfl,rfl,rfl,rfl⟩ | exact ⟨⟨t+1,by omega,by go_num,S,Aa Hb2 aF⟩,rfl,rfl,rfl,rfl,rfl,rfl,rfl⟩)
  ·have aB:¬ (t:Int)<(r.tasks.length:Int):=by omega
   have H:=Lib.hid (Bs (show Ie y.now r es from fun t' jV=>aW.out t' (by omega)))
   go_wp2
   go_ret
   exact ⟨Ac H.out.symm,Aa B0 hb⟩
theorem Tf (y:Yard) (s:Sl×Sl) (r:Run) (s2:Sl×Sl) (es:List Entry) (s3:Sl) (w:World) (eV:r.tasks.length<=2000000) (pZ:es.length<=2000000) (hn:0<=y.now/\y.now<=999999980) (hw:1<=r.plan.wait/\r.plan.wait<=20)
  (h':Am.rd w w.heap.size r s2) (h3:Rd Az w w.heap.size s3.v es) :
  Calls Tryz.prog 217 #[By y s,Ey r s2,.slice s3.a s3.n s3.c] w fun e w'=>e = .returned (.bool (tf (Ie y.now r es)))/\Below w.heap.size w w':=by
 obtain ⟨⟨A1,n1,c1⟩,⟨A2,n2,c2⟩⟩:=s
 obtain ⟨⟨A4,n4,c4⟩,⟨A5,n5,c5⟩⟩:=s2
 obtain ⟨A6,n6,c6⟩:=s3
 obtain rfl:n5=r.tasks.length:=RdL.at1 (s:=⟨A5,n5,c5⟩) h'.2
 obtain rfl:n6=es.length:=RdL.at1 (s:=⟨A6,n6,c6⟩) (I7 h3)
 have h2:RdL Cv w w.heap.size (.slice A5 r.tasks.length c5) r.tasks:=h'.2
 have h3:RdL Af w w.heap.size (.slice A6 es.length c6) es:=I7 h3
 clear h'
 obtain ⟨W,aG,X,R,B0⟩:=bx2 w 31 [.int .i64 y.now,.int .i64 y.seq,.slice A1 n1 c1,.slice A2 n2 c2] 89 [.int .i64 r.id,.int .i64 r.plan.prio,.int .i64 r.plan.most,.int .i64 r.plan.wait,.int .i64 r.plan.tasks,.slice A4 n4 c4,.int .i64 r.state,.slice A5 r.tasks.length c5]
 go_enter Tryz.func217,Tryz.ntmps217
 go_wp2
 rw [<-aG.out]
 clear aG
 go_loopw [7] (fun i wr=>∃ k:Nat,k<=r.tasks.length/\i = .int .i64 k/\Hid (∀ t,t<k->Mi y.now r es t)/\Below W.heap.size W wr) (fun i _=>r.tasks.length - (intOf i).toNat)
 case atStart=>exact ⟨0,Nat.zero_le _,rfl,fun t ht=>absurd ht (by omega),Below.refl _ _⟩
 case round =>
  obtain ⟨t,hk,rfl,aW,hb⟩:=hrel
  by_cases aA:t<r.tasks.length
  ·have aB:(t:Int)<(r.tasks.length:Int):=by omega
   have R1:=R.below hb
   have rB:wr.cell? ⟨w.heap.size+1,7,none⟩=some (.slice A5 r.tasks.length c5):=R1.cell 7 _ rfl
   have tX:=R1.lt
   go_wp2
   clear rB tX R1
   go_loopw [8,9] (fun n i wq=>∃ j:Nat,j<=es.length/\i = .int .i64 j/\n = .int .i64 (G8 r.id t (es.take j):Nat)/\Hid (r.tasks[t].state=2->Hb r t es j)/\Below W.heap.size W wq) (fun _ i _=>es.length - (intOf i).toNat)
   case atStart=>exact ⟨0,Nat.zero_le _,rfl,rfl,fun _ j hj h0=>absurd h0 (by omega),hb⟩
   case round =>
    clear hb
    obtain ⟨j,hj,rfl,rfl,pU,hb⟩:=hrel
    have hmn:=Wk r.id t (es.take j)
    rw [List.length_take] at hmn
    have X:=X.below hb
    have R:=R.below hb
    obtain ⟨X_0,X_1,X_2,X_3,X_l⟩:=X.g4
    obtain ⟨R_0,R_1,R_2,R_3,R_4,R_5,R_6,R_7,R_l⟩:=R.g8
    have B1:=Aa B0 hb
    obtain ⟨b,o,_,hA5,aH,_,d0,d1,d2,d3⟩:=(h2.below B1).task aA
    subst hA5
    have bJ:b<wr.heap.size:=Nat.lt_of_lt_of_le aH B1.size
    have aN:=Bk wr
    by_cases cZ:j<es.length
    ·have fU:(j:Int)<(es.length:Int):=by omega
     obtain ⟨b6,o6,_,hA6,hbb6,_,f0,f1,f2,f3⟩:=(h3.below B1).entry cZ
     subst hA6
     have pG:b6<wr.heap.size:=Nat.lt_of_lt_of_le hbb6 B1.size
     have HM:Hid (H9 r.id t es[j]=((es[j].run == r.id) && (es[j].task == (t:Int)))):=rfl
     have HY:=Lib.hid (Ty (id:=r.id) (t:=t) cZ)
     have HN:=Lib.hid (Wj (id:=r.id) (t:=t) cZ)
     cases q1:(es[j].run == r.id)
     ·have hm:H9 r.id t es[j]=false:=by rw [HM.out,q1];rfl
      have S:=Lib.hid (HN.out hm)
      have S2:Hid (r.tasks[t].state=2->Hb r t es (j+1)):=fun h2=>Ig (pU.out h2) cZ (fun hh=>by rw [hm] at hh;cases hh)
      clear hm
      go_wp2
      go_quiet (fail)
      go_wp2
      first
       | exact ⟨⟨j+1,by omega,by go_num,by rw [S.out],S2,Ao hb _⟩,by simp [intOf];omega⟩
       | (refine ⟨?_,by simp [intOf];omega⟩;(repeat apply Exists.intro);first | exact ⟨⟨j+1,by omega,by go_num,by rw [S.out],S2,Ao hb _⟩,rfl⟩ | exact ⟨⟨j+1,by omega,by go_num,by rw [S.out],S2,Ao hb _⟩,rfl,rfl⟩ | exact ⟨⟨j+1,by omega,by go_num,by rw [S.out],S2,Ao hb _⟩,rfl,rfl,rfl⟩ | exact ⟨⟨j+1,by omega,by go_num,by rw [S.out],S2,Ao hb _⟩,rfl,rfl,rfl,rfl⟩ | exact ⟨⟨j+1,by omega,by go_num,by rw [S.out],S2,Ao hb _⟩,rfl,rfl,rfl,rfl,rfl⟩ | exact ⟨⟨j+1,by omega,by go_num,by rw [S.out],S2,Ao hb _⟩,rfl,rfl,rfl,rfl,rfl,rfl⟩ | exact ⟨⟨j+1,by omega,by go_num,by rw [S.out],S2,Ao hb _⟩,rfl,rfl,rfl,rfl,rfl,rfl,rfl⟩)
     cases q2:(es[j].task == (t:Int))
     ·have hm:H9 r.id t es[j]=false:=by rw [HM.out,q1,q2];rfl
      have S:=Lib.hid (HN.out hm)
      have S2:Hid (r.tasks[t].state=2->Hb r t es (j+1)):=fun h2=>Ig (pU.out h2) cZ (fun hh=>by rw [hm] at hh;cases hh)
      clear hm
      go_wp2
      go_quiet (fail)
      go_wp2
      first
       | exact ⟨⟨j+1,by omega,by go_num,by rw [S.out],S2,Ao hb _⟩,by simp [intOf];omega⟩
       | (refine ⟨?_,by simp [intOf];omega⟩;(repeat apply Exists.intro);first | exact ⟨⟨j+1,by omega,by go_num,by rw [S.out],S2,Ao hb _⟩,rfl⟩ | exact ⟨⟨j+1,by omega,by go_num,by rw [S.out],S2,Ao hb _⟩,rfl,rfl⟩ | exact ⟨⟨j+1,by omega,by go_num,by rw [S.out],S2,Ao hb _⟩,rfl,rfl,rfl⟩ | exact ⟨⟨j+1,by omega,by go_num,by rw [S.out],S2,Ao hb _⟩,rfl,rfl,rfl,rfl⟩ | exact ⟨⟨j+1,by omega,by go_num,by rw [S.out],S2,Ao hb _⟩,rfl,rfl,rfl,rfl,rfl⟩ | exact ⟨⟨j+1,by omega,by go_num,by rw [S.out],S2,Ao hb _⟩,rfl,rfl,rfl,rfl,rfl,rfl⟩ | exact ⟨⟨j+1,by omega,by go_num,by rw [S.out],S2,Ao hb _⟩,rfl,rfl,rfl,rfl,rfl,rfl,rfl⟩)
     have hm:H9 r.id t es[j]=true:=by rw [HM.out,q1,q2];rfl
     have S:=Lib.hid (HY.out hm)
     have HM2:=Lib.hid hm
     clear hm
     by_cases q3:r.tasks[t].state=2
     ·have q3':(r.tasks[t].state == 2)=true:=beq_iff_eq.2 q3
      by_cases q4:es[j].prio=r.plan.prio
      ·have q4':(es[j].prio != r.plan.prio)=false:=by simp [q4]
       have S2:Hid (r.tasks[t].state=2->Hb r t es (j+1)):=fun h2=>Ig (pU.out h2) cZ (fun _=>q4)
       clear q3 q4
       go_wp2
       go_quiet (fail)
       go_wp2
       go_quiet (fail)
       go_wp2
       first
        | exact ⟨⟨j+1,by omega,by go_num,by rw [S.out];go_num,S2,by first | exact Ao hb _ | exact Ao (Ao hb _) _⟩,by simp [intOf];omega⟩
        | (refine ⟨?_,by simp [intOf];omega⟩;(repeat apply Exists.intro);first | exact ⟨⟨j+1,by omega,by go_num,by rw [S.out];go_num,S2,by first | exact Ao hb _ | exact Ao (Ao hb _) _⟩,rfl⟩ | exact ⟨⟨j+1,by omega,by go_num,by rw [S.out];go_num,S2,by first | exact Ao hb _ | exact Ao (Ao hb _) _⟩,rfl,rfl⟩ | exact ⟨⟨j+1,by omega,by go_num,by rw [S.out];go_num,S2,by first | exact Ao hb _ | exact Ao (Ao hb _) _⟩,rfl,rfl,rfl⟩ | exact ⟨⟨j+1,by omega,by go_num,by rw [S.out];go_num,S2,by first | exact Ao hb _ | exact Ao (Ao hb _) _⟩,rfl,rfl,rfl,rfl⟩ | exact ⟨⟨j+1,by omega,by go_num,by rw [S.out];go_num,S2,by first | exact Ao hb _ | exact Ao (Ao hb _) _⟩,rfl,rfl,rfl,rfl,rfl⟩ | exact ⟨⟨j+1,by omega,by go_num,by rw [S.out];go_num,S2,by first | exact Ao hb _ | exact Ao (Ao hb _) _⟩,rfl,rfl,rfl,rfl,rfl,rfl⟩ | exact ⟨⟨j+1,by omega,by go_num,by rw [S.out];go_num,S2,by first | exact Ao hb _ | exact Ao (Ao hb _) _⟩,rfl,rfl,rfl,rfl,rfl,rfl,rfl⟩)
      ·have q4':(es[j].prio != r.plan.prio)=true:=by simp [q4]
       have H:=Lib.hid (Al (Ri (now:=y.now) aA q3 cZ HM2.out q4))
       clear q3 q4
       go_wp2
       go_quiet (fail)
       go_wp2
       go_quiet (fail)
       go_wp2
       go_ret
       exact ⟨Ac H.out.symm,by first | exact Ao B1 _ | exact Ao (Ao B1 _) _⟩
     ·have q3':(r.tasks[t].state == 2)=false:=beq_eq_false_iff_ne.2 q3
      have S2:Hid (r.tasks[t].state=2->Hb r t es (j+1)):=fun h2=>absurd h2 q3
      clear q3
      go_wp2
      go_quiet (fail)
      go_wp2
      go_quiet (fail)
      go_wp2
      first
       | exact ⟨⟨j+1,by omega,by go_num,by rw [S.out];go_num,S2,by first | exact Ao hb _ | exact Ao (Ao hb _) _⟩,by simp [intOf];omega⟩
       | (refine ⟨?_,by simp [intOf];omega⟩;(repeat apply Exists.intro);first | exact ⟨⟨j+1,by omega,by go_num,by rw [S.out];go_num,S2,by first | exact Ao hb _ | exact Ao (Ao hb _) _⟩,rfl⟩ | exact ⟨⟨j+1,by omega,by go_num,by rw [S.out];go_num,S2,by first | exact Ao hb _ | exact Ao (Ao hb _) _⟩,rfl,rfl⟩ | exact ⟨⟨j+1,by omega,by go_num,by rw [S.out];go_num,S2,by first | exact Ao hb _ | exact Ao (Ao hb _) _⟩,rfl,rfl,rfl⟩ | exact ⟨⟨j+1,by omega,by go_num,by rw [S.out];go_num,S2,by first | exact Ao hb _ | exact Ao (Ao hb _) _⟩,rfl,rfl,rfl,rfl⟩ | exact ⟨⟨j+1,by omega,by go_num,by rw [S.out];go_num,S2,by first | exact Ao hb _ | exact Ao (Ao hb _) _⟩,rfl,rfl,rfl,rfl,rfl⟩ | exact ⟨⟨j+1,by omega,by go_num,by rw [S.out];go_num,S2,by first | exact Ao hb _ | exact Ao (Ao hb _) _⟩,rfl,rfl,rfl,rfl,rfl,rfl⟩ | exact ⟨⟨j+1,by omega,by go_num,by rw [S.out];go_num,S2,by first | exact Ao hb _ | exact Ao (Ao hb _) _⟩,rfl,rfl,rfl,rfl,rfl,rfl,rfl⟩)
    ·have fU:¬ (j:Int)<(es.length:Int):=by omega
     have hj':j=es.length:=by omega
     subst hj'
     rw [List.take_length] at *
     have HP:Hid (r.tasks[t].state=2 -> ∀ j (hj:j<es.length),H9 r.id t es[j]=true->es[j].prio=r.plan.prio):=fun h2 j hj hm=>pU.out h2 j hj hj hm
     have step:Mi y.now r es t->Hid (∀ t',t'<t+1->Mi y.now r es t'):=fun hx t' jV=>by
      by_cases e:t'=t
      ·subst e;exact hx
      ·exact aW.out t' (by omega)
     have w1':IntKind.i64.wrap (y.now+1)=y.now+1:=IntWalk.i64_in _ (by omega)
     have w2':IntKind.i64.wrap (y.now+r.plan.wait)=y.now+r.plan.wait:=IntWalk.i64_in _ (by omega)
     generalize hM:(G8 r.id t es:Int)=M at *
     by_cases q3:r.tasks[t].state=2
     ·have q3':(r.tasks[t].state == 2)=true:=beq_iff_eq.2 q3
      have q5':(r.tasks[t].state == 3)=false:=beq_eq_false_iff_ne.2 (by omega)
      by_cases q4:M=1
      ·have S:=step (L7 aA (fun h=>⟨HP.out h,by omega⟩) (fun h=>by omega))
       have q4':(M != 1)=false:=by simp [q4]
       clear q3 q4 step hM
       go_wp2
       refine Ad (by kernel_rfl) (by kernel_rfl) ?_
       repeat (go_big_quiet_step ((go_at_call 155;exact Bv (fun u=>Aj _ _ _ u.1))))
       refine wpQuiet_nil ?_
       rintro _ ⟨⟨w2,b2⟩,rfl⟩
       clear aN
       go_wp2
       first
        | exact ⟨⟨t+1,by omega,by go_num,S,Aa hb b2⟩,by simp [intOf];omega⟩
        | (refine ⟨?_,by simp [intOf];omega⟩;(repeat apply Exists.intro);first | exact ⟨⟨t+1,by omega,by go_num,S,Aa hb b2⟩,rfl⟩ | exact ⟨⟨t+1,by omega,by go_num,S,Aa hb b2⟩,rfl,rfl⟩ | exact ⟨⟨t+1,by omega,by go_num,S,Aa hb b2⟩,rfl,rfl,rfl⟩ | exact ⟨⟨t+1,by omega,by go_num,S,Aa hb b2⟩,rfl,rfl,rfl,rfl⟩ | exact ⟨⟨t+1,by omega,by go_num,S,Aa hb b2⟩,rfl,rfl,rfl,rfl,rfl⟩ | exact ⟨⟨t+1,by omega,by go_num,S,Aa hb b2⟩,rfl,rfl,rfl,rfl,rfl,rfl⟩ | exact ⟨⟨t+1,by omega,by go_num,S,Aa hb b2⟩,rfl,rfl,rfl,rfl,rfl,rfl,rfl⟩)
      ·have H:=Lib.hid (Al (Rj (now:=y.now) aA q3 (show ¬ G8 r.id t es=1 by omega)))
       have q4':(M != 1)=true:=by simp [q4]
       clear q3 q4 step hM
       go_wp2
       refine Ad (by kernel_rfl) (by kernel_rfl) ?_
       repeat (go_big_quiet_step ((go_at_call 155;exact Bv (fun u=>Aj _ _ _ u.1))))
       refine wpQuiet_nil ?_
       rintro _ ⟨⟨w2,b2⟩,rfl⟩
       clear aN
       go_wp2
       go_ret
       exact ⟨Ac H.out.symm,Aa B1 b2⟩
     ·have q3':(r.tasks[t].state == 2)=false:=beq_eq_false_iff_ne.2 q3
      clear hM
      by_cases q5:r.tasks[t].state=3
      ·have q5':(r.tasks[t].state == 3)=true:=beq_iff_eq.2 q5
       cases q6:inB r.tasks[t].until_ (y.now+1) (y.now+r.plan.wait)
       ·have H:=Lib.hid (Al (Rk (es:=es) aA q5 q6))
        clear q3 q5 step
        go_wp2
        refine Ad (by kernel_rfl) (by kernel_rfl) ?_
        repeat (go_big_quiet_step ((go_at_call 155;exact Bv (fun u=>Aj _ _ _ u.1))))
        refine wpQuiet_nil ?_
        rintro _ ⟨⟨w2,b2⟩,rfl⟩
        clear aN
        go_wp2
        go_ret
        exact ⟨Ac H.out.symm,Aa B1 b2⟩
       ·have S:=step (L7 aA (fun h=>absurd h q3) (fun _=>q6))
        clear q3 q5 step
        go_wp2
        refine Ad (by kernel_rfl) (by kernel_rfl) ?_
        repeat (go_big_quiet_step ((go_at_call 155;exact Bv (fun u=>Aj _ _ _ u.1))))
        refine wpQuiet_nil ?_
        rintro _ ⟨⟨w2,b2⟩,rfl⟩
        clear aN
        go_wp2
        first
         | exact ⟨⟨t+1,by omega,by go_num,S,Aa hb b2⟩,by simp [intOf];omega⟩
         | (refine ⟨?_,by simp [intOf];omega⟩;(repeat apply Exists.intro);first | exact ⟨⟨t+1,by omega,by go_num,S,Aa hb b2⟩,rfl⟩ | exact ⟨⟨t+1,by omega,by go_num,S,Aa hb b2⟩,rfl,rfl⟩ | exact ⟨⟨t+1,by omega,by go_num,S,Aa hb b2⟩,rfl,rfl,rfl⟩ | exact ⟨⟨t+1,by omega,by go_num,S,Aa hb b2⟩,rfl,rfl,rfl,rfl⟩ | exact ⟨⟨t+1,by omega,by go_num,S,Aa hb b2⟩,rfl,rfl,rfl,rfl,rfl⟩ | exact ⟨⟨t+1,by omega,by go_num,S,Aa hb b2⟩,rfl,rfl,rfl,rfl,rfl,rfl⟩ | exact ⟨⟨t+1,by omega,by go_num,S,Aa hb b2⟩,rfl,rfl,rfl,rfl,rfl,rfl,rfl⟩)
      ·have q5':(r.tasks[t].state == 3)=false:=beq_eq_false_iff_ne.2 q5
       have S:=step (L7 aA (fun h=>absurd h q3) (fun h=>absurd h q5))
       clear q3 q5 step
       go_wp2
       refine Ad (by kernel_rfl) (by kernel_rfl) ?_
       repeat (go_big_quiet_step ((go_at_call 155;exact Bv (fun u=>Aj _ _ _ u.1))))
       refine wpQuiet_nil ?_
       rintro _ ⟨⟨w2,b2⟩,rfl⟩
       clear aN
       go_wp2
       first
        | exact ⟨⟨t+1,by omega,by go_num,S,Aa hb b2⟩,by simp [intOf];omega⟩
        | (refine ⟨?_,by simp [intOf];omega⟩;(repeat apply Exists.intro);first | exact ⟨⟨t+1,by omega,by go_num,S,Aa hb b2⟩,rfl⟩ | exact ⟨⟨t+1,by omega,by go_num,S,Aa hb b2⟩,rfl,rfl⟩ | exact ⟨⟨t+1,by omega,by go_num,S,Aa hb b2⟩,rfl,rfl,rfl⟩ | exact ⟨⟨t+1,by omega,by go_num,S,Aa hb b2⟩,rfl,rfl,rfl,rfl⟩ | exact ⟨⟨t+1,by omega,by go_num,S,Aa hb b2⟩,rfl,rfl,rfl,rfl,rfl⟩ | exact ⟨⟨t+1,by omega,by go_num,S,Aa hb b2⟩,rfl,rfl,rfl,rfl,rfl,rfl⟩ | exact ⟨⟨t+1,by omega,by go_num,S,Aa hb b2⟩,rfl,rfl,rfl,rfl,rfl,rfl,rfl⟩)
  ·have aB:¬ (t:Int)<(r.tasks.length:Int):=by omega
   have H:=Lib.hid (Bs (show Ie y.now r es from fun t' jV=>aW.out t' (by omega)))
   have R1:=R.below hb
   have rB:wr.cell? ⟨w.heap.size+1,7,none⟩=some (.slice A5 r.tasks.length c5):=R1.cell 7 _ rfl
   have tX:=R1.lt
   go_wp2
   go_ret
   exact ⟨Ac H.out.symm,Aa B0 hb⟩
theorem Oe (w:World):∀ l:List Entry,Ows Af w [] (l.map fun x=>(x,()))
 | []=>.nil
 | x :: l=>by
  have:=Ows.cons (d:=Af) (w:=w) (F:=[]) (r:=(x,())) rfl (Oe w l)
  exact this
theorem Ez {w:World} {E:TypeId} {base:Nat} {v:Value} {l:List Entry} (h:Ow Az E w base v l):∃ (s:Sl) (F:List Nat),v = .slice s.a s.n s.c/\OwL Af w F s.v l /\ ∀ b∈F,base<=b:=by
 obtain ⟨h1,h2⟩:=Hw.of_ow h
 obtain ⟨⟨A,c,hv,hc,hA⟩,hF,hf⟩:=id h1
 subst hv
 refine ⟨⟨A,l.length,c⟩,_,rfl,⟨l.map fun x=>(x,()),Cm (.slice A l.length c) l.length,[],by rw [List.map_map];exact List.map_id _,⟨⟨A,c,by rw [List.length_map],by rw [List.length_map];exact hc,fun hl=>?_⟩,by rw [List.length_map],hf⟩,Oe w l,(List.append_nil _).symm,h1.nodup⟩,h2⟩
 rw [List.length_map] at hl
 obtain ⟨b,o,h3,h4,h5⟩:=hA hl
 refine ⟨b,o,h3,h4,fun k hk j u hu=>?_⟩
 rw [List.getElem_map] at hu
 exact h5 k (by rw [List.length_map] at hk;exact hk) j u hu
def Dj:Enc Task:={ cells:=fun x=>[.int .i64 x.state,.int .i64 x.need,.int .i64 x.try_,.int .i64 x.until_],sz:=4,len:=fun _=>rfl,one:=fun _ u hu=>by simp at hu;rcases hu with rfl | rfl | rfl | rfl<;>rfl }
theorem Qf {w:World} {B:Nat} {v:Value} {l:List Task} (h:RdL Cv w B v l):Rd Dj w B v l:=by
 obtain ⟨rs,rfl,⟨A,c,rfl,hc,hA⟩,_⟩:=h
 refine ⟨A,c,by rw [List.length_map],by rw [List.length_map];exact hc,fun hl=>?_⟩
 rw [List.length_map] at hl
 obtain ⟨b,o,h1,h2,h3⟩:=hA hl
 refine ⟨b,o,h1,h2,fun k hk j u hu=>?_⟩
 rw [List.getElem_map] at hu
 exact h3 k (by rw [List.length_map] at hk;exact hk) j u hu
theorem Rl (w:World):∀ l:List Task,Ows Cv w [] (l.map fun x=>(x,()))
 | []=>.nil
 | x :: l=>by
  have:=Ows.cons (d:=Cv) (w:=w) (F:=[]) (r:=(x,())) rfl (Rl w l)
  exact this
theorem Qg {w:World} {E:TypeId} {base:Nat} {v:Value} {l:List Task} (h:Ow Dj E w base v l):∃ (s:Sl) (F:List Nat),v = .slice s.a s.n s.c/\OwL Cv w F s.v l /\ ∀ b∈F,base<=b:=by
 obtain ⟨h1,h2⟩:=Hw.of_ow h
 obtain ⟨⟨A,c,hv,hc,hA⟩,hF,hf⟩:=id h1
 subst hv
 refine ⟨⟨A,l.length,c⟩,_,rfl,⟨l.map fun x=>(x,()),Cm (.slice A l.length c) l.length,[],by rw [List.map_map];exact List.map_id _,⟨⟨A,c,by rw [List.length_map],by rw [List.length_map];exact hc,fun hl=>?_⟩,by rw [List.length_map],hf⟩,Rl w l,(List.append_nil _).symm,h1.nodup⟩,h2⟩
 rw [List.length_map] at hl
 obtain ⟨b,o,h3,h4,h5⟩:=hA hl
 refine ⟨b,o,h3,h4,fun k hk j u hu=>?_⟩
 rw [List.getElem_map] at hu
 exact h5 k (by rw [List.length_map] at hk;exact hk) j u hu
theorem L8:(Tryz.prog.info? 138).map (fun i=>(i.zero,i.size,i.bytes))=some (some (.agg #[.int .i64 0,.int .i64 0,.int .i64 0,.int .i64 0]),4,32):=by kernel_rfl
theorem Gz (l:List Entry) (s:Sl) (w:World) (hl:l.length<=2000000) (h:RdL Af w w.heap.size s.v l) :
  Calls Tryz.prog 122 #[.slice s.a s.n s.c] w (Cj (Dt.list Af) slV l w):=by
 obtain ⟨A,n,c⟩:=s
 obtain rfl:n=l.length:=RdL.at1 (s:=⟨A,n,c⟩) h
 obtain ⟨i0,aP,aX,aV,aQ⟩:=info_parts Ds
 go_enter Tryz.func122,Tryz.ntmps122
 go_wp2_with (at_builtin;refine Ak _ Az (by decide) rfl (.const (.slice none 0 0)) (.tmp 3) rfl Tryz.underlying96 aP aX aV aQ rfl (v:=.slice none 0 0) (l:=[]) rfl (Ow.nil Az 93 _ w.heap.size) rfl (Hd h) (by simp) (by omega) (by decide) (Nat.le_refl _) ?_;intro v1 w1 o1 g1 _;rw [List.nil_append] at o1)
 obtain ⟨s1,F1,rfl,o2,n2⟩:=Ez o1
 go_ret
 exact ⟨s1,F1,rfl,o2,n2,(Below.refl w.heap.size w).grown g1 (Nat.le_refl _) (fun g hg=>by cases hg)⟩
theorem K5 (r:Run) (s:Sl×Sl) (w:World) (hl:Bg r<=2000000) (h:Am.rd w w.heap.size r s) :
  Calls Tryz.prog 123 #[Ey r s] w (Cj Am Ey r w):=by
 obtain ⟨⟨A1,n1,c1⟩,⟨A2,n2,c2⟩⟩:=s
 obtain rfl:n2=r.tasks.length:=RdL.at1 (s:=⟨A2,n2,c2⟩) h.2
 have h1:Ag.rd w w.heap.size r.plan ⟨A1,n1,c1⟩:=h.1
 have h2:Rd Dj w w.heap.size (.slice A2 r.tasks.length c2) r.tasks:=Qf h.2
 have jS:C8 r.plan<=2000000:=by unfold Bg at hl;omega
 have eV:r.tasks.length<=2000000:=Nat.le_trans (Ar Fc _) (by unfold Bg at hl;omega)
 clear h hl
 obtain ⟨W,aG,X,Z,B0⟩:=bx2 w 89 [.int .i64 r.id,.int .i64 r.plan.prio,.int .i64 r.plan.most,.int .i64 r.plan.wait,.int .i64 r.plan.tasks,.slice A1 n1 c1,.int .i64 r.state,.slice A2 r.tasks.length c2] 89 [.int .i64 0,.int .i64 0,.int .i64 0,.int .i64 0,.int .i64 0,.slice none 0 0,.int .i64 0,.slice none 0 0]
 obtain ⟨i0,aP,aX,aV,aQ⟩:=info_parts L8
 go_enter Tryz.func123,Tryz.ntmps123
 go_wp2_with fail
 rw [<-aG.out]
 clear aG
 refine (Kf r.plan ⟨A1,n1,c1⟩ W jS (Ag.rd_more (Ag.rd_below h1 B0) B0.size)).mono ?_
 rintro e w0 ⟨⟨A3,n3,c3⟩,F0,rfl,o0,n0,b0⟩
 have hW:w.heap.size+2<=W.heap.size:=Z.lt
 replace X:=X.below b0
 replace Z:=Z.below b0
 replace B0:=Aa B0 b0
 obtain ⟨X_0,X_1,X_2,X_3,X_4,X_5,X_6,X_7,X_l⟩:=X.g8
 obtain ⟨Z_0,Z_1,Z_2,Z_3,Z_4,Z_5,Z_6,Z_7,Z_l⟩:=Z.g8
 have X_f:=X.free
 have Z_f:=Z.free
 have tF:w.heap.size∉F0:=fun hm=>by have:=n0 _ hm;omega
 have X1:DBox w.heap.size [.int .i64 r.id,.int .i64 r.plan.prio,.int .i64 r.plan.most,.int .i64 r.plan.wait,.int .i64 r.plan.tasks,.slice A3 n3 c3,.int .i64 r.state,.slice A2 r.tasks.length c2] (((((w0.setCell ⟨w.heap.size,1,none⟩ (.int .i64 r.plan.prio)).setCell ⟨w.heap.size,2,none⟩ (.int .i64 r.plan.most)).setCell ⟨w.heap.size,3,none⟩ (.int .i64 r.plan.wait)).setCell ⟨w.heap.size,4,none⟩ (.int .i64 r.plan.tasks)).setCell ⟨w.heap.size,5,none⟩ (.slice A3 n3 c3)):=((((X.set 1 (by simp) (.int .i64 r.plan.prio)).set 2 (by simp) (.int .i64 r.plan.most)).set 3 (by simp) (.int .i64 r.plan.wait)).set 4 (by simp) (.int .i64 r.plan.tasks)).set 5 (by simp) (.slice A3 n3 c3)
 have Z1:=((((Z.setOther (a:=⟨w.heap.size,1,none⟩) (by simp) (.int .i64 r.plan.prio)).setOther (a:=⟨w.heap.size,2,none⟩) (by simp) (.int .i64 r.plan.most)).setOther (a:=⟨w.heap.size,3,none⟩) (by simp) (.int .i64 r.plan.wait)).setOther (a:=⟨w.heap.size,4,none⟩) (by simp) (.int .i64 r.plan.tasks)).setOther (a:=⟨w.heap.size,5,none⟩) (by simp) (.slice A3 n3 c3)
 have o1:Ag.ow (((((w0.setCell ⟨w.heap.size,1,none⟩ (.int .i64 r.plan.prio)).setCell ⟨w.heap.size,2,none⟩ (.int .i64 r.plan.most)).setCell ⟨w.heap.size,3,none⟩ (.int .i64 r.plan.wait)).setCell ⟨w.heap.size,4,none⟩ (.int .i64 r.plan.tasks)).setCell ⟨w.heap.size,5,none⟩ (.slice A3 n3 c3)) F0 r.plan ⟨A3,n3,c3⟩:=by repeat (first | (with_reducible exact o0) | refine Dt.ow_set Ag ?_ tF _)
 have B1:Below w.heap.size w (((((w0.setCell ⟨w.heap.size,1,none⟩ (.int .i64 r.plan.prio)).setCell ⟨w.heap.size,2,none⟩ (.int .i64 r.plan.most)).setCell ⟨w.heap.size,3,none⟩ (.int .i64 r.plan.wait)).setCell ⟨w.heap.size,4,none⟩ (.int .i64 r.plan.tasks)).setCell ⟨w.heap.size,5,none⟩ (.slice A3 n3 c3)):=by repeat (first | (with_reducible exact B0) | refine Below.setCell ?_ (by simp) _)
 have HZ3:=Lib.hid (show (((((w0.setCell ⟨w.heap.size,1,none⟩ (.int .i64 r.plan.prio)).setCell ⟨w.heap.size,2,none⟩ (.int .i64 r.plan.most)).setCell ⟨w.heap.size,3,none⟩ (.int .i64 r.plan.wait)).setCell ⟨w.heap.size,4,none⟩ (.int .i64 r.plan.tasks)).setCell ⟨w.heap.size,5,none⟩ (.slice A3 n3 c3)).heap.size=w0.heap.size by simp)
 go_wp2_with (at_builtin;generalize pM:(((((w0.setCell ⟨w.heap.size,1,none⟩ (.int .i64 r.plan.prio)).setCell ⟨w.heap.size,2,none⟩ (.int .i64 r.plan.most)).setCell ⟨w.heap.size,3,none⟩ (.int .i64 r.plan.wait)).setCell ⟨w.heap.size,4,none⟩ (.int .i64 r.plan.tasks)).setCell ⟨w.heap.size,5,none⟩ (.slice A3 n3 c3))=W3 at *;clear pM X_0 X_1 X_2 X_3 X_4 X_5 X_6 X_7 X_l X_f Z_0 Z_1 Z_2 Z_3 Z_4 Z_5 Z_6 Z_7 Z_l Z_f X Z o0;have jH:=(Below.refl W3.heap.size W3);refine Ak _ Dj (by decide) rfl (.const (.slice none 0 0)) (.tmp 8) rfl Tryz.underlying87 aP aX aV aQ rfl (v:=(.slice none 0 0)) (l:=[]) rfl (Ow.nil Dj 138 _ w0.heap.size) rfl ((h2.below (Aa B1 jH)).more (Aa B1 jH).size) (by simp) (by omega) (by decide) (by have:=jH.size;have:=HZ3.out;omega) ?_;intro v1 w1 o5 g1 f1;rw [List.nil_append] at o5;have B31:Below W3.heap.size W3 w1:=jH.grown g1 jH.size (fun g hg=>by have:=HZ3.out;simp [Value.ownBlock] at hg<;>omega);clear f1 g1;obtain ⟨⟨A5,n5,c5⟩,F5,rfl,o6,n6⟩:=Qg o5;replace X1:=X1.below B31;replace Z1:=Z1.below B31;have y0:=X1.cell 0 _ rfl;have y1:=X1.cell 1 _ rfl;have y2:=X1.cell 2 _ rfl;have y3:=X1.cell 3 _ rfl;have y4:=X1.cell 4 _ rfl;have y5:=X1.cell 5 _ rfl;have y6:=X1.cell 6 _ rfl;have y7:=X1.cell 7 _ rfl;have yf:=X1.free;have yl:=X1.lt;have z0:=Z1.cell 0 _ rfl;have z1:=Z1.cell 1 _ rfl;have z2:=Z1.cell 2 _ rfl;have z3:=Z1.cell 3 _ rfl;have z4:=Z1.cell 4 _ rfl;have z5:=Z1.cell 5 _ rfl;have z6:=Z1.cell 6 _ rfl;have z7:=Z1.cell 7 _ rfl;have zf:=Z1.free;have zl:=Z1.lt)
 have B2:=Aa B1 B31
 have o7:=Ag.ow_below o1 B31
 have uD:=HZ3.out
 have bU:=b0.size
 have l0:∀ b∈F0,b<w0.heap.size:=fun b hb=>by have:=Ag.ow_lt o1 b hb;omega
 refine bodyPost_ret (v:=Ey r (⟨A3,n3,c3⟩,⟨A5,n5,c5⟩)) ?_ rfl ?_
 ·simp [Ey,results,Tryz.results123,go_sem,z0,z1,z2,z3,z4,z5,z6,z7]
 ·refine ⟨(⟨A3,n3,c3⟩,⟨A5,n5,c5⟩),F0 ++ F5,rfl,⟨F0,F5,rfl,?_,?_,?_⟩,?_,?_⟩
  ·rw [List.nodup_append]
   refine ⟨Ag.ow_nodup o1,o6.nodup,fun u hu u' hu' e=>?_⟩
   have:=l0 u hu
   have:=n6 u' hu'
   omega
  ·have fM:w.heap.size+1∉F0:=fun hm=>by have:=n0 _ hm;omega
   repeat (first | (with_reducible exact o7) | refine Dt.ow_set Ag ?_ (by first | exact tF | exact fM) _)
  ·have pA:w.heap.size∉F5:=fun hm=>by have:=n6 _ hm;omega
   have fM:w.heap.size+1∉F5:=fun hm=>by have:=n6 _ hm;omega
   show OwL Cv _ F5 (.slice A5 n5 c5) r.tasks
   repeat (first | (with_reducible exact o6) | refine OwL.set ?_ (by first | exact pA | exact fM) _)
  ·intro b hb
   rcases List.mem_append.1 hb with hb | hb
   ·have:=n0 b hb;omega
   ·have:=n6 b hb;omega
  ·repeat (first | (with_reducible exact B2) | refine Below.setCell ?_ (by first | (simp;done) | (simp;omega)) _)
theorem Fj (r:Run) (s:Sl×Sl) (w:World) (hl:Bg r<=2000000) (h:Am.rd w w.heap.size r s) :
  Calls Tryz.prog 198 #[Ey r s] w (Cj Am Ey r w):=by
 obtain ⟨⟨A1,n1,c1⟩,⟨A2,n2,c2⟩⟩:=s
 obtain rfl:n2=r.tasks.length:=RdL.at1 (s:=⟨A2,n2,c2⟩) h.2
 have h1:Ag.rd w w.heap.size r.plan ⟨A1,n1,c1⟩:=h.1
 have h2:Rd Dj w w.heap.size (.slice A2 r.tasks.length c2) r.tasks:=Qf h.2
 have jS:C8 r.plan<=2000000:=by unfold Bg at hl;omega
 have eV:r.tasks.length<=2000000:=Nat.le_trans (Ar Fc _) (by unfold Bg at hl;omega)
 clear h hl
 obtain ⟨W,aG,X,Z,B0⟩:=bx2 w 89 [.int .i64 r.id,.int .i64 r.plan.prio,.int .i64 r.plan.most,.int .i64 r.plan.wait,.int .i64 r.plan.tasks,.slice A1 n1 c1,.int .i64 r.state,.slice A2 r.tasks.length c2] 89 [.int .i64 0,.int .i64 0,.int .i64 0,.int .i64 0,.int .i64 0,.slice none 0 0,.int .i64 0,.slice none 0 0]
 obtain ⟨i0,aP,aX,aV,aQ⟩:=info_parts L8
 go_enter Tryz.func198,Tryz.ntmps198
 go_wp2_with fail
 rw [<-aG.out]
 clear aG
 refine (Kg r.plan ⟨A1,n1,c1⟩ W jS (Ag.rd_more (Ag.rd_below h1 B0) B0.size)).mono ?_
 rintro e w0 ⟨⟨A3,n3,c3⟩,F0,rfl,o0,n0,b0⟩
 have hW:w.heap.size+2<=W.heap.size:=Z.lt
 replace X:=X.below b0
 replace Z:=Z.below b0
 replace B0:=Aa B0 b0
 obtain ⟨X_0,X_1,X_2,X_3,X_4,X_5,X_6,X_7,X_l⟩:=X.g8
 obtain ⟨Z_0,Z_1,Z_2,Z_3,Z_4,Z_5,Z_6,Z_7,Z_l⟩:=Z.g8
 have X_f:=X.free
 have Z_f:=Z.free
 have tF:w.heap.size∉F0:=fun hm=>by have:=n0 _ hm;omega
 have X1:DBox w.heap.size [.int .i64 r.id,.int .i64 r.plan.prio,.int .i64 r.plan.most,.int .i64 r.plan.wait,.int .i64 r.plan.tasks,.slice A3 n3 c3,.int .i64 r.state,.slice A2 r.tasks.length c2] (((((w0.setCell ⟨w.heap.size,1,none⟩ (.int .i64 r.plan.prio)).setCell ⟨w.heap.size,2,none⟩ (.int .i64 r.plan.most)).setCell ⟨w.heap.size,3,none⟩ (.int .i64 r.plan.wait)).setCell ⟨w.heap.size,4,none⟩ (.int .i64 r.plan.tasks)).setCell ⟨w.heap.size,5,none⟩ (.slice A3 n3 c3)):=((((X.set 1 (by simp) (.int .i64 r.plan.prio)).set 2 (by simp) (.int .i64 r.plan.most)).set 3 (by simp) (.int .i64 r.plan.wait)).set 4 (by simp) (.int .i64 r.plan.tasks)).set 5 (by simp) (.slice A3 n3 c3)
 have Z1:=((((Z.setOther (a:=⟨w.heap.size,1,none⟩) (by simp) (.int .i64 r.plan.prio)).setOther (a:=⟨w.heap.size,2,none⟩) (by simp) (.int .i64 r.plan.most)).setOther (a:=⟨w.heap.size,3,none⟩) (by simp) (.int .i64 r.plan.wait)).setOther (a:=⟨w.heap.size,4,none⟩) (by simp) (.int .i64 r.plan.tasks)).setOther (a:=⟨w.heap.size,5,none⟩) (by simp) (.slice A3 n3 c3)
 have o1:Ag.ow (((((w0.setCell ⟨w.heap.size,1,none⟩ (.int .i64 r.plan.prio)).setCell ⟨w.heap.size,2,none⟩ (.int .i64 r.plan.most)).setCell ⟨w.heap.size,3,none⟩ (.int .i64 r.plan.wait)).setCell ⟨w.heap.size,4,none⟩ (.int .i64 r.plan.tasks)).setCell ⟨w.heap.size,5,none⟩ (.slice A3 n3 c3)) F0 r.plan ⟨A3,n3,c3⟩:=by repeat (first | (with_reducible exact o0) | refine Dt.ow_set Ag ?_ tF _)
 have B1:Below w.heap.size w (((((w0.setCell ⟨w.heap.size,1,none⟩ (.int .i64 r.plan.prio)).setCell ⟨w.heap.size,2,none⟩ (.int .i64 r.plan.most)).setCell ⟨w.heap.size,3,none⟩ (.int .i64 r.plan.wait)).setCell ⟨w.heap.size,4,none⟩ (.int .i64 r.plan.tasks)).setCell ⟨w.heap.size,5,none⟩ (.slice A3 n3 c3)):=by repeat (first | (with_reducible exact B0) | refine Below.setCell ?_ (by simp) _)
 have HZ3:=Lib.hid (show (((((w0.setCell ⟨w.heap.size,1,none⟩ (.int .i64 r.plan.prio)).setCell ⟨w.heap.size,2,none⟩ (.int .i64 r.plan.most)).setCell ⟨w.heap.size,3,none⟩ (.int .i64 r.plan.wait)).setCell ⟨w.heap.size,4,none⟩ (.int .i64 r.plan.tasks)).setCell ⟨w.heap.size,5,none⟩ (.slice A3 n3 c3)).heap.size=w0.heap.size by simp)
 go_wp2_with (at_builtin;generalize pM:(((((w0.setCell ⟨w.heap.size,1,none⟩ (.int .i64 r.plan.prio)).setCell ⟨w.heap.size,2,none⟩ (.int .i64 r.plan.most)).setCell ⟨w.heap.size,3,none⟩ (.int .i64 r.plan.wait)).setCell ⟨w.heap.size,4,none⟩ (.int .i64 r.plan.tasks)).setCell ⟨w.heap.size,5,none⟩ (.slice A3 n3 c3))=W3 at *;clear pM X_0 X_1 X_2 X_3 X_4 X_5 X_6 X_7 X_l X_f Z_0 Z_1 Z_2 Z_3 Z_4 Z_5 Z_6 Z_7 Z_l Z_f X Z o0;have jH:=((Below.refl W3.heap.size W3).alloc (Nat.le_refl _) (.cells #[] 138));refine Ak _ Dj (by decide) rfl (.tmp 7) (.tmp 9) rfl Tryz.underlying87 aP aX aV aQ rfl (v:=(.slice (some ⟨w0.heap.size,0,none⟩) 0 0)) (l:=[]) rfl (Ow.empty Dj 138 W3 HZ3.out.symm) rfl ((h2.below (Aa B1 jH)).more (Aa B1 jH).size) (by simp) (by omega) (by decide) (by have:=jH.size;have:=HZ3.out;omega) ?_;intro v1 w1 o5 g1 f1;rw [List.nil_append] at o5;have B31:Below W3.heap.size W3 w1:=jH.grown g1 jH.size (fun g hg=>by have:=HZ3.out;simp [Value.ownBlock] at hg<;>omega);clear f1 g1;obtain ⟨⟨A5,n5,c5⟩,F5,rfl,o6,n6⟩:=Qg o5;replace X1:=X1.below B31;replace Z1:=Z1.below B31;have y0:=X1.cell 0 _ rfl;have y1:=X1.cell 1 _ rfl;have y2:=X1.cell 2 _ rfl;have y3:=X1.cell 3 _ rfl;have y4:=X1.cell 4 _ rfl;have y5:=X1.cell 5 _ rfl;have y6:=X1.cell 6 _ rfl;have y7:=X1.cell 7 _ rfl;have yf:=X1.free;have yl:=X1.lt;have z0:=Z1.cell 0 _ rfl;have z1:=Z1.cell 1 _ rfl;have z2:=Z1.cell 2 _ rfl;have z3:=Z1.cell 3 _ rfl;have z4:=Z1.cell 4 _ rfl;have z5:=Z1.cell 5 _ rfl;have z6:=Z1.cell 6 _ rfl;have z7:=Z1.cell 7 _ rfl;have zf:=Z1.free;have zl:=Z1.lt)
 have B2:=Aa B1 B31
 have o7:=Ag.ow_below o1 B31
 have uD:=HZ3.out
 have bU:=b0.size
 have l0:∀ b∈F0,b<w0.heap.size:=fun b hb=>by have:=Ag.ow_lt o1 b hb;omega
 refine bodyPost_ret (v:=Ey r (⟨A3,n3,c3⟩,⟨A5,n5,c5⟩)) ?_ rfl ?_
 ·simp [Ey,results,Tryz.results198,go_sem,z0,z1,z2,z3,z4,z5,z6,z7]
 ·refine ⟨(⟨A3,n3,c3⟩,⟨A5,n5,c5⟩),F0 ++ F5,rfl,⟨F0,F5,rfl,?_,?_,?_⟩,?_,?_⟩
  ·rw [List.nodup_append]
   refine ⟨Ag.ow_nodup o1,o6.nodup,fun u hu u' hu' e=>?_⟩
   have:=l0 u hu
   have:=n6 u' hu'
   omega
  ·have fM:w.heap.size+1∉F0:=fun hm=>by have:=n0 _ hm;omega
   repeat (first | (with_reducible exact o7) | refine Dt.ow_set Ag ?_ (by first | exact tF | exact fM) _)
  ·have pA:w.heap.size∉F5:=fun hm=>by have:=n6 _ hm;omega
   have fM:w.heap.size+1∉F5:=fun hm=>by have:=n6 _ hm;omega
   show OwL Cv _ F5 (.slice A5 n5 c5) r.tasks
   repeat (first | (with_reducible exact o6) | refine OwL.set ?_ (by first | exact pA | exact fM) _)
  ·intro b hb
   rcases List.mem_append.1 hb with hb | hb
   ·have:=n0 b hb;omega
   ·have:=n6 b hb;omega
  ·repeat (first | (with_reducible exact B2) | refine Below.setCell ?_ (by first | (simp;done) | (simp;omega)) _)
theorem U1 (s k:Int) (hk:k≠0):decide (s=k/\s≠0)=(s == k):=by
 by_cases h:s=k
 ·subst h;simp [hk]
 ·simp [h]
theorem U2 (s:Int):decide (s=0/\s≠0)=false:=by simp
theorem Wp {r:Run} (h1:inB r.id 1 9999=true) (h2:Aq r.plan=0) (h3:(r.tasks.length:Int)=r.plan.tasks) (h4:∀ t,t<r.tasks.length->Ev r t) :
  tf (Er r)=decide (r.state=stL r.tasks/\r.state≠0):=by
 rw [Bool.eq_iff_iff,J0,decide_eq_true_eq]
 unfold Er
 exact ⟨fun h=>h.2.2.2.2,fun h=>⟨Bf.1 h1,h2,h3,h4,h⟩⟩
theorem Abf {r:Run} (h4:∀ t,t<r.tasks.length->Ev r t):Bx r.tasks 1+Bx r.tasks 2+Bx r.tasks 3+Bx r.tasks 4+Bx r.tasks 5+Bx r.tasks 6=r.tasks.length:=by
 have:=Abe (l:=r.tasks) (fun x hx=>by
  obtain ⟨t,ht,rfl⟩:=List.getElem_of_mem hx
  have:=(h4 t ht).1
  rwa [Aw ht] at this)
 unfold Iz at this
 exact this
theorem Ih (r:Run) (s:Sl×Sl) (st:Int) (w:World) (hl:r.tasks.length<=2000000) (h:Am.rd w w.heap.size r s) :
  Calls Tryz.prog 84 #[Ey r s,.int .i64 st] w fun e w'=>∃ A c,e = .returned (.slice A (Bx r.tasks st) c)/\Below w.heap.size w w' :=
 (Fi r s st w hl h).mono fun e w' ⟨v,he,ho,hb⟩=>by
  obtain ⟨A,c,hv,-⟩:=id (Rd.of_own ho)
  rw [O4] at hv
  exact ⟨A,c,by rw [he,hv],hb⟩
theorem Mo (r:Run) (s:Sl×Sl) (w:World) (hl:Bg r<=2000000) (h:Am.rd w w.heap.size r s) :
  Calls Tryz.prog 119 #[Ey r s] w fun e w'=>e = .returned (.bool (tf (Er r)))/\Below w.heap.size w w':=by
 have HR:=Lib.hid (show ∀ W,Below w.heap.size w W->Am.rd W W.heap.size r s from fun W hW=>Am.rd_more (Am.rd_below h hW) hW.size)
 obtain ⟨⟨A1,n1,c1⟩,⟨A2,n2,c2⟩⟩:=s
 obtain rfl:n2=r.tasks.length:=RdL.at1 (s:=⟨A2,n2,c2⟩) h.2
 have h1:Rd Ei w w.heap.size (.slice A1 n1 c1) r.plan.edges:=Gf h.1
 have jS:r.plan.edges.length<=2000000:=Nat.le_trans (Ar Dy _) (by unfold Bg C8 at hl;omega)
 have eV:r.tasks.length<=2000000:=Nat.le_trans (Ar Fc _) (by unfold Bg at hl;omega)
 clear h hl
 have X:=DBox.new 89 [.int .i64 r.id,.int .i64 r.plan.prio,.int .i64 r.plan.most,.int .i64 r.plan.wait,.int .i64 r.plan.tasks,.slice A1 n1 c1,.int .i64 r.state,.slice A2 r.tasks.length c2] w (b:=w.heap.size) rfl
 have B0:Below w.heap.size w (w.alloc (.cells #[.int .i64 r.id,.int .i64 r.plan.prio,.int .i64 r.plan.most,.int .i64 r.plan.wait,.int .i64 r.plan.tasks,.slice A1 n1 c1,.int .i64 r.state,.slice A2 r.tasks.length c2] 89)):=by repeat (first | exact Below.refl _ _ | refine Below.alloc ?_ (by simp<;>omega) _)
 have C1:=Ex r.plan (.slice A1 n1 c1) (w.alloc (.cells #[.int .i64 r.id,.int .i64 r.plan.prio,.int .i64 r.plan.most,.int .i64 r.plan.wait,.int .i64 r.plan.tasks,.slice A1 n1 c1,.int .i64 r.state,.slice A2 r.tasks.length c2] 89)) jS ((h1.below B0).more B0.size)
 cases a1:inB r.id 1 9999
 case false =>
  have H:=Lib.hid (show tf (Er r)=false from Al (fun h=>by have:=Bf.2 h.1;rw [a1] at this;cases this))
  go_enter Tryz.func119,Tryz.ntmps119
  go_wp2_with (go_at_call 58;refine (Ap _ _ _ _).mono ?_;rintro e w' ⟨rfl,rfl⟩)
  go_ret
  exact ⟨Ac H.out.symm,B0⟩
 by_cases e2:Aq r.plan=0
 case neg =>
  have a2:(Aq r.plan != 0)=true:=by simp [e2]
  have H:=Lib.hid (show tf (Er r)=false from Al (fun h=>e2 h.2.1))
  clear e2
  go_enter Tryz.func119,Tryz.ntmps119
  go_wp2_with (first | (go_at_call 58;refine (Ap _ _ _ _).mono ?_;rintro e w' ⟨rfl,rfl⟩) | (go_at_call 164;refine C1.mono ?_;rintro e w1 ⟨rfl,b1⟩;have q1:=(K0 b1).1))
  go_ret
  exact ⟨Ac H.out.symm,Aa B0 b1⟩
 have E2:=Lib.hid e2
 rw [e2] at C1
 clear e2
 by_cases e3:(r.tasks.length:Int)=r.plan.tasks
 case neg =>
  have a3:((r.tasks.length:Int) != r.plan.tasks)=true:=by simp [e3]
  have H:=Lib.hid (show tf (Er r)=false from Al (fun h=>e3 h.2.2.1))
  clear e3
  go_enter Tryz.func119,Tryz.ntmps119
  have X_3:=X.cell 3 _ rfl
  have X_4:=X.cell 4 _ rfl
  have X_7:=X.cell 7 _ rfl
  have X_l:=X.lt
  go_wp2_with fail
  go_wp2_with (first | (go_at_call 58;refine (Ap _ _ _ _).mono ?_;rintro e w' ⟨rfl,rfl⟩) | (go_at_call 164;refine C1.mono ?_;rintro e w1 ⟨rfl,b1⟩;have q1:=fun j=>(K0 b1).1 w.heap.size j X_l))
  go_ret
  exact ⟨Ac H.out.symm,Aa B0 b1⟩
 have a3:((r.tasks.length:Int) != r.plan.tasks)=false:=by simp [e3]
 have E3:=Lib.hid e3
 clear e3
 have X_l:=X.lt
 go_enter Tryz.func119,Tryz.ntmps119
 go_wp2_with fail
 go_wp2_with (first | (go_at_call 58;refine (Ap _ _ _ _).mono ?_;rintro e w' ⟨rfl,rfl⟩) | (go_at_call 164;refine C1.mono ?_;rintro e w1 ⟨rfl,b1⟩;have q1:=fun j=>(K0 b1).1 w.heap.size j X_l))
 clear q1
 replace X:=X.below b1
 replace B0:=Aa B0 b1
 clear X_l C1 b1 a3
 have A1_:=Lib.hid a1
 clear a1
 go_loopw [30] (fun i wr=>∃ k:Nat,k<=r.tasks.length/\i = .int .i64 k/\Hid (∀ t,t<k->Ev r t)/\Below w1.heap.size w1 wr) (fun i _=>r.tasks.length - (intOf i).toNat)
 case atStart=>exact ⟨0,Nat.zero_le _,rfl,fun t ht=>absurd ht (by omega),Below.refl _ _⟩
 case round =>
  obtain ⟨k,hk,rfl,aW,hb⟩:=hrel
  replace X:=X.below hb
  replace B0:=Aa B0 hb
  obtain ⟨X_0,X_1,X_2,X_3,X_4,X_5,X_6,X_7,X_l⟩:=X.g8
  by_cases aA:k<r.tasks.length
  ·have aB:(k:Int)<(r.tasks.length:Int):=by omega
   have C:=Rh r (⟨A1,n1,c1⟩,⟨A2,r.tasks.length,c2⟩) k wr E2.out E3.out aA (HR.out _ B0)
   by_cases tk:Ev r k
   ·have S:Hid (∀ t,t<k+1->Ev r t):=by
     intro t ht
     by_cases e:t=k
     ·subst e;exact tk
     ·exact aW.out t (by omega)
    rw [Bs tk] at C
    clear tk
    go_wp2_with fail
    refine C.mono ?_
    rintro e w2 ⟨rfl,b2⟩
    go_wp2
    exact ⟨⟨k+1,by omega,by go_num,S,Aa hb b2⟩,by simp [intOf];omega⟩
   ·have H:=Lib.hid (show tf (Er r)=false from Al (fun h=>tk (h.2.2.2.1 k aA)))
    rw [Al tk] at C
    clear tk
    go_wp2_with fail
    refine C.mono ?_
    rintro e w2 ⟨rfl,b2⟩
    go_wp2
    go_ret
    exact ⟨Ac H.out.symm,Aa B0 b2⟩
  ·have aB:¬ (k:Int)<(r.tasks.length:Int):=by omega
   have bH:k=r.tasks.length:=by omega
   subst bH
   have HF:=Lib.hid (Wp A1_.out E2.out E3.out aW.out)
   have HI:=Lib.hid (Zm r.tasks)
   have HSum:=Lib.hid (Abf aW.out)
   go_wp2
   go_region_held3 (fun w'=>w'.cell? ⟨w.heap.size,0,none⟩=some (.int .i64 r.id)/\w'.cell? ⟨w.heap.size,1,none⟩=some (.int .i64 r.plan.prio)/\w'.cell? ⟨w.heap.size,2,none⟩=some (.int .i64 r.plan.most)/\w'.cell? ⟨w.heap.size,3,none⟩=some (.int .i64 r.plan.wait)/\w'.cell? ⟨w.heap.size,4,none⟩=some (.int .i64 r.plan.tasks)/\w'.cell? ⟨w.heap.size,5,none⟩=some (.slice A1 n1 c1)/\w'.cell? ⟨w.heap.size,6,none⟩=some (.int .i64 r.state)/\w'.cell? ⟨w.heap.size,7,none⟩=some (.slice A2 r.tasks.length c2))
    (first | (refine ⟨?_,?_,?_,?_,?_,?_,?_,?_⟩<;>first | assumption | go_keep) | go_keep)
    (first
     | (go_at_call 84;(with_reducible refine (Ih r (⟨A1,n1,c1⟩,⟨A2,r.tasks.length,c2⟩) 4 _ eV (HR.out _ B0.drew)).mono ?_);rintro e w5 ⟨A5,c5,rfl,b5⟩;have B5:=Aa B0 (Aa ((Below.refl wr.heap.size wr).drew) b5);have X5:=X.below (Aa ((Below.refl wr.heap.size wr).drew) b5);have x50:=X5.cell 0 _ rfl;have x51:=X5.cell 1 _ rfl;have x52:=X5.cell 2 _ rfl;have x53:=X5.cell 3 _ rfl;have x54:=X5.cell 4 _ rfl;have x55:=X5.cell 5 _ rfl;have x56:=X5.cell 6 _ rfl;have x57:=X5.cell 7 _ rfl;have x5l:=X5.lt)
     | (go_at_call 84;(with_reducible refine (Ih r (⟨A1,n1,c1⟩,⟨A2,r.tasks.length,c2⟩) 5 _ eV (HR.out _ B5)).mono ?_);rintro e w6 ⟨A6,c6,rfl,b6⟩;have B6:=Aa B5 b6;have X6:=X5.below b6;have x60:=X6.cell 0 _ rfl;have x61:=X6.cell 1 _ rfl;have x62:=X6.cell 2 _ rfl;have x63:=X6.cell 3 _ rfl;have x64:=X6.cell 4 _ rfl;have x65:=X6.cell 5 _ rfl;have x66:=X6.cell 6 _ rfl;have x67:=X6.cell 7 _ rfl;have x6l:=X6.lt)
     | (go_at_call 84;(with_reducible refine (Ih r (⟨A1,n1,c1⟩,⟨A2,r.tasks.length,c2⟩) 6 _ eV (HR.out _ B6)).mono ?_);rintro e w7 ⟨A7,c7,rfl,b7⟩;have B7:=Aa B6 b7;have X7:=X6.below b7;have x70:=X7.cell 0 _ rfl;have x71:=X7.cell 1 _ rfl;have x72:=X7.cell 2 _ rfl;have x73:=X7.cell 3 _ rfl;have x74:=X7.cell 4 _ rfl;have x75:=X7.cell 5 _ rfl;have x76:=X7.cell 6 _ rfl;have x77:=X7.cell 7 _ rfl;have x7l:=X7.lt))
   clear X_0 X_1 X_2 X_3 X_4 X_5 X_6 X_7 X_l x50 x51 x52 x53 x54 x55 x56 x57 x5l x60 x61 x62 x63 x64 x65 x66 x67 x6l
   have jF:((Bx r.tasks 1:Nat):Int)+(Bx r.tasks 2:Nat)+(Bx r.tasks 3:Nat)+(Bx r.tasks 4:Nat)+(Bx r.tasks 5:Nat)+(Bx r.tasks 6:Nat)=r.tasks.length:=by have:=HSum.out;omega
   generalize rK:((Bx r.tasks 1:Nat):Int)=c1' at *
   generalize uE:((Bx r.tasks 2:Nat):Int)=c2' at *
   generalize rY:((Bx r.tasks 3:Nat):Int)=c3' at *
   generalize hc4:((Bx r.tasks 4:Nat):Int)=c4' at *
   generalize hc5:((Bx r.tasks 5:Nat):Int)=c5' at *
   generalize hc6:((Bx r.tasks 6:Nat):Int)=c6' at *
   have m1:0<=c1':=by omega
   have m2:0<=c2':=by omega
   have m3:0<=c3':=by omega
   have m4:0<=c4'/\c4'<=2000000:=by omega
   have m5:0<=c5'/\c5'<=2000000:=by omega
   have m6:0<=c6'/\c6'<=2000000:=by omega
   clear rK uE rY hc4 hc5 hc6
   have HV:Hid (tf (Er r)=decide (r.state=stI c1' c2' c3' c4' c5' c6' r.tasks.length/\r.state≠0)):=by
    show tf (Er r)=_
    rw [HF.out,HI.out]
   clear HF HI
   generalize r.state=rs at *
   by_cases q1:c4'=(r.tasks.length:Int)
   ·have H:=Lib.hid (show tf (Er r)=(rs == 2) by rw [HV.out];unfold stI;rw [if_pos q1];exact U1 _ _ (by omega))
    have q1':(c4' == (r.tasks.length:Int))=true:=beq_iff_eq.2 q1
    clear q1 jF
    go_wp2
    go_ret
    exact ⟨Ac H.out.symm,B7⟩
   have q1':(c4' == (r.tasks.length:Int))=false:=beq_eq_false_iff_ne.2 q1
   by_cases q2:c4'+c5'+c6'=(r.tasks.length:Int)
   ·have q2':(c4'+c5'+c6' == (r.tasks.length:Int))=true:=beq_iff_eq.2 q2
    have r0:c1'+c2'+c3'=0:=by omega
    by_cases q3:c5'=1
    ·have q3':(c5' == 1)=true:=beq_iff_eq.2 q3
     have q4':(c5' == 0)=false:=beq_eq_false_iff_ne.2 (by omega)
     have H:=Lib.hid (show tf (Er r)=(rs == 3) by rw [HV.out];unfold stI;rw [if_neg q1,if_pos ⟨q3,r0⟩];exact U1 _ _ (by omega))
     clear q1 q2 q3 jF r0
     go_wp2
     go_ret
     exact ⟨Ac H.out.symm,B7⟩
    have q3':(c5' == 1)=false:=beq_eq_false_iff_ne.2 q3
    by_cases q4:c5'=0
    ·have q4':(c5' == 0)=true:=beq_iff_eq.2 q4
     by_cases q5:c6'=0
     ·exact absurd (show c4'=(r.tasks.length:Int) by omega) q1
     ·have q5':(c6' == 0)=false:=beq_eq_false_iff_ne.2 q5
      have q6:0<c6':=by omega
      have q6':decide (0<c6')=true:=decide_eq_true q6
      have H:=Lib.hid (show tf (Er r)=(rs == 4) by rw [HV.out];unfold stI;rw [if_neg q1,if_neg (fun h=>q3 h.1),if_pos ⟨q4,q6,r0⟩];exact U1 _ _ (by omega))
      clear q1 q2 q3 q4 q5 q6 jF r0
      go_wp2
      go_ret
      exact ⟨Ac H.out.symm,B7⟩
    ·have q4':(c5' == 0)=false:=beq_eq_false_iff_ne.2 q4
     have H:=Lib.hid (show tf (Er r)=false by rw [HV.out];unfold stI;rw [if_neg q1,if_neg (fun h=>q3 h.1),if_neg (fun h=>q4 h.1),if_neg (fun h=>q4 h.1)];exact U2 _)
     clear q1 q2 q3 q4 jF r0
     cases q7:(rs == 1)
     all_goals
      go_wp2
      go_ret
      exact ⟨Ac H.out.symm,B7⟩
   ·have q2':(c4'+c5'+c6' == (r.tasks.length:Int))=false:=beq_eq_false_iff_ne.2 q2
    have r0:¬ c1'+c2'+c3'=0:=by omega
    by_cases q4:c5'=0
    ·have q4':(c5' == 0)=true:=beq_iff_eq.2 q4
     have q3':(c5' == 1)=false:=beq_eq_false_iff_ne.2 (by omega)
     by_cases q5:c6'=0
     ·have q5':(c6' == 0)=true:=beq_iff_eq.2 q5
      have q6':decide (0<c6')=false:=decide_eq_false (by omega)
      have H:=Lib.hid (show tf (Er r)=(rs == 1) by rw [HV.out];unfold stI;rw [if_neg q1,if_neg (fun h=>r0 h.2),if_neg (fun h=>r0 h.2.2),if_pos ⟨q4,q5⟩];exact U1 _ _ (by omega))
      clear q1 q2 q4 q5 jF r0
      cases q7:(rs == 1)
      all_goals
       rw [q7] at H
       go_wp2
       go_ret
       exact ⟨Ac H.out.symm,B7⟩
     ·have q5':(c6' == 0)=false:=beq_eq_false_iff_ne.2 q5
      have q6':decide (0<c6')=true:=decide_eq_true (by omega)
      have H:=Lib.hid (show tf (Er r)=false by rw [HV.out];unfold stI;rw [if_neg q1,if_neg (fun h=>r0 h.2),if_neg (fun h=>r0 h.2.2),if_neg (fun h=>q5 h.2)];exact U2 _)
      clear q1 q2 q4 q5 jF r0
      cases q7:(rs == 1)
      all_goals
       go_wp2
       go_ret
       exact ⟨Ac H.out.symm,B7⟩
    ·have q4':(c5' == 0)=false:=beq_eq_false_iff_ne.2 q4
     have H:=Lib.hid (show tf (Er r)=false by rw [HV.out];unfold stI;rw [if_neg q1,if_neg (fun h=>r0 h.2),if_neg (fun h=>r0 h.2.2),if_neg (fun h=>q4 h.1)];exact U2 _)
     clear q1 q2 q4 jF r0
     cases q7:(rs == 1)<;>cases q3':(c5' == 1)
     all_goals
      go_wp2
      go_ret
      exact ⟨Ac H.out.symm,B7⟩
theorem J2 (r:Run) (s:Sl×Sl) (w:World) (hl:Bg r<=2000000) (h:Am.rd w w.heap.size r s) :
  Calls Tryz.prog 216 #[Ey r s] w fun e w'=>e = .returned (.bool (tf (Er r)))/\Below w.heap.size w w':=by
 have HR:=Lib.hid (show ∀ W,Below w.heap.size w W->Am.rd W W.heap.size r s from fun W hW=>Am.rd_more (Am.rd_below h hW) hW.size)
 obtain ⟨⟨A1,n1,c1⟩,⟨A2,n2,c2⟩⟩:=s
 obtain rfl:n2=r.tasks.length:=RdL.at1 (s:=⟨A2,n2,c2⟩) h.2
 have h1:Rd Ei w w.heap.size (.slice A1 n1 c1) r.plan.edges:=Gf h.1
 have h2:RdL Cv w w.heap.size (.slice A2 r.tasks.length c2) r.tasks:=h.2
 have jS:r.plan.edges.length<=2000000:=Nat.le_trans (Ar Dy _) (by unfold Bg C8 at hl;omega)
 have eV:r.tasks.length<=2000000:=Nat.le_trans (Ar Fc _) (by unfold Bg at hl;omega)
 clear h hl
 have X:=DBox.new 89 [.int .i64 r.id,.int .i64 r.plan.prio,.int .i64 r.plan.most,.int .i64 r.plan.wait,.int .i64 r.plan.tasks,.slice A1 n1 c1,.int .i64 r.state,.slice A2 r.tasks.length c2] w (b:=w.heap.size) rfl
 have B0:Below w.heap.size w (w.alloc (.cells #[.int .i64 r.id,.int .i64 r.plan.prio,.int .i64 r.plan.most,.int .i64 r.plan.wait,.int .i64 r.plan.tasks,.slice A1 n1 c1,.int .i64 r.state,.slice A2 r.tasks.length c2] 89)):=by repeat (first | exact Below.refl _ _ | refine Below.alloc ?_ (by simp<;>omega) _)
 have C1:=Ht r.plan (.slice A1 n1 c1) (w.alloc (.cells #[.int .i64 r.id,.int .i64 r.plan.prio,.int .i64 r.plan.most,.int .i64 r.plan.wait,.int .i64 r.plan.tasks,.slice A1 n1 c1,.int .i64 r.state,.slice A2 r.tasks.length c2] 89)) jS ((h1.below B0).more B0.size)
 have X_l:=X.lt
 cases a1:inB r.id 1 9999
 case false =>
  have H:=Lib.hid (show tf (Er r)=false from Al (fun h=>by have:=Bf.2 h.1;rw [a1] at this;cases this))
  go_enter Tryz.func216,Tryz.ntmps216
  go_wp2_with (go_at_call 155;refine (Aj _ _ _ _).mono ?_;rintro e w' ⟨rfl,rfl⟩)
  go_ret
  exact ⟨Ac H.out.symm,B0⟩
 by_cases e2:Aq r.plan=0
 case neg =>
  have a2:(Aq r.plan != 0)=true:=by simp [e2]
  have H:=Lib.hid (show tf (Er r)=false from Al (fun h=>e2 h.2.1))
  clear e2
  go_enter Tryz.func216,Tryz.ntmps216
  go_wp2_with (first | (go_at_call 155;refine (Aj _ _ _ _).mono ?_;rintro e w' ⟨rfl,rfl⟩) | (go_at_call 199;refine C1.mono ?_;rintro e w1 ⟨rfl,b1⟩;have q1:=fun j=>(K0 b1).1 w.heap.size j X_l))
  go_ret
  exact ⟨Ac H.out.symm,Aa B0 b1⟩
 have E2:=Lib.hid e2
 rw [e2] at C1
 clear e2
 by_cases e3:(r.tasks.length:Int)=r.plan.tasks
 case neg =>
  have a3:((r.tasks.length:Int) != r.plan.tasks)=true:=by simp [e3]
  have H:=Lib.hid (show tf (Er r)=false from Al (fun h=>e3 h.2.2.1))
  clear e3
  go_enter Tryz.func216,Tryz.ntmps216
  go_wp2_with (first | (go_at_call 155;refine (Aj _ _ _ _).mono ?_;rintro e w' ⟨rfl,rfl⟩) | (go_at_call 199;refine C1.mono ?_;rintro e w1 ⟨rfl,b1⟩;have q1:=fun j=>(K0 b1).1 w.heap.size j X_l))
  go_ret
  exact ⟨Ac H.out.symm,Aa B0 b1⟩
 have a3:((r.tasks.length:Int) != r.plan.tasks)=false:=by simp [e3]
 have E3:=Lib.hid e3
 clear e3
 go_enter Tryz.func216,Tryz.ntmps216
 go_wp2_with (first | (go_at_call 155;refine (Aj _ _ _ _).mono ?_;rintro e w' ⟨rfl,rfl⟩) | (go_at_call 199;refine C1.mono ?_;rintro e w1 ⟨rfl,b1⟩;have q1:=fun j=>(K0 b1).1 w.heap.size j X_l))
 clear q1
 replace X:=X.below b1
 replace B0:=Aa B0 b1
 clear X_l C1 b1 a3
 have A1_:=Lib.hid a1
 clear a1
 obtain ⟨X_0,X_1,X_2,X_3,X_4,X_5,X_6,X_7,X_l⟩:=X.g8
 go_loop [3] (fun i=>∃ k:Nat,k<=r.tasks.length/\i = .int .i64 k/\Hid (∀ t (ht:t<r.tasks.length),t<k->1<=r.tasks[t].state/\r.tasks[t].state<=6)) (fun i=>r.tasks.length - (intOf i).toNat)
 case atStart=>exact ⟨0,Nat.zero_le _,rfl,fun t _ ht=>absurd ht (by omega)⟩
 case round =>
  obtain ⟨k,hk,rfl,aW⟩:=hrel
  by_cases aA:k<r.tasks.length
  ·have aB:(k:Int)<(r.tasks.length:Int):=by omega
   obtain ⟨b,o,_,rfl,aH,_,d0,d1,d2,d3⟩:=(h2.below B0).task aA
   cases tk:inB r.tasks[k].state 1 6
   ·have H:=Lib.hid (show tf (Er r)=false from Al (fun h=>by
     have h3:=(h.2.2.2.1 k aA).1
     rw [Aw aA] at h3
     have:=Bf.2 h3
     rw [tk] at this
     cases this))
    go_wp2_with (go_at_call 155;refine (Aj _ _ _ _).mono ?_;rintro e w' ⟨rfl,rfl⟩)
    go_ret
    exact ⟨Ac H.out.symm,B0⟩
   ·have S:Hid (∀ t (ht:t<r.tasks.length),t<k+1->1<=r.tasks[t].state/\r.tasks[t].state<=6):=by
     intro t ht cR
     by_cases e:t=k
     ·subst e;exact Bf.1 tk
     ·exact aW.out t ht (by omega)
    go_wp2_with (go_at_call 155;refine (Aj _ _ _ _).mono ?_;rintro e w' ⟨rfl,rfl⟩)
    exact ⟨⟨k+1,by omega,by go_num,S⟩,by simp [intOf];omega⟩
  ·have aB:¬ (k:Int)<(r.tasks.length:Int):=by omega
   have bH:k=r.tasks.length:=by omega
   subst bH
   have HT:=aW
   go_wp2
   clear X_0 X_1 X_2 X_3 X_4 X_5 X_6 X_7 X_l aW aA hk aB
   go_loopw [4] (fun i wr=>∃ k:Nat,k<=r.tasks.length/\i = .int .i64 k/\Hid (∀ t,t<k->Ev r t)/\Below w1.heap.size w1 wr) (fun i _=>r.tasks.length - (intOf i).toNat)
   case atStart=>exact ⟨0,Nat.zero_le _,rfl,fun t ht=>absurd ht (by omega),Below.refl _ _⟩
   case round =>
    obtain ⟨k,hk,rfl,aW,hb⟩:=hrel
    replace X:=X.below hb
    replace B0:=Aa B0 hb
    obtain ⟨X_0,X_1,X_2,X_3,X_4,X_5,X_6,X_7,X_l⟩:=X.g8
    by_cases aA:k<r.tasks.length
    ·have aB:(k:Int)<(r.tasks.length:Int):=by omega
     have C:=U0 r (⟨A1,n1,c1⟩,⟨A2,r.tasks.length,c2⟩) k wr E2.out E3.out aA (HT.out k aA aA) (HR.out _ B0)
     by_cases tk:Ev r k
     ·have S:Hid (∀ t,t<k+1->Ev r t):=by
       intro t ht
       by_cases e:t=k
       ·subst e;exact tk
       ·exact aW.out t (by omega)
      rw [Bs tk] at C
      clear tk
      go_wp2_with fail
      refine C.mono ?_
      rintro e w2 ⟨rfl,b2⟩
      go_wp2
      exact ⟨⟨k+1,by omega,by go_num,S,Aa hb b2⟩,by simp [intOf];omega⟩
     ·have H:=Lib.hid (show tf (Er r)=false from Al (fun h=>tk (h.2.2.2.1 k aA)))
      rw [Al tk] at C
      clear tk
      go_wp2_with fail
      refine C.mono ?_
      rintro e w2 ⟨rfl,b2⟩
      go_wp2
      go_ret
      exact ⟨Ac H.out.symm,Aa B0 b2⟩
    ·have aB:¬ (k:Int)<(r.tasks.length:Int):=by omega
     have bH:k=r.tasks.length:=by omega
     subst bH
     have HF:=Lib.hid (Wp A1_.out E2.out E3.out aW.out)
     have aN:=Bk wr
     have C:=fun u:Hn wr=>Mn r (⟨A1,n1,c1⟩,⟨A2,r.tasks.length,c2⟩) u.1 eV (fun x hx=>by
      obtain ⟨t,ht,rfl⟩:=List.getElem_of_mem hx
      exact HT.out t ht ht) (HR.out _ (Aa B0 u.2))
     have C2:=Lib.hid C
     clear C
     generalize stL r.tasks=S at *
     have HG:Hid (tf (Er r)=((r.state == S) && (r.state != 0))):=by
      show tf (Er r)=_
      rw [HF.out,Bool.eq_iff_iff]
      simp
     clear HF
     cases q1:(r.state == S)<;>cases q2:(r.state != 0)
     all_goals
      rw [q1,q2] at HG
      go_wp2
      refine Ad (by kernel_rfl) (by kernel_rfl) ?_
      repeat (go_big_quiet_step ((go_at_call 243;(with_reducible exact Gu C2.out))))
      refine wpQuiet_nil ?_
      rintro _ ⟨⟨w2,b2⟩,rfl⟩
      clear aN
      go_wp2
      go_ret
      exact ⟨Ac HG.out.symm,Aa B0 b2⟩
theorem I8 {y:Yard} (hl:Ai y<=2000000) (k:Nat):Es (y.runs.take k)+y.runs.length<=2000000/\Es (y.runs.take k)+(Ah y).length<=2000000:=by
 have h1:=Aaa (y.runs.take k)
 have h2:((y.runs.take k).map fun r=>r.tasks.length).sum<=(y.runs.map fun r=>r.tasks.length).sum:=by
  conv=>rhs;rw [<-List.take_append_drop k y.runs,List.map_append,List.sum_append]
  omega
 have h3:(y.runs.map fun r=>r.tasks.length).sum+y.runs.length<=Gd Bg y.runs:=by
  unfold Gd
  have:∀ l:List Run,(l.map fun r=>r.tasks.length).sum<=(l.map Bg).sum:=by
   intro l
   induction l with
   | nil=>simp
   | cons r l ih =>
    simp only [List.map_cons,List.sum_cons]
    have:r.tasks.length<=Bg r:=by unfold Bg;have:=Ar Fc r.tasks;omega
    omega
  have:=this y.runs
  omega
 have h4:=Ff y.shelf y.shelf.length
 rw [List.take_length] at h4
 unfold Ai at hl
 unfold Ah
 omega
theorem Wq {y:Yard} (hl:Ai y<=2000000):D9 y<=2000000:=by
 have h1:=(I8 hl y.runs.length).2
 rw [List.take_length] at h1
 have h2:=Ly y (Ah y)
 unfold D9
 omega
theorem Mp (y:Yard) (s:Sl×Sl) (w:World) (hl:Ai y<=2000000) (h:Ab.rd w w.heap.size y s) :
  Calls Tryz.prog 121 #[By y s] w fun e w'=>e = .returned (.int .i64 (D9 y:Nat))/\Below w.heap.size w w':=by
 have HR:=Lib.hid (show ∀ W,Below w.heap.size w W->Ab.rd W W.heap.size y s from fun W hW=>Ab.rd_more (Ab.rd_below h hW) hW.size)
 obtain ⟨⟨A1,n1,c1⟩,⟨A2,n2,c2⟩⟩:=s
 obtain rfl:n2=y.runs.length:=RdL.at1 (s:=⟨A2,n2,c2⟩) h.2
 have h2:RdL Am w w.heap.size (.slice A2 y.runs.length c2) y.runs:=h.2
 have dI:y.runs.length<=2000000:=Nat.le_trans (Ar Bg _) (by unfold Ai at hl;omega)
 have HB:=Lib.hid (I8 hl)
 have HD:=Lib.hid (show D9 y=Es y.runs+D4 y (Ah y) from rfl)
 clear h
 obtain ⟨W,aG,X,B0⟩:=bx1 w 31 [.int .i64 y.now,.int .i64 y.seq,.slice A1 n1 c1,.slice A2 y.runs.length c2]
 have X_l:=X.lt
 go_enter Tryz.func121,Tryz.ntmps121
 go_wp2
 rw [<-aG.out]
 clear aG
 go_loopw [3,11] (fun n i wr=>∃ k:Nat,k<=y.runs.length/\i = .int .i64 k/\n = .int .i64 (Es (y.runs.take k):Nat)/\Below W.heap.size W wr) (fun _ i _=>y.runs.length - (intOf i).toNat)
 case atStart=>exact ⟨0,Nat.zero_le _,rfl,rfl,Below.refl _ _⟩
 case round =>
  obtain ⟨k,hk,rfl,rfl,hb⟩:=hrel
  have sH:=(HB.out k).1
  by_cases aA:k<y.runs.length
  ·have aB:(k:Int)<(y.runs.length:Int):=by omega
   obtain ⟨b,o,⟨s1,⟨At,nt,ct⟩⟩,rfl,aH,cB,c0_,c1_,c2_,c3_,c4_,c5_,c6_,c7_⟩:=(h2.below (Aa B0 hb)).run aA
   obtain rfl:nt=y.runs[k].tasks.length:=RdL.at1 (s:=⟨At,nt,ct⟩) cB.2
   have uJ:=Ek hl aA
   have bJ:b<wr.heap.size:=Nat.lt_of_lt_of_le aH (Aa B0 hb).size
   by_cases q:y.runs[k].state=1
   ·have S:=Lib.hid (Ra aA q)
    have q':(y.runs[k].state == 1)=true:=beq_iff_eq.2 q
    clear q
    go_wp2
    refine ⟨⟨k+1,by omega,by go_num,by rw [S.out];go_num,?_⟩,by simp [intOf];omega⟩
    exact Aa hb (by repeat (first | exact Below.refl _ _ | refine Below.alloc ?_ (by simp<;>omega) _))
   ·have S:=Lib.hid (Tz aA q)
    have q':(y.runs[k].state == 1)=false:=beq_eq_false_iff_ne.2 q
    clear q
    go_wp2
    refine ⟨⟨k+1,by omega,by go_num,by rw [S.out],?_⟩,by simp [intOf];omega⟩
    exact Aa hb (by repeat (first | exact Below.refl _ _ | refine Below.alloc ?_ (by simp<;>omega) _))
  ·have aB:¬ (k:Int)<(y.runs.length:Int):=by omega
   have bH:k=y.runs.length:=by omega
   subst bH
   have hbe:=(HB.out y.runs.length).2
   rw [List.take_length] at hbe sH
   replace X:=X.below hb
   replace B0:=Aa B0 hb
   clear X_l
   obtain ⟨X_0,X_1,X_2,X_3,X_l⟩:=X.g4
   have C:=K3 y (⟨A1,n1,c1⟩,⟨A2,y.runs.length,c2⟩) wr hl (HR.out _ B0)
   have HW:=Lib.hid (Ly y)
   generalize Ah y=L at *
   go_wp2_with fail
   refine C.mono ?_
   rintro e w2 ⟨v,rfl,o2,b2⟩
   obtain ⟨A3,c3,rfl,-⟩:=id (Rd.of_own o2)
   replace X:=X.below b2
   replace B0:=Aa B0 b2
   clear X_0 X_1 X_2 X_3 X_l
   go_wp2
   generalize Es y.runs=M at *
   go_loopw [3,27] (fun n i wr=>∃ k:Nat,k<=L.length/\i = .int .i64 k/\n = .int .i64 ((M+D4 y (L.take k):Nat))/\Below w2.heap.size w2 wr) (fun _ i _=>L.length - (intOf i).toNat)
   case atStart=>exact ⟨0,Nat.zero_le _,rfl,by simp [D4],Below.refl _ _⟩
   case round =>
    obtain ⟨k,hk,rfl,rfl,aF⟩:=hrel
    have cF:=HW.out (L.take k)
    rw [List.length_take] at cF
    replace X:=X.below aF
    obtain ⟨X_0,X_1,X_2,X_3,X_l⟩:=X.g4
    by_cases aA:k<L.length
    ·have aB:(k:Int)<(L.length:Int):=by omega
     obtain ⟨b,o,_,jY,aH,_,d0,d1,d2,d3⟩:=RdL.entry (I7 (Rd.of_own (o2.below aF))) aA
     subst jY
     have ha:Below wr.heap.size wr (wr.alloc (.cells #[.int .i64 L[k].prio,.int .i64 L[k].seq,.int .i64 L[k].run,.int .i64 L[k].task] 93)):=(Below.refl _ _).alloc (Nat.le_refl _) _
     have C:=Ml y (⟨A1,n1,c1⟩,⟨A2,y.runs.length,c2⟩) L[k] _ hl (HR.out _ (Aa (Aa B0 aF) ha))
     have HY:=Lib.hid (Q9 (y:=y) aA)
     have HN:=Lib.hid (Tx (y:=y) aA)
     cases q:Cy y L[k]
     ·have S:=Lib.hid (HY.out q)
      rw [q] at C
      go_wp2_with fail
      refine C.mono ?_
      rintro e w3 ⟨rfl,b3⟩
      go_wp2
      exact ⟨⟨k+1,by omega,by go_num,by rw [S.out];go_num,Aa (Aa aF ha) b3⟩,by simp [intOf];omega⟩
     ·have S:=Lib.hid (HN.out q)
      rw [q] at C
      go_wp2_with fail
      refine C.mono ?_
      rintro e w3 ⟨rfl,b3⟩
      go_wp2
      exact ⟨⟨k+1,by omega,by go_num,by rw [S.out];go_num,Aa (Aa aF ha) b3⟩,by simp [intOf];omega⟩
    ·have aB:¬ (k:Int)<(L.length:Int):=by omega
     have bH:k=L.length:=by omega
     subst bH
     go_wp2
     go_ret
     exact ⟨Bw (by have:=HD.out;omega),Aa B0 aF⟩
theorem Mq (y:Yard) (s:Sl×Sl) (w:World) (hl:Ai y<=2000000) (h:Ab.rd w w.heap.size y s) :
  Calls Tryz.prog 218 #[By y s] w fun e w'=>e = .returned (.int .i64 (D9 y:Nat))/\Below w.heap.size w w':=by
 have HR:=Lib.hid (show ∀ W,Below w.heap.size w W->Ab.rd W W.heap.size y s from fun W hW=>Ab.rd_more (Ab.rd_below h hW) hW.size)
 obtain ⟨⟨A1,n1,c1⟩,⟨A2,n2,c2⟩⟩:=s
 obtain rfl:n1=y.shelf.length:=RdL.at1 (s:=⟨A1,n1,c1⟩) h.1
 obtain rfl:n2=y.runs.length:=RdL.at1 (s:=⟨A2,n2,c2⟩) h.2
 have h1:RdL (Dt.list Af) w w.heap.size (.slice A1 y.shelf.length c1) y.shelf:=h.1
 have h2:RdL Am w w.heap.size (.slice A2 y.runs.length c2) y.runs:=h.2
 have dI:y.runs.length<=2000000:=Nat.le_trans (Ar Bg _) (by unfold Ai at hl;omega)
 have hls:y.shelf.length<=2000000:=Nat.le_trans (Ar Bl _) (by unfold Ai at hl;omega)
 have HE:=Lib.hid (show ∀ k (hk:k<y.shelf.length),y.shelf[k].length<=2000000 from fun k hk=>by
  have:=Cq (cnt:=Bl) (List.getElem_mem hk)
  have h2:y.shelf[k].length<=Bl y.shelf[k]:=Ar Hu _
  unfold Ai at hl
  omega)
 have HB:=Lib.hid (I8 hl)
 have HD:=Lib.hid (show D9 y=Es y.runs+D4 y y.shelf.flatten from rfl)
 have HW:=Lib.hid (show ∀ k,Es y.runs+D4 y (y.shelf.take k).flatten<=4000000 from fun k=>by
  have h3:=(I8 hl y.runs.length).2
  rw [List.take_length] at h3
  have h4:=Ff y.shelf k
  have h5:=Ly y (y.shelf.take k).flatten
  unfold Ai at hl
  omega)
 clear h
 obtain ⟨W,aG,X,B0⟩:=bx1 w 31 [.int .i64 y.now,.int .i64 y.seq,.slice A1 y.shelf.length c1,.slice A2 y.runs.length c2]
 go_enter Tryz.func218,Tryz.ntmps218
 go_wp2
 rw [<-aG.out]
 clear aG
 obtain ⟨X_0,X_1,X_2,X_3,X_l⟩:=X.g4
 go_loop [3,4] (fun n i=>∃ k:Nat,k<=y.runs.length/\i = .int .i64 k/\n = .int .i64 (Es (y.runs.take k):Nat)) (fun _ i=>y.runs.length - (intOf i).toNat)
 case atStart=>exact ⟨0,Nat.zero_le _,rfl,rfl⟩
 case round =>
  obtain ⟨k,hk,rfl,rfl⟩:=hrel
  have sH:=(HB.out k).1
  by_cases aA:k<y.runs.length
  ·have aB:(k:Int)<(y.runs.length:Int):=by omega
   obtain ⟨b,o,⟨s1,⟨At,nt,ct⟩⟩,rfl,aH,cB,c0_,c1_,c2_,c3_,c4_,c5_,c6_,c7_⟩:=(h2.below B0).run aA
   obtain rfl:nt=y.runs[k].tasks.length:=RdL.at1 (s:=⟨At,nt,ct⟩) cB.2
   have uJ:=Ek hl aA
   by_cases q:y.runs[k].state=1
   ·have S:=Lib.hid (Ra aA q)
    have q':(y.runs[k].state == 1)=true:=beq_iff_eq.2 q
    clear q
    go_wp2
    exact ⟨⟨k+1,by omega,by go_num,by rw [S.out];go_num⟩,by simp [intOf];omega⟩
   ·have S:=Lib.hid (Tz aA q)
    have q':(y.runs[k].state == 1)=false:=beq_eq_false_iff_ne.2 q
    clear q
    go_wp2
    exact ⟨⟨k+1,by omega,by go_num,by rw [S.out]⟩,by simp [intOf];omega⟩
  ·have aB:¬ (k:Int)<(y.runs.length:Int):=by omega
   have bH:k=y.runs.length:=by omega
   subst bH
   have HS:=Lib.hid (show Es (y.runs.take y.runs.length)=Es y.runs by rw [List.take_length])
   go_wp2
   clear X_0 X_1 X_2 X_3 X_l sH aA hk aB
   go_loopw [3,5] (fun n i wr=>∃ k:Nat,k<=y.shelf.length/\i = .int .i64 k/\n = .int .i64 (Es y.runs+D4 y (y.shelf.take k).flatten:Nat)/\Below W.heap.size W wr) (fun _ i _=>y.shelf.length - (intOf i).toNat)
   case atStart=>exact ⟨0,Nat.zero_le _,rfl,by simp [D4],Below.refl _ _⟩
   case round =>
    obtain ⟨k,hk,rfl,rfl,hb⟩:=hrel
    have hwk:=HW.out k
    by_cases aA:k<y.shelf.length
    ·have aB:(k:Int)<(y.shelf.length:Int):=by omega
     have hez:=HE.out k aA
     have nX:=Lib.hid (Jk y.shelf k aA)
     have hwk1:=HW.out (k+1)
     rw [nX.out,Mj] at hwk1
     have HWj:=Lib.hid (show ∀ j,D4 y (y.shelf[k].take j)<=y.shelf[k].length from fun j=>Nat.le_trans (Ly _ _) (by rw [List.length_take];omega))
     have X1:=X.below hb
     have rB:wr.cell? ⟨w.heap.size,2,none⟩=some (.slice A1 y.shelf.length c1):=X1.cell 2 _ rfl
     have tX:=X1.lt
     go_wp2
     clear rB tX X1
     go_loopw [3,6] (fun n i wq=>∃ j:Nat,j<=y.shelf[k].length/\i = .int .i64 j/\n = .int .i64 (Es y.runs+D4 y (y.shelf.take k).flatten+D4 y (y.shelf[k].take j):Nat)/\Below W.heap.size W wq) (fun _ i _=>y.shelf[k].length - (intOf i).toNat)
     case atStart=>exact ⟨0,Nat.zero_le _,rfl,by simp [D4],hb⟩
     case round =>
      clear hb
      obtain ⟨j,hj,rfl,rfl,hb⟩:=hrel
      have hsj:=HWj.out j
      have X:=X.below hb
      obtain ⟨X_0,X_1,X_2,X_3,X_l⟩:=X.g4
      obtain ⟨b,o,⟨As,ns,cs⟩,mA,aH,hr,d0⟩:=(h1.below (Aa B0 hb)).entryS aA
      obtain rfl:ns=y.shelf[k].length:=RdL.at1 (s:=⟨As,ns,cs⟩) hr
      subst mA
      have bJ:b<wr.heap.size:=Nat.lt_of_lt_of_le aH (Aa B0 hb).size
      by_cases cZ:j<y.shelf[k].length
      ·have fU:(j:Int)<(y.shelf[k].length:Int):=by omega
       obtain ⟨b2,o2,_,hAs,kF,_,f0,f1,f2,f3⟩:=RdL.entry hr cZ
       subst hAs
       have eG:b2<wr.heap.size:=Nat.lt_of_lt_of_le kF (Aa B0 hb).size
       have aN:=Bk wr
       have C:=Lib.hid (show ∀ u:Hn wr,_ from fun u=>Mm y (⟨some ⟨b,o,none⟩,y.shelf.length,c1⟩,⟨A2,y.runs.length,c2⟩) y.shelf[k][j] u.1 hl (HR.out _ (Aa (Aa B0 hb) u.2)))
       have HY:=Lib.hid (Q9 (y:=y) cZ)
       have HN:=Lib.hid (Tx (y:=y) cZ)
       cases q:Cy y y.shelf[k][j]
       ·have S:=Lib.hid (HY.out q)
        rw [q] at C
        go_wp2
        refine Ad (by kernel_rfl) (by kernel_rfl) ?_
        repeat (go_big_quiet_step ((go_at_call 87;(with_reducible exact Gu C.out))))
        refine wpQuiet_nil ?_
        rintro _ ⟨⟨w3,b3⟩,rfl⟩
        clear aN
        go_wp2
        exact ⟨⟨j+1,by omega,by go_num,by rw [S.out];go_num,Aa hb b3⟩,by simp [intOf];omega⟩
       ·have S:=Lib.hid (HN.out q)
        rw [q] at C
        go_wp2
        refine Ad (by kernel_rfl) (by kernel_rfl) ?_
        repeat (go_big_quiet_step ((go_at_call 87;(with_reducible exact Gu C.out))))
        refine wpQuiet_nil ?_
        rintro _ ⟨⟨w3,b3⟩,rfl⟩
        clear aN
        go_wp2
        exact ⟨⟨j+1,by omega,by go_num,by rw [S.out];go_num,Aa hb b3⟩,by simp [intOf];omega⟩
      ·have fU:¬ (j:Int)<(y.shelf[k].length:Int):=by omega
       have hj':j=y.shelf[k].length:=by omega
       subst hj'
       have S:=Lib.hid (show Es y.runs+D4 y (y.shelf.take (k+1)).flatten=Es y.runs+D4 y (y.shelf.take k).flatten+D4 y (y.shelf[k].take y.shelf[k].length) by rw [nX.out,Mj,List.take_length];omega)
       go_wp2
       exact ⟨⟨k+1,by omega,by go_num,by rw [S.out],hb⟩,by simp [intOf];omega⟩
    ·have aB:¬ (k:Int)<(y.shelf.length:Int):=by omega
     have bH:k=y.shelf.length:=by omega
     subst bH
     have X1:=X.below hb
     have rB:wr.cell? ⟨w.heap.size,2,none⟩=some (.slice A1 y.shelf.length c1):=X1.cell 2 _ rfl
     have tX:=X1.lt
     go_wp2
     go_ret
     exact ⟨Bw (by have:=HD.out;omega),Aa B0 hb⟩
def G4 (l:List Entry) (e:Entry):List Entry:=l.takeWhile (fun x=>Db x e) ++ e :: l.dropWhile (fun x=>Db x e)
theorem Rm {α:Type} {p:α->Bool} : ∀ {l:List α} {k:Nat},k<=l.length->(∀ j (hj:j<l.length),j<k->p l[j]=true)->(∀ h:k<l.length,p l[k]=false)->l.takeWhile p=l.take k/\l.dropWhile p=l.drop k
 | [],k,hk,_,_=>by
  obtain rfl:k=0:=by simpa using hk
  exact ⟨rfl,rfl⟩
 | x :: l,0,_,_,h=>by
  have:=h (by simp)
  simp only [List.getElem_cons_zero] at this
  simp [List.takeWhile_cons,List.dropWhile_cons,this]
 | x :: l,k+1,hk,ha,h=>by
  have h0:=ha 0 (by simp) (by omega)
  simp only [List.getElem_cons_zero] at h0
  obtain ⟨i1,i2⟩:=Rm (p:=p) (l:=l) (k:=k) (by simpa using hk) (fun j hj fD=>by have:=ha (j+1) (by simpa using hj) (by omega);simpa using this) (fun kB=>by have:=h (by simpa using kB);simpa using this)
  simp [List.takeWhile_cons,List.dropWhile_cons,h0,i1,i2]
theorem Qh {l:List Entry} {e:Entry} {k:Nat} (hk:k<=l.length) (ha:∀ j (hj:j<l.length),j<k->Db l[j] e=true) (h:∀ h:k<l.length,Db l[k] e=false):G4 l e=l.take k ++ [e] ++ l.drop k:=by
 unfold G4
 obtain ⟨h1,h2⟩:=Rm (p:=fun x=>Db x e) hk ha h
 rw [h1,h2,List.append_assoc]
 rfl
theorem Wr (l:List Entry) (e:Entry):(G4 l e).length=l.length+1:=by
 unfold G4
 rw [List.length_append,List.length_cons]
 have:(l.takeWhile (fun x=>Db x e) ++ l.dropWhile (fun x=>Db x e)).length=l.length:=by rw [List.takeWhile_append_dropWhile]
 rw [List.length_append] at this
 omega
def Eb (a b:List Entry):List Entry:=if 80<a.length+b.length then a else b.foldl G4 a
theorem Jl (b:List Entry):∀ a:List Entry,(b.foldl G4 a).length=a.length+b.length:=by
 induction b with
 | nil=>intro a;rfl
 | cons x b ih=>intro a;rw [List.foldl_cons,ih,Wr,List.length_cons];omega
theorem Ws (a b:List Entry):(Eb a b).length<=a.length+b.length:=by
 unfold Eb
 split
 ·omega
 ·rw [Jl];omega
def Bh (l:List Entry):Nat:=(l.length+1) / 2
theorem Wt (l:List Entry):Bh l<=l.length:=by unfold Bh;omega
def Bd (id:Int):Nat:=if (Cl id).length=0 then 0 else (I1 (Cl id) % 4).toNat
theorem Rn (id:Int):Bd id<4:=by
 unfold Bd
 split
 ·decide
 ·have:=Int.emod_lt_of_pos (I1 (Cl id)) (show (0:Int)<4 by decide)
  have:=Int.emod_nonneg (I1 (Cl id)) (show (4:Int)≠0 by decide)
  omega
theorem OwL.swap {α:Type} {d:Dt α} {w:World} {F Fy:List Nat} {b o n c:Nat} {l:List α} (h:OwL d w F (.slice (some ⟨b,o,none⟩) n c) l) {j:Nat} (hj:j<l.length) {y:α} {s:d.S} (hy:d.ow w Fy y s) (hd:∀ x∈Fy,x∉F) :
  ∃ F',OwL d (E9 w b (o+j * d.enc.sz) (d.enc.cells (y,s))) F' (.slice (some ⟨b,o,none⟩) n c) (l.set j y)/\(∀ x∈F',x∈F\/x∈Fy)/\b∈F/\b∈F':=by
 obtain ⟨rs,H,G,hm,hh,ho,rfl,hn⟩:=h
 have jX:j<rs.length:=by rw [<-hm,List.length_map] at hj;exact hj
 obtain ⟨b',o',hA,rfl,mE,hf⟩:=hh.at_ (by omega)
 simp only [Option.some.injEq,Addr.mk.injEq,and_true] at hA
 obtain ⟨rfl,rfl⟩:=hA
 obtain ⟨F1,F2,rfl,h1,h2⟩:=ho.split j (by omega)
 rw [List.drop_eq_getElem_cons jX] at h2
 obtain ⟨Fx,F3,rfl,h3,h4⟩:=h2.head
 have fX:b∉F1 ++ (Fx ++ F3):=by
  have:=hn
  simp only [List.singleton_append,List.nodup_cons] at this
  exact this.1
 have pT:(F1 ++ (Fx ++ F3)).Nodup:=by
  have:=hn
  simp only [List.singleton_append,List.nodup_cons] at this
  exact this.2
 have cK:b∉Fy:=fun hx=>hd b hx (by simp)
 have hc:=Gk (d.enc.cells (y,s)) w b (o+j * d.enc.sz)
 have hp:=Rd.part hh.rd j jX (y,s) 0 (d.enc.cells (y,s)) (by rw [d.enc.len];omega) (fun i hi=>by rw [Nat.zero_add];exact List.getElem?_eq_getElem hi) (fun i hi ho=>by rw [d.enc.len] at ho;omega)
 rw [Nat.add_zero] at hp
 have hz:=Hg (d.enc.cells (y,s)) w b (o+j * d.enc.sz)
 have eP:rs.set j (y,s)=rs.take j ++ ((y,s) :: rs.drop (j+1)):=by rw [List.set_eq_take_append_cons_drop,if_pos jX]
 refine ⟨[b] ++ (F1 ++ (Fy ++ F3)),⟨rs.set j (y,s),[b],F1 ++ (Fy ++ F3),?_,⟨?_,?_,fun g hg i=>?_⟩,?_,rfl,?_⟩,?_,by simp,by simp⟩
 ·rw [List.map_set,hm]
 ·rw [hz];exact hp
 ·have:=hh.2.1
  rw [List.length_set]
  exact this
 ·rw [Gl];simp only [List.mem_singleton] at hg;subst hg;exact hf i
 ·rw [eP]
  refine (h1.chg hc (fun x hx eT=>?_)).append (.cons (d.ow_chg hy hc (fun x hx eT=>?_)) (h4.chg hc (fun x hx eT=>?_)))
  ·simp only [List.mem_singleton] at eT;subst eT;exact fX (List.mem_append_left _ hx)
  ·simp only [List.mem_singleton] at eT;subst eT;exact cK hx
  ·simp only [List.mem_singleton] at eT;subst eT;exact fX (List.mem_append_right _ (List.mem_append_right _ hx))
 ·have hyN:=d.ow_nodup hy
  rw [List.singleton_append,List.nodup_cons]
  refine ⟨fun hx=>?_,?_⟩
  ·simp only [List.mem_append] at hx
   rcases hx with hx | hx | hx
   ·exact fX (by simp [hx])
   ·exact cK hx
   ·exact fX (by simp [hx])
  ·rw [List.nodup_append] at pT ⊢
   obtain ⟨n1,n2,n3⟩:=pT
   rw [List.nodup_append] at n2
   obtain ⟨m1,m2,m3⟩:=n2
   refine ⟨n1,?_,fun a ha c hc=>?_⟩
   ·rw [List.nodup_append]
    exact ⟨hyN,m2,fun a ha c hc e=>hd a ha (by subst e;simp [hc])⟩
   ·rcases List.mem_append.1 hc with hc | hc
    ·exact fun e=>hd c hc (by subst e;simp [ha])
    ·exact n3 a ha c (List.mem_append_right _ hc)
 ·intro x hx
  simp only [List.mem_append,List.mem_singleton] at hx ⊢
  rcases hx with hx | hx | hx | hx
  ·exact .inl (.inl hx)
  ·exact .inl (.inr (.inl hx))
  ·exact .inr hx
  ·exact .inl (.inr (.inr (.inr hx)))
end Go.Proofs.YtonlnjdempbfoaaGreat
