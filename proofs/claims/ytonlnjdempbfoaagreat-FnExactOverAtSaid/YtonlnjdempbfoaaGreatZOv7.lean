/-
  Yards that are right: the reference's walk, whole. Merged of the reference. Shelves of the program: ShelfOf, PutEntry. DeedOk of the program. l10Lay of the refe
-/
import Derived.Test.YtonlnjdempbfoaaGreatZOv0
import Derived.Test.YtonlnjdempbfoaaGreatZOv2
import Derived.Test.YtonlnjdempbfoaaGreatZOv3
import Derived.Test.YtonlnjdempbfoaaGreatZOv5
import Derived.Test.YtonlnjdempbfoaaGreatZOv6
import Derived.BigRegion
import Derived.ChangeAlike
namespace Go.Proofs.YtonlnjdempbfoaaGreat
open Go.RowKit
set_option maxRecDepth 100000
set_option maxHeartbeats 4000000
set_option linter.unusedVariables false
set_option linter.unusedSimpArgs false
theorem Abi {y:Yard} (h1:inB y.now 0 999999980=true) (h2:inB y.seq 1 1000000000=true) (h3:Hx y) (h6:y.runs.length<=8) (h7:Ij y y.runs.length):Bq y ↔ D9 y<=40:=by
 refine Zo h1 h2 h3.1 (fun k hk=>h3.2.1 _ (List.getElem_mem hk)) (U3 h3 (Nat.le_refl _)) h6 h7
def M7 (y:Yard) (k:Nat):Prop:=∀ j (hj:j<y.runs.length),j<k->Er y.runs[j]/\Bo y y.runs[j].id=j
def Ua (y:Yard) (k:Nat):Prop:=∀ j (hj:j<y.runs.length),j<k->Ie y.now y.runs[j] (Ah y)
theorem D7 (y:Yard) (s:Sl×Sl) (w:World) (hl:Ai y<=2000000) (h:Ab.rd w w.heap.size y s) :
  Calls Tryz.prog 151 #[By y s] w fun e w'=>e = .returned (.bool (tf (Bq y)))/\Below w.heap.size w w':=by
 have HR:=Lib.hid (show ∀ W,Below w.heap.size w W->Ab.rd W W.heap.size y s from fun W hW=>Ab.rd_more (Ab.rd_below h hW) hW.size)
 obtain ⟨⟨A1,n1,c1⟩,⟨A2,n2,c2⟩⟩:=s
 obtain rfl:n2=y.runs.length:=RdL.at1 (s:=⟨A2,n2,c2⟩) h.2
 have h2:RdL Am w w.heap.size (.slice A2 y.runs.length c2) y.runs:=h.2
 have dI:y.runs.length<=2000000:=Nat.le_trans (Ar Bg _) (by unfold Ai at hl;omega)
 have HC:=Lib.hid (show ∀ k (hk:k<y.runs.length),Bg y.runs[k]<=2000000 from fun k hk=>by
  have:=Cq (cnt:=Bg) (List.getElem_mem hk)
  unfold Ai at hl
  omega)
 have HEn:=Lib.hid (show (Ah y).length<=2000000 by
  have:=Ff y.shelf y.shelf.length
  rw [List.take_length] at this
  unfold Ai at hl
  unfold Ah
  omega)
 have nZ:=Wq hl
 clear h
 have X:=DBox.new 31 [.int .i64 y.now,.int .i64 y.seq,.slice A1 n1 c1,.slice A2 y.runs.length c2] w (b:=w.heap.size) rfl
 have B0:Below w.heap.size w (w.alloc (.cells #[.int .i64 y.now,.int .i64 y.seq,.slice A1 n1 c1,.slice A2 y.runs.length c2] 31)):=by repeat (first | exact Below.refl _ _ | refine Below.alloc ?_ (by simp<;>omega) _)
 cases a1:inB y.now 0 999999980
 case false =>
  have H:=Lib.hid (Al (show ¬ Bq y from fun h=>by have:=Bf.2 h.1;rw [a1] at this;cases this))
  go_enter Tryz.func151,Tryz.ntmps151
  go_wp2_with (go_at_call 155;refine (Aj _ _ _ _).mono ?_;rintro e w' ⟨rfl,rfl⟩)
  go_ret
  exact ⟨Ac H.out.symm,B0⟩
 cases a2:inB y.seq 1 1000000000
 case false =>
  have H:=Lib.hid (Al (show ¬ Bq y from fun h=>by have:=Bf.2 h.2.1;rw [a2] at this;cases this))
  go_enter Tryz.func151,Tryz.ntmps151
  go_wp2_with (go_at_call 155;refine (Aj _ _ _ _).mono ?_;rintro e w' ⟨rfl,rfl⟩)
  go_ret
  exact ⟨Ac H.out.symm,B0⟩
 by_cases a4:y.runs.length<=8
 case neg =>
  have a4':(8:Int)<(y.runs.length:Int):=by omega
  have H:=Lib.hid (Al (show ¬ Bq y from fun h=>a4 h.2.2.2.2.2.2.1))
  clear a4
  go_enter Tryz.func151,Tryz.ntmps151
  go_wp2_with (go_at_call 155;refine (Aj _ _ _ _).mono ?_;rintro e w' ⟨rfl,rfl⟩)
  go_ret
  exact ⟨Ac H.out.symm,B0⟩
 have a4':¬ (8:Int)<(y.runs.length:Int):=by omega
 have hqb:=Bf.1 a2
 have sY:=Bf.1 a1
 have C0:=Py y (⟨A1,n1,c1⟩,⟨A2,y.runs.length,c2⟩) (w.alloc (.cells #[.int .i64 y.now,.int .i64 y.seq,.slice A1 n1 c1,.slice A2 y.runs.length c2] 31)) hl hqb (HR.out _ B0)
 by_cases a3:Hx y
 case neg =>
  have H:=Lib.hid (Al (show ¬ Bq y from fun h=>a3 ⟨h.2.2.1,h.2.2.2.1,h.2.2.2.2.1,h.2.2.2.2.2.1⟩))
  rw [Al a3] at C0
  clear a3
  go_enter Tryz.func151,Tryz.ntmps151
  go_wp2_with (first | (go_at_call 155;refine (Aj _ _ _ _).mono ?_;rintro e w' ⟨rfl,rfl⟩) | (go_at_call 215;refine C0.mono ?_;rintro e w1 ⟨rfl,b1⟩))
  go_ret
  exact ⟨Ac H.out.symm,Aa B0 b1⟩
 rw [Bs a3] at C0
 go_enter Tryz.func151,Tryz.ntmps151
 go_wp2_with (first | (go_at_call 155;refine (Aj _ _ _ _).mono ?_;rintro e w' ⟨rfl,rfl⟩) | (go_at_call 215;refine C0.mono ?_;rintro e w1 ⟨rfl,b1⟩))
 replace X:=X.below b1
 replace B0:=Aa B0 b1
 clear b1 C0
 have A1_:=Lib.hid a1
 have A2_:=Lib.hid a2
 have A3_:=Lib.hid a3
 clear a1 a2 a3 a4'
 go_loopw [3] (fun i wr=>∃ k:Nat,k<=y.runs.length/\i = .int .i64 k/\Hid (M7 y k)/\Below w1.heap.size w1 wr) (fun i _=>y.runs.length - (intOf i).toNat)
 case atStart=>exact ⟨0,Nat.zero_le _,rfl,fun j _ h0=>absurd h0 (by omega),Below.refl _ _⟩
 case round =>
  obtain ⟨k,hk,rfl,aW,hb⟩:=hrel
  replace X:=X.below hb
  replace B0:=Aa B0 hb
  obtain ⟨X_0,X_1,X_2,X_3,X_l⟩:=X.g4
  by_cases aA:k<y.runs.length
  ·have aB:(k:Int)<(y.runs.length:Int):=by omega
   obtain ⟨b,o,⟨⟨A8,n8,c8⟩,⟨At,nt,ct⟩⟩,dW,aH,cB,e0,e1,e2,e3,e4,e5,e6,e7⟩:=(h2.below B0).run aA
   subst dW
   have bJ:b<wr.heap.size:=Nat.lt_of_lt_of_le aH B0.size
   have HRr:=Lib.hid (show ∀ W,Below wr.heap.size wr W->Am.rd W W.heap.size y.runs[k] (⟨A8,n8,c8⟩,⟨At,nt,ct⟩) from fun W hW=>Am.rd_more (Am.rd_below (Am.rd_more cB B0.size) hW) hW.size)
   have mF:=HC.out k aA
   have aN:=Bk wr
   have C1:=fun u:Hn wr=>J2 y.runs[k] (⟨A8,n8,c8⟩,⟨At,nt,ct⟩) u.1 mF (HRr.out _ u.2)
   have C2:=fun u:Hn wr=>Cz y (⟨A1,n1,c1⟩,⟨some ⟨b,o,none⟩,y.runs.length,c2⟩) y.runs[k].id u.1 hl (HR.out _ (Aa B0 u.2))
   have D1:=Lib.hid C1
   have D2:=Lib.hid C2
   clear C1 C2
   by_cases q1:Er y.runs[k]
   case neg =>
    have H:=Lib.hid (Al (show ¬ Bq y from fun h=>q1 (h.2.2.2.2.2.2.2.1 k aA).1))
    rw [Al q1] at D1
    clear q1
    go_wp2
    refine Ad (by kernel_rfl) (by kernel_rfl) ?_
    repeat (go_big_quiet_step ((go_at_call 216;(with_reducible exact Gu D1.out))))
    refine wpQuiet_nil ?_
    rintro _ ⟨⟨w3,b3⟩,rfl⟩
    clear aN
    go_wp2
    go_ret
    exact ⟨Ac H.out.symm,Aa B0 b3⟩
   rw [Bs q1] at D1
   by_cases q2:Bo y y.runs[k].id=k
   case neg =>
    have H:=Lib.hid (Al (show ¬ Bq y from fun h=>q2 (h.2.2.2.2.2.2.2.1 k aA).2))
    have q2':(Bo y y.runs[k].id != (k:Int))=true:=by simp [q2]
    clear q1 q2
    go_wp2
    refine Ad (by kernel_rfl) (by kernel_rfl) ?_
    repeat (go_big_quiet_step ((first | (go_at_call 216;(with_reducible exact Gu D1.out)) | (go_at_call 80;(with_reducible exact Gu D2.out)))))
    refine wpQuiet_nil ?_
    rintro _ ⟨⟨w3,b3⟩,rfl⟩
    clear aN
    go_wp2
    go_ret
    exact ⟨Ac H.out.symm,Aa B0 b3⟩
   have S:Hid (M7 y (k+1)):=fun j hj fD=>by
    by_cases e:j=k
    ·subst e;exact ⟨q1,q2⟩
    ·exact aW.out j hj (by omega)
   rw [q2] at D2
   have q2':((k:Int) != (k:Int))=false:=by simp
   clear q1 q2
   go_wp2
   refine Ad (by kernel_rfl) (by kernel_rfl) ?_
   repeat (go_big_quiet_step ((first | (go_at_call 216;(with_reducible exact Gu D1.out)) | (go_at_call 80;(with_reducible exact Gu D2.out)))))
   refine wpQuiet_nil ?_
   rintro _ ⟨⟨w3,b3⟩,rfl⟩
   clear aN
   go_wp2
   first
    | exact ⟨⟨k+1,by omega,by go_num,S,Aa hb b3⟩,by simp [intOf];omega⟩
    | (refine ⟨?_,by simp [intOf];omega⟩;(repeat apply Exists.intro);first | exact ⟨⟨k+1,by omega,by go_num,S,Aa hb b3⟩,rfl⟩ | exact ⟨⟨k+1,by omega,by go_num,S,Aa hb b3⟩,rfl,rfl⟩ | exact ⟨⟨k+1,by omega,by go_num,S,Aa hb b3⟩,rfl,rfl,rfl⟩ | exact ⟨⟨k+1,by omega,by go_num,S,Aa hb b3⟩,rfl,rfl,rfl,rfl⟩ | exact ⟨⟨k+1,by omega,by go_num,S,Aa hb b3⟩,rfl,rfl,rfl,rfl,rfl⟩ | exact ⟨⟨k+1,by omega,by go_num,S,Aa hb b3⟩,rfl,rfl,rfl,rfl,rfl,rfl⟩ | exact ⟨⟨k+1,by omega,by go_num,S,Aa hb b3⟩,rfl,rfl,rfl,rfl,rfl,rfl,rfl⟩)
  ·have aB:¬ (k:Int)<(y.runs.length:Int):=by omega
   have HR1:Hid (M7 y y.runs.length):=fun j hj _=>aW.out j hj (by omega)
   have C:=K4 y (⟨A1,n1,c1⟩,⟨A2,y.runs.length,c2⟩) wr hl (HR.out _ B0)
   go_wp2_with fail
   refine C.mono ?_
   rintro e w2 ⟨v,rfl,o2,b2⟩
   replace X:=X.below b2
   replace B0:=Aa B0 b2
   clear X_0 X_1 X_2 X_3 X_l aW aA aB hb
   have O2:=Rd.of_own o2
   clear o2
   obtain ⟨A3,c3,rfl,-⟩:=id O2
   have pN:=HEn.out
   go_wp2
   go_loopw [5] (fun i wr=>∃ k:Nat,k<=y.runs.length/\i = .int .i64 k/\Hid (Ua y k)/\Below w2.heap.size w2 wr) (fun i _=>y.runs.length - (intOf i).toNat)
   case atStart=>exact ⟨0,Nat.zero_le _,rfl,fun j _ h0=>absurd h0 (by omega),Below.refl _ _⟩
   case round =>
    obtain ⟨k,hk,rfl,aW,hb⟩:=hrel
    replace X:=X.below hb
    replace B0:=Aa B0 hb
    obtain ⟨X_0,X_1,X_2,X_3,X_l⟩:=X.g4
    by_cases aA:k<y.runs.length
    ·have aB:(k:Int)<(y.runs.length:Int):=by omega
     obtain ⟨b,o,⟨⟨A8,n8,c8⟩,⟨At,nt,ct⟩⟩,dW,aH,cB,e0,e1,e2,e3,e4,e5,e6,e7⟩:=(h2.below B0).run aA
     subst dW
     have bJ:b<wr.heap.size:=Nat.lt_of_lt_of_le aH B0.size
     have HRr:=Lib.hid (show ∀ W,Below wr.heap.size wr W->Am.rd W W.heap.size y.runs[k] (⟨A8,n8,c8⟩,⟨At,nt,ct⟩) from fun W hW=>Am.rd_more (Am.rd_below (Am.rd_more cB B0.size) hW) hW.size)
     have mF:=HC.out k aA
     have hwt:=Zn (HR1.out k aA aA).1.2.1
     have eI:y.runs[k].tasks.length<=2000000:=Nat.le_trans (Ar Fc _) (by unfold Bg at mF;omega)
     have aN:=Bk wr
     have D3:=Lib.hid (show ∀ u:Hn wr,_ from fun u=>Tf y (⟨A1,n1,c1⟩,⟨some ⟨b,o,none⟩,y.runs.length,c2⟩) y.runs[k] (⟨A8,n8,c8⟩,⟨At,nt,ct⟩) (Ah y) ⟨A3,(Ah y).length,c3⟩ u.1 eI pN sY hwt (HRr.out _ u.2) ((O2.below (Aa hb u.2)).more (Aa hb u.2).size))
     by_cases q3:Ie y.now y.runs[k] (Ah y)
     case neg =>
      have H:=Lib.hid (Al (show ¬ Bq y from fun h=>q3 (h.2.2.2.2.2.2.2.2.1 _ (List.getElem_mem aA))))
      rw [Al q3] at D3
      clear q3
      go_wp2
      refine Ad (by kernel_rfl) (by kernel_rfl) ?_
      repeat (go_big_quiet_step ((go_at_call 217;(with_reducible exact Gu D3.out))))
      refine wpQuiet_nil ?_
      rintro _ ⟨⟨w3,b3⟩,rfl⟩
      clear aN
      go_wp2
      go_ret
      exact ⟨Ac H.out.symm,Aa B0 b3⟩
     have S:Hid (Ua y (k+1)):=fun j hj fD=>by
      by_cases e:j=k
      ·subst e;exact q3
      ·exact aW.out j hj (by omega)
     rw [Bs q3] at D3
     clear q3
     go_wp2
     refine Ad (by kernel_rfl) (by kernel_rfl) ?_
     repeat (go_big_quiet_step ((go_at_call 217;(with_reducible exact Gu D3.out))))
     refine wpQuiet_nil ?_
     rintro _ ⟨⟨w3,b3⟩,rfl⟩
     clear aN
     go_wp2
     first
      | exact ⟨⟨k+1,by omega,by go_num,S,Aa hb b3⟩,by simp [intOf];omega⟩
      | (refine ⟨?_,by simp [intOf];omega⟩;(repeat apply Exists.intro);first | exact ⟨⟨k+1,by omega,by go_num,S,Aa hb b3⟩,rfl⟩ | exact ⟨⟨k+1,by omega,by go_num,S,Aa hb b3⟩,rfl,rfl⟩ | exact ⟨⟨k+1,by omega,by go_num,S,Aa hb b3⟩,rfl,rfl,rfl⟩ | exact ⟨⟨k+1,by omega,by go_num,S,Aa hb b3⟩,rfl,rfl,rfl,rfl⟩ | exact ⟨⟨k+1,by omega,by go_num,S,Aa hb b3⟩,rfl,rfl,rfl,rfl,rfl⟩ | exact ⟨⟨k+1,by omega,by go_num,S,Aa hb b3⟩,rfl,rfl,rfl,rfl,rfl,rfl⟩ | exact ⟨⟨k+1,by omega,by go_num,S,Aa hb b3⟩,rfl,rfl,rfl,rfl,rfl,rfl,rfl⟩)
    ·have aB:¬ (k:Int)<(y.runs.length:Int):=by omega
     have HRt:Hid (Ij y y.runs.length):=fun j hj hj2=>⟨(HR1.out j hj hj2).1,(HR1.out j hj hj2).2,aW.out j hj (by omega)⟩
     have HF:=Lib.hid (Abi A1_.out A2_.out A3_.out a4 HRt.out)
     have C:=Mq y (⟨A1,n1,c1⟩,⟨A2,y.runs.length,c2⟩) wr hl (HR.out _ B0)
     go_wp2_with fail
     refine C.mono ?_
     rintro e w7 ⟨rfl,b7⟩
     have HT:=Lib.hid (show tf (Bq y)=decide ((D9 y:Int)<=40) by
      rw [Bool.eq_iff_iff,J0,HF.out,decide_eq_true_eq]
      omega)
     generalize D9 y=N at *
     by_cases q:N<=40
     ·have H:=Lib.hid (show tf (Bq y)=true by rw [HT.out];exact decide_eq_true (by omega))
      go_wp2
      go_ret
      exact ⟨Ac (by rw [H.out];exact decide_eq_true (by omega)),Aa B0 b7⟩
     ·have H:=Lib.hid (show tf (Bq y)=false by rw [HT.out];exact decide_eq_false (by omega))
      go_wp2
      go_ret
      exact ⟨Ac (by rw [H.out];exact decide_eq_false (by omega)),Aa B0 b7⟩
theorem Il {α β:Type} (f:β->α->β) (z:β) (l:List α) (k:Nat) (h:k<l.length):(l.take (k+1)).foldl f z=f ((l.take k).foldl f z) l[k]:=by
 rw [List.take_succ_eq_append_getElem h,List.foldl_append]
 rfl
theorem Rt (a b:List Entry) (s r:Sl) (w:World) (hl:a.length<=2000000) (hl':b.length<=2000000) (h:RdL Af w w.heap.size s.v a) (h':RdL Af w w.heap.size r.v b) :
  Calls Tryz.prog 206 #[.slice s.a s.n s.c,.slice r.a r.n r.c] w (Cj (Dt.list Af) slV (Eb a b) w):=by
 obtain ⟨A,n,c⟩:=s
 obtain rfl:n=a.length:=RdL.at1 (s:=⟨A,n,c⟩) h
 obtain ⟨A',n',c'⟩:=r
 obtain rfl:n'=b.length:=RdL.at1 (s:=⟨A',n',c'⟩) h'
 obtain ⟨i0,aP,aX,aV,aQ⟩:=info_parts Ds
 have h0:=Lib.hid (fun W (hW:Below w.heap.size w W)=>((Hd h).below hW).more hW.size)
 have q1:Below w.heap.size w (w.alloc (.cells #[] 93)):=(Below.refl _ _).alloc (Nat.le_refl _) _
 by_cases h8:80<a.length+b.length
 ·have hI:(80:Int)<(a.length:Int)+(b.length:Int):=by omega
  have H:=Lib.hid (show Eb a b=a from if_pos h8)
  go_enter Tryz.func206,Tryz.ntmps206
  go_wp2_with (at_builtin;refine Ak _ Az (by decide) rfl (.tmp 7) (.tmp 8) rfl Tryz.underlying96 aP aX aV aQ rfl (base:=w.heap.size) (v:=.slice (some ⟨w.heap.size,0,none⟩) 0 0) (l:=[]) rfl (Ow.empty Az 93 w rfl) rfl (h0.out _ q1) (by simp) (by omega) (by decide) q1.size ?_;intro v1 w1 o1 g1 _;rw [List.nil_append] at o1;have d1:Below w.heap.size w w1:=q1.grown g1 q1.size (fun g hg=>Nat.le_of_eq (Option.some.inj hg)))
  obtain ⟨s9,F9,rfl,o9,n9⟩:=Ez o1
  go_ret
  exact ⟨s9,F9,rfl,by rw [H.out];exact o9,n9,d1⟩
 have hI:¬ (80:Int)<(a.length:Int)+(b.length:Int):=by omega
 have H:=Lib.hid (show Eb a b=b.foldl G4 a from if_neg h8)
 go_enter Tryz.func206,Tryz.ntmps206
 go_wp2_with (at_builtin;refine Ak _ Az (by decide) rfl (.tmp 7) (.tmp 8) rfl Tryz.underlying96 aP aX aV aQ rfl (base:=w.heap.size) (v:=.slice (some ⟨w.heap.size,0,none⟩) 0 0) (l:=[]) rfl (Ow.empty Az 93 w rfl) rfl (h0.out _ q1) (by simp) (by omega) (by decide) q1.size ?_;intro v1 w1 o1 g1 _;rw [List.nil_append] at o1;have d1:Below w.heap.size w w1:=q1.grown g1 q1.size (fun g hg=>Nat.le_of_eq (Option.some.inj hg)))
 obtain ⟨s9,F9,rfl,o9,n9⟩:=Ez o1
 go_loopw [5,6] (fun x i wr=>∃ (k:Nat) (t:Sl) (F:List Nat),k<=b.length/\x = .slice t.a t.n t.c/\i = .int .i64 k/\Hid (OwL Af wr F t.v ((b.take k).foldl G4 a)/\(∀ x∈F,w.heap.size<=x))/\Below w.heap.size w wr) (fun _ i _=>b.length - (intOf i).toNat)
 case atStart=>exact ⟨0,s9,F9,Nat.zero_le _,rfl,rfl,⟨o9,n9⟩,d1⟩
 case round =>
  clear o9 n9 d1 o1 g1
  obtain ⟨k,t,F,hk,rfl,rfl,hO,hb⟩:=hrel
  by_cases aA:k<b.length
  ·have aB:(k:Int)<(b.length:Int):=by omega
   obtain ⟨b1,o,_,rfl,aH,_,c0,c1,c2,c3⟩:=(h'.below hb).entry aA
   have hs:=hb.size
   have bN:b1<wr.heap.size:=by omega
   have HT:=Lib.hid (Il G4 a b k aA)
   have aJ:((b.take k).foldl G4 a).length<=2000000:=by rw [Jl];simp;omega
   have CP:=Lib.hid (Ik ((b.take k).foldl G4 a) t b[k] wr aJ hO.out.1.rd)
   generalize (b.take k).foldl G4 a=L at *
   go_wp2_with (go_at_call 239;refine CP.out.mono ?_;rintro e w2 ⟨t2,F2,rfl,o2,n2,b2⟩)
   exact ⟨⟨k+1,t2,F2,by omega,rfl,by go_num,⟨by rw [HT.out];exact o2,fun x hx=>Nat.le_trans hs (n2 x hx)⟩,Aa hb b2⟩,by simp [intOf];omega⟩
  ·have aB:¬ (k:Int)<(b.length:Int):=by omega
   have HO:=hO.out.1
   rw [List.take_of_length_le (by omega)] at HO
   go_wp2
   go_ret
   exact ⟨t,F,rfl,by rw [H.out];exact HO,hO.out.2,hb⟩
theorem P5 (id:Int) (w:World) :
  Calls Tryz.prog 227 #[.int .i64 id] w fun e w'=>e = .returned (.int .i64 (Bd id))/\Below w.heap.size w w':=by
 have rF:=Oz id
 have aL:=Wh (Cl id)
 have C:=Lib.hid (Pr id w)
 by_cases h0:(Cl id).length=0
 ·have H:=Lib.hid (show (Bd id:Int)=0 by unfold Bd;rw [if_pos h0];rfl)
  have hE:Cl id=[]:=List.eq_nil_of_length_eq_zero h0
  rw [hE] at C
  clear aL h0
  go_enter Tryz.func227,Tryz.ntmps227
  go_wp2_with (go_at_call 99;refine C.out.mono ?_;rintro e w1 ⟨rfl,b1⟩)
  go_ret
  exact ⟨by rw [H.out];rfl,b1⟩
 ·have H:=Lib.hid (show (Bd id:Int)=I1 (Cl id) % 4 by
   unfold Bd;rw [if_neg h0];exact Int.toNat_of_nonneg (Int.emod_nonneg _ (by decide)))
  have hem:=Zp h0
  have CS:=Lib.hid (fun W=>Tb (Cl id) W (by omega))
  have r4:=Acl _ aL.1
  have w4:=Acf _ aL.1
  generalize I1 (Cl id)=sm at *
  generalize Cl id=L at *
  go_enter Tryz.func227,Tryz.ntmps227
  go_wp2_with (first | (go_at_call 99;refine C.out.mono ?_;rintro e w1 ⟨rfl,b1⟩) | (go_at_call 101;refine (CS.out _).mono ?_;rintro e w2 ⟨rfl,b2⟩))
  go_ret
  exact ⟨by rw [H.out];rfl,Aa b1 b2⟩
theorem Jn (l:List Entry) (s:Sl) (w:World) (hl:l.length<=2000000) (h:RdL Af w w.heap.size s.v l) :
  Calls Tryz.prog 122 #[.slice s.a s.n s.c] w fun e w'=>∃ v,e = .returned v/\Ow Az 93 w' w.heap.size v l/\Below w.heap.size w w':=by
 obtain ⟨A,n,c⟩:=s
 obtain rfl:n=l.length:=RdL.at1 (s:=⟨A,n,c⟩) h
 obtain ⟨i0,aP,aX,aV,aQ⟩:=info_parts Ds
 go_enter Tryz.func122,Tryz.ntmps122
 go_wp2_with (at_builtin;refine Ak _ Az (by decide) rfl (.const (.slice none 0 0)) (.tmp 3) rfl Tryz.underlying96 aP aX aV aQ rfl (v:=.slice none 0 0) (l:=[]) rfl (Ow.nil Az 93 _ w.heap.size) rfl (Hd h) (by simp) (by omega) (by decide) (Nat.le_refl _) ?_;intro v1 w1 o1 g1 _;rw [List.nil_append] at o1)
 go_ret
 exact ⟨_,rfl,o1,(Below.refl w.heap.size w).grown g1 (Nat.le_refl _) (fun g hg=>by cases hg)⟩
theorem Aak (x e:Entry) (p:Nat) (w:World) (hp:DBox p [.int .i64 e.prio,.int .i64 e.seq,.int .i64 e.run,.int .i64 e.task] w) :
  Calls Tryz.prog 193 #[Fb x (),.pointer (some ⟨p,0,none⟩)] w fun en w'=>en = .returned (.bool (!Db x e))/\Below w.heap.size w w':=by
 obtain ⟨W,aG,X,B0⟩:=bx1 w 93 [.int .i64 x.prio,.int .i64 x.seq,.int .i64 x.run,.int .i64 x.task]
 have P:=hp.below B0
 have C:=Lib.hid (fun W=>J1 x e W)
 go_enter Tryz.func193,Tryz.ntmps193
 go_upto_region 1 with fail
 rw [<-aG.out]
 clear aG
 obtain ⟨X_0,X_1,X_2,X_3,X_l⟩:=X.g4
 obtain ⟨P_0,P_1,P_2,P_3,P_l⟩:=P.g4
 go_wp2_with fail
 refine (C.out _).mono ?_
 rintro en w1 ⟨rfl,b1⟩
 go_wp2
 go_ret
 exact ⟨rfl,Aa B0 b1⟩
theorem Abj (l:List Entry) (e:Entry):∃ k,k<=l.length/\G4 l e=l.take k ++ e :: l.drop k/\((Eo (fun x=>!Db x e) l = -1/\k=l.length)\/(Eo (fun x=>!Db x e) l=(k:Int)/\k<l.length)):=by
 rcases Jw (fun x=>!Db x e) l with hr | ⟨k,hk,hr⟩
 ·refine ⟨l.length,Nat.le_refl _,?_,.inl ⟨hr,rfl⟩⟩
  have:=Qh (l:=l) (e:=e) (Nat.le_refl _) (fun j hj _=>by
   cases hp:Db l[j] e with
   | true=>rfl
   | false=>exact absurd (Ob (p:=fun x=>!Db x e).2 ⟨_,List.getElem_mem hj,by rw [hp];rfl⟩) (by omega)) (fun h=>absurd h (by omega))
  rw [this,List.append_assoc]
  rfl
 ·refine ⟨k,by omega,?_,.inr ⟨hr,hk⟩⟩
  unfold Eo at hr
  cases hf:l.findIdx? (fun x=>!Db x e) with
  | none=>rw [hf] at hr;simp only at hr;omega
  | some i =>
   rw [hf] at hr
   simp only at hr
   obtain ⟨hi,hp,hb⟩:=List.findIdx?_eq_some_iff_getElem.1 hf
   obtain rfl:i=k:=by omega
   have:=Qh (l:=l) (e:=e) (k:=i) (by omega) (fun j hj fD=>by simpa using hb j fD) (fun h=>by simpa using hp)
   rw [this,List.append_assoc]
   rfl
theorem Ki (l:List Entry) (s:Sl) (e:Entry) (w:World) (hl:l.length<=900000) (h:RdL Af w w.heap.size s.v l) :
  Calls Tryz.prog 137 #[.slice s.a s.n s.c,Fb e ()] w (Cj (Dt.list Af) slV (G4 l e) w):=by
 obtain ⟨A,n,c⟩:=s
 obtain rfl:n=l.length:=RdL.at1 (s:=⟨A,n,c⟩) h
 obtain ⟨W,aG,E,B0⟩:=bx1 w 93 [.int .i64 e.prio,.int .i64 e.seq,.int .i64 e.run,.int .i64 e.task]
 have CI:=Lib.hid (M6 193 w.heap.size (fun x=>!Db x e) (Ks Tryz.func193 (by kernel_rfl) (by kernel_rfl)) l A l.length c _ (by omega) ((Hd h).below B0 |>.more B0.size) (fun W' x hW=>Aak x e w.heap.size W' (E.below hW)))
 have CC:=Lib.hid (fun W (hW:Below w.heap.size w W)=>Jn l ⟨A,l.length,c⟩ W (by omega) ((h.below hW).more hW.size))
 obtain ⟨k,hk,cG,hi⟩:=Abj l e
 replace cG:=Lib.hid cG
 have hEl:=E.lt
 go_enter Tryz.func137,Tryz.ntmps137
 go_wp2_with fail
 rw [<-aG.out]
 clear aG
 refine CI.out.mono ?_
 rintro e1 w1 ⟨rfl,b1⟩
 replace E:=E.below b1
 have B1:=Aa B0 b1
 clear CI b1 B0
 have qZ:Eo (fun x=>!Db x e) l = -1\/Eo (fun x=>!Db x e) l=(k:Int):=hi.imp (·.1) (·.1)
 clear qZ
 rcases hi with ⟨hi,hke⟩ | ⟨hi,hklt⟩
 rw [hke] at cG
 rw [hi]
 clear hi hk hke
 have hk:=Nat.le_refl l.length
 rotate_left
 rw [hi]
 have dG:¬ (k:Int)<0:=by omega
 clear hi hklt
 all_goals go_upto_region 4 with fail
 all_goals
  refine Go.wp_region_noPanic ?_
  refine wp_region_held_drew (S:=fun w'=>DBox w.heap.size [.int .i64 e.prio,.int .i64 e.seq,.int .i64 e.run,.int .i64 e.task] w') (by kernel_rfl) (DBox.drew4 E) (fun hHeld=>?_)
  replace E:=DBox.drew4 E
  have B2:=B1.drew
  generalize w1.drew=w2 at *
  refine tY 0 ?_
  (try simp only [pS])
  refine tY 2 ?_
  (try simp only [pS])
  refine tY 3 ?_
  (try simp only [pS])
  have aQ:=B2.size
  have hEl2:=E.lt
  refine Uq 1 4 rfl rfl (by kernel_rfl) (by rfl) (by rfl) (fun K_ hK=>?_) (fun K_ hK=>?_)
  ·go_simp
   refine (CC.out w2 B2).mono ?_
   rintro e3 w3 ⟨v3,rfl,o3,b3⟩
   refine hK.out _ _ (E.below b3) (fun hHeld=>?_)
   clear hK K_
   (try simp only [pS])
   refine rC 4 (fun K_ hK=>?_)
   go_simp
   have ba:Below w3.heap.size w3 (w3.alloc (.cells #[.int .i64 e.prio,.int .i64 e.seq,.int .i64 e.run,.int .i64 e.task] 93)):=(Below.refl _ _).alloc (Nat.le_refl _) _
   have hx:(w3.alloc (.cells #[.int .i64 e.prio,.int .i64 e.seq,.int .i64 e.run,.int .i64 e.task] 93)).heap[w3.heap.size]? = some (.cells (Az.cells e).toArray 93 (0,0)):=heap_alloc_new w3 _
   have ow:=o3.within
   replace o3:=o3.below ba
   have B4:=Aa B2 (Aa b3 ba)
   have E4:=E.below (Aa b3 ba)
   have fF:w3.heap.size<(w3.alloc (.cells #[.int .i64 e.prio,.int .i64 e.seq,.int .i64 e.run,.int .i64 e.task] 93)).heap.size:=by simp
   have bZ:=b3.size
   generalize w3.heap.size=xb at *
   generalize w3.alloc (.cells #[.int .i64 e.prio,.int .i64 e.seq,.int .i64 e.run,.int .i64 e.task] 93)=w4 at *
   refine hK.out _ _ E4 (fun hHeld=>?_)
   clear hK K_
   (try simp only [pS])
   refine rC 5 (fun K_ hK=>?_)
   go_simp
   refine (K7 v3 l _ xb e w2.heap.size w4 hk (by omega) o3 (by omega) hx (fun h=>by have:=(ow _ h).2;omega)).mono ?_
   rintro e5 w5 ⟨v5,rfl,o5,g5,-⟩
   rw [<-cG.out] at o5
   have B5:Below w.heap.size w w5:=B4.grown g5 B4.size (fun g hg=>by have:=(ow g hg).1;omega)
   refine hK.out _ _ (E4.off g5 (fun h=>by have:=(ow _ h.symm).1;omega)) (fun hHeld=>?_)
   clear hK K_
   (try simp only [pS])
   refine rC 6 (fun K_ hK=>?_)
   go_simp
   refine hK.out _ _ hHeld (fun hHeld=>?_)
   clear hK K_
   (try simp only [pS])
   refine wpAnyH_done (by kernel_rfl) ?_ _
   refine NoPanic.normal ?_
   obtain ⟨s9,F9,rfl,o9,n9⟩:=Ez (o5.more aQ)
   go_wp2
   go_ret
   exact ⟨s9,F9,rfl,o9,n9,B5⟩
  ·go_simp
   have ba:Below w2.heap.size w2 (w2.alloc (.cells #[.int .i64 e.prio,.int .i64 e.seq,.int .i64 e.run,.int .i64 e.task] 93)):=(Below.refl _ _).alloc (Nat.le_refl _) _
   have hx:(w2.alloc (.cells #[.int .i64 e.prio,.int .i64 e.seq,.int .i64 e.run,.int .i64 e.task] 93)).heap[w2.heap.size]? = some (.cells (Az.cells e).toArray 93 (0,0)):=heap_alloc_new w2 _
   have B3:=Aa B2 ba
   replace E:=E.below ba
   have fF:w2.heap.size<(w2.alloc (.cells #[.int .i64 e.prio,.int .i64 e.seq,.int .i64 e.run,.int .i64 e.task] 93)).heap.size:=by simp
   generalize w2.heap.size=xb at *
   generalize w2.alloc (.cells #[.int .i64 e.prio,.int .i64 e.seq,.int .i64 e.run,.int .i64 e.task] 93)=w3 at *
   refine hK.out _ _ E (fun hHeld=>?_)
   clear hK K_
   (try simp only [pS])
   refine rC 1 (fun K_ hK=>?_)
   go_simp
   refine (CC.out w3 B3).mono ?_
   rintro e3 w4 ⟨v3,rfl,o3,b4⟩
   replace hx:=(b4.block xb fF).trans hx
   have ow:=o3.within
   have B4:=Aa B3 b4
   have E4:=E.below b4
   have uD:=B3.size
   have hz4:=b4.size
   refine hK.out _ _ E4 (fun hHeld=>?_)
   clear hK K_
   (try simp only [pS])
   refine rC 5 (fun K_ hK=>?_)
   go_simp
   refine (K7 v3 l _ xb e w3.heap.size w4 hk (by omega) o3 (by omega) hx (fun h=>by have:=(ow _ h).1;omega)).mono ?_
   rintro e5 w5 ⟨v5,rfl,o5,g5,-⟩
   rw [<-cG.out] at o5
   have B5:Below w.heap.size w w5:=B4.grown g5 B4.size (fun g hg=>by have:=(ow g hg).1;omega)
   refine hK.out _ _ (E4.off g5 (fun h=>by have:=(ow _ h.symm).1;omega)) (fun hHeld=>?_)
   clear hK K_
   (try simp only [pS])
   refine rC 6 (fun K_ hK=>?_)
   go_simp
   refine hK.out _ _ hHeld (fun hHeld=>?_)
   clear hK K_
   (try simp only [pS])
   refine wpAnyH_done (by kernel_rfl) ?_ _
   refine NoPanic.normal ?_
   obtain ⟨s9,F9,rfl,o9,n9⟩:=Ez (o5.more uD)
   go_wp2
   go_ret
   exact ⟨s9,F9,rfl,o9,n9,B5⟩
def Ia:Plan:=⟨0,0,0,0,[]⟩
def Ec (d:Deed):Deed :=
 if d.kind=1 then ⟨d.kind,d.run,d.plan,0,0,0,0⟩
 else if d.kind=2 then ⟨d.kind,0,Ia,0,0,d.worker,d.draw⟩
 else if d.kind=3\/d.kind=4 then ⟨d.kind,d.run,Ia,d.task,d.try_,0,0⟩
 else if d.kind=6\/d.kind=7 then ⟨d.kind,d.run,Ia,0,0,0,0⟩
 else ⟨d.kind,0,Ia,0,0,0,0⟩
theorem DBox.drew {b:Nat} {cs:List Value} {w:World} (h:DBox b cs w):DBox b cs w.drew:=⟨h.cell,h.free,h.lt⟩
theorem DBox.row11 {b:Nat} {cs:List Value} {w:World} (h:DBox b cs w) (hn:cs.length=11) (u0 u1 u2 u3 u4 u5 u6 u7 u8 u9 u10:Value) :
  DBox b [u0,u1,u2,u3,u4,u5,u6,u7,u8,u9,u10] (((((((((((w.setCell ⟨b,0,none⟩ u0).setCell ⟨b,1,none⟩ u1).setCell ⟨b,2,none⟩ u2).setCell ⟨b,3,none⟩ u3).setCell ⟨b,4,none⟩ u4).setCell ⟨b,5,none⟩ u5).setCell ⟨b,6,none⟩ u6).setCell ⟨b,7,none⟩ u7).setCell ⟨b,8,none⟩ u8).setCell ⟨b,9,none⟩ u9).setCell ⟨b,10,none⟩ u10):=by
 obtain ⟨c0,c1,c2,c3,c4,c5,c6,c7,c8,c9,c10,rfl⟩:∃ c0 c1 c2 c3 c4 c5 c6 c7 c8 c9 c10,cs=[c0,c1,c2,c3,c4,c5,c6,c7,c8,c9,c10]:=by
  match cs,hn with
  | [c0,c1,c2,c3,c4,c5,c6,c7,c8,c9,c10],_=>exact ⟨c0,c1,c2,c3,c4,c5,c6,c7,c8,c9,c10,rfl⟩
 exact ((((((((((h.set 0 (by simp) u0).set 1 (by simp) u1).set 2 (by simp) u2).set 3 (by simp) u3).set 4 (by simp) u4).set 5 (by simp) u5).set 6 (by simp) u6).set 7 (by simp) u7).set 8 (by simp) u8).set 9 (by simp) u9).set 10 (by simp) u10
theorem Jo {b:Nat} {w:World} {u0 u1 u2 u3 u4 u5 u6 u7 u8 u9 u10:Value} (X:DBox b [u0,u1,u2,u3,u4,u5,u6,u7,u8,u9,u10] w) {v0 v1:Value} {rest:List Value} :
  (results Tryz.f106 (v0 :: v1 :: .pointer (some ⟨b,0,none⟩) :: rest).toArray).run Tryz.prog w = .ok (.agg #[u0,u1,u2,u3,u4,u5,u6,u7,u8,u9,u10]) w:=by
 have c0:=X.cell 0 _ rfl
 have c1:=X.cell 1 _ rfl
 have c2:=X.cell 2 _ rfl
 have c3:=X.cell 3 _ rfl
 have c4:=X.cell 4 _ rfl
 have c5:=X.cell 5 _ rfl
 have c6:=X.cell 6 _ rfl
 have c7:=X.cell 7 _ rfl
 have c8:=X.cell 8 _ rfl
 have c9:=X.cell 9 _ rfl
 have c10:=X.cell 10 _ rfl
 simp [results,Tryz.results106,go_sem,c0,c1,c2,c3,c4,c5,c6,c7,c8,c9,c10]
theorem Aal (d:Deed) (s:Sl) (w:World) (hk:d.kind=1) :
  Calls Tryz.prog 106 #[Bm d s] w fun e w'=>e = .returned (Bm (Ec d) (if d.kind=1 then s else ⟨none,0,0⟩))/\Below w.heap.size w w':=by
 obtain ⟨A,n,c⟩:=s
 obtain ⟨kd,rn,p,tk,ty,wk,dr⟩:=d
 obtain rfl:kd=1:=hk
 show Calls Tryz.prog 106 #[Bm ⟨1,rn,p,tk,ty,wk,dr⟩ ⟨A,n,c⟩] w fun e w'=>e = .returned (Bm (Ec ⟨1,rn,p,tk,ty,wk,dr⟩) (if (1:Int)=1 then (⟨A,n,c⟩:Sl) else ⟨none,0,0⟩))/\Below w.heap.size w w'
 rw [show Bm (Ec ⟨1,rn,p,tk,ty,wk,dr⟩) (if (1:Int)=1 then (⟨A,n,c⟩:Sl) else ⟨none,0,0⟩)=Bm ⟨1,rn,p,0,0,0,0⟩ ⟨A,n,c⟩ from rfl]
 obtain ⟨W,aG,X,R,Y,B0⟩:=bx3 w 45 [.int .i64 1,.int .i64 rn,.int .i64 p.prio,.int .i64 p.most,.int .i64 p.wait,.int .i64 p.tasks,.slice A n c,.int .i64 tk,.int .i64 ty,.int .i64 wk,.int .i64 dr] 45 [.int .i64 0,.int .i64 0,.int .i64 0,.int .i64 0,.int .i64 0,.int .i64 0,.slice none 0 0,.int .i64 0,.int .i64 0,.int .i64 0,.int .i64 0] 45 [.int .i64 1,.int .i64 0,.int .i64 0,.int .i64 0,.int .i64 0,.int .i64 0,.slice none 0 0,.int .i64 0,.int .i64 0,.int .i64 0,.int .i64 0]
 go_enter Tryz.func106,Tryz.ntmps106
 go_wp2
 rw [<-aG.out]
 clear aG
 obtain ⟨X_0,X_1,X_2,X_3,X_4,X_5,X_6,X_7,X_8,X_9,X_10,X_l⟩:=X.g11
 obtain ⟨Y_0,Y_1,Y_2,Y_3,Y_4,Y_5,Y_6,Y_7,Y_8,Y_9,Y_10,Y_l⟩:=Y.g11
 obtain ⟨R_0,R_1,R_2,R_3,R_4,R_5,R_6,R_7,R_8,R_9,R_10,R_l⟩:=R.g11
 have yf:=Y.free
 have rf:=R.free
 go_region
 have Y3:DBox (w.heap.size+1+1) [.int .i64 1,.int .i64 rn,.int .i64 p.prio,.int .i64 p.most,.int .i64 p.wait,.int .i64 p.tasks,.slice A n c,.int .i64 0,.int .i64 0,.int .i64 0,.int .i64 0] ((((((W.setCell ⟨w.heap.size+1+1,1,none⟩ (.int .i64 rn)).setCell ⟨w.heap.size+1+1,2,none⟩ (.int .i64 p.prio)).setCell ⟨w.heap.size+1+1,3,none⟩ (.int .i64 p.most)).setCell ⟨w.heap.size+1+1,4,none⟩ (.int .i64 p.wait)).setCell ⟨w.heap.size+1+1,5,none⟩ (.int .i64 p.tasks)).setCell ⟨w.heap.size+1+1,6,none⟩ (.slice A n c)).drew:=DBox.drew ((((((Y.set 1 (by simp) (.int .i64 rn)).set 2 (by simp) (.int .i64 p.prio)).set 3 (by simp) (.int .i64 p.most)).set 4 (by simp) (.int .i64 p.wait)).set 5 (by simp) (.int .i64 p.tasks)).set 6 (by simp) (.slice A n c))
 have R3:DBox (w.heap.size+1) [.int .i64 0,.int .i64 0,.int .i64 0,.int .i64 0,.int .i64 0,.int .i64 0,.slice none 0 0,.int .i64 0,.int .i64 0,.int .i64 0,.int .i64 0] ((((((W.setCell ⟨w.heap.size+1+1,1,none⟩ (.int .i64 rn)).setCell ⟨w.heap.size+1+1,2,none⟩ (.int .i64 p.prio)).setCell ⟨w.heap.size+1+1,3,none⟩ (.int .i64 p.most)).setCell ⟨w.heap.size+1+1,4,none⟩ (.int .i64 p.wait)).setCell ⟨w.heap.size+1+1,5,none⟩ (.int .i64 p.tasks)).setCell ⟨w.heap.size+1+1,6,none⟩ (.slice A n c)).drew:=DBox.drew ((((((R.setOther (a:=⟨w.heap.size+1+1,1,none⟩) (by simp) (.int .i64 rn)).setOther (a:=⟨w.heap.size+1+1,2,none⟩) (by simp) (.int .i64 p.prio)).setOther (a:=⟨w.heap.size+1+1,3,none⟩) (by simp) (.int .i64 p.most)).setOther (a:=⟨w.heap.size+1+1,4,none⟩) (by simp) (.int .i64 p.wait)).setOther (a:=⟨w.heap.size+1+1,5,none⟩) (by simp) (.int .i64 p.tasks)).setOther (a:=⟨w.heap.size+1+1,6,none⟩) (by simp) (.slice A n c))
 have B3:Below w.heap.size w ((((((W.setCell ⟨w.heap.size+1+1,1,none⟩ (.int .i64 rn)).setCell ⟨w.heap.size+1+1,2,none⟩ (.int .i64 p.prio)).setCell ⟨w.heap.size+1+1,3,none⟩ (.int .i64 p.most)).setCell ⟨w.heap.size+1+1,4,none⟩ (.int .i64 p.wait)).setCell ⟨w.heap.size+1+1,5,none⟩ (.int .i64 p.tasks)).setCell ⟨w.heap.size+1+1,6,none⟩ (.slice A n c)).drew:=Below.drew (Below.setCell (Below.setCell (Below.setCell (Below.setCell (Below.setCell (Below.setCell B0 (by simp<;>omega) (.int .i64 rn)) (by simp<;>omega) (.int .i64 p.prio)) (by simp<;>omega) (.int .i64 p.most)) (by simp<;>omega) (.int .i64 p.wait)) (by simp<;>omega) (.int .i64 p.tasks)) (by simp<;>omega) (.slice A n c))
 clear X_0 X_1 X_2 X_3 X_4 X_5 X_6 X_7 X_8 X_9 X_10 X_l
 clear Y_0 Y_1 Y_2 Y_3 Y_4 Y_5 Y_6 Y_7 Y_8 Y_9 Y_10 Y_l
 clear R_0 R_1 R_2 R_3 R_4 R_5 R_6 R_7 R_8 R_9 R_10 R_l
 clear X Y R yf rf B0
 generalize ((((((W.setCell ⟨w.heap.size+1+1,1,none⟩ (.int .i64 rn)).setCell ⟨w.heap.size+1+1,2,none⟩ (.int .i64 p.prio)).setCell ⟨w.heap.size+1+1,3,none⟩ (.int .i64 p.most)).setCell ⟨w.heap.size+1+1,4,none⟩ (.int .i64 p.wait)).setCell ⟨w.heap.size+1+1,5,none⟩ (.int .i64 p.tasks)).setCell ⟨w.heap.size+1+1,6,none⟩ (.slice A n c)).drew=W3 at *
 have Y:=Y3
 have R:=R3
 have B0:=B3
 clear Y3 R3 B3
 obtain ⟨Y_0,Y_1,Y_2,Y_3,Y_4,Y_5,Y_6,Y_7,Y_8,Y_9,Y_10,Y_l⟩:=Y.g11
 obtain ⟨R_0,R_1,R_2,R_3,R_4,R_5,R_6,R_7,R_8,R_9,R_10,R_l⟩:=R.g11
 have yf:=Y.free
 have rf:=R.free
 all_goals go_wp2
 all_goals refine bodyPost_ret (v:=Bm ⟨1,rn,p,0,0,0,0⟩ ⟨A,n,c⟩) (Jo (DBox.row11 (cs:=[.int .i64 0,.int .i64 0,.int .i64 0,.int .i64 0,.int .i64 0,.int .i64 0,.slice none 0 0,.int .i64 0,.int .i64 0,.int .i64 0,.int .i64 0]) ?_ rfl _ _ _ _ _ _ _ _ _ _ _)) rfl ⟨rfl,?_⟩
 all_goals repeat (first | (with_reducible exact B0) | (with_reducible exact R) | refine Below.setCell ?_ (by simp<;>omega) _ | refine DBox.setOther ?_ (by simp<;>omega) _)
theorem Aam (d:Deed) (s:Sl) (w:World) (hk:d.kind=2) :
  Calls Tryz.prog 106 #[Bm d s] w fun e w'=>e = .returned (Bm (Ec d) (if d.kind=1 then s else ⟨none,0,0⟩))/\Below w.heap.size w w':=by
 obtain ⟨A,n,c⟩:=s
 obtain ⟨kd,rn,p,tk,ty,wk,dr⟩:=d
 obtain rfl:kd=2:=hk
 show Calls Tryz.prog 106 #[Bm ⟨2,rn,p,tk,ty,wk,dr⟩ ⟨A,n,c⟩] w fun e w'=>e = .returned (Bm (Ec ⟨2,rn,p,tk,ty,wk,dr⟩) (if (2:Int)=1 then (⟨A,n,c⟩:Sl) else ⟨none,0,0⟩))/\Below w.heap.size w w'
 rw [show Bm (Ec ⟨2,rn,p,tk,ty,wk,dr⟩) (if (2:Int)=1 then (⟨A,n,c⟩:Sl) else ⟨none,0,0⟩)=Bm ⟨2,0,Ia,0,0,wk,dr⟩ ⟨none,0,0⟩ from rfl]
 obtain ⟨W,aG,X,R,Y,B0⟩:=bx3 w 45 [.int .i64 2,.int .i64 rn,.int .i64 p.prio,.int .i64 p.most,.int .i64 p.wait,.int .i64 p.tasks,.slice A n c,.int .i64 tk,.int .i64 ty,.int .i64 wk,.int .i64 dr] 45 [.int .i64 0,.int .i64 0,.int .i64 0,.int .i64 0,.int .i64 0,.int .i64 0,.slice none 0 0,.int .i64 0,.int .i64 0,.int .i64 0,.int .i64 0] 45 [.int .i64 2,.int .i64 0,.int .i64 0,.int .i64 0,.int .i64 0,.int .i64 0,.slice none 0 0,.int .i64 0,.int .i64 0,.int .i64 0,.int .i64 0]
 go_enter Tryz.func106,Tryz.ntmps106
 go_wp2
 rw [<-aG.out]
 clear aG
 obtain ⟨X_0,X_1,X_2,X_3,X_4,X_5,X_6,X_7,X_8,X_9,X_10,X_l⟩:=X.g11
 obtain ⟨Y_0,Y_1,Y_2,Y_3,Y_4,Y_5,Y_6,Y_7,Y_8,Y_9,Y_10,Y_l⟩:=Y.g11
 obtain ⟨R_0,R_1,R_2,R_3,R_4,R_5,R_6,R_7,R_8,R_9,R_10,R_l⟩:=R.g11
 have yf:=Y.free
 have rf:=R.free
 go_region
 have Y3:DBox (w.heap.size+1+1) [.int .i64 2,.int .i64 0,.int .i64 0,.int .i64 0,.int .i64 0,.int .i64 0,.slice none 0 0,.int .i64 0,.int .i64 0,.int .i64 wk,.int .i64 dr] ((W.setCell ⟨w.heap.size+1+1,9,none⟩ (.int .i64 wk)).setCell ⟨w.heap.size+1+1,10,none⟩ (.int .i64 dr)).drew:=DBox.drew ((Y.set 9 (by simp) (.int .i64 wk)).set 10 (by simp) (.int .i64 dr))
 have R3:DBox (w.heap.size+1) [.int .i64 0,.int .i64 0,.int .i64 0,.int .i64 0,.int .i64 0,.int .i64 0,.slice none 0 0,.int .i64 0,.int .i64 0,.int .i64 0,.int .i64 0] ((W.setCell ⟨w.heap.size+1+1,9,none⟩ (.int .i64 wk)).setCell ⟨w.heap.size+1+1,10,none⟩ (.int .i64 dr)).drew:=DBox.drew ((R.setOther (a:=⟨w.heap.size+1+1,9,none⟩) (by simp) (.int .i64 wk)).setOther (a:=⟨w.heap.size+1+1,10,none⟩) (by simp) (.int .i64 dr))
 have B3:Below w.heap.size w ((W.setCell ⟨w.heap.size+1+1,9,none⟩ (.int .i64 wk)).setCell ⟨w.heap.size+1+1,10,none⟩ (.int .i64 dr)).drew:=Below.drew (Below.setCell (Below.setCell B0 (by simp<;>omega) (.int .i64 wk)) (by simp<;>omega) (.int .i64 dr))
 clear X_0 X_1 X_2 X_3 X_4 X_5 X_6 X_7 X_8 X_9 X_10 X_l
 clear Y_0 Y_1 Y_2 Y_3 Y_4 Y_5 Y_6 Y_7 Y_8 Y_9 Y_10 Y_l
 clear R_0 R_1 R_2 R_3 R_4 R_5 R_6 R_7 R_8 R_9 R_10 R_l
 clear X Y R yf rf B0
 generalize ((W.setCell ⟨w.heap.size+1+1,9,none⟩ (.int .i64 wk)).setCell ⟨w.heap.size+1+1,10,none⟩ (.int .i64 dr)).drew=W3 at *
 have Y:=Y3
 have R:=R3
 have B0:=B3
 clear Y3 R3 B3
 obtain ⟨Y_0,Y_1,Y_2,Y_3,Y_4,Y_5,Y_6,Y_7,Y_8,Y_9,Y_10,Y_l⟩:=Y.g11
 obtain ⟨R_0,R_1,R_2,R_3,R_4,R_5,R_6,R_7,R_8,R_9,R_10,R_l⟩:=R.g11
 have yf:=Y.free
 have rf:=R.free
 all_goals go_wp2
 all_goals refine bodyPost_ret (v:=Bm ⟨2,0,Ia,0,0,wk,dr⟩ ⟨none,0,0⟩) (Jo (DBox.row11 (cs:=[.int .i64 0,.int .i64 0,.int .i64 0,.int .i64 0,.int .i64 0,.int .i64 0,.slice none 0 0,.int .i64 0,.int .i64 0,.int .i64 0,.int .i64 0]) ?_ rfl _ _ _ _ _ _ _ _ _ _ _)) rfl ⟨rfl,?_⟩
 all_goals repeat (first | (with_reducible exact B0) | (with_reducible exact R) | refine Below.setCell ?_ (by simp<;>omega) _ | refine DBox.setOther ?_ (by simp<;>omega) _)
theorem Aan (d:Deed) (s:Sl) (w:World) (hk:d.kind=3) :
  Calls Tryz.prog 106 #[Bm d s] w fun e w'=>e = .returned (Bm (Ec d) (if d.kind=1 then s else ⟨none,0,0⟩))/\Below w.heap.size w w':=by
 obtain ⟨A,n,c⟩:=s
 obtain ⟨kd,rn,p,tk,ty,wk,dr⟩:=d
 obtain rfl:kd=3:=hk
 show Calls Tryz.prog 106 #[Bm ⟨3,rn,p,tk,ty,wk,dr⟩ ⟨A,n,c⟩] w fun e w'=>e = .returned (Bm (Ec ⟨3,rn,p,tk,ty,wk,dr⟩) (if (3:Int)=1 then (⟨A,n,c⟩:Sl) else ⟨none,0,0⟩))/\Below w.heap.size w w'
 rw [show Bm (Ec ⟨3,rn,p,tk,ty,wk,dr⟩) (if (3:Int)=1 then (⟨A,n,c⟩:Sl) else ⟨none,0,0⟩)=Bm ⟨3,rn,Ia,tk,ty,0,0⟩ ⟨none,0,0⟩ from rfl]
 obtain ⟨W,aG,X,R,Y,B0⟩:=bx3 w 45 [.int .i64 3,.int .i64 rn,.int .i64 p.prio,.int .i64 p.most,.int .i64 p.wait,.int .i64 p.tasks,.slice A n c,.int .i64 tk,.int .i64 ty,.int .i64 wk,.int .i64 dr] 45 [.int .i64 0,.int .i64 0,.int .i64 0,.int .i64 0,.int .i64 0,.int .i64 0,.slice none 0 0,.int .i64 0,.int .i64 0,.int .i64 0,.int .i64 0] 45 [.int .i64 3,.int .i64 0,.int .i64 0,.int .i64 0,.int .i64 0,.int .i64 0,.slice none 0 0,.int .i64 0,.int .i64 0,.int .i64 0,.int .i64 0]
 go_enter Tryz.func106,Tryz.ntmps106
 go_wp2
 rw [<-aG.out]
 clear aG
 obtain ⟨X_0,X_1,X_2,X_3,X_4,X_5,X_6,X_7,X_8,X_9,X_10,X_l⟩:=X.g11
 obtain ⟨Y_0,Y_1,Y_2,Y_3,Y_4,Y_5,Y_6,Y_7,Y_8,Y_9,Y_10,Y_l⟩:=Y.g11
 obtain ⟨R_0,R_1,R_2,R_3,R_4,R_5,R_6,R_7,R_8,R_9,R_10,R_l⟩:=R.g11
 have yf:=Y.free
 have rf:=R.free
 go_region
 have Y3:DBox (w.heap.size+1+1) [.int .i64 3,.int .i64 rn,.int .i64 0,.int .i64 0,.int .i64 0,.int .i64 0,.slice none 0 0,.int .i64 tk,.int .i64 ty,.int .i64 0,.int .i64 0] (((W.setCell ⟨w.heap.size+1+1,1,none⟩ (.int .i64 rn)).setCell ⟨w.heap.size+1+1,7,none⟩ (.int .i64 tk)).setCell ⟨w.heap.size+1+1,8,none⟩ (.int .i64 ty)).drew:=DBox.drew (((Y.set 1 (by simp) (.int .i64 rn)).set 7 (by simp) (.int .i64 tk)).set 8 (by simp) (.int .i64 ty))
 have R3:DBox (w.heap.size+1) [.int .i64 0,.int .i64 0,.int .i64 0,.int .i64 0,.int .i64 0,.int .i64 0,.slice none 0 0,.int .i64 0,.int .i64 0,.int .i64 0,.int .i64 0] (((W.setCell ⟨w.heap.size+1+1,1,none⟩ (.int .i64 rn)).setCell ⟨w.heap.size+1+1,7,none⟩ (.int .i64 tk)).setCell ⟨w.heap.size+1+1,8,none⟩ (.int .i64 ty)).drew:=DBox.drew (((R.setOther (a:=⟨w.heap.size+1+1,1,none⟩) (by simp) (.int .i64 rn)).setOther (a:=⟨w.heap.size+1+1,7,none⟩) (by simp) (.int .i64 tk)).setOther (a:=⟨w.heap.size+1+1,8,none⟩) (by simp) (.int .i64 ty))
 have B3:Below w.heap.size w (((W.setCell ⟨w.heap.size+1+1,1,none⟩ (.int .i64 rn)).setCell ⟨w.heap.size+1+1,7,none⟩ (.int .i64 tk)).setCell ⟨w.heap.size+1+1,8,none⟩ (.int .i64 ty)).drew:=Below.drew (Below.setCell (Below.setCell (Below.setCell B0 (by simp<;>omega) (.int .i64 rn)) (by simp<;>omega) (.int .i64 tk)) (by simp<;>omega) (.int .i64 ty))
 clear X_0 X_1 X_2 X_3 X_4 X_5 X_6 X_7 X_8 X_9 X_10 X_l
 clear Y_0 Y_1 Y_2 Y_3 Y_4 Y_5 Y_6 Y_7 Y_8 Y_9 Y_10 Y_l
 clear R_0 R_1 R_2 R_3 R_4 R_5 R_6 R_7 R_8 R_9 R_10 R_l
 clear X Y R yf rf B0
 generalize (((W.setCell ⟨w.heap.size+1+1,1,none⟩ (.int .i64 rn)).setCell ⟨w.heap.size+1+1,7,none⟩ (.int .i64 tk)).setCell ⟨w.heap.size+1+1,8,none⟩ (.int .i64 ty)).drew=W3 at *
 have Y:=Y3
 have R:=R3
 have B0:=B3
 clear Y3 R3 B3
 obtain ⟨Y_0,Y_1,Y_2,Y_3,Y_4,Y_5,Y_6,Y_7,Y_8,Y_9,Y_10,Y_l⟩:=Y.g11
 obtain ⟨R_0,R_1,R_2,R_3,R_4,R_5,R_6,R_7,R_8,R_9,R_10,R_l⟩:=R.g11
 have yf:=Y.free
 have rf:=R.free
 all_goals go_wp2
 all_goals refine bodyPost_ret (v:=Bm ⟨3,rn,Ia,tk,ty,0,0⟩ ⟨none,0,0⟩) (Jo (DBox.row11 (cs:=[.int .i64 0,.int .i64 0,.int .i64 0,.int .i64 0,.int .i64 0,.int .i64 0,.slice none 0 0,.int .i64 0,.int .i64 0,.int .i64 0,.int .i64 0]) ?_ rfl _ _ _ _ _ _ _ _ _ _ _)) rfl ⟨rfl,?_⟩
 all_goals repeat (first | (with_reducible exact B0) | (with_reducible exact R) | refine Below.setCell ?_ (by simp<;>omega) _ | refine DBox.setOther ?_ (by simp<;>omega) _)
theorem Aao (d:Deed) (s:Sl) (w:World) (hk:d.kind=4) :
  Calls Tryz.prog 106 #[Bm d s] w fun e w'=>e = .returned (Bm (Ec d) (if d.kind=1 then s else ⟨none,0,0⟩))/\Below w.heap.size w w':=by
 obtain ⟨A,n,c⟩:=s
 obtain ⟨kd,rn,p,tk,ty,wk,dr⟩:=d
 obtain rfl:kd=4:=hk
 show Calls Tryz.prog 106 #[Bm ⟨4,rn,p,tk,ty,wk,dr⟩ ⟨A,n,c⟩] w fun e w'=>e = .returned (Bm (Ec ⟨4,rn,p,tk,ty,wk,dr⟩) (if (4:Int)=1 then (⟨A,n,c⟩:Sl) else ⟨none,0,0⟩))/\Below w.heap.size w w'
 rw [show Bm (Ec ⟨4,rn,p,tk,ty,wk,dr⟩) (if (4:Int)=1 then (⟨A,n,c⟩:Sl) else ⟨none,0,0⟩)=Bm ⟨4,rn,Ia,tk,ty,0,0⟩ ⟨none,0,0⟩ from rfl]
 obtain ⟨W,aG,X,R,Y,B0⟩:=bx3 w 45 [.int .i64 4,.int .i64 rn,.int .i64 p.prio,.int .i64 p.most,.int .i64 p.wait,.int .i64 p.tasks,.slice A n c,.int .i64 tk,.int .i64 ty,.int .i64 wk,.int .i64 dr] 45 [.int .i64 0,.int .i64 0,.int .i64 0,.int .i64 0,.int .i64 0,.int .i64 0,.slice none 0 0,.int .i64 0,.int .i64 0,.int .i64 0,.int .i64 0] 45 [.int .i64 4,.int .i64 0,.int .i64 0,.int .i64 0,.int .i64 0,.int .i64 0,.slice none 0 0,.int .i64 0,.int .i64 0,.int .i64 0,.int .i64 0]
 go_enter Tryz.func106,Tryz.ntmps106
 go_wp2
 rw [<-aG.out]
 clear aG
 obtain ⟨X_0,X_1,X_2,X_3,X_4,X_5,X_6,X_7,X_8,X_9,X_10,X_l⟩:=X.g11
 obtain ⟨Y_0,Y_1,Y_2,Y_3,Y_4,Y_5,Y_6,Y_7,Y_8,Y_9,Y_10,Y_l⟩:=Y.g11
 obtain ⟨R_0,R_1,R_2,R_3,R_4,R_5,R_6,R_7,R_8,R_9,R_10,R_l⟩:=R.g11
 have yf:=Y.free
 have rf:=R.free
 go_region
 have Y3:DBox (w.heap.size+1+1) [.int .i64 4,.int .i64 rn,.int .i64 0,.int .i64 0,.int .i64 0,.int .i64 0,.slice none 0 0,.int .i64 tk,.int .i64 ty,.int .i64 0,.int .i64 0] (((W.setCell ⟨w.heap.size+1+1,1,none⟩ (.int .i64 rn)).setCell ⟨w.heap.size+1+1,7,none⟩ (.int .i64 tk)).setCell ⟨w.heap.size+1+1,8,none⟩ (.int .i64 ty)).drew:=DBox.drew (((Y.set 1 (by simp) (.int .i64 rn)).set 7 (by simp) (.int .i64 tk)).set 8 (by simp) (.int .i64 ty))
 have R3:DBox (w.heap.size+1) [.int .i64 0,.int .i64 0,.int .i64 0,.int .i64 0,.int .i64 0,.int .i64 0,.slice none 0 0,.int .i64 0,.int .i64 0,.int .i64 0,.int .i64 0] (((W.setCell ⟨w.heap.size+1+1,1,none⟩ (.int .i64 rn)).setCell ⟨w.heap.size+1+1,7,none⟩ (.int .i64 tk)).setCell ⟨w.heap.size+1+1,8,none⟩ (.int .i64 ty)).drew:=DBox.drew (((R.setOther (a:=⟨w.heap.size+1+1,1,none⟩) (by simp) (.int .i64 rn)).setOther (a:=⟨w.heap.size+1+1,7,none⟩) (by simp) (.int .i64 tk)).setOther (a:=⟨w.heap.size+1+1,8,none⟩) (by simp) (.int .i64 ty))
 have B3:Below w.heap.size w (((W.setCell ⟨w.heap.size+1+1,1,none⟩ (.int .i64 rn)).setCell ⟨w.heap.size+1+1,7,none⟩ (.int .i64 tk)).setCell ⟨w.heap.size+1+1,8,none⟩ (.int .i64 ty)).drew:=Below.drew (Below.setCell (Below.setCell (Below.setCell B0 (by simp<;>omega) (.int .i64 rn)) (by simp<;>omega) (.int .i64 tk)) (by simp<;>omega) (.int .i64 ty))
 clear X_0 X_1 X_2 X_3 X_4 X_5 X_6 X_7 X_8 X_9 X_10 X_l
 clear Y_0 Y_1 Y_2 Y_3 Y_4 Y_5 Y_6 Y_7 Y_8 Y_9 Y_10 Y_l
 clear R_0 R_1 R_2 R_3 R_4 R_5 R_6 R_7 R_8 R_9 R_10 R_l
 clear X Y R yf rf B0
 generalize (((W.setCell ⟨w.heap.size+1+1,1,none⟩ (.int .i64 rn)).setCell ⟨w.heap.size+1+1,7,none⟩ (.int .i64 tk)).setCell ⟨w.heap.size+1+1,8,none⟩ (.int .i64 ty)).drew=W3 at *
 have Y:=Y3
 have R:=R3
 have B0:=B3
 clear Y3 R3 B3
 obtain ⟨Y_0,Y_1,Y_2,Y_3,Y_4,Y_5,Y_6,Y_7,Y_8,Y_9,Y_10,Y_l⟩:=Y.g11
 obtain ⟨R_0,R_1,R_2,R_3,R_4,R_5,R_6,R_7,R_8,R_9,R_10,R_l⟩:=R.g11
 have yf:=Y.free
 have rf:=R.free
 all_goals go_wp2
 all_goals refine bodyPost_ret (v:=Bm ⟨4,rn,Ia,tk,ty,0,0⟩ ⟨none,0,0⟩) (Jo (DBox.row11 (cs:=[.int .i64 0,.int .i64 0,.int .i64 0,.int .i64 0,.int .i64 0,.int .i64 0,.slice none 0 0,.int .i64 0,.int .i64 0,.int .i64 0,.int .i64 0]) ?_ rfl _ _ _ _ _ _ _ _ _ _ _)) rfl ⟨rfl,?_⟩
 all_goals repeat (first | (with_reducible exact B0) | (with_reducible exact R) | refine Below.setCell ?_ (by simp<;>omega) _ | refine DBox.setOther ?_ (by simp<;>omega) _)
theorem Aap (d:Deed) (s:Sl) (w:World) (hk:d.kind=6) :
  Calls Tryz.prog 106 #[Bm d s] w fun e w'=>e = .returned (Bm (Ec d) (if d.kind=1 then s else ⟨none,0,0⟩))/\Below w.heap.size w w':=by
 obtain ⟨A,n,c⟩:=s
 obtain ⟨kd,rn,p,tk,ty,wk,dr⟩:=d
 obtain rfl:kd=6:=hk
 show Calls Tryz.prog 106 #[Bm ⟨6,rn,p,tk,ty,wk,dr⟩ ⟨A,n,c⟩] w fun e w'=>e = .returned (Bm (Ec ⟨6,rn,p,tk,ty,wk,dr⟩) (if (6:Int)=1 then (⟨A,n,c⟩:Sl) else ⟨none,0,0⟩))/\Below w.heap.size w w'
 rw [show Bm (Ec ⟨6,rn,p,tk,ty,wk,dr⟩) (if (6:Int)=1 then (⟨A,n,c⟩:Sl) else ⟨none,0,0⟩)=Bm ⟨6,rn,Ia,0,0,0,0⟩ ⟨none,0,0⟩ from rfl]
 obtain ⟨W,aG,X,R,Y,B0⟩:=bx3 w 45 [.int .i64 6,.int .i64 rn,.int .i64 p.prio,.int .i64 p.most,.int .i64 p.wait,.int .i64 p.tasks,.slice A n c,.int .i64 tk,.int .i64 ty,.int .i64 wk,.int .i64 dr] 45 [.int .i64 0,.int .i64 0,.int .i64 0,.int .i64 0,.int .i64 0,.int .i64 0,.slice none 0 0,.int .i64 0,.int .i64 0,.int .i64 0,.int .i64 0] 45 [.int .i64 6,.int .i64 0,.int .i64 0,.int .i64 0,.int .i64 0,.int .i64 0,.slice none 0 0,.int .i64 0,.int .i64 0,.int .i64 0,.int .i64 0]
 go_enter Tryz.func106,Tryz.ntmps106
 go_upto_region 12 with fail
 rw [<-aG.out]
 clear aG
 obtain ⟨X_0,X_1,X_2,X_3,X_4,X_5,X_6,X_7,X_8,X_9,X_10,X_l⟩:=X.g11
 obtain ⟨Y_0,Y_1,Y_2,Y_3,Y_4,Y_5,Y_6,Y_7,Y_8,Y_9,Y_10,Y_l⟩:=Y.g11
 obtain ⟨R_0,R_1,R_2,R_3,R_4,R_5,R_6,R_7,R_8,R_9,R_10,R_l⟩:=R.g11
 have yf:=Y.free
 have rf:=R.free
 all_goals go_wp2
 all_goals refine bodyPost_ret (v:=Bm ⟨6,rn,Ia,0,0,0,0⟩ ⟨none,0,0⟩) (Jo (DBox.row11 (cs:=[.int .i64 0,.int .i64 0,.int .i64 0,.int .i64 0,.int .i64 0,.int .i64 0,.slice none 0 0,.int .i64 0,.int .i64 0,.int .i64 0,.int .i64 0]) ?_ rfl _ _ _ _ _ _ _ _ _ _ _)) rfl ⟨rfl,?_⟩
 all_goals repeat (first | (with_reducible exact B0) | (with_reducible exact R) | refine Below.setCell ?_ (by simp<;>omega) _ | refine DBox.setOther ?_ (by simp<;>omega) _)
theorem Aaq (d:Deed) (s:Sl) (w:World) (hk:d.kind=7) :
  Calls Tryz.prog 106 #[Bm d s] w fun e w'=>e = .returned (Bm (Ec d) (if d.kind=1 then s else ⟨none,0,0⟩))/\Below w.heap.size w w':=by
 obtain ⟨A,n,c⟩:=s
 obtain ⟨kd,rn,p,tk,ty,wk,dr⟩:=d
 obtain rfl:kd=7:=hk
 show Calls Tryz.prog 106 #[Bm ⟨7,rn,p,tk,ty,wk,dr⟩ ⟨A,n,c⟩] w fun e w'=>e = .returned (Bm (Ec ⟨7,rn,p,tk,ty,wk,dr⟩) (if (7:Int)=1 then (⟨A,n,c⟩:Sl) else ⟨none,0,0⟩))/\Below w.heap.size w w'
 rw [show Bm (Ec ⟨7,rn,p,tk,ty,wk,dr⟩) (if (7:Int)=1 then (⟨A,n,c⟩:Sl) else ⟨none,0,0⟩)=Bm ⟨7,rn,Ia,0,0,0,0⟩ ⟨none,0,0⟩ from rfl]
 obtain ⟨W,aG,X,R,Y,B0⟩:=bx3 w 45 [.int .i64 7,.int .i64 rn,.int .i64 p.prio,.int .i64 p.most,.int .i64 p.wait,.int .i64 p.tasks,.slice A n c,.int .i64 tk,.int .i64 ty,.int .i64 wk,.int .i64 dr] 45 [.int .i64 0,.int .i64 0,.int .i64 0,.int .i64 0,.int .i64 0,.int .i64 0,.slice none 0 0,.int .i64 0,.int .i64 0,.int .i64 0,.int .i64 0] 45 [.int .i64 7,.int .i64 0,.int .i64 0,.int .i64 0,.int .i64 0,.int .i64 0,.slice none 0 0,.int .i64 0,.int .i64 0,.int .i64 0,.int .i64 0]
 go_enter Tryz.func106,Tryz.ntmps106
 go_upto_region 12 with fail
 rw [<-aG.out]
 clear aG
 obtain ⟨X_0,X_1,X_2,X_3,X_4,X_5,X_6,X_7,X_8,X_9,X_10,X_l⟩:=X.g11
 obtain ⟨Y_0,Y_1,Y_2,Y_3,Y_4,Y_5,Y_6,Y_7,Y_8,Y_9,Y_10,Y_l⟩:=Y.g11
 obtain ⟨R_0,R_1,R_2,R_3,R_4,R_5,R_6,R_7,R_8,R_9,R_10,R_l⟩:=R.g11
 have yf:=Y.free
 have rf:=R.free
 all_goals go_wp2
 all_goals refine bodyPost_ret (v:=Bm ⟨7,rn,Ia,0,0,0,0⟩ ⟨none,0,0⟩) (Jo (DBox.row11 (cs:=[.int .i64 0,.int .i64 0,.int .i64 0,.int .i64 0,.int .i64 0,.int .i64 0,.slice none 0 0,.int .i64 0,.int .i64 0,.int .i64 0,.int .i64 0]) ?_ rfl _ _ _ _ _ _ _ _ _ _ _)) rfl ⟨rfl,?_⟩
 all_goals repeat (first | (with_reducible exact B0) | (with_reducible exact R) | refine Below.setCell ?_ (by simp<;>omega) _ | refine DBox.setOther ?_ (by simp<;>omega) _)
theorem Aar (d:Deed) (s:Sl) (w:World) (k1:(d.kind == 1)=false) (k2:(d.kind == 2)=false) (k3:(d.kind == 3)=false) (k4:(d.kind == 4)=false) (k6:(d.kind == 6)=false) (k7:(d.kind == 7)=false) :
  Calls Tryz.prog 106 #[Bm d s] w fun e w'=>e = .returned (Bm (Ec d) (if d.kind=1 then s else ⟨none,0,0⟩))/\Below w.heap.size w w':=by
 obtain ⟨A,n,c⟩:=s
 obtain ⟨kd,rn,p,tk,ty,wk,dr⟩:=d
 replace k1:(kd == 1)=false:=k1
 replace k2:(kd == 2)=false:=k2
 replace k3:(kd == 3)=false:=k3
 replace k4:(kd == 4)=false:=k4
 replace k6:(kd == 6)=false:=k6
 replace k7:(kd == 7)=false:=k7
 show Calls Tryz.prog 106 #[Bm ⟨kd,rn,p,tk,ty,wk,dr⟩ ⟨A,n,c⟩] w fun e w'=>e = .returned (Bm (Ec ⟨kd,rn,p,tk,ty,wk,dr⟩) (if (kd:Int)=1 then (⟨A,n,c⟩:Sl) else ⟨none,0,0⟩))/\Below w.heap.size w w'
 rw [show Bm (Ec ⟨kd,rn,p,tk,ty,wk,dr⟩) (if (kd:Int)=1 then (⟨A,n,c⟩:Sl) else ⟨none,0,0⟩)=Bm ⟨kd,0,Ia,0,0,0,0⟩ ⟨none,0,0⟩ from by simp only [beq_eq_false_iff_ne] at k1 k2 k3 k4 k6 k7;simp [Ec,k1,k2,k3,k4,k6,k7]]
 obtain ⟨W,aG,X,R,Y,B0⟩:=bx3 w 45 [.int .i64 kd,.int .i64 rn,.int .i64 p.prio,.int .i64 p.most,.int .i64 p.wait,.int .i64 p.tasks,.slice A n c,.int .i64 tk,.int .i64 ty,.int .i64 wk,.int .i64 dr] 45 [.int .i64 0,.int .i64 0,.int .i64 0,.int .i64 0,.int .i64 0,.int .i64 0,.slice none 0 0,.int .i64 0,.int .i64 0,.int .i64 0,.int .i64 0] 45 [.int .i64 kd,.int .i64 0,.int .i64 0,.int .i64 0,.int .i64 0,.int .i64 0,.slice none 0 0,.int .i64 0,.int .i64 0,.int .i64 0,.int .i64 0]
 go_enter Tryz.func106,Tryz.ntmps106
 go_upto_region 13 with fail
 rw [<-aG.out]
 clear aG
 obtain ⟨X_0,X_1,X_2,X_3,X_4,X_5,X_6,X_7,X_8,X_9,X_10,X_l⟩:=X.g11
 obtain ⟨Y_0,Y_1,Y_2,Y_3,Y_4,Y_5,Y_6,Y_7,Y_8,Y_9,Y_10,Y_l⟩:=Y.g11
 obtain ⟨R_0,R_1,R_2,R_3,R_4,R_5,R_6,R_7,R_8,R_9,R_10,R_l⟩:=R.g11
 have yf:=Y.free
 have rf:=R.free
 all_goals go_wp2
 all_goals refine bodyPost_ret (v:=Bm ⟨kd,0,Ia,0,0,0,0⟩ ⟨none,0,0⟩) (Jo (DBox.row11 (cs:=[.int .i64 0,.int .i64 0,.int .i64 0,.int .i64 0,.int .i64 0,.int .i64 0,.slice none 0 0,.int .i64 0,.int .i64 0,.int .i64 0,.int .i64 0]) ?_ rfl _ _ _ _ _ _ _ _ _ _ _)) rfl ⟨rfl,?_⟩
 all_goals repeat (first | (with_reducible exact B0) | (with_reducible exact R) | refine Below.setCell ?_ (by simp<;>omega) _ | refine DBox.setOther ?_ (by simp<;>omega) _)
def Fk (y:Yard) (was r:Run) (n:Nat):Yard:=(K8 was r n).foldl (fun y t=>Jm y r t) y
theorem Xa {y:Yard} {was r:Run} {n:Nat} (h1:(Ax r n).state=2) (h2:¬ (Ax was n).state=2):Fk y was r (n+1)=Jm (Fk y was r n) r n:=by
 unfold Fk
 rw [Rp,if_pos ⟨h1,h2⟩,List.foldl_append]
 rfl
theorem Zq {y:Yard} {was r:Run} {n:Nat} (h:¬ ((Ax r n).state=2 /\ ¬ (Ax was n).state=2)):Fk y was r (n+1)=Fk y was r n:=by
 unfold Fk
 rw [Rp,if_neg h,List.append_nil]
theorem Aas (was r:Run) (n:Nat):(K8 was r n).length<=n:=by
 unfold K8
 exact Nat.le_trans (List.length_filter_le _ _) (by simp)
theorem Kt (r:Run) (M:Nat):∀ (l:List Nat) (y:Yard),(∀ s∈y.shelf,s.length<=M) -> ∀ s∈(l.foldl (fun y t=>Jm y r t) y).shelf,s.length<=M+l.length
 | [],y,h=>fun s hs=>by simpa using h s hs
 | t :: l,y,h=>fun s hs=>by
  have h1:∀ s∈(Jm y r t).shelf,s.length<=M+1:=by
   intro s hs
   unfold Jm at hs
   rcases List.mem_or_eq_of_mem_set hs with h2 | h2
   ·exact Nat.le_succ_of_le (h s h2)
   ·subst h2
    rw [Wr,List.getD_eq_getElem?_getD]
    cases q:y.shelf[Bd r.id]? with
    | none=>simp
    | some z=>have:=h z (List.mem_of_getElem? q);simp;omega
  have:=Kt r (M+1) l (Jm y r t) h1 s hs
  rw [List.length_cons]
  omega
structure LayF (y:Yard) (r:Run) (M n:Nat) (z:Yard):Prop where
 now:z.now=y.now
 runs:z.runs=y.runs
 len:z.shelf.length=y.shelf.length
 seq:y.seq<=z.seq/\z.seq<=y.seq+n
 all:∀ s∈z.shelf,s.length<=M+n
theorem M8 {y:Yard} {was r:Run} {M:Nat} (hM:∀ s∈y.shelf,s.length<=M) (n:Nat):LayF y r M n (Fk y was r n):=by
 obtain ⟨h1,h2,h3,h4⟩:=Nn r (K8 was r n) y
 have h5:=Aas was r n
 exact ⟨h1,h2,h3,by unfold Fk;rw [h4];omega,fun s hs=>Nat.le_trans (Kt r M (K8 was r n) y hM s hs) (by omega)⟩
theorem Chg.high {F:List Nat} {a b:World} (h:Chg F a b) {g:Nat} (hg:a.heap.size<=g) (o:Nat) (u:Value):Chg F a (b.setCell ⟨g,o,none⟩ u) :=
 ⟨h.os,h.tape,h.output,by simp [World.setCell];exact h.size,fun i hi hn=>(Below.heap_setCell b ⟨g,o,none⟩ u i (by show i≠g;omega)).trans (h.block i hi hn)⟩
theorem Chg.drew {F:List Nat} {a b:World} (h:Chg F a b):Chg F a b.drew:=⟨h.os,h.tape,h.output,h.size,h.block⟩
def Ab2 (z:Yard) (g o cs n:Nat) (R:Sl) (Fs:List Nat) (w:World) (e:Ending) (w':World):Prop :=
 ∃ F',e = .returned (By z (⟨some ⟨g,o,none⟩,n,cs⟩,R))/\OwL (Dt.list Af) w' F' (.slice (some ⟨g,o,none⟩) n cs) z.shelf/\(∀ x∈F',x∈Fs\/w.heap.size<=x)/\Chg [g] w w'
theorem OwL.free0 {α:Type} {d:Dt α} {w:World} {F:List Nat} {b o n c:Nat} {l:List α} (h:OwL d w F (.slice (some ⟨b,o,none⟩) n c) l) (hp:0<l.length):∀ j,w.frozen? ⟨b,j,none⟩=false:=by
 obtain ⟨rs,H,G,hm,hh,ho,rfl,hn⟩:=h
 have jX:0<rs.length:=by rw [<-hm,List.length_map] at hp;exact hp
 obtain ⟨b',o',hA,rfl,mE,hf⟩:=hh.at_ jX
 simp only [Option.some.injEq,Addr.mk.injEq,and_true] at hA
 obtain ⟨rfl,rfl⟩:=hA
 exact hf
theorem Ab3 {b:Nat} {w:World} {u0 u1 u2 u3:Value} (X:DBox b [u0,u1,u2,u3] w) {v0 v1 v2 v3 v4 v5:Value} {rest:List Value} :
  (results Tryz.f202 (v0 :: v1 :: v2 :: v3 :: v4 :: v5 :: .pointer (some ⟨b,0,none⟩) :: rest).toArray).run Tryz.prog w = .ok (.agg #[u0,u1,u2,u3]) w:=by
 have c0:=X.cell 0 _ rfl
 have c1:=X.cell 1 _ rfl
 have c2:=X.cell 2 _ rfl
 have c3:=X.cell 3 _ rfl
 simp [results,Tryz.results202,go_sem,c0,c1,c2,c3]
theorem Pa (y:Yard) (g o cs:Nat) (R:Sl) (was:Run) (sw:Sl×Sl) (r:Run) (sr:Sl×Sl) (w:World) (Fs:List Nat) (h4:y.shelf.length=4) (hM:∀ s∈y.shelf,s.length<=1000000) (hq:0<=y.seq/\y.seq<=2000000000) (hT:r.tasks.length<=1000) (qG:was.tasks.length<=1000)
  (hs:OwL (Dt.list Af) w Fs (.slice (some ⟨g,o,none⟩) y.shelf.length cs) y.shelf)
  (HR:Hid (∀ W,Chg [g] w W->RdL Cv W W.heap.size (.slice sr.2.a sr.2.n sr.2.c) r.tasks)) (HW:Hid (∀ W,Chg [g] w W->RdL Cv W W.heap.size (.slice sw.2.a sw.2.n sw.2.c) was.tasks)) :
  Calls Tryz.prog 202 #[By y (⟨some ⟨g,o,none⟩,y.shelf.length,cs⟩,R),Ey was sw,Ey r sr] w (Ab2 (Kr y was r) g o cs y.shelf.length R Fs w):=by
 have eF:g<w.heap.size:=by
  obtain ⟨b,o',s,hA,hb,_⟩:=hs.rd.entryS (k:=0) (by omega)
  simp only [Option.some.injEq,Addr.mk.injEq,and_true] at hA
  omega
 have gS:=Lib.hid hs.lt
 have qV:Bd r.id<y.shelf.length:=by rw [h4];exact Rn _
 obtain ⟨⟨ea,en,ec⟩,⟨ta,tn,tc⟩⟩:=sr
 obtain ⟨⟨ea',en',ec'⟩,⟨ta',tn',tc'⟩⟩:=sw
 have htn:tn=r.tasks.length:=RdL.at1 (s:=⟨ta,tn,tc⟩) (HR.out w (Chg.refl _ _))
 have htn':tn'=was.tasks.length:=RdL.at1 (s:=⟨ta',tn',tc'⟩) (HW.out w (Chg.refl _ _))
 subst htn htn'
 replace h4:=Lib.hid h4
 have Y:=(((DBox.new 31 [.int .i64 y.now,.int .i64 y.seq,.slice (some ⟨g,o,none⟩) y.shelf.length cs,.slice R.a R.n R.c] w (b:=w.heap.size) rfl).below ((Below.refl _ _).alloc (Nat.le_refl _) (.cells #[.int .i64 was.id,.int .i64 was.plan.prio,.int .i64 was.plan.most,.int .i64 was.plan.wait,.int .i64 was.plan.tasks,.slice ea' en' ec',.int .i64 was.state,.slice ta' was.tasks.length tc'] 89))).below ((Below.refl _ _).alloc (Nat.le_refl _) (.cells #[.int .i64 r.id,.int .i64 r.plan.prio,.int .i64 r.plan.most,.int .i64 r.plan.wait,.int .i64 r.plan.tasks,.slice ea en ec,.int .i64 r.state,.slice ta r.tasks.length tc] 89))).below ((Below.refl _ _).alloc (Nat.le_refl _) (.cells #[.int .i64 0,.int .i64 0,.slice none 0 0,.slice none 0 0] 31))
 have WB:=((DBox.new 89 [.int .i64 was.id,.int .i64 was.plan.prio,.int .i64 was.plan.most,.int .i64 was.plan.wait,.int .i64 was.plan.tasks,.slice ea' en' ec',.int .i64 was.state,.slice ta' was.tasks.length tc'] (w.alloc (.cells #[.int .i64 y.now,.int .i64 y.seq,.slice (some ⟨g,o,none⟩) y.shelf.length cs,.slice R.a R.n R.c] 31)) (b:=w.heap.size+1) (by simp)).below ((Below.refl _ _).alloc (Nat.le_refl _) (.cells #[.int .i64 r.id,.int .i64 r.plan.prio,.int .i64 r.plan.most,.int .i64 r.plan.wait,.int .i64 r.plan.tasks,.slice ea en ec,.int .i64 r.state,.slice ta r.tasks.length tc] 89))).below ((Below.refl _ _).alloc (Nat.le_refl _) (.cells #[.int .i64 0,.int .i64 0,.slice none 0 0,.slice none 0 0] 31))
 have RB:=(DBox.new 89 [.int .i64 r.id,.int .i64 r.plan.prio,.int .i64 r.plan.most,.int .i64 r.plan.wait,.int .i64 r.plan.tasks,.slice ea en ec,.int .i64 r.state,.slice ta r.tasks.length tc] ((w.alloc (.cells #[.int .i64 y.now,.int .i64 y.seq,.slice (some ⟨g,o,none⟩) y.shelf.length cs,.slice R.a R.n R.c] 31)).alloc (.cells #[.int .i64 was.id,.int .i64 was.plan.prio,.int .i64 was.plan.most,.int .i64 was.plan.wait,.int .i64 was.plan.tasks,.slice ea' en' ec',.int .i64 was.state,.slice ta' was.tasks.length tc'] 89)) (b:=w.heap.size+1+1) (by simp)).below ((Below.refl _ _).alloc (Nat.le_refl _) (.cells #[.int .i64 0,.int .i64 0,.slice none 0 0,.slice none 0 0] 31))
 have RES:=DBox.new 31 [.int .i64 0,.int .i64 0,.slice none 0 0,.slice none 0 0] (((w.alloc (.cells #[.int .i64 y.now,.int .i64 y.seq,.slice (some ⟨g,o,none⟩) y.shelf.length cs,.slice R.a R.n R.c] 31)).alloc (.cells #[.int .i64 was.id,.int .i64 was.plan.prio,.int .i64 was.plan.most,.int .i64 was.plan.wait,.int .i64 was.plan.tasks,.slice ea' en' ec',.int .i64 was.state,.slice ta' was.tasks.length tc'] 89)).alloc (.cells #[.int .i64 r.id,.int .i64 r.plan.prio,.int .i64 r.plan.most,.int .i64 r.plan.wait,.int .i64 r.plan.tasks,.slice ea en ec,.int .i64 r.state,.slice ta r.tasks.length tc] 89)) (b:=w.heap.size+1+1+1) (by simp)
 have B0:Below w.heap.size w ((((w.alloc (.cells #[.int .i64 y.now,.int .i64 y.seq,.slice (some ⟨g,o,none⟩) y.shelf.length cs,.slice R.a R.n R.c] 31)).alloc (.cells #[.int .i64 was.id,.int .i64 was.plan.prio,.int .i64 was.plan.most,.int .i64 was.plan.wait,.int .i64 was.plan.tasks,.slice ea' en' ec',.int .i64 was.state,.slice ta' was.tasks.length tc'] 89)).alloc (.cells #[.int .i64 r.id,.int .i64 r.plan.prio,.int .i64 r.plan.most,.int .i64 r.plan.wait,.int .i64 r.plan.tasks,.slice ea en ec,.int .i64 r.state,.slice ta r.tasks.length tc] 89)).alloc (.cells #[.int .i64 0,.int .i64 0,.slice none 0 0,.slice none 0 0] 31)):=by repeat (first | exact Below.refl _ _ | refine Below.alloc ?_ (by simp<;>omega) _)
 go_enter Tryz.func202,Tryz.ntmps202
 go_wp2_with (go_at_call 238;refine (Pz r.id _).mono ?_;rintro e w1 ⟨rfl,b1⟩)
 replace Y:=Y.below b1
 replace WB:=WB.below b1
 replace RB:=RB.below b1
 replace RES:=RES.below b1
 replace B0:=Aa B0 b1
 clear b1
 generalize By y (⟨some ⟨g,o,none⟩,y.shelf.length,cs⟩,R)=yv
 generalize Ey was (⟨ea',en',ec'⟩,⟨ta',was.tasks.length,tc'⟩)=wv
 generalize Ey r (⟨ea,en,ec⟩,⟨ta,r.tasks.length,tc⟩)=rv
 have C0:=Chg.of_below [g] B0
 have sZ:=hs.below B0
 go_loopw [8] (fun i wr=>∃ (n:Nat) (F:List Nat),n<=r.tasks.length/\i = .int .i64 n/\Hid (OwL (Dt.list Af) wr F (.slice (some ⟨g,o,none⟩) y.shelf.length cs) (Fk y was r n).shelf/\(∀ x∈F,x∈Fs\/w.heap.size+4<=x))/\DBox w.heap.size [.int .i64 y.now,.int .i64 (Fk y was r n).seq,.slice (some ⟨g,o,none⟩) y.shelf.length cs,.slice R.a R.n R.c] wr/\DBox (w.heap.size+1) [.int .i64 was.id,.int .i64 was.plan.prio,.int .i64 was.plan.most,.int .i64 was.plan.wait,.int .i64 was.plan.tasks,.slice ea' en' ec',.int .i64 was.state,.slice ta' was.tasks.length tc'] wr/\DBox (w.heap.size+1+1) [.int .i64 r.id,.int .i64 r.plan.prio,.int .i64 r.plan.most,.int .i64 r.plan.wait,.int .i64 r.plan.tasks,.slice ea en ec,.int .i64 r.state,.slice ta r.tasks.length tc] wr/\DBox (w.heap.size+1+1+1) [.int .i64 0,.int .i64 0,.slice none 0 0,.slice none 0 0] wr/\Chg [g] w wr) (fun i _=>r.tasks.length - (intOf i).toNat)
 case atStart=>exact ⟨0,Fs,Nat.zero_le _,rfl,⟨sZ,fun x hx=>.inl hx⟩,Y,WB,RB,RES,C0⟩
 case round =>
  clear Y WB RB RES C0 sZ B0
  obtain ⟨n,F,hn,rfl,hO,Y,WB,RB,RES,hb⟩:=hrel
  have hf:=M8 (was:=was) (r:=r) hM n
  obtain ⟨Y_0,Y_1,Y_2,Y_3,Y_l⟩:=Y.g4
  obtain ⟨WB_0,WB_1,WB_2,WB_3,WB_4,WB_5,WB_6,WB_7,WB_l⟩:=WB.g8
  obtain ⟨RB_0,RB_1,RB_2,RB_3,RB_4,RB_5,RB_6,RB_7,RB_l⟩:=RB.g8
  obtain ⟨RES_0,RES_1,RES_2,RES_3,RES_l⟩:=RES.g4
  by_cases aA:n<r.tasks.length
  case neg =>
   have aB:¬ (n:Int)<(r.tasks.length:Int):=by omega
   obtain rfl:n=r.tasks.length:=by omega
   have HE:Hid (Fk y was r r.tasks.length=Kr y was r):=rfl
   have rf:=RES.free
   go_wp2
   have R4:=DBox.row4 RES rfl (.int .i64 y.now) (.int .i64 (Fk y was r r.tasks.length).seq) (.slice (some ⟨g,o,none⟩) y.shelf.length cs) (.slice R.a R.n R.c)
   refine bodyPost_ret (Ab3 R4) rfl ⟨F,?_,?_,?_,?_⟩
   ·rw [<-HE.out,<-hf.now]
   ·rw [<-HE.out]
    have hn3:w.heap.size+1+1+1∉F:=fun hx=>by rcases hO.out.2 _ hx with h | h;(have:=gS.out _ h;omega);omega
    exact (((hO.out.1.set (a:=⟨_,_,none⟩) hn3 _).set (a:=⟨_,_,none⟩) hn3 _).set (a:=⟨_,_,none⟩) hn3 _).set (a:=⟨_,_,none⟩) hn3 _
   ·exact fun x hx=>(hO.out.2 x hx).imp id (fun h=>by omega)
   ·exact (((hb.high (by omega) _ _).high (by omega) _ _).high (by omega) _ _).high (by omega) _ _
  have aB:(n:Int)<(r.tasks.length:Int):=by omega
  have tU:(0:Int)<=(n:Int):=by omega
  obtain ⟨b1,o1,_,rfl,aH,_,c0,-,-,-⟩:=(HR.out wr hb).task aA
  have ht:=Lib.hid (Aw aA)
  by_cases q1:r.tasks[n].state=2
  case neg =>
   have q2:(r.tasks[n].state != 2)=true:=by simp [q1]
   have aE:=Lib.hid (Zq (y:=y) (was:=was) (r:=r) (n:=n) (fun h=>by rw [ht.out] at h;exact q1 h.1))
   clear q1
   go_wp2
   exact ⟨⟨n+1,F,by omega,by go_num,by rw [aE.out];exact hO,by rw [aE.out];exact Y,WB,RB,RES,hb⟩,by simp [intOf];omega⟩
  have q2:(r.tasks[n].state != 2)=false:=by simp [q1]
  have tR:=Lib.hid (show (Ax r n).state=2 by rw [ht.out];exact q1)
  clear q1
  by_cases rP:n<was.tasks.length
  ·have hlwI:(n:Int)<(was.tasks.length:Int):=by omega
   obtain ⟨b2,o2,_,rfl,kF,_,d0,-,-,-⟩:=(HW.out wr hb).task rP
   have tG:=Lib.hid (Aw rP)
   by_cases q3:was.tasks[n].state=2
   ·have q4:(was.tasks[n].state == 2)=true:=by simp [q3]
    have aE:=Lib.hid (Zq (y:=y) (was:=was) (r:=r) (n:=n) (fun h=>by rw [tG.out] at h;exact h.2 q3))
    clear q3
    go_wp2
    exact ⟨⟨n+1,F,by omega,by go_num,by rw [aE.out];exact hO,by rw [aE.out];exact Y,WB,RB,RES,hb⟩,by simp [intOf];omega⟩
   ·have q4:(was.tasks[n].state == 2)=false:=by simp [q3]
    have aE:=Lib.hid (Xa (y:=y) tR.out (show ¬ (Ax was n).state=2 by rw [tG.out];exact q3))
    clear q3
    have kC:Bd r.id<(Fk y was r n).shelf.length:=by rw [hf.len];exact qV
    obtain ⟨b9,o9,sk,cQ,hbb9,cA,ck⟩:=hO.out.1.rd.entryS kC
    simp only [Option.some.injEq,Addr.mk.injEq,and_true] at cQ
    obtain ⟨rfl,rfl⟩:=cQ
    have fY:((Bd r.id:Nat):Int)<(y.shelf.length:Int):=by omega
    have dG:(0:Int)<=((Bd r.id:Nat):Int):=by omega
    have pX:(Fk y was r n).shelf[Bd r.id].length<=2000000:=by have:=hf.all _ (List.getElem_mem kC);omega
    have cV:=Lib.hid (show (Fk y was r n).shelf.getD (Bd r.id) []=(Fk y was r n).shelf[Bd r.id] by rw [List.getD_eq_getElem?_getD,List.getElem?_eq_getElem kC];rfl)
    have fK:=hO.out.1.free0 (by omega)
    have CP:=Lib.hid (Ik (Fk y was r n).shelf[Bd r.id] sk ⟨r.plan.prio,(Fk y was r n).seq,r.id,n⟩ wr.drew pX (cA.below (Below.refl _ _).drew))
    go_wp2
    refine Bj (fun w'=>w'.cell? ⟨w.heap.size,1,none⟩=some (.int .i64 (Fk y was r n).seq)/\w'.cell? ⟨w.heap.size,2,none⟩=some (.slice (some ⟨g,o,none⟩) y.shelf.length cs)/\w'.cell? ⟨w.heap.size+1+1,0,none⟩=some (.int .i64 r.id)/\w'.cell? ⟨w.heap.size+1+1,1,none⟩=some (.int .i64 r.plan.prio)/\w'.cell? ⟨g,o+Bd r.id,none⟩=some (.slice sk.a sk.n sk.c)) 19 (by kernel_rfl) ?_ (fun hHeld=>?_)
    ·exact ⟨Y_1,Y_2,RB_0,RB_1,ck⟩
    refine aT 0 hHeld ?_
    try simp only [pS]
    refine aT 1 hHeld ?_
    try simp only [pS]
    refine aT 2 hHeld ?_
    try simp only [pS]
    refine aT 3 hHeld ?_
    try simp only [pS]
    refine aT 4 hHeld ?_
    try simp only [pS]
    refine aT 5 hHeld ?_
    try simp only [pS]
    refine aT 6 hHeld ?_
    try simp only [pS]
    refine aT 7 hHeld ?_
    try simp only [pS]
    refine aT 8 hHeld ?_
    try simp only [pS]
    refine aT 9 hHeld ?_
    try simp only [pS]
    refine aT 10 hHeld ?_
    try simp only [pS]
    refine aT 11 hHeld ?_
    try simp only [pS]
    refine aT 12 hHeld ?_
    try simp only [pS]
    refine aT 13 hHeld ?_
    try simp only [pS]
    refine aT 14 hHeld ?_
    try simp only [pS]
    refine aT 15 hHeld ?_
    try simp only [pS]
    refine aT 16 hHeld ?_
    try simp only [pS]
    refine oT 17 (fun K hK=>?_)
    (go_simp;refine CP.out.mono ?_;rintro e w2 ⟨t2,F2,rfl,o2,n2,b2⟩;have hgs:w2.cell? ⟨g,o+Bd r.id,none⟩=some (.slice sk.a sk.n sk.c):=(b2.cell (p:=⟨_,_,none⟩) (by show g<wr.heap.size;have:=hb.size;omega)).trans ck;have pE:w2.frozen? ⟨g,o+Bd r.id,none⟩=false:=(b2.frozen (p:=⟨_,_,none⟩) (by show g<wr.heap.size;have:=hb.size;omega)).trans (fK _))
    refine hK.out _ _ (fun _=>?_) ?_
    ·exact ⟨(b2.cell (p:=⟨_,_,none⟩) (by show w.heap.size<wr.heap.size;omega)).trans Y_1,(b2.cell (p:=⟨_,_,none⟩) (by show w.heap.size<wr.heap.size;omega)).trans Y_2,(b2.cell (p:=⟨_,_,none⟩) (by show w.heap.size+1+1<wr.heap.size;omega)).trans RB_0,(b2.cell (p:=⟨_,_,none⟩) (by show w.heap.size+1+1<wr.heap.size;omega)).trans RB_1,(b2.cell (p:=⟨_,_,none⟩) (by show g<wr.heap.size;have:=hb.size;omega)).trans ck⟩
    clear hK K
    try simp only [pS]
    refine oT 18 (fun K hK=>?_)
    go_simp
    refine hK.out _ _ (fun _=>?_) ?_
    ·exact ⟨(b2.cell (p:=⟨_,_,none⟩) (by show w.heap.size<wr.heap.size;omega)).trans Y_1,(b2.cell (p:=⟨_,_,none⟩) (by show w.heap.size<wr.heap.size;omega)).trans Y_2,(b2.cell (p:=⟨_,_,none⟩) (by show w.heap.size+1+1<wr.heap.size;omega)).trans RB_0,(b2.cell (p:=⟨_,_,none⟩) (by show w.heap.size+1+1<wr.heap.size;omega)).trans RB_1,(b2.cell (p:=⟨_,_,none⟩) (by show g<wr.heap.size;have:=hb.size;omega)).trans ck⟩
    clear hK K
    try simp only [pS]
    refine oT 19 (fun K hK=>?_)
    go_simp
    refine hK.out _ _ (fun aC=>absurd rfl aC) ?_
    clear hK K
    try simp only [pS]
    refine Cg (by kernel_rfl) ?_ _
    have b2':Below wr.heap.size wr w2:=Aa (Below.refl _ _).drew b2
    obtain ⟨F',p1,p2,p3,p4⟩:=OwL.swap (hO.out.1.below b2') kC (y:=G4 (Fk y was r n).shelf[Bd r.id] ⟨r.plan.prio,(Fk y was r n).seq,r.id,n⟩) (s:=t2) (Fy:=F2) o2 (fun x hx aY=>by have h1:=n2 x hx;have h2:=hO.out.1.lt x aY;have h3:wr.drew.heap.size=wr.heap.size:=rfl;omega)
    have eZ:E9 w2 g (o+Bd r.id * (Dt.list Af).enc.sz) ((Dt.list Af).enc.cells (G4 (Fk y was r n).shelf[Bd r.id] ⟨r.plan.prio,(Fk y was r n).seq,r.id,n⟩,t2))=w2.setCell ⟨g,o+Bd r.id,none⟩ (.slice t2.a t2.n t2.c):=by
     rw [show (Dt.list Af).enc.sz=1 from rfl,Nat.mul_one];rfl
    rw [eZ] at p1
    have B3:Chg [g] w (w2.setCell ⟨g,o+Bd r.id,none⟩ (.slice t2.a t2.n t2.c)):=(hb.trans (Chg.of_below [g] b2')).trans (Chg.setCell w2 g _ _)
    have bE:=RES_l
    clear Y_0 Y_1 Y_2 Y_3 Y_l
    clear WB_0 WB_1 WB_2 WB_3 WB_4 WB_5 WB_6 WB_7 WB_l
    clear RB_0 RB_1 RB_2 RB_3 RB_4 RB_5 RB_6 RB_7 RB_l
    clear RES_0 RES_1 RES_2 RES_3 RES_l
    replace Y:=(Y.below b2').setOther (a:=⟨g,o+Bd r.id,none⟩) (by show w.heap.size≠g;omega) (.slice t2.a t2.n t2.c)
    replace WB:=(WB.below b2').setOther (a:=⟨g,o+Bd r.id,none⟩) (by show w.heap.size+1≠g;omega) (.slice t2.a t2.n t2.c)
    replace RB:=(RB.below b2').setOther (a:=⟨g,o+Bd r.id,none⟩) (by show w.heap.size+1+1≠g;omega) (.slice t2.a t2.n t2.c)
    replace RES:=(RES.below b2').setOther (a:=⟨g,o+Bd r.id,none⟩) (by show w.heap.size+1+1+1≠g;omega) (.slice t2.a t2.n t2.c)
    generalize w2.setCell ⟨g,o+Bd r.id,none⟩ (.slice t2.a t2.n t2.c)=w3 at *
    have jS:=hf.seq
    have y1:=Y.cell 1 _ rfl
    have yf:=Y.free
    have yl:=Y.lt
    have tJ:w.heap.size∉F':=fun hx=>by rcases p2 _ hx with h | h;(rcases hO.out.2 _ h with h | h;(have:=gS.out _ h;omega);omega);(have:=n2 _ h;have h3:wr.drew.heap.size=wr.heap.size:=rfl;omega)
    clear hHeld
    go_wp2
    exact ⟨⟨n+1,F',by omega,by go_num,⟨by rw [aE.out];unfold Jm;rw [cV.out];exact p1.set (a:=⟨w.heap.size,1,none⟩) tJ _,fun x hx=>by rcases p2 x hx with h | h;exact hO.out.2 x h;right;have:=n2 _ h;have h3:wr.drew.heap.size=wr.heap.size:=rfl;omega⟩,by rw [aE.out];exact Y.set 1 (by simp) _,WB.setOther (by show w.heap.size+1≠w.heap.size;omega) _,RB.setOther (by show w.heap.size+1+1≠w.heap.size;omega) _,RES.setOther (by show w.heap.size+1+1+1≠w.heap.size;omega) _,B3.high (Nat.le_refl _) _ _⟩,by simp [intOf];omega⟩
  ·have hlwI:¬ (n:Int)<(was.tasks.length:Int):=by omega
   have aE:=Lib.hid (Xa (y:=y) tR.out (show ¬ (Ax was n).state=2 by unfold Ax;rw [List.getD_eq_getElem?_getD,List.getElem?_eq_none (by omega)];simp))
   have kC:Bd r.id<(Fk y was r n).shelf.length:=by rw [hf.len];exact qV
   obtain ⟨b9,o9,sk,cQ,hbb9,cA,ck⟩:=hO.out.1.rd.entryS kC
   simp only [Option.some.injEq,Addr.mk.injEq,and_true] at cQ
   obtain ⟨rfl,rfl⟩:=cQ
   have fY:((Bd r.id:Nat):Int)<(y.shelf.length:Int):=by omega
   have dG:(0:Int)<=((Bd r.id:Nat):Int):=by omega
   have pX:(Fk y was r n).shelf[Bd r.id].length<=2000000:=by have:=hf.all _ (List.getElem_mem kC);omega
   have cV:=Lib.hid (show (Fk y was r n).shelf.getD (Bd r.id) []=(Fk y was r n).shelf[Bd r.id] by rw [List.getD_eq_getElem?_getD,List.getElem?_eq_getElem kC];rfl)
   have fK:=hO.out.1.free0 (by omega)
   have CP:=Lib.hid (Ik (Fk y was r n).shelf[Bd r.id] sk ⟨r.plan.prio,(Fk y was r n).seq,r.id,n⟩ wr.drew pX (cA.below (Below.refl _ _).drew))
   go_wp2
   refine Bj (fun w'=>w'.cell? ⟨w.heap.size,1,none⟩=some (.int .i64 (Fk y was r n).seq)/\w'.cell? ⟨w.heap.size,2,none⟩=some (.slice (some ⟨g,o,none⟩) y.shelf.length cs)/\w'.cell? ⟨w.heap.size+1+1,0,none⟩=some (.int .i64 r.id)/\w'.cell? ⟨w.heap.size+1+1,1,none⟩=some (.int .i64 r.plan.prio)/\w'.cell? ⟨g,o+Bd r.id,none⟩=some (.slice sk.a sk.n sk.c)) 19 (by kernel_rfl) ?_ (fun hHeld=>?_)
   ·exact ⟨Y_1,Y_2,RB_0,RB_1,ck⟩
   refine aT 0 hHeld ?_
   try simp only [pS]
   refine aT 1 hHeld ?_
   try simp only [pS]
   refine aT 2 hHeld ?_
   try simp only [pS]
   refine aT 3 hHeld ?_
   try simp only [pS]
   refine aT 4 hHeld ?_
   try simp only [pS]
   refine aT 5 hHeld ?_
   try simp only [pS]
   refine aT 6 hHeld ?_
   try simp only [pS]
   refine aT 7 hHeld ?_
   try simp only [pS]
   refine aT 8 hHeld ?_
   try simp only [pS]
   refine aT 9 hHeld ?_
   try simp only [pS]
   refine aT 10 hHeld ?_
   try simp only [pS]
   refine aT 11 hHeld ?_
   try simp only [pS]
   refine aT 12 hHeld ?_
   try simp only [pS]
   refine aT 13 hHeld ?_
   try simp only [pS]
   refine aT 14 hHeld ?_
   try simp only [pS]
   refine aT 15 hHeld ?_
   try simp only [pS]
   refine aT 16 hHeld ?_
   try simp only [pS]
   refine oT 17 (fun K hK=>?_)
   (go_simp;refine CP.out.mono ?_;rintro e w2 ⟨t2,F2,rfl,o2,n2,b2⟩;have hgs:w2.cell? ⟨g,o+Bd r.id,none⟩=some (.slice sk.a sk.n sk.c):=(b2.cell (p:=⟨_,_,none⟩) (by show g<wr.heap.size;have:=hb.size;omega)).trans ck;have pE:w2.frozen? ⟨g,o+Bd r.id,none⟩=false:=(b2.frozen (p:=⟨_,_,none⟩) (by show g<wr.heap.size;have:=hb.size;omega)).trans (fK _))
   refine hK.out _ _ (fun _=>?_) ?_
   ·exact ⟨(b2.cell (p:=⟨_,_,none⟩) (by show w.heap.size<wr.heap.size;omega)).trans Y_1,(b2.cell (p:=⟨_,_,none⟩) (by show w.heap.size<wr.heap.size;omega)).trans Y_2,(b2.cell (p:=⟨_,_,none⟩) (by show w.heap.size+1+1<wr.heap.size;omega)).trans RB_0,(b2.cell (p:=⟨_,_,none⟩) (by show w.heap.size+1+1<wr.heap.size;omega)).trans RB_1,(b2.cell (p:=⟨_,_,none⟩) (by show g<wr.heap.size;have:=hb.size;omega)).trans ck⟩
   clear hK K
   try simp only [pS]
   refine oT 18 (fun K hK=>?_)
   go_simp
   refine hK.out _ _ (fun _=>?_) ?_
   ·exact ⟨(b2.cell (p:=⟨_,_,none⟩) (by show w.heap.size<wr.heap.size;omega)).trans Y_1,(b2.cell (p:=⟨_,_,none⟩) (by show w.heap.size<wr.heap.size;omega)).trans Y_2,(b2.cell (p:=⟨_,_,none⟩) (by show w.heap.size+1+1<wr.heap.size;omega)).trans RB_0,(b2.cell (p:=⟨_,_,none⟩) (by show w.heap.size+1+1<wr.heap.size;omega)).trans RB_1,(b2.cell (p:=⟨_,_,none⟩) (by show g<wr.heap.size;have:=hb.size;omega)).trans ck⟩
   clear hK K
   try simp only [pS]
   refine oT 19 (fun K hK=>?_)
   go_simp
   refine hK.out _ _ (fun aC=>absurd rfl aC) ?_
   clear hK K
   try simp only [pS]
   refine Cg (by kernel_rfl) ?_ _
   have b2':Below wr.heap.size wr w2:=Aa (Below.refl _ _).drew b2
   obtain ⟨F',p1,p2,p3,p4⟩:=OwL.swap (hO.out.1.below b2') kC (y:=G4 (Fk y was r n).shelf[Bd r.id] ⟨r.plan.prio,(Fk y was r n).seq,r.id,n⟩) (s:=t2) (Fy:=F2) o2 (fun x hx aY=>by have h1:=n2 x hx;have h2:=hO.out.1.lt x aY;have h3:wr.drew.heap.size=wr.heap.size:=rfl;omega)
   have eZ:E9 w2 g (o+Bd r.id * (Dt.list Af).enc.sz) ((Dt.list Af).enc.cells (G4 (Fk y was r n).shelf[Bd r.id] ⟨r.plan.prio,(Fk y was r n).seq,r.id,n⟩,t2))=w2.setCell ⟨g,o+Bd r.id,none⟩ (.slice t2.a t2.n t2.c):=by
    rw [show (Dt.list Af).enc.sz=1 from rfl,Nat.mul_one];rfl
   rw [eZ] at p1
   have B3:Chg [g] w (w2.setCell ⟨g,o+Bd r.id,none⟩ (.slice t2.a t2.n t2.c)):=(hb.trans (Chg.of_below [g] b2')).trans (Chg.setCell w2 g _ _)
   have bE:=RES_l
   clear Y_0 Y_1 Y_2 Y_3 Y_l
   clear WB_0 WB_1 WB_2 WB_3 WB_4 WB_5 WB_6 WB_7 WB_l
   clear RB_0 RB_1 RB_2 RB_3 RB_4 RB_5 RB_6 RB_7 RB_l
   clear RES_0 RES_1 RES_2 RES_3 RES_l
   replace Y:=(Y.below b2').setOther (a:=⟨g,o+Bd r.id,none⟩) (by show w.heap.size≠g;omega) (.slice t2.a t2.n t2.c)
   replace WB:=(WB.below b2').setOther (a:=⟨g,o+Bd r.id,none⟩) (by show w.heap.size+1≠g;omega) (.slice t2.a t2.n t2.c)
   replace RB:=(RB.below b2').setOther (a:=⟨g,o+Bd r.id,none⟩) (by show w.heap.size+1+1≠g;omega) (.slice t2.a t2.n t2.c)
   replace RES:=(RES.below b2').setOther (a:=⟨g,o+Bd r.id,none⟩) (by show w.heap.size+1+1+1≠g;omega) (.slice t2.a t2.n t2.c)
   generalize w2.setCell ⟨g,o+Bd r.id,none⟩ (.slice t2.a t2.n t2.c)=w3 at *
   have jS:=hf.seq
   have y1:=Y.cell 1 _ rfl
   have yf:=Y.free
   have yl:=Y.lt
   have tJ:w.heap.size∉F':=fun hx=>by rcases p2 _ hx with h | h;(rcases hO.out.2 _ h with h | h;(have:=gS.out _ h;omega);omega);(have:=n2 _ h;have h3:wr.drew.heap.size=wr.heap.size:=rfl;omega)
   clear hHeld
   go_wp2
   exact ⟨⟨n+1,F',by omega,by go_num,⟨by rw [aE.out];unfold Jm;rw [cV.out];exact p1.set (a:=⟨w.heap.size,1,none⟩) tJ _,fun x hx=>by rcases p2 x hx with h | h;exact hO.out.2 x h;right;have:=n2 _ h;have h3:wr.drew.heap.size=wr.heap.size:=rfl;omega⟩,by rw [aE.out];exact Y.set 1 (by simp) _,WB.setOther (by show w.heap.size+1≠w.heap.size;omega) _,RB.setOther (by show w.heap.size+1+1≠w.heap.size;omega) _,RES.setOther (by show w.heap.size+1+1+1≠w.heap.size;omega) _,B3.high (Nat.le_refl _) _ _⟩,by simp [intOf];omega⟩
theorem Zr {w:World} {B:Nat} {v:Value} {l:List Entry} (h:Rd Az w B v l):RdL Af w B v l:=by
 obtain ⟨A,c,rfl,hc,hA⟩:=h
 refine ⟨l.map fun x=>(x,()),by rw [List.map_map];exact List.map_id _,⟨A,c,by rw [List.length_map],by rw [List.length_map];exact hc,fun hl=>?_⟩,fun _ _=>trivial⟩
 rw [List.length_map] at hl
 obtain ⟨b,o,h3,h4,h5⟩:=hA hl
 refine ⟨b,o,h3,h4,fun k hk j u hu=>?_⟩
 rw [List.getElem_map] at hu
 exact h5 k (by rw [List.length_map] at hk;exact hk) j u hu
theorem Ub {b:Nat} {w:World} {u0 u1 u2 u3:Value} (X:DBox b [u0,u1,u2,u3] w) {v0 v1 v3 v4:Value} {rest:List Value} :
  (results Tryz.f74 (v0 :: v1 :: .pointer (some ⟨b,0,none⟩) :: v3 :: v4 :: rest).toArray).run Tryz.prog w = .ok (.tuple #[.agg #[u0,u1,u2,u3],v3,v4]) w:=by
 obtain ⟨c0,c1,c2,c3,-⟩:=X.g4
 simp [results,Tryz.results74,go_sem,c0,c1,c2,c3]
theorem Nr (l:List Entry) (s:Sl) (w:World) (hl:l.length<=2000000) (h:RdL Af w w.heap.size s.v l) :
  Calls Tryz.prog 74 #[.slice s.a s.n s.c] w (W8 l w):=by
 obtain ⟨A,n,c⟩:=s
 obtain rfl:n=l.length:=RdL.at1 (s:=⟨A,n,c⟩) h
 have R:=DBox.new 93 [.int .i64 0,.int .i64 0,.int .i64 0,.int .i64 0] w (b:=w.heap.size) rfl
 have B0:Below w.heap.size w (w.alloc (.cells #[.int .i64 0,.int .i64 0,.int .i64 0,.int .i64 0] 93)):=by repeat (first | exact Below.refl _ _ | refine Below.alloc ?_ (by simp<;>omega) _)
 cases l with
 | nil =>
  go_enter Tryz.func74,Tryz.ntmps74
  go_wp2
  refine bodyPost_ret (Ub R) rfl ⟨⟨none,0,0⟩,[],rfl,⟨[],[],[],rfl,Hw.nil _ _ _ _,.nil,rfl,List.nodup_nil⟩,fun _ h=>(by cases h),?_⟩
  repeat (first | (with_reducible exact B0) | refine Below.setCell ?_ (by simp<;>omega) _)
 | cons e tl =>
  have h1:((((e :: tl).length:Nat):Int) == 0)=false:=by rw [beq_eq_false_iff_ne];simp;omega
  have HC:=Lib.hid (fun W (hW:Below w.heap.size w W) (s':Sl) (hs':RdL Af w w.heap.size s'.v tl)=>Gz tl s' W (by simp at hl;omega) ((hs'.below hW).more hW.size))
  obtain ⟨b,o,_,rfl,aH,_,c0,c1,c2,c3⟩:=h.entry (k:=0) (by simp)
  simp only [Nat.zero_mul,Nat.add_zero,List.getElem_cons_zero] at c0 c1 c2 c3
  have bY:(e :: tl).length<=c:=(Hd h).cap
  have hd0:=(Hd h).fromL 1 (by simp)
  generalize hL:(e :: tl).length=L at *
  have sG:0<L:=by rw [<-hL];simp
  have hLI:(0:Int)<(L:Int):=by omega
  have hLI1:(1:Int)<=(L:Int):=by omega
  have hLN:0<L:=by omega
  have HS:=Lib.hid (show ∀ W,Below w.heap.size w W->(fun w'=>w'.cell? ⟨b,o,none⟩=some (.int .i64 e.prio)/\w'.cell? ⟨b,o+1,none⟩=some (.int .i64 e.seq)/\w'.cell? ⟨b,o+2,none⟩=some (.int .i64 e.run)/\w'.cell? ⟨b,o+3,none⟩=some (.int .i64 e.task)) W from fun W hW=>⟨(hW.cell (p:=⟨b,o,none⟩) aH).trans c0,(hW.cell (p:=⟨b,o+1,none⟩) aH).trans c1,(hW.cell (p:=⟨b,o+2,none⟩) aH).trans c2,(hW.cell (p:=⟨b,o+3,none⟩) aH).trans c3⟩)
  have hdB:=Lib.hid (show RdL Af w w.heap.size (Sl.v ⟨some ⟨b,o+4,none⟩,L - 1,c - 1⟩) tl from Zr hd0)
  have hdA:=Lib.hid (show c=1->RdL Af w w.heap.size (Sl.v ⟨some ⟨b,o,none⟩,0,0⟩) tl from fun h=>by
   have:tl=[]:=List.eq_nil_of_length_eq_zero (by simp at hL;omega)
   subst this
   exact ⟨[],rfl,⟨_,0,rfl,Nat.zero_le _,fun h=>absurd h (by simp)⟩,fun _ h=>by cases h⟩)
  clear hd0 c0 c1 c2 c3 hL
  have rK:c=1\/(¬ c=1/\(1:Int)<=(c:Int)/\1<c):=by omega
  go_enter Tryz.func74,Tryz.ntmps74
  go_upto_region 3 with fail
  generalize (w.alloc (.cells #[.int .i64 0,.int .i64 0,.int .i64 0,.int .i64 0] 93))=W at *
  rcases rK with rfl | ⟨rK,uE,rY⟩
  have HX:=Lib.hid (fun W hW=>HC.out W hW ⟨some ⟨b,o,none⟩,0,0⟩ (hdA.out rfl))
  rotate_left
  have HX:=Lib.hid (fun W hW=>HC.out W hW ⟨some ⟨b,o+4,none⟩,L - 1,c - 1⟩ hdB.out)
  all_goals
   have bN:=B0.size
   have hbW:b<W.heap.size:=by omega
   refine Go.wp_region_noPanic ?_
   refine wp_region_held_drew (S:=(fun w'=>w'.cell? ⟨b,o,none⟩=some (.int .i64 e.prio)/\w'.cell? ⟨b,o+1,none⟩=some (.int .i64 e.seq)/\w'.cell? ⟨b,o+2,none⟩=some (.int .i64 e.run)/\w'.cell? ⟨b,o+3,none⟩=some (.int .i64 e.task))) (by kernel_rfl) (HS.out _ B0.drew) (fun hHeld=>?_)
   replace R:=DBox.drew4 R
   have B1:=B0.drew
   generalize W.drew=w1 at *
   have hRl1:=R.lt
   refine tY 0 ?_
   (try simp only [pS])
   refine tY 1 ?_
   (try simp only [pS])
   refine tV 2 ?_
   (try simp only [pS])
   refine tY 3 ?_
   (try simp only [pS])
   refine tY 4 ?_
   (try simp only [pS])
   refine rC 5 (fun K_ hK=>?_)
   go_simp
   refine (HX.out w1 B1).mono ?_
   rintro e2 w3 ⟨s3,F3,rfl,o3,n3,b3⟩
   dsimp only [slV]
   have B3:=Aa B1 b3
   replace R:=R.below b3
   have hwl:=R.lt
   have hw1:=B1.size
   refine hK.out _ _ (HS.out _ B3) (fun hHeld=>?_)
   clear hK K_
   (try simp only [pS])
   obtain ⟨r0,r1,r2,r3,-⟩:=R.g4
   have rf:=R.free
   refine rC 6 (fun K_ hK=>?_)
   go_simp
   have R4:=DBox.row4 R rfl (.int .i64 e.prio) (.int .i64 e.seq) (.int .i64 e.run) (.int .i64 e.task)
   have B4:Below w.heap.size w ((((w3.setCell ⟨w.heap.size,0,none⟩ (.int .i64 e.prio)).setCell ⟨w.heap.size,1,none⟩ (.int .i64 e.seq)).setCell ⟨w.heap.size,2,none⟩ (.int .i64 e.run)).setCell ⟨w.heap.size,3,none⟩ (.int .i64 e.task)):=by
    repeat (first | (with_reducible exact B3) | refine Below.setCell ?_ (by simp<;>omega) _)
   have cN:w.heap.size∉F3:=fun hx=>by have:=n3 _ hx;omega
   have o4:OwL Af ((((w3.setCell ⟨w.heap.size,0,none⟩ (.int .i64 e.prio)).setCell ⟨w.heap.size,1,none⟩ (.int .i64 e.seq)).setCell ⟨w.heap.size,2,none⟩ (.int .i64 e.run)).setCell ⟨w.heap.size,3,none⟩ (.int .i64 e.task)) F3 s3.v tl:=(((o3.set (a:=⟨_,_,none⟩) cN _).set (a:=⟨_,_,none⟩) cN _).set (a:=⟨_,_,none⟩) cN _).set (a:=⟨_,_,none⟩) cN _
   generalize ((((w3.setCell ⟨w.heap.size,0,none⟩ (.int .i64 e.prio)).setCell ⟨w.heap.size,1,none⟩ (.int .i64 e.seq)).setCell ⟨w.heap.size,2,none⟩ (.int .i64 e.run)).setCell ⟨w.heap.size,3,none⟩ (.int .i64 e.task))=w4 at *
   clear r0 r1 r2 r3 rf R
   refine hK.out _ _ (HS.out _ B4) (fun hHeld=>?_)
   clear hK K_
   (try simp only [pS])
   refine rC 7 (fun K_ hK=>?_)
   go_simp
   refine hK.out _ _ hHeld (fun hHeld=>?_)
   clear hK K_
   (try simp only [pS])
   refine rC 8 (fun K_ hK=>?_)
   go_simp
   refine hK.out _ _ hHeld (fun hHeld=>?_)
   clear hK K_
   (try simp only [pS])
   refine wpAnyH_done (by kernel_rfl) ?_ _
   refine NoPanic.normal ?_
   clear hHeld
   go_wp2
   exact bodyPost_ret (Ub R4) rfl ⟨s3,F3,rfl,o4,fun x hx=>by have:=n3 x hx;omega,B4⟩
theorem U6 (l:List Entry) (s:Sl) (w:World) (hl:l.length<=2000000) (h:RdL Af w w.heap.size s.v l) :
  Calls Tryz.prog 72 #[.slice s.a s.n s.c] w (Rr l w):=by
 obtain ⟨A,n,c⟩:=s
 obtain rfl:n=l.length:=RdL.at1 (s:=⟨A,n,c⟩) h
 have hd:=W9 l.length
 rw [show (l.length+1) / 2=Bh l from rfl] at hd
 have kB:=Wt l
 have hw1:IntKind.i64.wrap ((l.length:Int)+1)=(l.length:Int)+1:=IntWalk.i64_in _ (by omega)
 have hw2:IntKind.i64.wrap (Bh l:Int)=(Bh l:Int):=IntWalk.i64_in _ (by omega)
 have bY:l.length<=c:=(Hd h).cap
 have mY:Bh l<=c:=by omega
 have hkcI:(Bh l:Int)<=(c:Int):=by omega
 have hklI:(Bh l:Int)<=(l.length:Int):=by omega
 have hk0I:(0:Int)<=(Bh l:Int):=by omega
 have HC:=Lib.hid (fun W (hW:Below w.heap.size w W) (k:List Entry) (hk:k.length<=2000000) (s':Sl) (hs':Rd Az w w.heap.size s'.v k)=>Jn k s' W hk ((Zr hs').below hW |>.more hW.size))
 have a0:=Lib.hid ((Hd h).take kB c mY)
 have a1:=Lib.hid ((Hd h).dropM (Bh l) kB)
 have a2:=Lib.hid (show Bh l=c->Rd Az w w.heap.size (.slice A 0 0) (l.drop (Bh l)) from fun hh=>by
  rw [List.drop_eq_nil_of_le (by omega)]
  exact ⟨A,0,rfl,Nat.zero_le _,fun h=>absurd h (by simp)⟩)
 go_enter Tryz.func72,Tryz.ntmps72
 go_upto_region 2 with fail
 rcases Nat.lt_or_ge (Bh l) c with hk2 | hk2
 have qP:¬ c=Bh l:=by omega
 have HX:=Lib.hid (fun W hW=>HC.out W hW (l.drop (Bh l)) (by simp;omega) ⟨A.map fun x=>x.add (Bh l * 4),l.length - Bh l,c - Bh l⟩ a1.out)
 have HY:=Lib.hid (fun W hW=>HC.out W hW (l.take (Bh l)) (by simp;omega) ⟨A,Bh l,c⟩ a0.out)
 rotate_left
 have qP:c=Bh l:=by omega
 have hcl:l.length=Bh l:=by omega
 have HX:=Lib.hid (fun W hW=>HC.out W hW (l.drop (Bh l)) (by simp;omega) ⟨A,0,0⟩ (a2.out (by omega)))
 have HY:=Lib.hid (fun W hW=>HC.out W hW (l.take (Bh l)) (by simp;omega) ⟨A,Bh l,Bh l⟩ (by have:=a0.out;rw [qP] at this;exact this))
 all_goals
  refine Go.wp_region_noPanic ?_
  refine wp_region_held_drew (S:=fun _=>True) (by kernel_rfl) trivial (fun hHeld=>?_)
  have B1:Below w.heap.size w w.drew:=(Below.refl _ _).drew
  generalize w.drew=w1 at *
  refine tY 0 ?_
  (try simp only [pS])
  refine tY 1 ?_
  (try simp only [pS])
  refine tY 2 ?_
  (try simp only [pS])
  refine tY 4 ?_
  (try simp only [pS])
  refine tY 5 ?_
  (try simp only [pS])
  refine tY 6 ?_
  (try simp only [pS])
  refine rC 3 (fun K_ hK=>?_)
  go_simp
  refine (HY.out w1 B1).mono ?_
  rintro e2 w3 ⟨v3,rfl,o3,b3⟩
  have B3:=Aa B1 b3
  refine hK.out _ _ trivial (fun hHeld=>?_)
  clear hK K_
  (try simp only [pS])
  refine rC 7 (fun K_ hK=>?_)
  go_simp
  refine (HX.out w3 B3).mono ?_
  rintro e4 w4 ⟨v4,rfl,o4,b4⟩
  refine hK.out _ _ trivial (fun hHeld=>?_)
  clear hK K_
  (try simp only [pS])
  refine rC 8 (fun K_ hK=>?_)
  go_simp
  refine hK.out _ _ hHeld (fun hHeld=>?_)
  clear hK K_
  (try simp only [pS])
  refine rC 9 (fun K_ hK=>?_)
  go_simp
  refine hK.out _ _ hHeld (fun hHeld=>?_)
  clear hK K_
  (try simp only [pS])
  refine wpAnyH_done (by kernel_rfl) ?_ _
  refine NoPanic.normal ?_
  clear hHeld
  have aV:=B1.size
  have ow3:=o3.within
  obtain ⟨s5,F5,rfl,o5,n5,m5⟩:=Hj (o3.below b4)
  obtain ⟨s6,F6,rfl,o6,n6,m6⟩:=Hj o4
  have HF:=Lib.hid (show Rr l w (.returned (.tuple #[.slice s5.a s5.n s5.c,.slice s6.a s6.n s6.c])) w4 from ⟨s5,F5,s6,F6,rfl,o5,o6,fun x hx=>Nat.le_trans aV (n5 x hx),fun x hx=>Nat.le_trans B3.size (n6 x hx),fun x hx hx2=>by have h1:=(ow3 x (m5 x hx)).2;have h2:=n6 x hx2;omega,Aa B3 b4⟩)
  clear ow3 o5 o6 n5 n6 m5 m6 o3 o4
  go_wp2
  refine bodyPost_ret ?_ rfl HF.out
  simp [results,Tryz.results72,go_sem]
def Ru (d:Deed) (s:Sl):Sl:=if d.kind=1 then s else ⟨none,0,0⟩
theorem U7 (d:Deed) (s:Sl) (w:World) :
  Calls Tryz.prog 106 #[Bm d s] w fun e w'=>e = .returned (Bm (Ec d) (Ru d s))/\Below w.heap.size w w':=by
 by_cases k1:d.kind=1
 ·exact Aal d s w k1
 by_cases k2:d.kind=2
 ·exact Aam d s w k2
 by_cases k3:d.kind=3
 ·exact Aan d s w k3
 by_cases k4:d.kind=4
 ·exact Aao d s w k4
 by_cases k6:d.kind=6
 ·exact Aap d s w k6
 by_cases k7:d.kind=7
 ·exact Aaq d s w k7
 exact Aar d s w (beq_eq_false_iff_ne.2 k1) (beq_eq_false_iff_ne.2 k2) (beq_eq_false_iff_ne.2 k3) (beq_eq_false_iff_ne.2 k4) (beq_eq_false_iff_ne.2 k6) (beq_eq_false_iff_ne.2 k7)
theorem U8 (p:Plan):Dd p=decide (p=Ia):=by
 obtain ⟨a,b,c,d,l⟩:=p
 rw [Bool.eq_iff_iff]
 simp [Dd,Ia,and_assoc]
theorem U9 (l:List Edge):(E0 l).all Dc=l.all (fun e=>Dc e.fr && Dc e.to):=by
 induction l with
 | nil=>rfl
 | cons a l ih=>rw [show E0 (a :: l)=[a.fr,a.to] ++ E0 l from rfl,List.all_append,ih];simp [Bool.and_assoc]
theorem Acj (d:Deed) (h0:inB d.kind 1 8=true) (hl:d.plan.edges.length<=31):Bp d=(decide (d=Ec d) && (Cx d).all Dc):=by
 obtain ⟨kd,rn,p,tk,ty,wk,dr⟩:=d
 replace h0:inB kd 1 8=true:=h0
 replace hl:p.edges.length<=31:=hl
 have hn:Dc (p.edges.length:Int)=true:=by simp [Dc,inB];omega
 have:kd=1\/kd=2\/kd=3\/kd=4\/kd=5\/kd=6\/kd=7\/kd=8:=by
  simp [inB] at h0
  omega
 rcases this with rfl | rfl | rfl | rfl | rfl | rfl | rfl | rfl<;>(rw [Bool.eq_iff_iff];simp [Bp,Ec,Cx,U8,Da,U9,hn,hl,h0];try (constructor<;>intro h<;>simp_all))
theorem Ack (d:Deed) (hl:¬ d.plan.edges.length<=31):Bp d=false:=by
 have h1:Da d.plan=false:=by simp [Da,hl]
 have h2:Dd d.plan=false:=by
  have:(d.plan.edges.length == 0)=false:=beq_eq_false_iff_ne.2 (by omega)
  simp [Dd,this]
 simp [Bp,h1,h2]
theorem Ab4 {d:Deed} {s:Sl} {w:World} {B:Nat} (h:Be.rd w B d s):Be.rd w B (Ec d) (Ru d s):=by
 have h0:Ag.rd w B d.plan s:=h
 show Ag.rd w B (Ec d).plan (Ru d s)
 unfold Ec Ru
 split
 ·exact h0
 ·have e:∀ q:Plan,q.edges=[]->Ag.rd w B q ⟨none,0,0⟩:=fun q hq=>by
   show RdL Ct w B (.slice none 0 0) q.edges
   rw [hq]
   exact ⟨[],rfl,⟨none,0,rfl,Nat.le_refl _,fun h=>absurd h (by simp)⟩,by simp⟩
  split
  ·exact e _ rfl
  split
  ·exact e _ rfl
  split<;>exact e _ rfl
theorem P6 (d du:Deed) (A:Option Addr) (c:Nat) (su:Sl) (nd:List Int) (D:Bool) (w:World) (LN:nd.length<=6+2 * d.plan.edges.length)
  (CS:Hid (∀ W,Below w.heap.size w W->Calls Tryz.prog 105 #[Bm d ⟨A,d.plan.edges.length,c⟩,Bm du su] W fun e w'=>e = .returned (.bool (decide (d=du)))/\Below W.heap.size W w'))
  (CU:Hid (∀ W,Calls Tryz.prog 106 #[Bm d ⟨A,d.plan.edges.length,c⟩] W fun e w'=>e = .returned (Bm du su)/\Below W.heap.size W w'))
  (CN:Hid (∀ W,d.plan.edges.length<=31->Below w.heap.size w W->Calls Tryz.prog 103 #[Bm d ⟨A,d.plan.edges.length,c⟩] W fun e w'=>∃ v,e = .returned v/\Ow Fz 3 w' W.heap.size v nd/\Below W.heap.size W w'))
  (L0:Hid (inB d.kind 1 8=false->D=false)) (L1:Hid (¬ d.plan.edges.length<=31->D=false)) (L2:Hid (inB d.kind 1 8=true->d.plan.edges.length<=31->D=(decide (d=du) && nd.all Dc))) :
  Calls Tryz.prog 53 #[Bm d ⟨A,d.plan.edges.length,c⟩] w fun e w'=>e = .returned (.bool D)/\Below w.heap.size w w':=by
 obtain ⟨W,aG,X,B0⟩:=bx1 w 45 [.int .i64 d.kind,.int .i64 d.run,.int .i64 d.plan.prio,.int .i64 d.plan.most,.int .i64 d.plan.wait,.int .i64 d.plan.tasks,.slice A d.plan.edges.length c,.int .i64 d.task,.int .i64 d.try_,.int .i64 d.worker,.int .i64 d.draw]
 go_enter Tryz.func53,Tryz.ntmps53
 go_wp2
 rw [<-aG.out]
 clear aG
 obtain ⟨X_0,X_1,X_2,X_3,X_4,X_5,X_6,X_7,X_8,X_9,X_10,X_l⟩:=X.g11
 have aN:=Bk W
 cases a0:inB d.kind 1 8
 case false =>
  have H:=Lib.hid (L0.out a0)
  clear L0 L1 L2 CS CU CN
  refine Ad (by kernel_rfl) (by kernel_rfl) ?_
  repeat (go_big_quiet_step ((go_at_call 58;exact Bv (fun u=>Ap _ _ _ u.1))))
  refine wpQuiet_nil ?_
  rintro _ ⟨⟨w3,b3⟩,rfl⟩
  clear aN
  go_wp2
  go_ret
  exact ⟨Ac H.out.symm,Aa B0 b3⟩
 by_cases hl:d.plan.edges.length<=31
 case neg =>
  have H:=Lib.hid (L1.out hl)
  have hlI:(31:Int)<(d.plan.edges.length:Int):=by omega
  clear L0 L1 L2 CS CU CN hl
  refine Ad (by kernel_rfl) (by kernel_rfl) ?_
  repeat (go_big_quiet_step ((go_at_call 58;exact Bv (fun u=>Ap _ _ _ u.1))))
  refine wpQuiet_nil ?_
  rintro _ ⟨⟨w3,b3⟩,rfl⟩
  clear aN
  go_wp2
  go_ret
  exact ⟨Ac H.out.symm,Aa B0 b3⟩
 have HD:=Lib.hid (L2.out a0 hl)
 have LN:=Lib.hid (show nd.length<=68 by omega)
 have CN:=Lib.hid (fun W hW=>CN.out W hl hW)
 have hlI:¬ (31:Int)<(d.plan.edges.length:Int):=by omega
 clear L0 L1 L2
 cases a1:decide (d=du)
 case false =>
  have H:=Lib.hid (show D=false by rw [HD.out,a1,Bool.false_and])
  rw [a1] at CS
  clear CN HD
  refine Ad (by kernel_rfl) (by kernel_rfl) ?_
  repeat (go_big_quiet_step ((first
   | (go_at_call 58;exact Bv (fun u=>Ap _ _ _ u.1))
   | (go_at_call 106;rename_i x;have h1:=CU.out x.1;exact Dg h1)
   | (go_at_call 105;rename_i x;have h1:=CS.out x.1 (Aa B0 x.2);exact Dg h1))))
  refine wpQuiet_nil ?_
  rintro _ ⟨⟨w3,b3⟩,rfl⟩
  clear aN
  go_wp2
  go_ret
  exact ⟨Ac H.out.symm,Aa B0 b3⟩
 have HD:=Lib.hid (show D=nd.all Dc by rw [HD.out,a1,Bool.true_and])
 rw [a1] at CS
 refine Ad (by kernel_rfl) (by kernel_rfl) ?_
 repeat (go_big_quiet_step ((first
  | (go_at_call 58;exact Bv (fun u=>Ap _ _ _ u.1))
  | (go_at_call 106;rename_i x;have h1:=CU.out x.1;exact Dg h1)
  | (go_at_call 105;rename_i x;have h1:=CS.out x.1 (Aa B0 x.2);exact Dg h1))))
 refine wpQuiet_nil ?_
 rintro _ ⟨⟨w3,b3⟩,rfl⟩
 clear aN CS CU a0 a1 hlI hl
 replace B0:=Aa B0 b3
 replace X:=X.below b3
 clear X_0 X_1 X_2 X_3 X_4 X_5 X_6 X_7 X_8 X_9 X_10 X_l
 obtain ⟨X_0,X_1,X_2,X_3,X_4,X_5,X_6,X_7,X_8,X_9,X_10,X_l⟩:=X.g11
 clear b3
 go_wp2_with (go_at_call 103;refine (CN.out _ B0).mono ?_;rintro e w4 ⟨v,rfl,o4,b4⟩;obtain ⟨A9,c9,rfl,-⟩:=id (Rd.of_own o4))
 clear X_0 X_1 X_2 X_3 X_4 X_5 X_6 X_7 X_8 X_9 X_10 X_l
 clear X CN
 replace B0:=Aa B0 b4
 have h5:=Lib.hid (Rd.of_own o4)
 clear o4 b4
 go_loopw [26] (fun i wr=>∃ k:Nat,k<=nd.length/\i = .int .i64 k/\Hid ((nd.take k).all Dc=true)/\Below w4.heap.size w4 wr) (fun i _=>nd.length - (intOf i).toNat)
 case atStart=>exact ⟨0,Nat.zero_le _,rfl,rfl,Below.refl _ _⟩
 case round =>
  obtain ⟨k,hk,rfl,hA,hb⟩:=hrel
  have LN:=LN.out
  by_cases aA:k<nd.length
  ·have aB:(k:Int)<(nd.length:Int):=by omega
   obtain ⟨b,o,rfl,aH,d0⟩:=(h5.out.below hb).int aA
   cases q0:inB nd[k] 0 1000000000
   ·have H:=Lib.hid (show D=false by rw [HD.out];exact Abh aA q0)
    go_wp2_with (go_at_call 58;refine (Ap _ _ _ _).mono ?_;rintro e w5 ⟨rfl,rfl⟩)
    go_ret
    exact ⟨Ac H.out.symm,Aa B0 hb⟩
   ·have S:=Lib.hid (show (nd.take (k+1)).all Dc=true by rw [List.take_succ_eq_append_getElem aA,List.all_append,hA.out];simp [Dc,q0])
    go_wp2_with (go_at_call 58;refine (Ap _ _ _ _).mono ?_;rintro e w5 ⟨rfl,rfl⟩)
    exact ⟨⟨k+1,by omega,by go_num,S,hb⟩,by simp [intOf];omega⟩
  ·have aB:¬ (k:Int)<(nd.length:Int):=by omega
   have H:=Lib.hid (show D=true by rw [HD.out,<-hA.out,List.take_of_length_le (by omega)])
   go_wp2
   go_ret
   exact ⟨Ac H.out.symm,Aa B0 hb⟩
theorem Rv (d:Deed) (s:Sl) (w:World) (hc:Ce d<=2000000) (h:Be.rd w w.heap.size d s) :
  Calls Tryz.prog 53 #[Bm d s] w fun e w'=>e = .returned (.bool (Bp d))/\Below w.heap.size w w':=by
 have hcu:Ce (Ec d)<=2000000:=by
  have:Ce (Ec d)<=Ce d:=by
   unfold Ce C8 Ec
   split
   ·exact Nat.le_refl _
   split
   ·exact Nat.zero_le _
   split
   ·exact Nat.zero_le _
   split<;>exact Nat.zero_le _
  omega
 have HR:Hid (∀ W,Below w.heap.size w W->Be.rd W W.heap.size d s):=fun W hW=>Be.rd_more (Be.rd_below h hW) hW.size
 have HU:Hid (∀ W,Below w.heap.size w W->Be.rd W W.heap.size (Ec d) (Ru d s)):=fun W hW=>Ab4 (HR.out W hW)
 have CS:=Lib.hid (fun W hW=>Uz d (Ec d) s (Ru d s) W hc hcu (HR.out W hW) (HU.out W hW))
 have CU:=Lib.hid (U7 d s)
 have CN:=Lib.hid (fun W (hl:d.plan.edges.length<=31) hW=>P4 d s W (by omega) (HR.out W hW))
 have L1:=Lib.hid (Ack d)
 have L2:=Lib.hid (Acj d)
 have L0:Hid (inB d.kind 1 8=false->Bp d=false):=fun a0=>by simp [Bp,a0]
 have h1:s.n=d.plan.edges.length:=by
  have h0:Ag.rd w w.heap.size d.plan s:=h
  exact RdL.at1 h0
 obtain ⟨A,n,c⟩:=s
 replace h1:n=d.plan.edges.length:=h1
 subst h1
 exact P6 d (Ec d) A c (Ru d ⟨A,d.plan.edges.length,c⟩) (Cx d) (Bp d) w (Th d) CS CU CN L0 L1 L2
end Go.Proofs.YtonlnjdempbfoaaGreat
