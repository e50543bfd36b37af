/-
  Yards that are right: the reference's walk, whole. Merged of the reference. The earliest and the latest times of a plan: plain facts. Shelves of the program: Sh
-/
import Derived.Test.YtonlnjdempbfoaaGreatZFe0
import Derived.Test.YtonlnjdempbfoaaGreatZFe1
import Derived.Test.YtonlnjdempbfoaaGreatZFe3
import Derived.Test.YtonlnjdempbfoaaGreatZFe4
import Derived.Test.YtonlnjdempbfoaaGreatZFe6
import Derived.Test.YtonlnjdempbfoaaGreatZFe7
import Derived.IntWalk
import Derived.Deep.Cut
namespace Go.Proofs.YtonlnjdempbfoaaGreat
open Go.RowKit
set_option maxRecDepth 100000
set_option maxHeartbeats 4000000
set_option linter.unusedVariables false
set_option linter.unusedSimpArgs false
open Value renaming int->J,slice->Aa
open IntKind renaming i64->U
open Option renaming none->Ab,some->Ac
open Below renaming setCell->Ad,alloc->Ae
open Nat renaming zero_le->Ag,le_trans->Ah,lt_of_lt_of_le->Ai
open Go renaming bodyPost_ret->Aj,wpQuiet_nil->Ak,wpAnyH_done->Al
open Go.Proofs.Tryz renaming prog->An
open IntWalk renaming i64_in->Ar
open List renaming length_map->Au,mem_singleton->Av,getElem_mem->Aw,nodup_append->Ax,mem_append_right->Bd,mem_append_left->Be,take_of_length_le->Bf,mem_append->Bh
theorem Aeg {y:Yard} (h1:inB y.now 0 999999980=true) (h2:inB y.seq 1 1000000000=true) (h3:Jc y) (h6:y.runs.length<=8) (h7:Jn y y.runs.length):Dn y ↔ Gt y<=40:=by
 refine Acl h1 h2 h3.1 (fun k hk=>h3.2.1 _ (Aw hk)) (Yg h3 (Br _)) h6 h7
def Pk (y:Yard) (k:Nat):Prop:=∀ j (hj:j<y.runs.length),j<k->Gg y.runs[j]/\Dh y y.runs[j].id=j
def Xb (y:Yard) (k:Nat):Prop:=∀ j (hj:j<y.runs.length),j<k->Jk y.now y.runs[j] (Ce y)
theorem Gj (y:Yard) (s:Sl×Sl) (w:World) (hl:Ci y<=2000000) (h:Bu.rd w w y s) :
  Calls An 151 #[Du y s] w fun e w'=>e = .returned (.bool (tf (Dn y)))/\Below w w w':=by
 have HR:=Bp (show ∀ W,Below w w W->Bu.rd W W y s from fun W hW=>Bu.rd_more (Bu.rd_below h hW) hW.size);obtain ⟨⟨A1,n1,c1⟩,⟨A2,n2,c2⟩⟩:=s;obtain rfl:n2=y.runs.length:=RdL.at1 (s:=⟨A2,n2,c2⟩) h.2;have h2:RdL Co w w (Aa A2 y.runs.length c2) y.runs:=h.2;have eD:y.runs.length<=2000000:=Ah (Ct C9 _) (by unfold Ci at hl;omega);have HC:=Bp (show ∀ k (hk:k<y.runs.length),C9 y.runs[k]<=2000000 from fun k hk=>by
  have:=Fk (cnt:=C9) (Aw hk)
  unfold Ci at hl;omega)
 have HEn:=Bp (show (Ce y).length<=2000000 by
  have:=Hn y.shelf y.shelf.length
  rw [List.take_length] at this;unfold Ci at hl;unfold Ce;omega)
 have mZ:=Zn hl;clear h;have X:=DBox.new 31 [J U y.now,J U y.seq,Aa A1 n1 c1,Aa A2 y.runs.length c2] w (b:=w.heap.size) rfl;have B0:Below w w (w.alloc (.cells #[J U y.now,J U y.seq,Aa A1 n1 c1,Aa A2 y.runs.length c2] 31)):=by repeat (first | exact Bq _ _ | refine Ae ?_ Bn _)
 cases a1:inB y.now 0 999999980;case false =>
  have H:=Bp (Ck (show ¬ Dn y from fun h=>by have:=Cp.2 h.1;rw [a1] at this;cases this));go_enter Tryz.func151,Tryz.ntmps151;go_wp2_with (go_at_call 155;refine (Cf _ _ _ _).mono ?_;rintro e w' ⟨rfl,rfl⟩)
  go_ret;exact ⟨Bw H.out.symm,B0⟩
 cases a2:inB y.seq 1 1000000000;case false =>
  have H:=Bp (Ck (show ¬ Dn y from fun h=>by have:=Cp.2 h.2.1;rw [a2] at this;cases this));go_enter Tryz.func151,Tryz.ntmps151;go_wp2_with (go_at_call 155;refine (Cf _ _ _ _).mono ?_;rintro e w' ⟨rfl,rfl⟩)
  go_ret;exact ⟨Bw H.out.symm,B0⟩
 by_cases a4:y.runs.length<=8;case neg =>
  have a4':(8:Int)<(y.runs.length:Int):=Bk;have H:=Bp (Ck (show ¬ Dn y from fun h=>a4 h.2.2.2.2.2.2.1));clear a4;go_enter Tryz.func151,Tryz.ntmps151;go_wp2_with (go_at_call 155;refine (Cf _ _ _ _).mono ?_;rintro e w' ⟨rfl,rfl⟩)
  go_ret;exact ⟨Bw H.out.symm,B0⟩
 have a4':¬ (8:Int)<(y.runs.length:Int):=Bk;have hqb:=Cp.1 a2;have sZ:=Cp.1 a1;have C0:=Tk y (⟨A1,n1,c1⟩,⟨A2,y.runs.length,c2⟩) (w.alloc (.cells #[J U y.now,J U y.seq,Aa A1 n1 c1,Aa A2 y.runs.length c2] 31)) hl hqb (HR.out _ B0);by_cases a3:Jc y;case neg =>
  have H:=Bp (Ck (show ¬ Dn y from fun h=>a3 ⟨h.2.2.1,h.2.2.2.1,h.2.2.2.2.1,h.2.2.2.2.2.1⟩));rw [Ck a3] at C0;clear a3;go_enter Tryz.func151,Tryz.ntmps151;go_wp2_with (first | (go_at_call 155;refine (Cf _ _ _ _).mono ?_;rintro e w' ⟨rfl,rfl⟩) | (go_at_call 215;refine C0.mono ?_;rintro e w1 ⟨rfl,b1⟩))
  go_ret;exact ⟨Bw H.out.symm,Bs B0 b1⟩
 rw [D6 a3] at C0;go_enter Tryz.func151,Tryz.ntmps151;go_wp2_with (first | (go_at_call 155;refine (Cf _ _ _ _).mono ?_;rintro e w' ⟨rfl,rfl⟩) | (go_at_call 215;refine C0.mono ?_;rintro e w1 ⟨rfl,b1⟩))
 replace X:=X.below b1;replace B0:=Bs B0 b1;clear b1 C0;have A1_:=Bp a1;have A2_:=Bp a2;have A3_:=Bp a3;clear a1 a2 a3 a4';go_loopw [3] (fun i wr=>∃ k:Nat,k<=y.runs.length/\i = J U k/\Hid (Pk y k)/\Below w1 w1 wr) (fun i _=>y.runs.length - (intOf i).toNat);case atStart=>exact ⟨0,Ag _,rfl,fun j _ h0=>absurd h0 Bk,Bq _ _⟩
 case round =>
  obtain ⟨k,hk,rfl,aU,hb⟩:=hrel;replace X:=X.below hb;replace B0:=Bs B0 hb;obtain ⟨X_0,X_1,X_2,X_3,X_l⟩:=X.g4;by_cases aA:k<y.runs.length
  ·have aB:(k:Int)<(y.runs.length:Int):=Bk;obtain ⟨b,o,⟨⟨A8,n8,c8⟩,⟨At,nt,ct⟩⟩,dL,aG,cE,e0,e1,e2,e3,e4,e5,e6,e7⟩:=(h2.below B0).run aA;subst dL;have bL:b<wr:=Ai aG B0.size;have HRr:=Bp (show ∀ W,Below wr wr W->Co.rd W W y.runs[k] (⟨A8,n8,c8⟩,⟨At,nt,ct⟩) from fun W hW=>Co.rd_more (Co.rd_below (Co.rd_more cE B0.size) hW) hW.size);have jA:=HC.out k aA;have aJ:=Cy wr;have C1:=fun u:Ix wr=>Lo y.runs[k] (⟨A8,n8,c8⟩,⟨At,nt,ct⟩) u.1 jA (HRr.out _ u.2);have C2:=fun u:Ix wr=>Ew y (⟨A1,n1,c1⟩,⟨Ac ⟨b,o,Ab⟩,y.runs.length,c2⟩) y.runs[k].id u.1 hl (HR.out _ (Bs B0 u.2));have D1:=Bp C1;have D2:=Bp C2;clear C1 C2;by_cases q1:Gg y.runs[k];case neg =>
    have H:=Bp (Ck (show ¬ Dn y from fun h=>q1 (h.2.2.2.2.2.2.2.1 k aA).1));rw [Ck q1] at D1;clear q1;go_wp2;refine Bv Bl Bl ?_;repeat (go_big_quiet_step ((go_at_call 216;(with_reducible exact Hv D1.out))))
    refine Ak ?_;rintro _ ⟨⟨w3,b3⟩,rfl⟩;clear aJ;go_wp2;go_ret;exact ⟨Bw H.out.symm,Bs B0 b3⟩
   rw [D6 q1] at D1;by_cases q2:Dh y y.runs[k].id=k;case neg =>
    have H:=Bp (Ck (show ¬ Dn y from fun h=>q2 (h.2.2.2.2.2.2.2.1 k aA).2));have q2':(Dh y y.runs[k].id != (k:Int))=true:=by simp [q2]
    clear q1 q2;go_wp2;refine Bv Bl Bl ?_;repeat (go_big_quiet_step ((first | (go_at_call 216;(with_reducible exact Hv D1.out)) | (go_at_call 80;(with_reducible exact Hv D2.out)))))
    refine Ak ?_;rintro _ ⟨⟨w3,b3⟩,rfl⟩;clear aJ;go_wp2;go_ret;exact ⟨Bw H.out.symm,Bs B0 b3⟩
   have S:Hid (Pk y (k+1)):=fun j hj dN=>by
    by_cases e:j=k
    ·subst e;exact ⟨q1,q2⟩
    ·exact aU.out j hj Bk
   rw [q2] at D2;have q2':((k:Int) != (k:Int))=false:=Bm;clear q1 q2;go_wp2;refine Bv Bl Bl ?_;repeat (go_big_quiet_step ((first | (go_at_call 216;(with_reducible exact Hv D1.out)) | (go_at_call 80;(with_reducible exact Hv D2.out)))))
   refine Ak ?_;rintro _ ⟨⟨w3,b3⟩,rfl⟩;clear aJ;go_wp2;first
    | exact ⟨⟨k+1,Bk,by go_num,S,Bs hb b3⟩,by simp [intOf];omega⟩
    | (refine ⟨?_,by simp [intOf];omega⟩;(repeat apply Exists.intro);first | exact ⟨⟨k+1,Bk,by go_num,S,Bs hb b3⟩,rfl⟩ | exact ⟨⟨k+1,Bk,by go_num,S,Bs hb b3⟩,rfl,rfl⟩ | exact ⟨⟨k+1,Bk,by go_num,S,Bs hb b3⟩,rfl,rfl,rfl⟩ | exact ⟨⟨k+1,Bk,by go_num,S,Bs hb b3⟩,rfl,rfl,rfl,rfl⟩ | exact ⟨⟨k+1,Bk,by go_num,S,Bs hb b3⟩,rfl,rfl,rfl,rfl,rfl⟩ | exact ⟨⟨k+1,Bk,by go_num,S,Bs hb b3⟩,rfl,rfl,rfl,rfl,rfl,rfl⟩ | exact ⟨⟨k+1,Bk,by go_num,S,Bs hb b3⟩,rfl,rfl,rfl,rfl,rfl,rfl,rfl⟩)
  ·have aB:¬ (k:Int)<(y.runs.length:Int):=Bk;have HR1:Hid (Pk y y.runs.length):=fun j hj _=>aU.out j hj Bk;have C:=M5 y (⟨A1,n1,c1⟩,⟨A2,y.runs.length,c2⟩) wr hl (HR.out _ B0);go_wp2_with fail
   refine C.mono ?_;rintro e w2 ⟨v,rfl,o2,b2⟩;replace X:=X.below b2;replace B0:=Bs B0 b2;clear X_0 X_1 X_2 X_3 X_l aU aA aB hb;have O2:=Rd.of_own o2;clear o2;obtain ⟨A3,c3,rfl,-⟩:=id O2;have pD:=HEn.out;go_wp2;go_loopw [5] (fun i wr=>∃ k:Nat,k<=y.runs.length/\i = J U k/\Hid (Xb y k)/\Below w2 w2 wr) (fun i _=>y.runs.length - (intOf i).toNat);case atStart=>exact ⟨0,Ag _,rfl,fun j _ h0=>absurd h0 Bk,Bq _ _⟩
   case round =>
    obtain ⟨k,hk,rfl,aU,hb⟩:=hrel;replace X:=X.below hb;replace B0:=Bs B0 hb;obtain ⟨X_0,X_1,X_2,X_3,X_l⟩:=X.g4;by_cases aA:k<y.runs.length
    ·have aB:(k:Int)<(y.runs.length:Int):=Bk;obtain ⟨b,o,⟨⟨A8,n8,c8⟩,⟨At,nt,ct⟩⟩,dL,aG,cE,e0,e1,e2,e3,e4,e5,e6,e7⟩:=(h2.below B0).run aA;subst dL;have bL:b<wr:=Ai aG B0.size;have HRr:=Bp (show ∀ W,Below wr wr W->Co.rd W W y.runs[k] (⟨A8,n8,c8⟩,⟨At,nt,ct⟩) from fun W hW=>Co.rd_more (Co.rd_below (Co.rd_more cE B0.size) hW) hW.size);have jA:=HC.out k aA;have pB:=Ack (HR1.out k aA aA).1.2.1;have cU:y.runs[k].tasks.length<=2000000:=Ah (Ct G8 _) (by unfold C9 at jA;omega);have aJ:=Cy wr;have D3:=Bp (show ∀ u:Ix wr,_ from fun u=>Wj y (⟨A1,n1,c1⟩,⟨Ac ⟨b,o,Ab⟩,y.runs.length,c2⟩) y.runs[k] (⟨A8,n8,c8⟩,⟨At,nt,ct⟩) (Ce y) ⟨A3,(Ce y).length,c3⟩ u.1 cU pD sZ pB (HRr.out _ u.2) ((O2.below (Bs hb u.2)).more (Bs hb u.2).size));by_cases q3:Jk y.now y.runs[k] (Ce y);case neg =>
      have H:=Bp (Ck (show ¬ Dn y from fun h=>q3 (h.2.2.2.2.2.2.2.2.1 _ (Aw aA))));rw [Ck q3] at D3;clear q3;go_wp2;refine Bv Bl Bl ?_;repeat (go_big_quiet_step ((go_at_call 217;(with_reducible exact Hv D3.out))))
      refine Ak ?_;rintro _ ⟨⟨w3,b3⟩,rfl⟩;clear aJ;go_wp2;go_ret;exact ⟨Bw H.out.symm,Bs B0 b3⟩
     have S:Hid (Xb y (k+1)):=fun j hj dN=>by
      by_cases e:j=k
      ·subst e;exact q3
      ·exact aU.out j hj Bk
     rw [D6 q3] at D3;clear q3;go_wp2;refine Bv Bl Bl ?_;repeat (go_big_quiet_step ((go_at_call 217;(with_reducible exact Hv D3.out))))
     refine Ak ?_;rintro _ ⟨⟨w3,b3⟩,rfl⟩;clear aJ;go_wp2;first
      | exact ⟨⟨k+1,Bk,by go_num,S,Bs hb b3⟩,by simp [intOf];omega⟩
      | (refine ⟨?_,by simp [intOf];omega⟩;(repeat apply Exists.intro);first | exact ⟨⟨k+1,Bk,by go_num,S,Bs hb b3⟩,rfl⟩ | exact ⟨⟨k+1,Bk,by go_num,S,Bs hb b3⟩,rfl,rfl⟩ | exact ⟨⟨k+1,Bk,by go_num,S,Bs hb b3⟩,rfl,rfl,rfl⟩ | exact ⟨⟨k+1,Bk,by go_num,S,Bs hb b3⟩,rfl,rfl,rfl,rfl⟩ | exact ⟨⟨k+1,Bk,by go_num,S,Bs hb b3⟩,rfl,rfl,rfl,rfl,rfl⟩ | exact ⟨⟨k+1,Bk,by go_num,S,Bs hb b3⟩,rfl,rfl,rfl,rfl,rfl,rfl⟩ | exact ⟨⟨k+1,Bk,by go_num,S,Bs hb b3⟩,rfl,rfl,rfl,rfl,rfl,rfl,rfl⟩)
    ·have aB:¬ (k:Int)<(y.runs.length:Int):=Bk;have HRt:Hid (Jn y y.runs.length):=fun j hj hj2=>⟨(HR1.out j hj hj2).1,(HR1.out j hj hj2).2,aU.out j hj Bk⟩
     have HF:=Bp (Aeg A1_.out A2_.out A3_.out a4 HRt.out);have C:=Ov y (⟨A1,n1,c1⟩,⟨A2,y.runs.length,c2⟩) wr hl (HR.out _ B0);go_wp2_with fail
     refine C.mono ?_;rintro e w7 ⟨rfl,b7⟩;have HT:=Bp (show tf (Dn y)=decide ((Gt y:Int)<=40) by
      rw [Bool.eq_iff_iff,Kw,HF.out,decide_eq_true_eq];omega)
     generalize Gt y=N at *
     by_cases q:N<=40
     ·have H:=Bp (show tf (Dn y)=true by rw [HT.out];exact decide_eq_true Bk);go_wp2;go_ret;exact ⟨Bw (by rw [H.out];exact decide_eq_true Bk),Bs B0 b7⟩
     ·have H:=Bp (show tf (Dn y)=false by rw [HT.out];exact decide_eq_false Bk);go_wp2;go_ret;exact ⟨Bw (by rw [H.out];exact decide_eq_false Bk),Bs B0 b7⟩
theorem Ko {α β:Type} (f:β->α->β) (z:β) (l:List α) (k:Nat) (h:k<l.length):(l.take (k+1)).foldl f z=f ((l.take k).foldl f z) l[k]:=by
 rw [List.take_succ_eq_append_getElem h,List.foldl_append];rfl
theorem Vl (a b:List Entry) (s r:Sl) (w:World) (hl:a.length<=2000000) (hl':b.length<=2000000) (h:RdL Cg w w s.v a) (h':RdL Cg w w r.v b) :
  Calls An 206 #[.slice s.a s.n s.c,.slice r.a r.n r.c] w (Fc (Dt.list Cg) slV (Fg a b) w):=by
 obtain ⟨A,n,c⟩:=s;obtain rfl:n=a.length:=RdL.at1 (s:=⟨A,n,c⟩) h;obtain ⟨A',n',c'⟩:=r;obtain rfl:n'=b.length:=RdL.at1 (s:=⟨A',n',c'⟩) h';obtain ⟨i0,aL,aR,aS,aP⟩:=info_parts Fw;have h0:=Bp (fun W (hW:Below w w W)=>((Iv h).below hW).more hW.size);have q1:Below w w (w.alloc (.cells #[] 93)):=(Bq _ _).alloc (Br _) _;by_cases h8:80<a.length+b.length
 ·have hI:(80:Int)<(a.length:Int)+(b.length:Int):=Bk;have H:=Bp (show Fg a b=a from if_pos h8);go_enter Tryz.func206,Tryz.ntmps206;go_wp2_with (at_builtin;refine Bz _ Cu Bo rfl (.tmp 7) (.tmp 8) rfl Tryz.underlying96 aL aR aS aP rfl (base:=w.heap.size) (v:=.slice (Ac ⟨w,0,Ab⟩) 0 0) (l:=[]) rfl (Ow.empty Cu 93 w rfl) rfl (h0.out _ q1) Bm Bk Bo q1.size ?_;intro v1 w1 o1 g1 _;rw [List.nil_append] at o1;have d1:Below w w w1:=q1.grown g1 q1.size (fun g hg=>Nat.le_of_eq (Option.some.inj hg)))
  obtain ⟨s9,F9,rfl,o9,n9⟩:=Ha o1;go_ret;exact ⟨s9,F9,rfl,by rw [H.out];exact o9,n9,d1⟩
 have hI:¬ (80:Int)<(a.length:Int)+(b.length:Int):=Bk;have H:=Bp (show Fg a b=b.foldl Hu a from if_neg h8);go_enter Tryz.func206,Tryz.ntmps206;go_wp2_with (at_builtin;refine Bz _ Cu Bo rfl (.tmp 7) (.tmp 8) rfl Tryz.underlying96 aL aR aS aP rfl (base:=w.heap.size) (v:=.slice (Ac ⟨w,0,Ab⟩) 0 0) (l:=[]) rfl (Ow.empty Cu 93 w rfl) rfl (h0.out _ q1) Bm Bk Bo q1.size ?_;intro v1 w1 o1 g1 _;rw [List.nil_append] at o1;have d1:Below w w w1:=q1.grown g1 q1.size (fun g hg=>Nat.le_of_eq (Option.some.inj hg)))
 obtain ⟨s9,F9,rfl,o9,n9⟩:=Ha o1;go_loopw [5,6] (fun x i wr=>∃ (k:Nat) (t:Sl) (F:List Nat),k<=b.length/\x = .slice t.a t.n t.c/\i = .int .i64 k/\Hid (OwL Cg wr F t.v ((b.take k).foldl Hu a)/\(∀ x∈F,w<=x))/\Below w w wr) (fun _ i _=>b.length - (intOf i).toNat);case atStart=>exact ⟨0,s9,F9,Ag _,rfl,rfl,⟨o9,n9⟩,d1⟩
 case round =>
  clear o9 n9 d1 o1 g1;obtain ⟨k,t,F,hk,rfl,rfl,hO,hb⟩:=hrel;by_cases aA:k<b.length
  ·have aB:(k:Int)<(b.length:Int):=Bk;obtain ⟨b1,o,_,rfl,aG,_,c0,c1,c2,c3⟩:=(h'.below hb).entry aA;have hs:=hb.size;have bI:b1<wr:=Bk;have HT:=Bp (Ko Hu a b k aA);have aK:((b.take k).foldl Hu a).length<=2000000:=by rw [Kz];simp;omega
   have CP:=Bp (Jo ((b.take k).foldl Hu a) t b[k] wr aK hO.out.1.rd);generalize (b.take k).foldl Hu a=L at *
   go_wp2_with (go_at_call 239;refine CP.out.mono ?_;rintro e w2 ⟨t2,F2,rfl,o2,n2,b2⟩)
   exact ⟨⟨k+1,t2,F2,Bk,rfl,by go_num,⟨by rw [HT.out];exact o2,fun x hx=>Ah hs (n2 x hx)⟩,Bs hb b2⟩,by simp [intOf];omega⟩
  ·have aB:¬ (k:Int)<(b.length:Int):=Bk;have HO:=hO.out.1;rw [Bf Bk] at HO;go_wp2;go_ret;exact ⟨t,F,rfl,by rw [H.out];exact HO,hO.out.2,hb⟩
theorem Z8 {es:List (Nat×Nat)} {T t s:Nat} (h1:∀ e∈es,e.1<T):s∈Dl es T t ↔ (s,t)∈es:=by
 unfold Dl;simp only [List.mem_filter,List.mem_range,decide_eq_true_eq];exact ⟨fun h=>h.2,fun h=>⟨h1 _ h,h⟩⟩
theorem Sg {es:List (Nat×Nat)} {T t s:Nat} (h2:∀ e∈es,e.2<T):s∈Eg es T t ↔ (t,s)∈es:=by
 unfold Eg;simp only [List.mem_filter,List.mem_range,decide_eq_true_eq];exact ⟨fun h=>h.2,fun h=>⟨h2 _ h,h⟩⟩
section
variable {es:List (Nat×Nat)} {T:Nat} {l o:List Int} {ord:List Nat}
end
section
variable {es:List (Nat×Nat)} {T:Nat} {l:List Int} {ord:List Nat} {L:Int}
end
theorem K0 (l:List Entry) (s:Sl) (w:World) (hl:l.length<=2000000) (h:RdL Cg w w s.v l) :
  Calls An 122 #[.slice s.a s.n s.c] w fun e w'=>∃ v,e = .returned v/\Ow Cu 93 w' w v l/\Below w w w':=by
 obtain ⟨A,n,c⟩:=s;obtain rfl:n=l.length:=RdL.at1 (s:=⟨A,n,c⟩) h;obtain ⟨i0,aL,aR,aS,aP⟩:=info_parts Fw;go_enter Tryz.func122,Tryz.ntmps122;go_wp2_with (at_builtin;refine Bz _ Cu Bo rfl (.const (.slice Ab 0 0)) (.tmp 3) rfl Tryz.underlying96 aL aR aS aP rfl (v:=.slice Ab 0 0) (l:=[]) rfl (Ow.nil Cu 93 _ w) rfl (Iv h) Bm Bk Bo (Br _) ?_;intro v1 w1 o1 g1 _;rw [List.nil_append] at o1)
 go_ret;exact ⟨_,rfl,o1,(Bq w w).grown g1 (Br _) (fun g hg=>by cases hg)⟩
theorem Adi (x e:Entry) (p:Nat) (w:World) (hp:DBox p [J U e.prio,J U e.seq,J U e.run,J U e.task] w) :
  Calls An 193 #[H7 x (),.pointer (Ac ⟨p,0,Ab⟩)] w fun en w'=>en = .returned (.bool (!Dm x e))/\Below w w w':=by
 obtain ⟨W,aH,X,B0⟩:=bx1 w 93 [J U x.prio,J U x.seq,J U x.run,J U x.task];have P:=hp.below B0;have C:=Bp (fun W=>Ln x e W);go_enter Tryz.func193,Tryz.ntmps193;go_upto_region 1 with fail
 rw [<-aH.out];clear aH;have X_:=X.g4;have P_:=P.g4;go_wp2_with fail
 refine (C.out _).mono ?_;rintro en w1 ⟨rfl,b1⟩;go_wp2;go_ret;exact ⟨rfl,Bs B0 b1⟩
theorem Aeh (l:List Entry) (e:Entry):∃ k,k<=l.length/\Hu l e=l.take k ++ e :: l.drop k/\((E6 (fun x=>!Dm x e) l = -1/\k=l.length)\/(E6 (fun x=>!Dm x e) l=(k:Int)/\k<l.length)):=by
 rcases Lg (fun x=>!Dm x e) l with hr | ⟨k,hk,hr⟩
 ·refine ⟨l.length,Br _,?_,.inl ⟨hr,rfl⟩⟩
  have:=Tz (l:=l) (e:=e) (Br _) (fun j hj _=>by
   cases hp:Dm l[j] e with
   | true=>rfl
   | false=>exact absurd (Q7 (p:=fun x=>!Dm x e).2 ⟨_,Aw hj,by rw [hp];rfl⟩) Bk) (fun h=>absurd h Bk)
  rw [this,List.append_assoc];rfl
 ·refine ⟨k,Bk,?_,.inr ⟨hr,hk⟩⟩;unfold E6 at hr;cases hf:l.findIdx? (fun x=>!Dm x e) with
  | none=>rw [hf] at hr;simp only at hr;omega
  | some i =>
   rw [hf] at hr;simp only at hr;obtain ⟨hi,hp,hb⟩:=List.findIdx?_eq_some_iff_getElem.1 hf;obtain rfl:i=k:=Bk
   have:=Tz (l:=l) (e:=e) (k:=i) Bk (fun j hj dN=>by simpa using hb j dN) (fun h=>by simpa using hp)
   rw [this,List.append_assoc];rfl
theorem Rk (l:List Entry) (s:Sl) (e:Entry) (w:World) (hl:l.length<=900000) (h:RdL Cg w w s.v l) :
  Calls An 137 #[Aa s.a s.n s.c,H7 e ()] w (Fc (Dt.list Cg) slV (Hu l e) w):=by
 obtain ⟨A,n,c⟩:=s;obtain rfl:n=l.length:=RdL.at1 (s:=⟨A,n,c⟩) h;obtain ⟨W,aH,E,B0⟩:=bx1 w 93 [J U e.prio,J U e.seq,J U e.run,J U e.task];have CI:=Bp (Vh 193 w (fun x=>!Dm x e) (Abo Tryz.func193 Bl Bl) l A l.length c _ Bk ((Iv h).below B0 |>.more B0.size) (fun W' x hW=>Adi x e w W' (E.below hW)));have CC:=Bp (fun W (hW:Below w w W)=>K0 l ⟨A,l.length,c⟩ W Bk ((h.below hW).more hW.size));obtain ⟨k,hk,cG,hi⟩:=Aeh l e;replace cG:=Bp cG;have hEl:=E.lt;go_enter Tryz.func137,Tryz.ntmps137;go_wp2_with fail
 rw [<-aH.out];clear aH;refine CI.out.mono ?_;rintro e1 w1 ⟨rfl,b1⟩;replace E:=E.below b1;have B1:=Bs B0 b1;clear CI b1 B0;have nH:E6 (fun x=>!Dm x e) l = -1\/E6 (fun x=>!Dm x e) l=(k:Int):=hi.imp (·.1) (·.1);clear nH;rcases hi with ⟨hi,gY⟩ | ⟨hi,hklt⟩
 rw [gY] at cG;rw [hi];clear hi hk gY;have hk:=Br l.length;rotate_left;rw [hi];have cS:¬ (k:Int)<0:=Bk;clear hi hklt;all_goals go_upto_region 4 with fail
 all_goals
  refine Go.wp_region_noPanic ?_;refine wp_region_held_drew (S:=fun w'=>DBox w [J U e.prio,J U e.seq,J U e.run,J U e.task] w') Bl (DBox.drew4 E) (fun hHeld=>?_);replace E:=DBox.drew4 E;have B2:=B1.drew;generalize w1.drew=w2 at *
  refine tY 0 ?_
  (try simp only [pS])
  refine tY 2 ?_
  (try simp only [pS])
  refine tY 3 ?_
  (try simp only [pS])
  have aP:=B2.size;have hEl2:=E.lt;refine Xq 1 4 rfl rfl Bl (by rfl) (by rfl) (fun K_ hK=>?_) (fun K_ hK=>?_)
  ·go_simp;refine (CC.out w2 B2).mono ?_;rintro e3 w3 ⟨v3,rfl,o3,b3⟩;refine hK.out _ _ (E.below b3) (fun hHeld=>?_);clear hK K_
   (try simp only [pS])
   refine rC 4 (fun K_ hK=>?_);go_simp;have ba:Below w3 w3 (w3.alloc (.cells #[J U e.prio,J U e.seq,J U e.run,J U e.task] 93)):=(Bq _ _).alloc (Br _) _;have hx:(w3.alloc (.cells #[J U e.prio,J U e.seq,J U e.run,J U e.task] 93)).heap[w3.heap.size]? = Ac (.cells (Cu.cells e).toArray 93 (0,0)):=heap_alloc_new w3 _;have ow:=o3.within;replace o3:=o3.below ba;have B4:=Bs B2 (Bs b3 ba);have E4:=E.below (Bs b3 ba);have eW:w3.heap.size<(w3.alloc (.cells #[J U e.prio,J U e.seq,J U e.run,J U e.task] 93)).heap.size:=Bm;have bY:=b3.size;generalize w3.heap.size=xb at *
   generalize w3.alloc (.cells #[J U e.prio,J U e.seq,J U e.run,J U e.task] 93)=w4 at *
   refine hK.out _ _ E4 (fun hHeld=>?_);clear hK K_
   (try simp only [pS])
   refine rC 5 (fun K_ hK=>?_);go_simp;refine (M6 v3 l _ xb e w2 w4 hk Bk o3 Bk hx (fun h=>by have:=(ow _ h).2;omega)).mono ?_;rintro e5 w5 ⟨v5,rfl,o5,g5,-⟩;rw [<-cG.out] at o5;have B5:Below w w w5:=B4.grown g5 B4.size (fun g hg=>by have:=(ow g hg).1;omega);refine hK.out _ _ (E4.off g5 (fun h=>by have:=(ow _ h.symm).1;omega)) (fun hHeld=>?_);clear hK K_
   (try simp only [pS])
   refine rC 6 (fun K_ hK=>?_);go_simp;refine hK.out _ _ hHeld (fun hHeld=>?_);clear hK K_
   (try simp only [pS])
   refine Al Bl ?_ _;refine NoPanic.normal ?_;obtain ⟨s9,F9,rfl,o9,n9⟩:=Ha (o5.more aP);go_wp2;go_ret;exact ⟨s9,F9,rfl,o9,n9,B5⟩
  ·go_simp;have ba:Below w2 w2 (w2.alloc (.cells #[J U e.prio,J U e.seq,J U e.run,J U e.task] 93)):=(Bq _ _).alloc (Br _) _;have hx:(w2.alloc (.cells #[J U e.prio,J U e.seq,J U e.run,J U e.task] 93)).heap[w2.heap.size]? = Ac (.cells (Cu.cells e).toArray 93 (0,0)):=heap_alloc_new w2 _;have B3:=Bs B2 ba;replace E:=E.below ba;have eW:w2.heap.size<(w2.alloc (.cells #[J U e.prio,J U e.seq,J U e.run,J U e.task] 93)).heap.size:=Bm;generalize w2.heap.size=xb at *
   generalize w2.alloc (.cells #[J U e.prio,J U e.seq,J U e.run,J U e.task] 93)=w3 at *
   refine hK.out _ _ E (fun hHeld=>?_);clear hK K_
   (try simp only [pS])
   refine rC 1 (fun K_ hK=>?_);go_simp;refine (CC.out w3 B3).mono ?_;rintro e3 w4 ⟨v3,rfl,o3,b4⟩;replace hx:=(b4.block xb eW).trans hx;have ow:=o3.within;have B4:=Bs B3 b4;have E4:=E.below b4;have hz3:=B3.size;have hz4:=b4.size;refine hK.out _ _ E4 (fun hHeld=>?_);clear hK K_
   (try simp only [pS])
   refine rC 5 (fun K_ hK=>?_);go_simp;refine (M6 v3 l _ xb e w3 w4 hk Bk o3 Bk hx (fun h=>by have:=(ow _ h).1;omega)).mono ?_;rintro e5 w5 ⟨v5,rfl,o5,g5,-⟩;rw [<-cG.out] at o5;have B5:Below w w w5:=B4.grown g5 B4.size (fun g hg=>by have:=(ow g hg).1;omega);refine hK.out _ _ (E4.off g5 (fun h=>by have:=(ow _ h.symm).1;omega)) (fun hHeld=>?_);clear hK K_
   (try simp only [pS])
   refine rC 6 (fun K_ hK=>?_);go_simp;refine hK.out _ _ hHeld (fun hHeld=>?_);clear hK K_
   (try simp only [pS])
   refine Al Bl ?_ _;refine NoPanic.normal ?_;obtain ⟨s9,F9,rfl,o9,n9⟩:=Ha (o5.more hz3);go_wp2;go_ret;exact ⟨s9,F9,rfl,o9,n9,B5⟩
def Hr (y:Yard) (was r:Run) (n:Nat):Yard:=(Gi was r n).foldl (fun y t=>J3 y r t) y
theorem Z9 {y:Yard} {was r:Run} {n:Nat} (h1:(Bx r n).state=2) (h2:¬ (Bx was n).state=2):Hr y was r (n+1)=J3 (Hr y was r n) r n:=by
 unfold Hr;rw [Vg,if_pos ⟨h1,h2⟩,List.foldl_append];rfl
theorem Acm {y:Yard} {was r:Run} {n:Nat} (h:¬ ((Bx r n).state=2 /\ ¬ (Bx was n).state=2)):Hr y was r (n+1)=Hr y was r n:=by
 unfold Hr;rw [Vg,if_neg h,List.append_nil]
theorem Rl (was r:Run) (n:Nat):(Gi was r n).length<=n:=by
 unfold Gi;exact Ah (List.length_filter_le _ _) Bm
theorem Qm (r:Run) (M:Nat):∀ (l:List Nat) (y:Yard),(∀ s∈y.shelf,s.length<=M) -> ∀ s∈(l.foldl (fun y t=>J3 y r t) y).shelf,s.length<=M+l.length
 | [],y,h=>fun s hs=>by simpa using h s hs
 | t :: l,y,h=>fun s hs=>by
  have h1:∀ s∈(J3 y r t).shelf,s.length<=M+1:=by
   intro s hs;unfold J3 at hs;rcases List.mem_or_eq_of_mem_set hs with h2 | h2
   ·exact Nat.le_succ_of_le (h s h2)
   ·subst h2;rw [Zo,List.getD_eq_getElem?_getD];cases q:y.shelf[Cz r.id]? with
    | none=>simp
    | some z=>have:=h z (List.mem_of_getElem? q);simp;omega
  have:=Qm r (M+1) l (J3 y r t) h1 s hs
  rw [List.length_cons];omega
structure LayF (y:Yard) (r:Run) (M n:Nat) (z:Yard):Prop where
 now:z.now=y.now
 runs:z.runs=y.runs
 len:z.shelf.length=y.shelf.length
 seq:y.seq<=z.seq/\z.seq<=y.seq+n
 all:∀ s∈z.shelf,s.length<=M+n
theorem Rm {y:Yard} {was r:Run} {M:Nat} (hM:∀ s∈y.shelf,s.length<=M) (n:Nat):LayF y r M n (Hr y was r n):=by
 obtain ⟨h1,h2,h3,h4⟩:=Nq r (Gi was r n) y;have h5:=Rl was r n;exact ⟨h1,h2,h3,by unfold Hr;rw [h4];omega,fun s hs=>Ah (Qm r M (Gi was r n) y hM s hs) Bk⟩
theorem Chg.high {F:List Nat} {a b:World} (h:Chg F a b) {g:Nat} (hg:a<=g) (o:Nat) (u:Value):Chg F a (b.setCell ⟨g,o,Ab⟩ u) :=
 ⟨h.os,h.tape,h.output,by simp [World.setCell];exact h.size,fun i hi hn=>(Below.heap_setCell b ⟨g,o,Ab⟩ u i (by show i≠g;omega)).trans (h.block i hi hn)⟩
theorem Chg.drew {F:List Nat} {a b:World} (h:Chg F a b):Chg F a b.drew:=⟨h.os,h.tape,h.output,h.size,h.block⟩
def Afg (z:Yard) (g o cs n:Nat) (R:Sl) (Fs:List Nat) (w:World) (e:Ending) (w':World):Prop :=
 ∃ F',e = .returned (Du z (⟨Ac ⟨g,o,Ab⟩,n,cs⟩,R))/\OwL (Dt.list Cg) w' F' (Aa (Ac ⟨g,o,Ab⟩) n cs) z.shelf/\(∀ x∈F',x∈Fs\/w<=x)/\Chg [g] w w'
theorem OwL.free0 {α:Type} {d:Dt α} {w:World} {F:List Nat} {b o n c:Nat} {l:List α} (h:OwL d w F (Aa (Ac ⟨b,o,Ab⟩) n c) l) (hp:0<l.length):∀ j,w.frozen? ⟨b,j,Ab⟩=false:=by
 obtain ⟨rs,H,G,hm,hh,ho,rfl,hn⟩:=h;have jH:0<rs.length:=by rw [<-hm,Au] at hp;exact hp
 obtain ⟨b',o',hA,rfl,mU,hf⟩:=hh.at_ jH;simp only [Option.some.injEq,Addr.mk.injEq,and_true] at hA;obtain ⟨rfl,rfl⟩:=hA;exact hf
theorem Afh {b:Nat} {w:World} {u0 u1 u2 u3:Value} (X:DBox b [u0,u1,u2,u3] w) {v0 v1 v2 v3 v4 v5:Value} {rest:List Value} :
  (results Tryz.f202 (v0 :: v1 :: v2 :: v3 :: v4 :: v5 :: .pointer (Ac ⟨b,0,Ab⟩) :: rest).toArray).run An w = .ok (.agg #[u0,u1,u2,u3]) w:=by
 have c0:=X.cell 0 _ rfl;have c1:=X.cell 1 _ rfl;have c2:=X.cell 2 _ rfl;have c3:=X.cell 3 _ rfl;simp [results,Tryz.results202,go_sem,c0,c1,c2,c3]
theorem Si (y:Yard) (g o cs:Nat) (R:Sl) (was:Run) (sw:Sl×Sl) (r:Run) (sr:Sl×Sl) (w:World) (Fs:List Nat) (h4:y.shelf.length=4) (hM:∀ s∈y.shelf,s.length<=1000000) (hq:0<=y.seq/\y.seq<=2000000000) (hT:r.tasks.length<=1000) (qM:was.tasks.length<=1000)
  (hs:OwL (Dt.list Cg) w Fs (Aa (Ac ⟨g,o,Ab⟩) y.shelf.length cs) y.shelf)
  (HR:Hid (∀ W,Chg [g] w W->RdL Eo W W (Aa sr.2.a sr.2.n sr.2.c) r.tasks)) (HW:Hid (∀ W,Chg [g] w W->RdL Eo W W (Aa sw.2.a sw.2.n sw.2.c) was.tasks)) :
  Calls An 202 #[Du y (⟨Ac ⟨g,o,Ab⟩,y.shelf.length,cs⟩,R),Hc was sw,Hc r sr] w (Afg (Qk y was r) g o cs y.shelf.length R Fs w):=by
 have fJ:g<w:=by
  obtain ⟨b,o',s,hA,hb,_⟩:=hs.rd.entryS (k:=0) Bk;simp only [Option.some.injEq,Addr.mk.injEq,and_true] at hA;omega
 have hFs:=Bp hs.lt;have rI:Cz r.id<y.shelf.length:=by rw [h4];exact Vd _
 obtain ⟨⟨ea,en,ec⟩,⟨ta,tn,tc⟩⟩:=sr;obtain ⟨⟨ea',en',ec'⟩,⟨ta',tn',tc'⟩⟩:=sw;have qW:tn=r.tasks.length:=RdL.at1 (s:=⟨ta,tn,tc⟩) (HR.out w (Chg.refl _ _));have htn':tn'=was.tasks.length:=RdL.at1 (s:=⟨ta',tn',tc'⟩) (HW.out w (Chg.refl _ _));subst qW htn';replace h4:=Bp h4;have Y:=(((DBox.new 31 [J U y.now,J U y.seq,Aa (Ac ⟨g,o,Ab⟩) y.shelf.length cs,Aa R.a R.n R.c] w (b:=w.heap.size) rfl).below ((Bq _ _).alloc (Br _) (.cells #[J U was.id,J U was.plan.prio,J U was.plan.most,J U was.plan.wait,J U was.plan.tasks,Aa ea' en' ec',J U was.state,Aa ta' was.tasks.length tc'] 89))).below ((Bq _ _).alloc (Br _) (.cells #[J U r.id,J U r.plan.prio,J U r.plan.most,J U r.plan.wait,J U r.plan.tasks,Aa ea en ec,J U r.state,Aa ta r.tasks.length tc] 89))).below ((Bq _ _).alloc (Br _) (.cells #[J U 0,J U 0,Aa Ab 0 0,Aa Ab 0 0] 31));have WB:=((DBox.new 89 [J U was.id,J U was.plan.prio,J U was.plan.most,J U was.plan.wait,J U was.plan.tasks,Aa ea' en' ec',J U was.state,Aa ta' was.tasks.length tc'] (w.alloc (.cells #[J U y.now,J U y.seq,Aa (Ac ⟨g,o,Ab⟩) y.shelf.length cs,Aa R.a R.n R.c] 31)) (b:=w.heap.size+1) Bm).below ((Bq _ _).alloc (Br _) (.cells #[J U r.id,J U r.plan.prio,J U r.plan.most,J U r.plan.wait,J U r.plan.tasks,Aa ea en ec,J U r.state,Aa ta r.tasks.length tc] 89))).below ((Bq _ _).alloc (Br _) (.cells #[J U 0,J U 0,Aa Ab 0 0,Aa Ab 0 0] 31));have RB:=(DBox.new 89 [J U r.id,J U r.plan.prio,J U r.plan.most,J U r.plan.wait,J U r.plan.tasks,Aa ea en ec,J U r.state,Aa ta r.tasks.length tc] ((w.alloc (.cells #[J U y.now,J U y.seq,Aa (Ac ⟨g,o,Ab⟩) y.shelf.length cs,Aa R.a R.n R.c] 31)).alloc (.cells #[J U was.id,J U was.plan.prio,J U was.plan.most,J U was.plan.wait,J U was.plan.tasks,Aa ea' en' ec',J U was.state,Aa ta' was.tasks.length tc'] 89)) (b:=w.heap.size+1+1) Bm).below ((Bq _ _).alloc (Br _) (.cells #[J U 0,J U 0,Aa Ab 0 0,Aa Ab 0 0] 31));have RES:=DBox.new 31 [J U 0,J U 0,Aa Ab 0 0,Aa Ab 0 0] (((w.alloc (.cells #[J U y.now,J U y.seq,Aa (Ac ⟨g,o,Ab⟩) y.shelf.length cs,Aa R.a R.n R.c] 31)).alloc (.cells #[J U was.id,J U was.plan.prio,J U was.plan.most,J U was.plan.wait,J U was.plan.tasks,Aa ea' en' ec',J U was.state,Aa ta' was.tasks.length tc'] 89)).alloc (.cells #[J U r.id,J U r.plan.prio,J U r.plan.most,J U r.plan.wait,J U r.plan.tasks,Aa ea en ec,J U r.state,Aa ta r.tasks.length tc] 89)) (b:=w.heap.size+1+1+1) Bm;have B0:Below w w ((((w.alloc (.cells #[J U y.now,J U y.seq,Aa (Ac ⟨g,o,Ab⟩) y.shelf.length cs,Aa R.a R.n R.c] 31)).alloc (.cells #[J U was.id,J U was.plan.prio,J U was.plan.most,J U was.plan.wait,J U was.plan.tasks,Aa ea' en' ec',J U was.state,Aa ta' was.tasks.length tc'] 89)).alloc (.cells #[J U r.id,J U r.plan.prio,J U r.plan.most,J U r.plan.wait,J U r.plan.tasks,Aa ea en ec,J U r.state,Aa ta r.tasks.length tc] 89)).alloc (.cells #[J U 0,J U 0,Aa Ab 0 0,Aa Ab 0 0] 31)):=by repeat (first | exact Bq _ _ | refine Ae ?_ Bn _)
 go_enter Tryz.func202,Tryz.ntmps202;go_wp2_with (go_at_call 238;refine (Tm r.id _).mono ?_;rintro e w1 ⟨rfl,b1⟩)
 replace Y:=Y.below b1;replace WB:=WB.below b1;replace RB:=RB.below b1;replace RES:=RES.below b1;replace B0:=Bs B0 b1;clear b1;generalize Du y (⟨Ac ⟨g,o,Ab⟩,y.shelf.length,cs⟩,R)=yv;generalize Hc was (⟨ea',en',ec'⟩,⟨ta',was.tasks.length,tc'⟩)=wv;generalize Hc r (⟨ea,en,ec⟩,⟨ta,r.tasks.length,tc⟩)=rv;have C0:=Chg.of_below [g] B0;have hO0:=hs.below B0;go_loopw [8] (fun i wr=>∃ (n:Nat) (F:List Nat),n<=r.tasks.length/\i = J U n/\Hid (OwL (Dt.list Cg) wr F (Aa (Ac ⟨g,o,Ab⟩) y.shelf.length cs) (Hr y was r n).shelf/\(∀ x∈F,x∈Fs\/w.heap.size+4<=x))/\DBox w [J U y.now,J U (Hr y was r n).seq,Aa (Ac ⟨g,o,Ab⟩) y.shelf.length cs,Aa R.a R.n R.c] wr/\DBox (w.heap.size+1) [J U was.id,J U was.plan.prio,J U was.plan.most,J U was.plan.wait,J U was.plan.tasks,Aa ea' en' ec',J U was.state,Aa ta' was.tasks.length tc'] wr/\DBox (w.heap.size+1+1) [J U r.id,J U r.plan.prio,J U r.plan.most,J U r.plan.wait,J U r.plan.tasks,Aa ea en ec,J U r.state,Aa ta r.tasks.length tc] wr/\DBox (w.heap.size+1+1+1) [J U 0,J U 0,Aa Ab 0 0,Aa Ab 0 0] wr/\Chg [g] w wr) (fun i _=>r.tasks.length - (intOf i).toNat);case atStart=>exact ⟨0,Fs,Ag _,rfl,⟨hO0,fun x hx=>.inl hx⟩,Y,WB,RB,RES,C0⟩
 case round =>
  clear Y WB RB RES C0 hO0 B0;obtain ⟨n,F,hn,rfl,hO,Y,WB,RB,RES,hb⟩:=hrel;have hf:=Rm (was:=was) (r:=r) hM n;obtain ⟨Y_0,Y_1,Y_2,Y_3,Y_l⟩:=Y.g4;have WB_:=WB.g8;obtain ⟨RB_0,RB_1,RB_2,RB_3,RB_4,RB_5,RB_6,RB_7,RB_l⟩:=RB.g8;obtain ⟨RES_0,RES_1,RES_2,RES_3,RES_l⟩:=RES.g4;by_cases aA:n<r.tasks.length;case neg =>
   have aB:¬ (n:Int)<(r.tasks.length:Int):=Bk;obtain rfl:n=r.tasks.length:=Bk;have HE:Hid (Hr y was r r.tasks.length=Qk y was r):=rfl;have rf:=RES.free;go_wp2;have R4:=DBox.row4 RES rfl (J U y.now) (J U (Hr y was r r.tasks.length).seq) (Aa (Ac ⟨g,o,Ab⟩) y.shelf.length cs) (Aa R.a R.n R.c);refine Aj (Afh R4) rfl ⟨F,?_,?_,?_,?_⟩
   ·rw [<-HE.out,<-hf.now]
   ·rw [<-HE.out];have hn3:w.heap.size+1+1+1∉F:=fun hx=>by rcases hO.out.2 _ hx with h | h;(have:=hFs.out _ h;omega);omega
    exact (((hO.out.1.set (a:=⟨_,_,Ab⟩) hn3 _).set (a:=⟨_,_,Ab⟩) hn3 _).set (a:=⟨_,_,Ab⟩) hn3 _).set (a:=⟨_,_,Ab⟩) hn3 _
   ·exact fun x hx=>(hO.out.2 x hx).imp id (fun h=>Bk)
   ·exact (((hb.high Bk _ _).high Bk _ _).high Bk _ _).high Bk _ _
  have aB:(n:Int)<(r.tasks.length:Int):=Bk;have hn0:(0:Int)<=(n:Int):=Bk;obtain ⟨b1,o1,_,rfl,aG,_,c0,-,-,-⟩:=(HR.out wr hb).task aA;have ht:=Bp (Cn aA);by_cases q1:r.tasks[n].state=2;case neg =>
   have q2:(r.tasks[n].state != 2)=true:=by simp [q1]
   have aE:=Bp (Acm (y:=y) (was:=was) (r:=r) (n:=n) (fun h=>by rw [ht.out] at h;exact q1 h.1));clear q1;go_wp2;exact ⟨⟨n+1,F,Bk,by go_num,by rw [aE.out];exact hO,by rw [aE.out];exact Y,WB,RB,RES,hb⟩,by simp [intOf];omega⟩
  have q2:(r.tasks[n].state != 2)=false:=by simp [q1]
  have pH:=Bp (show (Bx r n).state=2 by rw [ht.out];exact q1);clear q1;by_cases hlw:n<was.tasks.length
  ·have hlwI:(n:Int)<(was.tasks.length:Int):=Bk;obtain ⟨b2,o2,_,rfl,jP,_,d0,-,-,-⟩:=(HW.out wr hb).task hlw;have rX:=Bp (Cn hlw);by_cases q3:was.tasks[n].state=2
   ·have q4:(was.tasks[n].state == 2)=true:=by simp [q3]
    have aE:=Bp (Acm (y:=y) (was:=was) (r:=r) (n:=n) (fun h=>by rw [rX.out] at h;exact h.2 q3));clear q3;go_wp2;exact ⟨⟨n+1,F,Bk,by go_num,by rw [aE.out];exact hO,by rw [aE.out];exact Y,WB,RB,RES,hb⟩,by simp [intOf];omega⟩
   ·have q4:(was.tasks[n].state == 2)=false:=by simp [q3]
    have aE:=Bp (Z9 (y:=y) pH.out (show ¬ (Bx was n).state=2 by rw [rX.out];exact q3));clear q3;have nV:Cz r.id<(Hr y was r n).shelf.length:=by rw [hf.len];exact rI
    obtain ⟨b9,o9,sk,bX,hbb9,bP,ck⟩:=hO.out.1.rd.entryS nV;simp only [Option.some.injEq,Addr.mk.injEq,and_true] at bX;obtain ⟨rfl,rfl⟩:=bX;have eC:((Cz r.id:Nat):Int)<(y.shelf.length:Int):=Bk;have cS:(0:Int)<=((Cz r.id:Nat):Int):=Bk;have qP:(Hr y was r n).shelf[Cz r.id].length<=2000000:=by have:=hf.all _ (Aw nV);omega
    have bW:=Bp (show (Hr y was r n).shelf.getD (Cz r.id) []=(Hr y was r n).shelf[Cz r.id] by rw [List.getD_eq_getElem?_getD,List.getElem?_eq_getElem nV];rfl);have fL:=hO.out.1.free0 Bk;have CP:=Bp (Jo (Hr y was r n).shelf[Cz r.id] sk ⟨r.plan.prio,(Hr y was r n).seq,r.id,n⟩ wr.drew qP (bP.below (Bq _ _).drew));go_wp2;refine Dj (fun w'=>w'.cell? ⟨w,1,Ab⟩=Ac (J U (Hr y was r n).seq)/\w'.cell? ⟨w,2,Ab⟩=Ac (Aa (Ac ⟨g,o,Ab⟩) y.shelf.length cs)/\w'.cell? ⟨w.heap.size+1+1,0,Ab⟩=Ac (J U r.id)/\w'.cell? ⟨w.heap.size+1+1,1,Ab⟩=Ac (J U r.plan.prio)/\w'.cell? ⟨g,o+Cz r.id,Ab⟩=Ac (Aa sk.a sk.n sk.c)) 19 Bl ?_ (fun hHeld=>?_)
    ·exact ⟨Y_1,Y_2,RB_0,RB_1,ck⟩
    refine aT 0 hHeld ?_;try simp only [pS]
    refine aT 1 hHeld ?_;try simp only [pS]
    refine aT 2 hHeld ?_;try simp only [pS]
    refine aT 3 hHeld ?_;try simp only [pS]
    refine aT 4 hHeld ?_;try simp only [pS]
    refine aT 5 hHeld ?_;try simp only [pS]
    refine aT 6 hHeld ?_;try simp only [pS]
    refine aT 7 hHeld ?_;try simp only [pS]
    refine aT 8 hHeld ?_;try simp only [pS]
    refine aT 9 hHeld ?_;try simp only [pS]
    refine aT 10 hHeld ?_;try simp only [pS]
    refine aT 11 hHeld ?_;try simp only [pS]
    refine aT 12 hHeld ?_;try simp only [pS]
    refine aT 13 hHeld ?_;try simp only [pS]
    refine aT 14 hHeld ?_;try simp only [pS]
    refine aT 15 hHeld ?_;try simp only [pS]
    refine aT 16 hHeld ?_;try simp only [pS]
    refine oT 17 (fun K hK=>?_)
    (go_simp;refine CP.out.mono ?_;rintro e w2 ⟨t2,F2,rfl,o2,n2,b2⟩;have qJ:w2.cell? ⟨g,o+Cz r.id,Ab⟩=Ac (Aa sk.a sk.n sk.c):=(b2.cell (p:=⟨_,_,Ab⟩) (by show g<wr;have:=hb.size;omega)).trans ck;have pV:w2.frozen? ⟨g,o+Cz r.id,Ab⟩=false:=(b2.frozen (p:=⟨_,_,Ab⟩) (by show g<wr;have:=hb.size;omega)).trans (fL _))
    refine hK.out _ _ (fun _=>?_) ?_
    ·exact ⟨(b2.cell (p:=⟨_,_,Ab⟩) (by show w.heap.size<wr.heap.size;omega)).trans Y_1,(b2.cell (p:=⟨_,_,Ab⟩) (by show w.heap.size<wr.heap.size;omega)).trans Y_2,(b2.cell (p:=⟨_,_,Ab⟩) (by show w.heap.size+1+1<wr.heap.size;omega)).trans RB_0,(b2.cell (p:=⟨_,_,Ab⟩) (by show w.heap.size+1+1<wr.heap.size;omega)).trans RB_1,(b2.cell (p:=⟨_,_,Ab⟩) (by show g<wr;have:=hb.size;omega)).trans ck⟩
    clear hK K;try simp only [pS]
    refine oT 18 (fun K hK=>?_);go_simp;refine hK.out _ _ (fun _=>?_) ?_
    ·exact ⟨(b2.cell (p:=⟨_,_,Ab⟩) (by show w.heap.size<wr.heap.size;omega)).trans Y_1,(b2.cell (p:=⟨_,_,Ab⟩) (by show w.heap.size<wr.heap.size;omega)).trans Y_2,(b2.cell (p:=⟨_,_,Ab⟩) (by show w.heap.size+1+1<wr.heap.size;omega)).trans RB_0,(b2.cell (p:=⟨_,_,Ab⟩) (by show w.heap.size+1+1<wr.heap.size;omega)).trans RB_1,(b2.cell (p:=⟨_,_,Ab⟩) (by show g<wr;have:=hb.size;omega)).trans ck⟩
    clear hK K;try simp only [pS]
    refine oT 19 (fun K hK=>?_);go_simp;refine hK.out _ _ (fun aC=>absurd rfl aC) ?_;clear hK K;try simp only [pS]
    refine Ec Bl ?_ _;have b2':Below wr wr w2:=Bs (Bq _ _).drew b2;obtain ⟨F',p1,p2,p3,p4⟩:=OwL.swap (hO.out.1.below b2') nV (y:=Hu (Hr y was r n).shelf[Cz r.id] ⟨r.plan.prio,(Hr y was r n).seq,r.id,n⟩) (s:=t2) (Fy:=F2) o2 (fun x hx bF=>by have h1:=n2 x hx;have h2:=hO.out.1.lt x bF;have h3:wr.drew.heap.size=wr.heap.size:=rfl;omega);have fZ:Io w2 g (o+Cz r.id * (Dt.list Cg).enc.sz) ((Dt.list Cg).enc.cells (Hu (Hr y was r n).shelf[Cz r.id] ⟨r.plan.prio,(Hr y was r n).seq,r.id,n⟩,t2))=w2.setCell ⟨g,o+Cz r.id,Ab⟩ (Aa t2.a t2.n t2.c):=by
     rw [show (Dt.list Cg).enc.sz=1 from rfl,Nat.mul_one];rfl
    rw [fZ] at p1;have B3:Chg [g] w (w2.setCell ⟨g,o+Cz r.id,Ab⟩ (Aa t2.a t2.n t2.c)):=(hb.trans (Chg.of_below [g] b2')).trans (Chg.setCell w2 g _ _);have bG:=RES_l;clear Y_0 Y_1 Y_2 Y_3 Y_l;clear WB_;clear RB_0 RB_1 RB_2 RB_3 RB_4 RB_5 RB_6 RB_7 RB_l;clear RES_0 RES_1 RES_2 RES_3 RES_l;replace Y:=(Y.below b2').setOther (a:=⟨g,o+Cz r.id,Ab⟩) (by show w.heap.size≠g;omega) (Aa t2.a t2.n t2.c);replace WB:=(WB.below b2').setOther (a:=⟨g,o+Cz r.id,Ab⟩) (by show w.heap.size+1≠g;omega) (Aa t2.a t2.n t2.c);replace RB:=(RB.below b2').setOther (a:=⟨g,o+Cz r.id,Ab⟩) (by show w.heap.size+1+1≠g;omega) (Aa t2.a t2.n t2.c);replace RES:=(RES.below b2').setOther (a:=⟨g,o+Cz r.id,Ab⟩) (by show w.heap.size+1+1+1≠g;omega) (Aa t2.a t2.n t2.c);generalize w2.setCell ⟨g,o+Cz r.id,Ab⟩ (Aa t2.a t2.n t2.c)=w3 at *
    have jL:=hf.seq;have y1:=Y.cell 1 _ rfl;have yf:=Y.free;have yl:=Y.lt;have hhs:w.heap.size∉F':=fun hx=>by rcases p2 _ hx with h | h;(rcases hO.out.2 _ h with h | h;(have:=hFs.out _ h;omega);omega);(have:=n2 _ h;have h3:wr.drew.heap.size=wr.heap.size:=rfl;omega)
    clear hHeld;go_wp2;exact ⟨⟨n+1,F',Bk,by go_num,⟨by rw [aE.out];unfold J3;rw [bW.out];exact p1.set (a:=⟨w,1,Ab⟩) hhs _,fun x hx=>by rcases p2 x hx with h | h;exact hO.out.2 x h;right;have:=n2 _ h;have h3:wr.drew.heap.size=wr.heap.size:=rfl;omega⟩,by rw [aE.out];exact Y.set 1 Bm _,WB.setOther (by show w.heap.size+1≠w.heap.size;omega) _,RB.setOther (by show w.heap.size+1+1≠w.heap.size;omega) _,RES.setOther (by show w.heap.size+1+1+1≠w.heap.size;omega) _,B3.high (Br _) _ _⟩,by simp [intOf];omega⟩
  ·have hlwI:¬ (n:Int)<(was.tasks.length:Int):=Bk;have aE:=Bp (Z9 (y:=y) pH.out (show ¬ (Bx was n).state=2 by unfold Bx;rw [List.getD_eq_getElem?_getD,List.getElem?_eq_none Bk];simp));have nV:Cz r.id<(Hr y was r n).shelf.length:=by rw [hf.len];exact rI
   obtain ⟨b9,o9,sk,bX,hbb9,bP,ck⟩:=hO.out.1.rd.entryS nV;simp only [Option.some.injEq,Addr.mk.injEq,and_true] at bX;obtain ⟨rfl,rfl⟩:=bX;have eC:((Cz r.id:Nat):Int)<(y.shelf.length:Int):=Bk;have cS:(0:Int)<=((Cz r.id:Nat):Int):=Bk;have qP:(Hr y was r n).shelf[Cz r.id].length<=2000000:=by have:=hf.all _ (Aw nV);omega
   have bW:=Bp (show (Hr y was r n).shelf.getD (Cz r.id) []=(Hr y was r n).shelf[Cz r.id] by rw [List.getD_eq_getElem?_getD,List.getElem?_eq_getElem nV];rfl);have fL:=hO.out.1.free0 Bk;have CP:=Bp (Jo (Hr y was r n).shelf[Cz r.id] sk ⟨r.plan.prio,(Hr y was r n).seq,r.id,n⟩ wr.drew qP (bP.below (Bq _ _).drew));go_wp2;refine Dj (fun w'=>w'.cell? ⟨w,1,Ab⟩=Ac (J U (Hr y was r n).seq)/\w'.cell? ⟨w,2,Ab⟩=Ac (Aa (Ac ⟨g,o,Ab⟩) y.shelf.length cs)/\w'.cell? ⟨w.heap.size+1+1,0,Ab⟩=Ac (J U r.id)/\w'.cell? ⟨w.heap.size+1+1,1,Ab⟩=Ac (J U r.plan.prio)/\w'.cell? ⟨g,o+Cz r.id,Ab⟩=Ac (Aa sk.a sk.n sk.c)) 19 Bl ?_ (fun hHeld=>?_)
   ·exact ⟨Y_1,Y_2,RB_0,RB_1,ck⟩
   refine aT 0 hHeld ?_;try simp only [pS]
   refine aT 1 hHeld ?_;try simp only [pS]
   refine aT 2 hHeld ?_;try simp only [pS]
   refine aT 3 hHeld ?_;try simp only [pS]
   refine aT 4 hHeld ?_;try simp only [pS]
   refine aT 5 hHeld ?_;try simp only [pS]
   refine aT 6 hHeld ?_;try simp only [pS]
   refine aT 7 hHeld ?_;try simp only [pS]
   refine aT 8 hHeld ?_;try simp only [pS]
   refine aT 9 hHeld ?_;try simp only [pS]
   refine aT 10 hHeld ?_;try simp only [pS]
   refine aT 11 hHeld ?_;try simp only [pS]
   refine aT 12 hHeld ?_;try simp only [pS]
   refine aT 13 hHeld ?_;try simp only [pS]
   refine aT 14 hHeld ?_;try simp only [pS]
   refine aT 15 hHeld ?_;try simp only [pS]
   refine aT 16 hHeld ?_;try simp only [pS]
   refine oT 17 (fun K hK=>?_)
   (go_simp;refine CP.out.mono ?_;rintro e w2 ⟨t2,F2,rfl,o2,n2,b2⟩;have qJ:w2.cell? ⟨g,o+Cz r.id,Ab⟩=Ac (Aa sk.a sk.n sk.c):=(b2.cell (p:=⟨_,_,Ab⟩) (by show g<wr;have:=hb.size;omega)).trans ck;have pV:w2.frozen? ⟨g,o+Cz r.id,Ab⟩=false:=(b2.frozen (p:=⟨_,_,Ab⟩) (by show g<wr;have:=hb.size;omega)).trans (fL _))
   refine hK.out _ _ (fun _=>?_) ?_
   ·exact ⟨(b2.cell (p:=⟨_,_,Ab⟩) (by show w.heap.size<wr.heap.size;omega)).trans Y_1,(b2.cell (p:=⟨_,_,Ab⟩) (by show w.heap.size<wr.heap.size;omega)).trans Y_2,(b2.cell (p:=⟨_,_,Ab⟩) (by show w.heap.size+1+1<wr.heap.size;omega)).trans RB_0,(b2.cell (p:=⟨_,_,Ab⟩) (by show w.heap.size+1+1<wr.heap.size;omega)).trans RB_1,(b2.cell (p:=⟨_,_,Ab⟩) (by show g<wr;have:=hb.size;omega)).trans ck⟩
   clear hK K;try simp only [pS]
   refine oT 18 (fun K hK=>?_);go_simp;refine hK.out _ _ (fun _=>?_) ?_
   ·exact ⟨(b2.cell (p:=⟨_,_,Ab⟩) (by show w.heap.size<wr.heap.size;omega)).trans Y_1,(b2.cell (p:=⟨_,_,Ab⟩) (by show w.heap.size<wr.heap.size;omega)).trans Y_2,(b2.cell (p:=⟨_,_,Ab⟩) (by show w.heap.size+1+1<wr.heap.size;omega)).trans RB_0,(b2.cell (p:=⟨_,_,Ab⟩) (by show w.heap.size+1+1<wr.heap.size;omega)).trans RB_1,(b2.cell (p:=⟨_,_,Ab⟩) (by show g<wr;have:=hb.size;omega)).trans ck⟩
   clear hK K;try simp only [pS]
   refine oT 19 (fun K hK=>?_);go_simp;refine hK.out _ _ (fun aC=>absurd rfl aC) ?_;clear hK K;try simp only [pS]
   refine Ec Bl ?_ _;have b2':Below wr wr w2:=Bs (Bq _ _).drew b2;obtain ⟨F',p1,p2,p3,p4⟩:=OwL.swap (hO.out.1.below b2') nV (y:=Hu (Hr y was r n).shelf[Cz r.id] ⟨r.plan.prio,(Hr y was r n).seq,r.id,n⟩) (s:=t2) (Fy:=F2) o2 (fun x hx bF=>by have h1:=n2 x hx;have h2:=hO.out.1.lt x bF;have h3:wr.drew.heap.size=wr.heap.size:=rfl;omega);have fZ:Io w2 g (o+Cz r.id * (Dt.list Cg).enc.sz) ((Dt.list Cg).enc.cells (Hu (Hr y was r n).shelf[Cz r.id] ⟨r.plan.prio,(Hr y was r n).seq,r.id,n⟩,t2))=w2.setCell ⟨g,o+Cz r.id,Ab⟩ (Aa t2.a t2.n t2.c):=by
    rw [show (Dt.list Cg).enc.sz=1 from rfl,Nat.mul_one];rfl
   rw [fZ] at p1;have B3:Chg [g] w (w2.setCell ⟨g,o+Cz r.id,Ab⟩ (Aa t2.a t2.n t2.c)):=(hb.trans (Chg.of_below [g] b2')).trans (Chg.setCell w2 g _ _);have bG:=RES_l;clear Y_0 Y_1 Y_2 Y_3 Y_l;clear WB_;clear RB_0 RB_1 RB_2 RB_3 RB_4 RB_5 RB_6 RB_7 RB_l;clear RES_0 RES_1 RES_2 RES_3 RES_l;replace Y:=(Y.below b2').setOther (a:=⟨g,o+Cz r.id,Ab⟩) (by show w.heap.size≠g;omega) (Aa t2.a t2.n t2.c);replace WB:=(WB.below b2').setOther (a:=⟨g,o+Cz r.id,Ab⟩) (by show w.heap.size+1≠g;omega) (Aa t2.a t2.n t2.c);replace RB:=(RB.below b2').setOther (a:=⟨g,o+Cz r.id,Ab⟩) (by show w.heap.size+1+1≠g;omega) (Aa t2.a t2.n t2.c);replace RES:=(RES.below b2').setOther (a:=⟨g,o+Cz r.id,Ab⟩) (by show w.heap.size+1+1+1≠g;omega) (Aa t2.a t2.n t2.c);generalize w2.setCell ⟨g,o+Cz r.id,Ab⟩ (Aa t2.a t2.n t2.c)=w3 at *
   have jL:=hf.seq;have y1:=Y.cell 1 _ rfl;have yf:=Y.free;have yl:=Y.lt;have hhs:w.heap.size∉F':=fun hx=>by rcases p2 _ hx with h | h;(rcases hO.out.2 _ h with h | h;(have:=hFs.out _ h;omega);omega);(have:=n2 _ h;have h3:wr.drew.heap.size=wr.heap.size:=rfl;omega)
   clear hHeld;go_wp2;exact ⟨⟨n+1,F',Bk,by go_num,⟨by rw [aE.out];unfold J3;rw [bW.out];exact p1.set (a:=⟨w,1,Ab⟩) hhs _,fun x hx=>by rcases p2 x hx with h | h;exact hO.out.2 x h;right;have:=n2 _ h;have h3:wr.drew.heap.size=wr.heap.size:=rfl;omega⟩,by rw [aE.out];exact Y.set 1 Bm _,WB.setOther (by show w.heap.size+1≠w.heap.size;omega) _,RB.setOther (by show w.heap.size+1+1≠w.heap.size;omega) _,RES.setOther (by show w.heap.size+1+1+1≠w.heap.size;omega) _,B3.high (Br _) _ _⟩,by simp [intOf];omega⟩
/-! a drawn plan is right -/
structure Drawn (T:Int) (n:Nat) (es:List Edge):Prop where
 len:es.length<=n
 nodup:es.Nodup
 up:∀ e∈es,0<=e.fr/\e.fr<e.to/\e.to<T
theorem Drawn.add {T:Int} {n:Nat} {es:List Edge} (h:Drawn T n es) {e:Edge} (he:0<=e.fr/\e.fr<e.to/\e.to<T):Drawn T (n+1) (Wg es e):=by
 unfold Wg;split
 ·exact ⟨by have:=h.len;omega,h.nodup,h.up⟩
 ·rename_i hn;refine ⟨by have:=h.len;simp;omega,Ku.2 ⟨h.nodup,hn⟩,fun x hx=>?_⟩;rcases Bh.1 hx with hx | hx
  ·exact h.up x hx
  ·rw [Av.1 hx];exact he
theorem Qn (code:List UInt8) (T:Int):∀ (f i:Nat) (es:List Edge) (c:Cur) (n:Nat),Drawn T n es->Drawn T (n+f) (Ij code T f i es c).1
 | 0,i,es,c,n,h=>h
 | f+1,i,es,c,n,h=>by
  rw [Ij];split
  ·rename_i hg;have h1:=Db code (n:=T - 1) (Bt code 9 c).2 Bk;have h2:1<=R9 code T c/\R9 code T c<T:=by unfold R9;omega
   have h3:=Db code (n:=R9 code T c) (Bt code (T - 1) (Bt code 9 c).2).2 Bk
   have:=Qn code T f (i+1) _ (Afz code T c) (n+1) (h.add (e:=Ae8 code T c) (by unfold Ae8;simp only;omega))
   rw [show n+(f+1)=n+1+f by omega];exact this
  ·exact ⟨by have:=h.len;simp only;omega,h.nodup,h.up⟩
theorem Aaa {es:List (Nat×Nat)} (h:∀ e∈es,e.1<e.2) {a b:Nat} (hr:Pg.Reach es a b):a<b:=by
 obtain ⟨l,aC,hw⟩:=hr;induction hw with
 | nil a=>exact absurd rfl aC
 | @cons a c b l h1 h2 ih =>
  have h3:=h _ h1;by_cases hl:l=[]
  ·subst hl;cases h2;exact h3
  ·have:=ih hl
   simp only at h3;omega
theorem Abq (code:List UInt8) (c:Cur):Cr (Hj code c).1=0:=by
 have b1:=Db code (n:=4) c Bk;have b2:=Db code (n:=3) (Bt code 4 c).2 Bk;have b3:=Db code (n:=4) (Bt code 3 (Bt code 4 c).2).2 Bk;have b4:=Db code (n:=6) (Bt code 4 (Bt code 3 (Bt code 4 c).2).2).2 Bk;unfold Hj;simp only;generalize Bt code 4 c=r1 at *
 generalize Bt code 3 r1.2=r2 at *
 generalize Bt code 4 r2.2=r3 at *
 generalize Bt code 6 r3.2=r4 at *
 generalize Ek code 10 r4.2=r5 at *
 have hT:1<=Qf r5.1 r4.1/\Qf r5.1 r4.1<=12:=by unfold Qf;split<;>omega
 generalize Qf r5.1 r4.1=T at *
 have h:=Qn code T 10 0 [] r5.2 0 ⟨Bm,Bm,Bm⟩;generalize (Ij code T 10 0 [] r5.2).1=es at *
 refine C8.2 ⟨?_,fun e he=>?_,h.nodup,?_⟩
 ·have:=h.len
  simp only [D7,Bool.and_eq_true,decide_eq_true_eq,Cp];omega
 ·have:=h.up e he
  simp only [Ht,Bool.and_eq_true,Cp];omega
 ·rintro ⟨t,ht,hr⟩;have:t<t:=Aaa (fun e he=>by
   simp only [Dq,esL,List.mem_map] at he;obtain ⟨x,hx,rfl⟩:=he
   have:=h.up x hx
   simp only;omega) hr
  omega
/-! drawn weights -/
/-! DrawPlans,DrawWork -/
theorem Acn {w:World} {B:Nat} {v:Value} {l:List Entry} (h:Rd Cu w B v l):RdL Cg w B v l:=by
 obtain ⟨A,c,rfl,hc,hA⟩:=h;refine ⟨l.map fun x=>(x,()),by rw [List.map_map];exact List.map_id _,⟨A,c,by rw [Au],by rw [Au];exact hc,fun hl=>?_⟩,fun _ _=>trivial⟩;rw [Au] at hl;obtain ⟨b,o,h3,h4,h5⟩:=hA hl;refine ⟨b,o,h3,h4,fun k hk j u hu=>?_⟩;rw [List.getElem_map] at hu;exact h5 k (by rw [Au] at hk;exact hk) j u hu
theorem Xc {b:Nat} {w:World} {u0 u1 u2 u3:Value} (X:DBox b [u0,u1,u2,u3] w) {v0 v1 v3 v4:Value} {rest:List Value} :
  (results Tryz.f74 (v0 :: v1 :: .pointer (Ac ⟨b,0,Ab⟩) :: v3 :: v4 :: rest).toArray).run An w = .ok (.tuple #[.agg #[u0,u1,u2,u3],v3,v4]) w:=by
 obtain ⟨c0,c1,c2,c3,-⟩:=X.g4;simp [results,Tryz.results74,go_sem,c0,c1,c2,c3]
theorem Qo (l:List Entry) (s:Sl) (w:World) (hl:l.length<=2000000) (h:RdL Cg w w s.v l) :
  Calls An 74 #[Aa s.a s.n s.c] w (Z6 l w):=by
 obtain ⟨A,n,c⟩:=s;obtain rfl:n=l.length:=RdL.at1 (s:=⟨A,n,c⟩) h;have R:=DBox.new 93 [J U 0,J U 0,J U 0,J U 0] w (b:=w.heap.size) rfl;have B0:Below w w (w.alloc (.cells #[J U 0,J U 0,J U 0,J U 0] 93)):=by repeat (first | exact Bq _ _ | refine Ae ?_ Bn _)
 cases l with
 | nil =>
  go_enter Tryz.func74,Tryz.ntmps74;go_wp2;refine Aj (Xc R) rfl ⟨⟨Ab,0,0⟩,[],rfl,⟨[],[],[],rfl,Hw.nil _ _ _ _,.nil,rfl,List.nodup_nil⟩,fun _ h=>(by cases h),?_⟩;repeat (first | (with_reducible exact B0) | refine Ad ?_ Bn _)
 | cons e tl =>
  have h1:((((e :: tl).length:Nat):Int) == 0)=false:=by rw [beq_eq_false_iff_ne];simp;omega
  have HC:=Bp (fun W (hW:Below w w W) (s':Sl) (hs':RdL Cg w w s'.v tl)=>Ik tl s' W (by simp at hl;omega) ((hs'.below hW).more hW.size));obtain ⟨b,o,_,rfl,aG,_,c0,c1,c2,c3⟩:=h.entry (k:=0) (by simp);simp only [Nat.zero_mul,Nat.add_zero,List.getElem_cons_zero] at c0 c1 c2 c3;have bT:(e :: tl).length<=c:=(Iv h).cap;have hd0:=(Iv h).fromL 1 Bm;generalize hL:(e :: tl).length=L at *
  have hL0:0<L:=by rw [<-hL];simp
  have hLI:(0:Int)<(L:Int):=Bk;have hLI1:(1:Int)<=(L:Int):=Bk;have hLN:0<L:=Bk;have HS:=Bp (show ∀ W,Below w w W->(fun w'=>w'.cell? ⟨b,o,Ab⟩=Ac (J U e.prio)/\w'.cell? ⟨b,o+1,Ab⟩=Ac (J U e.seq)/\w'.cell? ⟨b,o+2,Ab⟩=Ac (J U e.run)/\w'.cell? ⟨b,o+3,Ab⟩=Ac (J U e.task)) W from fun W hW=>⟨(hW.cell (p:=⟨b,o,Ab⟩) aG).trans c0,(hW.cell (p:=⟨b,o+1,Ab⟩) aG).trans c1,(hW.cell (p:=⟨b,o+2,Ab⟩) aG).trans c2,(hW.cell (p:=⟨b,o+3,Ab⟩) aG).trans c3⟩);have hdB:=Bp (show RdL Cg w w.heap.size (Sl.v ⟨Ac ⟨b,o+4,Ab⟩,L - 1,c - 1⟩) tl from Acn hd0);have hdA:=Bp (show c=1->RdL Cg w w (Sl.v ⟨Ac ⟨b,o,Ab⟩,0,0⟩) tl from fun h=>by
   have:tl=[]:=List.eq_nil_of_length_eq_zero (by simp at hL;omega);subst this;exact ⟨[],rfl,⟨_,0,rfl,Ag _,fun h=>absurd h Bm⟩,fun _ h=>by cases h⟩)
  clear hd0 c0 c1 c2 c3 hL;have eS:c=1\/(¬ c=1/\(1:Int)<=(c:Int)/\1<c):=Bk;go_enter Tryz.func74,Tryz.ntmps74;go_upto_region 3 with fail
  generalize (w.alloc (.cells #[J U 0,J U 0,J U 0,J U 0] 93))=W at *
  rcases eS with rfl | ⟨eS,rT,nB⟩
  have HX:=Bp (fun W hW=>HC.out W hW ⟨Ac ⟨b,o,Ab⟩,0,0⟩ (hdA.out rfl));rotate_left;have HX:=Bp (fun W hW=>HC.out W hW ⟨Ac ⟨b,o+4,Ab⟩,L - 1,c - 1⟩ hdB.out);all_goals
   have bI:=B0.size;have hbW:b<W:=Bk;refine Go.wp_region_noPanic ?_;refine wp_region_held_drew (S:=(fun w'=>w'.cell? ⟨b,o,Ab⟩=Ac (J U e.prio)/\w'.cell? ⟨b,o+1,Ab⟩=Ac (J U e.seq)/\w'.cell? ⟨b,o+2,Ab⟩=Ac (J U e.run)/\w'.cell? ⟨b,o+3,Ab⟩=Ac (J U e.task))) Bl (HS.out _ B0.drew) (fun hHeld=>?_);replace R:=DBox.drew4 R;have B1:=B0.drew;generalize W.drew=w1 at *
   have hRl1:=R.lt;refine tY 0 ?_
   (try simp only [pS])
   refine tY 1 ?_
   (try simp only [pS])
   refine tV 2 ?_
   (try simp only [pS])
   refine tY 3 ?_
   (try simp only [pS])
   refine tY 4 ?_
   (try simp only [pS])
   refine rC 5 (fun K_ hK=>?_);go_simp;refine (HX.out w1 B1).mono ?_;rintro e2 w3 ⟨s3,F3,rfl,o3,n3,b3⟩;dsimp only [slV];have B3:=Bs B1 b3;replace R:=R.below b3;have hwl:=R.lt;have hw1:=B1.size;refine hK.out _ _ (HS.out _ B3) (fun hHeld=>?_);clear hK K_
   (try simp only [pS])
   obtain ⟨r0,r1,r2,r3,-⟩:=R.g4;have rf:=R.free;refine rC 6 (fun K_ hK=>?_);go_simp;have R4:=DBox.row4 R rfl (J U e.prio) (J U e.seq) (J U e.run) (J U e.task);have B4:Below w w ((((w3.setCell ⟨w,0,Ab⟩ (J U e.prio)).setCell ⟨w,1,Ab⟩ (J U e.seq)).setCell ⟨w,2,Ab⟩ (J U e.run)).setCell ⟨w,3,Ab⟩ (J U e.task)):=by
    repeat (first | (with_reducible exact B3) | refine Ad ?_ Bn _)
   have fI:w.heap.size∉F3:=fun hx=>by have:=n3 _ hx;omega
   have o4:OwL Cg ((((w3.setCell ⟨w,0,Ab⟩ (J U e.prio)).setCell ⟨w,1,Ab⟩ (J U e.seq)).setCell ⟨w,2,Ab⟩ (J U e.run)).setCell ⟨w,3,Ab⟩ (J U e.task)) F3 s3.v tl:=(((o3.set (a:=⟨_,_,Ab⟩) fI _).set (a:=⟨_,_,Ab⟩) fI _).set (a:=⟨_,_,Ab⟩) fI _).set (a:=⟨_,_,Ab⟩) fI _;generalize ((((w3.setCell ⟨w,0,Ab⟩ (J U e.prio)).setCell ⟨w,1,Ab⟩ (J U e.seq)).setCell ⟨w,2,Ab⟩ (J U e.run)).setCell ⟨w,3,Ab⟩ (J U e.task))=w4 at *
   clear r0 r1 r2 r3 rf R;refine hK.out _ _ (HS.out _ B4) (fun hHeld=>?_);clear hK K_
   (try simp only [pS])
   refine rC 7 (fun K_ hK=>?_);go_simp;refine hK.out _ _ hHeld (fun hHeld=>?_);clear hK K_
   (try simp only [pS])
   refine rC 8 (fun K_ hK=>?_);go_simp;refine hK.out _ _ hHeld (fun hHeld=>?_);clear hK K_
   (try simp only [pS])
   refine Al Bl ?_ _;refine NoPanic.normal ?_;clear hHeld;go_wp2;exact Aj (Xc R4) rfl ⟨s3,F3,rfl,o4,fun x hx=>by have:=n3 x hx;omega,B4⟩
theorem Yj (l:List Entry) (s:Sl) (w:World) (hl:l.length<=2000000) (h:RdL Cg w w s.v l) :
  Calls An 72 #[Aa s.a s.n s.c] w (Vk l w):=by
 obtain ⟨A,n,c⟩:=s;obtain rfl:n=l.length:=RdL.at1 (s:=⟨A,n,c⟩) h;have hd:=Z7 l.length;rw [show (l.length+1) / 2=Cw l from rfl] at hd;have fR:=Zq l;have hw1:U.wrap ((l.length:Int)+1)=(l.length:Int)+1:=Ar _ Bk;have qT:U.wrap (Cw l:Int)=(Cw l:Int):=Ar _ Bk;have bT:l.length<=c:=(Iv h).cap;have gB:Cw l<=c:=Bk;have mD:(Cw l:Int)<=(c:Int):=Bk;have hklI:(Cw l:Int)<=(l.length:Int):=Bk;have hk0I:(0:Int)<=(Cw l:Int):=Bk;have HC:=Bp (fun W (hW:Below w w W) (k:List Entry) (hk:k.length<=2000000) (s':Sl) (hs':Rd Cu w w s'.v k)=>K0 k s' W hk ((Acn hs').below hW |>.more hW.size));have a0:=Bp ((Iv h).take fR c gB);have a1:=Bp ((Iv h).dropM (Cw l) fR);have a2:=Bp (show Cw l=c->Rd Cu w w (Aa A 0 0) (l.drop (Cw l)) from fun hh=>by
  rw [List.drop_eq_nil_of_le Bk];exact ⟨A,0,rfl,Ag _,fun h=>absurd h Bm⟩)
 go_enter Tryz.func72,Tryz.ntmps72;go_upto_region 2 with fail
 rcases Nat.lt_or_ge (Cw l) c with hk2 | hk2
 have mX:¬ c=Cw l:=Bk;have HX:=Bp (fun W hW=>HC.out W hW (l.drop (Cw l)) (by simp;omega) ⟨A.map fun x=>x.add (Cw l * 4),l.length - Cw l,c - Cw l⟩ a1.out);have HY:=Bp (fun W hW=>HC.out W hW (l.take (Cw l)) (by simp;omega) ⟨A,Cw l,c⟩ a0.out);rotate_left;have mX:c=Cw l:=Bk;have rQ:l.length=Cw l:=Bk;have HX:=Bp (fun W hW=>HC.out W hW (l.drop (Cw l)) (by simp;omega) ⟨A,0,0⟩ (a2.out Bk));have HY:=Bp (fun W hW=>HC.out W hW (l.take (Cw l)) (by simp;omega) ⟨A,Cw l,Cw l⟩ (by have:=a0.out;rw [mX] at this;exact this));all_goals
  refine Go.wp_region_noPanic ?_;refine wp_region_held_drew (S:=fun _=>True) Bl trivial (fun hHeld=>?_);have B1:Below w w w.drew:=(Bq _ _).drew;generalize w.drew=w1 at *
  refine tY 0 ?_
  (try simp only [pS])
  refine tY 1 ?_
  (try simp only [pS])
  refine tY 2 ?_
  (try simp only [pS])
  refine tY 4 ?_
  (try simp only [pS])
  refine tY 5 ?_
  (try simp only [pS])
  refine tY 6 ?_
  (try simp only [pS])
  refine rC 3 (fun K_ hK=>?_);go_simp;refine (HY.out w1 B1).mono ?_;rintro e2 w3 ⟨v3,rfl,o3,b3⟩;have B3:=Bs B1 b3;refine hK.out _ _ trivial (fun hHeld=>?_);clear hK K_
  (try simp only [pS])
  refine rC 7 (fun K_ hK=>?_);go_simp;refine (HX.out w3 B3).mono ?_;rintro e4 w4 ⟨v4,rfl,o4,b4⟩;refine hK.out _ _ trivial (fun hHeld=>?_);clear hK K_
  (try simp only [pS])
  refine rC 8 (fun K_ hK=>?_);go_simp;refine hK.out _ _ hHeld (fun hHeld=>?_);clear hK K_
  (try simp only [pS])
  refine rC 9 (fun K_ hK=>?_);go_simp;refine hK.out _ _ hHeld (fun hHeld=>?_);clear hK K_
  (try simp only [pS])
  refine Al Bl ?_ _;refine NoPanic.normal ?_;clear hHeld;have aS:=B1.size;have ow3:=o3.within;obtain ⟨s5,F5,rfl,o5,n5,m5⟩:=I0 (o3.below b4);obtain ⟨s6,F6,rfl,o6,n6,m6⟩:=I0 o4;have HF:=Bp (show Vk l w (.returned (.tuple #[Aa s5.a s5.n s5.c,Aa s6.a s6.n s6.c])) w4 from ⟨s5,F5,s6,F6,rfl,o5,o6,fun x hx=>Ah aS (n5 x hx),fun x hx=>Ah B3.size (n6 x hx),fun x hx aN=>by have h1:=(ow3 x (m5 x hx)).2;have h2:=n6 x aN;omega,Bs B3 b4⟩);clear ow3 o5 o6 n5 n6 m5 m6 o3 o4;go_wp2;refine Aj ?_ rfl HF.out;simp [results,Tryz.results72,go_sem]
theorem OwL.elem {α:Type} {d:Dt α} {w:World} {F:List Nat} {b o n c:Nat} {l:List α} (h:OwL d w F (Aa (Ac ⟨b,o,Ab⟩) n c) l) {j:Nat} (hj:j<l.length) :
  ∃ (s:d.S) (Fx:List Nat),d.ow w Fx l[j] s/\(∀ x∈Fx,x∈F)/\b∉Fx/\b∈F/\(∀ i,w.frozen? ⟨b,i,Ab⟩=false)/\(∀ i u,(d.enc.cells (l[j],s))[i]? = Ac u->w.cell? ⟨b,o+j * d.enc.sz+i,Ab⟩=Ac u):=by
 obtain ⟨rs,H,G,hm,hh,ho,rfl,hn⟩:=h;subst hm;have jH:j<rs.length:=by rw [Au] at hj;exact hj
 obtain ⟨b',o',hA,rfl,mU,hf⟩:=hh.at_ Bk;simp only [Option.some.injEq,Addr.mk.injEq,and_true] at hA;obtain ⟨rfl,rfl⟩:=hA;obtain ⟨F1,F2,rfl,h1,h2⟩:=ho.split j Bk;rw [List.drop_eq_getElem_cons jH] at h2;obtain ⟨Fx,F3,rfl,h3,h4⟩:=h2.head;have eK:b∉F1 ++ (Fx ++ F3):=by
  have:=hn
  simp only [List.singleton_append,List.nodup_cons] at this;exact this.1
 have e:(rs.map (·.1))[j]'(by rw [Au];exact jH)=rs[j].1:=by rw [List.getElem_map]
 refine ⟨rs[j].2,Fx,by rw [e];exact h3,fun x hx=>by simp [hx],fun hx=>eK (by simp [hx]),Bm,hf,fun i u hu=>?_⟩;rw [e] at hu;obtain ⟨A',c',hv,_,hA⟩:=hh.rd;simp only [Value.slice.injEq] at hv;obtain ⟨rfl,_,_⟩:=hv;obtain ⟨b2,o2,dL,_,hc⟩:=hA Bk;simp only [Option.some.injEq,Addr.mk.injEq,and_true] at dL;obtain ⟨rfl,rfl⟩:=dL;exact hc j jH i u hu
theorem Aei {b:Nat} {w:World} {u0 u1 u2 u3:Value} (X:DBox b [u0,u1,u2,u3] w) {v0 v1 v2 v3 v4 v5:Value} {rest:List Value} :
  (results Tryz.f210 (v0 :: v1 :: v2 :: v3 :: v4 :: v5 :: .pointer (Ac ⟨b,0,Ab⟩) :: rest).toArray).run An w = .ok (.agg #[u0,u1,u2,u3]) w:=by
 have c0:=X.cell 0 _ rfl;have c1:=X.cell 1 _ rfl;have c2:=X.cell 2 _ rfl;have c3:=X.cell 3 _ rfl;simp [results,Tryz.results210,go_sem,c0,c1,c2,c3]
def Aej (z:Yard) (F Fr:List Nat) (w:World) (e:Ending) (w':World):Prop :=
 ∃ (s':Sl×Sl) (F':List Nat),e = .returned (Du z s')/\Bu.ow w' F' z s'/\(∀ x∈F',x∈F\/x∈Fr\/w<=x)/\Chg F w w'
theorem Kk (y:Yard) (s:Sl×Sl) (k:Nat) (r:Run) (sr:Sl×Sl) (w:World) (F Fr:List Nat) (h4:y.shelf.length=4) (hM:∀ s∈y.shelf,s.length<=1000000) (hq:0<=y.seq/\y.seq<=2000000000) (hk:k<y.runs.length) (hT:r.tasks.length<=1000) (qM:y.runs[k].tasks.length<=1000)
  (hy:Bu.ow w F y s) (hr:Co.ow w Fr r sr) (hd:∀ x∈Fr,x∉F) :
  Calls An 210 #[Du y s,J U k,Hc r sr] w (Aej (Gr y k r) F Fr w):=by
 obtain ⟨F1,F2,rfl,hn,hs,gC⟩:=hy;obtain ⟨⟨sa,sn,sc⟩,⟨ra,rn,rc⟩⟩:=s;replace hs:OwL (Dt.list Cg) w F1 (Aa sa sn sc) y.shelf:=hs;replace gC:OwL Co w F2 (Aa ra rn rc) y.runs:=gC;obtain rfl:sn=y.shelf.length:=RdL.at1 (s:=⟨sa,sn,sc⟩) hs.rd;obtain rfl:rn=y.runs.length:=RdL.at1 (s:=⟨ra,rn,rc⟩) gC.rd;have sK:0<y.shelf.length:=Bk;replace h4:=Bp h4;obtain ⟨g,o,_,rfl,gV,_,_⟩:=hs.rd.entryS (k:=0) sK;obtain ⟨gr,o2,_,rfl,cC,_⟩:=gC.rd.run hk;obtain ⟨sw,Fx,hx,bF,nP,fS,pV,kN⟩:=gC.elem hk;obtain ⟨_,_,_,_,_,fJ,hgfr,_⟩:=hs.elem (j:=0) sK;have c0:w.cell? ⟨gr,o2+k * 8,Ab⟩=Ac (J U y.runs[k].id):=kN 0 _ rfl;have c1:w.cell? ⟨gr,o2+k * 8+1,Ab⟩=Ac (J U y.runs[k].plan.prio):=kN 1 _ rfl;have c2:w.cell? ⟨gr,o2+k * 8+2,Ab⟩=Ac (J U y.runs[k].plan.most):=kN 2 _ rfl;have c3:w.cell? ⟨gr,o2+k * 8+3,Ab⟩=Ac (J U y.runs[k].plan.wait):=kN 3 _ rfl;have c4:w.cell? ⟨gr,o2+k * 8+4,Ab⟩=Ac (J U y.runs[k].plan.tasks):=kN 4 _ rfl;have c5:w.cell? ⟨gr,o2+k * 8+5,Ab⟩=Ac (Aa sw.1.a sw.1.n sw.1.c):=kN 5 _ rfl;have c6:w.cell? ⟨gr,o2+k * 8+6,Ab⟩=Ac (J U y.runs[k].state):=kN 6 _ rfl;have c7:w.cell? ⟨gr,o2+k * 8+7,Ab⟩=Ac (Aa sw.2.a sw.2.n sw.2.c):=kN 7 _ rfl;have eC:(k:Int)<(y.runs.length:Int):=Bk;have cS:(0:Int)<=(k:Int):=Bk;obtain ⟨W,aH,Y,RB,RES,B0⟩:=bx3 w 31 [J U y.now,J U y.seq,Aa (Ac ⟨g,o,Ab⟩) y.shelf.length sc,Aa (Ac ⟨gr,o2,Ab⟩) y.runs.length rc] 89 [J U r.id,J U r.plan.prio,J U r.plan.most,J U r.plan.wait,J U r.plan.tasks,Aa sr.1.a sr.1.n sr.1.c,J U r.state,Aa sr.2.a sr.2.n sr.2.c] 31 [J U 0,J U 0,Aa Ab 0 0,Aa Ab 0 0];go_enter Tryz.func210,Tryz.ntmps210;go_upto_region 1 with fail
 rw [<-aH.out];clear aH;have Y_:=Y.g4;have RB_:=RB.g8;obtain ⟨RES_0,RES_1,RES_2,RES_3,RES_l⟩:=RES.g4;replace c0:=(B0.cell (p:=⟨gr,o2+k * 8,Ab⟩) cC).trans c0;replace c1:=(B0.cell (p:=⟨gr,o2+k * 8+1,Ab⟩) cC).trans c1;replace c2:=(B0.cell (p:=⟨gr,o2+k * 8+2,Ab⟩) cC).trans c2;replace c3:=(B0.cell (p:=⟨gr,o2+k * 8+3,Ab⟩) cC).trans c3;replace c4:=(B0.cell (p:=⟨gr,o2+k * 8+4,Ab⟩) cC).trans c4;replace c5:=(B0.cell (p:=⟨gr,o2+k * 8+5,Ab⟩) cC).trans c5;replace c6:=(B0.cell (p:=⟨gr,o2+k * 8+6,Ab⟩) cC).trans c6;replace c7:=(B0.cell (p:=⟨gr,o2+k * 8+7,Ab⟩) cC).trans c7;have hfW:=fun i=>(B0.frozen (p:=⟨gr,i,Ab⟩) cC).trans (pV i);have hsW:=B0.size;have nU:gr<W:=Bk;go_upto_region 2 with fail
 have b1:Below W W (W.alloc (.cells #[J U y.runs[k].id,J U y.runs[k].plan.prio,J U y.runs[k].plan.most,J U y.runs[k].plan.wait,J U y.runs[k].plan.tasks,Aa sw.1.a sw.1.n sw.1.c,J U y.runs[k].state,Aa sw.2.a sw.2.n sw.2.c] 89)):=(Bq _ _).alloc (Br _) _;have WB:=DBox.new 89 [J U y.runs[k].id,J U y.runs[k].plan.prio,J U y.runs[k].plan.most,J U y.runs[k].plan.wait,J U y.runs[k].plan.tasks,Aa sw.1.a sw.1.n sw.1.c,J U y.runs[k].state,Aa sw.2.a sw.2.n sw.2.c] W (b:=W.heap.size) rfl;clear Y_;clear RB_;clear RES_0 RES_1 RES_2 RES_3 RES_l;replace Y:=Y.below b1;replace RB:=RB.below b1;replace RES:=RES.below b1;have B1:=Bs B0 b1;replace c0:=(b1.cell (p:=⟨gr,o2+k * 8,Ab⟩) nU).trans c0;replace c1:=(b1.cell (p:=⟨gr,o2+k * 8+1,Ab⟩) nU).trans c1;replace c2:=(b1.cell (p:=⟨gr,o2+k * 8+2,Ab⟩) nU).trans c2;replace c3:=(b1.cell (p:=⟨gr,o2+k * 8+3,Ab⟩) nU).trans c3;replace c4:=(b1.cell (p:=⟨gr,o2+k * 8+4,Ab⟩) nU).trans c4;replace c5:=(b1.cell (p:=⟨gr,o2+k * 8+5,Ab⟩) nU).trans c5;replace c6:=(b1.cell (p:=⟨gr,o2+k * 8+6,Ab⟩) nU).trans c6;replace c7:=(b1.cell (p:=⟨gr,o2+k * 8+7,Ab⟩) nU).trans c7;replace hfW:=fun i=>(b1.frozen (p:=⟨gr,i,Ab⟩) nU).trans (hfW i);obtain ⟨hwb,hwbE⟩:∃ x,x=W.heap.size:=⟨_,rfl⟩
 rw [<-hwbE] at WB ⊢;have hwb1:=Nat.le_of_eq hwbE;have hwb2:=Nat.le_of_eq hwbE.symm;clear hwbE;generalize W.alloc (.cells #[J U y.runs[k].id,J U y.runs[k].plan.prio,J U y.runs[k].plan.most,J U y.runs[k].plan.wait,J U y.runs[k].plan.tasks,Aa sw.1.a sw.1.n sw.1.c,J U y.runs[k].state,Aa sw.2.a sw.2.n sw.2.c] 89)=W2 at *
 have Y_:=Y.g4;have RB_:=RB.g8;obtain ⟨RES_0,RES_1,RES_2,RES_3,RES_l⟩:=RES.g4;have WB_:=WB.g8;have hrn2:=gC.below B1;have pH:=Co.ow_below hr B1;have hgr2:gr∉Fr:=fun h=>hd _ h (Bd _ fS);have gS:g∉Fr:=fun h=>hd _ h (Be _ fJ);have eQ:∀ x∈F1,x∉F2:=fun x h1 h2=>(Ax.1 hn).2.2 x h1 x h2 rfl;obtain ⟨F2',p1,p2,p3,p4⟩:=OwL.swap hrn2 hk (y:=r) (s:=sr) pH (fun x hx aN=>hd x hx (Bd _ aN));have fZ:Io W2 gr (o2+k * Co.enc.sz) (Co.enc.cells (r,sr))=((((((((W2.setCell ⟨gr,o2+k * 8,Ab⟩ (J U r.id)).setCell ⟨gr,o2+k * 8+1,Ab⟩ (J U r.plan.prio)).setCell ⟨gr,o2+k * 8+2,Ab⟩ (J U r.plan.most)).setCell ⟨gr,o2+k * 8+3,Ab⟩ (J U r.plan.wait)).setCell ⟨gr,o2+k * 8+4,Ab⟩ (J U r.plan.tasks)).setCell ⟨gr,o2+k * 8+5,Ab⟩ (Aa sr.1.a sr.1.n sr.1.c)).setCell ⟨gr,o2+k * 8+6,Ab⟩ (J U r.state)).setCell ⟨gr,o2+k * 8+7,Ab⟩ (Aa sr.2.a sr.2.n sr.2.c)):=rfl;have hC:Chg [gr] W2 ((((((((W2.setCell ⟨gr,o2+k * 8,Ab⟩ (J U r.id)).setCell ⟨gr,o2+k * 8+1,Ab⟩ (J U r.plan.prio)).setCell ⟨gr,o2+k * 8+2,Ab⟩ (J U r.plan.most)).setCell ⟨gr,o2+k * 8+3,Ab⟩ (J U r.plan.wait)).setCell ⟨gr,o2+k * 8+4,Ab⟩ (J U r.plan.tasks)).setCell ⟨gr,o2+k * 8+5,Ab⟩ (Aa sr.1.a sr.1.n sr.1.c)).setCell ⟨gr,o2+k * 8+6,Ab⟩ (J U r.state)).setCell ⟨gr,o2+k * 8+7,Ab⟩ (Aa sr.2.a sr.2.n sr.2.c)):=by rw [<-fZ];exact Fb _ _ _ _
 rw [fZ] at p1;clear fZ;have hgr1:gr∉F1:=fun h=>eQ _ h fS;have hgx2:g∉Fx:=fun h=>eQ _ fJ (bF _ h);have fV:=(hs.below B1).chg hC (fun x hx h=>by simp only [Av] at h;subst h;exact hgr1 hx);have qA:=Co.ow_chg (Co.ow_below hx B1) hC (fun x hx h=>by simp only [Av] at h;subst h;exact nP hx);have hr3:=Co.ow_chg pH hC (fun x hx h=>by simp only [Av] at h;subst h;exact hgr2 hx);have hYl:=RES_l;have hsz2:=B1.size;have hszb:=b1.size;go_upto_region 3 with fail
 clear Y_;clear RB_;clear RES_0 RES_1 RES_2 RES_3 RES_l;clear WB_;replace Y:=Y.chg hC (by simp only [Av];omega);replace RB:=RB.chg hC (by simp only [Av];omega);replace RES:=RES.chg hC (by simp only [Av];omega);replace WB:=WB.chg hC (by simp only [Av];omega);have hsz3:=hC.size;generalize ((((((((W2.setCell ⟨gr,o2+k * 8,Ab⟩ (J U r.id)).setCell ⟨gr,o2+k * 8+1,Ab⟩ (J U r.plan.prio)).setCell ⟨gr,o2+k * 8+2,Ab⟩ (J U r.plan.most)).setCell ⟨gr,o2+k * 8+3,Ab⟩ (J U r.plan.wait)).setCell ⟨gr,o2+k * 8+4,Ab⟩ (J U r.plan.tasks)).setCell ⟨gr,o2+k * 8+5,Ab⟩ (Aa sr.1.a sr.1.n sr.1.c)).setCell ⟨gr,o2+k * 8+6,Ab⟩ (J U r.state)).setCell ⟨gr,o2+k * 8+7,Ab⟩ (Aa sr.2.a sr.2.n sr.2.c))=W3 at *
 have Y_:=Y.g4;have RB_:=RB.g8;obtain ⟨RES_0,RES_1,RES_2,RES_3,RES_l⟩:=RES.g4;have WB_:=WB.g8;clear c0 c1 c2 c3 c4 c5 c6 c7 hfW;go_wp2_with fail
 refine (Si ⟨y.now,y.seq,y.shelf,y.runs.set k r⟩ g o sc ⟨Ac ⟨gr,o2,Ab⟩,y.runs.length,rc⟩ y.runs[k] sw r sr W3 F1 h4.out hM hq hT qM fV (Bp fun W hW=>(Co.ow_rd (Co.ow_chg hr3 hW (fun x hx h=>by simp only [Av] at h;subst h;exact gS hx))).2) (Bp fun W hW=>(Co.ow_rd (Co.ow_chg qA hW (fun x hx h=>by simp only [Av] at h;subst h;exact hgx2 hx))).2)).mono ?_;rintro e W4 ⟨F1',rfl,q1,q2,q3⟩;have HE:=Bp (show Gr y k r=Qk ⟨y.now,y.seq,y.shelf,y.runs.set k r⟩ y.runs[k] r by unfold Gr;rw [List.getD_eq_getElem?_getD,List.getElem?_eq_getElem hk];rfl);have fL:=Bp (show (Qk ⟨y.now,y.seq,y.shelf,y.runs.set k r⟩ y.runs[k] r).runs=y.runs.set k r from (Rm (y:=⟨y.now,y.seq,y.shelf,y.runs.set k r⟩) (was:=y.runs[k]) (r:=r) hM r.tasks.length).runs);dsimp only at q1;generalize Qk ⟨y.now,y.seq,y.shelf,y.runs.set k r⟩ y.runs[k] r=Z at *
 have hsz4:=q3.size;clear Y_;clear RB_;clear RES_0 RES_1 RES_2 RES_3 RES_l;clear WB_;replace RES:=RES.chg q3 (by simp only [Av];omega);obtain ⟨RES_0,RES_1,RES_2,RES_3,RES_l⟩:=RES.g4;have rf:=RES.free;have hg1':∀ x∈F1',x∈F1\/W3<=x:=q2;have cH:∀ x∈F1,x<w:=hs.lt;have aX:∀ x∈F2,x<w:=gC.lt;have hltr:∀ x∈Fr,x<w:=Co.ow_lt hr;have kD:w.heap.size+1+1∉F1':=fun h=>by
  rcases q2 _ h with h | h
  ·have:=cH _ h;omega
  ·omega
 have eX:w.heap.size+1+1∉F2':=fun h=>by
  rcases p2 _ h with h | h
  ·have:=aX _ h;omega
  ·have:=hltr _ h;omega
 have p5:=p1.chg q3 (fun x hx h=>by
  simp only [Av] at h;subst h;rcases p2 _ hx with h | h
  ·exact eQ _ fJ h
  ·exact gS h)
 have bM:(F1' ++ F2').Nodup:=by
  rw [Ax];refine ⟨q1.nodup,p1.nodup,fun a ha c hc e=>?_⟩;subst e;rcases q2 _ ha with h | h<;>rcases p2 _ hc with h' | h'
  ·exact eQ _ h h'
  ·exact hd _ h' (Be _ h)
  ·have:=aX _ h';omega
  ·have:=hltr _ h';omega
 have hcw:Chg (F1 ++ F2) w W4:=(((Chg.of_below (F1 ++ F2) B1).trans (hC.mono (fun x hx=>by simp only [Av] at hx;subst hx;exact Bd _ fS))).trans (q3.mono (fun x hx=>by simp only [Av] at hx;subst hx;exact Be _ fJ)))
 go_wp2;refine Aj (Aei (DBox.row4 RES rfl _ _ _ _)) rfl ⟨(⟨Ac ⟨g,o,Ab⟩,y.shelf.length,sc⟩,⟨Ac ⟨gr,o2,Ab⟩,y.runs.length,rc⟩),F1' ++ F2',by rw [HE.out],⟨F1',F2',rfl,bM,?_,?_⟩,?_,?_⟩
 ·rw [HE.out];show OwL (Dt.list Cg) _ F1' (Aa (Ac ⟨g,o,Ab⟩) y.shelf.length sc) Z.shelf;exact (((q1.set (a:=⟨_,_,Ab⟩) kD _).set (a:=⟨_,_,Ab⟩) kD _).set (a:=⟨_,_,Ab⟩) kD _).set (a:=⟨_,_,Ab⟩) kD _
 ·rw [HE.out];show OwL Co _ F2' (Aa (Ac ⟨gr,o2,Ab⟩) y.runs.length rc) Z.runs;rw [fL.out];exact (((p5.set (a:=⟨_,_,Ab⟩) eX _).set (a:=⟨_,_,Ab⟩) eX _).set (a:=⟨_,_,Ab⟩) eX _).set (a:=⟨_,_,Ab⟩) eX _
 ·intro x hx;rcases Bh.1 hx with hx | hx
  ·rcases q2 _ hx with h | h
   ·exact .inl (Be _ h)
   ·right;right;omega
  ·rcases p2 _ hx with h | h
   ·exact .inl (Bd _ h)
   ·exact .inr (.inl h)
 ·exact (((hcw.high Bk _ _).high Bk _ _).high Bk _ _).high Bk _ _
theorem Vm (a b:List Entry) (s r:Sl) (w:World) (hl:a.length<=400000) (hl':b.length<=400000) (h:RdL Cg w w s.v a) (h':RdL Cg w w r.v b) :
  Calls An 73 #[Aa s.a s.n s.c,Aa r.a r.n r.c] w (Fc (Dt.list Cg) slV (Fg a b) w):=by
 have CC:=Bp (Ik a s w Bk h);obtain ⟨A,n,c⟩:=s;obtain rfl:n=a.length:=RdL.at1 (s:=⟨A,n,c⟩) h;obtain ⟨A',n',c'⟩:=r;obtain rfl:n'=b.length:=RdL.at1 (s:=⟨A',n',c'⟩) h';by_cases h8:80<a.length+b.length
 ·have hI:(80:Int)<(a.length:Int)+(b.length:Int):=Bk;have H:=Bp (show Fg a b=a from if_pos h8);go_enter Tryz.func73,Tryz.ntmps73;go_wp2_with fail
  refine CC.out.mono ?_;rintro e w1 ⟨s9,F9,rfl,o9,n9,b1⟩;dsimp only [slV];go_wp2;go_ret;exact ⟨s9,F9,rfl,by rw [H.out];exact o9,n9,b1⟩
 have hI:¬ (80:Int)<(a.length:Int)+(b.length:Int):=Bk;have H:=Bp (show Fg a b=b.foldl Hu a from if_neg h8);go_enter Tryz.func73,Tryz.ntmps73;go_wp2_with fail
 refine CC.out.mono ?_;rintro e w1 ⟨s9,F9,rfl,o9,n9,d1⟩;dsimp only [slV];go_wp2;clear CC;go_loopw [5,19] (fun x i wr=>∃ (k:Nat) (t:Sl) (F:List Nat),k<=b.length/\x = Aa t.a t.n t.c/\i = J U k/\Hid (OwL Cg wr F t.v ((b.take k).foldl Hu a)/\(∀ x∈F,w<=x))/\Below w w wr) (fun _ i _=>b.length - (intOf i).toNat);case atStart=>exact ⟨0,s9,F9,Ag _,rfl,rfl,⟨o9,n9⟩,d1⟩
 case round =>
  clear o9 n9 d1;obtain ⟨k,t,F,hk,rfl,rfl,hO,hb⟩:=hrel;by_cases aA:k<b.length
  ·have aB:(k:Int)<(b.length:Int):=Bk;obtain ⟨b1,o,_,rfl,aG,_,c0,c1,c2,c3⟩:=(h'.below hb).entry aA;have hs:=hb.size;have bI:b1<wr:=Bk;have HT:=Bp (Ko Hu a b k aA);have aK:((b.take k).foldl Hu a).length<=900000:=by rw [Kz];simp;omega
   have ha:Below wr wr (wr.alloc (.cells #[J U b[k].prio,J U b[k].seq,J U b[k].run,J U b[k].task] 93)):=(Bq _ _).alloc (Br _) _;have CP:=Bp (Rk ((b.take k).foldl Hu a) t b[k] _ aK ((hO.out.1.below ha).rd));generalize (b.take k).foldl Hu a=L at *
   go_wp2_with (go_at_call 137;refine CP.out.mono ?_;rintro e w2 ⟨t2,F2,rfl,o2,n2,b2⟩)
   have hE:=Bs hb (Bs ha b2);have hz:=ha.size;exact ⟨⟨k+1,t2,F2,Bk,rfl,by go_num,⟨by rw [HT.out];exact o2,fun x hx=>by have:=n2 x hx;omega⟩,hE⟩,by simp [intOf];omega⟩
  ·have aB:¬ (k:Int)<(b.length:Int):=Bk;have HO:=hO.out.1;rw [Bf Bk] at HO;go_wp2;go_ret;exact ⟨t,F,rfl,by rw [H.out];exact HO,hO.out.2,hb⟩
theorem Aco (v:Value) (code:List UInt8) (w:World) (hm:code.length<=9223372036854775807) (h:Rd I7 w w v code):Calls An 8 #[v] w fun e w'=>e = .returned (.bool (decide ((1048576:Int)<(code.length:Int))))/\w=w':=by
 obtain ⟨A,c,rfl,-⟩:=id h;go_enter Tryz.func8,Tryz.ntmps8;go_wp2;go_ret;exact ⟨rfl,rfl⟩
end Go.Proofs.YtonlnjdempbfoaaGreat
