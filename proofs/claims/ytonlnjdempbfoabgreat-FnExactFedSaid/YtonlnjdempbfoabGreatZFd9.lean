/-
  Yards that are right: the reference's walk, whole. Merged of the reference. Shelves of the program: ShelfOf, PutEntry. DeedOk of the program. l10Lay of the refe
-/
import Derived.Test.YtonlnjdempbfoabGreatZFd0
import Derived.Test.YtonlnjdempbfoabGreatZFd3
import Derived.Test.YtonlnjdempbfoabGreatZFd4
import Derived.Test.YtonlnjdempbfoabGreatZFd5
import Derived.Test.YtonlnjdempbfoabGreatZFd7
import Derived.Test.YtonlnjdempbfoabGreatZFd8
import Derived.BigRegion
import Derived.ChangeAlike
namespace Go.Proofs.YtonlnjdempbfoabGreat
open Go.RowKit
set_option maxRecDepth 100000
set_option maxHeartbeats 4000000
set_option linter.unusedVariables false
set_option linter.unusedSimpArgs false
open Value renaming int->J,slice->Aa
open IntKind renaming i64->U
open Option renaming none->Ab,some->Ac
open Below renaming setCell->Ad,alloc->Ae
open Nat renaming zero_le->Ag,le_trans->Ah,lt_of_lt_of_le->Ai
open Go renaming bodyPost_ret->Aj,wpQuiet_nil->Ak,wpAnyH_done->Al
open Go.Proofs.Tryz renaming prog->Am
open IntWalk renaming i64_in->Aq
open List renaming length_map->Ar,getElem_mem->Aw,take_of_length_le->Bg
open Go.Proofs.Tryz
theorem Af7 {y:Yard} (h1:inB y.now 0 999999980=true) (h2:inB y.seq 1 1000000000=true) (h3:J5 y) (h6:y.runs.length<=8) (h7:Ko y y.runs.length):Dh y ↔ Gp y<=40:=by
 refine Ad9 h1 h2 h3.1 (fun k hk=>h3.2.1 _ (Aw hk)) (Y1 h3 (Bs _)) h6 h7
def Qa (y:Yard) (k:Nat):Prop:=∀ j (hj:j<y.runs.length),j<k->Hd y.runs[j]/\Dk y y.runs[j].id=j
def Xr (y:Yard) (k:Nat):Prop:=∀ j (hj:j<y.runs.length),j<k->Ki y.now y.runs[j] (Cf y)
theorem Fz (y:Yard) (s:Sl×Sl) (w:World) (hl:Ca y<=2000000) (h:Bv.rd w w y s) :
  Calls Am 83 #[Dm y s] w fun e w'=>e = .returned (.bool (tf (Dh y)))/\Below w w w':=by
 have HR:=Bq (show ∀ W,Below w w W->Bv.rd W W y s from fun W hW=>Bv.rd_more (Bv.rd_below h hW) hW.size);obtain ⟨⟨A1,n1,c1⟩,⟨A2,n2,c2⟩⟩:=s;obtain rfl:n2=y.runs.length:=RdL.at1 (s:=⟨A2,n2,c2⟩) h.2;have h2:RdL Ce w w (Aa A2 y.runs.length c2) y.runs:=h.2;have bZ:y.runs.length<=2000000:=Ah (Cj Cn _) (by unfold Ca at hl;omega);have HC:=Bq (show ∀ k (hk:k<y.runs.length),Cn y.runs[k]<=2000000 from fun k hk=>by
  have:=C9 (cnt:=Cn) (Aw hk)
  unfold Ca at hl;omega)
 have HEn:=Bq (show (Cf y).length<=2000000 by
  have:=Ib y.shelf y.shelf.length
  rw [List.take_length] at this;unfold Ca at hl;unfold Cf;omega)
 have kR:=Aa6 hl;clear h;have X:=DBox.new 27 [J U y.now,J U y.seq,Aa A1 n1 c1,Aa A2 y.runs.length c2] w (b:=w) rfl;have B0:Below w w (w.alloc (.cells #[J U y.now,J U y.seq,Aa A1 n1 c1,Aa A2 y.runs.length c2] 27)):=by repeat (first | exact Br _ _ | refine Ae ?_ Bo _)
 cases a1:inB y.now 0 999999980;case false =>
  have H:=Bq (Ci (show ¬ Dh y from fun h=>by have:=Cw.2 h.1;rw [a1] at this;cases this));go_enter func83,ntmps83;go_wp2_with (go_at_call 63;refine (Cg _ _ _ _).mono ?_;rintro e w' ⟨rfl,rfl⟩)
  go_ret;exact ⟨Bw H.out.symm,B0⟩
 cases a2:inB y.seq 1 1000000000;case false =>
  have H:=Bq (Ci (show ¬ Dh y from fun h=>by have:=Cw.2 h.2.1;rw [a2] at this;cases this));go_enter func83,ntmps83;go_wp2_with (go_at_call 63;refine (Cg _ _ _ _).mono ?_;rintro e w' ⟨rfl,rfl⟩)
  go_ret;exact ⟨Bw H.out.symm,B0⟩
 by_cases a4:y.runs.length<=8;case neg =>
  have a4':(8:Int)<(y.runs.length:Int):=Bl;have H:=Bq (Ci (show ¬ Dh y from fun h=>a4 h.2.2.2.2.2.2.1));clear a4;go_enter func83,ntmps83;go_wp2_with (go_at_call 63;refine (Cg _ _ _ _).mono ?_;rintro e w' ⟨rfl,rfl⟩)
  go_ret;exact ⟨Bw H.out.symm,B0⟩
 have a4':¬ (8:Int)<(y.runs.length:Int):=Bl;have hqb:=Cw.1 a2;have vA:=Cw.1 a1;have C0:=S9 y (⟨A1,n1,c1⟩,⟨A2,y.runs.length,c2⟩) (w.alloc (.cells #[J U y.now,J U y.seq,Aa A1 n1 c1,Aa A2 y.runs.length c2] 27)) hl hqb (HR.out _ B0);by_cases a3:J5 y;case neg =>
  have H:=Bq (Ci (show ¬ Dh y from fun h=>a3 ⟨h.2.2.1,h.2.2.2.1,h.2.2.2.2.1,h.2.2.2.2.2.1⟩));rw [Ci a3] at C0;clear a3;go_enter func83,ntmps83;go_wp2_with (first | (go_at_call 63;refine (Cg _ _ _ _).mono ?_;rintro e w' ⟨rfl,rfl⟩) | (go_at_call 151;refine C0.mono ?_;rintro e w1 ⟨rfl,b1⟩))
  go_ret;exact ⟨Bw H.out.symm,Bu B0 b1⟩
 rw [Dp a3] at C0;go_enter func83,ntmps83;go_wp2_with (first | (go_at_call 63;refine (Cg _ _ _ _).mono ?_;rintro e w' ⟨rfl,rfl⟩) | (go_at_call 151;refine C0.mono ?_;rintro e w1 ⟨rfl,b1⟩))
 replace X:=X.below b1;replace B0:=Bu B0 b1;clear b1 C0;have A1_:=Bq a1;have A2_:=Bq a2;have A3_:=Bq a3;clear a1 a2 a3 a4';go_loopw [3] (fun i wr=>∃ k:Nat,k<=y.runs.length/\i = J U k/\Hid (Qa y k)/\Below w1 w1 wr) (fun i _=>y.runs.length - (intOf i).toNat);case atStart=>exact ⟨0,Ag _,rfl,fun j _ h0=>absurd h0 Bl,Br _ _⟩
 case round =>
  obtain ⟨k,hk,rfl,bL,hb⟩:=hrel;replace X:=X.below hb;replace B0:=Bu B0 hb;obtain ⟨X_0,X_1,X_2,X_3,X_l⟩:=X.g4;by_cases aA:k<y.runs.length
  ·have aB:(k:Int)<(y.runs.length:Int):=Bl;obtain ⟨b,o,⟨⟨A8,n8,c8⟩,⟨At,nt,ct⟩⟩,eN,aK,cM,e0,e1,e2,e3,e4,e5,e6,e7⟩:=(h2.below B0).run aA;subst eN;have bS:b<wr:=Ai aK B0.size;have HRr:=Bq (show ∀ W,Below wr wr W->Ce.rd W W y.runs[k] (⟨A8,n8,c8⟩,⟨At,nt,ct⟩) from fun W hW=>Ce.rd_more (Ce.rd_below (Ce.rd_more cM B0.size) hW) hW.size);have mY:=HC.out k aA;have aQ:=Di wr;have C1:=fun u:Ju wr=>Ml y.runs[k] (⟨A8,n8,c8⟩,⟨At,nt,ct⟩) u.1 mY (HRr.out _ u.2);have C2:=fun u:Ju wr=>E8 y (⟨A1,n1,c1⟩,⟨Ac ⟨b,o,Ab⟩,y.runs.length,c2⟩) y.runs[k].id u.1 hl (HR.out _ (Bu B0 u.2));have D1:=Bq C1;have D2:=Bq C2;clear C1 C2;by_cases q1:Hd y.runs[k];case neg =>
    have H:=Bq (Ci (show ¬ Dh y from fun h=>q1 (h.2.2.2.2.2.2.2.1 k aA).1));rw [Ci q1] at D1;clear q1;go_wp2;refine Bz Bm Bm ?_;repeat (go_big_quiet_step ((go_at_call 152;(with_reducible exact I7 D1.out))))
    refine Ak ?_;rintro _ ⟨⟨w3,b3⟩,rfl⟩;clear aQ;go_wp2;go_ret;exact ⟨Bw H.out.symm,Bu B0 b3⟩
   rw [Dp q1] at D1;by_cases q2:Dk y y.runs[k].id=k;case neg =>
    have H:=Bq (Ci (show ¬ Dh y from fun h=>q2 (h.2.2.2.2.2.2.2.1 k aA).2));have q2':(Dk y y.runs[k].id != (k:Int))=true:=by simp [q2]
    clear q1 q2;go_wp2;refine Bz Bm Bm ?_;repeat (go_big_quiet_step ((first | (go_at_call 152;(with_reducible exact I7 D1.out)) | (go_at_call 153;(with_reducible exact I7 D2.out)))))
    refine Ak ?_;rintro _ ⟨⟨w3,b3⟩,rfl⟩;clear aQ;go_wp2;go_ret;exact ⟨Bw H.out.symm,Bu B0 b3⟩
   have S:Hid (Qa y (k+1)):=fun j hj fS=>by
    by_cases e:j=k
    ·subst e;exact ⟨q1,q2⟩
    ·exact bL.out j hj Bl
   rw [q2] at D2;have q2':((k:Int) != (k:Int))=false:=Bn;clear q1 q2;go_wp2;refine Bz Bm Bm ?_;repeat (go_big_quiet_step ((first | (go_at_call 152;(with_reducible exact I7 D1.out)) | (go_at_call 153;(with_reducible exact I7 D2.out)))))
   refine Ak ?_;rintro _ ⟨⟨w3,b3⟩,rfl⟩;clear aQ;go_wp2;first
    | exact ⟨⟨k+1,Bl,by go_num,S,Bu hb b3⟩,by simp [intOf];omega⟩
    | (refine ⟨?_,by simp [intOf];omega⟩;(repeat apply Exists.intro);first | exact ⟨⟨k+1,Bl,by go_num,S,Bu hb b3⟩,rfl⟩ | exact ⟨⟨k+1,Bl,by go_num,S,Bu hb b3⟩,rfl,rfl⟩ | exact ⟨⟨k+1,Bl,by go_num,S,Bu hb b3⟩,rfl,rfl,rfl⟩ | exact ⟨⟨k+1,Bl,by go_num,S,Bu hb b3⟩,rfl,rfl,rfl,rfl⟩ | exact ⟨⟨k+1,Bl,by go_num,S,Bu hb b3⟩,rfl,rfl,rfl,rfl,rfl⟩ | exact ⟨⟨k+1,Bl,by go_num,S,Bu hb b3⟩,rfl,rfl,rfl,rfl,rfl,rfl⟩ | exact ⟨⟨k+1,Bl,by go_num,S,Bu hb b3⟩,rfl,rfl,rfl,rfl,rfl,rfl,rfl⟩)
  ·have aB:¬ (k:Int)<(y.runs.length:Int):=Bl;have HR1:Hid (Qa y y.runs.length):=fun j hj _=>bL.out j hj Bl;have C:=Nw y (⟨A1,n1,c1⟩,⟨A2,y.runs.length,c2⟩) wr hl (HR.out _ B0);go_wp2_with fail
   refine C.mono ?_;rintro e w2 ⟨v,rfl,o2,b2⟩;replace X:=X.below b2;replace B0:=Bu B0 b2;clear X_0 X_1 X_2 X_3 X_l bL aA aB hb;have O2:=Rd.of_own o2;clear o2;obtain ⟨A3,c3,rfl,-⟩:=id O2;have qK:=HEn.out;go_wp2;go_loopw [5] (fun i wr=>∃ k:Nat,k<=y.runs.length/\i = J U k/\Hid (Xr y k)/\Below w2 w2 wr) (fun i _=>y.runs.length - (intOf i).toNat);case atStart=>exact ⟨0,Ag _,rfl,fun j _ h0=>absurd h0 Bl,Br _ _⟩
   case round =>
    obtain ⟨k,hk,rfl,bL,hb⟩:=hrel;replace X:=X.below hb;replace B0:=Bu B0 hb;obtain ⟨X_0,X_1,X_2,X_3,X_l⟩:=X.g4;by_cases aA:k<y.runs.length
    ·have aB:(k:Int)<(y.runs.length:Int):=Bl;obtain ⟨b,o,⟨⟨A8,n8,c8⟩,⟨At,nt,ct⟩⟩,eN,aK,cM,e0,e1,e2,e3,e4,e5,e6,e7⟩:=(h2.below B0).run aA;subst eN;have bS:b<wr:=Ai aK B0.size;have HRr:=Bq (show ∀ W,Below wr wr W->Ce.rd W W y.runs[k] (⟨A8,n8,c8⟩,⟨At,nt,ct⟩) from fun W hW=>Ce.rd_more (Ce.rd_below (Ce.rd_more cM B0.size) hW) hW.size);have mY:=HC.out k aA;have hwt:=Ad8 (HR1.out k aA aA).1.2.1;have eW:y.runs[k].tasks.length<=2000000:=Ah (Cj Dz _) (by unfold Cn at mY;omega);have aQ:=Di wr;have D3:=Bq (show ∀ u:Ju wr,_ from fun u=>Wu y (⟨A1,n1,c1⟩,⟨Ac ⟨b,o,Ab⟩,y.runs.length,c2⟩) y.runs[k] (⟨A8,n8,c8⟩,⟨At,nt,ct⟩) (Cf y) ⟨A3,(Cf y).length,c3⟩ u.1 eW qK vA hwt (HRr.out _ u.2) ((O2.below (Bu hb u.2)).more (Bu hb u.2).size));by_cases q3:Ki y.now y.runs[k] (Cf y);case neg =>
      have H:=Bq (Ci (show ¬ Dh y from fun h=>q3 (h.2.2.2.2.2.2.2.2.1 _ (Aw aA))));rw [Ci q3] at D3;clear q3;go_wp2;refine Bz Bm Bm ?_;repeat (go_big_quiet_step ((go_at_call 155;(with_reducible exact I7 D3.out))))
      refine Ak ?_;rintro _ ⟨⟨w3,b3⟩,rfl⟩;clear aQ;go_wp2;go_ret;exact ⟨Bw H.out.symm,Bu B0 b3⟩
     have S:Hid (Xr y (k+1)):=fun j hj fS=>by
      by_cases e:j=k
      ·subst e;exact q3
      ·exact bL.out j hj Bl
     rw [Dp q3] at D3;clear q3;go_wp2;refine Bz Bm Bm ?_;repeat (go_big_quiet_step ((go_at_call 155;(with_reducible exact I7 D3.out))))
     refine Ak ?_;rintro _ ⟨⟨w3,b3⟩,rfl⟩;clear aQ;go_wp2;first
      | exact ⟨⟨k+1,Bl,by go_num,S,Bu hb b3⟩,by simp [intOf];omega⟩
      | (refine ⟨?_,by simp [intOf];omega⟩;(repeat apply Exists.intro);first | exact ⟨⟨k+1,Bl,by go_num,S,Bu hb b3⟩,rfl⟩ | exact ⟨⟨k+1,Bl,by go_num,S,Bu hb b3⟩,rfl,rfl⟩ | exact ⟨⟨k+1,Bl,by go_num,S,Bu hb b3⟩,rfl,rfl,rfl⟩ | exact ⟨⟨k+1,Bl,by go_num,S,Bu hb b3⟩,rfl,rfl,rfl,rfl⟩ | exact ⟨⟨k+1,Bl,by go_num,S,Bu hb b3⟩,rfl,rfl,rfl,rfl,rfl⟩ | exact ⟨⟨k+1,Bl,by go_num,S,Bu hb b3⟩,rfl,rfl,rfl,rfl,rfl,rfl⟩ | exact ⟨⟨k+1,Bl,by go_num,S,Bu hb b3⟩,rfl,rfl,rfl,rfl,rfl,rfl,rfl⟩)
    ·have aB:¬ (k:Int)<(y.runs.length:Int):=Bl;have HRt:Hid (Ko y y.runs.length):=fun j hj hj2=>⟨(HR1.out j hj hj2).1,(HR1.out j hj hj2).2,bL.out j hj Bl⟩
     have HF:=Bq (Af7 A1_.out A2_.out A3_.out a4 HRt.out);have C:=Pp y (⟨A1,n1,c1⟩,⟨A2,y.runs.length,c2⟩) wr hl (HR.out _ B0);go_wp2_with fail
     refine C.mono ?_;rintro e w7 ⟨rfl,b7⟩;have HT:=Bq (show tf (Dh y)=decide ((Gp y:Int)<=40) by
      rw [Bool.eq_iff_iff,Mj,HF.out,decide_eq_true_eq];omega)
     generalize Gp y=N at *
     by_cases q:N<=40
     ·have H:=Bq (show tf (Dh y)=true by rw [HT.out];exact decide_eq_true Bl);go_wp2;go_ret;exact ⟨Bw (by rw [H.out];exact decide_eq_true Bl),Bu B0 b7⟩
     ·have H:=Bq (show tf (Dh y)=false by rw [HT.out];exact decide_eq_false Bl);go_wp2;go_ret;exact ⟨Bw (by rw [H.out];exact decide_eq_false Bl),Bu B0 b7⟩
theorem Kq {α β:Type} (f:β->α->β) (z:β) (l:List α) (k:Nat) (h:k<l.length):(l.take (k+1)).foldl f z=f ((l.take k).foldl f z) l[k]:=by
 rw [List.take_succ_eq_append_getElem h,List.foldl_append];rfl
theorem Vh (a b:List Entry) (s r:Sl) (w:World) (hl:a.length<=2000000) (hl':b.length<=2000000) (h:RdL Bx w w s.v a) (h':RdL Bx w w r.v b) :
  Calls Am 208 #[Aa s.a s.n s.c,Aa r.a r.n r.c] w (Df (Dt.list Bx) slV (Gq a b) w):=by
 obtain ⟨A,n,c⟩:=s;obtain rfl:n=a.length:=RdL.at1 (s:=⟨A,n,c⟩) h;obtain ⟨A',n',c'⟩:=r;obtain rfl:n'=b.length:=RdL.at1 (s:=⟨A',n',c'⟩) h';obtain ⟨i0,aR,aX,aW,aU⟩:=info_parts Gg;have h0:=Bq (fun W (hW:Below w w W)=>((Jm h).below hW).more hW.size);have q1:Below w w (w.alloc (.cells #[] 163)):=Bt;by_cases h8:80<a.length+b.length
 ·have hI:(80:Int)<(a.length:Int)+(b.length:Int):=Bl;have H:=Bq (show Gq a b=a from if_pos h8);go_enter func208,ntmps208;go_wp2_with (at_builtin;refine Ch _ Cy Bp rfl (.tmp 7) (.tmp 8) rfl underlying122 aR aX aW aU rfl (base:=w) (v:=Aa (Ac ⟨w,0,Ab⟩) 0 0) (l:=[]) rfl (Ow.empty Cy 163 w rfl) rfl (h0.out _ q1) Bn Bl Bp q1.size ?_;intro v1 w1 o1 g1 _;rw [List.nil_append] at o1;have d1:Below w w w1:=q1.grown g1 q1.size (fun g hg=>Nat.le_of_eq (Option.some.inj hg)))
  obtain ⟨s9,F9,rfl,o9,n9⟩:=Hr o1;go_ret;exact ⟨s9,F9,rfl,by rw [H.out];exact o9,n9,d1⟩
 have hI:¬ (80:Int)<(a.length:Int)+(b.length:Int):=Bl;have H:=Bq (show Gq a b=b.foldl Jd a from if_neg h8);go_enter func208,ntmps208;go_wp2_with (at_builtin;refine Ch _ Cy Bp rfl (.tmp 7) (.tmp 8) rfl underlying122 aR aX aW aU rfl (base:=w) (v:=Aa (Ac ⟨w,0,Ab⟩) 0 0) (l:=[]) rfl (Ow.empty Cy 163 w rfl) rfl (h0.out _ q1) Bn Bl Bp q1.size ?_;intro v1 w1 o1 g1 _;rw [List.nil_append] at o1;have d1:Below w w w1:=q1.grown g1 q1.size (fun g hg=>Nat.le_of_eq (Option.some.inj hg)))
 obtain ⟨s9,F9,rfl,o9,n9⟩:=Hr o1;go_loopw [5,6] (fun x i wr=>∃ (k:Nat) (t:Sl) (F:List Nat),k<=b.length/\x = Aa t.a t.n t.c/\i = J U k/\Hid (OwL Bx wr F t.v ((b.take k).foldl Jd a)/\(∀ x∈F,w<=x))/\Below w w wr) (fun _ i _=>b.length - (intOf i).toNat);case atStart=>exact ⟨0,s9,F9,Ag _,rfl,rfl,⟨o9,n9⟩,d1⟩
 case round =>
  clear o9 n9 d1 o1 g1;obtain ⟨k,t,F,hk,rfl,rfl,hO,hb⟩:=hrel;by_cases aA:k<b.length
  ·have aB:(k:Int)<(b.length:Int):=Bl;obtain ⟨b1,o,_,rfl,aK,_,c0,c1,c2,c3⟩:=(h'.below hb).entry aA;have hs:=hb.size;have bW:b1<wr:=Bl;have HT:=Bq (Kq Jd a b k aA);have aF:((b.take k).foldl Jd a).length<=2000000:=by rw [Lv];simp;omega
   have CP:=Bq (Kp ((b.take k).foldl Jd a) t b[k] wr aF hO.out.1.rd);generalize (b.take k).foldl Jd a=L at *
   go_wp2_with (go_at_call 262;refine CP.out.mono ?_;rintro e w2 ⟨t2,F2,rfl,o2,n2,b2⟩)
   exact ⟨⟨k+1,t2,F2,Bl,rfl,by go_num,⟨by rw [HT.out];exact o2,fun x hx=>Ah hs (n2 x hx)⟩,Bu hb b2⟩,by simp [intOf];omega⟩
  ·have aB:¬ (k:Int)<(b.length:Int):=Bl;have HO:=hO.out.1;rw [Bg Bl] at HO;go_wp2;go_ret;exact ⟨t,F,rfl,by rw [H.out];exact HO,hO.out.2,hb⟩
theorem Tc (id:Int) (w:World) :
  Calls Am 250 #[J U id] w fun e w'=>e = .returned (J U (C6 id))/\Below w w w':=by
 have rR:=Sa id;have aJ:=Aat (En id);have C:=Bq (Sy id w);by_cases h0:(En id).length=0
 ·have H:=Bq (show (C6 id:Int)=0 by unfold C6;rw [if_pos h0];rfl);have hE:En id=[]:=List.eq_nil_of_length_eq_zero h0;rw [hE] at C;clear aJ h0;go_enter func250,ntmps250;go_wp2_with (go_at_call 268;refine C.out.mono ?_;rintro e w1 ⟨rfl,b1⟩)
  go_ret;exact ⟨by rw [H.out];rfl,b1⟩
 ·have H:=Bq (show (C6 id:Int)=K8 (En id) % 4 by
   unfold C6;rw [if_neg h0];exact Int.toNat_of_nonneg (Int.emod_nonneg _ Bp))
  have hem:=Aea h0;have CS:=Bq (fun W=>Wo (En id) W Bl);have r4:=Ahd _ aJ.1;have w4:=Ag7 _ aJ.1;generalize K8 (En id)=sm at *
  generalize En id=L at *
  go_enter func250,ntmps250;go_wp2_with (first | (go_at_call 268;refine C.out.mono ?_;rintro e w1 ⟨rfl,b1⟩) | (go_at_call 270;refine (CS.out _).mono ?_;rintro e w2 ⟨rfl,b2⟩))
  go_ret;exact ⟨by rw [H.out];rfl,Bu b1 b2⟩
theorem Lx (l:List Entry) (s:Sl) (w:World) (hl:l.length<=2000000) (h:RdL Bx w w s.v l) :
  Calls Am 141 #[Aa s.a s.n s.c] w fun e w'=>∃ v,e = .returned v/\Ow Cy 163 w' w v l/\Below w w w':=by
 obtain ⟨A,n,c⟩:=s;obtain rfl:n=l.length:=RdL.at1 (s:=⟨A,n,c⟩) h;obtain ⟨i0,aR,aX,aW,aU⟩:=info_parts Gg;go_enter func141,ntmps141;go_wp2_with (at_builtin;refine Ch _ Cy Bp rfl (.const (Aa Ab 0 0)) (.tmp 3) rfl underlying122 aR aX aW aU rfl (v:=Aa Ab 0 0) (l:=[]) rfl (Ow.nil Cy 163 _ w) rfl (Jm h) Bn Bl Bp (Bs _) ?_;intro v1 w1 o1 g1 _;rw [List.nil_append] at o1)
 go_ret;exact ⟨_,rfl,o1,(Br w w).grown g1 (Bs _) (fun g hg=>by cases hg)⟩
theorem Ae9 (x e:Entry) (p:Nat) (w:World) (hp:DBox p [J U e.prio,J U e.seq,J U e.run,J U e.task] w) :
  Calls Am 279 #[Gs x (),.pointer (Ac ⟨p,0,Ab⟩)] w fun en w'=>en = .returned (.bool (!E7 x e))/\Below w w w':=by
 obtain ⟨W,aH,X,B0⟩:=bx1 w 163 [J U x.prio,J U x.seq,J U x.run,J U x.task];have P:=hp.below B0;have C:=Bq (fun W=>Mk x e W);go_enter func279,ntmps279;go_upto_region 1 with fail
 rw [<-aH.out];clear aH;have X_:=X.g4;have P_:=P.g4;go_wp2_with fail
 refine (C.out _).mono ?_;rintro en w1 ⟨rfl,b1⟩;go_wp2;go_ret;exact ⟨rfl,Bu B0 b1⟩
theorem Af8 (l:List Entry) (e:Entry):∃ k,k<=l.length/\Jd l e=l.take k ++ e :: l.drop k/\((Hj (fun x=>!E7 x e) l = -1/\k=l.length)\/(Hj (fun x=>!E7 x e) l=(k:Int)/\k<l.length)):=by
 rcases Me (fun x=>!E7 x e) l with hr | ⟨k,hk,hr⟩
 ·refine ⟨l.length,Bs _,?_,.inl ⟨hr,rfl⟩⟩
  have:=Tp (l:=l) (e:=e) (Bs _) (fun j hj _=>by
   cases hp:E7 l[j] e with
   | true=>rfl
   | false=>exact absurd (Ri (p:=fun x=>!E7 x e).2 ⟨_,Aw hj,by rw [hp];rfl⟩) Bl) (fun h=>absurd h Bl)
  rw [this,List.append_assoc];rfl
 ·refine ⟨k,Bl,?_,.inr ⟨hr,hk⟩⟩;unfold Hj at hr;cases hf:l.findIdx? (fun x=>!E7 x e) with
  | none=>rw [hf] at hr;simp only at hr;omega
  | some i =>
   rw [hf] at hr;simp only at hr;obtain ⟨hi,hp,hb⟩:=List.findIdx?_eq_some_iff_getElem.1 hf;obtain rfl:i=k:=Bl
   have:=Tp (l:=l) (e:=e) (k:=i) Bl (fun j hj fS=>by simpa using hb j fS) (fun h=>by simpa using hp)
   rw [this,List.append_assoc];rfl
theorem M5 (l:List Entry) (s:Sl) (e:Entry) (w:World) (hl:l.length<=900000) (h:RdL Bx w w s.v l) :
  Calls Am 251 #[Aa s.a s.n s.c,Gs e ()] w (Df (Dt.list Bx) slV (Jd l e) w):=by
 obtain ⟨A,n,c⟩:=s;obtain rfl:n=l.length:=RdL.at1 (s:=⟨A,n,c⟩) h;obtain ⟨W,aH,E,B0⟩:=bx1 w 163 [J U e.prio,J U e.seq,J U e.run,J U e.task];have CI:=Bq (P9 279 w (fun x=>!E7 x e) (Nk func279 Bm Bm) l A l.length c _ Bl ((Jm h).below B0 |>.more B0.size) (fun W' x hW=>Ae9 x e w W' (E.below hW)));have CC:=Bq (fun W (hW:Below w w W)=>Lx l ⟨A,l.length,c⟩ W Bl ((h.below hW).more hW.size));obtain ⟨k,hk,cR,hi⟩:=Af8 l e;replace cR:=Bq cR;have hEl:=E.lt;go_enter func251,ntmps251;go_wp2_with fail
 rw [<-aH.out];clear aH;refine CI.out.mono ?_;rintro e1 w1 ⟨rfl,b1⟩;replace E:=E.below b1;have B1:=Bu B0 b1;clear CI b1 B0;have sP:Hj (fun x=>!E7 x e) l = -1\/Hj (fun x=>!E7 x e) l=(k:Int):=hi.imp (·.1) (·.1);clear sP;rcases hi with ⟨hi,hke⟩ | ⟨hi,hklt⟩
 rw [hke] at cR;rw [hi];clear hi hk hke;have hk:=Bs l.length;rotate_left;rw [hi];have cL:¬ (k:Int)<0:=Bl;clear hi hklt;all_goals go_upto_region 4 with fail
 all_goals
  refine Go.wp_region_noPanic ?_;refine wp_region_held_drew (S:=fun w'=>DBox w [J U e.prio,J U e.seq,J U e.run,J U e.task] w') Bm (DBox.drew4 E) (fun hHeld=>?_);replace E:=DBox.drew4 E;have B2:=B1.drew;generalize w1.drew=w2 at *
  refine tY 0 ?_
  (try simp only [pS])
  refine tY 2 ?_
  (try simp only [pS])
  refine tY 3 ?_
  (try simp only [pS])
  have aU:=B2.size;have hEl2:=E.lt;refine Qk 1 4 rfl rfl Bm (by rfl) (by rfl) (fun K_ hK=>?_) (fun K_ hK=>?_)
  ·go_simp;refine (CC.out w2 B2).mono ?_;rintro e3 w3 ⟨v3,rfl,o3,b3⟩;refine hK.out _ _ (E.below b3) (fun hHeld=>?_);clear hK K_
   (try simp only [pS])
   refine rC 4 (fun K_ hK=>?_);go_simp;have ba:Below w3 w3 (w3.alloc (.cells #[J U e.prio,J U e.seq,J U e.run,J U e.task] 163)):=Bt;have hx:(w3.alloc (.cells #[J U e.prio,J U e.seq,J U e.run,J U e.task] 163)).heap[w3.heap.size]? = Ac (.cells (Cy.cells e).toArray 163 (0,0)):=heap_alloc_new w3 _;have ow:=o3.within;replace o3:=o3.below ba;have B4:=Bu B2 (Bu b3 ba);have E4:=E.below (Bu b3 ba);have dW:w3.heap.size<(w3.alloc (.cells #[J U e.prio,J U e.seq,J U e.run,J U e.task] 163)).heap.size:=Bn;have cD:=b3.size;generalize w3.heap.size=xb at *
   generalize w3.alloc (.cells #[J U e.prio,J U e.seq,J U e.run,J U e.task] 163)=w4 at *
   refine hK.out _ _ E4 (fun hHeld=>?_);clear hK K_
   (try simp only [pS])
   refine rC 5 (fun K_ hK=>?_);go_simp;refine (Nz v3 l _ xb e w2 w4 hk Bl o3 Bl hx (fun h=>by have:=(ow _ h).2;omega)).mono ?_;rintro e5 w5 ⟨v5,rfl,o5,g5,-⟩;rw [<-cR.out] at o5;have B5:Below w w w5:=B4.grown g5 B4.size (fun g hg=>by have:=(ow g hg).1;omega);refine hK.out _ _ (E4.off g5 (fun h=>by have:=(ow _ h.symm).1;omega)) (fun hHeld=>?_);clear hK K_
   (try simp only [pS])
   refine rC 6 (fun K_ hK=>?_);go_simp;refine hK.out _ _ hHeld (fun hHeld=>?_);clear hK K_
   (try simp only [pS])
   refine Al Bm ?_ _;refine NoPanic.normal ?_;obtain ⟨s9,F9,rfl,o9,n9⟩:=Hr (o5.more aU);go_wp2;go_ret;exact ⟨s9,F9,rfl,o9,n9,B5⟩
  ·go_simp;have ba:Below w2 w2 (w2.alloc (.cells #[J U e.prio,J U e.seq,J U e.run,J U e.task] 163)):=Bt;have hx:(w2.alloc (.cells #[J U e.prio,J U e.seq,J U e.run,J U e.task] 163)).heap[w2.heap.size]? = Ac (.cells (Cy.cells e).toArray 163 (0,0)):=heap_alloc_new w2 _;have B3:=Bu B2 ba;replace E:=E.below ba;have dW:w2.heap.size<(w2.alloc (.cells #[J U e.prio,J U e.seq,J U e.run,J U e.task] 163)).heap.size:=Bn;generalize w2.heap.size=xb at *
   generalize w2.alloc (.cells #[J U e.prio,J U e.seq,J U e.run,J U e.task] 163)=w3 at *
   refine hK.out _ _ E (fun hHeld=>?_);clear hK K_
   (try simp only [pS])
   refine rC 1 (fun K_ hK=>?_);go_simp;refine (CC.out w3 B3).mono ?_;rintro e3 w4 ⟨v3,rfl,o3,b4⟩;replace hx:=(b4.block xb dW).trans hx;have ow:=o3.within;have B4:=Bu B3 b4;have E4:=E.below b4;have uH:=B3.size;have hz4:=b4.size;refine hK.out _ _ E4 (fun hHeld=>?_);clear hK K_
   (try simp only [pS])
   refine rC 5 (fun K_ hK=>?_);go_simp;refine (Nz v3 l _ xb e w3 w4 hk Bl o3 Bl hx (fun h=>by have:=(ow _ h).1;omega)).mono ?_;rintro e5 w5 ⟨v5,rfl,o5,g5,-⟩;rw [<-cR.out] at o5;have B5:Below w w w5:=B4.grown g5 B4.size (fun g hg=>by have:=(ow g hg).1;omega);refine hK.out _ _ (E4.off g5 (fun h=>by have:=(ow _ h.symm).1;omega)) (fun hHeld=>?_);clear hK K_
   (try simp only [pS])
   refine rC 6 (fun K_ hK=>?_);go_simp;refine hK.out _ _ hHeld (fun hHeld=>?_);clear hK K_
   (try simp only [pS])
   refine Al Bm ?_ _;refine NoPanic.normal ?_;obtain ⟨s9,F9,rfl,o9,n9⟩:=Hr (o5.more uH);go_wp2;go_ret;exact ⟨s9,F9,rfl,o9,n9,B5⟩
def Kb:Plan:=⟨0,0,0,0,[]⟩
def Gr (d:Deed):Deed :=
 if d.kind=1 then ⟨d.kind,d.run,d.plan,0,0,0,0⟩
 else if d.kind=2 then ⟨d.kind,0,Kb,0,0,d.worker,d.draw⟩
 else if d.kind=3\/d.kind=4 then ⟨d.kind,d.run,Kb,d.task,d.try_,0,0⟩
 else if d.kind=6\/d.kind=7 then ⟨d.kind,d.run,Kb,0,0,0,0⟩
 else ⟨d.kind,0,Kb,0,0,0,0⟩
theorem DBox.drew {b:Nat} {cs:List Value} {w:World} (h:DBox b cs w):DBox b cs w.drew:=⟨h.cell,h.free,h.lt⟩
theorem DBox.row11 {b:Nat} {cs:List Value} {w:World} (h:DBox b cs w) (hn:cs.length=11) (u0 u1 u2 u3 u4 u5 u6 u7 u8 u9 u10:Value) :
  DBox b [u0,u1,u2,u3,u4,u5,u6,u7,u8,u9,u10] (((((((((((w.setCell ⟨b,0,Ab⟩ u0).setCell ⟨b,1,Ab⟩ u1).setCell ⟨b,2,Ab⟩ u2).setCell ⟨b,3,Ab⟩ u3).setCell ⟨b,4,Ab⟩ u4).setCell ⟨b,5,Ab⟩ u5).setCell ⟨b,6,Ab⟩ u6).setCell ⟨b,7,Ab⟩ u7).setCell ⟨b,8,Ab⟩ u8).setCell ⟨b,9,Ab⟩ u9).setCell ⟨b,10,Ab⟩ u10):=by
 obtain ⟨c0,c1,c2,c3,c4,c5,c6,c7,c8,c9,c10,rfl⟩:∃ c0 c1 c2 c3 c4 c5 c6 c7 c8 c9 c10,cs=[c0,c1,c2,c3,c4,c5,c6,c7,c8,c9,c10]:=by
  match cs,hn with
  | [c0,c1,c2,c3,c4,c5,c6,c7,c8,c9,c10],_=>exact ⟨c0,c1,c2,c3,c4,c5,c6,c7,c8,c9,c10,rfl⟩
 exact ((((((((((h.set 0 Bn u0).set 1 Bn u1).set 2 Bn u2).set 3 Bn u3).set 4 Bn u4).set 5 Bn u5).set 6 Bn u6).set 7 Bn u7).set 8 Bn u8).set 9 Bn u9).set 10 Bn u10
theorem Ly {b:Nat} {w:World} {u0 u1 u2 u3 u4 u5 u6 u7 u8 u9 u10:Value} (X:DBox b [u0,u1,u2,u3,u4,u5,u6,u7,u8,u9,u10] w) {v0 v1:Value} {rest:List Value} :
  (results Tryz.f109 (v0 :: v1 :: .pointer (Ac ⟨b,0,Ab⟩) :: rest).toArray).run Am w = .ok (.agg #[u0,u1,u2,u3,u4,u5,u6,u7,u8,u9,u10]) w:=by
 have c0:=X.cell 0 _ rfl;have c1:=X.cell 1 _ rfl;have c2:=X.cell 2 _ rfl;have c3:=X.cell 3 _ rfl;have c4:=X.cell 4 _ rfl;have c5:=X.cell 5 _ rfl;have c6:=X.cell 6 _ rfl;have c7:=X.cell 7 _ rfl;have c8:=X.cell 8 _ rfl;have c9:=X.cell 9 _ rfl;have c10:=X.cell 10 _ rfl;simp [results,results109,go_sem,c0,c1,c2,c3,c4,c5,c6,c7,c8,c9,c10]
theorem Afa (d:Deed) (s:Sl) (w:World) (hk:d.kind=1) :
  Calls Am 109 #[De d s] w fun e w'=>e = .returned (De (Gr d) (if d.kind=1 then s else ⟨Ab,0,0⟩))/\Below w w w':=by
 obtain ⟨A,n,c⟩:=s;obtain ⟨kd,rn,p,tk,ty,wk,dr⟩:=d;obtain rfl:kd=1:=hk;show Calls Am 109 #[De ⟨1,rn,p,tk,ty,wk,dr⟩ ⟨A,n,c⟩] w fun e w'=>e = .returned (De (Gr ⟨1,rn,p,tk,ty,wk,dr⟩) (if (1:Int)=1 then (⟨A,n,c⟩:Sl) else ⟨Ab,0,0⟩))/\Below w w w';rw [show De (Gr ⟨1,rn,p,tk,ty,wk,dr⟩) (if (1:Int)=1 then (⟨A,n,c⟩:Sl) else ⟨Ab,0,0⟩)=De ⟨1,rn,p,0,0,0,0⟩ ⟨A,n,c⟩ from rfl];obtain ⟨W,aH,X,R,Y,B0⟩:=bx3 w 38 [J U 1,J U rn,J U p.prio,J U p.most,J U p.wait,J U p.tasks,Aa A n c,J U tk,J U ty,J U wk,J U dr] 38 [J U 0,J U 0,J U 0,J U 0,J U 0,J U 0,Aa Ab 0 0,J U 0,J U 0,J U 0,J U 0] 38 [J U 1,J U 0,J U 0,J U 0,J U 0,J U 0,Aa Ab 0 0,J U 0,J U 0,J U 0,J U 0];go_enter func109,ntmps109;go_wp2;rw [<-aH.out];clear aH;have X_:=X.g11;have Y_:=Y.g11;have R_:=R.g11;have yf:=Y.free;have rf:=R.free;go_region;have Y3:DBox (w+1+1) [J U 1,J U rn,J U p.prio,J U p.most,J U p.wait,J U p.tasks,Aa A n c,J U 0,J U 0,J U 0,J U 0] ((((((W.setCell ⟨w+1+1,1,Ab⟩ (J U rn)).setCell ⟨w+1+1,2,Ab⟩ (J U p.prio)).setCell ⟨w+1+1,3,Ab⟩ (J U p.most)).setCell ⟨w+1+1,4,Ab⟩ (J U p.wait)).setCell ⟨w+1+1,5,Ab⟩ (J U p.tasks)).setCell ⟨w+1+1,6,Ab⟩ (Aa A n c)).drew:=DBox.drew ((((((Y.set 1 Bn (J U rn)).set 2 Bn (J U p.prio)).set 3 Bn (J U p.most)).set 4 Bn (J U p.wait)).set 5 Bn (J U p.tasks)).set 6 Bn (Aa A n c));have R3:DBox (w+1) [J U 0,J U 0,J U 0,J U 0,J U 0,J U 0,Aa Ab 0 0,J U 0,J U 0,J U 0,J U 0] ((((((W.setCell ⟨w+1+1,1,Ab⟩ (J U rn)).setCell ⟨w+1+1,2,Ab⟩ (J U p.prio)).setCell ⟨w+1+1,3,Ab⟩ (J U p.most)).setCell ⟨w+1+1,4,Ab⟩ (J U p.wait)).setCell ⟨w+1+1,5,Ab⟩ (J U p.tasks)).setCell ⟨w+1+1,6,Ab⟩ (Aa A n c)).drew:=DBox.drew ((((((R.setOther (a:=⟨w+1+1,1,Ab⟩) Bn (J U rn)).setOther (a:=⟨w+1+1,2,Ab⟩) Bn (J U p.prio)).setOther (a:=⟨w+1+1,3,Ab⟩) Bn (J U p.most)).setOther (a:=⟨w+1+1,4,Ab⟩) Bn (J U p.wait)).setOther (a:=⟨w+1+1,5,Ab⟩) Bn (J U p.tasks)).setOther (a:=⟨w+1+1,6,Ab⟩) Bn (Aa A n c));have B3:Below w w ((((((W.setCell ⟨w+1+1,1,Ab⟩ (J U rn)).setCell ⟨w+1+1,2,Ab⟩ (J U p.prio)).setCell ⟨w+1+1,3,Ab⟩ (J U p.most)).setCell ⟨w+1+1,4,Ab⟩ (J U p.wait)).setCell ⟨w+1+1,5,Ab⟩ (J U p.tasks)).setCell ⟨w+1+1,6,Ab⟩ (Aa A n c)).drew:=Below.drew (Ad (Ad (Ad (Ad (Ad (Ad B0 Bo (J U rn)) Bo (J U p.prio)) Bo (J U p.most)) Bo (J U p.wait)) Bo (J U p.tasks)) Bo (Aa A n c));clear X_;clear Y_;clear R_;clear X Y R yf rf B0;generalize ((((((W.setCell ⟨w+1+1,1,Ab⟩ (J U rn)).setCell ⟨w+1+1,2,Ab⟩ (J U p.prio)).setCell ⟨w+1+1,3,Ab⟩ (J U p.most)).setCell ⟨w+1+1,4,Ab⟩ (J U p.wait)).setCell ⟨w+1+1,5,Ab⟩ (J U p.tasks)).setCell ⟨w+1+1,6,Ab⟩ (Aa A n c)).drew=W3 at *
 have Y:=Y3;have R:=R3;have B0:=B3;clear Y3 R3 B3;have Y_:=Y.g11;have R_:=R.g11;have yf:=Y.free;have rf:=R.free;all_goals go_wp2
 all_goals refine Aj (v:=De ⟨1,rn,p,0,0,0,0⟩ ⟨A,n,c⟩) (Ly (DBox.row11 (cs:=[J U 0,J U 0,J U 0,J U 0,J U 0,J U 0,Aa Ab 0 0,J U 0,J U 0,J U 0,J U 0]) ?_ rfl _ _ _ _ _ _ _ _ _ _ _)) rfl ⟨rfl,?_⟩
 all_goals repeat (first | (with_reducible exact B0) | (with_reducible exact R) | refine Ad ?_ Bo _ | refine DBox.setOther ?_ Bo _)
theorem Afb (d:Deed) (s:Sl) (w:World) (hk:d.kind=2) :
  Calls Am 109 #[De d s] w fun e w'=>e = .returned (De (Gr d) (if d.kind=1 then s else ⟨Ab,0,0⟩))/\Below w w w':=by
 obtain ⟨A,n,c⟩:=s;obtain ⟨kd,rn,p,tk,ty,wk,dr⟩:=d;obtain rfl:kd=2:=hk;show Calls Am 109 #[De ⟨2,rn,p,tk,ty,wk,dr⟩ ⟨A,n,c⟩] w fun e w'=>e = .returned (De (Gr ⟨2,rn,p,tk,ty,wk,dr⟩) (if (2:Int)=1 then (⟨A,n,c⟩:Sl) else ⟨Ab,0,0⟩))/\Below w w w';rw [show De (Gr ⟨2,rn,p,tk,ty,wk,dr⟩) (if (2:Int)=1 then (⟨A,n,c⟩:Sl) else ⟨Ab,0,0⟩)=De ⟨2,0,Kb,0,0,wk,dr⟩ ⟨Ab,0,0⟩ from rfl];obtain ⟨W,aH,X,R,Y,B0⟩:=bx3 w 38 [J U 2,J U rn,J U p.prio,J U p.most,J U p.wait,J U p.tasks,Aa A n c,J U tk,J U ty,J U wk,J U dr] 38 [J U 0,J U 0,J U 0,J U 0,J U 0,J U 0,Aa Ab 0 0,J U 0,J U 0,J U 0,J U 0] 38 [J U 2,J U 0,J U 0,J U 0,J U 0,J U 0,Aa Ab 0 0,J U 0,J U 0,J U 0,J U 0];go_enter func109,ntmps109;go_wp2;rw [<-aH.out];clear aH;have X_:=X.g11;have Y_:=Y.g11;have R_:=R.g11;have yf:=Y.free;have rf:=R.free;go_region;have Y3:DBox (w+1+1) [J U 2,J U 0,J U 0,J U 0,J U 0,J U 0,Aa Ab 0 0,J U 0,J U 0,J U wk,J U dr] ((W.setCell ⟨w+1+1,9,Ab⟩ (J U wk)).setCell ⟨w+1+1,10,Ab⟩ (J U dr)).drew:=DBox.drew ((Y.set 9 Bn (J U wk)).set 10 Bn (J U dr));have R3:DBox (w+1) [J U 0,J U 0,J U 0,J U 0,J U 0,J U 0,Aa Ab 0 0,J U 0,J U 0,J U 0,J U 0] ((W.setCell ⟨w+1+1,9,Ab⟩ (J U wk)).setCell ⟨w+1+1,10,Ab⟩ (J U dr)).drew:=DBox.drew ((R.setOther (a:=⟨w+1+1,9,Ab⟩) Bn (J U wk)).setOther (a:=⟨w+1+1,10,Ab⟩) Bn (J U dr));have B3:Below w w ((W.setCell ⟨w+1+1,9,Ab⟩ (J U wk)).setCell ⟨w+1+1,10,Ab⟩ (J U dr)).drew:=Below.drew (Ad (Ad B0 Bo (J U wk)) Bo (J U dr));clear X_;clear Y_;clear R_;clear X Y R yf rf B0;generalize ((W.setCell ⟨w+1+1,9,Ab⟩ (J U wk)).setCell ⟨w+1+1,10,Ab⟩ (J U dr)).drew=W3 at *
 have Y:=Y3;have R:=R3;have B0:=B3;clear Y3 R3 B3;have Y_:=Y.g11;have R_:=R.g11;have yf:=Y.free;have rf:=R.free;all_goals go_wp2
 all_goals refine Aj (v:=De ⟨2,0,Kb,0,0,wk,dr⟩ ⟨Ab,0,0⟩) (Ly (DBox.row11 (cs:=[J U 0,J U 0,J U 0,J U 0,J U 0,J U 0,Aa Ab 0 0,J U 0,J U 0,J U 0,J U 0]) ?_ rfl _ _ _ _ _ _ _ _ _ _ _)) rfl ⟨rfl,?_⟩
 all_goals repeat (first | (with_reducible exact B0) | (with_reducible exact R) | refine Ad ?_ Bo _ | refine DBox.setOther ?_ Bo _)
theorem Afc (d:Deed) (s:Sl) (w:World) (hk:d.kind=3) :
  Calls Am 109 #[De d s] w fun e w'=>e = .returned (De (Gr d) (if d.kind=1 then s else ⟨Ab,0,0⟩))/\Below w w w':=by
 obtain ⟨A,n,c⟩:=s;obtain ⟨kd,rn,p,tk,ty,wk,dr⟩:=d;obtain rfl:kd=3:=hk;show Calls Am 109 #[De ⟨3,rn,p,tk,ty,wk,dr⟩ ⟨A,n,c⟩] w fun e w'=>e = .returned (De (Gr ⟨3,rn,p,tk,ty,wk,dr⟩) (if (3:Int)=1 then (⟨A,n,c⟩:Sl) else ⟨Ab,0,0⟩))/\Below w w w';rw [show De (Gr ⟨3,rn,p,tk,ty,wk,dr⟩) (if (3:Int)=1 then (⟨A,n,c⟩:Sl) else ⟨Ab,0,0⟩)=De ⟨3,rn,Kb,tk,ty,0,0⟩ ⟨Ab,0,0⟩ from rfl];obtain ⟨W,aH,X,R,Y,B0⟩:=bx3 w 38 [J U 3,J U rn,J U p.prio,J U p.most,J U p.wait,J U p.tasks,Aa A n c,J U tk,J U ty,J U wk,J U dr] 38 [J U 0,J U 0,J U 0,J U 0,J U 0,J U 0,Aa Ab 0 0,J U 0,J U 0,J U 0,J U 0] 38 [J U 3,J U 0,J U 0,J U 0,J U 0,J U 0,Aa Ab 0 0,J U 0,J U 0,J U 0,J U 0];go_enter func109,ntmps109;go_wp2;rw [<-aH.out];clear aH;have X_:=X.g11;have Y_:=Y.g11;have R_:=R.g11;have yf:=Y.free;have rf:=R.free;go_region;have Y3:DBox (w+1+1) [J U 3,J U rn,J U 0,J U 0,J U 0,J U 0,Aa Ab 0 0,J U tk,J U ty,J U 0,J U 0] (((W.setCell ⟨w+1+1,1,Ab⟩ (J U rn)).setCell ⟨w+1+1,7,Ab⟩ (J U tk)).setCell ⟨w+1+1,8,Ab⟩ (J U ty)).drew:=DBox.drew (((Y.set 1 Bn (J U rn)).set 7 Bn (J U tk)).set 8 Bn (J U ty));have R3:DBox (w+1) [J U 0,J U 0,J U 0,J U 0,J U 0,J U 0,Aa Ab 0 0,J U 0,J U 0,J U 0,J U 0] (((W.setCell ⟨w+1+1,1,Ab⟩ (J U rn)).setCell ⟨w+1+1,7,Ab⟩ (J U tk)).setCell ⟨w+1+1,8,Ab⟩ (J U ty)).drew:=DBox.drew (((R.setOther (a:=⟨w+1+1,1,Ab⟩) Bn (J U rn)).setOther (a:=⟨w+1+1,7,Ab⟩) Bn (J U tk)).setOther (a:=⟨w+1+1,8,Ab⟩) Bn (J U ty));have B3:Below w w (((W.setCell ⟨w+1+1,1,Ab⟩ (J U rn)).setCell ⟨w+1+1,7,Ab⟩ (J U tk)).setCell ⟨w+1+1,8,Ab⟩ (J U ty)).drew:=Below.drew (Ad (Ad (Ad B0 Bo (J U rn)) Bo (J U tk)) Bo (J U ty));clear X_;clear Y_;clear R_;clear X Y R yf rf B0;generalize (((W.setCell ⟨w+1+1,1,Ab⟩ (J U rn)).setCell ⟨w+1+1,7,Ab⟩ (J U tk)).setCell ⟨w+1+1,8,Ab⟩ (J U ty)).drew=W3 at *
 have Y:=Y3;have R:=R3;have B0:=B3;clear Y3 R3 B3;have Y_:=Y.g11;have R_:=R.g11;have yf:=Y.free;have rf:=R.free;all_goals go_wp2
 all_goals refine Aj (v:=De ⟨3,rn,Kb,tk,ty,0,0⟩ ⟨Ab,0,0⟩) (Ly (DBox.row11 (cs:=[J U 0,J U 0,J U 0,J U 0,J U 0,J U 0,Aa Ab 0 0,J U 0,J U 0,J U 0,J U 0]) ?_ rfl _ _ _ _ _ _ _ _ _ _ _)) rfl ⟨rfl,?_⟩
 all_goals repeat (first | (with_reducible exact B0) | (with_reducible exact R) | refine Ad ?_ Bo _ | refine DBox.setOther ?_ Bo _)
theorem Afd (d:Deed) (s:Sl) (w:World) (hk:d.kind=4) :
  Calls Am 109 #[De d s] w fun e w'=>e = .returned (De (Gr d) (if d.kind=1 then s else ⟨Ab,0,0⟩))/\Below w w w':=by
 obtain ⟨A,n,c⟩:=s;obtain ⟨kd,rn,p,tk,ty,wk,dr⟩:=d;obtain rfl:kd=4:=hk;show Calls Am 109 #[De ⟨4,rn,p,tk,ty,wk,dr⟩ ⟨A,n,c⟩] w fun e w'=>e = .returned (De (Gr ⟨4,rn,p,tk,ty,wk,dr⟩) (if (4:Int)=1 then (⟨A,n,c⟩:Sl) else ⟨Ab,0,0⟩))/\Below w w w';rw [show De (Gr ⟨4,rn,p,tk,ty,wk,dr⟩) (if (4:Int)=1 then (⟨A,n,c⟩:Sl) else ⟨Ab,0,0⟩)=De ⟨4,rn,Kb,tk,ty,0,0⟩ ⟨Ab,0,0⟩ from rfl];obtain ⟨W,aH,X,R,Y,B0⟩:=bx3 w 38 [J U 4,J U rn,J U p.prio,J U p.most,J U p.wait,J U p.tasks,Aa A n c,J U tk,J U ty,J U wk,J U dr] 38 [J U 0,J U 0,J U 0,J U 0,J U 0,J U 0,Aa Ab 0 0,J U 0,J U 0,J U 0,J U 0] 38 [J U 4,J U 0,J U 0,J U 0,J U 0,J U 0,Aa Ab 0 0,J U 0,J U 0,J U 0,J U 0];go_enter func109,ntmps109;go_wp2;rw [<-aH.out];clear aH;have X_:=X.g11;have Y_:=Y.g11;have R_:=R.g11;have yf:=Y.free;have rf:=R.free;go_region;have Y3:DBox (w+1+1) [J U 4,J U rn,J U 0,J U 0,J U 0,J U 0,Aa Ab 0 0,J U tk,J U ty,J U 0,J U 0] (((W.setCell ⟨w+1+1,1,Ab⟩ (J U rn)).setCell ⟨w+1+1,7,Ab⟩ (J U tk)).setCell ⟨w+1+1,8,Ab⟩ (J U ty)).drew:=DBox.drew (((Y.set 1 Bn (J U rn)).set 7 Bn (J U tk)).set 8 Bn (J U ty));have R3:DBox (w+1) [J U 0,J U 0,J U 0,J U 0,J U 0,J U 0,Aa Ab 0 0,J U 0,J U 0,J U 0,J U 0] (((W.setCell ⟨w+1+1,1,Ab⟩ (J U rn)).setCell ⟨w+1+1,7,Ab⟩ (J U tk)).setCell ⟨w+1+1,8,Ab⟩ (J U ty)).drew:=DBox.drew (((R.setOther (a:=⟨w+1+1,1,Ab⟩) Bn (J U rn)).setOther (a:=⟨w+1+1,7,Ab⟩) Bn (J U tk)).setOther (a:=⟨w+1+1,8,Ab⟩) Bn (J U ty));have B3:Below w w (((W.setCell ⟨w+1+1,1,Ab⟩ (J U rn)).setCell ⟨w+1+1,7,Ab⟩ (J U tk)).setCell ⟨w+1+1,8,Ab⟩ (J U ty)).drew:=Below.drew (Ad (Ad (Ad B0 Bo (J U rn)) Bo (J U tk)) Bo (J U ty));clear X_;clear Y_;clear R_;clear X Y R yf rf B0;generalize (((W.setCell ⟨w+1+1,1,Ab⟩ (J U rn)).setCell ⟨w+1+1,7,Ab⟩ (J U tk)).setCell ⟨w+1+1,8,Ab⟩ (J U ty)).drew=W3 at *
 have Y:=Y3;have R:=R3;have B0:=B3;clear Y3 R3 B3;have Y_:=Y.g11;have R_:=R.g11;have yf:=Y.free;have rf:=R.free;all_goals go_wp2
 all_goals refine Aj (v:=De ⟨4,rn,Kb,tk,ty,0,0⟩ ⟨Ab,0,0⟩) (Ly (DBox.row11 (cs:=[J U 0,J U 0,J U 0,J U 0,J U 0,J U 0,Aa Ab 0 0,J U 0,J U 0,J U 0,J U 0]) ?_ rfl _ _ _ _ _ _ _ _ _ _ _)) rfl ⟨rfl,?_⟩
 all_goals repeat (first | (with_reducible exact B0) | (with_reducible exact R) | refine Ad ?_ Bo _ | refine DBox.setOther ?_ Bo _)
theorem Afe (d:Deed) (s:Sl) (w:World) (hk:d.kind=6) :
  Calls Am 109 #[De d s] w fun e w'=>e = .returned (De (Gr d) (if d.kind=1 then s else ⟨Ab,0,0⟩))/\Below w w w':=by
 obtain ⟨A,n,c⟩:=s;obtain ⟨kd,rn,p,tk,ty,wk,dr⟩:=d;obtain rfl:kd=6:=hk;show Calls Am 109 #[De ⟨6,rn,p,tk,ty,wk,dr⟩ ⟨A,n,c⟩] w fun e w'=>e = .returned (De (Gr ⟨6,rn,p,tk,ty,wk,dr⟩) (if (6:Int)=1 then (⟨A,n,c⟩:Sl) else ⟨Ab,0,0⟩))/\Below w w w';rw [show De (Gr ⟨6,rn,p,tk,ty,wk,dr⟩) (if (6:Int)=1 then (⟨A,n,c⟩:Sl) else ⟨Ab,0,0⟩)=De ⟨6,rn,Kb,0,0,0,0⟩ ⟨Ab,0,0⟩ from rfl];obtain ⟨W,aH,X,R,Y,B0⟩:=bx3 w 38 [J U 6,J U rn,J U p.prio,J U p.most,J U p.wait,J U p.tasks,Aa A n c,J U tk,J U ty,J U wk,J U dr] 38 [J U 0,J U 0,J U 0,J U 0,J U 0,J U 0,Aa Ab 0 0,J U 0,J U 0,J U 0,J U 0] 38 [J U 6,J U 0,J U 0,J U 0,J U 0,J U 0,Aa Ab 0 0,J U 0,J U 0,J U 0,J U 0];go_enter func109,ntmps109;go_upto_region 12 with fail
 rw [<-aH.out];clear aH;have X_:=X.g11;have Y_:=Y.g11;have R_:=R.g11;have yf:=Y.free;have rf:=R.free;all_goals go_wp2
 all_goals refine Aj (v:=De ⟨6,rn,Kb,0,0,0,0⟩ ⟨Ab,0,0⟩) (Ly (DBox.row11 (cs:=[J U 0,J U 0,J U 0,J U 0,J U 0,J U 0,Aa Ab 0 0,J U 0,J U 0,J U 0,J U 0]) ?_ rfl _ _ _ _ _ _ _ _ _ _ _)) rfl ⟨rfl,?_⟩
 all_goals repeat (first | (with_reducible exact B0) | (with_reducible exact R) | refine Ad ?_ Bo _ | refine DBox.setOther ?_ Bo _)
theorem Aff (d:Deed) (s:Sl) (w:World) (hk:d.kind=7) :
  Calls Am 109 #[De d s] w fun e w'=>e = .returned (De (Gr d) (if d.kind=1 then s else ⟨Ab,0,0⟩))/\Below w w w':=by
 obtain ⟨A,n,c⟩:=s;obtain ⟨kd,rn,p,tk,ty,wk,dr⟩:=d;obtain rfl:kd=7:=hk;show Calls Am 109 #[De ⟨7,rn,p,tk,ty,wk,dr⟩ ⟨A,n,c⟩] w fun e w'=>e = .returned (De (Gr ⟨7,rn,p,tk,ty,wk,dr⟩) (if (7:Int)=1 then (⟨A,n,c⟩:Sl) else ⟨Ab,0,0⟩))/\Below w w w';rw [show De (Gr ⟨7,rn,p,tk,ty,wk,dr⟩) (if (7:Int)=1 then (⟨A,n,c⟩:Sl) else ⟨Ab,0,0⟩)=De ⟨7,rn,Kb,0,0,0,0⟩ ⟨Ab,0,0⟩ from rfl];obtain ⟨W,aH,X,R,Y,B0⟩:=bx3 w 38 [J U 7,J U rn,J U p.prio,J U p.most,J U p.wait,J U p.tasks,Aa A n c,J U tk,J U ty,J U wk,J U dr] 38 [J U 0,J U 0,J U 0,J U 0,J U 0,J U 0,Aa Ab 0 0,J U 0,J U 0,J U 0,J U 0] 38 [J U 7,J U 0,J U 0,J U 0,J U 0,J U 0,Aa Ab 0 0,J U 0,J U 0,J U 0,J U 0];go_enter func109,ntmps109;go_upto_region 12 with fail
 rw [<-aH.out];clear aH;have X_:=X.g11;have Y_:=Y.g11;have R_:=R.g11;have yf:=Y.free;have rf:=R.free;all_goals go_wp2
 all_goals refine Aj (v:=De ⟨7,rn,Kb,0,0,0,0⟩ ⟨Ab,0,0⟩) (Ly (DBox.row11 (cs:=[J U 0,J U 0,J U 0,J U 0,J U 0,J U 0,Aa Ab 0 0,J U 0,J U 0,J U 0,J U 0]) ?_ rfl _ _ _ _ _ _ _ _ _ _ _)) rfl ⟨rfl,?_⟩
 all_goals repeat (first | (with_reducible exact B0) | (with_reducible exact R) | refine Ad ?_ Bo _ | refine DBox.setOther ?_ Bo _)
theorem Afg (d:Deed) (s:Sl) (w:World) (k1:(d.kind == 1)=false) (k2:(d.kind == 2)=false) (k3:(d.kind == 3)=false) (k4:(d.kind == 4)=false) (k6:(d.kind == 6)=false) (k7:(d.kind == 7)=false) :
  Calls Am 109 #[De d s] w fun e w'=>e = .returned (De (Gr d) (if d.kind=1 then s else ⟨Ab,0,0⟩))/\Below w w w':=by
 obtain ⟨A,n,c⟩:=s;obtain ⟨kd,rn,p,tk,ty,wk,dr⟩:=d;replace k1:(kd == 1)=false:=k1;replace k2:(kd == 2)=false:=k2;replace k3:(kd == 3)=false:=k3;replace k4:(kd == 4)=false:=k4;replace k6:(kd == 6)=false:=k6;replace k7:(kd == 7)=false:=k7;show Calls Am 109 #[De ⟨kd,rn,p,tk,ty,wk,dr⟩ ⟨A,n,c⟩] w fun e w'=>e = .returned (De (Gr ⟨kd,rn,p,tk,ty,wk,dr⟩) (if (kd:Int)=1 then (⟨A,n,c⟩:Sl) else ⟨Ab,0,0⟩))/\Below w w w';rw [show De (Gr ⟨kd,rn,p,tk,ty,wk,dr⟩) (if (kd:Int)=1 then (⟨A,n,c⟩:Sl) else ⟨Ab,0,0⟩)=De ⟨kd,0,Kb,0,0,0,0⟩ ⟨Ab,0,0⟩ from by simp only [beq_eq_false_iff_ne] at k1 k2 k3 k4 k6 k7;simp [Gr,k1,k2,k3,k4,k6,k7]];obtain ⟨W,aH,X,R,Y,B0⟩:=bx3 w 38 [J U kd,J U rn,J U p.prio,J U p.most,J U p.wait,J U p.tasks,Aa A n c,J U tk,J U ty,J U wk,J U dr] 38 [J U 0,J U 0,J U 0,J U 0,J U 0,J U 0,Aa Ab 0 0,J U 0,J U 0,J U 0,J U 0] 38 [J U kd,J U 0,J U 0,J U 0,J U 0,J U 0,Aa Ab 0 0,J U 0,J U 0,J U 0,J U 0];go_enter func109,ntmps109;go_upto_region 13 with fail
 rw [<-aH.out];clear aH;have X_:=X.g11;have Y_:=Y.g11;have R_:=R.g11;have yf:=Y.free;have rf:=R.free;all_goals go_wp2
 all_goals refine Aj (v:=De ⟨kd,0,Kb,0,0,0,0⟩ ⟨Ab,0,0⟩) (Ly (DBox.row11 (cs:=[J U 0,J U 0,J U 0,J U 0,J U 0,J U 0,Aa Ab 0 0,J U 0,J U 0,J U 0,J U 0]) ?_ rfl _ _ _ _ _ _ _ _ _ _ _)) rfl ⟨rfl,?_⟩
 all_goals repeat (first | (with_reducible exact B0) | (with_reducible exact R) | refine Ad ?_ Bo _ | refine DBox.setOther ?_ Bo _)
def Ii (y:Yard) (was r:Run) (n:Nat):Yard:=(N0 was r n).foldl (fun y t=>Lw y r t) y
theorem Abl {y:Yard} {was r:Run} {n:Nat} (h1:(Cv r n).state=2) (h2:¬ (Cv was n).state=2):Ii y was r (n+1)=Lw (Ii y was r n) r n:=by
 unfold Ii;rw [Vd,if_pos ⟨h1,h2⟩,List.foldl_append];rfl
theorem Aeb {y:Yard} {was r:Run} {n:Nat} (h:¬ ((Cv r n).state=2 /\ ¬ (Cv was n).state=2)):Ii y was r (n+1)=Ii y was r n:=by
 unfold Ii;rw [Vd,if_neg h,List.append_nil]
theorem Afh (was r:Run) (n:Nat):(N0 was r n).length<=n:=by
 unfold N0;exact Ah (List.length_filter_le _ _) Bn
theorem Nl (r:Run) (M:Nat):∀ (l:List Nat) (y:Yard),(∀ s∈y.shelf,s.length<=M) -> ∀ s∈(l.foldl (fun y t=>Lw y r t) y).shelf,s.length<=M+l.length
 | [],y,h=>fun s hs=>by simpa using h s hs
 | t :: l,y,h=>fun s hs=>by
  have h1:∀ s∈(Lw y r t).shelf,s.length<=M+1:=by
   intro s hs;unfold Lw at hs;rcases List.mem_or_eq_of_mem_set hs with h2 | h2
   ·exact Nat.le_succ_of_le (h s h2)
   ·subst h2;rw [Aa7,List.getD_eq_getElem?_getD];cases q:y.shelf[C6 r.id]? with
    | none=>simp
    | some z=>have:=h z (List.mem_of_getElem? q);simp;omega
  have:=Nl r (M+1) l (Lw y r t) h1 s hs
  rw [List.length_cons];omega
structure LayF (y:Yard) (r:Run) (M n:Nat) (z:Yard):Prop where
 now:z.now=y.now
 runs:z.runs=y.runs
 len:z.shelf.length=y.shelf.length
 seq:y.seq<=z.seq/\z.seq<=y.seq+n
 all:∀ s∈z.shelf,s.length<=M+n
theorem Qb {y:Yard} {was r:Run} {M:Nat} (hM:∀ s∈y.shelf,s.length<=M) (n:Nat):LayF y r M n (Ii y was r n):=by
 obtain ⟨h1,h2,h3,h4⟩:=Qr r (N0 was r n) y;have h5:=Afh was r n;exact ⟨h1,h2,h3,by unfold Ii;rw [h4];omega,fun s hs=>Ah (Nl r M (N0 was r n) y hM s hs) Bl⟩
theorem Chg.high {F:List Nat} {a b:World} (h:Chg F a b) {g:Nat} (hg:a<=g) (o:Nat) (u:Value):Chg F a (b.setCell ⟨g,o,Ab⟩ u) :=
 ⟨h.os,h.tape,h.output,by simp [World.setCell];exact h.size,fun i hi hn=>(Below.heap_setCell b ⟨g,o,Ab⟩ u i (by show i≠g;omega)).trans (h.block i hi hn)⟩
theorem Chg.drew {F:List Nat} {a b:World} (h:Chg F a b):Chg F a b.drew:=⟨h.os,h.tape,h.output,h.size,h.block⟩
def Ags (z:Yard) (g o cs n:Nat) (R:Sl) (Fs:List Nat) (w:World) (e:Ending) (w':World):Prop :=
 ∃ F',e = .returned (Dm z (⟨Ac ⟨g,o,Ab⟩,n,cs⟩,R))/\OwL (Dt.list Bx) w' F' (Aa (Ac ⟨g,o,Ab⟩) n cs) z.shelf/\(∀ x∈F',x∈Fs\/w<=x)/\Chg [g] w w'
theorem OwL.free0 {α:Type} {d:Dt α} {w:World} {F:List Nat} {b o n c:Nat} {l:List α} (h:OwL d w F (Aa (Ac ⟨b,o,Ab⟩) n c) l) (hp:0<l.length):∀ j,w.frozen? ⟨b,j,Ab⟩=false:=by
 obtain ⟨rs,H,G,hm,hh,ho,rfl,hn⟩:=h;have kW:0<rs.length:=by rw [<-hm,Ar] at hp;exact hp
 obtain ⟨b',o',hA,rfl,mP,hf⟩:=hh.at_ kW;simp only [Option.some.injEq,Addr.mk.injEq,and_true] at hA;obtain ⟨rfl,rfl⟩:=hA;exact hf
theorem Agt {b:Nat} {w:World} {u0 u1 u2 u3:Value} (X:DBox b [u0,u1,u2,u3] w) {v0 v1 v2 v3 v4 v5:Value} {rest:List Value} :
  (results Tryz.f204 (v0 :: v1 :: v2 :: v3 :: v4 :: v5 :: .pointer (Ac ⟨b,0,Ab⟩) :: rest).toArray).run Am w = .ok (.agg #[u0,u1,u2,u3]) w:=by
 have c0:=X.cell 0 _ rfl;have c1:=X.cell 1 _ rfl;have c2:=X.cell 2 _ rfl;have c3:=X.cell 3 _ rfl;simp [results,results204,go_sem,c0,c1,c2,c3]
theorem Sh (y:Yard) (g o cs:Nat) (R:Sl) (was:Run) (sw:Sl×Sl) (r:Run) (sr:Sl×Sl) (w:World) (Fs:List Nat) (h4:y.shelf.length=4) (hM:∀ s∈y.shelf,s.length<=1000000) (hq:0<=y.seq/\y.seq<=2000000000) (hT:r.tasks.length<=1000) (rI:was.tasks.length<=1000)
  (hs:OwL (Dt.list Bx) w Fs (Aa (Ac ⟨g,o,Ab⟩) y.shelf.length cs) y.shelf)
  (HR:Hid (∀ W,Chg [g] w W->RdL C7 W W (Aa sr.2.a sr.2.n sr.2.c) r.tasks)) (HW:Hid (∀ W,Chg [g] w W->RdL C7 W W (Aa sw.2.a sw.2.n sw.2.c) was.tasks)) :
  Calls Am 204 #[Dm y (⟨Ac ⟨g,o,Ab⟩,y.shelf.length,cs⟩,R),Gt was sw,Gt r sr] w (Ags (Nj y was r) g o cs y.shelf.length R Fs w):=by
 have eY:g<w:=by
  obtain ⟨b,o',s,hA,hb,_⟩:=hs.rd.entryS (k:=0) (by omega);simp only [Option.some.injEq,Addr.mk.injEq,and_true] at hA;omega
 have jK:=Bq hs.lt;have tX:C6 r.id<y.shelf.length:=by rw [h4];exact Vb _
 obtain ⟨⟨ea,en,ec⟩,⟨ta,tn,tc⟩⟩:=sr;obtain ⟨⟨ea',en',ec'⟩,⟨ta',tn',tc'⟩⟩:=sw;have htn:tn=r.tasks.length:=RdL.at1 (s:=⟨ta,tn,tc⟩) (HR.out w (Chg.refl _ _));have htn':tn'=was.tasks.length:=RdL.at1 (s:=⟨ta',tn',tc'⟩) (HW.out w (Chg.refl _ _));subst htn htn';replace h4:=Bq h4;have Y:=(((DBox.new 27 [J U y.now,J U y.seq,Aa (Ac ⟨g,o,Ab⟩) y.shelf.length cs,Aa R.a R.n R.c] w (b:=w) rfl).below ((Br _ _).alloc (Bs _) (.cells #[J U was.id,J U was.plan.prio,J U was.plan.most,J U was.plan.wait,J U was.plan.tasks,Aa ea' en' ec',J U was.state,Aa ta' was.tasks.length tc'] 167))).below ((Br _ _).alloc (Bs _) (.cells #[J U r.id,J U r.plan.prio,J U r.plan.most,J U r.plan.wait,J U r.plan.tasks,Aa ea en ec,J U r.state,Aa ta r.tasks.length tc] 167))).below ((Br _ _).alloc (Bs _) (.cells #[J U 0,J U 0,Aa Ab 0 0,Aa Ab 0 0] 27));have WB:=((DBox.new 167 [J U was.id,J U was.plan.prio,J U was.plan.most,J U was.plan.wait,J U was.plan.tasks,Aa ea' en' ec',J U was.state,Aa ta' was.tasks.length tc'] (w.alloc (.cells #[J U y.now,J U y.seq,Aa (Ac ⟨g,o,Ab⟩) y.shelf.length cs,Aa R.a R.n R.c] 27)) (b:=w+1) Bn).below ((Br _ _).alloc (Bs _) (.cells #[J U r.id,J U r.plan.prio,J U r.plan.most,J U r.plan.wait,J U r.plan.tasks,Aa ea en ec,J U r.state,Aa ta r.tasks.length tc] 167))).below ((Br _ _).alloc (Bs _) (.cells #[J U 0,J U 0,Aa Ab 0 0,Aa Ab 0 0] 27));have RB:=(DBox.new 167 [J U r.id,J U r.plan.prio,J U r.plan.most,J U r.plan.wait,J U r.plan.tasks,Aa ea en ec,J U r.state,Aa ta r.tasks.length tc] ((w.alloc (.cells #[J U y.now,J U y.seq,Aa (Ac ⟨g,o,Ab⟩) y.shelf.length cs,Aa R.a R.n R.c] 27)).alloc (.cells #[J U was.id,J U was.plan.prio,J U was.plan.most,J U was.plan.wait,J U was.plan.tasks,Aa ea' en' ec',J U was.state,Aa ta' was.tasks.length tc'] 167)) (b:=w+1+1) Bn).below ((Br _ _).alloc (Bs _) (.cells #[J U 0,J U 0,Aa Ab 0 0,Aa Ab 0 0] 27));have RES:=DBox.new 27 [J U 0,J U 0,Aa Ab 0 0,Aa Ab 0 0] (((w.alloc (.cells #[J U y.now,J U y.seq,Aa (Ac ⟨g,o,Ab⟩) y.shelf.length cs,Aa R.a R.n R.c] 27)).alloc (.cells #[J U was.id,J U was.plan.prio,J U was.plan.most,J U was.plan.wait,J U was.plan.tasks,Aa ea' en' ec',J U was.state,Aa ta' was.tasks.length tc'] 167)).alloc (.cells #[J U r.id,J U r.plan.prio,J U r.plan.most,J U r.plan.wait,J U r.plan.tasks,Aa ea en ec,J U r.state,Aa ta r.tasks.length tc] 167)) (b:=w+1+1+1) Bn;have B0:Below w w ((((w.alloc (.cells #[J U y.now,J U y.seq,Aa (Ac ⟨g,o,Ab⟩) y.shelf.length cs,Aa R.a R.n R.c] 27)).alloc (.cells #[J U was.id,J U was.plan.prio,J U was.plan.most,J U was.plan.wait,J U was.plan.tasks,Aa ea' en' ec',J U was.state,Aa ta' was.tasks.length tc'] 167)).alloc (.cells #[J U r.id,J U r.plan.prio,J U r.plan.most,J U r.plan.wait,J U r.plan.tasks,Aa ea en ec,J U r.state,Aa ta r.tasks.length tc] 167)).alloc (.cells #[J U 0,J U 0,Aa Ab 0 0,Aa Ab 0 0] 27)):=by repeat (first | exact Br _ _ | refine Ae ?_ Bo _)
 go_enter func204,ntmps204;go_wp2_with (go_at_call 261;refine (Ta r.id _).mono ?_;rintro e w1 ⟨rfl,b1⟩)
 replace Y:=Y.below b1;replace WB:=WB.below b1;replace RB:=RB.below b1;replace RES:=RES.below b1;replace B0:=Bu B0 b1;clear b1;generalize Dm y (⟨Ac ⟨g,o,Ab⟩,y.shelf.length,cs⟩,R)=yv;generalize Gt was (⟨ea',en',ec'⟩,⟨ta',was.tasks.length,tc'⟩)=wv;generalize Gt r (⟨ea,en,ec⟩,⟨ta,r.tasks.length,tc⟩)=rv;have C0:=Chg.of_below [g] B0;have uR:=hs.below B0;go_loopw [8] (fun i wr=>∃ (n:Nat) (F:List Nat),n<=r.tasks.length/\i = J U n/\Hid (OwL (Dt.list Bx) wr F (Aa (Ac ⟨g,o,Ab⟩) y.shelf.length cs) (Ii y was r n).shelf/\(∀ x∈F,x∈Fs\/w+4<=x))/\DBox w [J U y.now,J U (Ii y was r n).seq,Aa (Ac ⟨g,o,Ab⟩) y.shelf.length cs,Aa R.a R.n R.c] wr/\DBox (w+1) [J U was.id,J U was.plan.prio,J U was.plan.most,J U was.plan.wait,J U was.plan.tasks,Aa ea' en' ec',J U was.state,Aa ta' was.tasks.length tc'] wr/\DBox (w+1+1) [J U r.id,J U r.plan.prio,J U r.plan.most,J U r.plan.wait,J U r.plan.tasks,Aa ea en ec,J U r.state,Aa ta r.tasks.length tc] wr/\DBox (w+1+1+1) [J U 0,J U 0,Aa Ab 0 0,Aa Ab 0 0] wr/\Chg [g] w wr) (fun i _=>r.tasks.length - (intOf i).toNat);case atStart=>exact ⟨0,Fs,Ag _,rfl,⟨uR,fun x hx=>.inl hx⟩,Y,WB,RB,RES,C0⟩
 case round =>
  clear Y WB RB RES C0 uR B0;obtain ⟨n,F,hn,rfl,hO,Y,WB,RB,RES,hb⟩:=hrel;have hf:=Qb (was:=was) (r:=r) hM n;obtain ⟨Y_0,Y_1,Y_2,Y_3,Y_l⟩:=Y.g4;have WB_:=WB.g8;obtain ⟨RB_0,RB_1,RB_2,RB_3,RB_4,RB_5,RB_6,RB_7,RB_l⟩:=RB.g8;obtain ⟨RES_0,RES_1,RES_2,RES_3,RES_l⟩:=RES.g4;by_cases aA:n<r.tasks.length;case neg =>
   have aB:¬ (n:Int)<(r.tasks.length:Int):=Bl;obtain rfl:n=r.tasks.length:=Bl;have HE:Hid (Ii y was r r.tasks.length=Nj y was r):=rfl;have rf:=RES.free;go_wp2;have R4:=DBox.row4 RES rfl (J U y.now) (J U (Ii y was r r.tasks.length).seq) (Aa (Ac ⟨g,o,Ab⟩) y.shelf.length cs) (Aa R.a R.n R.c);refine Aj (Agt R4) rfl ⟨F,?_,?_,?_,?_⟩
   ·rw [<-HE.out,<-hf.now]
   ·rw [<-HE.out];have hn3:w.heap.size+1+1+1∉F:=fun hx=>by rcases hO.out.2 _ hx with h | h;(have:=jK.out _ h;omega);omega
    exact (((hO.out.1.set (a:=⟨_,_,Ab⟩) hn3 _).set (a:=⟨_,_,Ab⟩) hn3 _).set (a:=⟨_,_,Ab⟩) hn3 _).set (a:=⟨_,_,Ab⟩) hn3 _
   ·exact fun x hx=>(hO.out.2 x hx).imp id (fun h=>Bl)
   ·exact (((hb.high Bl _ _).high Bl _ _).high Bl _ _).high Bl _ _
  have aB:(n:Int)<(r.tasks.length:Int):=Bl;have uV:(0:Int)<=(n:Int):=Bl;obtain ⟨b1,o1,_,rfl,aK,_,c0,-,-,-⟩:=(HR.out wr hb).task aA;have ht:=Bq (Cu aA);by_cases q1:r.tasks[n].state=2;case neg =>
   have q2:(r.tasks[n].state != 2)=true:=by simp [q1]
   have aE:=Bq (Aeb (y:=y) (was:=was) (r:=r) (n:=n) (fun h=>by rw [ht.out] at h;exact q1 h.1));clear q1;go_wp2;exact ⟨⟨n+1,F,Bl,by go_num,by rw [aE.out];exact hO,by rw [aE.out];exact Y,WB,RB,RES,hb⟩,by simp [intOf];omega⟩
  have q2:(r.tasks[n].state != 2)=false:=by simp [q1]
  have sL:=Bq (show (Cv r n).state=2 by rw [ht.out];exact q1);clear q1;by_cases sS:n<was.tasks.length
  ·have hlwI:(n:Int)<(was.tasks.length:Int):=Bl;obtain ⟨b2,o2,_,rfl,mG,_,d0,-,-,-⟩:=(HW.out wr hb).task sS;have uZ:=Bq (Cu sS);by_cases q3:was.tasks[n].state=2
   ·have q4:(was.tasks[n].state == 2)=true:=by simp [q3]
    have aE:=Bq (Aeb (y:=y) (was:=was) (r:=r) (n:=n) (fun h=>by rw [uZ.out] at h;exact h.2 q3));clear q3;go_wp2;exact ⟨⟨n+1,F,Bl,by go_num,by rw [aE.out];exact hO,by rw [aE.out];exact Y,WB,RB,RES,hb⟩,by simp [intOf];omega⟩
   ·have q4:(was.tasks[n].state == 2)=false:=by simp [q3]
    have aE:=Bq (Abl (y:=y) sL.out (show ¬ (Cv was n).state=2 by rw [uZ.out];exact q3));clear q3;have kP:C6 r.id<(Ii y was r n).shelf.length:=by rw [hf.len];exact tX
    obtain ⟨b9,o9,sk,dB,hbb9,dF,ck⟩:=hO.out.1.rd.entryS kP;simp only [Option.some.injEq,Addr.mk.injEq,and_true] at dB;obtain ⟨rfl,rfl⟩:=dB;have gL:((C6 r.id:Nat):Int)<(y.shelf.length:Int):=Bl;have cL:(0:Int)<=((C6 r.id:Nat):Int):=Bl;have qP:(Ii y was r n).shelf[C6 r.id].length<=2000000:=by have:=hf.all _ (Aw kP);omega
    have dJ:=Bq (show (Ii y was r n).shelf.getD (C6 r.id) []=(Ii y was r n).shelf[C6 r.id] by rw [List.getD_eq_getElem?_getD,List.getElem?_eq_getElem kP];rfl);have fZ:=hO.out.1.free0 Bl;have CP:=Bq (Kp (Ii y was r n).shelf[C6 r.id] sk ⟨r.plan.prio,(Ii y was r n).seq,r.id,n⟩ wr.drew qP (dF.below (Br _ _).drew));go_wp2;refine Db (fun w'=>w'.cell? ⟨w,1,Ab⟩=Ac (J U (Ii y was r n).seq)/\w'.cell? ⟨w,2,Ab⟩=Ac (Aa (Ac ⟨g,o,Ab⟩) y.shelf.length cs)/\w'.cell? ⟨w+1+1,0,Ab⟩=Ac (J U r.id)/\w'.cell? ⟨w+1+1,1,Ab⟩=Ac (J U r.plan.prio)/\w'.cell? ⟨g,o+C6 r.id,Ab⟩=Ac (Aa sk.a sk.n sk.c)) 19 Bm ?_ (fun hHeld=>?_)
    ·exact ⟨Y_1,Y_2,RB_0,RB_1,ck⟩
    refine aT 0 hHeld ?_;try simp only [pS]
    refine aT 1 hHeld ?_;try simp only [pS]
    refine aT 2 hHeld ?_;try simp only [pS]
    refine aT 3 hHeld ?_;try simp only [pS]
    refine aT 4 hHeld ?_;try simp only [pS]
    refine aT 5 hHeld ?_;try simp only [pS]
    refine aT 6 hHeld ?_;try simp only [pS]
    refine aT 7 hHeld ?_;try simp only [pS]
    refine aT 8 hHeld ?_;try simp only [pS]
    refine aT 9 hHeld ?_;try simp only [pS]
    refine aT 10 hHeld ?_;try simp only [pS]
    refine aT 11 hHeld ?_;try simp only [pS]
    refine aT 12 hHeld ?_;try simp only [pS]
    refine aT 13 hHeld ?_;try simp only [pS]
    refine aT 14 hHeld ?_;try simp only [pS]
    refine aT 15 hHeld ?_;try simp only [pS]
    refine aT 16 hHeld ?_;try simp only [pS]
    refine oT 17 (fun K hK=>?_)
    (go_simp;refine CP.out.mono ?_;rintro e w2 ⟨t2,F2,rfl,o2,n2,b2⟩;have hgs:w2.cell? ⟨g,o+C6 r.id,Ab⟩=Ac (Aa sk.a sk.n sk.c):=(b2.cell (p:=⟨_,_,Ab⟩) (by show g<wr;have:=hb.size;omega)).trans ck;have pZ:w2.frozen? ⟨g,o+C6 r.id,Ab⟩=false:=(b2.frozen (p:=⟨_,_,Ab⟩) (by show g<wr;have:=hb.size;omega)).trans (fZ _))
    refine hK.out _ _ (fun _=>?_) ?_
    ·exact ⟨(b2.cell (p:=⟨_,_,Ab⟩) (by show w.heap.size<wr.heap.size;omega)).trans Y_1,(b2.cell (p:=⟨_,_,Ab⟩) (by show w.heap.size<wr.heap.size;omega)).trans Y_2,(b2.cell (p:=⟨_,_,Ab⟩) (by show w.heap.size+1+1<wr.heap.size;omega)).trans RB_0,(b2.cell (p:=⟨_,_,Ab⟩) (by show w.heap.size+1+1<wr.heap.size;omega)).trans RB_1,(b2.cell (p:=⟨_,_,Ab⟩) (by show g<wr;have:=hb.size;omega)).trans ck⟩
    clear hK K;try simp only [pS]
    refine oT 18 (fun K hK=>?_);go_simp;refine hK.out _ _ (fun _=>?_) ?_
    ·exact ⟨(b2.cell (p:=⟨_,_,Ab⟩) (by show w.heap.size<wr.heap.size;omega)).trans Y_1,(b2.cell (p:=⟨_,_,Ab⟩) (by show w.heap.size<wr.heap.size;omega)).trans Y_2,(b2.cell (p:=⟨_,_,Ab⟩) (by show w.heap.size+1+1<wr.heap.size;omega)).trans RB_0,(b2.cell (p:=⟨_,_,Ab⟩) (by show w.heap.size+1+1<wr.heap.size;omega)).trans RB_1,(b2.cell (p:=⟨_,_,Ab⟩) (by show g<wr;have:=hb.size;omega)).trans ck⟩
    clear hK K;try simp only [pS]
    refine oT 19 (fun K hK=>?_);go_simp;refine hK.out _ _ (fun aC=>absurd rfl aC) ?_;clear hK K;try simp only [pS]
    refine D6 Bm ?_ _;have b2':Below wr wr w2:=Bu (Br _ _).drew b2;obtain ⟨F',p1,p2,p3,p4⟩:=OwL.swap (hO.out.1.below b2') kP (y:=Jd (Ii y was r n).shelf[C6 r.id] ⟨r.plan.prio,(Ii y was r n).seq,r.id,n⟩) (s:=t2) (Fy:=F2) o2 (fun x hx bJ=>by have h1:=n2 x hx;have h2:=hO.out.1.lt x bJ;have h3:wr.drew.heap.size=wr.heap.size:=rfl;omega);have fP:Hz w2 g (o+C6 r.id * (Dt.list Bx).enc.sz) ((Dt.list Bx).enc.cells (Jd (Ii y was r n).shelf[C6 r.id] ⟨r.plan.prio,(Ii y was r n).seq,r.id,n⟩,t2))=w2.setCell ⟨g,o+C6 r.id,Ab⟩ (Aa t2.a t2.n t2.c):=by
     rw [show (Dt.list Bx).enc.sz=1 from rfl,Nat.mul_one];rfl
    rw [fP] at p1;have B3:Chg [g] w (w2.setCell ⟨g,o+C6 r.id,Ab⟩ (Aa t2.a t2.n t2.c)):=(hb.trans (Chg.of_below [g] b2')).trans (Chg.setCell w2 g _ _);have bM:=RES_l;clear Y_0 Y_1 Y_2 Y_3 Y_l;clear WB_;clear RB_0 RB_1 RB_2 RB_3 RB_4 RB_5 RB_6 RB_7 RB_l;clear RES_0 RES_1 RES_2 RES_3 RES_l;replace Y:=(Y.below b2').setOther (a:=⟨g,o+C6 r.id,Ab⟩) (by show w.heap.size≠g;omega) (Aa t2.a t2.n t2.c);replace WB:=(WB.below b2').setOther (a:=⟨g,o+C6 r.id,Ab⟩) (by show w.heap.size+1≠g;omega) (Aa t2.a t2.n t2.c);replace RB:=(RB.below b2').setOther (a:=⟨g,o+C6 r.id,Ab⟩) (by show w.heap.size+1+1≠g;omega) (Aa t2.a t2.n t2.c);replace RES:=(RES.below b2').setOther (a:=⟨g,o+C6 r.id,Ab⟩) (by show w.heap.size+1+1+1≠g;omega) (Aa t2.a t2.n t2.c);generalize w2.setCell ⟨g,o+C6 r.id,Ab⟩ (Aa t2.a t2.n t2.c)=w3 at *
    have jX:=hf.seq;have y1:=Y.cell 1 _ rfl;have yf:=Y.free;have yl:=Y.lt;have uF:w.heap.size∉F':=fun hx=>by rcases p2 _ hx with h | h;(rcases hO.out.2 _ h with h | h;(have:=jK.out _ h;omega);omega);(have:=n2 _ h;have h3:wr.drew.heap.size=wr.heap.size:=rfl;omega)
    clear hHeld;go_wp2;exact ⟨⟨n+1,F',Bl,by go_num,⟨by rw [aE.out];unfold Lw;rw [dJ.out];exact p1.set (a:=⟨w,1,Ab⟩) uF _,fun x hx=>by rcases p2 x hx with h | h;exact hO.out.2 x h;right;have:=n2 _ h;have h3:wr.drew.heap.size=wr.heap.size:=rfl;omega⟩,by rw [aE.out];exact Y.set 1 Bn _,WB.setOther (by show w.heap.size+1≠w.heap.size;omega) _,RB.setOther (by show w.heap.size+1+1≠w.heap.size;omega) _,RES.setOther (by show w.heap.size+1+1+1≠w.heap.size;omega) _,B3.high (Bs _) _ _⟩,by simp [intOf];omega⟩
  ·have hlwI:¬ (n:Int)<(was.tasks.length:Int):=Bl;have aE:=Bq (Abl (y:=y) sL.out (show ¬ (Cv was n).state=2 by unfold Cv;rw [List.getD_eq_getElem?_getD,List.getElem?_eq_none Bl];simp));have kP:C6 r.id<(Ii y was r n).shelf.length:=by rw [hf.len];exact tX
   obtain ⟨b9,o9,sk,dB,hbb9,dF,ck⟩:=hO.out.1.rd.entryS kP;simp only [Option.some.injEq,Addr.mk.injEq,and_true] at dB;obtain ⟨rfl,rfl⟩:=dB;have gL:((C6 r.id:Nat):Int)<(y.shelf.length:Int):=Bl;have cL:(0:Int)<=((C6 r.id:Nat):Int):=Bl;have qP:(Ii y was r n).shelf[C6 r.id].length<=2000000:=by have:=hf.all _ (Aw kP);omega
   have dJ:=Bq (show (Ii y was r n).shelf.getD (C6 r.id) []=(Ii y was r n).shelf[C6 r.id] by rw [List.getD_eq_getElem?_getD,List.getElem?_eq_getElem kP];rfl);have fZ:=hO.out.1.free0 Bl;have CP:=Bq (Kp (Ii y was r n).shelf[C6 r.id] sk ⟨r.plan.prio,(Ii y was r n).seq,r.id,n⟩ wr.drew qP (dF.below (Br _ _).drew));go_wp2;refine Db (fun w'=>w'.cell? ⟨w,1,Ab⟩=Ac (J U (Ii y was r n).seq)/\w'.cell? ⟨w,2,Ab⟩=Ac (Aa (Ac ⟨g,o,Ab⟩) y.shelf.length cs)/\w'.cell? ⟨w+1+1,0,Ab⟩=Ac (J U r.id)/\w'.cell? ⟨w+1+1,1,Ab⟩=Ac (J U r.plan.prio)/\w'.cell? ⟨g,o+C6 r.id,Ab⟩=Ac (Aa sk.a sk.n sk.c)) 19 Bm ?_ (fun hHeld=>?_)
   ·exact ⟨Y_1,Y_2,RB_0,RB_1,ck⟩
   refine aT 0 hHeld ?_;try simp only [pS]
   refine aT 1 hHeld ?_;try simp only [pS]
   refine aT 2 hHeld ?_;try simp only [pS]
   refine aT 3 hHeld ?_;try simp only [pS]
   refine aT 4 hHeld ?_;try simp only [pS]
   refine aT 5 hHeld ?_;try simp only [pS]
   refine aT 6 hHeld ?_;try simp only [pS]
   refine aT 7 hHeld ?_;try simp only [pS]
   refine aT 8 hHeld ?_;try simp only [pS]
   refine aT 9 hHeld ?_;try simp only [pS]
   refine aT 10 hHeld ?_;try simp only [pS]
   refine aT 11 hHeld ?_;try simp only [pS]
   refine aT 12 hHeld ?_;try simp only [pS]
   refine aT 13 hHeld ?_;try simp only [pS]
   refine aT 14 hHeld ?_;try simp only [pS]
   refine aT 15 hHeld ?_;try simp only [pS]
   refine aT 16 hHeld ?_;try simp only [pS]
   refine oT 17 (fun K hK=>?_)
   (go_simp;refine CP.out.mono ?_;rintro e w2 ⟨t2,F2,rfl,o2,n2,b2⟩;have hgs:w2.cell? ⟨g,o+C6 r.id,Ab⟩=Ac (Aa sk.a sk.n sk.c):=(b2.cell (p:=⟨_,_,Ab⟩) (by show g<wr;have:=hb.size;omega)).trans ck;have pZ:w2.frozen? ⟨g,o+C6 r.id,Ab⟩=false:=(b2.frozen (p:=⟨_,_,Ab⟩) (by show g<wr;have:=hb.size;omega)).trans (fZ _))
   refine hK.out _ _ (fun _=>?_) ?_
   ·exact ⟨(b2.cell (p:=⟨_,_,Ab⟩) (by show w.heap.size<wr.heap.size;omega)).trans Y_1,(b2.cell (p:=⟨_,_,Ab⟩) (by show w.heap.size<wr.heap.size;omega)).trans Y_2,(b2.cell (p:=⟨_,_,Ab⟩) (by show w.heap.size+1+1<wr.heap.size;omega)).trans RB_0,(b2.cell (p:=⟨_,_,Ab⟩) (by show w.heap.size+1+1<wr.heap.size;omega)).trans RB_1,(b2.cell (p:=⟨_,_,Ab⟩) (by show g<wr;have:=hb.size;omega)).trans ck⟩
   clear hK K;try simp only [pS]
   refine oT 18 (fun K hK=>?_);go_simp;refine hK.out _ _ (fun _=>?_) ?_
   ·exact ⟨(b2.cell (p:=⟨_,_,Ab⟩) (by show w.heap.size<wr.heap.size;omega)).trans Y_1,(b2.cell (p:=⟨_,_,Ab⟩) (by show w.heap.size<wr.heap.size;omega)).trans Y_2,(b2.cell (p:=⟨_,_,Ab⟩) (by show w.heap.size+1+1<wr.heap.size;omega)).trans RB_0,(b2.cell (p:=⟨_,_,Ab⟩) (by show w.heap.size+1+1<wr.heap.size;omega)).trans RB_1,(b2.cell (p:=⟨_,_,Ab⟩) (by show g<wr;have:=hb.size;omega)).trans ck⟩
   clear hK K;try simp only [pS]
   refine oT 19 (fun K hK=>?_);go_simp;refine hK.out _ _ (fun aC=>absurd rfl aC) ?_;clear hK K;try simp only [pS]
   refine D6 Bm ?_ _;have b2':Below wr wr w2:=Bu (Br _ _).drew b2;obtain ⟨F',p1,p2,p3,p4⟩:=OwL.swap (hO.out.1.below b2') kP (y:=Jd (Ii y was r n).shelf[C6 r.id] ⟨r.plan.prio,(Ii y was r n).seq,r.id,n⟩) (s:=t2) (Fy:=F2) o2 (fun x hx bJ=>by have h1:=n2 x hx;have h2:=hO.out.1.lt x bJ;have h3:wr.drew.heap.size=wr.heap.size:=rfl;omega);have fP:Hz w2 g (o+C6 r.id * (Dt.list Bx).enc.sz) ((Dt.list Bx).enc.cells (Jd (Ii y was r n).shelf[C6 r.id] ⟨r.plan.prio,(Ii y was r n).seq,r.id,n⟩,t2))=w2.setCell ⟨g,o+C6 r.id,Ab⟩ (Aa t2.a t2.n t2.c):=by
    rw [show (Dt.list Bx).enc.sz=1 from rfl,Nat.mul_one];rfl
   rw [fP] at p1;have B3:Chg [g] w (w2.setCell ⟨g,o+C6 r.id,Ab⟩ (Aa t2.a t2.n t2.c)):=(hb.trans (Chg.of_below [g] b2')).trans (Chg.setCell w2 g _ _);have bM:=RES_l;clear Y_0 Y_1 Y_2 Y_3 Y_l;clear WB_;clear RB_0 RB_1 RB_2 RB_3 RB_4 RB_5 RB_6 RB_7 RB_l;clear RES_0 RES_1 RES_2 RES_3 RES_l;replace Y:=(Y.below b2').setOther (a:=⟨g,o+C6 r.id,Ab⟩) (by show w.heap.size≠g;omega) (Aa t2.a t2.n t2.c);replace WB:=(WB.below b2').setOther (a:=⟨g,o+C6 r.id,Ab⟩) (by show w.heap.size+1≠g;omega) (Aa t2.a t2.n t2.c);replace RB:=(RB.below b2').setOther (a:=⟨g,o+C6 r.id,Ab⟩) (by show w.heap.size+1+1≠g;omega) (Aa t2.a t2.n t2.c);replace RES:=(RES.below b2').setOther (a:=⟨g,o+C6 r.id,Ab⟩) (by show w.heap.size+1+1+1≠g;omega) (Aa t2.a t2.n t2.c);generalize w2.setCell ⟨g,o+C6 r.id,Ab⟩ (Aa t2.a t2.n t2.c)=w3 at *
   have jX:=hf.seq;have y1:=Y.cell 1 _ rfl;have yf:=Y.free;have yl:=Y.lt;have uF:w.heap.size∉F':=fun hx=>by rcases p2 _ hx with h | h;(rcases hO.out.2 _ h with h | h;(have:=jK.out _ h;omega);omega);(have:=n2 _ h;have h3:wr.drew.heap.size=wr.heap.size:=rfl;omega)
   clear hHeld;go_wp2;exact ⟨⟨n+1,F',Bl,by go_num,⟨by rw [aE.out];unfold Lw;rw [dJ.out];exact p1.set (a:=⟨w,1,Ab⟩) uF _,fun x hx=>by rcases p2 x hx with h | h;exact hO.out.2 x h;right;have:=n2 _ h;have h3:wr.drew.heap.size=wr.heap.size:=rfl;omega⟩,by rw [aE.out];exact Y.set 1 Bn _,WB.setOther (by show w.heap.size+1≠w.heap.size;omega) _,RB.setOther (by show w.heap.size+1+1≠w.heap.size;omega) _,RES.setOther (by show w.heap.size+1+1+1≠w.heap.size;omega) _,B3.high (Bs _) _ _⟩,by simp [intOf];omega⟩
theorem Aec {w:World} {B:Nat} {v:Value} {l:List Entry} (h:Rd Cy w B v l):RdL Bx w B v l:=by
 obtain ⟨A,c,rfl,hc,hA⟩:=h;refine ⟨l.map fun x=>(x,()),by rw [List.map_map];exact List.map_id _,⟨A,c,by rw [Ar],by rw [Ar];exact hc,fun hl=>?_⟩,fun _ _=>trivial⟩;rw [Ar] at hl;obtain ⟨b,o,h3,h4,h5⟩:=hA hl;refine ⟨b,o,h3,h4,fun k hk j u hu=>?_⟩;rw [List.getElem_map] at hu;exact h5 k (by rw [Ar] at hk;exact hk) j u hu
theorem Xs {b:Nat} {w:World} {u0 u1 u2 u3:Value} (X:DBox b [u0,u1,u2,u3] w) {v0 v1 v3 v4:Value} {rest:List Value} :
  (results Tryz.f185 (v0 :: v1 :: .pointer (Ac ⟨b,0,Ab⟩) :: v3 :: v4 :: rest).toArray).run Am w = .ok (.tuple #[.agg #[u0,u1,u2,u3],v3,v4]) w:=by
 obtain ⟨c0,c1,c2,c3,-⟩:=X.g4;simp [results,results185,go_sem,c0,c1,c2,c3]
theorem Qu (l:List Entry) (s:Sl) (w:World) (hl:l.length<=2000000) (h:RdL Bx w w s.v l) :
  Calls Am 185 #[Aa s.a s.n s.c] w (Abj l w):=by
 obtain ⟨A,n,c⟩:=s;obtain rfl:n=l.length:=RdL.at1 (s:=⟨A,n,c⟩) h;have R:=DBox.new 163 [J U 0,J U 0,J U 0,J U 0] w (b:=w) rfl;have B0:Below w w (w.alloc (.cells #[J U 0,J U 0,J U 0,J U 0] 163)):=by repeat (first | exact Br _ _ | refine Ae ?_ Bo _)
 cases l with
 | nil =>
  go_enter func185,ntmps185;go_wp2;refine Aj (Xs R) rfl ⟨⟨Ab,0,0⟩,[],rfl,⟨[],[],[],rfl,Hw.nil _ _ _ _,.nil,rfl,List.nodup_nil⟩,fun _ h=>(by cases h),?_⟩;repeat (first | (with_reducible exact B0) | refine Ad ?_ Bo _)
 | cons e tl =>
  have h1:((((e :: tl).length:Nat):Int) == 0)=false:=by rw [beq_eq_false_iff_ne];simp;omega
  have HC:=Bq (fun W (hW:Below w w W) (s':Sl) (hs':RdL Bx w w s'.v tl)=>Jc tl s' W (by simp at hl;omega) ((hs'.below hW).more hW.size));obtain ⟨b,o,_,rfl,aK,_,c0,c1,c2,c3⟩:=h.entry (k:=0) (by simp);simp only [Nat.zero_mul,Nat.add_zero,List.getElem_cons_zero] at c0 c1 c2 c3;have cI:(e :: tl).length<=c:=(Jm h).cap;have hd0:=(Jm h).fromL 1 Bn;generalize hL:(e :: tl).length=L at *
  have tA:0<L:=by rw [<-hL];simp
  have hLI:(0:Int)<(L:Int):=Bl;have hLI1:(1:Int)<=(L:Int):=Bl;have hLN:0<L:=Bl;have HS:=Bq (show ∀ W,Below w w W->(fun w'=>w'.cell? ⟨b,o,Ab⟩=Ac (J U e.prio)/\w'.cell? ⟨b,o+1,Ab⟩=Ac (J U e.seq)/\w'.cell? ⟨b,o+2,Ab⟩=Ac (J U e.run)/\w'.cell? ⟨b,o+3,Ab⟩=Ac (J U e.task)) W from fun W hW=>⟨(hW.cell (p:=⟨b,o,Ab⟩) aK).trans c0,(hW.cell (p:=⟨b,o+1,Ab⟩) aK).trans c1,(hW.cell (p:=⟨b,o+2,Ab⟩) aK).trans c2,(hW.cell (p:=⟨b,o+3,Ab⟩) aK).trans c3⟩);have hdB:=Bq (show RdL Bx w w.heap.size (Sl.v ⟨Ac ⟨b,o+4,Ab⟩,L - 1,c - 1⟩) tl from Aec hd0);have hdA:=Bq (show c=1->RdL Bx w w (Sl.v ⟨Ac ⟨b,o,Ab⟩,0,0⟩) tl from fun h=>by
   have:tl=[]:=List.eq_nil_of_length_eq_zero (by simp at hL;omega);subst this;exact ⟨[],rfl,⟨_,0,rfl,Ag _,fun h=>absurd h Bn⟩,fun _ h=>by cases h⟩)
  clear hd0 c0 c1 c2 c3 hL;have sB:c=1\/(¬ c=1/\(1:Int)<=(c:Int)/\1<c):=Bl;go_enter func185,ntmps185;go_upto_region 3 with fail
  generalize (w.alloc (.cells #[J U 0,J U 0,J U 0,J U 0] 163))=W at *
  rcases sB with rfl | ⟨sB,uN,sJ⟩
  have HX:=Bq (fun W hW=>HC.out W hW ⟨Ac ⟨b,o,Ab⟩,0,0⟩ (hdA.out rfl));rotate_left;have HX:=Bq (fun W hW=>HC.out W hW ⟨Ac ⟨b,o+4,Ab⟩,L - 1,c - 1⟩ hdB.out);all_goals
   have bW:=B0.size;have hbW:b<W:=Bl;refine Go.wp_region_noPanic ?_;refine wp_region_held_drew (S:=(fun w'=>w'.cell? ⟨b,o,Ab⟩=Ac (J U e.prio)/\w'.cell? ⟨b,o+1,Ab⟩=Ac (J U e.seq)/\w'.cell? ⟨b,o+2,Ab⟩=Ac (J U e.run)/\w'.cell? ⟨b,o+3,Ab⟩=Ac (J U e.task))) Bm (HS.out _ B0.drew) (fun hHeld=>?_);replace R:=DBox.drew4 R;have B1:=B0.drew;generalize W.drew=w1 at *
   have hRl1:=R.lt;refine tY 0 ?_
   (try simp only [pS])
   refine tY 1 ?_
   (try simp only [pS])
   refine tV 2 ?_
   (try simp only [pS])
   refine tY 3 ?_
   (try simp only [pS])
   refine tY 4 ?_
   (try simp only [pS])
   refine rC 5 (fun K_ hK=>?_);go_simp;refine (HX.out w1 B1).mono ?_;rintro e2 w3 ⟨s3,F3,rfl,o3,n3,b3⟩;dsimp only [slV];have B3:=Bu B1 b3;replace R:=R.below b3;have hwl:=R.lt;have rF:=B1.size;refine hK.out _ _ (HS.out _ B3) (fun hHeld=>?_);clear hK K_
   (try simp only [pS])
   obtain ⟨r0,r1,r2,r3,-⟩:=R.g4;have rf:=R.free;refine rC 6 (fun K_ hK=>?_);go_simp;have R4:=DBox.row4 R rfl (J U e.prio) (J U e.seq) (J U e.run) (J U e.task);have B4:Below w w ((((w3.setCell ⟨w,0,Ab⟩ (J U e.prio)).setCell ⟨w,1,Ab⟩ (J U e.seq)).setCell ⟨w,2,Ab⟩ (J U e.run)).setCell ⟨w,3,Ab⟩ (J U e.task)):=by
    repeat (first | (with_reducible exact B3) | refine Ad ?_ Bo _)
   have cZ:w.heap.size∉F3:=fun hx=>by have:=n3 _ hx;omega
   have o4:OwL Bx ((((w3.setCell ⟨w,0,Ab⟩ (J U e.prio)).setCell ⟨w,1,Ab⟩ (J U e.seq)).setCell ⟨w,2,Ab⟩ (J U e.run)).setCell ⟨w,3,Ab⟩ (J U e.task)) F3 s3.v tl:=(((o3.set (a:=⟨_,_,Ab⟩) cZ _).set (a:=⟨_,_,Ab⟩) cZ _).set (a:=⟨_,_,Ab⟩) cZ _).set (a:=⟨_,_,Ab⟩) cZ _;generalize ((((w3.setCell ⟨w,0,Ab⟩ (J U e.prio)).setCell ⟨w,1,Ab⟩ (J U e.seq)).setCell ⟨w,2,Ab⟩ (J U e.run)).setCell ⟨w,3,Ab⟩ (J U e.task))=w4 at *
   clear r0 r1 r2 r3 rf R;refine hK.out _ _ (HS.out _ B4) (fun hHeld=>?_);clear hK K_
   (try simp only [pS])
   refine rC 7 (fun K_ hK=>?_);go_simp;refine hK.out _ _ hHeld (fun hHeld=>?_);clear hK K_
   (try simp only [pS])
   refine rC 8 (fun K_ hK=>?_);go_simp;refine hK.out _ _ hHeld (fun hHeld=>?_);clear hK K_
   (try simp only [pS])
   refine Al Bm ?_ _;refine NoPanic.normal ?_;clear hHeld;go_wp2;exact Aj (Xs R4) rfl ⟨s3,F3,rfl,o4,fun x hx=>by have:=n3 x hx;omega,B4⟩
theorem Y7 (l:List Entry) (s:Sl) (w:World) (hl:l.length<=2000000) (h:RdL Bx w w s.v l) :
  Calls Am 183 #[Aa s.a s.n s.c] w (Vf l w):=by
 obtain ⟨A,n,c⟩:=s;obtain rfl:n=l.length:=RdL.at1 (s:=⟨A,n,c⟩) h;have hd:=Abk l.length;rw [show (l.length+1) / 2=Dd l from rfl] at hd;have kU:=Aa9 l;have rF:U.wrap ((l.length:Int)+1)=(l.length:Int)+1:=Aq _ Bl;have hw2:U.wrap (Dd l:Int)=(Dd l:Int):=Aq _ Bl;have cI:l.length<=c:=(Jm h).cap;have nE:Dd l<=c:=Bl;have hkcI:(Dd l:Int)<=(c:Int):=Bl;have hklI:(Dd l:Int)<=(l.length:Int):=Bl;have hk0I:(0:Int)<=(Dd l:Int):=Bl;have HC:=Bq (fun W (hW:Below w w W) (k:List Entry) (hk:k.length<=2000000) (s':Sl) (hs':Rd Cy w w s'.v k)=>Lx k s' W hk ((Aec hs').below hW |>.more hW.size));have a0:=Bq ((Jm h).take kU c nE);have a1:=Bq ((Jm h).dropM (Dd l) kU);have a2:=Bq (show Dd l=c->Rd Cy w w (Aa A 0 0) (l.drop (Dd l)) from fun hh=>by
  rw [List.drop_eq_nil_of_le Bl];exact ⟨A,0,rfl,Ag _,fun h=>absurd h Bn⟩)
 go_enter func183,ntmps183;go_upto_region 2 with fail
 rcases Nat.lt_or_ge (Dd l) c with hk2 | hk2
 have qY:¬ c=Dd l:=Bl;have HX:=Bq (fun W hW=>HC.out W hW (l.drop (Dd l)) (by simp;omega) ⟨A.map fun x=>x.add (Dd l * 4),l.length - Dd l,c - Dd l⟩ a1.out);have HY:=Bq (fun W hW=>HC.out W hW (l.take (Dd l)) (by simp;omega) ⟨A,Dd l,c⟩ a0.out);rotate_left;have qY:c=Dd l:=Bl;have hcl:l.length=Dd l:=Bl;have HX:=Bq (fun W hW=>HC.out W hW (l.drop (Dd l)) (by simp;omega) ⟨A,0,0⟩ (a2.out Bl));have HY:=Bq (fun W hW=>HC.out W hW (l.take (Dd l)) (by simp;omega) ⟨A,Dd l,Dd l⟩ (by have:=a0.out;rw [qY] at this;exact this));all_goals
  refine Go.wp_region_noPanic ?_;refine wp_region_held_drew (S:=fun _=>True) Bm trivial (fun hHeld=>?_);have B1:Below w w w.drew:=(Br _ _).drew;generalize w.drew=w1 at *
  refine tY 0 ?_
  (try simp only [pS])
  refine tY 1 ?_
  (try simp only [pS])
  refine tY 2 ?_
  (try simp only [pS])
  refine tY 4 ?_
  (try simp only [pS])
  refine tY 5 ?_
  (try simp only [pS])
  refine tY 6 ?_
  (try simp only [pS])
  refine rC 3 (fun K_ hK=>?_);go_simp;refine (HY.out w1 B1).mono ?_;rintro e2 w3 ⟨v3,rfl,o3,b3⟩;have B3:=Bu B1 b3;refine hK.out _ _ trivial (fun hHeld=>?_);clear hK K_
  (try simp only [pS])
  refine rC 7 (fun K_ hK=>?_);go_simp;refine (HX.out w3 B3).mono ?_;rintro e4 w4 ⟨v4,rfl,o4,b4⟩;refine hK.out _ _ trivial (fun hHeld=>?_);clear hK K_
  (try simp only [pS])
  refine rC 8 (fun K_ hK=>?_);go_simp;refine hK.out _ _ hHeld (fun hHeld=>?_);clear hK K_
  (try simp only [pS])
  refine rC 9 (fun K_ hK=>?_);go_simp;refine hK.out _ _ hHeld (fun hHeld=>?_);clear hK K_
  (try simp only [pS])
  refine Al Bm ?_ _;refine NoPanic.normal ?_;clear hHeld;have aW:=B1.size;have ow3:=o3.within;obtain ⟨s5,F5,rfl,o5,n5,m5⟩:=Js (o3.below b4);obtain ⟨s6,F6,rfl,o6,n6,m6⟩:=Js o4;have HF:=Bq (show Vf l w (.returned (.tuple #[Aa s5.a s5.n s5.c,Aa s6.a s6.n s6.c])) w4 from ⟨s5,F5,s6,F6,rfl,o5,o6,fun x hx=>Ah aW (n5 x hx),fun x hx=>Ah B3.size (n6 x hx),fun x hx hx2=>by have h1:=(ow3 x (m5 x hx)).2;have h2:=n6 x hx2;omega,Bu B3 b4⟩);clear ow3 o5 o6 n5 n6 m5 m6 o3 o4;go_wp2;refine Aj ?_ rfl HF.out;simp [results,results183,go_sem]
def Vi (d:Deed) (s:Sl):Sl:=if d.kind=1 then s else ⟨Ab,0,0⟩
theorem Y8 (d:Deed) (s:Sl) (w:World) :
  Calls Am 109 #[De d s] w fun e w'=>e = .returned (De (Gr d) (Vi d s))/\Below w w w':=by
 by_cases k1:d.kind=1
 ·exact Afa d s w k1
 by_cases k2:d.kind=2
 ·exact Afb d s w k2
 by_cases k3:d.kind=3
 ·exact Afc d s w k3
 by_cases k4:d.kind=4
 ·exact Afd d s w k4
 by_cases k6:d.kind=6
 ·exact Afe d s w k6
 by_cases k7:d.kind=7
 ·exact Aff d s w k7
 exact Afg d s w (beq_eq_false_iff_ne.2 k1) (beq_eq_false_iff_ne.2 k2) (beq_eq_false_iff_ne.2 k3) (beq_eq_false_iff_ne.2 k4) (beq_eq_false_iff_ne.2 k6) (beq_eq_false_iff_ne.2 k7)
theorem Y9 (p:Plan):Fd p=decide (p=Kb):=by
 obtain ⟨a,b,c,d,l⟩:=p;rw [Bool.eq_iff_iff];simp [Fd,Kb,and_assoc]
theorem Za (l:List Edge):(Hs l).all Fc=l.all (fun e=>Fc e.fr && Fc e.to):=by
 induction l with
 | nil=>rfl
 | cons a l ih=>rw [show Hs (a :: l)=[a.fr,a.to] ++ Hs l from rfl,List.all_append,ih];simp [Bool.and_assoc]
theorem Ahb (d:Deed) (h0:inB d.kind 1 8=true) (hl:d.plan.edges.length<=31):Dl d=(decide (d=Gr d) && (Ey d).all Fc):=by
 obtain ⟨kd,rn,p,tk,ty,wk,dr⟩:=d;replace h0:inB kd 1 8=true:=h0;replace hl:p.edges.length<=31:=hl;have hn:Fc (p.edges.length:Int)=true:=by simp [Fc,inB];omega
 have:kd=1\/kd=2\/kd=3\/kd=4\/kd=5\/kd=6\/kd=7\/kd=8:=by
  simp [inB] at h0;omega
 rcases this with rfl | rfl | rfl | rfl | rfl | rfl | rfl | rfl<;>(rw [Bool.eq_iff_iff];simp [Dl,Gr,Ey,Y9,E6,Za,hn,hl,h0];try (constructor<;>intro h<;>simp_all))
theorem Ahc (d:Deed) (hl:¬ d.plan.edges.length<=31):Dl d=false:=by
 have h1:E6 d.plan=false:=by simp [E6,hl]
 have h2:Fd d.plan=false:=by
  have:(d.plan.edges.length == 0)=false:=beq_eq_false_iff_ne.2 Bl;simp [Fd,this]
 simp [Dl,h1,h2]
theorem Agu {d:Deed} {s:Sl} {w:World} {B:Nat} (h:Ec.rd w B d s):Ec.rd w B (Gr d) (Vi d s):=by
 have h0:Cd.rd w B d.plan s:=h;show Cd.rd w B (Gr d).plan (Vi d s);unfold Gr Vi;split
 ·exact h0
 ·have e:∀ q:Plan,q.edges=[]->Cd.rd w B q ⟨Ab,0,0⟩:=fun q hq=>by
   show RdL Eg w B (Aa Ab 0 0) q.edges;rw [hq];exact ⟨[],rfl,⟨Ab,0,rfl,Bs _,fun h=>absurd h Bn⟩,Bn⟩
  split
  ·exact e _ rfl
  split
  ·exact e _ rfl
  split<;>exact e _ rfl
theorem Td (d du:Deed) (A:Option Addr) (c:Nat) (su:Sl) (nd:List Int) (D:Bool) (w:World) (LN:nd.length<=6+2 * d.plan.edges.length)
  (CS:Hid (∀ W,Below w w W->Calls Am 108 #[De d ⟨A,d.plan.edges.length,c⟩,De du su] W fun e w'=>e = .returned (.bool (decide (d=du)))/\Below W W w'))
  (CU:Hid (∀ W,Calls Am 109 #[De d ⟨A,d.plan.edges.length,c⟩] W fun e w'=>e = .returned (De du su)/\Below W W w'))
  (CN:Hid (∀ W,d.plan.edges.length<=31->Below w w W->Calls Am 110 #[De d ⟨A,d.plan.edges.length,c⟩] W fun e w'=>∃ v,e = .returned v/\Ow Ip 3 w' W v nd/\Below W W w'))
  (L0:Hid (inB d.kind 1 8=false->D=false)) (L1:Hid (¬ d.plan.edges.length<=31->D=false)) (L2:Hid (inB d.kind 1 8=true->d.plan.edges.length<=31->D=(decide (d=du) && nd.all Fc))) :
  Calls Am 57 #[De d ⟨A,d.plan.edges.length,c⟩] w fun e w'=>e = .returned (.bool D)/\Below w w w':=by
 obtain ⟨W,aH,X,B0⟩:=bx1 w 38 [J U d.kind,J U d.run,J U d.plan.prio,J U d.plan.most,J U d.plan.wait,J U d.plan.tasks,Aa A d.plan.edges.length c,J U d.task,J U d.try_,J U d.worker,J U d.draw];go_enter func57,ntmps57;go_wp2;rw [<-aH.out];clear aH;have X_:=X.g11;have aQ:=Di W;cases a0:inB d.kind 1 8;case false =>
  have H:=Bq (L0.out a0);clear L0 L1 L2 CS CU CN;refine Bz Bm Bm ?_;repeat (go_big_quiet_step ((go_at_call 56;exact Ds (fun u=>Co _ _ _ u.1))))
  refine Ak ?_;rintro _ ⟨⟨w3,b3⟩,rfl⟩;clear aQ;go_wp2;go_ret;exact ⟨Bw H.out.symm,Bu B0 b3⟩
 by_cases hl:d.plan.edges.length<=31;case neg =>
  have H:=Bq (L1.out hl);have hlI:(31:Int)<(d.plan.edges.length:Int):=Bl;clear L0 L1 L2 CS CU CN hl;refine Bz Bm Bm ?_;repeat (go_big_quiet_step ((go_at_call 56;exact Ds (fun u=>Co _ _ _ u.1))))
  refine Ak ?_;rintro _ ⟨⟨w3,b3⟩,rfl⟩;clear aQ;go_wp2;go_ret;exact ⟨Bw H.out.symm,Bu B0 b3⟩
 have HD:=Bq (L2.out a0 hl);have LN:=Bq (show nd.length<=68 by omega);have CN:=Bq (fun W hW=>CN.out W hl hW);have hlI:¬ (31:Int)<(d.plan.edges.length:Int):=Bl;clear L0 L1 L2;cases a1:decide (d=du);case false =>
  have H:=Bq (show D=false by rw [HD.out,a1,Bool.false_and]);rw [a1] at CS;clear CN HD;refine Bz Bm Bm ?_;repeat (go_big_quiet_step ((first
   | (go_at_call 56;exact Ds (fun u=>Co _ _ _ u.1))
   | (go_at_call 109;rename_i x;have h1:=CU.out x.1;exact Fg h1)
   | (go_at_call 108;rename_i x;have h1:=CS.out x.1 (Bu B0 x.2);exact Fg h1))))
  refine Ak ?_;rintro _ ⟨⟨w3,b3⟩,rfl⟩;clear aQ;go_wp2;go_ret;exact ⟨Bw H.out.symm,Bu B0 b3⟩
 have HD:=Bq (show D=nd.all Fc by rw [HD.out,a1,Bool.true_and]);rw [a1] at CS;refine Bz Bm Bm ?_;repeat (go_big_quiet_step ((first
  | (go_at_call 56;exact Ds (fun u=>Co _ _ _ u.1))
  | (go_at_call 109;rename_i x;have h1:=CU.out x.1;exact Fg h1)
  | (go_at_call 108;rename_i x;have h1:=CS.out x.1 (Bu B0 x.2);exact Fg h1))))
 refine Ak ?_;rintro _ ⟨⟨w3,b3⟩,rfl⟩;clear aQ CS CU a0 a1 hlI hl;replace B0:=Bu B0 b3;replace X:=X.below b3;clear X_;have X_:=X.g11;clear b3;go_wp2_with (go_at_call 110;refine (CN.out _ B0).mono ?_;rintro e w4 ⟨v,rfl,o4,b4⟩;obtain ⟨A9,c9,rfl,-⟩:=id (Rd.of_own o4))
 clear X_;clear X CN;replace B0:=Bu B0 b4;have h5:=Bq (Rd.of_own o4);clear o4 b4;go_loopw [26] (fun i wr=>∃ k:Nat,k<=nd.length/\i = J U k/\Hid ((nd.take k).all Fc=true)/\Below w4 w4 wr) (fun i _=>nd.length - (intOf i).toNat);case atStart=>exact ⟨0,Ag _,rfl,rfl,Br _ _⟩
 case round =>
  obtain ⟨k,hk,rfl,hA,hb⟩:=hrel;have LN:=LN.out;by_cases aA:k<nd.length
  ·have aB:(k:Int)<(nd.length:Int):=Bl;obtain ⟨b,o,rfl,aK,d0⟩:=(h5.out.below hb).int aA;cases q0:inB nd[k] 0 1000000000
   ·have H:=Bq (show D=false by rw [HD.out];exact Af6 aA q0);go_wp2_with (go_at_call 56;refine (Co _ _ _ _).mono ?_;rintro e w5 ⟨rfl,rfl⟩)
    go_ret;exact ⟨Bw H.out.symm,Bu B0 hb⟩
   ·have S:=Bq (show (nd.take (k+1)).all Fc=true by rw [List.take_succ_eq_append_getElem aA,List.all_append,hA.out];simp [Fc,q0]);go_wp2_with (go_at_call 56;refine (Co _ _ _ _).mono ?_;rintro e w5 ⟨rfl,rfl⟩)
    exact ⟨⟨k+1,Bl,by go_num,S,hb⟩,by simp [intOf];omega⟩
  ·have aB:¬ (k:Int)<(nd.length:Int):=Bl;have H:=Bq (show D=true by rw [HD.out,<-hA.out,Bg Bl]);go_wp2;go_ret;exact ⟨Bw H.out.symm,Bu B0 hb⟩
theorem Vj (d:Deed) (s:Sl) (w:World) (hc:Fu d<=2000000) (h:Ec.rd w w d s) :
  Calls Am 57 #[De d s] w fun e w'=>e = .returned (.bool (Dl d))/\Below w w w':=by
 have hcu:Fu (Gr d)<=2000000:=by
  have:Fu (Gr d)<=Fu d:=by
   unfold Fu Ed Gr;split
   ·exact Bs _
   split
   ·exact Ag _
   split
   ·exact Ag _
   split<;>exact Ag _
  omega
 have HR:Hid (∀ W,Below w w W->Ec.rd W W d s):=fun W hW=>Ec.rd_more (Ec.rd_below h hW) hW.size;have HU:Hid (∀ W,Below w w W->Ec.rd W W (Gr d) (Vi d s)):=fun W hW=>Agu (HR.out W hW);have CS:=Bq (fun W hW=>Yt d (Gr d) s (Vi d s) W hc hcu (HR.out W hW) (HU.out W hW));have CU:=Bq (Y8 d s);have CN:=Bq (fun W (hl:d.plan.edges.length<=31) hW=>Tb d s W Bl (HR.out W hW));have L1:=Bq (Ahc d);have L2:=Bq (Ahb d);have L0:Hid (inB d.kind 1 8=false->Dl d=false):=fun a0=>by simp [Dl,a0]
 have h1:s.n=d.plan.edges.length:=by
  have h0:Cd.rd w w d.plan s:=h;exact RdL.at1 h0
 obtain ⟨A,n,c⟩:=s;replace h1:n=d.plan.edges.length:=h1;subst h1;exact Td d (Gr d) A c (Vi d ⟨A,d.plan.edges.length,c⟩) (Ey d) (Dl d) w (Wy d) CS CU CN L0 L1 L2
end Go.Proofs.YtonlnjdempbfoabGreat
