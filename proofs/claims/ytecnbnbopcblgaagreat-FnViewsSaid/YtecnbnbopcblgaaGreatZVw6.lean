/-
  Yards that are right: the program's walk.  Deeds at a yard: the plain words. slices.IndexFunc and slices.DeleteFunc at entries, with any closure over one variab
-/
import Derived.Test.YtecnbnbopcblgaaGreatZVw0
import Derived.Test.YtecnbnbopcblgaaGreatZVw2
import Derived.Test.YtecnbnbopcblgaaGreatZVw3
import Derived.Test.YtecnbnbopcblgaaGreatZVw4
import Derived.Test.YtecnbnbopcblgaaGreatZVw5
namespace Go.Proofs.YtecnbnbopcblgaaGreat
open Go.RowKit
set_option maxRecDepth 100000
set_option maxHeartbeats 4000000
set_option linter.unusedVariables false
set_option linter.unusedSimpArgs false
open Value renaming int->J,slice->Aa
open IntKind renaming i64->Ab
open Option renaming none->Ac,some->Ad
open Below renaming alloc->Af
open Nat renaming zero_le->Ah,le_trans->Ai,lt_of_lt_of_le->Aj
open Go renaming bodyPost_ret->Ak
open Go.Proofs.Tryz renaming prog->An
open IntWalk renaming i64_in->Ar
open List renaming length_map->Au,mem_singleton->Aw,getElem_mem->Ax,length_take->A0,length_append->Bd,take_of_length_le->Bg
open Go.Proofs.Tryz
def Jj (l:List Entry) (k:Nat):List Nat:=(l.take k).map fun e=>e.seq.toNat
theorem Wn (l:List Entry) (k:Nat) (hk:k<l.length):Jj l (k+1)=Jj l k ++ [l[k].seq.toNat]:=by
 unfold Jj;rw [Cy l k hk,List.map_append];rfl
theorem Af8 (l:List Entry) (k:Nat):(Jj l k).length<=k:=by
 unfold Jj;rw [Au,A0];omega
theorem T8 {l:List Entry} (h:∀ j (hj:j<l.length),l[j].seq.toNat∉Jj l j):(l.map (·.seq)).Nodup:=by
 have:∀ k,k<=l.length->(Jj l k).Nodup:=by
  intro k;induction k with
  | zero=>intro _;simp [Jj]
  | succ k ih =>
   intro hk;rw [Wn l k Bl,List.nodup_append];refine ⟨ih Bl,Bn,fun a ha b hb e=>?_⟩;have bH:b=l[k].seq.toNat:=by simpa using hb
   subst bH;subst e;exact h k Bl ha
 have h2:=this l.length (Bs _);unfold Jj at h2;rw [List.take_length] at h2;have e:(l.map fun e=>e.seq.toNat)=(l.map (·.seq)).map Int.toNat:=by rw [List.map_map];rfl
 rw [e] at h2;exact List.Pairwise.of_map _ (fun a b aE e=>aE (by rw [e])) h2
theorem T9 {l:List Entry} (h:(l.map (·.seq)).Nodup) (hp:∀ e∈l,1<=e.seq) {k:Nat} (hk:k<l.length):l[k].seq.toNat∉Jj l k:=by
 intro hm;unfold Jj at hm;obtain ⟨x,hx,he⟩:=List.mem_map.1 hm;obtain ⟨j,hj,rfl⟩:=List.getElem_of_mem hx;rw [A0] at hj;rw [List.getElem_take] at he;have h1:=hp _ (Ax (show j<l.length by omega));have h2:=hp _ (Ax hk);have e:l[j].seq=l[k].seq:=Bl;have h3:=List.pairwise_iff_getElem.1 h j k (by rw [Au];omega) (by rw [Au];omega) Bl;rw [List.getElem_map,List.getElem_map] at h3;exact h3 e
theorem Afi {p:Plan} (h:Cr p=0):1<=p.wait/\p.wait<=20:=by
 have:=(Cs.1 h).1
 simp only [Eg,Bool.and_eq_true] at this;exact Ct.1 this.2
def Nz (q:Int) (l:List Entry) (k:Nat):Prop:=∀ j (hj:j<l.length),j<k->(1<=l[j].seq/\l[j].seq<=q - 1)/\l[j].seq.toNat∉Jj l j
theorem Zr {q:Int} {l:List Entry} {k:Nat} (h:Nz q l k) (hk:k<l.length) (h1:inB l[k].seq 1 (q - 1)=true) (h2:l[k].seq.toNat∉Jj l k):Nz q l (k+1):=by
 intro j hj fM;by_cases e:j=k
 ·subst e;exact ⟨Ct.1 h1,h2⟩
 ·exact h j hj Bl
theorem Af9 {y:Yard} {k:Nat} (hk:k<(Ci y).length) (h1:inB (Ci y)[k].seq 1 (y.seq - 1)=false):¬ Dn y:=by
 intro h
 have:=Ct.2 (h.2.2.2.2.1 _ (Ax hk))
 rw [h1] at this;cases this
theorem Aga {y:Yard} {k:Nat} (hk:k<(Ci y).length) (h1:(Ci y)[k].seq.toNat∈Jj (Ci y) k):¬ Dn y:=fun h =>
 T9 h.2.2.2.2.2.1 (fun e he=>(h.2.2.2.2.1 e he).1) hk h1
def K3 (y:Yard) (k:Nat):Prop:=∀ j (hj:j<y.runs.length),j<k->Gr y.runs[j]/\Db y y.runs[j].id=j/\K0 y.now y.runs[j] (Ci y)
theorem Agb {y:Yard} {k:Nat} (h:K3 y k) (hk:k<y.runs.length) (h1:Gr y.runs[k]) (h2:Db y y.runs[k].id=k) (h3:K0 y.now y.runs[k] (Ci y)):K3 y (k+1):=by
 intro j hj fM;by_cases e:j=k
 ·subst e;exact ⟨h1,h2,h3⟩
 ·exact h j hj Bl
theorem Afj {y:Yard} (h1:inB y.now 0 999999980=true) (h2:inB y.seq 1 1000000000=true) (h3:y.shelf.length=4) (h4:∀ k (hk:k<y.shelf.length),Iz y.shelf[k]) (h5:Nz y.seq (Ci y) (Ci y).length) (h6:y.runs.length<=8) (h7:K3 y y.runs.length) :
  Dn y ↔ Gv y<=40:=by
 constructor
 ·intro h;exact h.2.2.2.2.2.2.2.2.2
 ·intro h;refine ⟨Ct.1 h1,Ct.1 h2,h3,fun l hl=>?_,fun e he=>?_,T8 (fun j hj=>(h5 j hj hj).2),h6,fun k hk=>⟨(h7 k hk hk).1,(h7 k hk hk).2.1⟩,fun r hr=>?_,h⟩
  ·obtain ⟨k,hk,rfl⟩:=List.getElem_of_mem hl;exact h4 k hk
  ·obtain ⟨k,hk,rfl⟩:=List.getElem_of_mem he;exact (h5 k hk hk).1
  ·obtain ⟨k,hk,rfl⟩:=List.getElem_of_mem hr;exact (h7 k hk hk).2.2
theorem G8 (y:Yard) (s:Sl×Sl) (w:World) (hl:Cf y<=2000000) (h:Bu.rd w w y s) :
  Calls An 71 #[Dh y s] w fun e w'=>e = .returned (.bool (tf (Dn y)))/\Below w w w':=by
 have HR:=Bq (show ∀ W,Below w w W->Bu.rd W W y s from fun W hW=>Bu.rd_more (Bu.rd_below h hW) hW.size);obtain ⟨⟨A1,n1,c1⟩,⟨A2,n2,c2⟩⟩:=s;obtain rfl:n1=y.shelf.length:=RdL.at1 (s:=⟨A1,n1,c1⟩) h.1;obtain rfl:n2=y.runs.length:=RdL.at1 (s:=⟨A2,n2,c2⟩) h.2;have h1:RdL (Dt.list Ch) w w (Aa A1 y.shelf.length c1) y.shelf:=h.1;have h2:RdL Cn w w (Aa A2 y.runs.length c2) y.runs:=h.2;have eJ:y.runs.length<=2000000:=Ai (Cv Dc _) (by unfold Cf at hl;omega);have hls:y.shelf.length<=2000000:=Ai (Cv Dp _) (by unfold Cf at hl;omega);have HE:=Bq (show ∀ k (hk:k<y.shelf.length),y.shelf[k].length<=2000000 from fun k hk=>by
  have:=Gw (cnt:=Dp) (Ax hk)
  have h2:y.shelf[k].length<=Dp y.shelf[k]:=Cv Kk _;unfold Cf at hl;omega)
 have HC:=Bq (show ∀ k (hk:k<y.runs.length),Dc y.runs[k]<=2000000 from fun k hk=>by
  have:=Gw (cnt:=Dc) (Ax hk)
  unfold Cf at hl;omega)
 have HEn:=Bq (show (Ci y).length<=2000000 by
  have:=I0 y.shelf y.shelf.length
  rw [List.take_length] at this;unfold Cf at hl;unfold Ci;omega)
 have nR:=Acg hl;clear h;have X:=DBox.new 31 [J Ab y.now,J Ab y.seq,Aa A1 y.shelf.length c1,Aa A2 y.runs.length c2] w (b:=w) rfl;have B0:Below w w (w.alloc (.cells #[J Ab y.now,J Ab y.seq,Aa A1 y.shelf.length c1,Aa A2 y.runs.length c2] 31)):=by repeat (first | exact Br _ _ | refine Af ?_ Bo _)
 cases a1:inB y.now 0 999999980;case false =>
  have H:=Bq (Cm (show ¬ Dn y from fun h=>by have:=Ct.2 h.1;rw [a1] at this;cases this));go_enter func71,ntmps71;go_wp2_with (go_at_call 72;refine (Cq _ _ _ _).mono ?_;rintro e w' ⟨rfl,rfl⟩)
  go_ret;exact ⟨Bx H.out.symm,B0⟩
 cases a2:inB y.seq 1 1000000000;case false =>
  have H:=Bq (Cm (show ¬ Dn y from fun h=>by have:=Ct.2 h.2.1;rw [a2] at this;cases this));go_enter func71,ntmps71;go_wp2_with (go_at_call 72;refine (Cq _ _ _ _).mono ?_;rintro e w' ⟨rfl,rfl⟩)
  go_ret;exact ⟨Bx H.out.symm,B0⟩
 by_cases a3:y.shelf.length=4;case neg =>
  have a3':((y.shelf.length:Int) != 4)=true:=by simp;omega
  have H:=Bq (Cm (show ¬ Dn y from fun h=>a3 h.2.2.1));clear a3;go_enter func71,ntmps71;go_wp2_with (go_at_call 72;refine (Cq _ _ _ _).mono ?_;rintro e w' ⟨rfl,rfl⟩)
  go_ret;exact ⟨Bx H.out.symm,B0⟩
 have a3':((y.shelf.length:Int) != 4)=false:=by simp [a3]
 have A3_:=Bq a3;clear a3;by_cases a4:y.runs.length<=8;case neg =>
  have a4':(8:Int)<(y.runs.length:Int):=Bl;have H:=Bq (Cm (show ¬ Dn y from fun h=>a4 h.2.2.2.2.2.2.1));clear a4;go_enter func71,ntmps71;go_wp2_with (go_at_call 72;refine (Cq _ _ _ _).mono ?_;rintro e w' ⟨rfl,rfl⟩)
  go_ret;exact ⟨Bx H.out.symm,B0⟩
 have a4':¬ (8:Int)<(y.runs.length:Int):=Bl;have hqb:=Ct.1 a2;have vA:=Ct.1 a1;go_enter func71,ntmps71;go_wp2_with (go_at_call 72;refine (Cq _ _ _ _).mono ?_;rintro e w' ⟨rfl,rfl⟩)
 generalize (w.alloc (.cells #[J Ab y.now,J Ab y.seq,Aa A1 y.shelf.length c1,Aa A2 y.runs.length c2] 31))=W at *
 have A1_:=Bq a1;have A2_:=Bq a2;clear a1 a2 a3' a4';go_loopw [36] (fun i wr=>∃ k:Nat,k<=y.shelf.length/\i = J Ab k/\Hid (∀ j (hj:j<y.shelf.length),j<k->Iz y.shelf[j])/\Below W W wr) (fun i _=>y.shelf.length - (intOf i).toNat);case atStart=>exact ⟨0,Ah _,rfl,fun j _ h0=>absurd h0 Bl,Br _ _⟩
 case round =>
  obtain ⟨k,hk,rfl,aY,hb⟩:=hrel;replace X:=X.below hb;replace B0:=Bv B0 hb;by_cases aB:k<y.shelf.length
  ·have aC:(k:Int)<(y.shelf.length:Int):=Bl;obtain ⟨b,o,⟨As,ns,cs⟩,mF,aH,hr,d0⟩:=(h1.below B0).entryS aB;obtain rfl:ns=y.shelf[k].length:=RdL.at1 (s:=⟨As,ns,cs⟩) hr;subst mF;have C:=U2 y.shelf[k] ⟨As,y.shelf[k].length,cs⟩ wr (HE.out k aB) (hr.more B0.size);by_cases q:Iz y.shelf[k]
   ·have S:Hid (∀ j (hj:j<y.shelf.length),j<k+1->Iz y.shelf[j]):=fun j hj fM=>by
     by_cases e:j=k
     ·subst e;exact q
     ·exact aY.out j hj Bl
    rw [Ds q] at C;clear q;go_wp2_with fail
    refine C.mono ?_;rintro e w2 ⟨rfl,b2⟩;go_wp2;first
     | exact ⟨⟨k+1,Bl,by go_num,S,Bv hb b2⟩,clM⟩
     | (refine ⟨?_,clM⟩;(repeat apply Exists.intro);refine ⟨?_,clR⟩;exact ⟨k+1,Bl,by go_num,S,Bv hb b2⟩)
   ·have H:=Bq (Cm (show ¬ Dn y from fun h=>q (h.2.2.2.1 _ (Ax aB))));rw [Cm q] at C;clear q;go_wp2_with fail
    refine C.mono ?_;rintro e w2 ⟨rfl,b2⟩;go_wp2;go_ret;exact ⟨Bx H.out.symm,Bv B0 b2⟩
  ·have aC:¬ (k:Int)<(y.shelf.length:Int):=Bl;have HS:Hid (∀ k (hk:k<y.shelf.length),Iz y.shelf[k]):=fun j hj=>aY.out j hj Bl;have C:=Lm y (⟨A1,y.shelf.length,c1⟩,⟨A2,y.runs.length,c2⟩) wr hl (HR.out _ B0);obtain ⟨X_0,X_1,X_2,X_3,X_l⟩:=X.g4;go_wp2_with fail
   refine C.mono ?_;rintro e w2 ⟨v,rfl,o2,b2⟩;replace X:=X.below b2;replace B0:=Bv B0 b2;clear X_0 X_1 X_2 X_3 X_l aY aB aC hb;have O2:=Rd.of_own o2;clear o2;obtain ⟨A3,c3,rfl,-⟩:=id O2;have qK:=HEn.out;obtain ⟨j0,bZ,jz0,jz1,jz2⟩:=info_parts Kg;go_wp2;go_loopw [6,48] (fun vl i wr=>∃ k:Nat,k<=(Ci y).length/\i = J Ab k/\Ow En 3 wr w2 vl (Jj (Ci y) k)/\Hid (Nz y.seq (Ci y) k)/\Below w2 w2 wr) (fun _ i _=>(Ci y).length - (intOf i).toNat);case atStart=>exact ⟨0,Ah _,rfl,by simpa [Jj] using Ow.nil En 3 w2 w2.heap.size,fun j _ h0=>absurd h0 Bl,Br _ _⟩
   case round =>
    obtain ⟨k,hk,rfl,om,aY,hb⟩:=hrel;replace X:=X.below hb;replace B0:=Bv B0 hb;obtain ⟨X_0,X_1,X_2,X_3,X_l⟩:=X.g4;have hsn:=Af8 (Ci y) k;by_cases aB:k<(Ci y).length
    ·have aC:(k:Int)<((Ci y).length:Int):=Bl;obtain ⟨b,o,_,fC,aH,_,d0,d1,d2,d3⟩:=RdL.entry (Js (O2.below hb)) aB;subst fC;have bG:b<wr:=Aj aH hb.size;have hE:Hid (∀ wr:World,Below wr wr (wr.alloc (.cells #[J Ab (Ci y)[k].prio,J Ab (Ci y)[k].seq,J Ab (Ci y)[k].run,J Ab (Ci y)[k].task] 71))):=fun wr=>Bt;obtain ⟨A7,c7,rfl,-⟩:=id (Rd.of_own om);have w1':Ab.wrap (y.seq - 1)=y.seq - 1:=Ar _ Bl;have HB1:=Bq (Af9 (y:=y) aB);have HB2:=Bq (Aga (y:=y) aB);have HSt:=Bq (Zr (q:=y.seq) aY.out aB);have HSq:=Bq (Wn (Ci y) k aB);cases q1:inB (Ci y)[k].seq 1 (y.seq - 1)
     ·have H:=Bq (Cm (HB1.out q1));go_wp2_with (go_at_call 72;refine (Cq _ _ _ _).mono ?_;rintro e w' ⟨rfl,rfl⟩)
      go_ret;exact ⟨Bx H.out.symm,Bv B0 (hE.out _)⟩
     have q1b:=Ct.1 q1;generalize hx:(Ci y)[k].seq=x at *
     obtain ⟨n,rfl⟩:=Int.eq_ofNat_of_zero_le (show 0<=x by omega);have hn:Hid ((n:Int).toNat=n):=Int.toNat_natCast n;have HX:=Bq hx;clear hx;by_cases q2:n∈Jj (Ci y) k
     ·have H:=Bq (Cm (HB2.out (by rw [hn.out];exact q2)));have C:=Lj _ (Jj (Ci y) k) n _ _ Bl (Rd.of_own (om.below (hE.out wr)));rw [decide_eq_true q2] at C;clear q2;go_wp2_with (first | (go_at_call 72;refine (Cq _ _ _ _).mono ?_;rintro e w' ⟨rfl,rfl⟩) | (go_at_call 141;refine C.mono ?_;rintro e w' ⟨rfl,rfl⟩))
      go_ret;exact ⟨Bx H.out.symm,Bv B0 (hE.out _)⟩
     ·have S:=Bq (HSt.out q1 (by rw [hn.out];exact q2));have C:=Lj _ (Jj (Ci y) k) n _ _ Bl (Rd.of_own (om.below (hE.out wr)));rw [decide_eq_false q2] at C;clear q2;have ha:Hid (∀ w:World,Below w w ((w.alloc (.cells #[J Ab (Ci y)[k].prio,J Ab (n:Int),J Ab (Ci y)[k].run,J Ab (Ci y)[k].task] 71)).alloc (.cells #[J Ab (n:Int)] 3))):=fun w=>(Bt).alloc Bn _;go_wp2_with (first | (go_at_call 72;refine (Cq _ _ _ _).mono ?_;rintro e w' ⟨rfl,rfl⟩) | (go_at_call 141;refine C.mono ?_;rintro e w' ⟨rfl,rfl⟩) | (at_builtin;refine Cj _ En Bp rfl (.tmp 65) (.tmp 68) rfl underlying26 bZ jz0 jz1 jz2 rfl (l:=Jj (Ci y) k) rfl (om.below (ha.out wr)) rfl (Rd.one En _ _ n Bn rfl 1 (Bs _) (Nat.lt_succ_self _)) Bl Bn Bp (by have:=hb.size;simp;omega) ?_;intro v5 w5 o5 g5 _))
      have bH:=Bv hb (ha.out wr);have W5:=bH.grown g5 bH.size (fun g hg=>by have:=om.within _ hg;omega);have o6:Ow En 3 w5 w2 v5 (Jj (Ci y) (k+1)):=by rw [HSq.out,hn.out];exact o5
      first
       | exact ⟨⟨k+1,Bl,by go_num,o6,S,W5⟩,clM⟩
       | (refine ⟨?_,clM⟩;(repeat apply Exists.intro);refine ⟨?_,clR⟩;exact ⟨k+1,Bl,by go_num,o6,S,W5⟩)
    ·have aC:¬ (k:Int)<((Ci y).length:Int):=Bl;have HO:Hid (Nz y.seq (Ci y) (Ci y).length):=fun j hj hj2=>aY.out j hj Bl;go_wp2;replace O2:=O2.below hb;clear X_0 X_1 X_2 X_3 X_l aY aB aC om hsn;have hsb:=hb.size;clear hb;obtain ⟨w6,hw6⟩:∃ w6,w6=wr:=⟨_,rfl⟩
     rw [<-hw6] at X B0 O2 hsb ⊢;clear hw6;go_loopw [74] (fun i wr=>∃ k:Nat,k<=y.runs.length/\i = J Ab k/\Hid (K3 y k)/\Below w6 w6 wr) (fun i _=>y.runs.length - (intOf i).toNat);case atStart=>exact ⟨0,Ah _,rfl,fun j _ h0=>absurd h0 Bl,Br _ _⟩
     case round =>
      obtain ⟨k,hk,rfl,aY,hb⟩:=hrel;replace X:=X.below hb;replace B0:=Bv B0 hb;by_cases aB:k<y.runs.length
      ·have aC:(k:Int)<(y.runs.length:Int):=Bl;obtain ⟨b,o,⟨⟨A8,n8,c8⟩,⟨At,nt,ct⟩⟩,eG,aH,bP,e0,e1,e2,e3,e4,e5,e6,e7⟩:=(h2.below B0).run aB;subst eG;have bG:b<wr:=Aj aH B0.size;have HRr:=Bq (show ∀ W,Below wr wr W->Cn.rd W W y.runs[k] (⟨A8,n8,c8⟩,⟨At,nt,ct⟩) from fun W hW=>Cn.rd_more (Cn.rd_below (Cn.rd_more bP B0.size) hW) hW.size);have kQ:=HC.out k aB;have ha:Below wr wr (wr.alloc (.cells #[J Ab y.runs[k].id,J Ab y.runs[k].plan.prio,J Ab y.runs[k].plan.most,J Ab y.runs[k].plan.wait,J Ab y.runs[k].plan.tasks,Aa A8 n8 c8,J Ab y.runs[k].state,Aa At nt ct] 67)):=Bt;have R:=DBox.new 67 [J Ab y.runs[k].id,J Ab y.runs[k].plan.prio,J Ab y.runs[k].plan.most,J Ab y.runs[k].plan.wait,J Ab y.runs[k].plan.tasks,Aa A8 n8 c8,J Ab y.runs[k].state,Aa At nt ct] wr rfl;have C1:=Qo y.runs[k] (⟨A8,n8,c8⟩,⟨At,nt,ct⟩) _ kQ (HRr.out _ ha);have HSt:=Bq (Agb aY.out aB);by_cases q1:Gr y.runs[k];case neg =>
        have H:=Bq (Cm (show ¬ Dn y from fun h=>q1 (h.2.2.2.2.2.2.2.1 k aB).1));rw [Cm q1] at C1;clear q1;go_wp2_with fail
        refine C1.mono ?_;rintro e w7 ⟨rfl,b7⟩;go_wp2;go_ret;exact ⟨Bx H.out.symm,Bv B0 (Bv ha b7)⟩
       rw [Ds q1] at C1;have HQ1:=Bq q1;have qL:=Afi q1.2.1;have dN:y.runs[k].tasks.length<=2000000:=Ai (Cv Ix _) (by unfold Dc at kQ;omega);clear q1;go_wp2_with fail
       refine C1.mono ?_;rintro e w7 ⟨rfl,b7⟩;replace R:=R.below b7;have ha7:=Bv ha b7;replace X:=X.below ha7;obtain ⟨X_0,X_1,X_2,X_3,X_l⟩:=X.g4;obtain ⟨R_0,R_1,R_2,R_3,R_4,R_5,R_6,R_7,R_l⟩:=R.g8;have C2:=Ep y (⟨A1,y.shelf.length,c1⟩,⟨Ad ⟨b,o,Ac⟩,y.runs.length,c2⟩) y.runs[k].id w7 hl (HR.out _ (Bv B0 ha7));by_cases q2:Db y y.runs[k].id=k;case neg =>
        have H:=Bq (Cm (show ¬ Dn y from fun h=>q2 (h.2.2.2.2.2.2.2.1 k aB).2));have q2':(Db y y.runs[k].id != (k:Int))=true:=by simp [q2]
        clear q2;go_wp2_with fail
        refine C2.mono ?_;rintro e w8 ⟨rfl,b8⟩;go_wp2;go_ret;exact ⟨Bx H.out.symm,Bv B0 (Bv ha7 b8)⟩
       rw [q2] at C2;have HQ2:=Bq q2;clear q2;have q2':((k:Int) != (k:Int))=false:=Bn;go_wp2_with fail
       refine C2.mono ?_;rintro e w8 ⟨rfl,b8⟩;have sW:=Bv ha7 b8;replace X:=X.below b8;clear X_0 X_1 X_2 X_3 X_l;obtain ⟨X_0,X_1,X_2,X_3,X_l⟩:=X.g4;replace R:=R.below b8;clear R_0 R_1 R_2 R_3 R_4 R_5 R_6 R_7 R_l;obtain ⟨R_0,R_1,R_2,R_3,R_4,R_5,R_6,R_7,R_l⟩:=R.g8;have C3:=Yu y (⟨A1,y.shelf.length,c1⟩,⟨Ad ⟨b,o,Ac⟩,y.runs.length,c2⟩) y.runs[k] (⟨A8,n8,c8⟩,⟨At,nt,ct⟩) (Ci y) ⟨A3,(Ci y).length,c3⟩ w8 dN qK vA qL (HRr.out _ sW) ((O2.below ((Bv hb sW).mono hsb)).more (Ai hsb (Bv hb sW).size));by_cases q3:K0 y.now y.runs[k] (Ci y);case neg =>
        have H:=Bq (Cm (show ¬ Dn y from fun h=>q3 (h.2.2.2.2.2.2.2.2.1 _ (Ax aB))));rw [Cm q3] at C3;clear q3;go_wp2_with fail
        refine C3.mono ?_;rintro e w9 ⟨rfl,b9⟩;go_wp2;go_ret;exact ⟨Bx H.out.symm,Bv B0 (Bv sW b9)⟩
       have S:=Bq (HSt.out HQ1.out HQ2.out q3);rw [Ds q3] at C3;clear q3;go_wp2_with fail
       refine C3.mono ?_;rintro e w9 ⟨rfl,b9⟩;go_wp2;first
        | exact ⟨⟨k+1,Bl,by go_num,S,Bv hb (Bv sW b9)⟩,clM⟩
        | (refine ⟨?_,clM⟩;(repeat apply Exists.intro);refine ⟨?_,clR⟩;exact ⟨k+1,Bl,by go_num,S,Bv hb (Bv sW b9)⟩)
      ·have aC:¬ (k:Int)<(y.runs.length:Int):=Bl;have HRt:Hid (K3 y y.runs.length):=fun j hj _=>aY.out j hj Bl;have HF:=Bq (Afj A1_.out A2_.out A3_.out HS.out HO.out a4 HRt.out);have C:=Qp y (⟨A1,y.shelf.length,c1⟩,⟨A2,y.runs.length,c2⟩) wr hl (HR.out _ B0);obtain ⟨X_0,X_1,X_2,X_3,X_l⟩:=X.g4;go_wp2_with fail
       refine C.mono ?_;rintro e w7 ⟨rfl,b7⟩;have HT:=Bq (show tf (Dn y)=decide ((Gv y:Int)<=40) by
        rw [Bool.eq_iff_iff,Ll,HF.out,decide_eq_true_eq];omega)
       generalize Gv y=N at *
       by_cases q:N<=40
       ·have H:=Bq (show tf (Dn y)=true by rw [HT.out];exact decide_eq_true Bl);go_wp2;go_ret;exact ⟨Bx (by rw [H.out];exact decide_eq_true Bl),Bv B0 b7⟩
       ·have H:=Bq (show tf (Dn y)=false by rw [HT.out];exact decide_eq_false Bl);go_wp2;go_ret;exact ⟨Bx (by rw [H.out];exact decide_eq_false Bl),Bv B0 b7⟩
def Hc (l:List Task) (t:Nat) (f:Task->Task):List Task:=l.set t (f (l.getD t ⟨0,0,0,0⟩))
theorem Ic (l:List Task) (t:Nat) (f:Task->Task):(Hc l t f).length=l.length:=by unfold Hc;rw [List.length_set]
def D8 (p:Plan) (t:Nat):Task :=
 let n:=(Dv (Dr p) p.tasks.toNat t).length
 ⟨if n=0 then 2 else 1,n,0,0⟩
def Ce (id:Int) (p:Plan):Run:=⟨id,p,1,(List.range p.tasks.toNat).map (D8 p)⟩
theorem Hs (id:Int) (p:Plan):(Ce id p).tasks.length=p.tasks.toNat:=by unfold Ce;simp
def Da (x:Task):Task:=⟨if x.need - 1=0 then 2 else x.state,x.need - 1,x.try_,x.until_⟩
def I5 (r:Run) (t:Nat):List Task:=(D9 (Dr r.plan) r.plan.tasks.toNat t).foldl (fun l b=>Hc l b Da) (Hc r.tasks t fun x=>⟨4,x.need,x.try_,0⟩)
def Gs (r:Run) (t:Nat):Run:=⟨r.id,r.plan,stL (I5 r t),I5 r t⟩
def Dj (x:Task):Task:=if x.state≠4/\x.state≠5 then ⟨6,x.need,x.try_,0⟩ else x
def C8 (r:Run) (st:Int):Run:=⟨r.id,r.plan,st,r.tasks.map Dj⟩
def Dm (r:Run) (t:Nat):Run :=
 if (By r t).try_<r.plan.most then ⟨r.id,r.plan,r.state,Hc r.tasks t fun x=>⟨2,x.need,x.try_,0⟩⟩
 else C8 ⟨r.id,r.plan,r.state,Hc r.tasks t fun x=>⟨5,x.need,x.try_,0⟩⟩ 3
def De (r:Run) (t:Nat) (now:Int):Run:=⟨r.id,r.plan,r.state,Hc r.tasks t fun x=>⟨3,x.need,x.try_+1,now+r.plan.wait⟩⟩
def J4 (y:Yard) (r:Run) (t:Nat):Yard:=⟨y.now,y.seq+1,y.shelf.set (Cz r.id) (Ip (y.shelf.getD (Cz r.id) []) ⟨r.plan.prio,y.seq,r.id,t⟩),y.runs⟩
def Gt (was r:Run) (n:Nat):List Nat:=(List.range n).filter fun t=>(By r t).state == 2 && !((By was t).state == 2)
def Ly (y:Yard) (was r:Run):Yard:=(Gt was r r.tasks.length).foldl (fun y t=>J4 y r t) y
def Eh:Run:=⟨0,⟨0,0,0,0,[]⟩,0,[]⟩
def E0 (y:Yard) (k:Nat) (r:Run):Yard:=Ly ⟨y.now,y.seq,y.shelf,y.runs.set k r⟩ (y.runs.getD k Eh) r
theorem Wo (was r:Run) (n:Nat):Gt was r (n+1)=Gt was r n ++ (if (By r n).state=2 /\ ¬ (By was n).state=2 then [n] else []):=by
 unfold Gt;rw [List.range_succ,List.filter_append];congr 1;by_cases h1:(By r n).state=2<;>by_cases h2:(By was n).state=2<;>simp [h1,h2]
theorem Ael (y:Yard) (r:Run) (t:Nat):(J4 y r t).shelf.length=y.shelf.length:=by unfold J4;simp
theorem Ko (r:Run):∀ (l:List Nat) (y:Yard),(l.foldl (fun y t=>J4 y r t) y).now=y.now/\(l.foldl (fun y t=>J4 y r t) y).runs=y.runs/\(l.foldl (fun y t=>J4 y r t) y).shelf.length=y.shelf.length/\(l.foldl (fun y t=>J4 y r t) y).seq=y.seq+l.length
 | [],y=>⟨rfl,rfl,rfl,Bn⟩
 | t :: l,y=>by
  obtain ⟨h1,h2,h3,h4⟩:=Ko r l (J4 y r t);refine ⟨by rw [List.foldl_cons,h1];rfl,by rw [List.foldl_cons,h2];rfl,by rw [List.foldl_cons,h3,Ael],?_⟩;rw [List.foldl_cons,h4,List.length_cons,show (J4 y r t).seq=y.seq+1 from rfl];push_cast;omega
noncomputable def Cg (y:Yard) (i:Nat):Yard:=⟨y.now,y.seq,y.shelf.set i ((y.shelf.getD i []).filter fun e=>Di y e),y.runs⟩
def Em (home draw:Int):List Nat :=
 let d:=(max draw 0 % 3).toNat
 (List.range 3).map fun i=>((home.toNat+1+(d+i) % 3) % 4)
noncomputable def Ed (home:Nat) (y:Yard) (v:Nat):Yard :=
 if (y.shelf.getD home []).length=0 then
  let z:=Cg y v
  let l:=z.shelf.getD v []
  ⟨z.now,z.seq,(z.shelf.set v (l.drop (C9 l))).set home (Gp ((z.shelf.set v (l.drop (C9 l))).getD home []) (l.take (C9 l))),z.runs⟩
 else y
theorem Rd.ent_ {w:World} {B:Nat} {A:Option Addr} {n c:Nat} {l:List Entry} (h:Rd Cw w B (Aa A n c) l) {k:Nat} (hk:k<l.length) :
  ∃ b o,A=Ad ⟨b,o,Ac⟩/\b<B/\w.cell? ⟨b,o+k * 4,Ac⟩=Ad (J Ab l[k].prio)/\w.cell? ⟨b,o+k * 4+1,Ac⟩=Ad (J Ab l[k].seq)/\w.cell? ⟨b,o+k * 4+2,Ac⟩=Ad (J Ab l[k].run)/\w.cell? ⟨b,o+k * 4+3,Ac⟩=Ad (J Ab l[k].task):=by
 obtain ⟨A',c',hv,_,hA⟩:=h;simp only [Value.slice.injEq] at hv;obtain ⟨rfl,_,_⟩:=hv;obtain ⟨b,o,rfl,hb,hc⟩:=hA Bl;exact ⟨b,o,rfl,hb,hc k hk 0 _ rfl,hc k hk 1 _ rfl,hc k hk 2 _ rfl,hc k hk 3 _ rfl⟩
theorem N0 {f:FuncId} {fn:Func} (hf:An.funcs[f]? = Ad fn) (hname:(fn.name == "runtime.NumGoroutine")=false) (hb:fn.body.isNone=false):∀ (args:Array Value) (w:World),(callFunc f args).run An w = .ok (.enter f args) w:=fun args w=>by
 have h1:fn.name ≠ "runtime.NumGoroutine" := by simpa using hname
 cases h:fn.body with
 | none=>rw [h] at hb;cases hb
 | some c=>simp [callFunc,hf,h1,h]
theorem Q7 (FN p:Nat) (pred:Entry->Bool) (hF:∀ (args:Array Value) (w:World),(callFunc FN args).run An w = .ok (.enter FN args) w) (l:List Entry) (A:Option Addr) (n c:Nat) (w:World) (hl:l.length<=2000000) (h:Rd Cw w w (Aa A n c) l)
  (hf:∀ (W:World) (x:Entry),Below w w W->Calls An FN #[Io x (),.pointer (Ad ⟨p,0,Ac⟩)] W fun e w'=>e = .returned (.bool (pred x))/\Below W W w') :
  Calls An 279 #[Aa A n c,.func (.func FN) #[] #[.pointer (Ad ⟨p,0,Ac⟩)]] w fun e w'=>e = .returned (J Ab (He pred l))/\Below w w w':=by
 obtain rfl:n=l.length:=by obtain ⟨A',c',hv,_⟩:=id h;simp only [Value.slice.injEq] at hv;exact hv.2.1
 have HF:=Bq hf;clear hf;go_enter func279,ntmps279;go_wp2;go_loopw [8] (fun i wr=>∃ k:Nat,k<=l.length/\i = J Ab k/\Hid (∀ j (hj:j<k) (hj':j<l.length),pred l[j]=false)/\Below w w wr) (fun i _=>l.length - (intOf i).toNat);case atStart=>exact ⟨0,Ah _,rfl,fun j hj=>absurd hj Bl,Br _ _⟩
 case round =>
  obtain ⟨k,hk,rfl,bY,hb⟩:=hrel;by_cases aB:k<l.length
  ·obtain ⟨b,o,rfl,aH,c0,c1,c2,c3⟩:=(h.below hb).ent_ aB;have aC:(k:Int)<(l.length:Int):=Bl;have hs:=hb.size;have C:=HF.out wr l[k] hb;cases t1:pred l[k]
   ·have S:Hid (∀ j (hj:j<k+1) (hj':j<l.length),pred l[j]=false):=by
     intro j hj hj';by_cases e:j=k
     ·subst e;exact t1
     ·exact bY.out j Bl hj'
    rw [t1] at C;go_wp2_with fail
    refine C.mono ?_;rintro e w1 ⟨rfl,aZ⟩;have hE:=Bv hb aZ;go_wp2;first
     | exact ⟨⟨k+1,Bl,by go_num,S,hE⟩,clM⟩
     | (refine ⟨?_,clM⟩;(repeat apply Exists.intro);refine ⟨?_,clR⟩;exact ⟨k+1,Bl,by go_num,S,hE⟩)
   ·have H:=Bq (It aB (fun j hj=>bY.out j hj Bl) t1);rw [t1] at C;go_wp2_with fail
    refine C.mono ?_;rintro e w1 ⟨rfl,aZ⟩;have hE:=Bv hb aZ;go_wp2;go_ret;exact ⟨D6 (by rw [H.out]),hE⟩
  ·have aC:¬ (k:Int)<(l.length:Int):=Bl;have H:=Bq (Jd (p:=pred) (l:=l) (fun j hj=>bY.out j Bl hj));go_wp2;go_ret;exact ⟨D6 (by rw [H.out]),hb⟩
theorem Ua (l:List Entry) (A:Option Addr) (n c:Nat) (F:List Nat) (FN p:Nat) (pred:Entry->Bool) (hF:∀ (args:Array Value) (w:World),(callFunc FN args).run An w = .ok (.enter FN args) w) (w:World) (hl:l.length<=2000000)
  (hdel:∀ (W:World) (x:Entry),Chg F w W->Calls An FN #[Io x (),.pointer (Ad ⟨p,0,Ac⟩)] W fun e w'=>e = .returned (.bool (pred x))/\Below W W w')
  (hidx:Calls An 279 #[Aa A n c,.func (.func FN) #[] #[.pointer (Ad ⟨p,0,Ac⟩)]] w fun e w'=>e = .returned (J Ab (He pred l))/\Below w w w')
  (h:Hw Cw w F (Aa A n c) l) :
  Calls An 220 #[Aa A n c,.func (.func FN) #[] #[.pointer (Ad ⟨p,0,Ac⟩)]] w (Aiq Cw A c F (l.filter fun x=>!pred x) w):=by
 obtain rfl:n=l.length:=by obtain ⟨A',c',hv,_⟩:=h.1;simp only [Value.slice.injEq] at hv;exact hv.2.1
 have HDel:=Bq hdel;clear hdel;rcases Mv pred l with hr | ⟨k,hk,hr⟩
 ·have HN:Hid (∀ j (hj:j<l.length),pred l[j]=false):=fun j hj=>by
   cases hp:pred l[j] with
   | false=>rfl
   | true=>exact absurd (Ta.2 ⟨_,Ax hj,hp⟩) Bl
  rw [hr] at hidx;clear hr;go_enter func220,ntmps220;go_wp2_with fail
  refine hidx.mono ?_;rintro e w1 ⟨rfl,b1⟩;go_wp2;go_ret;exact ⟨l.length,F,rfl,by rw [Ahp HN.out];exact h.below b1,fun b hb=>hb,Chg.of_below F b1⟩
 have HK:=Bq (show Kept pred l l k (k+1) from by
  obtain ⟨h1,h2⟩:(∀ j (hj:j<l.length),j<k->pred l[j]=false)/\pred l[k]=true:=by
   unfold He at hr;cases hf:l.findIdx? pred with
   | none=>rw [hf] at hr;simp only at hr;omega
   | some i =>
    rw [hf] at hr;simp only at hr;obtain ⟨hi,hp,hb⟩:=List.findIdx?_eq_some_iff_getElem.1 hf;obtain rfl:i=k:=Bl;exact ⟨fun j hj fM=>by simpa using hb j fM,hp⟩
  exact Aek hk h1 h2)
 obtain ⟨b,o,rfl,rfl,hb,fB⟩:=h.at_ Bl;have HRd:=h.rd;clear h;rw [hr] at hidx;clear hr;have cS:((k:Int) == -1)=false:=beq_eq_false_iff_ne.2 Bl;go_enter func220,ntmps220;go_wp2_with fail
 refine hidx.mono ?_;rintro e w1 ⟨rfl,b1⟩;have HR1:=(HRd.below b1).more b1.size;have hf1:∀ j,w1.frozen? ⟨b,j,Ac⟩=false:=fun j=>(b1.frozen (p:=⟨b,j,Ac⟩) hb).trans (fB j);have C1:=Chg.of_below [b] b1;go_wp2;clear cS;go_loopw [5,6] (fun vi vj wr=>∃ (i j:Nat) (M:List Entry),i<j/\j<=l.length/\vi = J Ab i/\vj = J Ab j/\Hid (Kept pred l M i j)/\Rd Cw wr wr (Aa (Ad ⟨b,o,Ac⟩) l.length c) M/\Hid (∀ t,wr.frozen? ⟨b,t,Ac⟩=false)/\Chg [b] w wr) (fun _ vj _=>l.length - (intOf vj).toNat);case atStart=>exact ⟨k,k+1,l,Nat.lt_succ_self _,hk,rfl,by go_num,HK,HR1,hf1,C1⟩
 case round =>
  clear HR1 hf1 C1 HK b1 HRd fB hk;obtain ⟨i,j,M,rK,hj,rfl,rfl,hK,hR,hF,hC⟩:=hrel;have hML:=hK.out.len;have cJ:b<wr:=Aj hb hC.size;by_cases aB:j<l.length
  ·have aC:(j:Int)<(l.length:Int):=Bl;have hiI:(i:Int)<(l.length:Int):=Bl;obtain ⟨b',o',hA,_,d0,d1,d2,d3⟩:=hR.ent_ (k:=j) Bl;simp only [Option.some.injEq,Addr.mk.injEq,and_true] at hA;obtain ⟨rfl,rfl⟩:=hA;have hMj:=hK.out.tail j aB Bl (Bs _);rw [hMj] at d0 d1 d2 d3;clear hMj;have ha:=(Br wr wr).alloc (Bs _) (.cells #[J Ab l[j].prio,J Ab l[j].seq,J Ab l[j].run,J Ab l[j].task] 71);have V:=DBox.new 71 [J Ab l[j].prio,J Ab l[j].seq,J Ab l[j].run,J Ab l[j].task] wr rfl;have C:=HDel.out _ l[j] (hC.trans (Chg.of_below [b] ha));have HMl:=Bq hML;clear hML;cases q:pred l[j]
   ·have S:=Bq (hK.out.keep aB rK q);rw [q] at C;go_wp2_with fail
    refine C.mono ?_;rintro e w3 ⟨rfl,b3⟩;replace V:=V.below b3;have qX:=Bv ha b3;have V_:=V.g4;have R3:=(hR.below qX).more qX.size;have F3:∀ t,w3.frozen? ⟨b,t,Ac⟩=false:=fun t=>(qX.frozen (p:=⟨b,t,Ac⟩) cJ).trans (hF.out t);obtain ⟨b',o',hA,bU,f0,f1,f2,f3⟩:=R3.ent_ (k:=i) (by rw [HMl.out];omega);simp only [Option.some.injEq,Addr.mk.injEq,and_true] at hA;obtain ⟨rfl,rfl⟩:=hA;have R4:=Bq (R3.part i (by rw [HMl.out];omega) l[j] 0 (Cw.cells l[j]) (by rw [Cw.len];omega) (fun t ht=>by rw [Nat.zero_add];exact List.getElem?_eq_getElem ht) (fun t ht h=>by rw [Cw.len] at h;omega));go_wp2;have hw:Is w3 b (o+i * Cw.sz+0) (Cw.cells l[j])=((((w3.setCell ⟨b,o+i * 4,Ac⟩ (J Ab l[j].prio)).setCell ⟨b,o+i * 4+1,Ac⟩ (J Ab l[j].seq)).setCell ⟨b,o+i * 4+2,Ac⟩ (J Ab l[j].run)).setCell ⟨b,o+i * 4+3,Ac⟩ (J Ab l[j].task)):=rfl;have R5:=R4.out;have C4:=Fn (Cw.cells l[j]) w3 b (o+i * Cw.sz+0);have Z4:=J8 (Cw.cells l[j]) w3 b (o+i * Cw.sz+0);have F4:∀ t,(Is w3 b (o+i * Cw.sz+0) (Cw.cells l[j])).frozen? ⟨b,t,Ac⟩=false:=fun t=>by rw [Jf];exact F3 t
    rw [hw] at R5 C4 Z4 F4;have C5:=(hC.trans (Chg.of_below [b] qX)).trans C4;have R6:=R5.more (Nat.le_of_eq Z4.symm);first
     | exact ⟨⟨i+1,Bl,j+1,Bl,by go_num,by go_num,_,S,R6,F4,C5⟩,clM⟩
     | exact ⟨⟨i+1,j+1,_,Bl,Bl,by go_num,by go_num,S,R6,F4,C5⟩,clM⟩
     | (refine ⟨?_,clM⟩;(repeat apply Exists.intro);refine ⟨?_,clR⟩;exact ⟨i+1,j+1,_,Bl,Bl,by go_num,by go_num,S,R6,F4,C5⟩)
   ·have S:=Bq (hK.out.drop aB q);rw [q] at C;go_wp2_with fail
    refine C.mono ?_;rintro e w3 ⟨rfl,b3⟩;have qX:=Bv ha b3;have R3:=(hR.below qX).more qX.size;have F3:Hid (∀ t,w3.frozen? ⟨b,t,Ac⟩=false):=fun t=>(qX.frozen (p:=⟨b,t,Ac⟩) cJ).trans (hF.out t);have C5:=hC.trans (Chg.of_below [b] qX);go_wp2;first
     | exact ⟨⟨i,j+1,M,Bl,Bl,rfl,by go_num,S,R3,F3,C5⟩,clM⟩
     | (refine ⟨?_,clM⟩;(repeat apply Exists.intro);refine ⟨?_,clR⟩;exact ⟨i,j+1,M,Bl,Bl,rfl,by go_num,S,R3,F3,C5⟩)
  ·have aC:¬ (j:Int)<(l.length:Int):=Bl;have HH:=Bq (show M.take i=l.filter fun x=>!pred x by rw [hK.out.head,Bg Bl]);have hcl:l.length<=c:=by have:=hR.cap;omega
   have kz:∀ w,(zeroValue 71).run An w = .ok (.agg #[J Ab 0,J Ab 0,J Ab 0,J Ab 0]) w:=fun w=>by
    obtain ⟨i0,aQ,aW,aU,aR⟩:=info_parts Gi;simp [zeroValue,typeInfo,aQ,aW]
   have kc:=Om (P:=An) wr 74 71 0 (.agg #[J Ab 0,J Ab 0,J Ab 0,J Ab 0]) underlying74 kz b (o+i * 4) (l.length - i) (c - i) Bl (fun v hv=>by
     simp [Value.cells] at hv;try subst hv
     rfl) (fun q hq=>by
     have hq':q<(l.length - i) * 4:=hq
     have:=hR.some_ Bp (i * 4+q) (by
      show _<M.length * 4;rw [hML];have h3:l.length * 4=i * 4+(l.length - i) * 4:=by rw [<-Nat.add_mul];congr 1;omega
      omega)
     rw [Nat.add_assoc];exact this) hF.out
   go_wp2;clear kc;go_ret;have Rc:=hR.clear i Bl (Builtin.zeroCells #[J Ab 0,J Ab 0,J Ab 0,J Ab 0] (l.length - i)).toList;rw [HH.out] at Rc;have Cc:=hC.trans (Fn (Builtin.zeroCells #[J Ab 0,J Ab 0,J Ab 0,J Ab 0] (l.length - i)).toList wr b (o+i * 4));have Rw:=Hw.of_rd (Rc.more (Nat.le_of_eq (J8 _ _ _ _).symm)) (fun t=>by rw [Jf];exact hF.out t);refine ⟨i,_,rfl,Rw,fun x hx=>?_,Cc⟩
   have:=Ho _ _ _ hx
   have:b=x:=by simpa [Value.ownBlock] using this
   simp [this]
structure View where
 state:Int
 waits:Int
 ready:Int
 runs:Int
 done:Int
 failed:Int
 left:Int
@[go_sem] abbrev Afk (v:View):Value:=.agg #[.int .i64 v.state,.int .i64 v.waits,.int .i64 v.ready,.int .i64 v.runs,.int .i64 v.done,.int .i64 v.failed,.int .i64 v.left]
abbrev Jk (v:View):List Value:=[.int .i64 v.state,.int .i64 v.waits,.int .i64 v.ready,.int .i64 v.runs,.int .i64 v.done,.int .i64 v.failed,.int .i64 v.left]
abbrev Lh (r:Run) (s:Sl×Sl):List Value:=[.int .i64 r.id,.int .i64 r.plan.prio,.int .i64 r.plan.most,.int .i64 r.plan.wait,.int .i64 r.plan.tasks,.slice s.1.a s.1.n s.1.c,.int .i64 r.state,.slice s.2.a s.2.n s.2.c]
def Nm (r:Run):View:=⟨r.state,Cp r.tasks 1,Cp r.tasks 2,Cp r.tasks 3,Cp r.tasks 4,Cp r.tasks 5,Cp r.tasks 6⟩
def Agc (a b:View):View:=⟨a.state,a.waits+b.waits,a.ready+b.ready,a.runs+b.runs,a.done+b.done,a.failed+b.failed,a.left+b.left⟩
def Ai7 (n:Nat):View:=⟨n,0,0,0,0,0,0⟩
def Hv (y:Yard) (k:Nat):View:=(y.runs.take k).foldl (fun v r=>Agc v (Nm r)) (Ai7 y.runs.length)
def Lo (v:View) (n:Nat):Prop:=(0<=v.waits/\v.waits<=n)/\(0<=v.ready/\v.ready<=n)/\(0<=v.runs/\v.runs<=n)/\(0<=v.done/\v.done<=n)/\(0<=v.failed/\v.failed<=n)/\(0<=v.left/\v.left<=n)
theorem Wp {r:Run} {n:Nat} (h:r.tasks.length<=n):Lo (Nm r) n:=by
 have h1:=fun s=>Ia r.tasks s
 have:=h1 1;have:=h1 2;have:=h1 3;have:=h1 4;have:=h1 5;have:=h1 6
 unfold Lo Nm;dsimp only;omega
theorem Air {a b:View} {n m:Nat} (h:Lo a n) (k:Lo b m):Lo (Agc a b) (n+m):=by
 unfold Lo Agc at *
 dsimp only;omega
theorem Lz {y:Yard} {k:Nat} (hk:k<y.runs.length):Hv y (k+1)=Agc (Hv y k) (Nm y.runs[k]):=by
 unfold Hv;rw [Cy y.runs k hk,List.foldl_append];rfl
theorem Q8 {y:Yard} (h:∀ r∈y.runs,r.tasks.length<=12):∀ k,k<=y.runs.length->Lo (Hv y k) (12 * k)
 | 0,_=>by unfold Lo Hv Ai7;simp
 | k+1,hk=>by
  rw [Lz hk];exact Air (Q8 h k Bl) (Wp (h _ (Ax hk)))
theorem Acs (r:Run) (s:Sl×Sl) (p:Nat) (st:Int) (w:World) (hl:r.tasks.length<=2000000) (X:DBox p (Lh r s) w) (h:Cn.rd w w r s) :
  Calls An 149 #[J Ab st,.pointer (Ad ⟨p,0,Ac⟩)] w fun e w'=>e = .returned (J Ab (Cp r.tasks st:Nat))/\Below w w w':=by
 have C:=Bq (Hn r s st w hl h);obtain ⟨⟨A1,n1,c1⟩,⟨A2,n2,c2⟩⟩:=s;clear h;have X_:=X.g8;have hle:=Ia r.tasks st;generalize Cp r.tasks st=n at *
 go_enter func149,ntmps149;go_wp2_with fail
 refine C.out.mono ?_;rintro e1 w1 ⟨A,c,rfl,b1⟩;go_wp2;go_ret;exact ⟨rfl,b1⟩
theorem Aem {b:Nat} {w:World} {u0 u1 u2 u3 u4 u5 u6:Value} (X:DBox b [u0,u1,u2,u3,u4,u5,u6] w) {v0 v1:Value} {rest:List Value} :
  (results Tryz.f77 (v0 :: v1 :: .pointer (Ad ⟨b,0,Ac⟩) :: rest).toArray).run An w = .ok (.agg #[u0,u1,u2,u3,u4,u5,u6]) w:=by
 obtain ⟨c0,c1,c2,c3,c4,c5,c6,-⟩:=X.g7;simp [results,results77,go_sem,c0,c1,c2,c3,c4,c5,c6]
theorem Wq (r:Run) (s:Sl×Sl) (w:World) (hl:r.tasks.length<=2000000) (h:Cn.rd w w r s) :
  Calls An 77 #[Hx r s] w fun e w'=>e = .returned (Afk (Nm r))/\Below w w w':=by
 have C:=Bq (fun W (hW:Below w w W) (X:DBox w (Lh r s) W) st=>Acs r s w st W hl X (Cn.rd_more (Cn.rd_below h hW) hW.size));obtain ⟨⟨A1,n1,c1⟩,⟨A2,n2,c2⟩⟩:=s;have HV:Hid (Nm r=⟨r.state,Cp r.tasks 1,Cp r.tasks 2,Cp r.tasks 3,Cp r.tasks 4,Cp r.tasks 5,Cp r.tasks 6⟩):=rfl;clear h;obtain ⟨W,aG,X,RES,B0⟩:=bx2 w 67 [J Ab r.id,J Ab r.plan.prio,J Ab r.plan.most,J Ab r.plan.wait,J Ab r.plan.tasks,Aa A1 n1 c1,J Ab r.state,Aa A2 n2 c2] 61 [J Ab 0,J Ab 0,J Ab 0,J Ab 0,J Ab 0,J Ab 0,J Ab 0];go_enter func77,ntmps77;go_upto_region 2 with fail
 rw [<-aG.out];clear aG;refine Go.wp_region_noPanic ?_;refine wp_region_held_drew (S:=fun w'=>DBox w (Lh r (⟨A1,n1,c1⟩,⟨A2,n2,c2⟩)) w'/\Below w w w') Bm ⟨X.below (Br _ _).drew,Bv B0 (Br _ _).drew⟩ (fun aA=>?_);have RES:=RES.below (Br _ _).drew;generalize W.drew=wc at *
 refine tY 0 ?_
 (try simp only [pS])
 refine tV 1 ?_
 (try simp only [pS])
 refine tY 2 ?_
 (try simp only [pS])
 refine tY 4 ?_
 (try simp only [pS])
 refine tY 6 ?_
 (try simp only [pS])
 refine tY 8 ?_
 (try simp only [pS])
 refine tY 10 ?_
 (try simp only [pS])
 refine tY 12 ?_
 (try simp only [pS])
 refine rC 3 (fun K_ hK=>?_);go_simp;refine (C.out _ aA.2 aA.1 1).mono ?_;rintro e w1 ⟨rfl,b⟩;replace RES:=RES.below b;replace aA:DBox w (Lh r (⟨A1,n1,c1⟩,⟨A2,n2,c2⟩)) w1/\Below w w w1:=⟨aA.1.below b,Bv aA.2 b⟩
 refine hK.out _ _ aA (fun _=>?_);clear hK K_ b
 (try simp only [pS])
 refine rC 5 (fun K_ hK=>?_);go_simp;refine (C.out _ aA.2 aA.1 2).mono ?_;rintro e w2 ⟨rfl,b⟩;replace RES:=RES.below b;replace aA:DBox w (Lh r (⟨A1,n1,c1⟩,⟨A2,n2,c2⟩)) w2/\Below w w w2:=⟨aA.1.below b,Bv aA.2 b⟩
 refine hK.out _ _ aA (fun _=>?_);clear hK K_ b
 (try simp only [pS])
 refine rC 7 (fun K_ hK=>?_);go_simp;refine (C.out _ aA.2 aA.1 3).mono ?_;rintro e w3 ⟨rfl,b⟩;replace RES:=RES.below b;replace aA:DBox w (Lh r (⟨A1,n1,c1⟩,⟨A2,n2,c2⟩)) w3/\Below w w w3:=⟨aA.1.below b,Bv aA.2 b⟩
 refine hK.out _ _ aA (fun _=>?_);clear hK K_ b
 (try simp only [pS])
 refine rC 9 (fun K_ hK=>?_);go_simp;refine (C.out _ aA.2 aA.1 4).mono ?_;rintro e w4 ⟨rfl,b⟩;replace RES:=RES.below b;replace aA:DBox w (Lh r (⟨A1,n1,c1⟩,⟨A2,n2,c2⟩)) w4/\Below w w w4:=⟨aA.1.below b,Bv aA.2 b⟩
 refine hK.out _ _ aA (fun _=>?_);clear hK K_ b
 (try simp only [pS])
 refine rC 11 (fun K_ hK=>?_);go_simp;refine (C.out _ aA.2 aA.1 5).mono ?_;rintro e w5 ⟨rfl,b⟩;replace RES:=RES.below b;replace aA:DBox w (Lh r (⟨A1,n1,c1⟩,⟨A2,n2,c2⟩)) w5/\Below w w w5:=⟨aA.1.below b,Bv aA.2 b⟩
 refine hK.out _ _ aA (fun _=>?_);clear hK K_ b
 (try simp only [pS])
 refine rC 13 (fun K_ hK=>?_);go_simp;refine (C.out _ aA.2 aA.1 6).mono ?_;rintro e w6 ⟨rfl,b⟩;replace RES:=RES.below b;replace aA:DBox w (Lh r (⟨A1,n1,c1⟩,⟨A2,n2,c2⟩)) w6/\Below w w w6:=⟨aA.1.below b,Bv aA.2 b⟩
 refine hK.out _ _ aA (fun _=>?_);clear hK K_ b
 (try simp only [pS])
 refine tY 14 ?_
 (try simp only [pS])
 have RES_:=RES.g7;have rf:=RES.free;refine rC 15 (fun K_ hK=>?_);go_simp;have HF:Hid (∀ W,W=((((((w6.setCell ⟨w+1,0,Ac⟩ (J Ab r.state)).setCell ⟨w+1,1,Ac⟩ (J Ab (Cp r.tasks 1:Nat))).setCell ⟨w+1,2,Ac⟩ (J Ab (Cp r.tasks 2:Nat))).setCell ⟨w+1,3,Ac⟩ (J Ab (Cp r.tasks 3:Nat))).setCell ⟨w+1,4,Ac⟩ (J Ab (Cp r.tasks 4:Nat))).setCell ⟨w+1,5,Ac⟩ (J Ab (Cp r.tasks 5:Nat))).setCell ⟨w+1,6,Ac⟩ (J Ab (Cp r.tasks 6:Nat)) ->
   DBox (w+1) (Jk (Nm r)) W/\DBox w (Lh r (⟨A1,n1,c1⟩,⟨A2,n2,c2⟩)) W/\Below w w W):=by
  rintro W rfl;exact ⟨((((((RES.put 0 Bn _).put 1 Bn _).put 2 Bn _).put 3 Bn _).put 4 Bn _).put 5 Bn _).put 6 Bn _,
   ((((((aA.1.setOther Bn _).setOther Bn _).setOther Bn _).setOther Bn _).setOther Bn _).setOther Bn _).setOther Bn _,
   ((((((aA.2.setCell Bn _).setCell Bn _).setCell Bn _).setCell Bn _).setCell Bn _).setCell Bn _).setCell Bn _⟩
 have HG:=HF.out _ rfl;refine hK.out _ _ HG.2 (fun _=>?_);clear hK K_
 (try simp only [pS])
 refine wpAnyH_done Bm ?_ _;refine NoPanic.normal ?_;go_wp2_with fail
 exact Ak (Aem HG.1) rfl ⟨rfl,HG.2.2⟩
theorem Ws {b:Nat} {w:World} {u0 u1 u2 u3 u4 u5 u6:Value} (X:DBox b [u0,u1,u2,u3,u4,u5,u6] w) {v0 v1 v2 v3:Value} {q:Bool} {rest:List Value} :
  (results Tryz.f21 (v0 :: v1 :: v2 :: v3 :: .pointer (Ad ⟨b,0,Ac⟩) :: .bool q :: rest).toArray).run An w = .ok (.tuple #[.agg #[u0,u1,u2,u3,u4,u5,u6],.bool q]) w:=by
 obtain ⟨c0,c1,c2,c3,c4,c5,c6,-⟩:=X.g7;simp [results,results21,go_sem,c0,c1,c2,c3,c4,c5,c6]
theorem Tc (y:Yard) (s:Sl×Sl) (id:Int) (w:World) (hl:Cf y<=2000000) (hid:Db y id = -1) (h:Bu.rd w w y s) :
  Calls An 21 #[Dh y s,J Ab id] w fun e w'=>e = .returned (.tuple #[Afk ⟨0,0,0,0,0,0,0⟩,.bool false])/\Below w w w':=by
 have C:=Bq (fun W (hW:Below w w W)=>Ep y s id W hl (Bu.rd_more (Bu.rd_below h hW) hW.size));rw [hid] at C;obtain ⟨⟨A1,n1,c1⟩,⟨A2,n2,c2⟩⟩:=s;clear h;obtain ⟨W,aG,X,RES,B0⟩:=bx2 w 31 [J Ab y.now,J Ab y.seq,Aa A1 n1 c1,Aa A2 n2 c2] 61 [J Ab 0,J Ab 0,J Ab 0,J Ab 0,J Ab 0,J Ab 0,J Ab 0];go_enter func21,ntmps21;go_wp2_with fail
 rw [<-aG.out];clear aG;refine (C.out _ B0).mono ?_;rintro e w1 ⟨rfl,b1⟩;replace RES:=RES.below b1;replace B0:=Bv B0 b1;have RES_:=RES.g7;have rf:=RES.free;have HF:Hid (∀ W,W=((((((w1.setCell ⟨w+1,0,Ac⟩ (J Ab 0)).setCell ⟨w+1,1,Ac⟩ (J Ab 0)).setCell ⟨w+1,2,Ac⟩ (J Ab 0)).setCell ⟨w+1,3,Ac⟩ (J Ab 0)).setCell ⟨w+1,4,Ac⟩ (J Ab 0)).setCell ⟨w+1,5,Ac⟩ (J Ab 0)).setCell ⟨w+1,6,Ac⟩ (J Ab 0) ->
   DBox (w+1) (Jk ⟨0,0,0,0,0,0,0⟩) W/\Below w w W):=by
  rintro W rfl;exact ⟨((((((RES.put 0 Bn _).put 1 Bn _).put 2 Bn _).put 3 Bn _).put 4 Bn _).put 5 Bn _).put 6 Bn _,
   ((((((B0.setCell Bn _).setCell Bn _).setCell Bn _).setCell Bn _).setCell Bn _).setCell Bn _).setCell Bn _⟩
 go_wp2_with fail
 have HG:=HF.out _ rfl;exact Ak (Ws HG.1) rfl ⟨rfl,HG.2⟩
theorem Aat (y:Yard) (s:Sl×Sl) (k:Nat) (id:Int) (w:World) (hl:Cf y<=2000000) (hk:k<y.runs.length) (hid:Db y id=k) (h:Bu.rd w w y s) :
  Calls An 21 #[Dh y s,J Ab id] w fun e w'=>e = .returned (.tuple #[Afk (Nm y.runs[k]),.bool true])/\Below w w w':=by
 have C:=Bq (fun W (hW:Below w w W)=>Ep y s id W hl (Bu.rd_more (Bu.rd_below h hW) hW.size));rw [hid] at C;obtain ⟨⟨A1,n1,c1⟩,⟨A2,n2,c2⟩⟩:=s;obtain rfl:n2=y.runs.length:=RdL.at1 (s:=⟨A2,n2,c2⟩) h.2;have h2:RdL Cn w w (Aa A2 y.runs.length c2) y.runs:=h.2;have gJ:(k:Int)<(y.runs.length:Int):=Bl;have dF:(0:Int)<=(k:Int):=Bl;have qG:decide ((k:Int)<0)=false:=Bn;have pC:=Fc hl hk;clear h;obtain ⟨W,aG,X,RES,B0⟩:=bx2 w 31 [J Ab y.now,J Ab y.seq,Aa A1 n1 c1,Aa A2 y.runs.length c2] 61 [J Ab 0,J Ab 0,J Ab 0,J Ab 0,J Ab 0,J Ab 0,J Ab 0];go_enter func21,ntmps21;go_wp2_with fail
 rw [<-aG.out];clear aG;refine (C.out _ B0).mono ?_;rintro e w1 ⟨rfl,b1⟩;replace X:=X.below b1;replace RES:=RES.below b1;replace B0:=Bv B0 b1;obtain ⟨b,o,s1,rfl,aH,bP,c0_,c1_,c2_,c3_,c4_,c5_,c6_,c7_⟩:=(h2.below B0).run hk;have V:=Bq (Wq y.runs[k] s1 w1 pC (Cn.rd_more bP (B0.size)));have X_:=X.g4;have bN:b<w1:=by have:=B0.size;omega
 go_wp2_with fail
 refine V.out.mono ?_;rintro e w2 ⟨rfl,b2⟩;replace RES:=RES.below b2;replace B0:=Bv B0 b2;have RES_:=RES.g7;have rf:=RES.free;generalize hv:Nm y.runs[k]=v at *
 have HV:=Bq hv;clear hv;have HF:Hid (∀ W,W=((((((w2.setCell ⟨w+1,0,Ac⟩ (J Ab v.state)).setCell ⟨w+1,1,Ac⟩ (J Ab v.waits)).setCell ⟨w+1,2,Ac⟩ (J Ab v.ready)).setCell ⟨w+1,3,Ac⟩ (J Ab v.runs)).setCell ⟨w+1,4,Ac⟩ (J Ab v.done)).setCell ⟨w+1,5,Ac⟩ (J Ab v.failed)).setCell ⟨w+1,6,Ac⟩ (J Ab v.left) ->
   DBox (w+1) (Jk v) W/\Below w w W):=by
  rintro W rfl;exact ⟨((((((RES.put 0 Bn _).put 1 Bn _).put 2 Bn _).put 3 Bn _).put 4 Bn _).put 5 Bn _).put 6 Bn _,
   ((((((B0.setCell Bn _).setCell Bn _).setCell Bn _).setCell Bn _).setCell Bn _).setCell Bn _).setCell Bn _⟩
 go_wp2_with fail
 have HG:=HF.out _ rfl;exact Ak (Ws HG.1) rfl ⟨by rw [HV.out],HG.2⟩
theorem Aen {b:Nat} {w:World} {u0 u1 u2 u3 u4 u5 u6:Value} (X:DBox b [u0,u1,u2,u3,u4,u5,u6] w) {v0 v1:Value} {rest:List Value} :
  (results Tryz.f20 (v0 :: v1 :: .pointer (Ad ⟨b,0,Ac⟩) :: rest).toArray).run An w = .ok (.agg #[u0,u1,u2,u3,u4,u5,u6]) w:=by
 obtain ⟨c0,c1,c2,c3,c4,c5,c6,-⟩:=X.g7;simp [results,results20,go_sem,c0,c1,c2,c3,c4,c5,c6]
theorem Wt (y:Yard) (s:Sl×Sl) (w:World) (hl:Cf y<=2000000) (h8:y.runs.length<=8) (kU:∀ r∈y.runs,r.tasks.length<=12) (h:Bu.rd w w y s) :
  Calls An 20 #[Dh y s] w fun e w'=>e = .returned (Afk (Hv y y.runs.length))/\Below w w w':=by
 obtain ⟨⟨A1,n1,c1⟩,⟨A2,n2,c2⟩⟩:=s;obtain rfl:n2=y.runs.length:=RdL.at1 (s:=⟨A2,n2,c2⟩) h.2;have h2:RdL Cn w w (Aa A2 y.runs.length c2) y.runs:=h.2;have HL:=Bq (Q8 kU);have H12:=Bq kU;clear h hl kU;obtain ⟨W,aG,X,RES,OB,B0⟩:=bx3 w 31 [J Ab y.now,J Ab y.seq,Aa A1 n1 c1,Aa A2 y.runs.length c2] 61 [J Ab 0,J Ab 0,J Ab 0,J Ab 0,J Ab 0,J Ab 0,J Ab 0] 61 [J Ab (y.runs.length:Int),J Ab 0,J Ab 0,J Ab 0,J Ab 0,J Ab 0,J Ab 0];go_enter func20,ntmps20;go_upto_region 2 with fail
 rw [<-aG.out];clear aG;have dL:=RES.lt;have gG:=OB.lt;have hobd:w.heap.size+1<w.heap.size+1+1:=Bl;replace OB:DBox (w+1+1) (Jk (Hv y 0)) W:=OB;obtain ⟨w2,rfl⟩:∃ x,x=W:=⟨_,rfl⟩
 generalize w.heap.size+1+1=ob at *
 have X_:=X.g4;go_wp2;clear X_;go_loopw [14] (fun i wr=>∃ k:Nat,k<=y.runs.length/\i = J Ab k/\DBox ob (Jk (Hv y k)) wr/\Chg [ob] w2 wr) (fun i _=>y.runs.length - (intOf i).toNat);case atStart=>exact ⟨0,Ah _,rfl,OB,Chg.refl [ob] w2⟩
 case round =>
  clear OB;obtain ⟨k,hk,rfl,OB,hc⟩:=hrel;have mW:=hc.size;have hob1:Hid (∀ x∈[ob],w<=x):=fun x hx=>by rw [Aw.1 hx];omega
  have hB:Below w w wr:=B0.trans (hc.below B0.size hob1.out);have hL:=HL.out k hk;unfold Lo at hL;by_cases aB:k<y.runs.length
  ·have aC:(k:Int)<(y.runs.length:Int):=Bl;obtain ⟨b,o,⟨⟨B1,m1,e1⟩,⟨B2,m2,e2⟩⟩,rfl,aH,bP,c0_,c1_,c2_,c3_,c4_,c5_,c6_,c7_⟩:=(h2.below hB).run aB;have kU:=H12.out y.runs[k] (Ax aB);have hL2:=Wp kU;unfold Lo at hL2;have S:=Bq (Lz aB);have bN:b<wr:=by have:=hB.size;omega
   have hBs:=hB.size;have ha:Below wr wr (wr.alloc (.cells (Lh y.runs[k] (⟨B1,m1,e1⟩,⟨B2,m2,e2⟩)).toArray 67)):=Bt;have V:=Bq (Wq y.runs[k] (⟨B1,m1,e1⟩,⟨B2,m2,e2⟩) _ Bl (Cn.rd_more (Cn.rd_below (Cn.rd_more bP hBs) ha) ha.size));generalize Nm y.runs[k]=v at *
   generalize y.runs[k]=r at *
   generalize Hv y k=a at *
   go_wp2_with fail
   refine V.out.mono ?_;rintro e w4 ⟨rfl,b4⟩;have b5:Below w4 w4 (w4.alloc (.cells (Jk v).toArray 61)):=Bt;have VB:=DBox.new 61 (Jk v) w4 (b:=w4) rfl;go_upto_region 6 with fail
   have b6:Below wr wr _:=Bv (Bv ha b4) b5;replace OB:=OB.below b6;replace hc:=hc.trans (Chg.of_below [ob] b6);have hvs:=b4.size;have gT:ob≠w4:=by have:=ha.size;omega
   clear V ha b4 b5 b6 c0_ c1_ c2_ c3_ c4_ c5_ c6_ c7_;generalize w4.alloc (.cells (Jk v).toArray 61)=w5 at *
   generalize w4.heap.size=vb at *
   have HF:Hid (∀ W,W=(((((w5.setCell ⟨ob,1,Ac⟩ (J Ab (a.waits+v.waits))).setCell ⟨ob,2,Ac⟩ (J Ab (a.ready+v.ready))).setCell ⟨ob,3,Ac⟩ (J Ab (a.runs+v.runs))).setCell ⟨ob,4,Ac⟩ (J Ab (a.done+v.done))).setCell ⟨ob,5,Ac⟩ (J Ab (a.failed+v.failed))).setCell ⟨ob,6,Ac⟩ (J Ab (a.left+v.left)) ->
     DBox ob (Jk (Agc a v)) W/\Chg [ob] w2 W):=by
    rintro W rfl;exact ⟨(((((OB.put 1 Bn _).put 2 Bn _).put 3 Bn _).put 4 Bn _).put 5 Bn _).put 6 Bn _,
     hc.setOwn.setOwn.setOwn.setOwn.setOwn.setOwn⟩
   have k1:Ab.wrap (a.waits+v.waits)=a.waits+v.waits:=Ar _ Bl;have k2:Ab.wrap (a.ready+v.ready)=a.ready+v.ready:=Ar _ Bl;have k3:Ab.wrap (a.runs+v.runs)=a.runs+v.runs:=Ar _ Bl;have k4:Ab.wrap (a.done+v.done)=a.done+v.done:=Ar _ Bl;have k5:Ab.wrap (a.failed+v.failed)=a.failed+v.failed:=Ar _ Bl;have k6:Ab.wrap (a.left+v.left)=a.left+v.left:=Ar _ Bl;have OB_:=OB.g7;have of_:=OB.free;have VB_:=VB.g7;go_wp2;have HG:=HF.out _ rfl;first
    | exact ⟨⟨k+1,Bl,by go_num,by rw [S.out];exact HG.1,HG.2⟩,clM⟩
    | (refine ⟨?_,clM⟩;(repeat apply Exists.intro);refine ⟨?_,clR⟩;exact ⟨k+1,Bl,by go_num,by rw [S.out];exact HG.1,HG.2⟩)
  ·have aC:¬ (k:Int)<(y.runs.length:Int):=Bl;have bE:k=y.runs.length:=Bl;subst bE;replace RES:=RES.chg hc (fun hx=>by have:=Aw.1 hx;omega);generalize hv:Hv y y.runs.length=v at *
   have HV:=Bq hv;clear hv;have OB_:=OB.g7;have RES_:=RES.g7;have rf:=RES.free;have HF:Hid (∀ W,W=((((((wr.setCell ⟨w+1,0,Ac⟩ (J Ab v.state)).setCell ⟨w+1,1,Ac⟩ (J Ab v.waits)).setCell ⟨w+1,2,Ac⟩ (J Ab v.ready)).setCell ⟨w+1,3,Ac⟩ (J Ab v.runs)).setCell ⟨w+1,4,Ac⟩ (J Ab v.done)).setCell ⟨w+1,5,Ac⟩ (J Ab v.failed)).setCell ⟨w+1,6,Ac⟩ (J Ab v.left) ->
     DBox (w+1) (Jk v) W/\Below w w W):=by
    rintro W rfl;exact ⟨((((((RES.put 0 Bn _).put 1 Bn _).put 2 Bn _).put 3 Bn _).put 4 Bn _).put 5 Bn _).put 6 Bn _,
     ((((((hB.setCell Bn _).setCell Bn _).setCell Bn _).setCell Bn _).setCell Bn _).setCell Bn _).setCell Bn _⟩
   go_wp2;have HG:=HF.out _ rfl;exact Ak (Aen HG.1) rfl ⟨by rw [HV.out],HG.2⟩
theorem Agd:(An.info? 3).map (fun i=>(i.zero,i.size,i.bytes))=Ad (Ad (J Ab 0),1,8):=Bm
theorem Wu (d:Deed) (s:Sl) (w:World) (h:Fb.rd w w d s) :
  Calls An 91 #[Dw d s] w fun e w'=>e = .returned (.bool (Dq d))/\Below w w w':=by
 cases a0:inB d.kind 1 8;case true =>
  have:d.kind=1\/d.kind=2\/d.kind=3\/d.kind=4\/d.kind=5\/d.kind=6\/d.kind=7\/d.kind=8:=by
   simp [inB] at a0;omega
  rcases this with e | e | e | e | e | e | e | e
  ·exact Ack d s w e h
  ·exact Acl d s w e h
  ·exact Acm d s w e h
  ·exact Acn d s w e h
  ·exact Aco d s w e h
  ·exact Acq d s w e h
  ·exact Acr d s w e h
  ·exact Acp d s w e h
 have H:=Bq (show Dq d=false by simp [Dq,a0]);clear h;obtain ⟨A,n,c⟩:=s;obtain ⟨kd,rn,p,tk,ty,wk,dr⟩:=d;replace a0:inB kd 1 8=false:=a0;have X:=DBox.new 45 [J Ab kd,J Ab rn,J Ab p.prio,J Ab p.most,J Ab p.wait,J Ab p.tasks,Aa A n c,J Ab tk,J Ab ty,J Ab wk,J Ab dr] w (b:=w) rfl;have B0:Below w w (w.alloc (.cells #[J Ab kd,J Ab rn,J Ab p.prio,J Ab p.most,J Ab p.wait,J Ab p.tasks,Aa A n c,J Ab tk,J Ab ty,J Ab wk,J Ab dr] 45)):=by repeat (first | exact Br _ _ | refine Af ?_ Bo _)
 go_enter func91,ntmps91;go_wp2_with (go_at_call 90;refine (Cl _ _ _ _).mono ?_;rintro e w9 ⟨rfl,rfl⟩;(try (with_reducible rw [a0]));dsimp only)
 go_ret;exact ⟨Bx H.out.symm,B0⟩
def Ie (l:List Edge):List Int:=l.flatMap fun e=>[e.fr,e.to]
def E9 (d:Deed):List Int :=
 if d.kind=1 then [d.run,d.plan.prio,d.plan.most,d.plan.wait,d.plan.tasks,d.plan.edges.length] ++ Ie d.plan.edges
 else if d.kind=2 then [d.worker,d.draw]
 else if d.kind=3\/d.kind=4 then [d.run,d.task,d.try_]
 else if d.kind=6\/d.kind=7 then [d.run]
 else []
theorem Sa (l:List Edge):(Ie l).length=2 * l.length:=by
 induction l with
 | nil=>rfl
 | cons a l ih =>
  rw [show Ie (a :: l)=[a.fr,a.to] ++ Ie l from rfl,Bd,List.length_cons,ih];simp;omega
theorem Yw (l:List Edge) (k:Nat) (h:k<l.length):Ie (l.take (k+1))=Ie (l.take k) ++ [l[k].fr,l[k].to]:=by
 rw [List.take_succ_eq_append_getElem h];simp only [Ie,List.flatMap_append,List.flatMap_cons,List.flatMap_nil,List.append_nil]
theorem Yx (d:Deed):(E9 d).length<=6+2 * d.plan.edges.length:=by
 unfold E9;split
 ·rw [Bd,Sa];simp
 split
 ·simp;omega
 split
 ·simp;omega
 split<;>(simp;try omega)
theorem Age (l:List Int):l.flatMap Ii.cells=l.map (Value.int .i64):=by
 induction l with
 | nil=>rfl
 | cons a l ih=>rw [List.flatMap_cons,ih];rfl
theorem Ow.ints (w:World) (E:TypeId) (l:List Int) {cs:Array Value} (mW:cs=(l.map (Value.int .i64)).toArray) {n g base:Nat} (hn:n=l.length) (hg:g=w) (hb:base<=w.heap.size) (hl:l.length<=1000) :
  Ow Ii E (w.alloc (.cells cs E)) base (Aa (Ad ⟨g,0,Ac⟩) n n) l:=by
 subst hn hg mW
 have:=World.ownsRow_lit (base:=base) (e:=E) (size:=Ii.sz) w (l.map (Value.int .i64)).toArray l.length hb (by simp [maxLen];omega) (by simp [Ii])
 unfold Ow;rw [Age];exact this
theorem U7 (d:Deed) (s:Sl) (w:World) (hl:d.plan.edges.length<=1000000) (h:Fb.rd w w d s) :
  Calls An 125 #[Dw d s] w fun e w'=>∃ v,e = .returned v/\Ow Ii 3 w' w v (E9 d)/\Below w w w':=by
 obtain ⟨i0,aQ,aW,aU,aR⟩:=info_parts Agd;obtain ⟨A,n,c⟩:=s;obtain ⟨kd,rn,p,tk,ty,wk,dr⟩:=d;replace hl:p.edges.length<=1000000:=hl;have h0:Ck.rd w w p ⟨A,n,c⟩:=h;obtain rfl:n=p.edges.length:=RdL.at1 (s:=⟨A,n,c⟩) h0;have h2:Rd Gd w w (Aa A p.edges.length c) p.edges:=Ja h0;clear h h0;have X:=DBox.new 45 [J Ab kd,J Ab rn,J Ab p.prio,J Ab p.most,J Ab p.wait,J Ab p.tasks,Aa A p.edges.length c,J Ab tk,J Ab ty,J Ab wk,J Ab dr] w (b:=w) rfl;have B0:Below w w (w.alloc (.cells #[J Ab kd,J Ab rn,J Ab p.prio,J Ab p.most,J Ab p.wait,J Ab p.tasks,Aa A p.edges.length c,J Ab tk,J Ab ty,J Ab wk,J Ab dr] 45)):=by repeat (first | exact Br _ _ | refine Af ?_ Bo _)
 by_cases k2:kd=2
 ·have H:=Bq (show E9 ⟨kd,rn,p,tk,ty,wk,dr⟩=[wk,dr] by simp [E9,k2]);rw [H.out];clear H;subst k2;go_enter func125,ntmps125;go_wp2;go_ret;exact ⟨_,rfl,Ow.ints _ _ _ rfl rfl Bn B0.size Bn,B0.alloc B0.size _⟩
 by_cases k3:kd=3
 ·have H:=Bq (show E9 ⟨kd,rn,p,tk,ty,wk,dr⟩=[rn,tk,ty] by simp [E9,k3]);rw [H.out];clear H;subst k3;go_enter func125,ntmps125;go_wp2;go_ret;exact ⟨_,rfl,Ow.ints _ _ _ rfl rfl Bn B0.size Bn,B0.alloc B0.size _⟩
 by_cases k4:kd=4
 ·have H:=Bq (show E9 ⟨kd,rn,p,tk,ty,wk,dr⟩=[rn,tk,ty] by simp [E9,k4]);rw [H.out];clear H;subst k4;go_enter func125,ntmps125;go_wp2;go_ret;exact ⟨_,rfl,Ow.ints _ _ _ rfl rfl Bn B0.size Bn,B0.alloc B0.size _⟩
 by_cases k6:kd=6
 ·have H:=Bq (show E9 ⟨kd,rn,p,tk,ty,wk,dr⟩=[rn] by simp [E9,k6]);rw [H.out];clear H;subst k6;go_enter func125,ntmps125;go_wp2;go_ret;exact ⟨_,rfl,Ow.ints _ _ _ rfl rfl Bn B0.size Bn,B0.alloc B0.size _⟩
 by_cases k7:kd=7
 ·have H:=Bq (show E9 ⟨kd,rn,p,tk,ty,wk,dr⟩=[rn] by simp [E9,k7]);rw [H.out];clear H;subst k7;go_enter func125,ntmps125;go_wp2;go_ret;exact ⟨_,rfl,Ow.ints _ _ _ rfl rfl Bn B0.size Bn,B0.alloc B0.size _⟩
 by_cases k1:kd=1;case neg =>
  have H:=Bq (show E9 ⟨kd,rn,p,tk,ty,wk,dr⟩=[] by simp [E9,k1,k2,k3,k4,k6,k7]);rw [H.out];clear H;have b1:(kd == 1)=false:=beq_eq_false_iff_ne.2 k1;have b2:(kd == 2)=false:=beq_eq_false_iff_ne.2 k2;have b3:(kd == 3)=false:=beq_eq_false_iff_ne.2 k3;have b4:(kd == 4)=false:=beq_eq_false_iff_ne.2 k4;have b6:(kd == 6)=false:=beq_eq_false_iff_ne.2 k6;have b7:(kd == 7)=false:=beq_eq_false_iff_ne.2 k7;clear k1 k2 k3 k4 k6 k7;go_enter func125,ntmps125;go_wp2;go_ret;exact ⟨_,rfl,Ow.nil _ _ _ _,B0⟩
 clear k2 k3 k4 k6 k7;have H:=Bq (show ∀ k,p.edges.length<=k->E9 ⟨kd,rn,p,tk,ty,wk,dr⟩=[rn,p.prio,p.most,p.wait,p.tasks,p.edges.length] ++ Ie (p.edges.take k) from fun k hk=>by simp [E9,k1,Bg hk]);subst k1;go_enter func125,ntmps125;go_wp2;generalize Dw (⟨1,rn,p,tk,ty,wk,dr⟩:Deed) (⟨A,p.edges.length,c⟩:Sl)=dv;clear X;go_loopw [3,33] (fun vl i wr=>∃ (k:Nat) (v:Value),v=vl/\k<=p.edges.length/\i = J Ab k/\Hid (Ow Ii 3 wr w v ([rn,p.prio,p.most,p.wait,p.tasks,p.edges.length] ++ Ie (p.edges.take k)))/\Below w w wr) (fun _ i _=>p.edges.length - (intOf i).toNat);case atStart=>exact ⟨0,_,rfl,Ah _,rfl,Ow.ints _ _ _ rfl rfl Bn B0.size (by simp [Ie]),B0.alloc B0.size _⟩
 case round =>
  clear B0;obtain ⟨k,v,rfl,hk,rfl,hO,hb⟩:=hrel;by_cases aB:k<p.edges.length
  ·have aC:(k:Int)<(p.edges.length:Int):=Bl;obtain ⟨b,o,rfl,aH,d0,d1⟩:=(h2.below hb).edge aB;have HT:=Bq (Yw p.edges k aB);have HL:=Sa (p.edges.take k);rw [A0] at HL;generalize p.edges[k].fr=fx at *
   generalize p.edges[k].to=tx at *
   have ha:Hid (∀ w:World,Below w w ((w.alloc (.cells #[J Ab fx,J Ab tx] 206)).alloc (.cells #[J Ab fx,J Ab tx] 3))):=fun w=>(Bt).alloc Bn _;generalize Ie (p.edges.take k)=L at *
   go_wp2_with (at_builtin;refine Cj _ Ii Bp rfl (.tmp 37) (.tmp 42) rfl underlying26 aQ aW aU aR rfl (v:=v) (l:=[rn,p.prio,p.most,p.wait,p.tasks,p.edges.length] ++ L) rfl (hO.out.below (ha.out wr)) rfl (Rd.of_own (Ow.ints _ _ [fx,tx] rfl Bn Bn (Bs _) Bn)) (by simp;omega) Bn Bp (by simp;have:=hb.size;omega) ?_;intro v5 w5 o5 g5 _)
   have bH:=Bv hb (ha.out wr);have W5:=bH.grown g5 bH.size (fun g hg=>(hO.out.within g hg).1);refine ⟨⟨k+1,_,rfl,Bl,by go_num,?_,W5⟩,clM⟩;rw [HT.out,<-List.append_assoc];exact o5
  ·have aC:¬ (k:Int)<(p.edges.length:Int):=Bl;have HO:=hO.out;rw [<-H.out k Bl] at HO;clear H hO;obtain ⟨A9,c9,rfl,-⟩:=id (Rd.of_own HO);go_wp2;go_ret;exact ⟨_,rfl,HO,hb⟩
def Kp (y:Yard):Prop:=y.shelf.length=4/\(∀ l∈y.shelf,Iz l)/\(∀ e∈Ci y,1<=e.seq/\e.seq<=y.seq - 1)/\((Ci y).map (·.seq)).Nodup
theorem Aeo {y:Yard} (h3:y.shelf.length=4) (h4:∀ k (hk:k<y.shelf.length),Iz y.shelf[k]) (h5:Nz y.seq (Ci y) (Ci y).length):Kp y:=by
 refine ⟨h3,fun l hl=>?_,fun e he=>?_,T8 (fun j hj=>(h5 j hj hj).2)⟩
 ·obtain ⟨k,hk,rfl⟩:=List.getElem_of_mem hl;exact h4 k hk
 ·obtain ⟨k,hk,rfl⟩:=List.getElem_of_mem he;exact (h5 k hk hk).1
theorem Aau {y:Yard} (h:Kp y) {k:Nat} (hk:k<=(Ci y).length):Nz y.seq (Ci y) k:=fun j hj _ =>
 ⟨h.2.2.1 _ (Ax hj),T9 h.2.2.2 (fun e he=>(h.2.2.1 e he).1) hj⟩
def Aav (l:List Entry) (k m:Nat):Prop:=∀ j (hj:j<l.length) (hk:k<l.length),j<m->l[j].seq≠l[k].seq
theorem Acu {l:List Entry} {k:Nat} (hk:k<l.length) (h:Aav l k k) (hp:∀ j (hj:j<l.length),j<=k->1<=l[j].seq):l[k].seq.toNat∉Jj l k:=by
 intro hm;unfold Jj at hm;obtain ⟨x,hx,he⟩:=List.mem_map.1 hm;obtain ⟨j,hj,rfl⟩:=List.getElem_of_mem hx;rw [A0] at hj;rw [List.getElem_take] at he;have h1:=hp j Bl Bl;have h2:=hp k hk (Bs _);exact h j Bl hk Bl Bl
theorem U8 (y:Yard) (s:Sl×Sl) (w:World) (hl:Cf y<=2000000) (hq:1<=y.seq/\y.seq<=1000000000) (h:Bu.rd w w y s) :
  Calls An 233 #[Dh y s] w fun e w'=>e = .returned (.bool (tf (Kp y)))/\Below w w w':=by
 have HR:=Bq (show ∀ W,Below w w W->Bu.rd W W y s from fun W hW=>Bu.rd_more (Bu.rd_below h hW) hW.size);obtain ⟨⟨A1,n1,c1⟩,⟨A2,n2,c2⟩⟩:=s;obtain rfl:n1=y.shelf.length:=RdL.at1 (s:=⟨A1,n1,c1⟩) h.1;have h1:RdL (Dt.list Ch) w w (Aa A1 y.shelf.length c1) y.shelf:=h.1;have hls:y.shelf.length<=2000000:=Ai (Cv Dp _) (by unfold Cf at hl;omega);have HE:=Bq (show ∀ k (hk:k<y.shelf.length),y.shelf[k].length<=2000000 from fun k hk=>by
  have:=Gw (cnt:=Dp) (Ax hk)
  have h2:y.shelf[k].length<=Dp y.shelf[k]:=Cv Kk _;unfold Cf at hl;omega)
 have HEn:=Bq (show (Ci y).length<=2000000 by
  have:=I0 y.shelf y.shelf.length
  rw [List.take_length] at this;unfold Cf at hl;unfold Ci;omega)
 clear h;have X:=DBox.new 31 [J Ab y.now,J Ab y.seq,Aa A1 y.shelf.length c1,Aa A2 n2 c2] w (b:=w) rfl;have B0:Below w w (w.alloc (.cells #[J Ab y.now,J Ab y.seq,Aa A1 y.shelf.length c1,Aa A2 n2 c2] 31)):=by repeat (first | exact Br _ _ | refine Af ?_ Bo _)
 by_cases a3:y.shelf.length=4;case neg =>
  have a3':((y.shelf.length:Int) != 4)=true:=by simp;omega
  have H:=Bq (Cm (show ¬ Kp y from fun h=>a3 h.1));clear a3;go_enter func233,ntmps233;go_wp2;go_ret;exact ⟨Bx H.out.symm,B0⟩
 have a3':((y.shelf.length:Int) != 4)=false:=by simp [a3]
 have A3_:=Bq a3;clear a3;go_enter func233,ntmps233;go_wp2;generalize (w.alloc (.cells #[J Ab y.now,J Ab y.seq,Aa A1 y.shelf.length c1,Aa A2 n2 c2] 31))=W at *
 clear a3';go_loopw [3] (fun i wr=>∃ k:Nat,k<=y.shelf.length/\i = J Ab k/\Hid (∀ j (hj:j<y.shelf.length),j<k->Iz y.shelf[j])/\Below W W wr) (fun i _=>y.shelf.length - (intOf i).toNat);case atStart=>exact ⟨0,Ah _,rfl,fun j _ h0=>absurd h0 Bl,Br _ _⟩
 case round =>
  obtain ⟨k,hk,rfl,aY,hb⟩:=hrel;replace X:=X.below hb;replace B0:=Bv B0 hb;obtain ⟨X_0,X_1,X_2,X_3,X_l⟩:=X.g4;by_cases aB:k<y.shelf.length
  ·have aC:(k:Int)<(y.shelf.length:Int):=Bl;obtain ⟨b,o,⟨As,ns,cs⟩,mF,aH,hr,d0⟩:=(h1.below B0).entryS aB;obtain rfl:ns=y.shelf[k].length:=RdL.at1 (s:=⟨As,ns,cs⟩) hr;subst mF;have C:=U3 y.shelf[k] ⟨As,y.shelf[k].length,cs⟩ wr (HE.out k aB) (hr.more B0.size);by_cases q:Iz y.shelf[k]
   ·have S:Hid (∀ j (hj:j<y.shelf.length),j<k+1->Iz y.shelf[j]):=fun j hj fM=>by
     by_cases e:j=k
     ·subst e;exact q
     ·exact aY.out j hj Bl
    rw [Ds q] at C;clear q;go_wp2_with fail
    refine C.mono ?_;rintro e w2 ⟨rfl,b2⟩;go_wp2;first
     | exact ⟨⟨k+1,Bl,by go_num,S,Bv hb b2⟩,clM⟩
     | (refine ⟨?_,clM⟩;(repeat apply Exists.intro);refine ⟨?_,clR⟩;exact ⟨k+1,Bl,by go_num,S,Bv hb b2⟩)
   ·have H:=Bq (Cm (show ¬ Kp y from fun h=>q (h.2.1 _ (Ax aB))));rw [Cm q] at C;clear q;go_wp2_with fail
    refine C.mono ?_;rintro e w2 ⟨rfl,b2⟩;go_wp2;go_ret;exact ⟨Bx H.out.symm,Bv B0 b2⟩
  ·have aC:¬ (k:Int)<(y.shelf.length:Int):=Bl;have HS:Hid (∀ k (hk:k<y.shelf.length),Iz y.shelf[k]):=fun j hj=>aY.out j hj Bl;have C:=Ln y (⟨A1,y.shelf.length,c1⟩,⟨A2,n2,c2⟩) wr hl (HR.out _ B0);go_wp2_with fail
   refine C.mono ?_;rintro e w2 ⟨v,rfl,o2,b2⟩;replace X:=X.below b2;replace B0:=Bv B0 b2;clear X_0 X_1 X_2 X_3 X_l aY aB aC hb;have O2:=Rd.of_own o2;clear o2;obtain ⟨A3,c3,rfl,-⟩:=id O2;have qK:=HEn.out;go_wp2;go_loopw [5] (fun i wr=>∃ k:Nat,k<=(Ci y).length/\i = J Ab k/\Hid (Nz y.seq (Ci y) k)/\Below w2 w2 wr) (fun i _=>(Ci y).length - (intOf i).toNat);case atStart=>exact ⟨0,Ah _,rfl,fun j _ h0=>absurd h0 Bl,Br _ _⟩
   case round =>
    obtain ⟨k,hk,rfl,aY,hb⟩:=hrel;have X1:=X.below hb;obtain ⟨X1_0,X1_1,X1_2,X1_3,X1_l⟩:=X1.g4;by_cases aB:k<(Ci y).length
    ·have aC:(k:Int)<((Ci y).length:Int):=Bl;obtain ⟨b,o,_,fC,aH,_,d0,d1,d2,d3⟩:=RdL.entry (Js (O2.below hb)) aB;subst fC;have bG:b<wr:=Aj aH hb.size;have w1':Ab.wrap (y.seq - 1)=y.seq - 1:=Ar _ Bl;have aN:=Df wr;have B1:=Bv B0 hb;cases q1:inB (Ci y)[k].seq 1 (y.seq - 1)
     ·have H:=Bq (Cm (show ¬ Kp y from fun h=>by
       have:=Ct.2 (h.2.2.1 _ (Ax aB))
       rw [q1] at this;cases this))
      go_wp2;refine Bz Bm Bm ?_;repeat (go_big_quiet_step ((go_at_call 90;exact Dy (fun u=>Cl _ _ _ u.1))))
      refine wpQuiet_nil ?_;rintro _ ⟨⟨w3,b3⟩,rfl⟩;clear aN;go_wp2;go_ret;exact ⟨Bx H.out.symm,Bv B1 b3⟩
     have HQ:=Bq (Ct.1 q1);go_wp2;refine Bz Bm Bm ?_;repeat (go_big_quiet_step ((go_at_call 90;exact Dy (fun u=>Cl _ _ _ u.1))))
     refine wpQuiet_nil ?_;rintro _ ⟨⟨w3,b3⟩,rfl⟩;clear aN;go_wp2;clear d0 d1 d2 d3 bG X1_0 X1_1 X1_2 X1_3 X1_l X1 q1 w1';go_loopw [6] (fun i wq=>∃ m:Nat,m<=k/\i = J Ab m/\Hid (Aav (Ci y) k m)/\Below wr wr wq) (fun i _=>k - (intOf i).toNat);case atStart=>exact ⟨0,Ah _,rfl,fun j _ _ h0=>absurd h0 Bl,b3⟩
     case round =>
      obtain ⟨m,hm,rfl,bY,cL⟩:=hrel;by_cases pK:m<k
      ·have mL:(m:Int)<(k:Int):=Bl;obtain ⟨b',o',_,bW,bS,_,d0,d1,d2,d3⟩:=RdL.entry (Js (O2.below (Bv hb cL))) aB;simp only [Option.some.injEq,Addr.mk.injEq,and_true] at bW;obtain ⟨rfl,rfl⟩:=bW;obtain ⟨b',o',_,bW,_,_,f0,f1,f2,f3⟩:=RdL.entry (Js (O2.below (Bv hb cL))) (show m<(Ci y).length by omega);simp only [Option.some.injEq,Addr.mk.injEq,and_true] at bW;obtain ⟨rfl,rfl⟩:=bW;have hmJ:(m:Int)<((Ci y).length:Int):=Bl;have cN:=cL.size;by_cases q2:(Ci y)[m].seq=(Ci y)[k].seq
       ·have H:=Bq (Cm (show ¬ Kp y from fun h=>by
         have h3:=List.pairwise_iff_getElem.1 h.2.2.2 m k (by rw [Au];omega) (by rw [Au];omega) Bl;rw [List.getElem_map,List.getElem_map] at h3;exact h3 q2))
        have q2':((Ci y)[m].seq == (Ci y)[k].seq)=true:=beq_iff_eq.2 q2;clear q2;go_wp2;go_quiet (fail);go_wp2;go_ret;exact ⟨Bx H.out.symm,Du (Bv B1 cL) _⟩
       ·have S:Hid (Aav (Ci y) k (m+1)):=fun j hj bE hjm=>by
         by_cases e:j=m
         ·subst e;exact q2
         ·exact bY.out j hj bE Bl
        have q2':((Ci y)[m].seq == (Ci y)[k].seq)=false:=beq_eq_false_iff_ne.2 q2;clear q2;go_wp2;go_quiet (fail);go_wp2;first
         | exact ⟨⟨m+1,Bl,by go_num,S,Du cL _⟩,clM⟩
         | (refine ⟨?_,clM⟩;(repeat apply Exists.intro);refine ⟨?_,clR⟩;exact ⟨m+1,Bl,by go_num,S,Du cL _⟩)
      ·have mL:¬ (m:Int)<(k:Int):=Bl;have S:Hid (Nz y.seq (Ci y) (k+1)):=Zr aY.out aB (Ct.2 HQ.out) (Acu aB (fun j hj bE hjm=>bY.out j hj bE Bl) (fun j hj fM=>by
        by_cases e:j=k
        ·subst e;exact HQ.out.1
        ·exact (aY.out j hj Bl).1.1))
       go_wp2;first
        | exact ⟨⟨k+1,Bl,by go_num,S,Bv hb cL⟩,clM⟩
        | (refine ⟨?_,clM⟩;(repeat apply Exists.intro);refine ⟨?_,clR⟩;exact ⟨k+1,Bl,by go_num,S,Bv hb cL⟩)
    ·have aC:¬ (k:Int)<((Ci y).length:Int):=Bl;have H:=Bq (Ds (Aeo A3_.out HS.out (fun j hj hj2=>aY.out j hj Bl)));go_wp2;go_ret;exact ⟨Bx H.out.symm,Bv B0 hb⟩
end Go.Proofs.YtecnbnbopcblgaaGreat
