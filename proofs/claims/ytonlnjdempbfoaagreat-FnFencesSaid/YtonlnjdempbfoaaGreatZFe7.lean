/-
  Yards that are right: the program's walk.  Deeds at a yard: the plain words. slices.IndexFunc and slices.DeleteFunc at entries, with any closure over one variab
-/
import Derived.Test.YtonlnjdempbfoaaGreatZFe0
import Derived.Test.YtonlnjdempbfoaaGreatZFe1
import Derived.Test.YtonlnjdempbfoaaGreatZFe3
import Derived.Test.YtonlnjdempbfoaaGreatZFe4
import Derived.Test.YtonlnjdempbfoaaGreatZFe5
import Derived.Test.YtonlnjdempbfoaaGreatZFe6
namespace Go.Proofs.YtonlnjdempbfoaaGreat
open Go.RowKit
set_option maxRecDepth 100000
set_option maxHeartbeats 4000000
set_option linter.unusedVariables false
set_option linter.unusedSimpArgs false
open Value renaming int->J,slice->Aa
open IntKind renaming i64->U
open Option renaming none->Ab,some->Ac
open Below renaming setCell->Ad,alloc->Ae
open Nat renaming zero_le->Ag,le_trans->Ah,lt_of_lt_of_le->Ai
open Go renaming bodyPost_ret->Aj,wpQuiet_nil->Ak,wpAnyH_done->Al
open Go.Proofs.Tryz renaming prog->An
open IntWalk renaming i64_in->Ar
open List renaming length_map->Au,getElem_mem->Aw,length_take->Az
def Ia (l:List Entry) (k:Nat):List Nat:=(l.take k).map fun e=>e.seq.toNat
theorem Ve (l:List Entry) (k:Nat) (hk:k<l.length):Ia l (k+1)=Ia l k ++ [l[k].seq.toNat]:=by
 unfold Ia;rw [Dc l k hk,List.map_append];rfl
theorem Ade (l:List Entry) (k:Nat):(Ia l k).length<=k:=by
 unfold Ia;rw [Au,Az];omega
theorem Sd {l:List Entry} (h:∀ j (hj:j<l.length),l[j].seq.toNat∉Ia l j):(l.map (·.seq)).Nodup:=by
 have:∀ k,k<=l.length->(Ia l k).Nodup:=by
  intro k;induction k with
  | zero=>intro _;simp [Ia]
  | succ k ih =>
   intro hk;rw [Ve l k Bk,List.nodup_append];refine ⟨ih Bk,Bm,fun a ha b hb e=>?_⟩;have bE:b=l[k].seq.toNat:=by simpa using hb
   subst bE;subst e;exact h k Bk ha
 have h2:=this l.length (Br _);unfold Ia at h2;rw [List.take_length] at h2;have e:(l.map fun e=>e.seq.toNat)=(l.map (·.seq)).map Int.toNat:=by rw [List.map_map];rfl
 rw [e] at h2;exact List.Pairwise.of_map _ (fun a b aC e=>aC (by rw [e])) h2
theorem Se {l:List Entry} (h:(l.map (·.seq)).Nodup) (hp:∀ e∈l,1<=e.seq) {k:Nat} (hk:k<l.length):l[k].seq.toNat∉Ia l k:=by
 intro hm;unfold Ia at hm;obtain ⟨x,hx,he⟩:=List.mem_map.1 hm;obtain ⟨j,hj,rfl⟩:=List.getElem_of_mem hx;rw [Az] at hj;rw [List.getElem_take] at he;have h1:=hp _ (Aw (show j<l.length by omega));have h2:=hp _ (Aw hk);have e:l[j].seq=l[k].seq:=Bk;have h3:=List.pairwise_iff_getElem.1 h j k (by rw [Au];omega) (by rw [Au];omega) Bk;rw [List.getElem_map,List.getElem_map] at h3;exact h3 e
theorem Ack {p:Plan} (h:Cr p=0):1<=p.wait/\p.wait<=20:=by
 have:=(C8.1 h).1
 simp only [D7,Bool.and_eq_true] at this;exact Cp.1 this.2
def Ms (q:Int) (l:List Entry) (k:Nat):Prop:=∀ j (hj:j<l.length),j<k->(1<=l[j].seq/\l[j].seq<=q - 1)/\l[j].seq.toNat∉Ia l j
theorem W9 {q:Int} {l:List Entry} {k:Nat} (h:Ms q l k) (hk:k<l.length) (h1:inB l[k].seq 1 (q - 1)=true) (h2:l[k].seq.toNat∉Ia l k):Ms q l (k+1):=by
 intro j hj dN;by_cases e:j=k
 ·subst e;exact ⟨Cp.1 h1,h2⟩
 ·exact h j hj Bk
theorem Adf {y:Yard} {k:Nat} (hk:k<(Ce y).length) (h1:inB (Ce y)[k].seq 1 (y.seq - 1)=false):¬ Dn y:=by
 intro h
 have:=Cp.2 (h.2.2.2.2.1 _ (Aw hk))
 rw [h1] at this;cases this
theorem Adg {y:Yard} {k:Nat} (hk:k<(Ce y).length) (h1:(Ce y)[k].seq.toNat∈Ia (Ce y) k):¬ Dn y:=fun h =>
 Se h.2.2.2.2.2.1 (fun e he=>(h.2.2.2.2.1 e he).1) hk h1
def Jn (y:Yard) (k:Nat):Prop:=∀ j (hj:j<y.runs.length),j<k->Gg y.runs[j]/\Dh y y.runs[j].id=j/\Jk y.now y.runs[j] (Ce y)
theorem Adh {y:Yard} {k:Nat} (h:Jn y k) (hk:k<y.runs.length) (h1:Gg y.runs[k]) (h2:Dh y y.runs[k].id=k) (h3:Jk y.now y.runs[k] (Ce y)):Jn y (k+1):=by
 intro j hj dN;by_cases e:j=k
 ·subst e;exact ⟨h1,h2,h3⟩
 ·exact h j hj Bk
theorem Acl {y:Yard} (h1:inB y.now 0 999999980=true) (h2:inB y.seq 1 1000000000=true) (h3:y.shelf.length=4) (h4:∀ k (hk:k<y.shelf.length),Hk y.shelf[k]) (h5:Ms y.seq (Ce y) (Ce y).length) (h6:y.runs.length<=8) (h7:Jn y y.runs.length) :
  Dn y ↔ Gt y<=40:=by
 constructor
 ·intro h;exact h.2.2.2.2.2.2.2.2.2
 ·intro h;refine ⟨Cp.1 h1,Cp.1 h2,h3,fun l hl=>?_,fun e he=>?_,Sd (fun j hj=>(h5 j hj hj).2),h6,fun k hk=>⟨(h7 k hk hk).1,(h7 k hk hk).2.1⟩,fun r hr=>?_,h⟩
  ·obtain ⟨k,hk,rfl⟩:=List.getElem_of_mem hl;exact h4 k hk
  ·obtain ⟨k,hk,rfl⟩:=List.getElem_of_mem he;exact (h5 k hk hk).1
  ·obtain ⟨k,hk,rfl⟩:=List.getElem_of_mem hr;exact (h7 k hk hk).2.2
theorem Vf (y:Yard) (s:Sl×Sl) (w:World) (hl:Ci y<=2000000) (h:Bu.rd w w y s) :
  Calls An 57 #[Du y s] w fun e w'=>e = .returned (.bool (tf (Dn y)))/\Below w w w':=by
 have HR:=Bp (show ∀ W,Below w w W->Bu.rd W W y s from fun W hW=>Bu.rd_more (Bu.rd_below h hW) hW.size);obtain ⟨⟨A1,n1,c1⟩,⟨A2,n2,c2⟩⟩:=s;obtain rfl:n1=y.shelf.length:=RdL.at1 (s:=⟨A1,n1,c1⟩) h.1;obtain rfl:n2=y.runs.length:=RdL.at1 (s:=⟨A2,n2,c2⟩) h.2;have h1:RdL (Dt.list Cg) w w (.slice A1 y.shelf.length c1) y.shelf:=h.1;have h2:RdL Co w w (.slice A2 y.runs.length c2) y.runs:=h.2;have eD:y.runs.length<=2000000:=Ah (Ct C9 _) (by unfold Ci at hl;omega);have hls:y.shelf.length<=2000000:=Ah (Ct De _) (by unfold Ci at hl;omega);have HE:=Bp (show ∀ k (hk:k<y.shelf.length),y.shelf[k].length<=2000000 from fun k hk=>by
  have:=Fk (cnt:=De) (Aw hk)
  have h2:y.shelf[k].length<=De y.shelf[k]:=Ct I6 _;unfold Ci at hl;omega)
 have HC:=Bp (show ∀ k (hk:k<y.runs.length),C9 y.runs[k]<=2000000 from fun k hk=>by
  have:=Fk (cnt:=C9) (Aw hk)
  unfold Ci at hl;omega)
 have HEn:=Bp (show (Ce y).length<=2000000 by
  have:=Hn y.shelf y.shelf.length
  rw [List.take_length] at this;unfold Ci at hl;unfold Ce;omega)
 have mZ:=Zn hl;clear h;have X:=DBox.new 31 [.int .i64 y.now,.int .i64 y.seq,.slice A1 y.shelf.length c1,.slice A2 y.runs.length c2] w (b:=w.heap.size) rfl;have B0:Below w w (w.alloc (.cells #[.int .i64 y.now,.int .i64 y.seq,.slice A1 y.shelf.length c1,.slice A2 y.runs.length c2] 31)):=by repeat (first | exact Bq _ _ | refine Ae ?_ Bn _)
 cases a1:inB y.now 0 999999980;case false =>
  have H:=Bp (Ck (show ¬ Dn y from fun h=>by have:=Cp.2 h.1;rw [a1] at this;cases this));go_enter Tryz.func57,Tryz.ntmps57;go_wp2_with (go_at_call 58;refine (Cs _ _ _ _).mono ?_;rintro e w' ⟨rfl,rfl⟩)
  go_ret;exact ⟨Bw H.out.symm,B0⟩
 cases a2:inB y.seq 1 1000000000;case false =>
  have H:=Bp (Ck (show ¬ Dn y from fun h=>by have:=Cp.2 h.2.1;rw [a2] at this;cases this));go_enter Tryz.func57,Tryz.ntmps57;go_wp2_with (go_at_call 58;refine (Cs _ _ _ _).mono ?_;rintro e w' ⟨rfl,rfl⟩)
  go_ret;exact ⟨Bw H.out.symm,B0⟩
 by_cases a3:y.shelf.length=4;case neg =>
  have a3':((y.shelf.length:Int) != 4)=true:=by simp;omega
  have H:=Bp (Ck (show ¬ Dn y from fun h=>a3 h.2.2.1));clear a3;go_enter Tryz.func57,Tryz.ntmps57;go_wp2_with (go_at_call 58;refine (Cs _ _ _ _).mono ?_;rintro e w' ⟨rfl,rfl⟩)
  go_ret;exact ⟨Bw H.out.symm,B0⟩
 have a3':((y.shelf.length:Int) != 4)=false:=by simp [a3]
 have A3_:=Bp a3;clear a3;by_cases a4:y.runs.length<=8;case neg =>
  have a4':(8:Int)<(y.runs.length:Int):=Bk;have H:=Bp (Ck (show ¬ Dn y from fun h=>a4 h.2.2.2.2.2.2.1));clear a4;go_enter Tryz.func57,Tryz.ntmps57;go_wp2_with (go_at_call 58;refine (Cs _ _ _ _).mono ?_;rintro e w' ⟨rfl,rfl⟩)
  go_ret;exact ⟨Bw H.out.symm,B0⟩
 have a4':¬ (8:Int)<(y.runs.length:Int):=Bk;have hqb:=Cp.1 a2;have sZ:=Cp.1 a1;go_enter Tryz.func57,Tryz.ntmps57;go_wp2_with (go_at_call 58;refine (Cs _ _ _ _).mono ?_;rintro e w' ⟨rfl,rfl⟩)
 generalize (w.alloc (.cells #[.int .i64 y.now,.int .i64 y.seq,.slice A1 y.shelf.length c1,.slice A2 y.runs.length c2] 31))=W at *
 have A1_:=Bp a1;have A2_:=Bp a2;clear a1 a2 a3' a4';go_loopw [36] (fun i wr=>∃ k:Nat,k<=y.shelf.length/\i = .int .i64 k/\Hid (∀ j (hj:j<y.shelf.length),j<k->Hk y.shelf[j])/\Below W W wr) (fun i _=>y.shelf.length - (intOf i).toNat);case atStart=>exact ⟨0,Ag _,rfl,fun j _ h0=>absurd h0 Bk,Bq _ _⟩
 case round =>
  obtain ⟨k,hk,rfl,aU,hb⟩:=hrel;replace X:=X.below hb;replace B0:=Bs B0 hb;by_cases aA:k<y.shelf.length
  ·have aB:(k:Int)<(y.shelf.length:Int):=Bk;obtain ⟨b,o,⟨As,ns,cs⟩,kE,aG,hr,d0⟩:=(h1.below B0).entryS aA;obtain rfl:ns=y.shelf[k].length:=RdL.at1 (s:=⟨As,ns,cs⟩) hr;subst kE;have C:=Td y.shelf[k] ⟨As,y.shelf[k].length,cs⟩ wr (HE.out k aA) (hr.more B0.size);by_cases q:Hk y.shelf[k]
   ·have S:Hid (∀ j (hj:j<y.shelf.length),j<k+1->Hk y.shelf[j]):=fun j hj dN=>by
     by_cases e:j=k
     ·subst e;exact q
     ·exact aU.out j hj Bk
    rw [D6 q] at C;clear q;go_wp2_with fail
    refine C.mono ?_;rintro e w2 ⟨rfl,b2⟩;go_wp2;first
     | exact ⟨⟨k+1,Bk,by go_num,S,Bs hb b2⟩,by simp [intOf];omega⟩
     | (refine ⟨?_,by simp [intOf];omega⟩;(repeat apply Exists.intro);first | exact ⟨⟨k+1,Bk,by go_num,S,Bs hb b2⟩,rfl⟩ | exact ⟨⟨k+1,Bk,by go_num,S,Bs hb b2⟩,rfl,rfl⟩ | exact ⟨⟨k+1,Bk,by go_num,S,Bs hb b2⟩,rfl,rfl,rfl⟩ | exact ⟨⟨k+1,Bk,by go_num,S,Bs hb b2⟩,rfl,rfl,rfl,rfl⟩ | exact ⟨⟨k+1,Bk,by go_num,S,Bs hb b2⟩,rfl,rfl,rfl,rfl,rfl⟩ | exact ⟨⟨k+1,Bk,by go_num,S,Bs hb b2⟩,rfl,rfl,rfl,rfl,rfl,rfl⟩ | exact ⟨⟨k+1,Bk,by go_num,S,Bs hb b2⟩,rfl,rfl,rfl,rfl,rfl,rfl,rfl⟩)
   ·have H:=Bp (Ck (show ¬ Dn y from fun h=>q (h.2.2.2.1 _ (Aw aA))));rw [Ck q] at C;clear q;go_wp2_with fail
    refine C.mono ?_;rintro e w2 ⟨rfl,b2⟩;go_wp2;go_ret;exact ⟨Bw H.out.symm,Bs B0 b2⟩
  ·have aB:¬ (k:Int)<(y.shelf.length:Int):=Bk;have HS:Hid (∀ k (hk:k<y.shelf.length),Hk y.shelf[k]):=fun j hj=>aU.out j hj Bk;have C:=M4 y (⟨A1,y.shelf.length,c1⟩,⟨A2,y.runs.length,c2⟩) wr hl (HR.out _ B0);obtain ⟨X_0,X_1,X_2,X_3,X_l⟩:=X.g4;go_wp2_with fail
   refine C.mono ?_;rintro e w2 ⟨v,rfl,o2,b2⟩;replace X:=X.below b2;replace B0:=Bs B0 b2;clear X_0 X_1 X_2 X_3 X_l aU aA aB hb;have O2:=Rd.of_own o2;clear o2;obtain ⟨A3,c3,rfl,-⟩:=id O2;have pD:=HEn.out;obtain ⟨j0,bS,jz0,jz1,jz2⟩:=info_parts Kt;go_wp2;go_loopw [6,48] (fun vl i wr=>∃ k:Nat,k<=(Ce y).length/\i = .int .i64 k/\Ow Em 3 wr w2 vl (Ia (Ce y) k)/\Hid (Ms y.seq (Ce y) k)/\Below w2 w2 wr) (fun _ i _=>(Ce y).length - (intOf i).toNat);case atStart=>exact ⟨0,Ag _,rfl,by simpa [Ia] using Ow.nil Em 3 w2 w2.heap.size,fun j _ h0=>absurd h0 Bk,Bq _ _⟩
   case round =>
    obtain ⟨k,hk,rfl,om,aU,hb⟩:=hrel;replace X:=X.below hb;replace B0:=Bs B0 hb;obtain ⟨X_0,X_1,X_2,X_3,X_l⟩:=X.g4;have hsn:=Ade (Ce y) k;by_cases aA:k<(Ce y).length
    ·have aB:(k:Int)<((Ce y).length:Int):=Bk;obtain ⟨b,o,_,gZ,aG,_,d0,d1,d2,d3⟩:=RdL.entry (Ki (O2.below hb)) aA;subst gZ;have bL:b<wr:=Ai aG hb.size;have hE:Hid (∀ wr:World,Below wr wr (wr.alloc (.cells #[.int .i64 (Ce y)[k].prio,.int .i64 (Ce y)[k].seq,.int .i64 (Ce y)[k].run,.int .i64 (Ce y)[k].task] 93))):=fun wr=>(Bq _ _).alloc (Br _) _;obtain ⟨A7,c7,rfl,-⟩:=id (Rd.of_own om);have w1':U.wrap (y.seq - 1)=y.seq - 1:=Ar _ Bk;have HB1:=Bp (Adf (y:=y) aA);have HB2:=Bp (Adg (y:=y) aA);have HSt:=Bp (W9 (q:=y.seq) aU.out aA);have HSq:=Bp (Ve (Ce y) k aA);cases q1:inB (Ce y)[k].seq 1 (y.seq - 1)
     ·have H:=Bp (Ck (HB1.out q1));go_wp2_with (go_at_call 58;refine (Cs _ _ _ _).mono ?_;rintro e w' ⟨rfl,rfl⟩)
      go_ret;exact ⟨Bw H.out.symm,Bs B0 (hE.out _)⟩
     have q1b:=Cp.1 q1;generalize hx:(Ce y)[k].seq=x at *
     obtain ⟨n,rfl⟩:=Int.eq_ofNat_of_zero_le (show 0<=x by omega);have hn:Hid ((n:Int).toNat=n):=Int.toNat_natCast n;have HX:=Bp hx;clear hx;by_cases q2:n∈Ia (Ce y) k
     ·have H:=Bp (Ck (HB2.out (by rw [hn.out];exact q2)));have C:=M3 _ (Ia (Ce y) k) n _ _ Bk (Rd.of_own (om.below (hE.out wr)));rw [decide_eq_true q2] at C;clear q2;go_wp2_with (first | (go_at_call 58;refine (Cs _ _ _ _).mono ?_;rintro e w' ⟨rfl,rfl⟩) | (go_at_call 118;refine C.mono ?_;rintro e w' ⟨rfl,rfl⟩))
      go_ret;exact ⟨Bw H.out.symm,Bs B0 (hE.out _)⟩
     ·have S:=Bp (HSt.out q1 (by rw [hn.out];exact q2));have C:=M3 _ (Ia (Ce y) k) n _ _ Bk (Rd.of_own (om.below (hE.out wr)));rw [decide_eq_false q2] at C;clear q2;have ha:Hid (∀ w:World,Below w w ((w.alloc (.cells #[.int .i64 (Ce y)[k].prio,.int .i64 (n:Int),.int .i64 (Ce y)[k].run,.int .i64 (Ce y)[k].task] 93)).alloc (.cells #[.int .i64 (n:Int)] 3))):=fun w=>((Bq _ _).alloc (Br _) _).alloc Bm _;go_wp2_with (first | (go_at_call 58;refine (Cs _ _ _ _).mono ?_;rintro e w' ⟨rfl,rfl⟩) | (go_at_call 118;refine C.mono ?_;rintro e w' ⟨rfl,rfl⟩) | (at_builtin;refine Bz _ Em Bo rfl (.tmp 65) (.tmp 68) rfl Tryz.underlying26 bS jz0 jz1 jz2 rfl (l:=Ia (Ce y) k) rfl (om.below (ha.out wr)) rfl (Rd.one Em _ _ n Bm rfl 1 (Br _) (Nat.lt_succ_self _)) Bk Bm Bo (by have:=hb.size;simp;omega) ?_;intro v5 w5 o5 g5 _))
      have bE:=Bs hb (ha.out wr);have W5:=bE.grown g5 bE.size (fun g hg=>by have:=om.within _ hg;omega);have o6:Ow Em 3 w5 w2 v5 (Ia (Ce y) (k+1)):=by rw [HSq.out,hn.out];exact o5
      first
       | exact ⟨⟨k+1,Bk,by go_num,o6,S,W5⟩,by simp [intOf];omega⟩
       | (refine ⟨?_,by simp [intOf];omega⟩;(repeat apply Exists.intro);first | exact ⟨⟨k+1,Bk,by go_num,o6,S,W5⟩,rfl⟩ | exact ⟨⟨k+1,Bk,by go_num,o6,S,W5⟩,rfl,rfl⟩ | exact ⟨⟨k+1,Bk,by go_num,o6,S,W5⟩,rfl,rfl,rfl⟩ | exact ⟨⟨k+1,Bk,by go_num,o6,S,W5⟩,rfl,rfl,rfl,rfl⟩ | exact ⟨⟨k+1,Bk,by go_num,o6,S,W5⟩,rfl,rfl,rfl,rfl,rfl⟩ | exact ⟨⟨k+1,Bk,by go_num,o6,S,W5⟩,rfl,rfl,rfl,rfl,rfl,rfl⟩ | exact ⟨⟨k+1,Bk,by go_num,o6,S,W5⟩,rfl,rfl,rfl,rfl,rfl,rfl,rfl⟩)
    ·have aB:¬ (k:Int)<((Ce y).length:Int):=Bk;have HO:Hid (Ms y.seq (Ce y) (Ce y).length):=fun j hj hj2=>aU.out j hj Bk;go_wp2;replace O2:=O2.below hb;clear X_0 X_1 X_2 X_3 X_l aU aA aB om hsn;have hsb:=hb.size;clear hb;obtain ⟨w6,hw6⟩:∃ w6,w6=wr:=⟨_,rfl⟩
     rw [<-hw6] at X B0 O2 hsb ⊢;clear hw6;go_loopw [74] (fun i wr=>∃ k:Nat,k<=y.runs.length/\i = .int .i64 k/\Hid (Jn y k)/\Below w6 w6 wr) (fun i _=>y.runs.length - (intOf i).toNat);case atStart=>exact ⟨0,Ag _,rfl,fun j _ h0=>absurd h0 Bk,Bq _ _⟩
     case round =>
      obtain ⟨k,hk,rfl,aU,hb⟩:=hrel;replace X:=X.below hb;replace B0:=Bs B0 hb;by_cases aA:k<y.runs.length
      ·have aB:(k:Int)<(y.runs.length:Int):=Bk;obtain ⟨b,o,⟨⟨A8,n8,c8⟩,⟨At,nt,ct⟩⟩,dL,aG,cE,e0,e1,e2,e3,e4,e5,e6,e7⟩:=(h2.below B0).run aA;subst dL;have bL:b<wr:=Ai aG B0.size;have HRr:=Bp (show ∀ W,Below wr wr W->Co.rd W W y.runs[k] (⟨A8,n8,c8⟩,⟨At,nt,ct⟩) from fun W hW=>Co.rd_more (Co.rd_below (Co.rd_more cE B0.size) hW) hW.size);have jA:=HC.out k aA;have ha:Below wr wr (wr.alloc (.cells #[.int .i64 y.runs[k].id,.int .i64 y.runs[k].plan.prio,.int .i64 y.runs[k].plan.most,.int .i64 y.runs[k].plan.wait,.int .i64 y.runs[k].plan.tasks,.slice A8 n8 c8,.int .i64 y.runs[k].state,.slice At nt ct] 89)):=(Bq _ _).alloc (Br _) _;have R:=DBox.new 89 [.int .i64 y.runs[k].id,.int .i64 y.runs[k].plan.prio,.int .i64 y.runs[k].plan.most,.int .i64 y.runs[k].plan.wait,.int .i64 y.runs[k].plan.tasks,.slice A8 n8 c8,.int .i64 y.runs[k].state,.slice At nt ct] wr rfl;have C1:=Wk y.runs[k] (⟨A8,n8,c8⟩,⟨At,nt,ct⟩) _ jA (HRr.out _ ha);have HSt:=Bp (Adh aU.out aA);by_cases q1:Gg y.runs[k];case neg =>
        have H:=Bp (Ck (show ¬ Dn y from fun h=>q1 (h.2.2.2.2.2.2.2.1 k aA).1));rw [Ck q1] at C1;clear q1;go_wp2_with fail
        refine C1.mono ?_;rintro e w7 ⟨rfl,b7⟩;go_wp2;go_ret;exact ⟨Bw H.out.symm,Bs B0 (Bs ha b7)⟩
       rw [D6 q1] at C1;have HQ1:=Bp q1;have pB:=Ack q1.2.1;have cU:y.runs[k].tasks.length<=2000000:=Ah (Ct G8 _) (by unfold C9 at jA;omega);clear q1;go_wp2_with fail
       refine C1.mono ?_;rintro e w7 ⟨rfl,b7⟩;replace R:=R.below b7;have ha7:=Bs ha b7;replace X:=X.below ha7;obtain ⟨X_0,X_1,X_2,X_3,X_l⟩:=X.g4;obtain ⟨R_0,R_1,R_2,R_3,R_4,R_5,R_6,R_7,R_l⟩:=R.g8;have C2:=Jt y (⟨A1,y.shelf.length,c1⟩,⟨Ac ⟨b,o,Ab⟩,y.runs.length,c2⟩) y.runs[k].id w7 hl (HR.out _ (Bs B0 ha7));by_cases q2:Dh y y.runs[k].id=k;case neg =>
        have H:=Bp (Ck (show ¬ Dn y from fun h=>q2 (h.2.2.2.2.2.2.2.1 k aA).2));have q2':(Dh y y.runs[k].id != (k:Int))=true:=by simp [q2]
        clear q2;go_wp2_with fail
        refine C2.mono ?_;rintro e w8 ⟨rfl,b8⟩;go_wp2;go_ret;exact ⟨Bw H.out.symm,Bs B0 (Bs ha7 b8)⟩
       rw [q2] at C2;have HQ2:=Bp q2;clear q2;have q2':((k:Int) != (k:Int))=false:=Bm;go_wp2_with fail
       refine C2.mono ?_;rintro e w8 ⟨rfl,b8⟩;have jZ:=Bs ha7 b8;replace X:=X.below b8;clear X_0 X_1 X_2 X_3 X_l;obtain ⟨X_0,X_1,X_2,X_3,X_l⟩:=X.g4;replace R:=R.below b8;clear R_0 R_1 R_2 R_3 R_4 R_5 R_6 R_7 R_l;obtain ⟨R_0,R_1,R_2,R_3,R_4,R_5,R_6,R_7,R_l⟩:=R.g8;have C3:=Wi y (⟨A1,y.shelf.length,c1⟩,⟨Ac ⟨b,o,Ab⟩,y.runs.length,c2⟩) y.runs[k] (⟨A8,n8,c8⟩,⟨At,nt,ct⟩) (Ce y) ⟨A3,(Ce y).length,c3⟩ w8 cU pD sZ pB (HRr.out _ jZ) ((O2.below ((Bs hb jZ).mono hsb)).more (Ah hsb (Bs hb jZ).size));by_cases q3:Jk y.now y.runs[k] (Ce y);case neg =>
        have H:=Bp (Ck (show ¬ Dn y from fun h=>q3 (h.2.2.2.2.2.2.2.2.1 _ (Aw aA))));rw [Ck q3] at C3;clear q3;go_wp2_with fail
        refine C3.mono ?_;rintro e w9 ⟨rfl,b9⟩;go_wp2;go_ret;exact ⟨Bw H.out.symm,Bs B0 (Bs jZ b9)⟩
       have S:=Bp (HSt.out HQ1.out HQ2.out q3);rw [D6 q3] at C3;clear q3;go_wp2_with fail
       refine C3.mono ?_;rintro e w9 ⟨rfl,b9⟩;go_wp2;first
        | exact ⟨⟨k+1,Bk,by go_num,S,Bs hb (Bs jZ b9)⟩,by simp [intOf];omega⟩
        | (refine ⟨?_,by simp [intOf];omega⟩;(repeat apply Exists.intro);first | exact ⟨⟨k+1,Bk,by go_num,S,Bs hb (Bs jZ b9)⟩,rfl⟩ | exact ⟨⟨k+1,Bk,by go_num,S,Bs hb (Bs jZ b9)⟩,rfl,rfl⟩ | exact ⟨⟨k+1,Bk,by go_num,S,Bs hb (Bs jZ b9)⟩,rfl,rfl,rfl⟩ | exact ⟨⟨k+1,Bk,by go_num,S,Bs hb (Bs jZ b9)⟩,rfl,rfl,rfl,rfl⟩ | exact ⟨⟨k+1,Bk,by go_num,S,Bs hb (Bs jZ b9)⟩,rfl,rfl,rfl,rfl,rfl⟩ | exact ⟨⟨k+1,Bk,by go_num,S,Bs hb (Bs jZ b9)⟩,rfl,rfl,rfl,rfl,rfl,rfl⟩ | exact ⟨⟨k+1,Bk,by go_num,S,Bs hb (Bs jZ b9)⟩,rfl,rfl,rfl,rfl,rfl,rfl,rfl⟩)
      ·have aB:¬ (k:Int)<(y.runs.length:Int):=Bk;have HRt:Hid (Jn y y.runs.length):=fun j hj _=>aU.out j hj Bk;have HF:=Bp (Acl A1_.out A2_.out A3_.out HS.out HO.out a4 HRt.out);have C:=Wl y (⟨A1,y.shelf.length,c1⟩,⟨A2,y.runs.length,c2⟩) wr hl (HR.out _ B0);obtain ⟨X_0,X_1,X_2,X_3,X_l⟩:=X.g4;go_wp2_with fail
       refine C.mono ?_;rintro e w7 ⟨rfl,b7⟩;have HT:=Bp (show tf (Dn y)=decide ((Gt y:Int)<=40) by
        rw [Bool.eq_iff_iff,Kw,HF.out,decide_eq_true_eq];omega)
       generalize Gt y=N at *
       by_cases q:N<=40
       ·have H:=Bp (show tf (Dn y)=true by rw [HT.out];exact decide_eq_true Bk);go_wp2;go_ret;exact ⟨Bw (by rw [H.out];exact decide_eq_true Bk),Bs B0 b7⟩
       ·have H:=Bp (show tf (Dn y)=false by rw [HT.out];exact decide_eq_false Bk);go_wp2;go_ret;exact ⟨Bw (by rw [H.out];exact decide_eq_false Bk),Bs B0 b7⟩
def Hx (l:List Task) (t:Nat) (f:Task->Task):List Task:=l.set t (f (l.getD t ⟨0,0,0,0⟩))
theorem Hd (l:List Task) (t:Nat) (f:Task->Task):(Hx l t f).length=l.length:=by unfold Hx;rw [List.length_set]
def Fh (p:Plan) (t:Nat):Task :=
 let n:=(Dl (Dq p) p.tasks.toNat t).length
 ⟨if n=0 then 2 else 1,n,0,0⟩
def Cl (id:Int) (p:Plan):Run:=⟨id,p,1,(List.range p.tasks.toNat).map (Fh p)⟩
theorem Hb (id:Int) (p:Plan):(Cl id p).tasks.length=p.tasks.toNat:=by unfold Cl;simp
def Ds (x:Task):Task:=⟨if x.need - 1=0 then 2 else x.state,x.need - 1,x.try_,x.until_⟩
def Xa (r:Run) (t:Nat):List Task:=(Eg (Dq r.plan) r.plan.tasks.toNat t).foldl (fun l b=>Hx l b Ds) (Hx r.tasks t fun x=>⟨4,x.need,x.try_,0⟩)
def Hf (r:Run) (t:Nat):Run:=⟨r.id,r.plan,stL (Xa r t),Xa r t⟩
def D9 (x:Task):Task:=if x.state≠4/\x.state≠5 then ⟨6,x.need,x.try_,0⟩ else x
def Dp (r:Run) (st:Int):Run:=⟨r.id,r.plan,st,r.tasks.map D9⟩
def Eb (r:Run) (t:Nat):Run :=
 if (Bx r t).try_<r.plan.most then ⟨r.id,r.plan,r.state,Hx r.tasks t fun x=>⟨2,x.need,x.try_,0⟩⟩
 else Dp ⟨r.id,r.plan,r.state,Hx r.tasks t fun x=>⟨5,x.need,x.try_,0⟩⟩ 3
def Cv (r:Run) (t:Nat) (now:Int):Run:=⟨r.id,r.plan,r.state,Hx r.tasks t fun x=>⟨3,x.need,x.try_+1,now+r.plan.wait⟩⟩
def J3 (y:Yard) (r:Run) (t:Nat):Yard:=⟨y.now,y.seq+1,y.shelf.set (Cz r.id) (Hu (y.shelf.getD (Cz r.id) []) ⟨r.plan.prio,y.seq,r.id,t⟩),y.runs⟩
def Gi (was r:Run) (n:Nat):List Nat:=(List.range n).filter fun t=>(Bx r t).state == 2 && !((Bx was t).state == 2)
def Qk (y:Yard) (was r:Run):Yard:=(Gi was r r.tasks.length).foldl (fun y t=>J3 y r t) y
def Ez:Run:=⟨0,⟨0,0,0,0,[]⟩,0,[]⟩
def Gr (y:Yard) (k:Nat) (r:Run):Yard:=Qk ⟨y.now,y.seq,y.shelf,y.runs.set k r⟩ (y.runs.getD k Ez) r
theorem Vg (was r:Run) (n:Nat):Gi was r (n+1)=Gi was r n ++ (if (Bx r n).state=2 /\ ¬ (Bx was n).state=2 then [n] else []):=by
 unfold Gi;rw [List.range_succ,List.filter_append];congr 1;by_cases h1:(Bx r n).state=2<;>by_cases h2:(Bx was n).state=2<;>simp [h1,h2]
theorem Abn (y:Yard) (r:Run) (t:Nat):(J3 y r t).shelf.length=y.shelf.length:=by unfold J3;simp
theorem Nq (r:Run):∀ (l:List Nat) (y:Yard),(l.foldl (fun y t=>J3 y r t) y).now=y.now/\(l.foldl (fun y t=>J3 y r t) y).runs=y.runs/\(l.foldl (fun y t=>J3 y r t) y).shelf.length=y.shelf.length/\(l.foldl (fun y t=>J3 y r t) y).seq=y.seq+l.length
 | [],y=>⟨rfl,rfl,rfl,Bm⟩
 | t :: l,y=>by
  obtain ⟨h1,h2,h3,h4⟩:=Nq r l (J3 y r t);refine ⟨by rw [List.foldl_cons,h1];rfl,by rw [List.foldl_cons,h2];rfl,by rw [List.foldl_cons,h3,Abn],?_⟩;rw [List.foldl_cons,h4,List.length_cons,show (J3 y r t).seq=y.seq+1 from rfl];push_cast;omega
noncomputable def By (y:Yard) (i:Nat):Yard:=⟨y.now,y.seq,y.shelf.set i ((y.shelf.getD i []).filter fun e=>Dx y e),y.runs⟩
def Dz (home draw:Int):List Nat :=
 let d:=(max draw 0 % 3).toNat
 (List.range 3).map fun i=>((home.toNat+1+(d+i) % 3) % 4)
noncomputable def D4 (home:Nat) (y:Yard) (v:Nat):Yard :=
 if (y.shelf.getD home []).length=0 then
  let z:=By y v
  let l:=z.shelf.getD v []
  ⟨z.now,z.seq,(z.shelf.set v (l.drop (Cw l))).set home (Fg ((z.shelf.set v (l.drop (Cw l))).getD home []) (l.take (Cw l))),z.runs⟩
 else y
theorem Rd.ent_ {w:World} {B:Nat} {A:Option Addr} {n c:Nat} {l:List Entry} (h:Rd Cu w B (Aa A n c) l) {k:Nat} (hk:k<l.length) :
  ∃ b o,A=Ac ⟨b,o,Ab⟩/\b<B/\w.cell? ⟨b,o+k * 4,Ab⟩=Ac (J U l[k].prio)/\w.cell? ⟨b,o+k * 4+1,Ab⟩=Ac (J U l[k].seq)/\w.cell? ⟨b,o+k * 4+2,Ab⟩=Ac (J U l[k].run)/\w.cell? ⟨b,o+k * 4+3,Ab⟩=Ac (J U l[k].task):=by
 obtain ⟨A',c',hv,_,hA⟩:=h;simp only [Value.slice.injEq] at hv;obtain ⟨rfl,_,_⟩:=hv;obtain ⟨b,o,rfl,hb,hc⟩:=hA Bk;exact ⟨b,o,rfl,hb,hc k hk 0 _ rfl,hc k hk 1 _ rfl,hc k hk 2 _ rfl,hc k hk 3 _ rfl⟩
theorem Abo {f:FuncId} {fn:Func} (hf:An.funcs[f]? = Ac fn) (hname:(fn.name == "runtime.NumGoroutine")=false) (hb:fn.body.isNone=false):∀ (args:Array Value) (w:World),(callFunc f args).run An w = .ok (.enter f args) w:=fun args w=>by
 have h1:fn.name ≠ "runtime.NumGoroutine" := by simpa using hname
 cases h:fn.body with
 | none=>rw [h] at hb;cases hb
 | some c=>simp [callFunc,hf,h1,h]
theorem Vh (FN p:Nat) (pred:Entry->Bool) (hF:∀ (args:Array Value) (w:World),(callFunc FN args).run An w = .ok (.enter FN args) w) (l:List Entry) (A:Option Addr) (n c:Nat) (w:World) (hl:l.length<=2000000) (h:Rd Cu w w (Aa A n c) l)
  (hf:∀ (W:World) (x:Entry),Below w w W->Calls An FN #[H7 x (),.pointer (Ac ⟨p,0,Ab⟩)] W fun e w'=>e = .returned (.bool (pred x))/\Below W W w') :
  Calls An 192 #[Aa A n c,.func (.func FN) #[] #[.pointer (Ac ⟨p,0,Ab⟩)]] w fun e w'=>e = .returned (J U (E6 pred l))/\Below w w w':=by
 obtain rfl:n=l.length:=by obtain ⟨A',c',hv,_⟩:=id h;simp only [Value.slice.injEq] at hv;exact hv.2.1
 have HF:=Bp hf;clear hf;go_enter Tryz.func192,Tryz.ntmps192;go_wp2;go_loopw [8] (fun i wr=>∃ k:Nat,k<=l.length/\i = J U k/\Hid (∀ j (hj:j<k) (hj':j<l.length),pred l[j]=false)/\Below w w wr) (fun i _=>l.length - (intOf i).toNat);case atStart=>exact ⟨0,Ag _,rfl,fun j hj=>absurd hj Bk,Bq _ _⟩
 case round =>
  obtain ⟨k,hk,rfl,bZ,hb⟩:=hrel;by_cases aA:k<l.length
  ·obtain ⟨b,o,rfl,aG,c0,c1,c2,c3⟩:=(h.below hb).ent_ aA;have aB:(k:Int)<(l.length:Int):=Bk;have hs:=hb.size;have C:=HF.out wr l[k] hb;cases t1:pred l[k]
   ·have S:Hid (∀ j (hj:j<k+1) (hj':j<l.length),pred l[j]=false):=by
     intro j hj hj';by_cases e:j=k
     ·subst e;exact t1
     ·exact bZ.out j Bk hj'
    rw [t1] at C;go_wp2_with fail
    refine C.mono ?_;rintro e w1 ⟨rfl,aQ⟩;have hE:=Bs hb aQ;go_wp2;first
     | exact ⟨⟨k+1,Bk,by go_num,S,hE⟩,by simp [intOf];omega⟩
     | (refine ⟨?_,by simp [intOf];omega⟩;(repeat apply Exists.intro);first | exact ⟨⟨k+1,Bk,by go_num,S,hE⟩,rfl⟩ | exact ⟨⟨k+1,Bk,by go_num,S,hE⟩,rfl,rfl⟩ | exact ⟨⟨k+1,Bk,by go_num,S,hE⟩,rfl,rfl,rfl⟩ | exact ⟨⟨k+1,Bk,by go_num,S,hE⟩,rfl,rfl,rfl,rfl⟩ | exact ⟨⟨k+1,Bk,by go_num,S,hE⟩,rfl,rfl,rfl,rfl,rfl⟩ | exact ⟨⟨k+1,Bk,by go_num,S,hE⟩,rfl,rfl,rfl,rfl,rfl,rfl⟩ | exact ⟨⟨k+1,Bk,by go_num,S,hE⟩,rfl,rfl,rfl,rfl,rfl,rfl,rfl⟩)
   ·have H:=Bp (G7 aA (fun j hj=>bZ.out j hj Bk) t1);rw [t1] at C;go_wp2_with fail
    refine C.mono ?_;rintro e w1 ⟨rfl,aQ⟩;have hE:=Bs hb aQ;go_wp2;go_ret;exact ⟨Dg (by rw [H.out]),hE⟩
  ·have aB:¬ (k:Int)<(l.length:Int):=Bk;have H:=Bp (Hg (p:=pred) (l:=l) (fun j hj=>bZ.out j Bk hj));go_wp2;go_ret;exact ⟨Dg (by rw [H.out]),hb⟩
theorem Zz (l:List Entry) (A:Option Addr) (n c:Nat) (F:List Nat) (FN p:Nat) (pred:Entry->Bool) (hF:∀ (args:Array Value) (w:World),(callFunc FN args).run An w = .ok (.enter FN args) w) (w:World) (hl:l.length<=2000000)
  (hdel:∀ (W:World) (x:Entry),Chg F w W->Calls An FN #[H7 x (),.pointer (Ac ⟨p,0,Ab⟩)] W fun e w'=>e = .returned (.bool (pred x))/\Below W W w')
  (hidx:Calls An 192 #[.slice A n c,.func (.func FN) #[] #[.pointer (Ac ⟨p,0,Ab⟩)]] w fun e w'=>e = .returned (.int .i64 (E6 pred l))/\Below w w w')
  (h:Hw Cu w F (.slice A n c) l) :
  Calls An 133 #[.slice A n c,.func (.func FN) #[] #[.pointer (Ac ⟨p,0,Ab⟩)]] w (Afe Cu A c F (l.filter fun x=>!pred x) w):=by
 obtain rfl:n=l.length:=by obtain ⟨A',c',hv,_⟩:=h.1;simp only [Value.slice.injEq] at hv;exact hv.2.1
 have HDel:=Bp hdel;clear hdel;rcases Lg pred l with hr | ⟨k,hk,hr⟩
 ·have HN:Hid (∀ j (hj:j<l.length),pred l[j]=false):=fun j hj=>by
   cases hp:pred l[j] with
   | false=>rfl
   | true=>exact absurd (Q7.2 ⟨_,Aw hj,hp⟩) Bk
  rw [hr] at hidx;clear hr;go_enter Tryz.func133,Tryz.ntmps133;go_wp2_with fail
  refine hidx.mono ?_;rintro e w1 ⟨rfl,b1⟩;go_wp2;go_ret;exact ⟨l.length,F,rfl,by rw [Aef HN.out];exact h.below b1,fun b hb=>hb,Chg.of_below F b1⟩
 have HK:=Bp (show Kept pred l l k (k+1) from by
  obtain ⟨h1,h2⟩:(∀ j (hj:j<l.length),j<k->pred l[j]=false)/\pred l[k]=true:=by
   unfold E6 at hr;cases hf:l.findIdx? pred with
   | none=>rw [hf] at hr;simp only at hr;omega
   | some i =>
    rw [hf] at hr;simp only at hr;obtain ⟨hi,hp,hb⟩:=List.findIdx?_eq_some_iff_getElem.1 hf;obtain rfl:i=k:=Bk;exact ⟨fun j hj dN=>by simpa using hb j dN,hp⟩
  exact Abm hk h1 h2)
 obtain ⟨b,o,rfl,rfl,hb,fL⟩:=h.at_ Bk;have HRd:=h.rd;clear h;rw [hr] at hidx;clear hr;have dA:((k:Int) == -1)=false:=beq_eq_false_iff_ne.2 Bk;go_enter Tryz.func133,Tryz.ntmps133;go_wp2_with fail
 refine hidx.mono ?_;rintro e w1 ⟨rfl,b1⟩;have HR1:=(HRd.below b1).more b1.size;have hf1:∀ j,w1.frozen? ⟨b,j,Ab⟩=false:=fun j=>(b1.frozen (p:=⟨b,j,Ab⟩) hb).trans (fL j);have C1:=Chg.of_below [b] b1;go_wp2;clear dA;go_loopw [5,6] (fun vi vj wr=>∃ (i j:Nat) (M:List Entry),i<j/\j<=l.length/\vi = .int .i64 i/\vj = .int .i64 j/\Hid (Kept pred l M i j)/\Rd Cu wr wr (.slice (Ac ⟨b,o,Ab⟩) l.length c) M/\Hid (∀ t,wr.frozen? ⟨b,t,Ab⟩=false)/\Chg [b] w wr) (fun _ vj _=>l.length - (intOf vj).toNat);case atStart=>exact ⟨k,k+1,l,Nat.lt_succ_self _,hk,rfl,by go_num,HK,HR1,hf1,C1⟩
 case round =>
  clear HR1 hf1 C1 HK b1 HRd fL hk;obtain ⟨i,j,M,mS,hj,rfl,rfl,hK,hR,hF,hC⟩:=hrel;have hML:=hK.out.len;have eM:b<wr:=Ai hb hC.size;by_cases aA:j<l.length
  ·have aB:(j:Int)<(l.length:Int):=Bk;have hiI:(i:Int)<(l.length:Int):=Bk;obtain ⟨b',o',hA,_,d0,d1,d2,d3⟩:=hR.ent_ (k:=j) Bk;simp only [Option.some.injEq,Addr.mk.injEq,and_true] at hA;obtain ⟨rfl,rfl⟩:=hA;have hMj:=hK.out.tail j aA Bk (Br _);rw [hMj] at d0 d1 d2 d3;clear hMj;have ha:=(Bq wr wr).alloc (Br _) (.cells #[.int .i64 l[j].prio,.int .i64 l[j].seq,.int .i64 l[j].run,.int .i64 l[j].task] 93);have V:=DBox.new 93 [.int .i64 l[j].prio,.int .i64 l[j].seq,.int .i64 l[j].run,.int .i64 l[j].task] wr rfl;have C:=HDel.out _ l[j] (hC.trans (Chg.of_below [b] ha));have HMl:=Bp hML;clear hML;cases q:pred l[j]
   ·have S:=Bp (hK.out.keep aA mS q);rw [q] at C;go_wp2_with fail
    refine C.mono ?_;rintro e w3 ⟨rfl,b3⟩;replace V:=V.below b3;have nG:=Bs ha b3;have V_:=V.g4;have R3:=(hR.below nG).more nG.size;have F3:∀ t,w3.frozen? ⟨b,t,Ab⟩=false:=fun t=>(nG.frozen (p:=⟨b,t,Ab⟩) eM).trans (hF.out t);obtain ⟨b',o',hA,bY,f0,f1,f2,f3⟩:=R3.ent_ (k:=i) (by rw [HMl.out];omega);simp only [Option.some.injEq,Addr.mk.injEq,and_true] at hA;obtain ⟨rfl,rfl⟩:=hA;have R4:=Bp (R3.part i (by rw [HMl.out];omega) l[j] 0 (Cu.cells l[j]) (by rw [Cu.len];omega) (fun t ht=>by rw [Nat.zero_add];exact List.getElem?_eq_getElem ht) (fun t ht h=>by rw [Cu.len] at h;omega));go_wp2;have hw:Io w3 b (o+i * Cu.sz+0) (Cu.cells l[j])=((((w3.setCell ⟨b,o+i * 4,Ab⟩ (.int .i64 l[j].prio)).setCell ⟨b,o+i * 4+1,Ab⟩ (.int .i64 l[j].seq)).setCell ⟨b,o+i * 4+2,Ab⟩ (.int .i64 l[j].run)).setCell ⟨b,o+i * 4+3,Ab⟩ (.int .i64 l[j].task)):=rfl;have R5:=R4.out;have C4:=Fb (Cu.cells l[j]) w3 b (o+i * Cu.sz+0);have Z4:=Km (Cu.cells l[j]) w3 b (o+i * Cu.sz+0);have F4:∀ t,(Io w3 b (o+i * Cu.sz+0) (Cu.cells l[j])).frozen? ⟨b,t,Ab⟩=false:=fun t=>by rw [Iy];exact F3 t
    rw [hw] at R5 C4 Z4 F4;have C5:=(hC.trans (Chg.of_below [b] nG)).trans C4;have R6:=R5.more (Nat.le_of_eq Z4.symm);first
     | exact ⟨⟨i+1,Bk,j+1,Bk,by go_num,by go_num,_,S,R6,F4,C5⟩,by simp [intOf];omega⟩
     | exact ⟨⟨i+1,j+1,_,Bk,Bk,by go_num,by go_num,S,R6,F4,C5⟩,by simp [intOf];omega⟩
     | (refine ⟨?_,by simp [intOf];omega⟩;(repeat apply Exists.intro);first | exact ⟨⟨i+1,j+1,_,Bk,Bk,by go_num,by go_num,S,R6,F4,C5⟩,rfl⟩ | exact ⟨⟨i+1,j+1,_,Bk,Bk,by go_num,by go_num,S,R6,F4,C5⟩,rfl,rfl⟩ | exact ⟨⟨i+1,j+1,_,Bk,Bk,by go_num,by go_num,S,R6,F4,C5⟩,rfl,rfl,rfl⟩ | exact ⟨⟨i+1,j+1,_,Bk,Bk,by go_num,by go_num,S,R6,F4,C5⟩,rfl,rfl,rfl,rfl⟩ | exact ⟨⟨i+1,j+1,_,Bk,Bk,by go_num,by go_num,S,R6,F4,C5⟩,rfl,rfl,rfl,rfl,rfl⟩ | exact ⟨⟨i+1,j+1,_,Bk,Bk,by go_num,by go_num,S,R6,F4,C5⟩,rfl,rfl,rfl,rfl,rfl,rfl⟩ | exact ⟨⟨i+1,j+1,_,Bk,Bk,by go_num,by go_num,S,R6,F4,C5⟩,rfl,rfl,rfl,rfl,rfl,rfl,rfl⟩)
   ·have S:=Bp (hK.out.drop aA q);rw [q] at C;go_wp2_with fail
    refine C.mono ?_;rintro e w3 ⟨rfl,b3⟩;have nG:=Bs ha b3;have R3:=(hR.below nG).more nG.size;have F3:Hid (∀ t,w3.frozen? ⟨b,t,Ab⟩=false):=fun t=>(nG.frozen (p:=⟨b,t,Ab⟩) eM).trans (hF.out t);have C5:=hC.trans (Chg.of_below [b] nG);go_wp2;first
     | exact ⟨⟨i,j+1,M,Bk,Bk,rfl,by go_num,S,R3,F3,C5⟩,by simp [intOf];omega⟩
     | (refine ⟨?_,by simp [intOf];omega⟩;(repeat apply Exists.intro);first | exact ⟨⟨i,j+1,M,Bk,Bk,rfl,by go_num,S,R3,F3,C5⟩,rfl⟩ | exact ⟨⟨i,j+1,M,Bk,Bk,rfl,by go_num,S,R3,F3,C5⟩,rfl,rfl⟩ | exact ⟨⟨i,j+1,M,Bk,Bk,rfl,by go_num,S,R3,F3,C5⟩,rfl,rfl,rfl⟩ | exact ⟨⟨i,j+1,M,Bk,Bk,rfl,by go_num,S,R3,F3,C5⟩,rfl,rfl,rfl,rfl⟩ | exact ⟨⟨i,j+1,M,Bk,Bk,rfl,by go_num,S,R3,F3,C5⟩,rfl,rfl,rfl,rfl,rfl⟩ | exact ⟨⟨i,j+1,M,Bk,Bk,rfl,by go_num,S,R3,F3,C5⟩,rfl,rfl,rfl,rfl,rfl,rfl⟩ | exact ⟨⟨i,j+1,M,Bk,Bk,rfl,by go_num,S,R3,F3,C5⟩,rfl,rfl,rfl,rfl,rfl,rfl,rfl⟩)
  ·have aB:¬ (j:Int)<(l.length:Int):=Bk;have HH:=Bp (show M.take i=l.filter fun x=>!pred x by rw [hK.out.head,List.take_of_length_le Bk]);have rQ:l.length<=c:=by have:=hR.cap;omega
   have kz:∀ w,(zeroValue 93).run An w = .ok (.agg #[.int .i64 0,.int .i64 0,.int .i64 0,.int .i64 0]) w:=fun w=>by
    obtain ⟨i0,aL,aR,aS,aP⟩:=info_parts Fw;simp [zeroValue,typeInfo,aL,aR]
   have kc:=Tj (P:=An) wr 96 93 0 (.agg #[.int .i64 0,.int .i64 0,.int .i64 0,.int .i64 0]) Tryz.underlying96 kz b (o+i * 4) (l.length - i) (c - i) Bk (fun v hv=>by
     simp [Value.cells] at hv;try subst hv
     rfl) (fun q hq=>by
     have hq':q<(l.length - i) * 4:=hq
     have:=hR.some_ Bo (i * 4+q) (by
      show _<M.length * 4;rw [hML];have h3:l.length * 4=i * 4+(l.length - i) * 4:=by rw [<-Nat.add_mul];congr 1;omega
      omega)
     rw [Nat.add_assoc];exact this) hF.out
   go_wp2;clear kc;go_ret;have Rc:=hR.clear i Bk (Builtin.zeroCells #[.int .i64 0,.int .i64 0,.int .i64 0,.int .i64 0] (l.length - i)).toList;rw [HH.out] at Rc;have Cc:=hC.trans (Fb (Builtin.zeroCells #[.int .i64 0,.int .i64 0,.int .i64 0,.int .i64 0] (l.length - i)).toList wr b (o+i * 4));have Rw:=Hw.of_rd (Rc.more (Nat.le_of_eq (Km _ _ _ _).symm)) (fun t=>by rw [Iy];exact hF.out t);refine ⟨i,_,rfl,Rw,fun x hx=>?_,Cc⟩
   have:=H6 _ _ _ hx
   have:b=x:=by simpa [Value.ownBlock] using this
   simp [this]
theorem Vi (d:Deed) (s:Sl) (w:World) (h:I8.rd w w d s) :
  Calls An 141 #[Nl d s] w fun e w'=>e = .returned (.bool (Dr d))/\Below w w w':=by
 cases a0:inB d.kind 1 8;case true =>
  have:d.kind=1\/d.kind=2\/d.kind=3\/d.kind=4\/d.kind=5\/d.kind=6\/d.kind=7\/d.kind=8:=by
   simp [inB] at a0;omega
  rcases this with e | e | e | e | e | e | e | e
  ·exact Zr d s w e h
  ·exact Zs d s w e h
  ·exact Zt d s w e h
  ·exact Zu d s w e h
  ·exact Zv d s w e h
  ·exact Zx d s w e h
  ·exact Zy d s w e h
  ·exact Zw d s w e h
 have H:=Bp (show Dr d=false by simp [Dr,a0]);clear h;obtain ⟨A,n,c⟩:=s;obtain ⟨kd,rn,p,tk,ty,wk,dr⟩:=d;replace a0:inB kd 1 8=false:=a0;have X:=DBox.new 45 [J U kd,J U rn,J U p.prio,J U p.most,J U p.wait,J U p.tasks,Aa A n c,J U tk,J U ty,J U wk,J U dr] w (b:=w.heap.size) rfl;have B0:Below w w (w.alloc (.cells #[J U kd,J U rn,J U p.prio,J U p.most,J U p.wait,J U p.tasks,Aa A n c,J U tk,J U ty,J U wk,J U dr] 45)):=by repeat (first | exact Bq _ _ | refine Ae ?_ Bn _)
 go_enter Tryz.func141,Tryz.ntmps141;go_wp2_with (go_at_call 155;refine (Cf _ _ _ _).mono ?_;rintro e w9 ⟨rfl,rfl⟩;(try (with_reducible rw [a0]));dsimp only)
 go_ret;exact ⟨Bw H.out.symm,B0⟩
def Jc (y:Yard):Prop:=y.shelf.length=4/\(∀ l∈y.shelf,Hk l)/\(∀ e∈Ce y,1<=e.seq/\e.seq<=y.seq - 1)/\((Ce y).map (·.seq)).Nodup
theorem Abp {y:Yard} (h3:y.shelf.length=4) (h4:∀ k (hk:k<y.shelf.length),Hk y.shelf[k]) (h5:Ms y.seq (Ce y) (Ce y).length):Jc y:=by
 refine ⟨h3,fun l hl=>?_,fun e he=>?_,Sd (fun j hj=>(h5 j hj hj).2)⟩
 ·obtain ⟨k,hk,rfl⟩:=List.getElem_of_mem hl;exact h4 k hk
 ·obtain ⟨k,hk,rfl⟩:=List.getElem_of_mem he;exact (h5 k hk hk).1
theorem Yg {y:Yard} (h:Jc y) {k:Nat} (hk:k<=(Ce y).length):Ms y.seq (Ce y) k:=fun j hj _ =>
 ⟨h.2.2.1 _ (Aw hj),Se h.2.2.2 (fun e he=>(h.2.2.1 e he).1) hj⟩
def Yh (l:List Entry) (k m:Nat):Prop:=∀ j (hj:j<l.length) (hk:k<l.length),j<m->l[j].seq≠l[k].seq
theorem Z3 {l:List Entry} {k:Nat} (hk:k<l.length) (h:Yh l k k) (hp:∀ j (hj:j<l.length),j<=k->1<=l[j].seq):l[k].seq.toNat∉Ia l k:=by
 intro hm;unfold Ia at hm;obtain ⟨x,hx,he⟩:=List.mem_map.1 hm;obtain ⟨j,hj,rfl⟩:=List.getElem_of_mem hx;rw [Az] at hj;rw [List.getElem_take] at he;have h1:=hp j Bk Bk;have h2:=hp k hk (Br _);exact h j Bk hk Bk Bk
theorem Tk (y:Yard) (s:Sl×Sl) (w:World) (hl:Ci y<=2000000) (hq:1<=y.seq/\y.seq<=1000000000) (h:Bu.rd w w y s) :
  Calls An 215 #[Du y s] w fun e w'=>e = .returned (.bool (tf (Jc y)))/\Below w w w':=by
 have HR:=Bp (show ∀ W,Below w w W->Bu.rd W W y s from fun W hW=>Bu.rd_more (Bu.rd_below h hW) hW.size);obtain ⟨⟨A1,n1,c1⟩,⟨A2,n2,c2⟩⟩:=s;obtain rfl:n1=y.shelf.length:=RdL.at1 (s:=⟨A1,n1,c1⟩) h.1;have h1:RdL (Dt.list Cg) w w (Aa A1 y.shelf.length c1) y.shelf:=h.1;have hls:y.shelf.length<=2000000:=Ah (Ct De _) (by unfold Ci at hl;omega);have HE:=Bp (show ∀ k (hk:k<y.shelf.length),y.shelf[k].length<=2000000 from fun k hk=>by
  have:=Fk (cnt:=De) (Aw hk)
  have h2:y.shelf[k].length<=De y.shelf[k]:=Ct I6 _;unfold Ci at hl;omega)
 have HEn:=Bp (show (Ce y).length<=2000000 by
  have:=Hn y.shelf y.shelf.length
  rw [List.take_length] at this;unfold Ci at hl;unfold Ce;omega)
 clear h;have X:=DBox.new 31 [J U y.now,J U y.seq,Aa A1 y.shelf.length c1,Aa A2 n2 c2] w (b:=w.heap.size) rfl;have B0:Below w w (w.alloc (.cells #[J U y.now,J U y.seq,Aa A1 y.shelf.length c1,Aa A2 n2 c2] 31)):=by repeat (first | exact Bq _ _ | refine Ae ?_ Bn _)
 by_cases a3:y.shelf.length=4;case neg =>
  have a3':((y.shelf.length:Int) != 4)=true:=by simp;omega
  have H:=Bp (Ck (show ¬ Jc y from fun h=>a3 h.1));clear a3;go_enter Tryz.func215,Tryz.ntmps215;go_wp2;go_ret;exact ⟨Bw H.out.symm,B0⟩
 have a3':((y.shelf.length:Int) != 4)=false:=by simp [a3]
 have A3_:=Bp a3;clear a3;go_enter Tryz.func215,Tryz.ntmps215;go_wp2;generalize (w.alloc (.cells #[J U y.now,J U y.seq,Aa A1 y.shelf.length c1,Aa A2 n2 c2] 31))=W at *
 clear a3';go_loopw [3] (fun i wr=>∃ k:Nat,k<=y.shelf.length/\i = J U k/\Hid (∀ j (hj:j<y.shelf.length),j<k->Hk y.shelf[j])/\Below W W wr) (fun i _=>y.shelf.length - (intOf i).toNat);case atStart=>exact ⟨0,Ag _,rfl,fun j _ h0=>absurd h0 Bk,Bq _ _⟩
 case round =>
  obtain ⟨k,hk,rfl,aU,hb⟩:=hrel;replace X:=X.below hb;replace B0:=Bs B0 hb;obtain ⟨X_0,X_1,X_2,X_3,X_l⟩:=X.g4;by_cases aA:k<y.shelf.length
  ·have aB:(k:Int)<(y.shelf.length:Int):=Bk;obtain ⟨b,o,⟨As,ns,cs⟩,kE,aG,hr,d0⟩:=(h1.below B0).entryS aA;obtain rfl:ns=y.shelf[k].length:=RdL.at1 (s:=⟨As,ns,cs⟩) hr;subst kE;have C:=Te y.shelf[k] ⟨As,y.shelf[k].length,cs⟩ wr (HE.out k aA) (hr.more B0.size);by_cases q:Hk y.shelf[k]
   ·have S:Hid (∀ j (hj:j<y.shelf.length),j<k+1->Hk y.shelf[j]):=fun j hj dN=>by
     by_cases e:j=k
     ·subst e;exact q
     ·exact aU.out j hj Bk
    rw [D6 q] at C;clear q;go_wp2_with fail
    refine C.mono ?_;rintro e w2 ⟨rfl,b2⟩;go_wp2;first
     | exact ⟨⟨k+1,Bk,by go_num,S,Bs hb b2⟩,by simp [intOf];omega⟩
     | (refine ⟨?_,by simp [intOf];omega⟩;(repeat apply Exists.intro);first | exact ⟨⟨k+1,Bk,by go_num,S,Bs hb b2⟩,rfl⟩ | exact ⟨⟨k+1,Bk,by go_num,S,Bs hb b2⟩,rfl,rfl⟩ | exact ⟨⟨k+1,Bk,by go_num,S,Bs hb b2⟩,rfl,rfl,rfl⟩ | exact ⟨⟨k+1,Bk,by go_num,S,Bs hb b2⟩,rfl,rfl,rfl,rfl⟩ | exact ⟨⟨k+1,Bk,by go_num,S,Bs hb b2⟩,rfl,rfl,rfl,rfl,rfl⟩ | exact ⟨⟨k+1,Bk,by go_num,S,Bs hb b2⟩,rfl,rfl,rfl,rfl,rfl,rfl⟩ | exact ⟨⟨k+1,Bk,by go_num,S,Bs hb b2⟩,rfl,rfl,rfl,rfl,rfl,rfl,rfl⟩)
   ·have H:=Bp (Ck (show ¬ Jc y from fun h=>q (h.2.1 _ (Aw aA))));rw [Ck q] at C;clear q;go_wp2_with fail
    refine C.mono ?_;rintro e w2 ⟨rfl,b2⟩;go_wp2;go_ret;exact ⟨Bw H.out.symm,Bs B0 b2⟩
  ·have aB:¬ (k:Int)<(y.shelf.length:Int):=Bk;have HS:Hid (∀ k (hk:k<y.shelf.length),Hk y.shelf[k]):=fun j hj=>aU.out j hj Bk;have C:=M5 y (⟨A1,y.shelf.length,c1⟩,⟨A2,n2,c2⟩) wr hl (HR.out _ B0);go_wp2_with fail
   refine C.mono ?_;rintro e w2 ⟨v,rfl,o2,b2⟩;replace X:=X.below b2;replace B0:=Bs B0 b2;clear X_0 X_1 X_2 X_3 X_l aU aA aB hb;have O2:=Rd.of_own o2;clear o2;obtain ⟨A3,c3,rfl,-⟩:=id O2;have pD:=HEn.out;go_wp2;go_loopw [5] (fun i wr=>∃ k:Nat,k<=(Ce y).length/\i = J U k/\Hid (Ms y.seq (Ce y) k)/\Below w2 w2 wr) (fun i _=>(Ce y).length - (intOf i).toNat);case atStart=>exact ⟨0,Ag _,rfl,fun j _ h0=>absurd h0 Bk,Bq _ _⟩
   case round =>
    obtain ⟨k,hk,rfl,aU,hb⟩:=hrel;have X1:=X.below hb;obtain ⟨X1_0,X1_1,X1_2,X1_3,X1_l⟩:=X1.g4;by_cases aA:k<(Ce y).length
    ·have aB:(k:Int)<((Ce y).length:Int):=Bk;obtain ⟨b,o,_,gZ,aG,_,d0,d1,d2,d3⟩:=RdL.entry (Ki (O2.below hb)) aA;subst gZ;have bL:b<wr:=Ai aG hb.size;have w1':U.wrap (y.seq - 1)=y.seq - 1:=Ar _ Bk;have aJ:=Cy wr;have B1:=Bs B0 hb;cases q1:inB (Ce y)[k].seq 1 (y.seq - 1)
     ·have H:=Bp (Ck (show ¬ Jc y from fun h=>by
       have:=Cp.2 (h.2.2.1 _ (Aw aA))
       rw [q1] at this;cases this))
      go_wp2;refine Bv Bl Bl ?_;repeat (go_big_quiet_step ((go_at_call 155;exact Ed (fun u=>Cf _ _ _ u.1))))
      refine Ak ?_;rintro _ ⟨⟨w3,b3⟩,rfl⟩;clear aJ;go_wp2;go_ret;exact ⟨Bw H.out.symm,Bs B1 b3⟩
     have HQ:=Bp (Cp.1 q1);go_wp2;refine Bv Bl Bl ?_;repeat (go_big_quiet_step ((go_at_call 155;exact Ed (fun u=>Cf _ _ _ u.1))))
     refine Ak ?_;rintro _ ⟨⟨w3,b3⟩,rfl⟩;clear aJ;go_wp2;clear d0 d1 d2 d3 bL X1_0 X1_1 X1_2 X1_3 X1_l X1 q1 w1';go_loopw [6] (fun i wq=>∃ m:Nat,m<=k/\i = J U m/\Hid (Yh (Ce y) k m)/\Below wr wr wq) (fun i _=>k - (intOf i).toNat);case atStart=>exact ⟨0,Ag _,rfl,fun j _ _ h0=>absurd h0 Bk,b3⟩
     case round =>
      obtain ⟨m,hm,rfl,bZ,cB⟩:=hrel;by_cases nK:m<k
      ·have jD:(m:Int)<(k:Int):=Bk;obtain ⟨b',o',_,bJ,bN,_,d0,d1,d2,d3⟩:=RdL.entry (Ki (O2.below (Bs hb cB))) aA;simp only [Option.some.injEq,Addr.mk.injEq,and_true] at bJ;obtain ⟨rfl,rfl⟩:=bJ;obtain ⟨b',o',_,bJ,_,_,f0,f1,f2,f3⟩:=RdL.entry (Ki (O2.below (Bs hb cB))) (show m<(Ce y).length by omega);simp only [Option.some.injEq,Addr.mk.injEq,and_true] at bJ;obtain ⟨rfl,rfl⟩:=bJ;have hmJ:(m:Int)<((Ce y).length:Int):=Bk;have cI:=cB.size;by_cases q2:(Ce y)[m].seq=(Ce y)[k].seq
       ·have H:=Bp (Ck (show ¬ Jc y from fun h=>by
         have h3:=List.pairwise_iff_getElem.1 h.2.2.2 m k (by rw [Au];omega) (by rw [Au];omega) Bk;rw [List.getElem_map,List.getElem_map] at h3;exact h3 q2))
        have q2':((Ce y)[m].seq == (Ce y)[k].seq)=true:=beq_iff_eq.2 q2;clear q2;go_wp2;go_quiet (fail);go_wp2;go_ret;exact ⟨Bw H.out.symm,Cj (Bs B1 cB) _⟩
       ·have S:Hid (Yh (Ce y) k (m+1)):=fun j hj aZ hjm=>by
         by_cases e:j=m
         ·subst e;exact q2
         ·exact bZ.out j hj aZ Bk
        have q2':((Ce y)[m].seq == (Ce y)[k].seq)=false:=beq_eq_false_iff_ne.2 q2;clear q2;go_wp2;go_quiet (fail);go_wp2;first
         | exact ⟨⟨m+1,Bk,by go_num,S,Cj cB _⟩,by simp [intOf];omega⟩
         | (refine ⟨?_,by simp [intOf];omega⟩;(repeat apply Exists.intro);first | exact ⟨⟨m+1,Bk,by go_num,S,Cj cB _⟩,rfl⟩ | exact ⟨⟨m+1,Bk,by go_num,S,Cj cB _⟩,rfl,rfl⟩ | exact ⟨⟨m+1,Bk,by go_num,S,Cj cB _⟩,rfl,rfl,rfl⟩ | exact ⟨⟨m+1,Bk,by go_num,S,Cj cB _⟩,rfl,rfl,rfl,rfl⟩ | exact ⟨⟨m+1,Bk,by go_num,S,Cj cB _⟩,rfl,rfl,rfl,rfl,rfl⟩ | exact ⟨⟨m+1,Bk,by go_num,S,Cj cB _⟩,rfl,rfl,rfl,rfl,rfl,rfl⟩ | exact ⟨⟨m+1,Bk,by go_num,S,Cj cB _⟩,rfl,rfl,rfl,rfl,rfl,rfl,rfl⟩)
      ·have jD:¬ (m:Int)<(k:Int):=Bk;have S:Hid (Ms y.seq (Ce y) (k+1)):=W9 aU.out aA (Cp.2 HQ.out) (Z3 aA (fun j hj aZ hjm=>bZ.out j hj aZ Bk) (fun j hj dN=>by
        by_cases e:j=k
        ·subst e;exact HQ.out.1
        ·exact (aU.out j hj Bk).1.1))
       go_wp2;first
        | exact ⟨⟨k+1,Bk,by go_num,S,Bs hb cB⟩,by simp [intOf];omega⟩
        | (refine ⟨?_,by simp [intOf];omega⟩;(repeat apply Exists.intro);first | exact ⟨⟨k+1,Bk,by go_num,S,Bs hb cB⟩,rfl⟩ | exact ⟨⟨k+1,Bk,by go_num,S,Bs hb cB⟩,rfl,rfl⟩ | exact ⟨⟨k+1,Bk,by go_num,S,Bs hb cB⟩,rfl,rfl,rfl⟩ | exact ⟨⟨k+1,Bk,by go_num,S,Bs hb cB⟩,rfl,rfl,rfl,rfl⟩ | exact ⟨⟨k+1,Bk,by go_num,S,Bs hb cB⟩,rfl,rfl,rfl,rfl,rfl⟩ | exact ⟨⟨k+1,Bk,by go_num,S,Bs hb cB⟩,rfl,rfl,rfl,rfl,rfl,rfl⟩ | exact ⟨⟨k+1,Bk,by go_num,S,Bs hb cB⟩,rfl,rfl,rfl,rfl,rfl,rfl,rfl⟩)
    ·have aB:¬ (k:Int)<((Ce y).length:Int):=Bk;have H:=Bp (D6 (Abp A3_.out HS.out (fun j hj hj2=>aU.out j hj Bk)));go_wp2;go_ret;exact ⟨Bw H.out.symm,Bs B0 hb⟩
theorem Aff {l:List UInt8} (h:l.length≠0):l.isEmpty=false:=by cases l with
 | nil=>exact absurd rfl h
 | cons a l=>rfl
theorem Aga (n:Int) (h:0<=n):n.tmod 4=n % 4:=Int.tmod_eq_emod_of_nonneg h
theorem Af7 (n:Int) (h:0<=n):U.wrap (n % 4)=n % 4:=Ar _ (by have:=Int.emod_nonneg n (show (4:Int)≠0 by decide);have:=Int.emod_lt_of_pos n (show (0:Int)<4 by decide);omega)
theorem Tm (id:Int) (w:World) :
  Calls An 238 #[J U id] w fun e w'=>e = .returned (J U (Cz id))/\Below w w w':=by
 have rM:=Y9 id;have aQ:=Aeb (Gs id);have C:=Bp (Tc id w);by_cases h0:(Gs id).length=0
 ·have H:=Bp (show (Cz id:Int)=0 by unfold Cz;rw [if_pos h0];rfl);have hE:Gs id=[]:=List.eq_nil_of_length_eq_zero h0;rw [hE] at C;clear aQ h0;go_enter Tryz.func238,Tryz.ntmps238;go_wp2_with (go_at_call 253;refine C.out.mono ?_;rintro e w1 ⟨rfl,b1⟩)
  go_ret;exact ⟨by rw [H.out];rfl,b1⟩
 ·have H:=Bp (show (Cz id:Int)=Nm (Gs id) % 4 by
   unfold Cz;rw [if_neg h0];exact Int.toNat_of_nonneg (Int.emod_nonneg _ Bo))
  have hem:=Aff h0;have CS:=Bp (fun W=>Wh (Gs id) W Bk);have r4:=Aga _ aQ.1;have w4:=Af7 _ aQ.1;generalize Nm (Gs id)=sm at *
  generalize Gs id=L at *
  go_enter Tryz.func238,Tryz.ntmps238;go_wp2_with (first | (go_at_call 253;refine C.out.mono ?_;rintro e w1 ⟨rfl,b1⟩) | (go_at_call 254;refine (CS.out _).mono ?_;rintro e w2 ⟨rfl,b2⟩))
  go_ret;exact ⟨by rw [H.out];rfl,Bs b1 b2⟩
theorem Rd.fromL {α:Type} {e:Enc α} {w:World} {B:Nat} {b o n c:Nat} {l:List α} (h:Rd e w B (Aa (Ac ⟨b,o,Ab⟩) n c) l) (k:Nat) (hk:k<=l.length):Rd e w B (Aa (Ac ⟨b,o+k * e.sz,Ab⟩) (l.length - k) (c - k)) (l.drop k):=by
 obtain ⟨A',c0,hv,hc,hA⟩:=h;simp only [Value.slice.injEq] at hv;obtain ⟨rfl,rfl,rfl⟩:=hv;refine ⟨_,c - k,by rw [List.length_drop],by rw [List.length_drop];omega,fun hl=>?_⟩;rw [List.length_drop] at hl;obtain ⟨b',o',hb,aA,aY⟩:=hA Bk;simp only [Option.some.injEq,Addr.mk.injEq,and_true] at hb;obtain ⟨rfl,rfl⟩:=hb;refine ⟨b,o+k * e.sz,rfl,aA,fun i hi j u hu=>?_⟩;rw [List.length_drop] at hi;rw [List.getElem_drop] at hu
 have:=aY (k+i) Bk j u hu
 rw [show o+k * e.sz+i * e.sz+j=o+(k+i) * e.sz+j from by rw [Nat.add_mul,<-Nat.add_assoc]];exact this
theorem Rd.fromNone {α:Type} {e:Enc α} {w:World} {B:Nat} {A:Option Addr} {n c:Nat} {l:List α} (k:Nat) (hk:l.length<=k) (hn:n=0):Rd e w B (Aa A n c) (l.drop k):=by
 subst hn;rw [List.drop_eq_nil_of_le hk];exact ⟨_,c,rfl,Ag _,fun h=>absurd h Bm⟩
theorem Jo (l:List Entry) (s:Sl) (e:Entry) (w:World) (hl:l.length<=2000000) (h:RdL Cg w w s.v l) :
  Calls An 239 #[.slice s.a s.n s.c,H7 e ()] w (Fc (Dt.list Cg) slV (Hu l e) w):=by
 obtain ⟨A,n,c⟩:=s;obtain rfl:n=l.length:=RdL.at1 (s:=⟨A,n,c⟩) h;obtain ⟨i0,aL,aR,aS,aP⟩:=info_parts Fw;have h0:=Bp (fun W (hW:Below w w W)=>((Iv h).below hW).more hW.size);have X:=DBox.new 93 [.int .i64 e.prio,.int .i64 e.seq,.int .i64 e.run,.int .i64 e.task] w (b:=w.heap.size) rfl;have B0:Below w w (w.alloc (.cells #[.int .i64 e.prio,.int .i64 e.seq,.int .i64 e.run,.int .i64 e.task] 93)):=by repeat (first | exact Bq _ _ | refine Ae ?_ Bn _)
 go_enter Tryz.func239,Tryz.ntmps239;go_wp2;generalize H7 e ()=ev;go_loopw [5] (fun i wr=>∃ k:Nat,k<=l.length/\i = .int .i64 k/\Hid (∀ j (hj:j<l.length),j<k->Dm l[j] e=true)/\DBox w [.int .i64 e.prio,.int .i64 e.seq,.int .i64 e.run,.int .i64 e.task] wr/\Below w w wr) (fun i _=>l.length - (intOf i).toNat);case atStart=>exact ⟨0,Ag _,rfl,fun j hj h0=>absurd h0 Bk,X,B0⟩
 case round =>
  clear X B0;obtain ⟨k,hk,rfl,aU,X,hb⟩:=hrel;have X_:=X.g4;have aJ:=Cy wr;by_cases aA:k<l.length
  ·have aB:(k:Int)<(l.length:Int):=Bk;have cS:(0:Int)<=(k:Int):=Bk;obtain ⟨b,o,_,rfl,aG,_,c0,c1,c2,c3⟩:=(h.below hb).entry aA;have hs:b<wr:=Ai aG hb.size;cases t2:Dm l[k] e;case true =>
    have S:=Bp (show ∀ j (hj:j<l.length),j<k+1->Dm l[j] e=true from fun j hj dN=>by
     by_cases hjk2:j=k
     ·subst hjk2;exact t2
     ·exact aU.out j hj Bk)
    go_wp2;refine Bv Bl Bl ?_;repeat (go_big_quiet_step ((go_at_call 255;rename_i x;have h1:=Jv l[k] e x.1;exact Ea h1)))
    refine Ak ?_;rintro _ ⟨⟨w1,b1⟩,rfl⟩;clear aJ;go_wp2;exact ⟨⟨k+1,Bk,by go_num,S,X.below b1,Bs hb b1⟩,by simp [intOf];omega⟩
   case false =>
    have HP:=Bp (Tz hk aU.out (fun _=>t2));go_wp2;refine Bv Bl Bl ?_;repeat (go_big_quiet_step ((go_at_call 255;rename_i x;have h1:=Jv l[k] e x.1;exact Ea h1)))
    refine Ak ?_;rintro w0 ⟨⟨_,b1⟩,rfl⟩;clear aJ;clear X_;replace X:=X.below b1;have BB:=(Bs hb b1)
    have gB:k<=c:=Ah hk (h0.out _ BB).cap;have mD:(k:Int)<=(c:Int):=Bk;have a0:=Bp (show ∀ W,Below w w W->Rd Cu W W (.slice (Ac ⟨b,o,Ab⟩) k c) (l.take k) from fun W hW=>(h0.out _ hW).take hk c gB);have q1:Below w0 w0 (w0.alloc (.cells #[] 93)):=(Bq _ _).alloc (Br _) _;have cH:=Bp (show (l.take k).length<=2000000 by simp;omega);have aX:=Bp (show (l.take k ++ [e]).length<=2000001 by simp;omega);have hlt3:=Bp (show (l.drop k).length<=2000000 by simp;omega);rcases Nat.lt_or_ge k c with hkc2 | hkc2
    ·have mX:¬ c=k:=Bk;go_wp2_with (first | (at_builtin;refine Bz _ Cu Bo rfl (.tmp 21) (.tmp 24) rfl Tryz.underlying96 aL aR aS aP rfl (base:=w0.heap.size) (v:=.slice (Ac ⟨w0,0,Ab⟩) 0 0) (l:=[]) rfl (Ow.empty Cu 93 w0 (g:=w0.heap.size) rfl) (A:=(Ac ⟨b,o,Ab⟩)) (m:=k) (c:=_) (ys:=l.take k) rfl (a0.out _ (Bs BB q1)) Bm (by have:=cH.out;omega) Bo q1.size ?_;intro v1 w1 o1 g1 _;rw [List.nil_append] at o1;have d1:Below w0 w0 w1:=q1.grown g1 q1.size (fun g hg=>Nat.le_of_eq (Option.some.inj hg));have X1:=X.below d1;have x0:=X1.cell 0 _ rfl;have x1:=X1.cell 1 _ rfl;have x2:=X1.cell 2 _ rfl;have x3:=X1.cell 3 _ rfl;have xl:=X1.lt;have sD:=d1.size) | (at_builtin;refine Bz _ Cu Bo rfl (.tmp 26) (.tmp 28) rfl Tryz.underlying96 aL aR aS aP rfl (base:=w0.heap.size) (v:=v1) (l:=l.take k) rfl (o1.below ((Bq _ _).alloc (Br _) _)) (A:=Ac ⟨w1,0,Ab⟩) (m:=1) (c:=1) (ys:=[e]) rfl (Rd.one Cu w1 _ e rfl rfl 1 (Br _) (Nat.lt_succ_self _)) (by have:=cH.out;omega) Bm Bo (d1.alloc d1.size _).size ?_;intro v2 w2 o2 g2 _;have d2:Below w0 w0 w2:=(d1.alloc d1.size _).grown g2 (d1.alloc d1.size _).size (fun g hg=>(o1.within g hg).1)) | (at_builtin;refine Bz _ Cu Bo rfl (.tmp 30) (.tmp 33) rfl Tryz.underlying96 aL aR aS aP rfl (base:=w0.heap.size) (v:=v2) (l:=l.take k ++ [e]) rfl o2 (A:=Ac ⟨b,o+k * 4,Ab⟩) (m:=l.length - k) (c:=c - k) (ys:=l.drop k) rfl ((h0.out _ (Bs BB d2)).fromL k hk) (by have:=aX.out;omega) (by have:=hlt3.out;omega) Bo d2.size ?_;intro v3 w3 o3 g3 _;have d3:Below w0 w0 w3:=d2.grown g3 d2.size (fun g hg=>(o2.within g hg).1)))
     obtain ⟨s9,F9,rfl,o9,n9⟩:=Ha o3;go_ret;exact ⟨s9,F9,rfl,by rw [HP.out];exact o9,fun x hx=>Ah BB.size (n9 x hx),Bs BB d3⟩
    ·exact absurd (h0.out _ BB).cap (by show ¬ l.length<=c;omega)
  ·have aB:¬ (k:Int)<(l.length:Int):=Bk;have HP:=Bp (Tz hk aU.out (fun hh=>absurd hh aA));go_wp2;refine Bv Bl Bl ?_;repeat (go_big_quiet_step (fail))
   refine Ak ?_;rintro w0 ⟨⟨_,b1⟩,rfl⟩;clear aJ;clear X_;replace X:=X.below b1;have BB:=(Bs hb b1)
   have gB:k<=c:=Ah hk (h0.out _ BB).cap;have mD:(k:Int)<=(c:Int):=Bk;have a0:=Bp (show ∀ W,Below w w W->Rd Cu W W (.slice A k c) (l.take k) from fun W hW=>(h0.out _ hW).take hk c gB);have q1:Below w0 w0 (w0.alloc (.cells #[] 93)):=(Bq _ _).alloc (Br _) _;have cH:=Bp (show (l.take k).length<=2000000 by simp;omega);have aX:=Bp (show (l.take k ++ [e]).length<=2000001 by simp;omega);have hlt3:=Bp (show (l.drop k).length<=2000000 by simp;omega);rcases Nat.lt_or_ge k c with hkc2 | hkc2
   ·have mX:¬ c=k:=Bk;go_wp2_with (first | (at_builtin;refine Bz _ Cu Bo rfl (.tmp 21) (.tmp 24) rfl Tryz.underlying96 aL aR aS aP rfl (base:=w0.heap.size) (v:=.slice (Ac ⟨w0,0,Ab⟩) 0 0) (l:=[]) rfl (Ow.empty Cu 93 w0 (g:=w0.heap.size) rfl) (A:=A) (m:=k) (c:=_) (ys:=l.take k) rfl (a0.out _ (Bs BB q1)) Bm (by have:=cH.out;omega) Bo q1.size ?_;intro v1 w1 o1 g1 _;rw [List.nil_append] at o1;have d1:Below w0 w0 w1:=q1.grown g1 q1.size (fun g hg=>Nat.le_of_eq (Option.some.inj hg));have X1:=X.below d1;have x0:=X1.cell 0 _ rfl;have x1:=X1.cell 1 _ rfl;have x2:=X1.cell 2 _ rfl;have x3:=X1.cell 3 _ rfl;have xl:=X1.lt;have sD:=d1.size) | (at_builtin;refine Bz _ Cu Bo rfl (.tmp 26) (.tmp 28) rfl Tryz.underlying96 aL aR aS aP rfl (base:=w0.heap.size) (v:=v1) (l:=l.take k) rfl (o1.below ((Bq _ _).alloc (Br _) _)) (A:=Ac ⟨w1,0,Ab⟩) (m:=1) (c:=1) (ys:=[e]) rfl (Rd.one Cu w1 _ e rfl rfl 1 (Br _) (Nat.lt_succ_self _)) (by have:=cH.out;omega) Bm Bo (d1.alloc d1.size _).size ?_;intro v2 w2 o2 g2 _;have d2:Below w0 w0 w2:=(d1.alloc d1.size _).grown g2 (d1.alloc d1.size _).size (fun g hg=>(o1.within g hg).1)) | (at_builtin;refine Bz _ Cu Bo rfl (.tmp 30) (.tmp 33) rfl Tryz.underlying96 aL aR aS aP rfl (base:=w0.heap.size) (v:=v2) (l:=l.take k ++ [e]) rfl o2 (A:=A.map fun x=>x.add (k * 4)) (m:=l.length - k) (c:=c - k) (ys:=l.drop k) rfl (Rd.fromNone (B:=0) k Bk Bk) (by have:=aX.out;omega) (by have:=hlt3.out;omega) Bo d2.size ?_;intro v3 w3 o3 g3 _;have d3:Below w0 w0 w3:=d2.grown g3 d2.size (fun g hg=>(o2.within g hg).1)))
    obtain ⟨s9,F9,rfl,o9,n9⟩:=Ha o3;go_ret;exact ⟨s9,F9,rfl,by rw [HP.out];exact o9,fun x hx=>Ah BB.size (n9 x hx),Bs BB d3⟩
   ·obtain rfl:k=c:=Bk;go_wp2_with (first | (at_builtin;refine Bz _ Cu Bo rfl (.tmp 21) (.tmp 24) rfl Tryz.underlying96 aL aR aS aP rfl (base:=w0.heap.size) (v:=.slice (Ac ⟨w0,0,Ab⟩) 0 0) (l:=[]) rfl (Ow.empty Cu 93 w0 (g:=w0.heap.size) rfl) (A:=A) (m:=k) (c:=_) (ys:=l.take k) rfl (a0.out _ (Bs BB q1)) Bm (by have:=cH.out;omega) Bo q1.size ?_;intro v1 w1 o1 g1 _;rw [List.nil_append] at o1;have d1:Below w0 w0 w1:=q1.grown g1 q1.size (fun g hg=>Nat.le_of_eq (Option.some.inj hg));have X1:=X.below d1;have x0:=X1.cell 0 _ rfl;have x1:=X1.cell 1 _ rfl;have x2:=X1.cell 2 _ rfl;have x3:=X1.cell 3 _ rfl;have xl:=X1.lt;have sD:=d1.size) | (at_builtin;refine Bz _ Cu Bo rfl (.tmp 26) (.tmp 28) rfl Tryz.underlying96 aL aR aS aP rfl (base:=w0.heap.size) (v:=v1) (l:=l.take k) rfl (o1.below ((Bq _ _).alloc (Br _) _)) (A:=Ac ⟨w1,0,Ab⟩) (m:=1) (c:=1) (ys:=[e]) rfl (Rd.one Cu w1 _ e rfl rfl 1 (Br _) (Nat.lt_succ_self _)) (by have:=cH.out;omega) Bm Bo (d1.alloc d1.size _).size ?_;intro v2 w2 o2 g2 _;have d2:Below w0 w0 w2:=(d1.alloc d1.size _).grown g2 (d1.alloc d1.size _).size (fun g hg=>(o1.within g hg).1)) | (at_builtin;refine Bz _ Cu Bo rfl (.tmp 30) (.tmp 33) rfl Tryz.underlying96 aL aR aS aP rfl (base:=w0.heap.size) (v:=v2) (l:=l.take k ++ [e]) rfl o2 (A:=A) (m:=l.length - k) (c:=0) (ys:=l.drop k) rfl (Rd.fromNone (B:=0) k Bk Bk) (by have:=aX.out;omega) (by have:=hlt3.out;omega) Bo d2.size ?_;intro v3 w3 o3 g3 _;have d3:Below w0 w0 w3:=d2.grown g3 d2.size (fun g hg=>(o2.within g hg).1)))
    obtain ⟨s9,F9,rfl,o9,n9⟩:=Ha o3;go_ret;exact ⟨s9,F9,rfl,by rw [HP.out];exact o9,fun x hx=>Ah BB.size (n9 x hx),Bs BB d3⟩
theorem DBox.drew4 {b:Nat} {cs:List Value} {w:World} (h:DBox b cs w):DBox b cs w.drew:=⟨h.cell,h.free,h.lt⟩
theorem DBox.row4 {b:Nat} {cs:List Value} {w:World} (h:DBox b cs w) (hn:cs.length=4) (u0 u1 u2 u3:Value) :
  DBox b [u0,u1,u2,u3] ((((w.setCell ⟨b,0,Ab⟩ u0).setCell ⟨b,1,Ab⟩ u1).setCell ⟨b,2,Ab⟩ u2).setCell ⟨b,3,Ab⟩ u3):=by
 obtain ⟨c0,c1,c2,c3,rfl⟩:∃ c0 c1 c2 c3,cs=[c0,c1,c2,c3]:=by
  match cs,hn with
  | [c0,c1,c2,c3],_=>exact ⟨c0,c1,c2,c3,rfl⟩
 exact (((h.set 0 Bm u0).set 1 Bm u1).set 2 Bm u2).set 3 Bm u3
theorem Vj {b:Nat} {w:World} {u0 u1 u2 u3:Value} (X:DBox b [u0,u1,u2,u3] w) {v0 v1 v3 v4:Value} {rest:List Value} :
  (results Tryz.f207 (v0 :: v1 :: .pointer (Ac ⟨b,0,Ab⟩) :: v3 :: v4 :: rest).toArray).run An w = .ok (.tuple #[.agg #[u0,u1,u2,u3],v3,v4]) w:=by
 have c0:=X.cell 0 _ rfl;have c1:=X.cell 1 _ rfl;have c2:=X.cell 2 _ rfl;have c3:=X.cell 3 _ rfl;simp [results,Tryz.results207,go_sem,c0,c1,c2,c3]
def Z6 (l:List Entry) (w:World) (e:Ending) (w':World):Prop :=
 ∃ (s:Sl) (F:List Nat),e = .returned (.tuple #[H7 (l.headD ⟨0,0,0,0⟩) (),Aa s.a s.n s.c,.bool (!l.isEmpty)])/\OwL Cg w' F s.v l.tail/\(∀ x∈F,w<=x)/\Below w w w'
theorem Ql (l:List Entry) (s:Sl) (w:World) (hl:l.length<=2000000) (h:RdL Cg w w s.v l) :
  Calls An 207 #[.slice s.a s.n s.c] w (Z6 l w):=by
 obtain ⟨A,n,c⟩:=s;obtain rfl:n=l.length:=RdL.at1 (s:=⟨A,n,c⟩) h;obtain ⟨i0,aL,aR,aS,aP⟩:=info_parts Fw;have h0:=Bp (fun W (hW:Below w w W)=>((Iv h).below hW).more hW.size);cases l with
 | nil =>
  have R:=DBox.new 93 [.int .i64 0,.int .i64 0,.int .i64 0,.int .i64 0] w (b:=w.heap.size) rfl;have B0:Below w w (w.alloc (.cells #[.int .i64 0,.int .i64 0,.int .i64 0,.int .i64 0] 93)):=by repeat (first | exact Bq _ _ | refine Ae ?_ Bn _)
  go_enter Tryz.func207,Tryz.ntmps207;go_wp2;have R1:=R.below ((Bq _ _).alloc (Br _) (.cells #[] 93));refine Aj (v:=.tuple #[.agg #[.int .i64 0,.int .i64 0,.int .i64 0,.int .i64 0],.slice (Ac ⟨w.heap.size+1,0,Ab⟩) 0 0,.bool false]) (Vj R1) rfl ⟨⟨Ac ⟨w.heap.size+1,0,Ab⟩,0,0⟩,[],rfl,OwL.nil _ _ _ _,Bm,?_⟩;repeat (first | (with_reducible exact B0) | refine Ad ?_ Bn _ | refine Ae ?_ Bn _)
 | cons e tl =>
  have h1:((((e :: tl).length:Nat):Int) == 0)=false:=by rw [beq_eq_false_iff_ne];simp;omega
  obtain ⟨b,o,_,rfl,aG,_,c0,c1,c2,c3⟩:=h.entry (k:=0) (by simp);simp only [Nat.zero_mul,Nat.add_zero,List.getElem_cons_zero] at c0 c1 c2 c3;have jL:1<=(e :: tl).length:=Bm;have cH:=Bp (show tl.length<=3000000 by simp at hl;omega);have sH:=Bp (show (e :: tl).drop 1=tl from rfl);have bT:(e :: tl).length<=c:=(h0.out w (Bq _ _)).cap;generalize hL:(e :: tl).length=L at *
  have hLI:(0:Int)<(L:Int):=Bk;have hLI1:(1:Int)<=(L:Int):=Bk;have hLN:0<L:=Bk;obtain ⟨W,aH,R,B0⟩:=bx1 w 93 [.int .i64 0,.int .i64 0,.int .i64 0,.int .i64 0];go_enter Tryz.func207,Tryz.ntmps207;go_wp2;rw [<-aH.out];clear aH;have hs:=B0.size;have hbW:b<W:=Bk;have HS0:=Bp (show ∀ W',Below w w W'->(fun w'=>w'.cell? ⟨b,o,Ab⟩=Ac (.int .i64 e.prio)/\w'.cell? ⟨b,o+1,Ab⟩=Ac (.int .i64 e.seq)/\w'.cell? ⟨b,o+2,Ab⟩=Ac (.int .i64 e.run)/\w'.cell? ⟨b,o+3,Ab⟩=Ac (.int .i64 e.task)) W' from fun W' jV=>⟨(jV.cell (p:=⟨b,_,Ab⟩) aG).trans c0,(jV.cell (p:=⟨b,_,Ab⟩) aG).trans c1,(jV.cell (p:=⟨b,_,Ab⟩) aG).trans c2,(jV.cell (p:=⟨b,_,Ab⟩) aG).trans c3⟩);have B1:=B0.drew;replace R:=DBox.drew4 R;rcases Nat.lt_or_ge 1 c with hkc2 | hkc2
  ·have mX:¬ c=1:=Bk;have hcI:(1:Int)<=(c:Int):=Bk;refine Go.wp_region_noPanic ?_;refine wp_region_held_drew (S:=(fun w'=>w'.cell? ⟨b,o,Ab⟩=Ac (.int .i64 e.prio)/\w'.cell? ⟨b,o+1,Ab⟩=Ac (.int .i64 e.seq)/\w'.cell? ⟨b,o+2,Ab⟩=Ac (.int .i64 e.run)/\w'.cell? ⟨b,o+3,Ab⟩=Ac (.int .i64 e.task))) Bl (HS0.out _ B1) (fun hHeld=>?_);generalize W.drew=w1 at *
   refine tV 0 ?_
   (try simp only [pS])
   refine tV 1 ?_
   (try simp only [pS])
   refine tV 2 ?_
   (try simp only [pS])
   refine tV 4 ?_
   (try simp only [pS])
   refine tV 5 ?_
   (try simp only [pS])
   refine rC 3 (fun K_ hK=>?_);go_simp;have o2:=Ow.empty Cu 93 w1 (g:=w1.heap.size) rfl;have b2:Below w1 w1 (w1.alloc (.cells #[] 93)):=(Bq _ _).alloc (Br _) _;have B2:=Bs B1 b2;have R2:=R.below b2;generalize w1.alloc (.cells #[] 93)=w2 at *
   refine hK.out _ _ (HS0.out _ B2) (fun hHeld=>?_);clear hK K_
   (try simp only [pS])
   refine rC 6 (fun K_ hK=>?_);have rd1:=(h0.out _ B2).fromL 1 (by show 1<=(e :: tl).length;simp);rw [hL,sH.out] at rd1;refine Ep _ Cu Bo (.tmp 13) (.tmp 15) 96 rfl w1.heap.size 93 _ _ _ Tryz.underlying96 aL aR aS aP rfl _ [] rfl o2 _ _ _ _ tl rfl rd1 Bm cH.out Bo b2.size ?_;intro v3 w3 o3 g3 _;rw [List.nil_append] at o3;have b3:Below w1 w1 w3:=b2.grown g3 b2.size (fun g hg=>Nat.le_of_eq (Option.some.inj hg));have B3:=Bs B1 b3;have R3:=R.below b3;refine hK.out _ _ (HS0.out _ B3) (fun hHeld=>?_);clear hK K_
   (try simp only [pS])
   have e0:=R3.cell 0 _ rfl;have e1:=R3.cell 1 _ rfl;have e2:=R3.cell 2 _ rfl;have e3:=R3.cell 3 _ rfl;have ef:=R3.free;have el:=R3.lt;refine rC 7 (fun K_ hK=>?_);go_simp;have R4:=DBox.row4 R3 rfl (.int .i64 e.prio) (.int .i64 e.seq) (.int .i64 e.run) (.int .i64 e.task);have B4:Below w w ((((w3.setCell ⟨w,0,Ab⟩ (.int .i64 e.prio)).setCell ⟨w,1,Ab⟩ (.int .i64 e.seq)).setCell ⟨w,2,Ab⟩ (.int .i64 e.run)).setCell ⟨w,3,Ab⟩ (.int .i64 e.task)):=by
    repeat (first | (with_reducible exact B3) | refine Ad ?_ Bn _)
   have o4:=(((o3.setLow (a:=⟨w,0,Ab⟩) (by show w.heap.size<w1.heap.size;have:=R.lt;omega) (.int .i64 e.prio)).setLow (a:=⟨w,1,Ab⟩) (by show w.heap.size<w1.heap.size;have:=R.lt;omega) (.int .i64 e.seq)).setLow (a:=⟨w,2,Ab⟩) (by show w.heap.size<w1.heap.size;have:=R.lt;omega) (.int .i64 e.run)).setLow (a:=⟨w,3,Ab⟩) (by show w.heap.size<w1.heap.size;have:=R.lt;omega) (.int .i64 e.task);generalize ((((w3.setCell ⟨w,0,Ab⟩ (.int .i64 e.prio)).setCell ⟨w,1,Ab⟩ (.int .i64 e.seq)).setCell ⟨w,2,Ab⟩ (.int .i64 e.run)).setCell ⟨w,3,Ab⟩ (.int .i64 e.task))=w4 at *
   clear e0 e1 e2 e3 ef el;refine hK.out _ _ (HS0.out _ B4) (fun hHeld=>?_);clear hK K_
   (try simp only [pS])
   refine rC 8 (fun K_ hK=>?_);go_simp;refine hK.out _ _ (HS0.out _ B4) (fun hHeld=>?_);clear hK K_
   (try simp only [pS])
   refine rC 9 (fun K_ hK=>?_);go_simp;refine hK.out _ _ (HS0.out _ B4) (fun hHeld=>?_);clear hK K_
   (try simp only [pS])
   refine Al Bl ?_ _;refine NoPanic.normal ?_;clear hHeld;obtain ⟨s9,F9,rfl,o9,n9⟩:=Ha o4;go_wp2;refine Aj (v:=.tuple #[H7 e (),.slice s9.a s9.n s9.c,.bool true]) (Vj R4) rfl ⟨s9,F9,rfl,o9,fun x hx=>Ah (by have:=R.lt;omega) (n9 x hx),B4⟩
  ·obtain rfl:c=1:=Bk;obtain rfl:L=1:=Bk;refine Go.wp_region_noPanic ?_;refine wp_region_held_drew (S:=(fun w'=>w'.cell? ⟨b,o,Ab⟩=Ac (.int .i64 e.prio)/\w'.cell? ⟨b,o+1,Ab⟩=Ac (.int .i64 e.seq)/\w'.cell? ⟨b,o+2,Ab⟩=Ac (.int .i64 e.run)/\w'.cell? ⟨b,o+3,Ab⟩=Ac (.int .i64 e.task))) Bl (HS0.out _ B1) (fun hHeld=>?_);generalize W.drew=w1 at *
   refine tV 0 ?_
   (try simp only [pS])
   refine tV 1 ?_
   (try simp only [pS])
   refine tV 2 ?_
   (try simp only [pS])
   refine tV 4 ?_
   (try simp only [pS])
   refine tV 5 ?_
   (try simp only [pS])
   refine rC 3 (fun K_ hK=>?_);go_simp;have o2:=Ow.empty Cu 93 w1 (g:=w1.heap.size) rfl;have b2:Below w1 w1 (w1.alloc (.cells #[] 93)):=(Bq _ _).alloc (Br _) _;have B2:=Bs B1 b2;have R2:=R.below b2;generalize w1.alloc (.cells #[] 93)=w2 at *
   refine hK.out _ _ (HS0.out _ B2) (fun hHeld=>?_);clear hK K_
   (try simp only [pS])
   refine rC 6 (fun K_ hK=>?_);have rd1:Rd Cu w2 0 (.slice (Ac ⟨b,o,Ab⟩) 0 0) tl:=Rd.fromNone (B:=0) (l:=e :: tl) 1 (by show (e :: tl).length<=1;rw [hL];exact Br _) rfl;refine Ep _ Cu Bo (.tmp 13) (.tmp 15) 96 rfl w1.heap.size 93 _ _ _ Tryz.underlying96 aL aR aS aP rfl _ [] rfl o2 _ _ _ _ tl rfl rd1 Bm cH.out Bo b2.size ?_;intro v3 w3 o3 g3 _;rw [List.nil_append] at o3;have b3:Below w1 w1 w3:=b2.grown g3 b2.size (fun g hg=>Nat.le_of_eq (Option.some.inj hg));have B3:=Bs B1 b3;have R3:=R.below b3;refine hK.out _ _ (HS0.out _ B3) (fun hHeld=>?_);clear hK K_
   (try simp only [pS])
   have e0:=R3.cell 0 _ rfl;have e1:=R3.cell 1 _ rfl;have e2:=R3.cell 2 _ rfl;have e3:=R3.cell 3 _ rfl;have ef:=R3.free;have el:=R3.lt;refine rC 7 (fun K_ hK=>?_);go_simp;have R4:=DBox.row4 R3 rfl (.int .i64 e.prio) (.int .i64 e.seq) (.int .i64 e.run) (.int .i64 e.task);have B4:Below w w ((((w3.setCell ⟨w,0,Ab⟩ (.int .i64 e.prio)).setCell ⟨w,1,Ab⟩ (.int .i64 e.seq)).setCell ⟨w,2,Ab⟩ (.int .i64 e.run)).setCell ⟨w,3,Ab⟩ (.int .i64 e.task)):=by
    repeat (first | (with_reducible exact B3) | refine Ad ?_ Bn _)
   have o4:=(((o3.setLow (a:=⟨w,0,Ab⟩) (by show w.heap.size<w1.heap.size;have:=R.lt;omega) (.int .i64 e.prio)).setLow (a:=⟨w,1,Ab⟩) (by show w.heap.size<w1.heap.size;have:=R.lt;omega) (.int .i64 e.seq)).setLow (a:=⟨w,2,Ab⟩) (by show w.heap.size<w1.heap.size;have:=R.lt;omega) (.int .i64 e.run)).setLow (a:=⟨w,3,Ab⟩) (by show w.heap.size<w1.heap.size;have:=R.lt;omega) (.int .i64 e.task);generalize ((((w3.setCell ⟨w,0,Ab⟩ (.int .i64 e.prio)).setCell ⟨w,1,Ab⟩ (.int .i64 e.seq)).setCell ⟨w,2,Ab⟩ (.int .i64 e.run)).setCell ⟨w,3,Ab⟩ (.int .i64 e.task))=w4 at *
   clear e0 e1 e2 e3 ef el;refine hK.out _ _ (HS0.out _ B4) (fun hHeld=>?_);clear hK K_
   (try simp only [pS])
   refine rC 8 (fun K_ hK=>?_);go_simp;refine hK.out _ _ (HS0.out _ B4) (fun hHeld=>?_);clear hK K_
   (try simp only [pS])
   refine rC 9 (fun K_ hK=>?_);go_simp;refine hK.out _ _ (HS0.out _ B4) (fun hHeld=>?_);clear hK K_
   (try simp only [pS])
   refine Al Bl ?_ _;refine NoPanic.normal ?_;clear hHeld;obtain ⟨s9,F9,rfl,o9,n9⟩:=Ha o4;go_wp2;refine Aj (v:=.tuple #[H7 e (),.slice s9.a s9.n s9.c,.bool true]) (Vj R4) rfl ⟨s9,F9,rfl,o9,fun x hx=>Ah (by have:=R.lt;omega) (n9 x hx),B4⟩
def Vk (l:List Entry) (w:World) (e:Ending) (w':World):Prop :=
 ∃ (s1:Sl) (F1:List Nat) (s2:Sl) (F2:List Nat),e = .returned (.tuple #[Aa s1.a s1.n s1.c,Aa s2.a s2.n s2.c])/\OwL Cg w' F1 s1.v (l.take (Cw l))/\OwL Cg w' F2 s2.v (l.drop (Cw l))/\(∀ x∈F1,w<=x)/\(∀ x∈F2,w<=x)/\(∀ x∈F1,x∉F2)/\Below w w w'
theorem I0 {w:World} {E:TypeId} {base:Nat} {v:Value} {l:List Entry} (h:Ow Cu E w base v l):∃ (s:Sl) (F:List Nat),v = Aa s.a s.n s.c/\OwL Cg w F s.v l/\(∀ b∈F,base<=b)/\(∀ b∈F,v.ownBlock=Ac b):=by
 obtain ⟨h1,h2⟩:=Hw.of_ow h;obtain ⟨⟨A,c,hv,hc,hA⟩,hF,hf⟩:=id h1;subst hv;refine ⟨⟨A,l.length,c⟩,_,rfl,⟨l.map fun x=>(x,()),Eh (Aa A l.length c) l.length,[],by rw [List.map_map];exact List.map_id _,⟨⟨A,c,by rw [Au],by rw [Au];exact hc,fun hl=>?_⟩,by rw [Au],hf⟩,Rh w l,(List.append_nil _).symm,h1.nodup⟩,h2,H6 _ _⟩;rw [Au] at hl;obtain ⟨b,o,h3,h4,h5⟩:=hA hl;refine ⟨b,o,h3,h4,fun k hk j u hu=>?_⟩;rw [List.getElem_map] at hu;exact h5 k (by rw [Au] at hk;exact hk) j u hu
theorem Z7 (n:Nat):((n:Int)+1).tdiv 2=((n+1) / 2:Nat):=by
 rw [Int.tdiv_eq_ediv_of_nonneg Bk];omega
theorem Rd.dropM {α:Type} {e:Enc α} {w:World} {B:Nat} {A:Option Addr} {n c:Nat} {l:List α} (h:Rd e w B (Aa A n c) l) (k:Nat) (hk:k<=l.length):Rd e w B (Aa (A.map fun x=>x.add (k * e.sz)) (l.length - k) (c - k)) (l.drop k):=by
 obtain ⟨A',c0,hv,hc,hA⟩:=h;simp only [Value.slice.injEq] at hv;obtain ⟨rfl,rfl,rfl⟩:=hv;refine ⟨_,c - k,by rw [List.length_drop],by rw [List.length_drop];omega,fun hl=>?_⟩;rw [List.length_drop] at hl;obtain ⟨b,o,hb,aA,aY⟩:=hA Bk;refine ⟨b,o+k * e.sz,by rw [hb];simp only [Option.map_some,Option.some.injEq];unfold Addr.add;split<;>simp_all,aA,fun i hi j u hu=>?_⟩;rw [List.length_drop] at hi;rw [List.getElem_drop] at hu
 have:=aY (k+i) Bk j u hu
 rw [show o+k * e.sz+i * e.sz+j=o+(k+i) * e.sz+j from by rw [Nat.add_mul,<-Nat.add_assoc]];exact this
theorem Yi (l:List Entry) (s:Sl) (w:World) (hl:l.length<=2000000) (h:RdL Cg w w s.v l) :
  Calls An 205 #[.slice s.a s.n s.c] w (Vk l w):=by
 obtain ⟨A,n,c⟩:=s;obtain rfl:n=l.length:=RdL.at1 (s:=⟨A,n,c⟩) h;obtain ⟨i0,aL,aR,aS,aP⟩:=info_parts Fw;have h0:=Bp (fun W (hW:Below w w W)=>((Iv h).below hW).more hW.size);have hd:=Z7 l.length;rw [show (l.length+1) / 2=Cw l from rfl] at hd;have fR:=Zq l;have hw1:U.wrap ((l.length:Int)+1)=(l.length:Int)+1:=Ar _ Bk;have qT:U.wrap (Cw l:Int)=(Cw l:Int):=Ar _ Bk;have bT:l.length<=c:=(h0.out w (Bq _ _)).cap;have gB:Cw l<=c:=Bk;have mD:(Cw l:Int)<=(c:Int):=Bk;have hklI:(Cw l:Int)<=(l.length:Int):=Bk;have hk0I:(0:Int)<=(Cw l:Int):=Bk;have a0:=Bp (show ∀ W,Below w w W->Rd Cu W W (.slice A (Cw l) c) (l.take (Cw l)) from fun W hW=>(h0.out _ hW).take fR c gB);have cH:=Bp (show (l.take (Cw l)).length<=3000000 by simp;omega);have aX:=Bp (show (l.drop (Cw l)).length<=3000000 by simp;omega);have a1:=((h0.out w (Bq _ _)).dropM (Cw l) fR)
 go_enter Tryz.func205,Tryz.ntmps205;go_upto_region 2 with fail
 rcases Nat.lt_or_ge (Cw l) c with hk2 | hk2
 have mX:¬ c=Cw l:=Bk;have r0:=a0;have rr:=Bp (show ∀ W,Below w w W->Rd Cu W W (.slice (A.map fun x=>x.add (Cw l * 4)) (l.length - Cw l) (c - Cw l)) (l.drop (Cw l)) from fun W hW=>(a1.below hW).more hW.size);rotate_left;have mX:c=Cw l:=Bk;have rQ:l.length=Cw l:=Bk;have r0:=Bp (show ∀ W,Below w w W->Rd Cu W W (.slice A (Cw l) (Cw l)) (l.take (Cw l)) from fun W hW=>by have h9:=a0.out W hW;rw [mX] at h9;exact h9);have rr:=Bp (show ∀ W,Below w w W->Rd Cu W W (.slice A 0 0) (l.drop (Cw l)) from fun W hW=>by
  rw [List.drop_eq_nil_of_le Bk];exact ⟨A,0,rfl,Ag _,fun h=>absurd h Bm⟩)
 all_goals
  clear a1;refine Go.wp_region_noPanic ?_;refine wp_region_held_drew (S:=fun _=>True) Bl trivial (fun hHeld=>?_);have B1:Below w w w.drew:=(Bq _ _).drew;generalize w.drew=w1 at *
  refine tY 1 ?_
  (try simp only [pS])
  refine tY 2 ?_
  (try simp only [pS])
  refine tY 3 ?_
  (try simp only [pS])
  refine tY 6 ?_
  (try simp only [pS])
  refine tY 7 ?_
  (try simp only [pS])
  refine tY 8 ?_
  (try simp only [pS])
  refine Xq 0 5 rfl rfl Bl (by rfl) (by rfl) (fun K_ hK=>?_) (fun K_ hK=>?_)
  ·go_simp;obtain ⟨g9,fY⟩:∃ g,g=w1.heap.size:=⟨_,rfl⟩
   rw [<-fY];have bb:Below w1 w1 (w1.alloc (.cells #[] 93)):=(Bq _ _).alloc (Br _) _;have o9:Ow Cu 93 (w1.alloc (.cells #[] 93)) w (.slice (Ac ⟨g9,0,Ab⟩) 0 0) []:=(Ow.empty Cu 93 w1 fY).more (by have:=B1.size;omega);have z9:g9<(w1.alloc (.cells #[] 93)):=by simp;omega
   have Bw1a:=Bs B1 bb;have y9:=bb.size;have ga9:=Nat.le_of_eq fY;have gb9:=Nat.le_of_eq fY.symm;clear bb fY;generalize w1.alloc (.cells #[] 93)=w1a at *
   refine hK.out _ _ trivial (fun hHeld=>?_);clear hK K_
   (try simp only [pS])
   refine Xq 4 5 rfl rfl Bl (by rfl) (by rfl) (fun K_ hK=>?_) (fun K_ hK=>?_)
   ·obtain ⟨n13,dF⟩:∃ n,n=w1a.heap.size:=⟨_,rfl⟩
    refine Ep _ Cu Bo (.tmp 9) (.tmp 12) 96 rfl w.heap.size 93 _ _ _ Tryz.underlying96 aL aR aS aP rfl _ [] rfl o9 _ _ _ _ (l.take (Cw l)) rfl (r0.out _ Bw1a) Bm cH.out Bo Bw1a.size ?_;intro v13 w1ap o13 gg e13;rw [List.nil_append] at o13;rw [<-dF] at e13;have na13:=Nat.le_of_eq dF;have nb13:=Nat.le_of_eq dF.symm;clear dF;have t13:∀ g,v13.ownBlock=Ac g->g<w1ap.heap.size:=fun g h=>(o13.within g h).2;replace e13:v13.ownBlock=Ac g9\/v13.ownBlock=Ac n13:=e13;have Bw1ap:Below w w w1ap:=Bw1a.grown gg Bw1a.size (fun g hg=>(o9.within g hg).1);have y13:=gg.size;clear gg;refine hK.out _ _ trivial (fun hHeld=>?_);clear hK K_
    (try simp only [pS])
    refine rC 5 (fun K_ hK=>?_);go_simp;obtain ⟨g14,cW⟩:∃ g,g=w1ap.heap.size:=⟨_,rfl⟩
    rw [<-cW];have bb:Below w1ap w1ap (w1ap.alloc (.cells #[] 93)):=(Bq _ _).alloc (Br _) _;have o14:Ow Cu 93 (w1ap.alloc (.cells #[] 93)) w (.slice (Ac ⟨g14,0,Ab⟩) 0 0) []:=(Ow.empty Cu 93 w1ap cW).more (by have:=Bw1ap.size;omega);have z14:g14<(w1ap.alloc (.cells #[] 93)):=by simp;omega
    have Bw1apa:=Bs Bw1ap bb;replace o13:=o13.below bb;have y14:=bb.size;have ga14:=Nat.le_of_eq cW;have gb14:=Nat.le_of_eq cW.symm;clear bb cW;generalize w1ap.alloc (.cells #[] 93)=w1apa at *
    refine hK.out _ _ trivial (fun hHeld=>?_);clear hK K_
    (try simp only [pS])
    refine rC 9 (fun K_ hK=>?_);obtain ⟨n18,dG⟩:∃ n,n=w1apa.heap.size:=⟨_,rfl⟩
    refine Ep _ Cu Bo (.tmp 14) (.tmp 17) 96 rfl w.heap.size 93 _ _ _ Tryz.underlying96 aL aR aS aP rfl _ [] rfl o14 _ _ _ _ (l.drop (Cw l)) rfl (rr.out _ Bw1apa) Bm aX.out Bo Bw1apa.size ?_;intro v18 w1apap o18 gg e18;rw [List.nil_append] at o18;rw [<-dG] at e18;have na18:=Nat.le_of_eq dG;have nb18:=Nat.le_of_eq dG.symm;clear dG;have t18:∀ g,v18.ownBlock=Ac g->g<w1apap.heap.size:=fun g h=>(o18.within g h).2;replace e18:v18.ownBlock=Ac g14\/v18.ownBlock=Ac n18:=e18;have Bw1apap:Below w w w1apap:=Bw1apa.grown gg Bw1apa.size (fun g hg=>(o14.within g hg).1);have y18:=gg.size;replace o13:=o13.grown gg (Or.inr (fun h=>by have:=t13 g14 h;rcases e13 with h2 | h2<;>(rw [h2] at h;have:=Option.some.inj (show Ac _=Ac g14 from h);omega)));clear gg;refine hK.out _ _ trivial (fun hHeld=>?_);clear hK K_
    (try simp only [pS])
    refine rC 10 (fun K_ hK=>?_);go_simp;refine hK.out _ _ trivial (fun hHeld=>?_);clear hK K_
    (try simp only [pS])
    refine rC 11 (fun K_ hK=>?_);go_simp;refine hK.out _ _ trivial (fun hHeld=>?_);clear hK K_
    (try simp only [pS])
    refine Al Bl ?_ _;refine NoPanic.normal ?_;obtain ⟨s1,F1,rfl,p1,q1,r1⟩:=I0 o13;obtain ⟨s2,F2,rfl,p2,q2,r2⟩:=I0 o18;go_wp2;go_ret2;exact ⟨s1,F1,s2,F2,rfl,p1,p2,q1,q2,fun x hx hy=>by
     have a1:=r1 x hx;have a2:=r2 x hy;have a3:=t13 x a1;have a4:=t18 x a2;rcases e13 with h | h<;>rcases e18 with h' | h'<;>(rw [a1] at h;rw [a2] at h';have:=Option.some.inj h;have:=Option.some.inj h';omega),Bw1apap⟩
   ·go_simp;obtain ⟨g14,cW⟩:∃ g,g=w1a.heap.size:=⟨_,rfl⟩
    rw [<-cW];have bb:Below w1a w1a (w1a.alloc (.cells #[] 93)):=(Bq _ _).alloc (Br _) _;have o14:Ow Cu 93 (w1a.alloc (.cells #[] 93)) w (.slice (Ac ⟨g14,0,Ab⟩) 0 0) []:=(Ow.empty Cu 93 w1a cW).more (by have:=Bw1a.size;omega);have z14:g14<(w1a.alloc (.cells #[] 93)):=by simp;omega
    have Bw1aa:=Bs Bw1a bb;replace o9:=o9.below bb;have y14:=bb.size;have ga14:=Nat.le_of_eq cW;have gb14:=Nat.le_of_eq cW.symm;clear bb cW;generalize w1a.alloc (.cells #[] 93)=w1aa at *
    refine hK.out _ _ trivial (fun hHeld=>?_);clear hK K_
    (try simp only [pS])
    refine rC 4 (fun K_ hK=>?_);obtain ⟨n13,dF⟩:∃ n,n=w1aa.heap.size:=⟨_,rfl⟩
    refine Ep _ Cu Bo (.tmp 9) (.tmp 12) 96 rfl w.heap.size 93 _ _ _ Tryz.underlying96 aL aR aS aP rfl _ [] rfl o9 _ _ _ _ (l.take (Cw l)) rfl (r0.out _ Bw1aa) Bm cH.out Bo Bw1aa.size ?_;intro v13 w1aap o13 gg e13;rw [List.nil_append] at o13;rw [<-dF] at e13;have na13:=Nat.le_of_eq dF;have nb13:=Nat.le_of_eq dF.symm;clear dF;have t13:∀ g,v13.ownBlock=Ac g->g<w1aap.heap.size:=fun g h=>(o13.within g h).2;replace e13:v13.ownBlock=Ac g9\/v13.ownBlock=Ac n13:=e13;have Bw1aap:Below w w w1aap:=Bw1aa.grown gg Bw1aa.size (fun g hg=>(o9.within g hg).1);have y13:=gg.size;replace o14:=o14.grown gg (Or.inr (fun h=>by have:=Option.some.inj (show Ac g14=Ac g9 from h);omega));clear gg;refine hK.out _ _ trivial (fun hHeld=>?_);clear hK K_
    (try simp only [pS])
    refine rC 9 (fun K_ hK=>?_);obtain ⟨n18,dG⟩:∃ n,n=w1aap.heap.size:=⟨_,rfl⟩
    refine Ep _ Cu Bo (.tmp 14) (.tmp 17) 96 rfl w.heap.size 93 _ _ _ Tryz.underlying96 aL aR aS aP rfl _ [] rfl o14 _ _ _ _ (l.drop (Cw l)) rfl (rr.out _ Bw1aap) Bm aX.out Bo Bw1aap.size ?_;intro v18 w1aapp o18 gg e18;rw [List.nil_append] at o18;rw [<-dG] at e18;have na18:=Nat.le_of_eq dG;have nb18:=Nat.le_of_eq dG.symm;clear dG;have t18:∀ g,v18.ownBlock=Ac g->g<w1aapp.heap.size:=fun g h=>(o18.within g h).2;replace e18:v18.ownBlock=Ac g14\/v18.ownBlock=Ac n18:=e18;have Bw1aapp:Below w w w1aapp:=Bw1aap.grown gg Bw1aap.size (fun g hg=>(o14.within g hg).1);have y18:=gg.size;replace o13:=o13.grown gg (Or.inr (fun h=>by have:=t13 g14 h;rcases e13 with h2 | h2<;>(rw [h2] at h;have:=Option.some.inj (show Ac _=Ac g14 from h);omega)));clear gg;refine hK.out _ _ trivial (fun hHeld=>?_);clear hK K_
    (try simp only [pS])
    refine rC 10 (fun K_ hK=>?_);go_simp;refine hK.out _ _ trivial (fun hHeld=>?_);clear hK K_
    (try simp only [pS])
    refine rC 11 (fun K_ hK=>?_);go_simp;refine hK.out _ _ trivial (fun hHeld=>?_);clear hK K_
    (try simp only [pS])
    refine Al Bl ?_ _;refine NoPanic.normal ?_;obtain ⟨s1,F1,rfl,p1,q1,r1⟩:=I0 o13;obtain ⟨s2,F2,rfl,p2,q2,r2⟩:=I0 o18;go_wp2;go_ret2;exact ⟨s1,F1,s2,F2,rfl,p1,p2,q1,q2,fun x hx hy=>by
     have a1:=r1 x hx;have a2:=r2 x hy;have a3:=t13 x a1;have a4:=t18 x a2;rcases e13 with h | h<;>rcases e18 with h' | h'<;>(rw [a1] at h;rw [a2] at h';have:=Option.some.inj h;have:=Option.some.inj h';omega),Bw1aapp⟩
  ·go_simp;obtain ⟨g14,cW⟩:∃ g,g=w1.heap.size:=⟨_,rfl⟩
   rw [<-cW];have bb:Below w1 w1 (w1.alloc (.cells #[] 93)):=(Bq _ _).alloc (Br _) _;have o14:Ow Cu 93 (w1.alloc (.cells #[] 93)) w (.slice (Ac ⟨g14,0,Ab⟩) 0 0) []:=(Ow.empty Cu 93 w1 cW).more (by have:=B1.size;omega);have z14:g14<(w1.alloc (.cells #[] 93)):=by simp;omega
   have Bw1a:=Bs B1 bb;have y14:=bb.size;have ga14:=Nat.le_of_eq cW;have gb14:=Nat.le_of_eq cW.symm;clear bb cW;generalize w1.alloc (.cells #[] 93)=w1a at *
   refine hK.out _ _ trivial (fun hHeld=>?_);clear hK K_
   (try simp only [pS])
   refine rC 0 (fun K_ hK=>?_);go_simp;obtain ⟨g9,fY⟩:∃ g,g=w1a.heap.size:=⟨_,rfl⟩
   rw [<-fY];have bb:Below w1a w1a (w1a.alloc (.cells #[] 93)):=(Bq _ _).alloc (Br _) _;have o9:Ow Cu 93 (w1a.alloc (.cells #[] 93)) w (.slice (Ac ⟨g9,0,Ab⟩) 0 0) []:=(Ow.empty Cu 93 w1a fY).more (by have:=Bw1a.size;omega);have z9:g9<(w1a.alloc (.cells #[] 93)):=by simp;omega
   have Bw1aa:=Bs Bw1a bb;replace o14:=o14.below bb;have y9:=bb.size;have ga9:=Nat.le_of_eq fY;have gb9:=Nat.le_of_eq fY.symm;clear bb fY;generalize w1a.alloc (.cells #[] 93)=w1aa at *
   refine hK.out _ _ trivial (fun hHeld=>?_);clear hK K_
   (try simp only [pS])
   refine rC 4 (fun K_ hK=>?_);obtain ⟨n13,dF⟩:∃ n,n=w1aa.heap.size:=⟨_,rfl⟩
   refine Ep _ Cu Bo (.tmp 9) (.tmp 12) 96 rfl w.heap.size 93 _ _ _ Tryz.underlying96 aL aR aS aP rfl _ [] rfl o9 _ _ _ _ (l.take (Cw l)) rfl (r0.out _ Bw1aa) Bm cH.out Bo Bw1aa.size ?_;intro v13 w1aap o13 gg e13;rw [List.nil_append] at o13;rw [<-dF] at e13;have na13:=Nat.le_of_eq dF;have nb13:=Nat.le_of_eq dF.symm;clear dF;have t13:∀ g,v13.ownBlock=Ac g->g<w1aap.heap.size:=fun g h=>(o13.within g h).2;replace e13:v13.ownBlock=Ac g9\/v13.ownBlock=Ac n13:=e13;have Bw1aap:Below w w w1aap:=Bw1aa.grown gg Bw1aa.size (fun g hg=>(o9.within g hg).1);have y13:=gg.size;replace o14:=o14.grown gg (Or.inr (fun h=>by have:=Option.some.inj (show Ac g14=Ac g9 from h);omega));clear gg;refine hK.out _ _ trivial (fun hHeld=>?_);clear hK K_
   (try simp only [pS])
   refine rC 9 (fun K_ hK=>?_);obtain ⟨n18,dG⟩:∃ n,n=w1aap.heap.size:=⟨_,rfl⟩
   refine Ep _ Cu Bo (.tmp 14) (.tmp 17) 96 rfl w.heap.size 93 _ _ _ Tryz.underlying96 aL aR aS aP rfl _ [] rfl o14 _ _ _ _ (l.drop (Cw l)) rfl (rr.out _ Bw1aap) Bm aX.out Bo Bw1aap.size ?_;intro v18 w1aapp o18 gg e18;rw [List.nil_append] at o18;rw [<-dG] at e18;have na18:=Nat.le_of_eq dG;have nb18:=Nat.le_of_eq dG.symm;clear dG;have t18:∀ g,v18.ownBlock=Ac g->g<w1aapp.heap.size:=fun g h=>(o18.within g h).2;replace e18:v18.ownBlock=Ac g14\/v18.ownBlock=Ac n18:=e18;have Bw1aapp:Below w w w1aapp:=Bw1aap.grown gg Bw1aap.size (fun g hg=>(o14.within g hg).1);have y18:=gg.size;replace o13:=o13.grown gg (Or.inr (fun h=>by have:=t13 g14 h;rcases e13 with h2 | h2<;>(rw [h2] at h;have:=Option.some.inj (show Ac _=Ac g14 from h);omega)));clear gg;refine hK.out _ _ trivial (fun hHeld=>?_);clear hK K_
   (try simp only [pS])
   refine rC 10 (fun K_ hK=>?_);go_simp;refine hK.out _ _ trivial (fun hHeld=>?_);clear hK K_
   (try simp only [pS])
   refine rC 11 (fun K_ hK=>?_);go_simp;refine hK.out _ _ trivial (fun hHeld=>?_);clear hK K_
   (try simp only [pS])
   refine Al Bl ?_ _;refine NoPanic.normal ?_;obtain ⟨s1,F1,rfl,p1,q1,r1⟩:=I0 o13;obtain ⟨s2,F2,rfl,p2,q2,r2⟩:=I0 o18;go_wp2;go_ret2;exact ⟨s1,F1,s2,F2,rfl,p1,p2,q1,q2,fun x hx hy=>by
    have a1:=r1 x hx;have a2:=r2 x hy;have a3:=t13 x a1;have a4:=t18 x a2;rcases e13 with h | h<;>rcases e18 with h' | h'<;>(rw [a1] at h;rw [a2] at h';have:=Option.some.inj h;have:=Option.some.inj h';omega),Bw1aapp⟩
end Go.Proofs.YtonlnjdempbfoaaGreat
