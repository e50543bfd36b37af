/-
  Shelves of the reference: ShelfOf, PutEntry, TakeEntry, HalfOf, Merged. Written by program (kb.py). The earliest and the latest times of a plan: plain facts. Ya
-/
import Derived.Test.YtecnbnbopcblgaaGreatZVw0
import Derived.Test.YtecnbnbopcblgaaGreatZVw1
import Derived.Test.YtecnbnbopcblgaaGreatZVw2
import Derived.Test.YtecnbnbopcblgaaGreatZVw3
import Derived.Test.YtecnbnbopcblgaaGreatZVw5
import Derived.Test.YtecnbnbopcblgaaGreatZVw6
import Derived.IntWalk
import Derived.BigRegion
import Derived.ChangeAlike
namespace Go.Proofs.YtecnbnbopcblgaaGreat
open Go.RowKit
set_option maxRecDepth 100000
set_option maxHeartbeats 4000000
set_option linter.unusedVariables false
set_option linter.unusedSimpArgs false
open Value renaming int->J,slice->Aa
open IntKind renaming i64->Ab
open Option renaming none->Ac,some->Ad
open Below renaming setCell->Ae,alloc->Af
open Nat renaming zero_le->Ah,le_trans->Ai,lt_of_lt_of_le->Aj
open Go renaming bodyPost_ret->Ak,wpQuiet_nil->Al,wpAnyH_done->Am
open Go.Proofs.Tryz renaming prog->An
open IntWalk renaming i64_in->Ar
open List renaming length_map->Au,getElem_mem->Ax
open Go.Proofs.Tryz
theorem Afl {l:List UInt8} (h:l.length≠0):l.isEmpty=false:=by cases l with
 | nil=>exact absurd rfl h
 | cons a l=>rfl
theorem Ajm (n:Int) (h:0<=n):n.tmod 4=n % 4:=Int.tmod_eq_emod_of_nonneg h
theorem Ai8 (n:Int) (h:0<=n):Ab.wrap (n % 4)=n % 4:=Ar _ (by have:=Int.emod_nonneg n (show (4:Int)≠0 by decide);have:=Int.emod_lt_of_pos n (show (0:Int)<4 by decide);omega)
theorem U9 (id:Int) (w:World) :
  Calls An 290 #[J Ab id] w fun e w'=>e = .returned (J Ab (Cz id))/\Below w w w':=by
 have rV:=Ty id;have aZ:=Ab8 (Eo id);have C:=Bq (U1 id w);by_cases h0:(Eo id).length=0
 ·have H:=Bq (show (Cz id:Int)=0 by unfold Cz;rw [if_pos h0];rfl);have hE:Eo id=[]:=List.eq_nil_of_length_eq_zero h0;rw [hE] at C;clear aZ h0;go_enter func290,ntmps290;go_wp2_with (go_at_call 306;refine C.out.mono ?_;rintro e w1 ⟨rfl,b1⟩)
  go_ret;exact ⟨by rw [H.out];rfl,b1⟩
 ·have H:=Bq (show (Cz id:Int)=Lr (Eo id) % 4 by
   unfold Cz;rw [if_neg h0];exact Int.toNat_of_nonneg (Int.emod_nonneg _ Bp))
  have hem:=Afl h0;have CS:=Bq (fun W=>Ys (Eo id) W Bl);have r4:=Ajm _ aZ.1;have w4:=Ai8 _ aZ.1;generalize Lr (Eo id)=sm at *
  generalize Eo id=L at *
  go_enter func290,ntmps290;go_wp2_with (first | (go_at_call 306;refine C.out.mono ?_;rintro e w1 ⟨rfl,b1⟩) | (go_at_call 307;refine (CS.out _).mono ?_;rintro e w2 ⟨rfl,b2⟩))
  go_ret;exact ⟨by rw [H.out];rfl,Bv b1 b2⟩
theorem Rd.fromL {α:Type} {e:Enc α} {w:World} {B:Nat} {b o n c:Nat} {l:List α} (h:Rd e w B (Aa (Ad ⟨b,o,Ac⟩) n c) l) (k:Nat) (hk:k<=l.length):Rd e w B (Aa (Ad ⟨b,o+k * e.sz,Ac⟩) (l.length - k) (c - k)) (l.drop k):=by
 obtain ⟨A',c0,hv,hc,hA⟩:=h;simp only [Value.slice.injEq] at hv;obtain ⟨rfl,rfl,rfl⟩:=hv;refine ⟨_,c - k,by rw [List.length_drop],by rw [List.length_drop];omega,fun hl=>?_⟩;rw [List.length_drop] at hl;obtain ⟨b',o',hb,aB,bV⟩:=hA Bl;simp only [Option.some.injEq,Addr.mk.injEq,and_true] at hb;obtain ⟨rfl,rfl⟩:=hb;refine ⟨b,o+k * e.sz,rfl,aB,fun i hi j u hu=>?_⟩;rw [List.length_drop] at hi;rw [List.getElem_drop] at hu
 have:=bV (k+i) Bl j u hu
 rw [show o+k * e.sz+i * e.sz+j=o+(k+i) * e.sz+j from by rw [Nat.add_mul,<-Nat.add_assoc]];exact this
theorem Rd.fromNone {α:Type} {e:Enc α} {w:World} {B:Nat} {A:Option Addr} {n c:Nat} {l:List α} (k:Nat) (hk:l.length<=k) (hn:n=0):Rd e w B (Aa A n c) (l.drop k):=by
 subst hn;rw [List.drop_eq_nil_of_le hk];exact ⟨_,c,rfl,Ah _,fun h=>absurd h Bn⟩
theorem K4 (l:List Entry) (s:Sl) (e:Entry) (w:World) (hl:l.length<=2000000) (h:RdL Ch w w s.v l) :
  Calls An 291 #[Aa s.a s.n s.c,Io e ()] w (Fa (Dt.list Ch) slV (Ip l e) w):=by
 obtain ⟨A,n,c⟩:=s;obtain rfl:n=l.length:=RdL.at1 (s:=⟨A,n,c⟩) h;obtain ⟨i0,aQ,aW,aU,aR⟩:=info_parts Gi;have h0:=Bq (fun W (hW:Below w w W)=>((J3 h).below hW).more hW.size);have X:=DBox.new 71 [J Ab e.prio,J Ab e.seq,J Ab e.run,J Ab e.task] w (b:=w) rfl;have B0:Below w w (w.alloc (.cells #[J Ab e.prio,J Ab e.seq,J Ab e.run,J Ab e.task] 71)):=by repeat (first | exact Br _ _ | refine Af ?_ Bo _)
 go_enter func291,ntmps291;go_wp2;generalize Io e ()=ev;go_loopw [5] (fun i wr=>∃ k:Nat,k<=l.length/\i = J Ab k/\Hid (∀ j (hj:j<l.length),j<k->D7 l[j] e=true)/\DBox w [J Ab e.prio,J Ab e.seq,J Ab e.run,J Ab e.task] wr/\Below w w wr) (fun i _=>l.length - (intOf i).toNat);case atStart=>exact ⟨0,Ah _,rfl,fun j hj h0=>absurd h0 Bl,X,B0⟩
 case round =>
  clear X B0;obtain ⟨k,hk,rfl,aY,X,hb⟩:=hrel;have X_:=X.g4;have aN:=Df wr;by_cases aB:k<l.length
  ·have aC:(k:Int)<(l.length:Int):=Bl;have dF:(0:Int)<=(k:Int):=Bl;obtain ⟨b,o,_,rfl,aH,_,c0,c1,c2,c3⟩:=(h.below hb).entry aB;have hs:b<wr:=Aj aH hb.size;cases t2:D7 l[k] e;case true =>
    have S:=Bq (show ∀ j (hj:j<l.length),j<k+1->D7 l[j] e=true from fun j hj fM=>by
     by_cases hjk2:j=k
     ·subst hjk2;exact t2
     ·exact aY.out j hj Bl)
    go_wp2;refine Bz Bm Bm ?_;repeat (go_big_quiet_step ((go_at_call 305;rename_i x;have h1:=Le l[k] e x.1;exact Fk h1)))
    refine Al ?_;rintro _ ⟨⟨w1,b1⟩,rfl⟩;clear aN;go_wp2;exact ⟨⟨k+1,Bl,by go_num,S,X.below b1,Bv hb b1⟩,clM⟩
   case false =>
    have HP:=Bq (Vo hk aY.out (fun _=>t2));go_wp2;refine Bz Bm Bm ?_;repeat (go_big_quiet_step ((go_at_call 305;rename_i x;have h1:=Le l[k] e x.1;exact Fk h1)))
    refine Al ?_;rintro w0 ⟨⟨_,b1⟩,rfl⟩;clear aN;clear X_;replace X:=X.below b1;have BB:=(Bv hb b1)
    have nV:k<=c:=Ai hk (h0.out _ BB).cap;have hkcI:(k:Int)<=(c:Int):=Bl;have a0:=Bq (show ∀ W,Below w w W->Rd Cw W W (Aa (Ad ⟨b,o,Ac⟩) k c) (l.take k) from fun W hW=>(h0.out _ hW).take hk c nV);have q1:Below w0 w0 (w0.alloc (.cells #[] 71)):=Bt;have dB:=Bq (show (l.take k).length<=2000000 by simp;omega);have aX:=Bq (show (l.take k ++ [e]).length<=2000001 by simp;omega);have hlt3:=Bq (show (l.drop k).length<=2000000 by simp;omega);rcases Nat.lt_or_ge k c with hkc2 | hkc2
    ·have qZ:¬ c=k:=Bl;go_wp2_with (first | (at_builtin;refine Cj _ Cw Bp rfl (.tmp 21) (.tmp 24) rfl underlying74 aQ aW aU aR rfl (base:=w0) (v:=Aa (Ad ⟨w0,0,Ac⟩) 0 0) (l:=[]) rfl (Ow.empty Cw 71 w0 (g:=w0) rfl) (A:=(Ad ⟨b,o,Ac⟩)) (m:=k) (c:=_) (ys:=l.take k) rfl (a0.out _ (Bv BB q1)) Bn (by have:=dB.out;omega) Bp q1.size ?_;intro v1 w1 o1 g1 _;rw [List.nil_append] at o1;have d1:Below w0 w0 w1:=q1.grown g1 q1.size (fun g hg=>Nat.le_of_eq (Option.some.inj hg));have X1:=X.below d1;have x0:=X1.cell 0 _ rfl;have x1:=X1.cell 1 _ rfl;have x2:=X1.cell 2 _ rfl;have x3:=X1.cell 3 _ rfl;have xl:=X1.lt;have uR:=d1.size) | (at_builtin;refine Cj _ Cw Bp rfl (.tmp 26) (.tmp 28) rfl underlying74 aQ aW aU aR rfl (base:=w0) (v:=v1) (l:=l.take k) rfl (o1.below (Bt)) (A:=Ad ⟨w1,0,Ac⟩) (m:=1) (c:=1) (ys:=[e]) rfl (Rd.one Cw w1 _ e rfl rfl 1 (Bs _) (Nat.lt_succ_self _)) (by have:=dB.out;omega) Bn Bp (d1.alloc d1.size _).size ?_;intro v2 w2 o2 g2 _;have d2:Below w0 w0 w2:=(d1.alloc d1.size _).grown g2 (d1.alloc d1.size _).size (fun g hg=>(o1.within g hg).1)) | (at_builtin;refine Cj _ Cw Bp rfl (.tmp 30) (.tmp 33) rfl underlying74 aQ aW aU aR rfl (base:=w0) (v:=v2) (l:=l.take k ++ [e]) rfl o2 (A:=Ad ⟨b,o+k * 4,Ac⟩) (m:=l.length - k) (c:=c - k) (ys:=l.drop k) rfl ((h0.out _ (Bv BB d2)).fromL k hk) (by have:=aX.out;omega) (by have:=hlt3.out;omega) Bp d2.size ?_;intro v3 w3 o3 g3 _;have d3:Below w0 w0 w3:=d2.grown g3 d2.size (fun g hg=>(o2.within g hg).1)))
     obtain ⟨s9,F9,rfl,o9,n9⟩:=Ib o3;go_ret;exact ⟨s9,F9,rfl,by rw [HP.out];exact o9,fun x hx=>Ai BB.size (n9 x hx),Bv BB d3⟩
    ·exact absurd (h0.out _ BB).cap (by show ¬ l.length<=c;omega)
  ·have aC:¬ (k:Int)<(l.length:Int):=Bl;have HP:=Bq (Vo hk aY.out (fun hh=>absurd hh aB));go_wp2;refine Bz Bm Bm ?_;repeat (go_big_quiet_step (fail))
   refine Al ?_;rintro w0 ⟨⟨_,b1⟩,rfl⟩;clear aN;clear X_;replace X:=X.below b1;have BB:=(Bv hb b1)
   have nV:k<=c:=Ai hk (h0.out _ BB).cap;have hkcI:(k:Int)<=(c:Int):=Bl;have a0:=Bq (show ∀ W,Below w w W->Rd Cw W W (Aa A k c) (l.take k) from fun W hW=>(h0.out _ hW).take hk c nV);have q1:Below w0 w0 (w0.alloc (.cells #[] 71)):=Bt;have dB:=Bq (show (l.take k).length<=2000000 by simp;omega);have aX:=Bq (show (l.take k ++ [e]).length<=2000001 by simp;omega);have hlt3:=Bq (show (l.drop k).length<=2000000 by simp;omega);rcases Nat.lt_or_ge k c with hkc2 | hkc2
   ·have qZ:¬ c=k:=Bl;go_wp2_with (first | (at_builtin;refine Cj _ Cw Bp rfl (.tmp 21) (.tmp 24) rfl underlying74 aQ aW aU aR rfl (base:=w0) (v:=Aa (Ad ⟨w0,0,Ac⟩) 0 0) (l:=[]) rfl (Ow.empty Cw 71 w0 (g:=w0) rfl) (A:=A) (m:=k) (c:=_) (ys:=l.take k) rfl (a0.out _ (Bv BB q1)) Bn (by have:=dB.out;omega) Bp q1.size ?_;intro v1 w1 o1 g1 _;rw [List.nil_append] at o1;have d1:Below w0 w0 w1:=q1.grown g1 q1.size (fun g hg=>Nat.le_of_eq (Option.some.inj hg));have X1:=X.below d1;have x0:=X1.cell 0 _ rfl;have x1:=X1.cell 1 _ rfl;have x2:=X1.cell 2 _ rfl;have x3:=X1.cell 3 _ rfl;have xl:=X1.lt;have uR:=d1.size) | (at_builtin;refine Cj _ Cw Bp rfl (.tmp 26) (.tmp 28) rfl underlying74 aQ aW aU aR rfl (base:=w0) (v:=v1) (l:=l.take k) rfl (o1.below (Bt)) (A:=Ad ⟨w1,0,Ac⟩) (m:=1) (c:=1) (ys:=[e]) rfl (Rd.one Cw w1 _ e rfl rfl 1 (Bs _) (Nat.lt_succ_self _)) (by have:=dB.out;omega) Bn Bp (d1.alloc d1.size _).size ?_;intro v2 w2 o2 g2 _;have d2:Below w0 w0 w2:=(d1.alloc d1.size _).grown g2 (d1.alloc d1.size _).size (fun g hg=>(o1.within g hg).1)) | (at_builtin;refine Cj _ Cw Bp rfl (.tmp 30) (.tmp 33) rfl underlying74 aQ aW aU aR rfl (base:=w0) (v:=v2) (l:=l.take k ++ [e]) rfl o2 (A:=A.map fun x=>x.add (k * 4)) (m:=l.length - k) (c:=c - k) (ys:=l.drop k) rfl (Rd.fromNone (B:=0) k Bl Bl) (by have:=aX.out;omega) (by have:=hlt3.out;omega) Bp d2.size ?_;intro v3 w3 o3 g3 _;have d3:Below w0 w0 w3:=d2.grown g3 d2.size (fun g hg=>(o2.within g hg).1)))
    obtain ⟨s9,F9,rfl,o9,n9⟩:=Ib o3;go_ret;exact ⟨s9,F9,rfl,by rw [HP.out];exact o9,fun x hx=>Ai BB.size (n9 x hx),Bv BB d3⟩
   ·obtain rfl:k=c:=Bl;go_wp2_with (first | (at_builtin;refine Cj _ Cw Bp rfl (.tmp 21) (.tmp 24) rfl underlying74 aQ aW aU aR rfl (base:=w0) (v:=Aa (Ad ⟨w0,0,Ac⟩) 0 0) (l:=[]) rfl (Ow.empty Cw 71 w0 (g:=w0) rfl) (A:=A) (m:=k) (c:=_) (ys:=l.take k) rfl (a0.out _ (Bv BB q1)) Bn (by have:=dB.out;omega) Bp q1.size ?_;intro v1 w1 o1 g1 _;rw [List.nil_append] at o1;have d1:Below w0 w0 w1:=q1.grown g1 q1.size (fun g hg=>Nat.le_of_eq (Option.some.inj hg));have X1:=X.below d1;have x0:=X1.cell 0 _ rfl;have x1:=X1.cell 1 _ rfl;have x2:=X1.cell 2 _ rfl;have x3:=X1.cell 3 _ rfl;have xl:=X1.lt;have uR:=d1.size) | (at_builtin;refine Cj _ Cw Bp rfl (.tmp 26) (.tmp 28) rfl underlying74 aQ aW aU aR rfl (base:=w0) (v:=v1) (l:=l.take k) rfl (o1.below (Bt)) (A:=Ad ⟨w1,0,Ac⟩) (m:=1) (c:=1) (ys:=[e]) rfl (Rd.one Cw w1 _ e rfl rfl 1 (Bs _) (Nat.lt_succ_self _)) (by have:=dB.out;omega) Bn Bp (d1.alloc d1.size _).size ?_;intro v2 w2 o2 g2 _;have d2:Below w0 w0 w2:=(d1.alloc d1.size _).grown g2 (d1.alloc d1.size _).size (fun g hg=>(o1.within g hg).1)) | (at_builtin;refine Cj _ Cw Bp rfl (.tmp 30) (.tmp 33) rfl underlying74 aQ aW aU aR rfl (base:=w0) (v:=v2) (l:=l.take k ++ [e]) rfl o2 (A:=A) (m:=l.length - k) (c:=0) (ys:=l.drop k) rfl (Rd.fromNone (B:=0) k Bl Bl) (by have:=aX.out;omega) (by have:=hlt3.out;omega) Bp d2.size ?_;intro v3 w3 o3 g3 _;have d3:Below w0 w0 w3:=d2.grown g3 d2.size (fun g hg=>(o2.within g hg).1)))
    obtain ⟨s9,F9,rfl,o9,n9⟩:=Ib o3;go_ret;exact ⟨s9,F9,rfl,by rw [HP.out];exact o9,fun x hx=>Ai BB.size (n9 x hx),Bv BB d3⟩
theorem DBox.drew4 {b:Nat} {cs:List Value} {w:World} (h:DBox b cs w):DBox b cs w.drew:=⟨h.cell,h.free,h.lt⟩
theorem DBox.row4 {b:Nat} {cs:List Value} {w:World} (h:DBox b cs w) (hn:cs.length=4) (u0 u1 u2 u3:Value) :
  DBox b [u0,u1,u2,u3] ((((w.setCell ⟨b,0,Ac⟩ u0).setCell ⟨b,1,Ac⟩ u1).setCell ⟨b,2,Ac⟩ u2).setCell ⟨b,3,Ac⟩ u3):=by
 obtain ⟨c0,c1,c2,c3,rfl⟩:∃ c0 c1 c2 c3,cs=[c0,c1,c2,c3]:=by
  match cs,hn with
  | [c0,c1,c2,c3],_=>exact ⟨c0,c1,c2,c3,rfl⟩
 exact (((h.set 0 Bn u0).set 1 Bn u1).set 2 Bn u2).set 3 Bn u3
theorem Wv {b:Nat} {w:World} {u0 u1 u2 u3:Value} (X:DBox b [u0,u1,u2,u3] w) {v0 v1 v3 v4:Value} {rest:List Value} :
  (results Tryz.f245 (v0 :: v1 :: .pointer (Ad ⟨b,0,Ac⟩) :: v3 :: v4 :: rest).toArray).run An w = .ok (.tuple #[.agg #[u0,u1,u2,u3],v3,v4]) w:=by
 have c0:=X.cell 0 _ rfl;have c1:=X.cell 1 _ rfl;have c2:=X.cell 2 _ rfl;have c3:=X.cell 3 _ rfl;simp [results,results245,go_sem,c0,c1,c2,c3]
def Acv (l:List Entry) (w:World) (e:Ending) (w':World):Prop :=
 ∃ (s:Sl) (F:List Nat),e = .returned (.tuple #[Io (l.headD ⟨0,0,0,0⟩) (),Aa s.a s.n s.c,.bool (!l.isEmpty)])/\OwL Ch w' F s.v l.tail/\(∀ x∈F,w<=x)/\Below w w w'
theorem Sb (l:List Entry) (s:Sl) (w:World) (hl:l.length<=2000000) (h:RdL Ch w w s.v l) :
  Calls An 245 #[Aa s.a s.n s.c] w (Acv l w):=by
 obtain ⟨A,n,c⟩:=s;obtain rfl:n=l.length:=RdL.at1 (s:=⟨A,n,c⟩) h;obtain ⟨i0,aQ,aW,aU,aR⟩:=info_parts Gi;have h0:=Bq (fun W (hW:Below w w W)=>((J3 h).below hW).more hW.size);cases l with
 | nil =>
  have R:=DBox.new 71 [J Ab 0,J Ab 0,J Ab 0,J Ab 0] w (b:=w) rfl;have B0:Below w w (w.alloc (.cells #[J Ab 0,J Ab 0,J Ab 0,J Ab 0] 71)):=by repeat (first | exact Br _ _ | refine Af ?_ Bo _)
  go_enter func245,ntmps245;go_wp2;have R1:=R.below ((Br _ _).alloc (Bs _) (.cells #[] 71));refine Ak (v:=.tuple #[.agg #[J Ab 0,J Ab 0,J Ab 0,J Ab 0],Aa (Ad ⟨w+1,0,Ac⟩) 0 0,.bool false]) (Wv R1) rfl ⟨⟨Ad ⟨w+1,0,Ac⟩,0,0⟩,[],rfl,OwL.nil _ _ _ _,Bn,?_⟩;repeat (first | (with_reducible exact B0) | refine Ae ?_ Bo _ | refine Af ?_ Bo _)
 | cons e tl =>
  have h1:((((e :: tl).length:Nat):Int) == 0)=false:=by rw [beq_eq_false_iff_ne];simp;omega
  obtain ⟨b,o,_,rfl,aH,_,c0,c1,c2,c3⟩:=h.entry (k:=0) (by simp);simp only [Nat.zero_mul,Nat.add_zero,List.getElem_cons_zero] at c0 c1 c2 c3;have jZ:1<=(e :: tl).length:=Bn;have dB:=Bq (show tl.length<=3000000 by simp at hl;omega);have pT:=Bq (show (e :: tl).drop 1=tl from rfl);have cA:(e :: tl).length<=c:=(h0.out w (Br _ _)).cap;generalize hL:(e :: tl).length=L at *
  have hLI:(0:Int)<(L:Int):=Bl;have hLI1:(1:Int)<=(L:Int):=Bl;have hLN:0<L:=Bl;obtain ⟨W,aG,R,B0⟩:=bx1 w 71 [J Ab 0,J Ab 0,J Ab 0,J Ab 0];go_enter func245,ntmps245;go_wp2;rw [<-aG.out];clear aG;have hs:=B0.size;have hbW:b<W:=Bl;have HS0:=Bq (show ∀ W',Below w w W'->(fun w'=>w'.cell? ⟨b,o,Ac⟩=Ad (J Ab e.prio)/\w'.cell? ⟨b,o+1,Ac⟩=Ad (J Ab e.seq)/\w'.cell? ⟨b,o+2,Ac⟩=Ad (J Ab e.run)/\w'.cell? ⟨b,o+3,Ac⟩=Ad (J Ab e.task)) W' from fun W' kY=>⟨(kY.cell (p:=⟨b,_,Ac⟩) aH).trans c0,(kY.cell (p:=⟨b,_,Ac⟩) aH).trans c1,(kY.cell (p:=⟨b,_,Ac⟩) aH).trans c2,(kY.cell (p:=⟨b,_,Ac⟩) aH).trans c3⟩);have B1:=B0.drew;replace R:=DBox.drew4 R;rcases Nat.lt_or_ge 1 c with hkc2 | hkc2
  ·have qZ:¬ c=1:=Bl;have hcI:(1:Int)<=(c:Int):=Bl;refine Go.wp_region_noPanic ?_;refine wp_region_held_drew (S:=(fun w'=>w'.cell? ⟨b,o,Ac⟩=Ad (J Ab e.prio)/\w'.cell? ⟨b,o+1,Ac⟩=Ad (J Ab e.seq)/\w'.cell? ⟨b,o+2,Ac⟩=Ad (J Ab e.run)/\w'.cell? ⟨b,o+3,Ac⟩=Ad (J Ab e.task))) Bm (HS0.out _ B1) (fun aA=>?_);generalize W.drew=w1 at *
   refine tV 0 ?_
   (try simp only [pS])
   refine tV 1 ?_
   (try simp only [pS])
   refine tV 2 ?_
   (try simp only [pS])
   refine tV 4 ?_
   (try simp only [pS])
   refine tV 5 ?_
   (try simp only [pS])
   refine rC 3 (fun K_ hK=>?_);go_simp;have o2:=Ow.empty Cw 71 w1 (g:=w1) rfl;have b2:Below w1 w1 (w1.alloc (.cells #[] 71)):=Bt;have B2:=Bv B1 b2;have R2:=R.below b2;generalize w1.alloc (.cells #[] 71)=w2 at *
   refine hK.out _ _ (HS0.out _ B2) (fun aA=>?_);clear hK K_
   (try simp only [pS])
   refine rC 6 (fun K_ hK=>?_);have rd1:=(h0.out _ B2).fromL 1 (by show 1<=(e :: tl).length;simp);rw [hL,pT.out] at rd1;refine Fe _ Cw Bp (.tmp 13) (.tmp 15) 74 rfl w1.heap.size 71 _ _ _ underlying74 aQ aW aU aR rfl _ [] rfl o2 _ _ _ _ tl rfl rd1 Bn dB.out Bp b2.size ?_;intro v3 w3 o3 g3 _;rw [List.nil_append] at o3;have b3:Below w1 w1 w3:=b2.grown g3 b2.size (fun g hg=>Nat.le_of_eq (Option.some.inj hg));have B3:=Bv B1 b3;have R3:=R.below b3;refine hK.out _ _ (HS0.out _ B3) (fun aA=>?_);clear hK K_
   (try simp only [pS])
   have e0:=R3.cell 0 _ rfl;have e1:=R3.cell 1 _ rfl;have e2:=R3.cell 2 _ rfl;have e3:=R3.cell 3 _ rfl;have ef:=R3.free;have el:=R3.lt;refine rC 7 (fun K_ hK=>?_);go_simp;have R4:=DBox.row4 R3 rfl (J Ab e.prio) (J Ab e.seq) (J Ab e.run) (J Ab e.task);have B4:Below w w ((((w3.setCell ⟨w,0,Ac⟩ (J Ab e.prio)).setCell ⟨w,1,Ac⟩ (J Ab e.seq)).setCell ⟨w,2,Ac⟩ (J Ab e.run)).setCell ⟨w,3,Ac⟩ (J Ab e.task)):=by
    repeat (first | (with_reducible exact B3) | refine Ae ?_ Bo _)
   have o4:=(((o3.setLow (a:=⟨w,0,Ac⟩) (by show w.heap.size<w1.heap.size;have:=R.lt;omega) (J Ab e.prio)).setLow (a:=⟨w,1,Ac⟩) (by show w.heap.size<w1.heap.size;have:=R.lt;omega) (J Ab e.seq)).setLow (a:=⟨w,2,Ac⟩) (by show w.heap.size<w1.heap.size;have:=R.lt;omega) (J Ab e.run)).setLow (a:=⟨w,3,Ac⟩) (by show w.heap.size<w1.heap.size;have:=R.lt;omega) (J Ab e.task);generalize ((((w3.setCell ⟨w,0,Ac⟩ (J Ab e.prio)).setCell ⟨w,1,Ac⟩ (J Ab e.seq)).setCell ⟨w,2,Ac⟩ (J Ab e.run)).setCell ⟨w,3,Ac⟩ (J Ab e.task))=w4 at *
   clear e0 e1 e2 e3 ef el;refine hK.out _ _ (HS0.out _ B4) (fun aA=>?_);clear hK K_
   (try simp only [pS])
   refine rC 8 (fun K_ hK=>?_);go_simp;refine hK.out _ _ (HS0.out _ B4) (fun aA=>?_);clear hK K_
   (try simp only [pS])
   refine rC 9 (fun K_ hK=>?_);go_simp;refine hK.out _ _ (HS0.out _ B4) (fun aA=>?_);clear hK K_
   (try simp only [pS])
   refine Am Bm ?_ _;refine NoPanic.normal ?_;clear aA;obtain ⟨s9,F9,rfl,o9,n9⟩:=Ib o4;go_wp2;refine Ak (v:=.tuple #[Io e (),Aa s9.a s9.n s9.c,.bool true]) (Wv R4) rfl ⟨s9,F9,rfl,o9,fun x hx=>Ai (by have:=R.lt;omega) (n9 x hx),B4⟩
  ·obtain rfl:c=1:=Bl;obtain rfl:L=1:=Bl;refine Go.wp_region_noPanic ?_;refine wp_region_held_drew (S:=(fun w'=>w'.cell? ⟨b,o,Ac⟩=Ad (J Ab e.prio)/\w'.cell? ⟨b,o+1,Ac⟩=Ad (J Ab e.seq)/\w'.cell? ⟨b,o+2,Ac⟩=Ad (J Ab e.run)/\w'.cell? ⟨b,o+3,Ac⟩=Ad (J Ab e.task))) Bm (HS0.out _ B1) (fun aA=>?_);generalize W.drew=w1 at *
   refine tV 0 ?_
   (try simp only [pS])
   refine tV 1 ?_
   (try simp only [pS])
   refine tV 2 ?_
   (try simp only [pS])
   refine tV 4 ?_
   (try simp only [pS])
   refine tV 5 ?_
   (try simp only [pS])
   refine rC 3 (fun K_ hK=>?_);go_simp;have o2:=Ow.empty Cw 71 w1 (g:=w1) rfl;have b2:Below w1 w1 (w1.alloc (.cells #[] 71)):=Bt;have B2:=Bv B1 b2;have R2:=R.below b2;generalize w1.alloc (.cells #[] 71)=w2 at *
   refine hK.out _ _ (HS0.out _ B2) (fun aA=>?_);clear hK K_
   (try simp only [pS])
   refine rC 6 (fun K_ hK=>?_);have rd1:Rd Cw w2 0 (Aa (Ad ⟨b,o,Ac⟩) 0 0) tl:=Rd.fromNone (B:=0) (l:=e :: tl) 1 (by show (e :: tl).length<=1;rw [hL];exact Bs _) rfl;refine Fe _ Cw Bp (.tmp 13) (.tmp 15) 74 rfl w1.heap.size 71 _ _ _ underlying74 aQ aW aU aR rfl _ [] rfl o2 _ _ _ _ tl rfl rd1 Bn dB.out Bp b2.size ?_;intro v3 w3 o3 g3 _;rw [List.nil_append] at o3;have b3:Below w1 w1 w3:=b2.grown g3 b2.size (fun g hg=>Nat.le_of_eq (Option.some.inj hg));have B3:=Bv B1 b3;have R3:=R.below b3;refine hK.out _ _ (HS0.out _ B3) (fun aA=>?_);clear hK K_
   (try simp only [pS])
   have e0:=R3.cell 0 _ rfl;have e1:=R3.cell 1 _ rfl;have e2:=R3.cell 2 _ rfl;have e3:=R3.cell 3 _ rfl;have ef:=R3.free;have el:=R3.lt;refine rC 7 (fun K_ hK=>?_);go_simp;have R4:=DBox.row4 R3 rfl (J Ab e.prio) (J Ab e.seq) (J Ab e.run) (J Ab e.task);have B4:Below w w ((((w3.setCell ⟨w,0,Ac⟩ (J Ab e.prio)).setCell ⟨w,1,Ac⟩ (J Ab e.seq)).setCell ⟨w,2,Ac⟩ (J Ab e.run)).setCell ⟨w,3,Ac⟩ (J Ab e.task)):=by
    repeat (first | (with_reducible exact B3) | refine Ae ?_ Bo _)
   have o4:=(((o3.setLow (a:=⟨w,0,Ac⟩) (by show w.heap.size<w1.heap.size;have:=R.lt;omega) (J Ab e.prio)).setLow (a:=⟨w,1,Ac⟩) (by show w.heap.size<w1.heap.size;have:=R.lt;omega) (J Ab e.seq)).setLow (a:=⟨w,2,Ac⟩) (by show w.heap.size<w1.heap.size;have:=R.lt;omega) (J Ab e.run)).setLow (a:=⟨w,3,Ac⟩) (by show w.heap.size<w1.heap.size;have:=R.lt;omega) (J Ab e.task);generalize ((((w3.setCell ⟨w,0,Ac⟩ (J Ab e.prio)).setCell ⟨w,1,Ac⟩ (J Ab e.seq)).setCell ⟨w,2,Ac⟩ (J Ab e.run)).setCell ⟨w,3,Ac⟩ (J Ab e.task))=w4 at *
   clear e0 e1 e2 e3 ef el;refine hK.out _ _ (HS0.out _ B4) (fun aA=>?_);clear hK K_
   (try simp only [pS])
   refine rC 8 (fun K_ hK=>?_);go_simp;refine hK.out _ _ (HS0.out _ B4) (fun aA=>?_);clear hK K_
   (try simp only [pS])
   refine rC 9 (fun K_ hK=>?_);go_simp;refine hK.out _ _ (HS0.out _ B4) (fun aA=>?_);clear hK K_
   (try simp only [pS])
   refine Am Bm ?_ _;refine NoPanic.normal ?_;clear aA;obtain ⟨s9,F9,rfl,o9,n9⟩:=Ib o4;go_wp2;refine Ak (v:=.tuple #[Io e (),Aa s9.a s9.n s9.c,.bool true]) (Wv R4) rfl ⟨s9,F9,rfl,o9,fun x hx=>Ai (by have:=R.lt;omega) (n9 x hx),B4⟩
def Ww (l:List Entry) (w:World) (e:Ending) (w':World):Prop :=
 ∃ (s1:Sl) (F1:List Nat) (s2:Sl) (F2:List Nat),e = .returned (.tuple #[Aa s1.a s1.n s1.c,Aa s2.a s2.n s2.c])/\OwL Ch w' F1 s1.v (l.take (C9 l))/\OwL Ch w' F2 s2.v (l.drop (C9 l))/\(∀ x∈F1,w<=x)/\(∀ x∈F2,w<=x)/\(∀ x∈F1,x∉F2)/\Below w w w'
theorem J9 {w:World} {E:TypeId} {base:Nat} {v:Value} {l:List Entry} (h:Ow Cw E w base v l):∃ (s:Sl) (F:List Nat),v = Aa s.a s.n s.c/\OwL Ch w F s.v l/\(∀ b∈F,base<=b)/\(∀ b∈F,v.ownBlock=Ad b):=by
 obtain ⟨h1,h2⟩:=Hw.of_ow h;obtain ⟨⟨A,c,hv,hc,hA⟩,hF,hf⟩:=id h1;subst hv;refine ⟨⟨A,l.length,c⟩,_,rfl,⟨l.map fun x=>(x,()),Ei (Aa A l.length c) l.length,[],by rw [List.map_map];exact List.map_id _,⟨⟨A,c,by rw [Au],by rw [Au];exact hc,fun hl=>?_⟩,by rw [Au],hf⟩,Tb w l,(List.append_nil _).symm,h1.nodup⟩,h2,Ho _ _⟩;rw [Au] at hl;obtain ⟨b,o,h3,h4,h5⟩:=hA hl;refine ⟨b,o,h3,h4,fun k hk j u hu=>?_⟩;rw [List.getElem_map] at hu;exact h5 k (by rw [Au] at hk;exact hk) j u hu
theorem Acw (n:Nat):((n:Int)+1).tdiv 2=((n+1) / 2:Nat):=by
 rw [Int.tdiv_eq_ediv_of_nonneg Bl];omega
theorem Rd.dropM {α:Type} {e:Enc α} {w:World} {B:Nat} {A:Option Addr} {n c:Nat} {l:List α} (h:Rd e w B (Aa A n c) l) (k:Nat) (hk:k<=l.length):Rd e w B (Aa (A.map fun x=>x.add (k * e.sz)) (l.length - k) (c - k)) (l.drop k):=by
 obtain ⟨A',c0,hv,hc,hA⟩:=h;simp only [Value.slice.injEq] at hv;obtain ⟨rfl,rfl,rfl⟩:=hv;refine ⟨_,c - k,by rw [List.length_drop],by rw [List.length_drop];omega,fun hl=>?_⟩;rw [List.length_drop] at hl;obtain ⟨b,o,hb,aB,bV⟩:=hA Bl;refine ⟨b,o+k * e.sz,by rw [hb];simp only [Option.map_some,Option.some.injEq];unfold Addr.add;split<;>simp_all,aB,fun i hi j u hu=>?_⟩;rw [List.length_drop] at hi;rw [List.getElem_drop] at hu
 have:=bV (k+i) Bl j u hu
 rw [show o+k * e.sz+i * e.sz+j=o+(k+i) * e.sz+j from by rw [Nat.add_mul,<-Nat.add_assoc]];exact this
theorem Aaw (l:List Entry) (s:Sl) (w:World) (hl:l.length<=2000000) (h:RdL Ch w w s.v l) :
  Calls An 243 #[Aa s.a s.n s.c] w (Ww l w):=by
 obtain ⟨A,n,c⟩:=s;obtain rfl:n=l.length:=RdL.at1 (s:=⟨A,n,c⟩) h;obtain ⟨i0,aQ,aW,aU,aR⟩:=info_parts Gi;have h0:=Bq (fun W (hW:Below w w W)=>((J3 h).below hW).more hW.size);have hd:=Acw l.length;rw [show (l.length+1) / 2=C9 l from rfl] at hd;have kP:=Acj l;have hw1:Ab.wrap ((l.length:Int)+1)=(l.length:Int)+1:=Ar _ Bl;have tF:Ab.wrap (C9 l:Int)=(C9 l:Int):=Ar _ Bl;have cA:l.length<=c:=(h0.out w (Br _ _)).cap;have nV:C9 l<=c:=Bl;have hkcI:(C9 l:Int)<=(c:Int):=Bl;have hklI:(C9 l:Int)<=(l.length:Int):=Bl;have hk0I:(0:Int)<=(C9 l:Int):=Bl;have a0:=Bq (show ∀ W,Below w w W->Rd Cw W W (Aa A (C9 l) c) (l.take (C9 l)) from fun W hW=>(h0.out _ hW).take kP c nV);have dB:=Bq (show (l.take (C9 l)).length<=3000000 by simp;omega);have aX:=Bq (show (l.drop (C9 l)).length<=3000000 by simp;omega);have a1:=((h0.out w (Br _ _)).dropM (C9 l) kP)
 go_enter func243,ntmps243;go_upto_region 2 with fail
 rcases Nat.lt_or_ge (C9 l) c with hk2 | hk2
 have qZ:¬ c=C9 l:=Bl;have r0:=a0;have rr:=Bq (show ∀ W,Below w w W->Rd Cw W W (Aa (A.map fun x=>x.add (C9 l * 4)) (l.length - C9 l) (c - C9 l)) (l.drop (C9 l)) from fun W hW=>(a1.below hW).more hW.size);rotate_left;have qZ:c=C9 l:=Bl;have hcl:l.length=C9 l:=Bl;have r0:=Bq (show ∀ W,Below w w W->Rd Cw W W (Aa A (C9 l) (C9 l)) (l.take (C9 l)) from fun W hW=>by have h9:=a0.out W hW;rw [qZ] at h9;exact h9);have rr:=Bq (show ∀ W,Below w w W->Rd Cw W W (Aa A 0 0) (l.drop (C9 l)) from fun W hW=>by
  rw [List.drop_eq_nil_of_le Bl];exact ⟨A,0,rfl,Ah _,fun h=>absurd h Bn⟩)
 all_goals
  clear a1;refine Go.wp_region_noPanic ?_;refine wp_region_held_drew (S:=fun _=>True) Bm trivial (fun aA=>?_);have B1:Below w w w.drew:=(Br _ _).drew;generalize w.drew=w1 at *
  refine tY 1 ?_
  (try simp only [pS])
  refine tY 2 ?_
  (try simp only [pS])
  refine tY 3 ?_
  (try simp only [pS])
  refine tY 6 ?_
  (try simp only [pS])
  refine tY 7 ?_
  (try simp only [pS])
  refine tY 8 ?_
  (try simp only [pS])
  refine Vk 0 5 rfl rfl Bm (by rfl) (by rfl) (fun K_ hK=>?_) (fun K_ hK=>?_)
  ·go_simp;obtain ⟨g9,gX⟩:∃ g,g=w1.heap.size:=⟨_,rfl⟩
   rw [<-gX];have bb:Below w1 w1 (w1.alloc (.cells #[] 71)):=Bt;have o9:Ow Cw 71 (w1.alloc (.cells #[] 71)) w (Aa (Ad ⟨g9,0,Ac⟩) 0 0) []:=(Ow.empty Cw 71 w1 gX).more (by have:=B1.size;omega);have z9:g9<(w1.alloc (.cells #[] 71)):=by simp;omega
   have Bw1a:=Bv B1 bb;have y9:=bb.size;have ga9:=Nat.le_of_eq gX;have gb9:=Nat.le_of_eq gX.symm;clear bb gX;generalize w1.alloc (.cells #[] 71)=w1a at *
   refine hK.out _ _ trivial (fun aA=>?_);clear hK K_
   (try simp only [pS])
   refine Vk 4 5 rfl rfl Bm (by rfl) (by rfl) (fun K_ hK=>?_) (fun K_ hK=>?_)
   ·obtain ⟨n13,eF⟩:∃ n,n=w1a.heap.size:=⟨_,rfl⟩
    refine Fe _ Cw Bp (.tmp 9) (.tmp 12) 74 rfl w.heap.size 71 _ _ _ underlying74 aQ aW aU aR rfl _ [] rfl o9 _ _ _ _ (l.take (C9 l)) rfl (r0.out _ Bw1a) Bn dB.out Bp Bw1a.size ?_;intro v13 w1ap o13 gg e13;rw [List.nil_append] at o13;rw [<-eF] at e13;have na13:=Nat.le_of_eq eF;have nb13:=Nat.le_of_eq eF.symm;clear eF;have t13:∀ g,v13.ownBlock=Ad g->g<w1ap.heap.size:=fun g h=>(o13.within g h).2;replace e13:v13.ownBlock=Ad g9\/v13.ownBlock=Ad n13:=e13;have Bw1ap:Below w w w1ap:=Bw1a.grown gg Bw1a.size (fun g hg=>(o9.within g hg).1);have y13:=gg.size;clear gg;refine hK.out _ _ trivial (fun aA=>?_);clear hK K_
    (try simp only [pS])
    refine rC 5 (fun K_ hK=>?_);go_simp;obtain ⟨g14,dI⟩:∃ g,g=w1ap.heap.size:=⟨_,rfl⟩
    rw [<-dI];have bb:Below w1ap w1ap (w1ap.alloc (.cells #[] 71)):=Bt;have o14:Ow Cw 71 (w1ap.alloc (.cells #[] 71)) w (Aa (Ad ⟨g14,0,Ac⟩) 0 0) []:=(Ow.empty Cw 71 w1ap dI).more (by have:=Bw1ap.size;omega);have z14:g14<(w1ap.alloc (.cells #[] 71)):=by simp;omega
    have Bw1apa:=Bv Bw1ap bb;replace o13:=o13.below bb;have y14:=bb.size;have ga14:=Nat.le_of_eq dI;have gb14:=Nat.le_of_eq dI.symm;clear bb dI;generalize w1ap.alloc (.cells #[] 71)=w1apa at *
    refine hK.out _ _ trivial (fun aA=>?_);clear hK K_
    (try simp only [pS])
    refine rC 9 (fun K_ hK=>?_);obtain ⟨n18,eH⟩:∃ n,n=w1apa.heap.size:=⟨_,rfl⟩
    refine Fe _ Cw Bp (.tmp 14) (.tmp 17) 74 rfl w.heap.size 71 _ _ _ underlying74 aQ aW aU aR rfl _ [] rfl o14 _ _ _ _ (l.drop (C9 l)) rfl (rr.out _ Bw1apa) Bn aX.out Bp Bw1apa.size ?_;intro v18 w1apap o18 gg e18;rw [List.nil_append] at o18;rw [<-eH] at e18;have na18:=Nat.le_of_eq eH;have nb18:=Nat.le_of_eq eH.symm;clear eH;have t18:∀ g,v18.ownBlock=Ad g->g<w1apap.heap.size:=fun g h=>(o18.within g h).2;replace e18:v18.ownBlock=Ad g14\/v18.ownBlock=Ad n18:=e18;have Bw1apap:Below w w w1apap:=Bw1apa.grown gg Bw1apa.size (fun g hg=>(o14.within g hg).1);have y18:=gg.size;replace o13:=o13.grown gg (Or.inr (fun h=>by have:=t13 g14 h;rcases e13 with h2 | h2<;>(rw [h2] at h;have:=Option.some.inj (show Ad _=Ad g14 from h);omega)));clear gg;refine hK.out _ _ trivial (fun aA=>?_);clear hK K_
    (try simp only [pS])
    refine rC 10 (fun K_ hK=>?_);go_simp;refine hK.out _ _ trivial (fun aA=>?_);clear hK K_
    (try simp only [pS])
    refine rC 11 (fun K_ hK=>?_);go_simp;refine hK.out _ _ trivial (fun aA=>?_);clear hK K_
    (try simp only [pS])
    refine Am Bm ?_ _;refine NoPanic.normal ?_;obtain ⟨s1,F1,rfl,p1,q1,r1⟩:=J9 o13;obtain ⟨s2,F2,rfl,p2,q2,r2⟩:=J9 o18;go_wp2;go_ret2;exact ⟨s1,F1,s2,F2,rfl,p1,p2,q1,q2,fun x hx hy=>by
     have a1:=r1 x hx;have a2:=r2 x hy;have a3:=t13 x a1;have a4:=t18 x a2;rcases e13 with h | h<;>rcases e18 with h' | h'<;>(rw [a1] at h;rw [a2] at h';have:=Option.some.inj h;have:=Option.some.inj h';omega),Bw1apap⟩
   ·go_simp;obtain ⟨g14,dI⟩:∃ g,g=w1a.heap.size:=⟨_,rfl⟩
    rw [<-dI];have bb:Below w1a w1a (w1a.alloc (.cells #[] 71)):=Bt;have o14:Ow Cw 71 (w1a.alloc (.cells #[] 71)) w (Aa (Ad ⟨g14,0,Ac⟩) 0 0) []:=(Ow.empty Cw 71 w1a dI).more (by have:=Bw1a.size;omega);have z14:g14<(w1a.alloc (.cells #[] 71)):=by simp;omega
    have Bw1aa:=Bv Bw1a bb;replace o9:=o9.below bb;have y14:=bb.size;have ga14:=Nat.le_of_eq dI;have gb14:=Nat.le_of_eq dI.symm;clear bb dI;generalize w1a.alloc (.cells #[] 71)=w1aa at *
    refine hK.out _ _ trivial (fun aA=>?_);clear hK K_
    (try simp only [pS])
    refine rC 4 (fun K_ hK=>?_);obtain ⟨n13,eF⟩:∃ n,n=w1aa.heap.size:=⟨_,rfl⟩
    refine Fe _ Cw Bp (.tmp 9) (.tmp 12) 74 rfl w.heap.size 71 _ _ _ underlying74 aQ aW aU aR rfl _ [] rfl o9 _ _ _ _ (l.take (C9 l)) rfl (r0.out _ Bw1aa) Bn dB.out Bp Bw1aa.size ?_;intro v13 w1aap o13 gg e13;rw [List.nil_append] at o13;rw [<-eF] at e13;have na13:=Nat.le_of_eq eF;have nb13:=Nat.le_of_eq eF.symm;clear eF;have t13:∀ g,v13.ownBlock=Ad g->g<w1aap.heap.size:=fun g h=>(o13.within g h).2;replace e13:v13.ownBlock=Ad g9\/v13.ownBlock=Ad n13:=e13;have Bw1aap:Below w w w1aap:=Bw1aa.grown gg Bw1aa.size (fun g hg=>(o9.within g hg).1);have y13:=gg.size;replace o14:=o14.grown gg (Or.inr (fun h=>by have:=Option.some.inj (show Ad g14=Ad g9 from h);omega));clear gg;refine hK.out _ _ trivial (fun aA=>?_);clear hK K_
    (try simp only [pS])
    refine rC 9 (fun K_ hK=>?_);obtain ⟨n18,eH⟩:∃ n,n=w1aap.heap.size:=⟨_,rfl⟩
    refine Fe _ Cw Bp (.tmp 14) (.tmp 17) 74 rfl w.heap.size 71 _ _ _ underlying74 aQ aW aU aR rfl _ [] rfl o14 _ _ _ _ (l.drop (C9 l)) rfl (rr.out _ Bw1aap) Bn aX.out Bp Bw1aap.size ?_;intro v18 w1aapp o18 gg e18;rw [List.nil_append] at o18;rw [<-eH] at e18;have na18:=Nat.le_of_eq eH;have nb18:=Nat.le_of_eq eH.symm;clear eH;have t18:∀ g,v18.ownBlock=Ad g->g<w1aapp.heap.size:=fun g h=>(o18.within g h).2;replace e18:v18.ownBlock=Ad g14\/v18.ownBlock=Ad n18:=e18;have Bw1aapp:Below w w w1aapp:=Bw1aap.grown gg Bw1aap.size (fun g hg=>(o14.within g hg).1);have y18:=gg.size;replace o13:=o13.grown gg (Or.inr (fun h=>by have:=t13 g14 h;rcases e13 with h2 | h2<;>(rw [h2] at h;have:=Option.some.inj (show Ad _=Ad g14 from h);omega)));clear gg;refine hK.out _ _ trivial (fun aA=>?_);clear hK K_
    (try simp only [pS])
    refine rC 10 (fun K_ hK=>?_);go_simp;refine hK.out _ _ trivial (fun aA=>?_);clear hK K_
    (try simp only [pS])
    refine rC 11 (fun K_ hK=>?_);go_simp;refine hK.out _ _ trivial (fun aA=>?_);clear hK K_
    (try simp only [pS])
    refine Am Bm ?_ _;refine NoPanic.normal ?_;obtain ⟨s1,F1,rfl,p1,q1,r1⟩:=J9 o13;obtain ⟨s2,F2,rfl,p2,q2,r2⟩:=J9 o18;go_wp2;go_ret2;exact ⟨s1,F1,s2,F2,rfl,p1,p2,q1,q2,fun x hx hy=>by
     have a1:=r1 x hx;have a2:=r2 x hy;have a3:=t13 x a1;have a4:=t18 x a2;rcases e13 with h | h<;>rcases e18 with h' | h'<;>(rw [a1] at h;rw [a2] at h';have:=Option.some.inj h;have:=Option.some.inj h';omega),Bw1aapp⟩
  ·go_simp;obtain ⟨g14,dI⟩:∃ g,g=w1.heap.size:=⟨_,rfl⟩
   rw [<-dI];have bb:Below w1 w1 (w1.alloc (.cells #[] 71)):=Bt;have o14:Ow Cw 71 (w1.alloc (.cells #[] 71)) w (Aa (Ad ⟨g14,0,Ac⟩) 0 0) []:=(Ow.empty Cw 71 w1 dI).more (by have:=B1.size;omega);have z14:g14<(w1.alloc (.cells #[] 71)):=by simp;omega
   have Bw1a:=Bv B1 bb;have y14:=bb.size;have ga14:=Nat.le_of_eq dI;have gb14:=Nat.le_of_eq dI.symm;clear bb dI;generalize w1.alloc (.cells #[] 71)=w1a at *
   refine hK.out _ _ trivial (fun aA=>?_);clear hK K_
   (try simp only [pS])
   refine rC 0 (fun K_ hK=>?_);go_simp;obtain ⟨g9,gX⟩:∃ g,g=w1a.heap.size:=⟨_,rfl⟩
   rw [<-gX];have bb:Below w1a w1a (w1a.alloc (.cells #[] 71)):=Bt;have o9:Ow Cw 71 (w1a.alloc (.cells #[] 71)) w (Aa (Ad ⟨g9,0,Ac⟩) 0 0) []:=(Ow.empty Cw 71 w1a gX).more (by have:=Bw1a.size;omega);have z9:g9<(w1a.alloc (.cells #[] 71)):=by simp;omega
   have Bw1aa:=Bv Bw1a bb;replace o14:=o14.below bb;have y9:=bb.size;have ga9:=Nat.le_of_eq gX;have gb9:=Nat.le_of_eq gX.symm;clear bb gX;generalize w1a.alloc (.cells #[] 71)=w1aa at *
   refine hK.out _ _ trivial (fun aA=>?_);clear hK K_
   (try simp only [pS])
   refine rC 4 (fun K_ hK=>?_);obtain ⟨n13,eF⟩:∃ n,n=w1aa.heap.size:=⟨_,rfl⟩
   refine Fe _ Cw Bp (.tmp 9) (.tmp 12) 74 rfl w.heap.size 71 _ _ _ underlying74 aQ aW aU aR rfl _ [] rfl o9 _ _ _ _ (l.take (C9 l)) rfl (r0.out _ Bw1aa) Bn dB.out Bp Bw1aa.size ?_;intro v13 w1aap o13 gg e13;rw [List.nil_append] at o13;rw [<-eF] at e13;have na13:=Nat.le_of_eq eF;have nb13:=Nat.le_of_eq eF.symm;clear eF;have t13:∀ g,v13.ownBlock=Ad g->g<w1aap.heap.size:=fun g h=>(o13.within g h).2;replace e13:v13.ownBlock=Ad g9\/v13.ownBlock=Ad n13:=e13;have Bw1aap:Below w w w1aap:=Bw1aa.grown gg Bw1aa.size (fun g hg=>(o9.within g hg).1);have y13:=gg.size;replace o14:=o14.grown gg (Or.inr (fun h=>by have:=Option.some.inj (show Ad g14=Ad g9 from h);omega));clear gg;refine hK.out _ _ trivial (fun aA=>?_);clear hK K_
   (try simp only [pS])
   refine rC 9 (fun K_ hK=>?_);obtain ⟨n18,eH⟩:∃ n,n=w1aap.heap.size:=⟨_,rfl⟩
   refine Fe _ Cw Bp (.tmp 14) (.tmp 17) 74 rfl w.heap.size 71 _ _ _ underlying74 aQ aW aU aR rfl _ [] rfl o14 _ _ _ _ (l.drop (C9 l)) rfl (rr.out _ Bw1aap) Bn aX.out Bp Bw1aap.size ?_;intro v18 w1aapp o18 gg e18;rw [List.nil_append] at o18;rw [<-eH] at e18;have na18:=Nat.le_of_eq eH;have nb18:=Nat.le_of_eq eH.symm;clear eH;have t18:∀ g,v18.ownBlock=Ad g->g<w1aapp.heap.size:=fun g h=>(o18.within g h).2;replace e18:v18.ownBlock=Ad g14\/v18.ownBlock=Ad n18:=e18;have Bw1aapp:Below w w w1aapp:=Bw1aap.grown gg Bw1aap.size (fun g hg=>(o14.within g hg).1);have y18:=gg.size;replace o13:=o13.grown gg (Or.inr (fun h=>by have:=t13 g14 h;rcases e13 with h2 | h2<;>(rw [h2] at h;have:=Option.some.inj (show Ad _=Ad g14 from h);omega)));clear gg;refine hK.out _ _ trivial (fun aA=>?_);clear hK K_
   (try simp only [pS])
   refine rC 10 (fun K_ hK=>?_);go_simp;refine hK.out _ _ trivial (fun aA=>?_);clear hK K_
   (try simp only [pS])
   refine rC 11 (fun K_ hK=>?_);go_simp;refine hK.out _ _ trivial (fun aA=>?_);clear hK K_
   (try simp only [pS])
   refine Am Bm ?_ _;refine NoPanic.normal ?_;obtain ⟨s1,F1,rfl,p1,q1,r1⟩:=J9 o13;obtain ⟨s2,F2,rfl,p2,q2,r2⟩:=J9 o18;go_wp2;go_ret2;exact ⟨s1,F1,s2,F2,rfl,p1,p2,q1,q2,fun x hx hy=>by
    have a1:=r1 x hx;have a2:=r2 x hy;have a3:=t13 x a1;have a4:=t18 x a2;rcases e13 with h | h<;>rcases e18 with h' | h'<;>(rw [a1] at h;rw [a2] at h';have:=Option.some.inj h;have:=Option.some.inj h';omega),Bw1aapp⟩
theorem Acx {es:List (Nat×Nat)} {T t s:Nat} (h1:∀ e∈es,e.1<T):s∈Dv es T t ↔ (s,t)∈es:=by
 unfold Dv;simp only [List.mem_filter,List.mem_range,decide_eq_true_eq];exact ⟨fun h=>h.2,fun h=>⟨h1 _ h,h⟩⟩
theorem Ub {es:List (Nat×Nat)} {T t s:Nat} (h2:∀ e∈es,e.2<T):s∈D9 es T t ↔ (t,s)∈es:=by
 unfold D9;simp only [List.mem_filter,List.mem_range,decide_eq_true_eq];exact ⟨fun h=>h.2,fun h=>⟨h2 _ h,h⟩⟩
section
variable {es:List (Nat×Nat)} {T:Nat} {l o:List Int} {ord:List Nat}
end
section
variable {es:List (Nat×Nat)} {T:Nat} {l:List Int} {ord:List Nat} {L:Int}
end
theorem Ahq {y:Yard} (h1:inB y.now 0 999999980=true) (h2:inB y.seq 1 1000000000=true) (h3:Kp y) (h6:y.runs.length<=8) (h7:K3 y y.runs.length):Dn y ↔ Gv y<=40:=by
 refine Afj h1 h2 h3.1 (fun k hk=>h3.2.1 _ (Ax hk)) (Aau h3 (Bs _)) h6 h7
def Q9 (y:Yard) (k:Nat):Prop:=∀ j (hj:j<y.runs.length),j<k->Gr y.runs[j]/\Db y y.runs[j].id=j
def Zs (y:Yard) (k:Nat):Prop:=∀ j (hj:j<y.runs.length),j<k->K0 y.now y.runs[j] (Ci y)
theorem G9 (y:Yard) (s:Sl×Sl) (w:World) (hl:Cf y<=2000000) (h:Bu.rd w w y s) :
  Calls An 160 #[Dh y s] w fun e w'=>e = .returned (.bool (tf (Dn y)))/\Below w w w':=by
 have HR:=Bq (show ∀ W,Below w w W->Bu.rd W W y s from fun W hW=>Bu.rd_more (Bu.rd_below h hW) hW.size);obtain ⟨⟨A1,n1,c1⟩,⟨A2,n2,c2⟩⟩:=s;obtain rfl:n2=y.runs.length:=RdL.at1 (s:=⟨A2,n2,c2⟩) h.2;have h2:RdL Cn w w (Aa A2 y.runs.length c2) y.runs:=h.2;have eJ:y.runs.length<=2000000:=Ai (Cv Dc _) (by unfold Cf at hl;omega);have HC:=Bq (show ∀ k (hk:k<y.runs.length),Dc y.runs[k]<=2000000 from fun k hk=>by
  have:=Gw (cnt:=Dc) (Ax hk)
  unfold Cf at hl;omega)
 have HEn:=Bq (show (Ci y).length<=2000000 by
  have:=I0 y.shelf y.shelf.length
  rw [List.take_length] at this;unfold Cf at hl;unfold Ci;omega)
 have nR:=Acg hl;clear h;have X:=DBox.new 31 [J Ab y.now,J Ab y.seq,Aa A1 n1 c1,Aa A2 y.runs.length c2] w (b:=w) rfl;have B0:Below w w (w.alloc (.cells #[J Ab y.now,J Ab y.seq,Aa A1 n1 c1,Aa A2 y.runs.length c2] 31)):=by repeat (first | exact Br _ _ | refine Af ?_ Bo _)
 cases a1:inB y.now 0 999999980;case false =>
  have H:=Bq (Cm (show ¬ Dn y from fun h=>by have:=Ct.2 h.1;rw [a1] at this;cases this));go_enter func160,ntmps160;go_wp2_with (go_at_call 90;refine (Cl _ _ _ _).mono ?_;rintro e w' ⟨rfl,rfl⟩)
  go_ret;exact ⟨Bx H.out.symm,B0⟩
 cases a2:inB y.seq 1 1000000000;case false =>
  have H:=Bq (Cm (show ¬ Dn y from fun h=>by have:=Ct.2 h.2.1;rw [a2] at this;cases this));go_enter func160,ntmps160;go_wp2_with (go_at_call 90;refine (Cl _ _ _ _).mono ?_;rintro e w' ⟨rfl,rfl⟩)
  go_ret;exact ⟨Bx H.out.symm,B0⟩
 by_cases a4:y.runs.length<=8;case neg =>
  have a4':(8:Int)<(y.runs.length:Int):=Bl;have H:=Bq (Cm (show ¬ Dn y from fun h=>a4 h.2.2.2.2.2.2.1));clear a4;go_enter func160,ntmps160;go_wp2_with (go_at_call 90;refine (Cl _ _ _ _).mono ?_;rintro e w' ⟨rfl,rfl⟩)
  go_ret;exact ⟨Bx H.out.symm,B0⟩
 have a4':¬ (8:Int)<(y.runs.length:Int):=Bl;have hqb:=Ct.1 a2;have vA:=Ct.1 a1;have C0:=U8 y (⟨A1,n1,c1⟩,⟨A2,y.runs.length,c2⟩) (w.alloc (.cells #[J Ab y.now,J Ab y.seq,Aa A1 n1 c1,Aa A2 y.runs.length c2] 31)) hl hqb (HR.out _ B0);by_cases a3:Kp y;case neg =>
  have H:=Bq (Cm (show ¬ Dn y from fun h=>a3 ⟨h.2.2.1,h.2.2.2.1,h.2.2.2.2.1,h.2.2.2.2.2.1⟩));rw [Cm a3] at C0;clear a3;go_enter func160,ntmps160;go_wp2_with (first | (go_at_call 90;refine (Cl _ _ _ _).mono ?_;rintro e w' ⟨rfl,rfl⟩) | (go_at_call 233;refine C0.mono ?_;rintro e w1 ⟨rfl,b1⟩))
  go_ret;exact ⟨Bx H.out.symm,Bv B0 b1⟩
 rw [Ds a3] at C0;go_enter func160,ntmps160;go_wp2_with (first | (go_at_call 90;refine (Cl _ _ _ _).mono ?_;rintro e w' ⟨rfl,rfl⟩) | (go_at_call 233;refine C0.mono ?_;rintro e w1 ⟨rfl,b1⟩))
 replace X:=X.below b1;replace B0:=Bv B0 b1;clear b1 C0;have A1_:=Bq a1;have A2_:=Bq a2;have A3_:=Bq a3;clear a1 a2 a3 a4';go_loopw [3] (fun i wr=>∃ k:Nat,k<=y.runs.length/\i = J Ab k/\Hid (Q9 y k)/\Below w1 w1 wr) (fun i _=>y.runs.length - (intOf i).toNat);case atStart=>exact ⟨0,Ah _,rfl,fun j _ h0=>absurd h0 Bl,Br _ _⟩
 case round =>
  obtain ⟨k,hk,rfl,aY,hb⟩:=hrel;replace X:=X.below hb;replace B0:=Bv B0 hb;obtain ⟨X_0,X_1,X_2,X_3,X_l⟩:=X.g4;by_cases aB:k<y.runs.length
  ·have aC:(k:Int)<(y.runs.length:Int):=Bl;obtain ⟨b,o,⟨⟨A8,n8,c8⟩,⟨At,nt,ct⟩⟩,eG,aH,bP,e0,e1,e2,e3,e4,e5,e6,e7⟩:=(h2.below B0).run aB;subst eG;have bG:b<wr:=Aj aH B0.size;have HRr:=Bq (show ∀ W,Below wr wr W->Cn.rd W W y.runs[k] (⟨A8,n8,c8⟩,⟨At,nt,ct⟩) from fun W hW=>Cn.rd_more (Cn.rd_below (Cn.rd_more bP B0.size) hW) hW.size);have kQ:=HC.out k aB;have aN:=Df wr;have C1:=fun u:J7 wr=>M5 y.runs[k] (⟨A8,n8,c8⟩,⟨At,nt,ct⟩) u.1 kQ (HRr.out _ u.2);have C2:=fun u:J7 wr=>Fo y (⟨A1,n1,c1⟩,⟨Ad ⟨b,o,Ac⟩,y.runs.length,c2⟩) y.runs[k].id u.1 hl (HR.out _ (Bv B0 u.2));have D1:=Bq C1;have D2:=Bq C2;clear C1 C2;by_cases q1:Gr y.runs[k];case neg =>
    have H:=Bq (Cm (show ¬ Dn y from fun h=>q1 (h.2.2.2.2.2.2.2.1 k aB).1));rw [Cm q1] at D1;clear q1;go_wp2;refine Bz Bm Bm ?_;repeat (go_big_quiet_step ((go_at_call 234;(with_reducible exact Jp D1.out))))
    refine Al ?_;rintro _ ⟨⟨w3,b3⟩,rfl⟩;clear aN;go_wp2;go_ret;exact ⟨Bx H.out.symm,Bv B0 b3⟩
   rw [Ds q1] at D1;by_cases q2:Db y y.runs[k].id=k;case neg =>
    have H:=Bq (Cm (show ¬ Dn y from fun h=>q2 (h.2.2.2.2.2.2.2.1 k aB).2));have q2':(Db y y.runs[k].id != (k:Int))=true:=by simp [q2]
    clear q1 q2;go_wp2;refine Bz Bm Bm ?_;repeat (go_big_quiet_step ((first | (go_at_call 234;(with_reducible exact Jp D1.out)) | (go_at_call 153;(with_reducible exact Jp D2.out)))))
    refine Al ?_;rintro _ ⟨⟨w3,b3⟩,rfl⟩;clear aN;go_wp2;go_ret;exact ⟨Bx H.out.symm,Bv B0 b3⟩
   have S:Hid (Q9 y (k+1)):=fun j hj fM=>by
    by_cases e:j=k
    ·subst e;exact ⟨q1,q2⟩
    ·exact aY.out j hj Bl
   rw [q2] at D2;have q2':((k:Int) != (k:Int))=false:=Bn;clear q1 q2;go_wp2;refine Bz Bm Bm ?_;repeat (go_big_quiet_step ((first | (go_at_call 234;(with_reducible exact Jp D1.out)) | (go_at_call 153;(with_reducible exact Jp D2.out)))))
   refine Al ?_;rintro _ ⟨⟨w3,b3⟩,rfl⟩;clear aN;go_wp2;first
    | exact ⟨⟨k+1,Bl,by go_num,S,Bv hb b3⟩,clM⟩
    | (refine ⟨?_,clM⟩;(repeat apply Exists.intro);refine ⟨?_,clR⟩;exact ⟨k+1,Bl,by go_num,S,Bv hb b3⟩)
  ·have aC:¬ (k:Int)<(y.runs.length:Int):=Bl;have HR1:Hid (Q9 y y.runs.length):=fun j hj _=>aY.out j hj Bl;have C:=Ln y (⟨A1,n1,c1⟩,⟨A2,y.runs.length,c2⟩) wr hl (HR.out _ B0);go_wp2_with fail
   refine C.mono ?_;rintro e w2 ⟨v,rfl,o2,b2⟩;replace X:=X.below b2;replace B0:=Bv B0 b2;clear X_0 X_1 X_2 X_3 X_l aY aB aC hb;have O2:=Rd.of_own o2;clear o2;obtain ⟨A3,c3,rfl,-⟩:=id O2;have qK:=HEn.out;go_wp2;go_loopw [5] (fun i wr=>∃ k:Nat,k<=y.runs.length/\i = J Ab k/\Hid (Zs y k)/\Below w2 w2 wr) (fun i _=>y.runs.length - (intOf i).toNat);case atStart=>exact ⟨0,Ah _,rfl,fun j _ h0=>absurd h0 Bl,Br _ _⟩
   case round =>
    obtain ⟨k,hk,rfl,aY,hb⟩:=hrel;replace X:=X.below hb;replace B0:=Bv B0 hb;obtain ⟨X_0,X_1,X_2,X_3,X_l⟩:=X.g4;by_cases aB:k<y.runs.length
    ·have aC:(k:Int)<(y.runs.length:Int):=Bl;obtain ⟨b,o,⟨⟨A8,n8,c8⟩,⟨At,nt,ct⟩⟩,eG,aH,bP,e0,e1,e2,e3,e4,e5,e6,e7⟩:=(h2.below B0).run aB;subst eG;have bG:b<wr:=Aj aH B0.size;have HRr:=Bq (show ∀ W,Below wr wr W->Cn.rd W W y.runs[k] (⟨A8,n8,c8⟩,⟨At,nt,ct⟩) from fun W hW=>Cn.rd_more (Cn.rd_below (Cn.rd_more bP B0.size) hW) hW.size);have kQ:=HC.out k aB;have qL:=Afi (HR1.out k aB aB).1.2.1;have dN:y.runs[k].tasks.length<=2000000:=Ai (Cv Ix _) (by unfold Dc at kQ;omega);have aN:=Df wr;have D3:=Bq (show ∀ u:J7 wr,_ from fun u=>Yv y (⟨A1,n1,c1⟩,⟨Ad ⟨b,o,Ac⟩,y.runs.length,c2⟩) y.runs[k] (⟨A8,n8,c8⟩,⟨At,nt,ct⟩) (Ci y) ⟨A3,(Ci y).length,c3⟩ u.1 dN qK vA qL (HRr.out _ u.2) ((O2.below (Bv hb u.2)).more (Bv hb u.2).size));by_cases q3:K0 y.now y.runs[k] (Ci y);case neg =>
      have H:=Bq (Cm (show ¬ Dn y from fun h=>q3 (h.2.2.2.2.2.2.2.2.1 _ (Ax aB))));rw [Cm q3] at D3;clear q3;go_wp2;refine Bz Bm Bm ?_;repeat (go_big_quiet_step ((go_at_call 235;(with_reducible exact Jp D3.out))))
      refine Al ?_;rintro _ ⟨⟨w3,b3⟩,rfl⟩;clear aN;go_wp2;go_ret;exact ⟨Bx H.out.symm,Bv B0 b3⟩
     have S:Hid (Zs y (k+1)):=fun j hj fM=>by
      by_cases e:j=k
      ·subst e;exact q3
      ·exact aY.out j hj Bl
     rw [Ds q3] at D3;clear q3;go_wp2;refine Bz Bm Bm ?_;repeat (go_big_quiet_step ((go_at_call 235;(with_reducible exact Jp D3.out))))
     refine Al ?_;rintro _ ⟨⟨w3,b3⟩,rfl⟩;clear aN;go_wp2;first
      | exact ⟨⟨k+1,Bl,by go_num,S,Bv hb b3⟩,clM⟩
      | (refine ⟨?_,clM⟩;(repeat apply Exists.intro);refine ⟨?_,clR⟩;exact ⟨k+1,Bl,by go_num,S,Bv hb b3⟩)
    ·have aC:¬ (k:Int)<(y.runs.length:Int):=Bl;have HRt:Hid (K3 y y.runs.length):=fun j hj hj2=>⟨(HR1.out j hj hj2).1,(HR1.out j hj hj2).2,aY.out j hj Bl⟩
     have HF:=Bq (Ahq A1_.out A2_.out A3_.out a4 HRt.out);have C:=Qq y (⟨A1,n1,c1⟩,⟨A2,y.runs.length,c2⟩) wr hl (HR.out _ B0);go_wp2_with fail
     refine C.mono ?_;rintro e w7 ⟨rfl,b7⟩;have HT:=Bq (show tf (Dn y)=decide ((Gv y:Int)<=40) by
      rw [Bool.eq_iff_iff,Ll,HF.out,decide_eq_true_eq];omega)
     generalize Gv y=N at *
     by_cases q:N<=40
     ·have H:=Bq (show tf (Dn y)=true by rw [HT.out];exact decide_eq_true Bl);go_wp2;go_ret;exact ⟨Bx (by rw [H.out];exact decide_eq_true Bl),Bv B0 b7⟩
     ·have H:=Bq (show tf (Dn y)=false by rw [HT.out];exact decide_eq_false Bl);go_wp2;go_ret;exact ⟨Bx (by rw [H.out];exact decide_eq_false Bl),Bv B0 b7⟩
theorem K5 {α β:Type} (f:β->α->β) (z:β) (l:List α) (k:Nat) (h:k<l.length):(l.take (k+1)).foldl f z=f ((l.take k).foldl f z) l[k]:=by
 rw [List.take_succ_eq_append_getElem h,List.foldl_append];rfl
theorem Wx (a b:List Entry) (s r:Sl) (w:World) (hl:a.length<=2000000) (hl':b.length<=2000000) (h:RdL Ch w w s.v a) (h':RdL Ch w w r.v b) :
  Calls An 244 #[Aa s.a s.n s.c,Aa r.a r.n r.c] w (Fa (Dt.list Ch) slV (Gp a b) w):=by
 obtain ⟨A,n,c⟩:=s;obtain rfl:n=a.length:=RdL.at1 (s:=⟨A,n,c⟩) h;obtain ⟨A',n',c'⟩:=r;obtain rfl:n'=b.length:=RdL.at1 (s:=⟨A',n',c'⟩) h';obtain ⟨i0,aQ,aW,aU,aR⟩:=info_parts Gi;have h0:=Bq (fun W (hW:Below w w W)=>((J3 h).below hW).more hW.size);have q1:Below w w (w.alloc (.cells #[] 71)):=Bt;by_cases h8:80<a.length+b.length
 ·have hI:(80:Int)<(a.length:Int)+(b.length:Int):=Bl;have H:=Bq (show Gp a b=a from if_pos h8);go_enter func244,ntmps244;go_wp2_with (at_builtin;refine Cj _ Cw Bp rfl (.tmp 7) (.tmp 8) rfl underlying74 aQ aW aU aR rfl (base:=w) (v:=Aa (Ad ⟨w,0,Ac⟩) 0 0) (l:=[]) rfl (Ow.empty Cw 71 w rfl) rfl (h0.out _ q1) Bn Bl Bp q1.size ?_;intro v1 w1 o1 g1 _;rw [List.nil_append] at o1;have d1:Below w w w1:=q1.grown g1 q1.size (fun g hg=>Nat.le_of_eq (Option.some.inj hg)))
  obtain ⟨s9,F9,rfl,o9,n9⟩:=Ib o1;go_ret;exact ⟨s9,F9,rfl,by rw [H.out];exact o9,n9,d1⟩
 have hI:¬ (80:Int)<(a.length:Int)+(b.length:Int):=Bl;have H:=Bq (show Gp a b=b.foldl Ip a from if_neg h8);go_enter func244,ntmps244;go_wp2_with (at_builtin;refine Cj _ Cw Bp rfl (.tmp 7) (.tmp 8) rfl underlying74 aQ aW aU aR rfl (base:=w) (v:=Aa (Ad ⟨w,0,Ac⟩) 0 0) (l:=[]) rfl (Ow.empty Cw 71 w rfl) rfl (h0.out _ q1) Bn Bl Bp q1.size ?_;intro v1 w1 o1 g1 _;rw [List.nil_append] at o1;have d1:Below w w w1:=q1.grown g1 q1.size (fun g hg=>Nat.le_of_eq (Option.some.inj hg)))
 obtain ⟨s9,F9,rfl,o9,n9⟩:=Ib o1;go_loopw [5,6] (fun x i wr=>∃ (k:Nat) (t:Sl) (F:List Nat),k<=b.length/\x = Aa t.a t.n t.c/\i = J Ab k/\Hid (OwL Ch wr F t.v ((b.take k).foldl Ip a)/\(∀ x∈F,w<=x))/\Below w w wr) (fun _ i _=>b.length - (intOf i).toNat);case atStart=>exact ⟨0,s9,F9,Ah _,rfl,rfl,⟨o9,n9⟩,d1⟩
 case round =>
  clear o9 n9 d1 o1 g1;obtain ⟨k,t,F,hk,rfl,rfl,hO,hb⟩:=hrel;by_cases aB:k<b.length
  ·have aC:(k:Int)<(b.length:Int):=Bl;obtain ⟨b1,o,_,rfl,aH,_,c0,c1,c2,c3⟩:=(h'.below hb).entry aB;have hs:=hb.size;have bN:b1<wr:=Bl;have HT:=Bq (K5 Ip a b k aB);have aK:((b.take k).foldl Ip a).length<=2000000:=by rw [Ml];simp;omega
   have CP:=Bq (K4 ((b.take k).foldl Ip a) t b[k] wr aK hO.out.1.rd);generalize (b.take k).foldl Ip a=L at *
   go_wp2_with (go_at_call 291;refine CP.out.mono ?_;rintro e w2 ⟨t2,F2,rfl,o2,n2,b2⟩)
   exact ⟨⟨k+1,t2,F2,Bl,rfl,by go_num,⟨by rw [HT.out];exact o2,fun x hx=>Ai hs (n2 x hx)⟩,Bv hb b2⟩,clM⟩
  ·have aC:¬ (k:Int)<(b.length:Int):=Bl;have HO:=hO.out.1;rw [List.take_of_length_le Bl] at HO;go_wp2;go_ret;exact ⟨t,F,rfl,by rw [H.out];exact HO,hO.out.2,hb⟩
theorem Va (id:Int) (w:World) :
  Calls An 273 #[J Ab id] w fun e w'=>e = .returned (J Ab (Cz id))/\Below w w w':=by
 have rV:=Ty id;have aZ:=Ab8 (Eo id);have C:=Bq (U0 id w);by_cases h0:(Eo id).length=0
 ·have H:=Bq (show (Cz id:Int)=0 by unfold Cz;rw [if_pos h0];rfl);have hE:Eo id=[]:=List.eq_nil_of_length_eq_zero h0;rw [hE] at C;clear aZ h0;go_enter func273,ntmps273;go_wp2_with (go_at_call 121;refine C.out.mono ?_;rintro e w1 ⟨rfl,b1⟩)
  go_ret;exact ⟨by rw [H.out];rfl,b1⟩
 ·have H:=Bq (show (Cz id:Int)=Lr (Eo id) % 4 by
   unfold Cz;rw [if_neg h0];exact Int.toNat_of_nonneg (Int.emod_nonneg _ Bp))
  have hem:=Afl h0;have CS:=Bq (fun W=>Yr (Eo id) W Bl);have r4:=Ajm _ aZ.1;have w4:=Ai8 _ aZ.1;generalize Lr (Eo id)=sm at *
  generalize Eo id=L at *
  go_enter func273,ntmps273;go_wp2_with (first | (go_at_call 121;refine C.out.mono ?_;rintro e w1 ⟨rfl,b1⟩) | (go_at_call 123;refine (CS.out _).mono ?_;rintro e w2 ⟨rfl,b2⟩))
  go_ret;exact ⟨by rw [H.out];rfl,Bv b1 b2⟩
theorem Mm (l:List Entry) (s:Sl) (w:World) (hl:l.length<=2000000) (h:RdL Ch w w s.v l) :
  Calls An 145 #[Aa s.a s.n s.c] w fun e w'=>∃ v,e = .returned v/\Ow Cw 71 w' w v l/\Below w w w':=by
 obtain ⟨A,n,c⟩:=s;obtain rfl:n=l.length:=RdL.at1 (s:=⟨A,n,c⟩) h;obtain ⟨i0,aQ,aW,aU,aR⟩:=info_parts Gi;go_enter func145,ntmps145;go_wp2_with (at_builtin;refine Cj _ Cw Bp rfl (.const (Aa Ac 0 0)) (.tmp 3) rfl underlying74 aQ aW aU aR rfl (v:=Aa Ac 0 0) (l:=[]) rfl (Ow.nil Cw 71 _ w) rfl (J3 h) Bn Bl Bp (Bs _) ?_;intro v1 w1 o1 g1 _;rw [List.nil_append] at o1)
 go_ret;exact ⟨_,rfl,o1,(Br w w).grown g1 (Bs _) (fun g hg=>by cases hg)⟩
theorem Agf (x e:Entry) (p:Nat) (w:World) (hp:DBox p [J Ab e.prio,J Ab e.seq,J Ab e.run,J Ab e.task] w) :
  Calls An 303 #[Io x (),.pointer (Ad ⟨p,0,Ac⟩)] w fun en w'=>en = .returned (.bool (!D7 x e))/\Below w w w':=by
 obtain ⟨W,aG,X,B0⟩:=bx1 w 71 [J Ab x.prio,J Ab x.seq,J Ab x.run,J Ab x.task];have P:=hp.below B0;have C:=Bq (fun W=>M2 x e W);go_enter func303,ntmps303;go_upto_region 1 with fail
 rw [<-aG.out];clear aG;have X_:=X.g4;have P_:=P.g4;go_wp2_with fail
 refine (C.out _).mono ?_;rintro en w1 ⟨rfl,b1⟩;go_wp2;go_ret;exact ⟨rfl,Bv B0 b1⟩
theorem Ahr (l:List Entry) (e:Entry):∃ k,k<=l.length/\Ip l e=l.take k ++ e :: l.drop k/\((He (fun x=>!D7 x e) l = -1/\k=l.length)\/(He (fun x=>!D7 x e) l=(k:Int)/\k<l.length)):=by
 rcases Mv (fun x=>!D7 x e) l with hr | ⟨k,hk,hr⟩
 ·refine ⟨l.length,Bs _,?_,.inl ⟨hr,rfl⟩⟩
  have:=Vo (l:=l) (e:=e) (Bs _) (fun j hj _=>by
   cases hp:D7 l[j] e with
   | true=>rfl
   | false=>exact absurd (Ta (p:=fun x=>!D7 x e).2 ⟨_,Ax hj,by rw [hp];rfl⟩) Bl) (fun h=>absurd h Bl)
  rw [this,List.append_assoc];rfl
 ·refine ⟨k,Bl,?_,.inr ⟨hr,hk⟩⟩;unfold He at hr;cases hf:l.findIdx? (fun x=>!D7 x e) with
  | none=>rw [hf] at hr;simp only at hr;omega
  | some i =>
   rw [hf] at hr;simp only at hr;obtain ⟨hi,hp,hb⟩:=List.findIdx?_eq_some_iff_getElem.1 hf;obtain rfl:i=k:=Bl
   have:=Vo (l:=l) (e:=e) (k:=i) Bl (fun j hj fM=>by simpa using hb j fM) (fun h=>by simpa using hp)
   rw [this,List.append_assoc];rfl
theorem Nn (l:List Entry) (s:Sl) (e:Entry) (w:World) (hl:l.length<=900000) (h:RdL Ch w w s.v l) :
  Calls An 274 #[Aa s.a s.n s.c,Io e ()] w (Fa (Dt.list Ch) slV (Ip l e) w):=by
 obtain ⟨A,n,c⟩:=s;obtain rfl:n=l.length:=RdL.at1 (s:=⟨A,n,c⟩) h;obtain ⟨W,aG,E,B0⟩:=bx1 w 71 [J Ab e.prio,J Ab e.seq,J Ab e.run,J Ab e.task];have CI:=Bq (Q7 303 w (fun x=>!D7 x e) (N0 func303 Bm Bm) l A l.length c _ Bl ((J3 h).below B0 |>.more B0.size) (fun W' x hW=>Agf x e w W' (E.below hW)));have CC:=Bq (fun W (hW:Below w w W)=>Mm l ⟨A,l.length,c⟩ W Bl ((h.below hW).more hW.size));obtain ⟨k,hk,cP,hi⟩:=Ahr l e;replace cP:=Bq cP;have hEl:=E.lt;go_enter func274,ntmps274;go_wp2_with fail
 rw [<-aG.out];clear aG;refine CI.out.mono ?_;rintro e1 w1 ⟨rfl,b1⟩;replace E:=E.below b1;have B1:=Bv B0 b1;clear CI b1 B0;have uP:He (fun x=>!D7 x e) l = -1\/He (fun x=>!D7 x e) l=(k:Int):=hi.imp (·.1) (·.1);clear uP;rcases hi with ⟨hi,nE⟩ | ⟨hi,hklt⟩
 rw [nE] at cP;rw [hi];clear hi hk nE;have hk:=Bs l.length;rotate_left;rw [hi];have dF:¬ (k:Int)<0:=Bl;clear hi hklt;all_goals go_upto_region 4 with fail
 all_goals
  refine Go.wp_region_noPanic ?_;refine wp_region_held_drew (S:=fun w'=>DBox w [J Ab e.prio,J Ab e.seq,J Ab e.run,J Ab e.task] w') Bm (DBox.drew4 E) (fun aA=>?_);replace E:=DBox.drew4 E;have B2:=B1.drew;generalize w1.drew=w2 at *
  refine tY 0 ?_
  (try simp only [pS])
  refine tY 2 ?_
  (try simp only [pS])
  refine tY 3 ?_
  (try simp only [pS])
  have aR:=B2.size;have hEl2:=E.lt;refine Vk 1 4 rfl rfl Bm (by rfl) (by rfl) (fun K_ hK=>?_) (fun K_ hK=>?_)
  ·go_simp;refine (CC.out w2 B2).mono ?_;rintro e3 w3 ⟨v3,rfl,o3,b3⟩;refine hK.out _ _ (E.below b3) (fun aA=>?_);clear hK K_
   (try simp only [pS])
   refine rC 4 (fun K_ hK=>?_);go_simp;have ba:Below w3 w3 (w3.alloc (.cells #[J Ab e.prio,J Ab e.seq,J Ab e.run,J Ab e.task] 71)):=Bt;have hx:(w3.alloc (.cells #[J Ab e.prio,J Ab e.seq,J Ab e.run,J Ab e.task] 71)).heap[w3.heap.size]? = Ad (.cells (Cw.cells e).toArray 71 (0,0)):=heap_alloc_new w3 _;have ow:=o3.within;replace o3:=o3.below ba;have B4:=Bv B2 (Bv b3 ba);have E4:=E.below (Bv b3 ba);have gH:w3.heap.size<(w3.alloc (.cells #[J Ab e.prio,J Ab e.seq,J Ab e.run,J Ab e.task] 71)).heap.size:=Bn;have bU:=b3.size;generalize w3.heap.size=xb at *
   generalize w3.alloc (.cells #[J Ab e.prio,J Ab e.seq,J Ab e.run,J Ab e.task] 71)=w4 at *
   refine hK.out _ _ E4 (fun aA=>?_);clear hK K_
   (try simp only [pS])
   refine rC 5 (fun K_ hK=>?_);go_simp;refine (On v3 l _ xb e w2 w4 hk Bl o3 Bl hx (fun h=>by have:=(ow _ h).2;omega)).mono ?_;rintro e5 w5 ⟨v5,rfl,o5,g5,-⟩;rw [<-cP.out] at o5;have B5:Below w w w5:=B4.grown g5 B4.size (fun g hg=>by have:=(ow g hg).1;omega);refine hK.out _ _ (E4.off g5 (fun h=>by have:=(ow _ h.symm).1;omega)) (fun aA=>?_);clear hK K_
   (try simp only [pS])
   refine rC 6 (fun K_ hK=>?_);go_simp;refine hK.out _ _ aA (fun aA=>?_);clear hK K_
   (try simp only [pS])
   refine Am Bm ?_ _;refine NoPanic.normal ?_;obtain ⟨s9,F9,rfl,o9,n9⟩:=Ib (o5.more aR);go_wp2;go_ret;exact ⟨s9,F9,rfl,o9,n9,B5⟩
  ·go_simp;have ba:Below w2 w2 (w2.alloc (.cells #[J Ab e.prio,J Ab e.seq,J Ab e.run,J Ab e.task] 71)):=Bt;have hx:(w2.alloc (.cells #[J Ab e.prio,J Ab e.seq,J Ab e.run,J Ab e.task] 71)).heap[w2.heap.size]? = Ad (.cells (Cw.cells e).toArray 71 (0,0)):=heap_alloc_new w2 _;have B3:=Bv B2 ba;replace E:=E.below ba;have gH:w2.heap.size<(w2.alloc (.cells #[J Ab e.prio,J Ab e.seq,J Ab e.run,J Ab e.task] 71)).heap.size:=Bn;generalize w2.heap.size=xb at *
   generalize w2.alloc (.cells #[J Ab e.prio,J Ab e.seq,J Ab e.run,J Ab e.task] 71)=w3 at *
   refine hK.out _ _ E (fun aA=>?_);clear hK K_
   (try simp only [pS])
   refine rC 1 (fun K_ hK=>?_);go_simp;refine (CC.out w3 B3).mono ?_;rintro e3 w4 ⟨v3,rfl,o3,b4⟩;replace hx:=(b4.block xb gH).trans hx;have ow:=o3.within;have B4:=Bv B3 b4;have E4:=E.below b4;have tW:=B3.size;have hz4:=b4.size;refine hK.out _ _ E4 (fun aA=>?_);clear hK K_
   (try simp only [pS])
   refine rC 5 (fun K_ hK=>?_);go_simp;refine (On v3 l _ xb e w3 w4 hk Bl o3 Bl hx (fun h=>by have:=(ow _ h).1;omega)).mono ?_;rintro e5 w5 ⟨v5,rfl,o5,g5,-⟩;rw [<-cP.out] at o5;have B5:Below w w w5:=B4.grown g5 B4.size (fun g hg=>by have:=(ow g hg).1;omega);refine hK.out _ _ (E4.off g5 (fun h=>by have:=(ow _ h.symm).1;omega)) (fun aA=>?_);clear hK K_
   (try simp only [pS])
   refine rC 6 (fun K_ hK=>?_);go_simp;refine hK.out _ _ aA (fun aA=>?_);clear hK K_
   (try simp only [pS])
   refine Am Bm ?_ _;refine NoPanic.normal ?_;obtain ⟨s9,F9,rfl,o9,n9⟩:=Ib (o5.more tW);go_wp2;go_ret;exact ⟨s9,F9,rfl,o9,n9,B5⟩
def Kw:Plan:=⟨0,0,0,0,[]⟩
def Hb (d:Deed):Deed :=
 if d.kind=1 then ⟨d.kind,d.run,d.plan,0,0,0,0⟩
 else if d.kind=2 then ⟨d.kind,0,Kw,0,0,d.worker,d.draw⟩
 else if d.kind=3\/d.kind=4 then ⟨d.kind,d.run,Kw,d.task,d.try_,0,0⟩
 else if d.kind=6\/d.kind=7 then ⟨d.kind,d.run,Kw,0,0,0,0⟩
 else ⟨d.kind,0,Kw,0,0,0,0⟩
theorem DBox.drew {b:Nat} {cs:List Value} {w:World} (h:DBox b cs w):DBox b cs w.drew:=⟨h.cell,h.free,h.lt⟩
theorem DBox.row11 {b:Nat} {cs:List Value} {w:World} (h:DBox b cs w) (hn:cs.length=11) (u0 u1 u2 u3 u4 u5 u6 u7 u8 u9 u10:Value) :
  DBox b [u0,u1,u2,u3,u4,u5,u6,u7,u8,u9,u10] (((((((((((w.setCell ⟨b,0,Ac⟩ u0).setCell ⟨b,1,Ac⟩ u1).setCell ⟨b,2,Ac⟩ u2).setCell ⟨b,3,Ac⟩ u3).setCell ⟨b,4,Ac⟩ u4).setCell ⟨b,5,Ac⟩ u5).setCell ⟨b,6,Ac⟩ u6).setCell ⟨b,7,Ac⟩ u7).setCell ⟨b,8,Ac⟩ u8).setCell ⟨b,9,Ac⟩ u9).setCell ⟨b,10,Ac⟩ u10):=by
 obtain ⟨c0,c1,c2,c3,c4,c5,c6,c7,c8,c9,c10,rfl⟩:∃ c0 c1 c2 c3 c4 c5 c6 c7 c8 c9 c10,cs=[c0,c1,c2,c3,c4,c5,c6,c7,c8,c9,c10]:=by
  match cs,hn with
  | [c0,c1,c2,c3,c4,c5,c6,c7,c8,c9,c10],_=>exact ⟨c0,c1,c2,c3,c4,c5,c6,c7,c8,c9,c10,rfl⟩
 exact ((((((((((h.set 0 Bn u0).set 1 Bn u1).set 2 Bn u2).set 3 Bn u3).set 4 Bn u4).set 5 Bn u5).set 6 Bn u6).set 7 Bn u7).set 8 Bn u8).set 9 Bn u9).set 10 Bn u10
theorem Mn {b:Nat} {w:World} {u0 u1 u2 u3 u4 u5 u6 u7 u8 u9 u10:Value} (X:DBox b [u0,u1,u2,u3,u4,u5,u6,u7,u8,u9,u10] w) {v0 v1:Value} {rest:List Value} :
  (results Tryz.f128 (v0 :: v1 :: .pointer (Ad ⟨b,0,Ac⟩) :: rest).toArray).run An w = .ok (.agg #[u0,u1,u2,u3,u4,u5,u6,u7,u8,u9,u10]) w:=by
 have c0:=X.cell 0 _ rfl;have c1:=X.cell 1 _ rfl;have c2:=X.cell 2 _ rfl;have c3:=X.cell 3 _ rfl;have c4:=X.cell 4 _ rfl;have c5:=X.cell 5 _ rfl;have c6:=X.cell 6 _ rfl;have c7:=X.cell 7 _ rfl;have c8:=X.cell 8 _ rfl;have c9:=X.cell 9 _ rfl;have c10:=X.cell 10 _ rfl;simp [results,results128,go_sem,c0,c1,c2,c3,c4,c5,c6,c7,c8,c9,c10]
theorem Agg (d:Deed) (s:Sl) (w:World) (hk:d.kind=1) :
  Calls An 128 #[Dw d s] w fun e w'=>e = .returned (Dw (Hb d) (if d.kind=1 then s else ⟨Ac,0,0⟩))/\Below w w w':=by
 obtain ⟨A,n,c⟩:=s;obtain ⟨kd,rn,p,tk,ty,wk,dr⟩:=d;obtain rfl:kd=1:=hk;show Calls An 128 #[Dw ⟨1,rn,p,tk,ty,wk,dr⟩ ⟨A,n,c⟩] w fun e w'=>e = .returned (Dw (Hb ⟨1,rn,p,tk,ty,wk,dr⟩) (if (1:Int)=1 then (⟨A,n,c⟩:Sl) else ⟨Ac,0,0⟩))/\Below w w w';rw [show Dw (Hb ⟨1,rn,p,tk,ty,wk,dr⟩) (if (1:Int)=1 then (⟨A,n,c⟩:Sl) else ⟨Ac,0,0⟩)=Dw ⟨1,rn,p,0,0,0,0⟩ ⟨A,n,c⟩ from rfl];obtain ⟨W,aG,X,R,Y,B0⟩:=bx3 w 45 [J Ab 1,J Ab rn,J Ab p.prio,J Ab p.most,J Ab p.wait,J Ab p.tasks,Aa A n c,J Ab tk,J Ab ty,J Ab wk,J Ab dr] 45 [J Ab 0,J Ab 0,J Ab 0,J Ab 0,J Ab 0,J Ab 0,Aa Ac 0 0,J Ab 0,J Ab 0,J Ab 0,J Ab 0] 45 [J Ab 1,J Ab 0,J Ab 0,J Ab 0,J Ab 0,J Ab 0,Aa Ac 0 0,J Ab 0,J Ab 0,J Ab 0,J Ab 0];go_enter func128,ntmps128;go_wp2;rw [<-aG.out];clear aG;have X_:=X.g11;have Y_:=Y.g11;have R_:=R.g11;have yf:=Y.free;have rf:=R.free;go_region;have Y3:DBox (w+1+1) [J Ab 1,J Ab rn,J Ab p.prio,J Ab p.most,J Ab p.wait,J Ab p.tasks,Aa A n c,J Ab 0,J Ab 0,J Ab 0,J Ab 0] ((((((W.setCell ⟨w+1+1,1,Ac⟩ (J Ab rn)).setCell ⟨w+1+1,2,Ac⟩ (J Ab p.prio)).setCell ⟨w+1+1,3,Ac⟩ (J Ab p.most)).setCell ⟨w+1+1,4,Ac⟩ (J Ab p.wait)).setCell ⟨w+1+1,5,Ac⟩ (J Ab p.tasks)).setCell ⟨w+1+1,6,Ac⟩ (Aa A n c)).drew:=DBox.drew ((((((Y.set 1 Bn (J Ab rn)).set 2 Bn (J Ab p.prio)).set 3 Bn (J Ab p.most)).set 4 Bn (J Ab p.wait)).set 5 Bn (J Ab p.tasks)).set 6 Bn (Aa A n c));have R3:DBox (w+1) [J Ab 0,J Ab 0,J Ab 0,J Ab 0,J Ab 0,J Ab 0,Aa Ac 0 0,J Ab 0,J Ab 0,J Ab 0,J Ab 0] ((((((W.setCell ⟨w+1+1,1,Ac⟩ (J Ab rn)).setCell ⟨w+1+1,2,Ac⟩ (J Ab p.prio)).setCell ⟨w+1+1,3,Ac⟩ (J Ab p.most)).setCell ⟨w+1+1,4,Ac⟩ (J Ab p.wait)).setCell ⟨w+1+1,5,Ac⟩ (J Ab p.tasks)).setCell ⟨w+1+1,6,Ac⟩ (Aa A n c)).drew:=DBox.drew ((((((R.setOther (a:=⟨w+1+1,1,Ac⟩) Bn (J Ab rn)).setOther (a:=⟨w+1+1,2,Ac⟩) Bn (J Ab p.prio)).setOther (a:=⟨w+1+1,3,Ac⟩) Bn (J Ab p.most)).setOther (a:=⟨w+1+1,4,Ac⟩) Bn (J Ab p.wait)).setOther (a:=⟨w+1+1,5,Ac⟩) Bn (J Ab p.tasks)).setOther (a:=⟨w+1+1,6,Ac⟩) Bn (Aa A n c));have B3:Below w w ((((((W.setCell ⟨w+1+1,1,Ac⟩ (J Ab rn)).setCell ⟨w+1+1,2,Ac⟩ (J Ab p.prio)).setCell ⟨w+1+1,3,Ac⟩ (J Ab p.most)).setCell ⟨w+1+1,4,Ac⟩ (J Ab p.wait)).setCell ⟨w+1+1,5,Ac⟩ (J Ab p.tasks)).setCell ⟨w+1+1,6,Ac⟩ (Aa A n c)).drew:=Below.drew (Ae (Ae (Ae (Ae (Ae (Ae B0 Bo (J Ab rn)) Bo (J Ab p.prio)) Bo (J Ab p.most)) Bo (J Ab p.wait)) Bo (J Ab p.tasks)) Bo (Aa A n c));clear X_;clear Y_;clear R_;clear X Y R yf rf B0;generalize ((((((W.setCell ⟨w+1+1,1,Ac⟩ (J Ab rn)).setCell ⟨w+1+1,2,Ac⟩ (J Ab p.prio)).setCell ⟨w+1+1,3,Ac⟩ (J Ab p.most)).setCell ⟨w+1+1,4,Ac⟩ (J Ab p.wait)).setCell ⟨w+1+1,5,Ac⟩ (J Ab p.tasks)).setCell ⟨w+1+1,6,Ac⟩ (Aa A n c)).drew=W3 at *
 have Y:=Y3;have R:=R3;have B0:=B3;clear Y3 R3 B3;have Y_:=Y.g11;have R_:=R.g11;have yf:=Y.free;have rf:=R.free;all_goals go_wp2
 all_goals refine Ak (v:=Dw ⟨1,rn,p,0,0,0,0⟩ ⟨A,n,c⟩) (Mn (DBox.row11 (cs:=[J Ab 0,J Ab 0,J Ab 0,J Ab 0,J Ab 0,J Ab 0,Aa Ac 0 0,J Ab 0,J Ab 0,J Ab 0,J Ab 0]) ?_ rfl _ _ _ _ _ _ _ _ _ _ _)) rfl ⟨rfl,?_⟩
 all_goals repeat (first | (with_reducible exact B0) | (with_reducible exact R) | refine Ae ?_ Bo _ | refine DBox.setOther ?_ Bo _)
theorem Agh (d:Deed) (s:Sl) (w:World) (hk:d.kind=2) :
  Calls An 128 #[Dw d s] w fun e w'=>e = .returned (Dw (Hb d) (if d.kind=1 then s else ⟨Ac,0,0⟩))/\Below w w w':=by
 obtain ⟨A,n,c⟩:=s;obtain ⟨kd,rn,p,tk,ty,wk,dr⟩:=d;obtain rfl:kd=2:=hk;show Calls An 128 #[Dw ⟨2,rn,p,tk,ty,wk,dr⟩ ⟨A,n,c⟩] w fun e w'=>e = .returned (Dw (Hb ⟨2,rn,p,tk,ty,wk,dr⟩) (if (2:Int)=1 then (⟨A,n,c⟩:Sl) else ⟨Ac,0,0⟩))/\Below w w w';rw [show Dw (Hb ⟨2,rn,p,tk,ty,wk,dr⟩) (if (2:Int)=1 then (⟨A,n,c⟩:Sl) else ⟨Ac,0,0⟩)=Dw ⟨2,0,Kw,0,0,wk,dr⟩ ⟨Ac,0,0⟩ from rfl];obtain ⟨W,aG,X,R,Y,B0⟩:=bx3 w 45 [J Ab 2,J Ab rn,J Ab p.prio,J Ab p.most,J Ab p.wait,J Ab p.tasks,Aa A n c,J Ab tk,J Ab ty,J Ab wk,J Ab dr] 45 [J Ab 0,J Ab 0,J Ab 0,J Ab 0,J Ab 0,J Ab 0,Aa Ac 0 0,J Ab 0,J Ab 0,J Ab 0,J Ab 0] 45 [J Ab 2,J Ab 0,J Ab 0,J Ab 0,J Ab 0,J Ab 0,Aa Ac 0 0,J Ab 0,J Ab 0,J Ab 0,J Ab 0];go_enter func128,ntmps128;go_wp2;rw [<-aG.out];clear aG;have X_:=X.g11;have Y_:=Y.g11;have R_:=R.g11;have yf:=Y.free;have rf:=R.free;go_region;have Y3:DBox (w+1+1) [J Ab 2,J Ab 0,J Ab 0,J Ab 0,J Ab 0,J Ab 0,Aa Ac 0 0,J Ab 0,J Ab 0,J Ab wk,J Ab dr] ((W.setCell ⟨w+1+1,9,Ac⟩ (J Ab wk)).setCell ⟨w+1+1,10,Ac⟩ (J Ab dr)).drew:=DBox.drew ((Y.set 9 Bn (J Ab wk)).set 10 Bn (J Ab dr));have R3:DBox (w+1) [J Ab 0,J Ab 0,J Ab 0,J Ab 0,J Ab 0,J Ab 0,Aa Ac 0 0,J Ab 0,J Ab 0,J Ab 0,J Ab 0] ((W.setCell ⟨w+1+1,9,Ac⟩ (J Ab wk)).setCell ⟨w+1+1,10,Ac⟩ (J Ab dr)).drew:=DBox.drew ((R.setOther (a:=⟨w+1+1,9,Ac⟩) Bn (J Ab wk)).setOther (a:=⟨w+1+1,10,Ac⟩) Bn (J Ab dr));have B3:Below w w ((W.setCell ⟨w+1+1,9,Ac⟩ (J Ab wk)).setCell ⟨w+1+1,10,Ac⟩ (J Ab dr)).drew:=Below.drew (Ae (Ae B0 Bo (J Ab wk)) Bo (J Ab dr));clear X_;clear Y_;clear R_;clear X Y R yf rf B0;generalize ((W.setCell ⟨w+1+1,9,Ac⟩ (J Ab wk)).setCell ⟨w+1+1,10,Ac⟩ (J Ab dr)).drew=W3 at *
 have Y:=Y3;have R:=R3;have B0:=B3;clear Y3 R3 B3;have Y_:=Y.g11;have R_:=R.g11;have yf:=Y.free;have rf:=R.free;all_goals go_wp2
 all_goals refine Ak (v:=Dw ⟨2,0,Kw,0,0,wk,dr⟩ ⟨Ac,0,0⟩) (Mn (DBox.row11 (cs:=[J Ab 0,J Ab 0,J Ab 0,J Ab 0,J Ab 0,J Ab 0,Aa Ac 0 0,J Ab 0,J Ab 0,J Ab 0,J Ab 0]) ?_ rfl _ _ _ _ _ _ _ _ _ _ _)) rfl ⟨rfl,?_⟩
 all_goals repeat (first | (with_reducible exact B0) | (with_reducible exact R) | refine Ae ?_ Bo _ | refine DBox.setOther ?_ Bo _)
theorem Agi (d:Deed) (s:Sl) (w:World) (hk:d.kind=3) :
  Calls An 128 #[Dw d s] w fun e w'=>e = .returned (Dw (Hb d) (if d.kind=1 then s else ⟨Ac,0,0⟩))/\Below w w w':=by
 obtain ⟨A,n,c⟩:=s;obtain ⟨kd,rn,p,tk,ty,wk,dr⟩:=d;obtain rfl:kd=3:=hk;show Calls An 128 #[Dw ⟨3,rn,p,tk,ty,wk,dr⟩ ⟨A,n,c⟩] w fun e w'=>e = .returned (Dw (Hb ⟨3,rn,p,tk,ty,wk,dr⟩) (if (3:Int)=1 then (⟨A,n,c⟩:Sl) else ⟨Ac,0,0⟩))/\Below w w w';rw [show Dw (Hb ⟨3,rn,p,tk,ty,wk,dr⟩) (if (3:Int)=1 then (⟨A,n,c⟩:Sl) else ⟨Ac,0,0⟩)=Dw ⟨3,rn,Kw,tk,ty,0,0⟩ ⟨Ac,0,0⟩ from rfl];obtain ⟨W,aG,X,R,Y,B0⟩:=bx3 w 45 [J Ab 3,J Ab rn,J Ab p.prio,J Ab p.most,J Ab p.wait,J Ab p.tasks,Aa A n c,J Ab tk,J Ab ty,J Ab wk,J Ab dr] 45 [J Ab 0,J Ab 0,J Ab 0,J Ab 0,J Ab 0,J Ab 0,Aa Ac 0 0,J Ab 0,J Ab 0,J Ab 0,J Ab 0] 45 [J Ab 3,J Ab 0,J Ab 0,J Ab 0,J Ab 0,J Ab 0,Aa Ac 0 0,J Ab 0,J Ab 0,J Ab 0,J Ab 0];go_enter func128,ntmps128;go_wp2;rw [<-aG.out];clear aG;have X_:=X.g11;have Y_:=Y.g11;have R_:=R.g11;have yf:=Y.free;have rf:=R.free;go_region;have Y3:DBox (w+1+1) [J Ab 3,J Ab rn,J Ab 0,J Ab 0,J Ab 0,J Ab 0,Aa Ac 0 0,J Ab tk,J Ab ty,J Ab 0,J Ab 0] (((W.setCell ⟨w+1+1,1,Ac⟩ (J Ab rn)).setCell ⟨w+1+1,7,Ac⟩ (J Ab tk)).setCell ⟨w+1+1,8,Ac⟩ (J Ab ty)).drew:=DBox.drew (((Y.set 1 Bn (J Ab rn)).set 7 Bn (J Ab tk)).set 8 Bn (J Ab ty));have R3:DBox (w+1) [J Ab 0,J Ab 0,J Ab 0,J Ab 0,J Ab 0,J Ab 0,Aa Ac 0 0,J Ab 0,J Ab 0,J Ab 0,J Ab 0] (((W.setCell ⟨w+1+1,1,Ac⟩ (J Ab rn)).setCell ⟨w+1+1,7,Ac⟩ (J Ab tk)).setCell ⟨w+1+1,8,Ac⟩ (J Ab ty)).drew:=DBox.drew (((R.setOther (a:=⟨w+1+1,1,Ac⟩) Bn (J Ab rn)).setOther (a:=⟨w+1+1,7,Ac⟩) Bn (J Ab tk)).setOther (a:=⟨w+1+1,8,Ac⟩) Bn (J Ab ty));have B3:Below w w (((W.setCell ⟨w+1+1,1,Ac⟩ (J Ab rn)).setCell ⟨w+1+1,7,Ac⟩ (J Ab tk)).setCell ⟨w+1+1,8,Ac⟩ (J Ab ty)).drew:=Below.drew (Ae (Ae (Ae B0 Bo (J Ab rn)) Bo (J Ab tk)) Bo (J Ab ty));clear X_;clear Y_;clear R_;clear X Y R yf rf B0;generalize (((W.setCell ⟨w+1+1,1,Ac⟩ (J Ab rn)).setCell ⟨w+1+1,7,Ac⟩ (J Ab tk)).setCell ⟨w+1+1,8,Ac⟩ (J Ab ty)).drew=W3 at *
 have Y:=Y3;have R:=R3;have B0:=B3;clear Y3 R3 B3;have Y_:=Y.g11;have R_:=R.g11;have yf:=Y.free;have rf:=R.free;all_goals go_wp2
 all_goals refine Ak (v:=Dw ⟨3,rn,Kw,tk,ty,0,0⟩ ⟨Ac,0,0⟩) (Mn (DBox.row11 (cs:=[J Ab 0,J Ab 0,J Ab 0,J Ab 0,J Ab 0,J Ab 0,Aa Ac 0 0,J Ab 0,J Ab 0,J Ab 0,J Ab 0]) ?_ rfl _ _ _ _ _ _ _ _ _ _ _)) rfl ⟨rfl,?_⟩
 all_goals repeat (first | (with_reducible exact B0) | (with_reducible exact R) | refine Ae ?_ Bo _ | refine DBox.setOther ?_ Bo _)
theorem Agj (d:Deed) (s:Sl) (w:World) (hk:d.kind=4) :
  Calls An 128 #[Dw d s] w fun e w'=>e = .returned (Dw (Hb d) (if d.kind=1 then s else ⟨Ac,0,0⟩))/\Below w w w':=by
 obtain ⟨A,n,c⟩:=s;obtain ⟨kd,rn,p,tk,ty,wk,dr⟩:=d;obtain rfl:kd=4:=hk;show Calls An 128 #[Dw ⟨4,rn,p,tk,ty,wk,dr⟩ ⟨A,n,c⟩] w fun e w'=>e = .returned (Dw (Hb ⟨4,rn,p,tk,ty,wk,dr⟩) (if (4:Int)=1 then (⟨A,n,c⟩:Sl) else ⟨Ac,0,0⟩))/\Below w w w';rw [show Dw (Hb ⟨4,rn,p,tk,ty,wk,dr⟩) (if (4:Int)=1 then (⟨A,n,c⟩:Sl) else ⟨Ac,0,0⟩)=Dw ⟨4,rn,Kw,tk,ty,0,0⟩ ⟨Ac,0,0⟩ from rfl];obtain ⟨W,aG,X,R,Y,B0⟩:=bx3 w 45 [J Ab 4,J Ab rn,J Ab p.prio,J Ab p.most,J Ab p.wait,J Ab p.tasks,Aa A n c,J Ab tk,J Ab ty,J Ab wk,J Ab dr] 45 [J Ab 0,J Ab 0,J Ab 0,J Ab 0,J Ab 0,J Ab 0,Aa Ac 0 0,J Ab 0,J Ab 0,J Ab 0,J Ab 0] 45 [J Ab 4,J Ab 0,J Ab 0,J Ab 0,J Ab 0,J Ab 0,Aa Ac 0 0,J Ab 0,J Ab 0,J Ab 0,J Ab 0];go_enter func128,ntmps128;go_wp2;rw [<-aG.out];clear aG;have X_:=X.g11;have Y_:=Y.g11;have R_:=R.g11;have yf:=Y.free;have rf:=R.free;go_region;have Y3:DBox (w+1+1) [J Ab 4,J Ab rn,J Ab 0,J Ab 0,J Ab 0,J Ab 0,Aa Ac 0 0,J Ab tk,J Ab ty,J Ab 0,J Ab 0] (((W.setCell ⟨w+1+1,1,Ac⟩ (J Ab rn)).setCell ⟨w+1+1,7,Ac⟩ (J Ab tk)).setCell ⟨w+1+1,8,Ac⟩ (J Ab ty)).drew:=DBox.drew (((Y.set 1 Bn (J Ab rn)).set 7 Bn (J Ab tk)).set 8 Bn (J Ab ty));have R3:DBox (w+1) [J Ab 0,J Ab 0,J Ab 0,J Ab 0,J Ab 0,J Ab 0,Aa Ac 0 0,J Ab 0,J Ab 0,J Ab 0,J Ab 0] (((W.setCell ⟨w+1+1,1,Ac⟩ (J Ab rn)).setCell ⟨w+1+1,7,Ac⟩ (J Ab tk)).setCell ⟨w+1+1,8,Ac⟩ (J Ab ty)).drew:=DBox.drew (((R.setOther (a:=⟨w+1+1,1,Ac⟩) Bn (J Ab rn)).setOther (a:=⟨w+1+1,7,Ac⟩) Bn (J Ab tk)).setOther (a:=⟨w+1+1,8,Ac⟩) Bn (J Ab ty));have B3:Below w w (((W.setCell ⟨w+1+1,1,Ac⟩ (J Ab rn)).setCell ⟨w+1+1,7,Ac⟩ (J Ab tk)).setCell ⟨w+1+1,8,Ac⟩ (J Ab ty)).drew:=Below.drew (Ae (Ae (Ae B0 Bo (J Ab rn)) Bo (J Ab tk)) Bo (J Ab ty));clear X_;clear Y_;clear R_;clear X Y R yf rf B0;generalize (((W.setCell ⟨w+1+1,1,Ac⟩ (J Ab rn)).setCell ⟨w+1+1,7,Ac⟩ (J Ab tk)).setCell ⟨w+1+1,8,Ac⟩ (J Ab ty)).drew=W3 at *
 have Y:=Y3;have R:=R3;have B0:=B3;clear Y3 R3 B3;have Y_:=Y.g11;have R_:=R.g11;have yf:=Y.free;have rf:=R.free;all_goals go_wp2
 all_goals refine Ak (v:=Dw ⟨4,rn,Kw,tk,ty,0,0⟩ ⟨Ac,0,0⟩) (Mn (DBox.row11 (cs:=[J Ab 0,J Ab 0,J Ab 0,J Ab 0,J Ab 0,J Ab 0,Aa Ac 0 0,J Ab 0,J Ab 0,J Ab 0,J Ab 0]) ?_ rfl _ _ _ _ _ _ _ _ _ _ _)) rfl ⟨rfl,?_⟩
 all_goals repeat (first | (with_reducible exact B0) | (with_reducible exact R) | refine Ae ?_ Bo _ | refine DBox.setOther ?_ Bo _)
theorem Agk (d:Deed) (s:Sl) (w:World) (hk:d.kind=6) :
  Calls An 128 #[Dw d s] w fun e w'=>e = .returned (Dw (Hb d) (if d.kind=1 then s else ⟨Ac,0,0⟩))/\Below w w w':=by
 obtain ⟨A,n,c⟩:=s;obtain ⟨kd,rn,p,tk,ty,wk,dr⟩:=d;obtain rfl:kd=6:=hk;show Calls An 128 #[Dw ⟨6,rn,p,tk,ty,wk,dr⟩ ⟨A,n,c⟩] w fun e w'=>e = .returned (Dw (Hb ⟨6,rn,p,tk,ty,wk,dr⟩) (if (6:Int)=1 then (⟨A,n,c⟩:Sl) else ⟨Ac,0,0⟩))/\Below w w w';rw [show Dw (Hb ⟨6,rn,p,tk,ty,wk,dr⟩) (if (6:Int)=1 then (⟨A,n,c⟩:Sl) else ⟨Ac,0,0⟩)=Dw ⟨6,rn,Kw,0,0,0,0⟩ ⟨Ac,0,0⟩ from rfl];obtain ⟨W,aG,X,R,Y,B0⟩:=bx3 w 45 [J Ab 6,J Ab rn,J Ab p.prio,J Ab p.most,J Ab p.wait,J Ab p.tasks,Aa A n c,J Ab tk,J Ab ty,J Ab wk,J Ab dr] 45 [J Ab 0,J Ab 0,J Ab 0,J Ab 0,J Ab 0,J Ab 0,Aa Ac 0 0,J Ab 0,J Ab 0,J Ab 0,J Ab 0] 45 [J Ab 6,J Ab 0,J Ab 0,J Ab 0,J Ab 0,J Ab 0,Aa Ac 0 0,J Ab 0,J Ab 0,J Ab 0,J Ab 0];go_enter func128,ntmps128;go_upto_region 12 with fail
 rw [<-aG.out];clear aG;have X_:=X.g11;have Y_:=Y.g11;have R_:=R.g11;have yf:=Y.free;have rf:=R.free;all_goals go_wp2
 all_goals refine Ak (v:=Dw ⟨6,rn,Kw,0,0,0,0⟩ ⟨Ac,0,0⟩) (Mn (DBox.row11 (cs:=[J Ab 0,J Ab 0,J Ab 0,J Ab 0,J Ab 0,J Ab 0,Aa Ac 0 0,J Ab 0,J Ab 0,J Ab 0,J Ab 0]) ?_ rfl _ _ _ _ _ _ _ _ _ _ _)) rfl ⟨rfl,?_⟩
 all_goals repeat (first | (with_reducible exact B0) | (with_reducible exact R) | refine Ae ?_ Bo _ | refine DBox.setOther ?_ Bo _)
theorem Agl (d:Deed) (s:Sl) (w:World) (hk:d.kind=7) :
  Calls An 128 #[Dw d s] w fun e w'=>e = .returned (Dw (Hb d) (if d.kind=1 then s else ⟨Ac,0,0⟩))/\Below w w w':=by
 obtain ⟨A,n,c⟩:=s;obtain ⟨kd,rn,p,tk,ty,wk,dr⟩:=d;obtain rfl:kd=7:=hk;show Calls An 128 #[Dw ⟨7,rn,p,tk,ty,wk,dr⟩ ⟨A,n,c⟩] w fun e w'=>e = .returned (Dw (Hb ⟨7,rn,p,tk,ty,wk,dr⟩) (if (7:Int)=1 then (⟨A,n,c⟩:Sl) else ⟨Ac,0,0⟩))/\Below w w w';rw [show Dw (Hb ⟨7,rn,p,tk,ty,wk,dr⟩) (if (7:Int)=1 then (⟨A,n,c⟩:Sl) else ⟨Ac,0,0⟩)=Dw ⟨7,rn,Kw,0,0,0,0⟩ ⟨Ac,0,0⟩ from rfl];obtain ⟨W,aG,X,R,Y,B0⟩:=bx3 w 45 [J Ab 7,J Ab rn,J Ab p.prio,J Ab p.most,J Ab p.wait,J Ab p.tasks,Aa A n c,J Ab tk,J Ab ty,J Ab wk,J Ab dr] 45 [J Ab 0,J Ab 0,J Ab 0,J Ab 0,J Ab 0,J Ab 0,Aa Ac 0 0,J Ab 0,J Ab 0,J Ab 0,J Ab 0] 45 [J Ab 7,J Ab 0,J Ab 0,J Ab 0,J Ab 0,J Ab 0,Aa Ac 0 0,J Ab 0,J Ab 0,J Ab 0,J Ab 0];go_enter func128,ntmps128;go_upto_region 12 with fail
 rw [<-aG.out];clear aG;have X_:=X.g11;have Y_:=Y.g11;have R_:=R.g11;have yf:=Y.free;have rf:=R.free;all_goals go_wp2
 all_goals refine Ak (v:=Dw ⟨7,rn,Kw,0,0,0,0⟩ ⟨Ac,0,0⟩) (Mn (DBox.row11 (cs:=[J Ab 0,J Ab 0,J Ab 0,J Ab 0,J Ab 0,J Ab 0,Aa Ac 0 0,J Ab 0,J Ab 0,J Ab 0,J Ab 0]) ?_ rfl _ _ _ _ _ _ _ _ _ _ _)) rfl ⟨rfl,?_⟩
 all_goals repeat (first | (with_reducible exact B0) | (with_reducible exact R) | refine Ae ?_ Bo _ | refine DBox.setOther ?_ Bo _)
theorem Agm (d:Deed) (s:Sl) (w:World) (k1:(d.kind == 1)=false) (k2:(d.kind == 2)=false) (k3:(d.kind == 3)=false) (k4:(d.kind == 4)=false) (k6:(d.kind == 6)=false) (k7:(d.kind == 7)=false) :
  Calls An 128 #[Dw d s] w fun e w'=>e = .returned (Dw (Hb d) (if d.kind=1 then s else ⟨Ac,0,0⟩))/\Below w w w':=by
 obtain ⟨A,n,c⟩:=s;obtain ⟨kd,rn,p,tk,ty,wk,dr⟩:=d;replace k1:(kd == 1)=false:=k1;replace k2:(kd == 2)=false:=k2;replace k3:(kd == 3)=false:=k3;replace k4:(kd == 4)=false:=k4;replace k6:(kd == 6)=false:=k6;replace k7:(kd == 7)=false:=k7;show Calls An 128 #[Dw ⟨kd,rn,p,tk,ty,wk,dr⟩ ⟨A,n,c⟩] w fun e w'=>e = .returned (Dw (Hb ⟨kd,rn,p,tk,ty,wk,dr⟩) (if (kd:Int)=1 then (⟨A,n,c⟩:Sl) else ⟨Ac,0,0⟩))/\Below w w w';rw [show Dw (Hb ⟨kd,rn,p,tk,ty,wk,dr⟩) (if (kd:Int)=1 then (⟨A,n,c⟩:Sl) else ⟨Ac,0,0⟩)=Dw ⟨kd,0,Kw,0,0,0,0⟩ ⟨Ac,0,0⟩ from by simp only [beq_eq_false_iff_ne] at k1 k2 k3 k4 k6 k7;simp [Hb,k1,k2,k3,k4,k6,k7]];obtain ⟨W,aG,X,R,Y,B0⟩:=bx3 w 45 [J Ab kd,J Ab rn,J Ab p.prio,J Ab p.most,J Ab p.wait,J Ab p.tasks,Aa A n c,J Ab tk,J Ab ty,J Ab wk,J Ab dr] 45 [J Ab 0,J Ab 0,J Ab 0,J Ab 0,J Ab 0,J Ab 0,Aa Ac 0 0,J Ab 0,J Ab 0,J Ab 0,J Ab 0] 45 [J Ab kd,J Ab 0,J Ab 0,J Ab 0,J Ab 0,J Ab 0,Aa Ac 0 0,J Ab 0,J Ab 0,J Ab 0,J Ab 0];go_enter func128,ntmps128;go_upto_region 13 with fail
 rw [<-aG.out];clear aG;have X_:=X.g11;have Y_:=Y.g11;have R_:=R.g11;have yf:=Y.free;have rf:=R.free;all_goals go_wp2
 all_goals refine Ak (v:=Dw ⟨kd,0,Kw,0,0,0,0⟩ ⟨Ac,0,0⟩) (Mn (DBox.row11 (cs:=[J Ab 0,J Ab 0,J Ab 0,J Ab 0,J Ab 0,J Ab 0,Aa Ac 0 0,J Ab 0,J Ab 0,J Ab 0,J Ab 0]) ?_ rfl _ _ _ _ _ _ _ _ _ _ _)) rfl ⟨rfl,?_⟩
 all_goals repeat (first | (with_reducible exact B0) | (with_reducible exact R) | refine Ae ?_ Bo _ | refine DBox.setOther ?_ Bo _)
/-! a drawn plan is right -/
structure Drawn (T:Int) (n:Nat) (es:List Edge):Prop where
 len:es.length<=n
 nodup:es.Nodup
 up:∀ e∈es,0<=e.fr/\e.fr<e.to/\e.to<T
theorem Drawn.add {T:Int} {n:Nat} {es:List Edge} (h:Drawn T n es) {e:Edge} (he:0<=e.fr/\e.fr<e.to/\e.to<T):Drawn T (n+1) (Yq es e):=by
 unfold Yq;split
 ·exact ⟨by have:=h.len;omega,h.nodup,h.up⟩
 ·rename_i hn;refine ⟨by have:=h.len;simp;omega,Mh.2 ⟨h.nodup,hn⟩,fun x hx=>?_⟩;rcases List.mem_append.1 hx with hx | hx
  ·exact h.up x hx
  ·rw [List.mem_singleton.1 hx];exact he
theorem Sc (code:List UInt8) (T:Int):∀ (f i:Nat) (es:List Edge) (c:Cur) (n:Nat),Drawn T n es->Drawn T (n+f) (Jy code T f i es c).1
 | 0,i,es,c,n,h=>h
 | f+1,i,es,c,n,h=>by
  rw [Jy];split
  ·rename_i hg;have h1:=Dz code (n:=T - 1) (Bw code 9 c).2 Bl;have h2:1<=Tw code T c/\Tw code T c<T:=by unfold Tw;omega
   have h3:=Dz code (n:=Tw code T c) (Bw code (T - 1) (Bw code 9 c).2).2 Bl
   have:=Sc code T f (i+1) _ (Ajd code T c) (n+1) (h.add (e:=Aim code T c) (by unfold Aim;simp only;omega))
   rw [show n+(f+1)=n+1+f by omega];exact this
  ·exact ⟨by have:=h.len;simp only;omega,h.nodup,h.up⟩
theorem Acy {es:List (Nat×Nat)} (h:∀ e∈es,e.1<e.2) {a b:Nat} (hr:Pg.Reach es a b):a<b:=by
 obtain ⟨l,aE,hw⟩:=hr;induction hw with
 | nil a=>exact absurd rfl aE
 | @cons a c b l h1 h2 ih =>
  have h3:=h _ h1;by_cases hl:l=[]
  ·subst hl;cases h2;exact h3
  ·have:=ih hl
   simp only at h3;omega
theorem Wy (code:List UInt8) (c:Cur):Cr (Hu code c).1=0:=by
 have b1:=Dz code (n:=4) c Bl;have b2:=Dz code (n:=3) (Bw code 4 c).2 Bl;have b3:=Dz code (n:=4) (Bw code 3 (Bw code 4 c).2).2 Bl;have b4:=Dz code (n:=6) (Bw code 4 (Bw code 3 (Bw code 4 c).2).2).2 Bl;unfold Hu;simp only;generalize Bw code 4 c=r1 at *
 generalize Bw code 3 r1.2=r2 at *
 generalize Bw code 4 r2.2=r3 at *
 generalize Bw code 6 r3.2=r4 at *
 generalize Ex code 10 r4.2=r5 at *
 have hT:1<=Rv r5.1 r4.1/\Rv r5.1 r4.1<=12:=by unfold Rv;split<;>omega
 generalize Rv r5.1 r4.1=T at *
 have h:=Sc code T 10 0 [] r5.2 0 ⟨Bn,Bn,Bn⟩;generalize (Jy code T 10 0 [] r5.2).1=es at *
 refine Cs.2 ⟨?_,fun e he=>?_,h.nodup,?_⟩
 ·have:=h.len
  simp only [Eg,Bool.and_eq_true,decide_eq_true_eq,Ct];omega
 ·have:=h.up e he
  simp only [I9,Bool.and_eq_true,Ct];omega
 ·rintro ⟨t,ht,hr⟩;have:t<t:=Acy (fun e he=>by
   simp only [Dr,esL,List.mem_map] at he;obtain ⟨x,hx,rfl⟩:=he
   have:=h.up x hx
   simp only;omega) hr
  omega
/-! drawn weights -/
/-! DrawPlans,DrawWork -/
end Go.Proofs.YtecnbnbopcblgaaGreat
