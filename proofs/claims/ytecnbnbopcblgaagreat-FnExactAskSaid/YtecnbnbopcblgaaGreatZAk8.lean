/-
  Shelves of the reference: ShelfOf, PutEntry, TakeEntry, HalfOf, Merged. Written by program (kb.py). Yards that are right: the reference's walk, whole. Merged of
-/
import Derived.Test.YtecnbnbopcblgaaGreatZAk0
import Derived.Test.YtecnbnbopcblgaaGreatZAk1
import Derived.Test.YtecnbnbopcblgaaGreatZAk3
import Derived.Test.YtecnbnbopcblgaaGreatZAk4
import Derived.Test.YtecnbnbopcblgaaGreatZAk5
import Derived.Test.YtecnbnbopcblgaaGreatZAk7
import Derived.BigRegion
import Derived.ChangeAlike
namespace Go.Proofs.YtecnbnbopcblgaaGreat
open Go.RowKit
set_option maxRecDepth 100000
set_option maxHeartbeats 4000000
set_option linter.unusedVariables false
set_option linter.unusedSimpArgs false
open Value renaming int->J,slice->Aa
open IntKind renaming i64->U
open Option renaming none->Ab,some->Ac
open Below renaming setCell->Ad,alloc->Ae
open Nat renaming zero_le->Ag,le_trans->Ah,lt_of_lt_of_le->Ai
open Go renaming bodyPost_ret->Aj,wpQuiet_nil->Ak,wpAnyH_done->Al
open Go.Proofs.Tryz renaming prog->Am
open IntWalk renaming i64_in->Aq
open List renaming length_map->Ar,getElem_mem->Aw
open Go.Proofs.Tryz
theorem Ajq {p:Prop} (h:p:=by repeat (first | (with_reducible exact B3) | refine Ad ?_ Bp _)):p:=h
theorem Als {p:Prop} (h:p:=by rw [List.take_succ_eq_append_getElem h,List.foldl_append];rfl):p:=h
theorem Anl {p:Prop} (h:p:=by go_wp2;go_ret;exact ⟨t,F,rfl,by rw [H.out];exact HO,hO.out.2,hb⟩):p:=h
theorem Aeu {l:List UInt8} (h:l.length≠0):l.isEmpty=false:=by cases l with
 | nil=>exact absurd rfl h
 | cons a l=>rfl
theorem Ah7 (n:Int) (h:0<=n):n.tmod 4=n % 4:=Int.tmod_eq_emod_of_nonneg h
theorem Ahv (n:Int) (h:0<=n):U.wrap (n % 4)=n % 4:=Aq _ (by have:=Int.emod_nonneg n (show (4:Int)≠0 by decide);have:=Int.emod_lt_of_pos n (show (0:Int)<4 by decide);omega)
theorem Tt (id:Int) (w:World) :
  Calls Am 290 #[J U id] w fun e w'=>e = .returned (J U (C7 id))/\Below w w w':=by
 have sN:=Sr id;have aG:=Abf (Ex id);have C:=Br (Tn id w);by_cases h0:(Ex id).length=0
 ·have H:=Br (show (C7 id:Int)=0 by unfold C7;rw [if_pos h0];rfl);have hE:Ex id=[]:=List.eq_nil_of_length_eq_zero h0;rw [hE] at C;clear aG h0;go_enter func290,ntmps290;go_wp2_with (go_at_call 306;refine C.out.mono ?_;rintro e w1 ⟨rfl,b1⟩)
  go_ret;exact ⟨by rw [H.out];rfl,b1⟩
 ·have H:=Br (show (C7 id:Int)=Le (Ex id) % 4 by
   unfold C7;rw [if_neg h0];exact Int.toNat_of_nonneg (Int.emod_nonneg _ Bq))
  have hem:=Aeu h0;have CS:=Br (fun W=>Xb (Ex id) W Bl);have r4:=Ah7 _ aG.1;have w4:=Ahv _ aG.1;generalize Le (Ex id)=sm at *
  generalize Ex id=L at *
  go_enter func290,ntmps290;go_wp2_with (first | (go_at_call 306;refine C.out.mono ?_;rintro e w1 ⟨rfl,b1⟩) | (go_at_call 307;refine (CS.out _).mono ?_;rintro e w2 ⟨rfl,b2⟩))
  go_ret;exact ⟨by rw [H.out];rfl,Bv b1 b2⟩
theorem Rd.fromL {α:Type} {e:Enc α} {w:World} {B:Nat} {b o n c:Nat} {l:List α} (h:Rd e w B (Aa (Ac ⟨b,o,Ab⟩) n c) l) (k:Nat) (hk:k<=l.length):Rd e w B (Aa (Ac ⟨b,o+k * e.sz,Ab⟩) (l.length - k) (c - k)) (l.drop k):=by
 obtain ⟨A',c0,hv,hc,hA⟩:=h;simp only [Value.slice.injEq] at hv;obtain ⟨rfl,rfl,rfl⟩:=hv;refine ⟨_,c - k,by rw [List.length_drop],by rw [List.length_drop];omega,fun hl=>?_⟩;rw [List.length_drop] at hl;obtain ⟨b',o',hb,aA,aL⟩:=hA Bl;simp only [Option.some.injEq,Addr.mk.injEq,and_true] at hb;obtain ⟨rfl,rfl⟩:=hb;refine ⟨b,o+k * e.sz,rfl,aA,fun i hi j u hu=>?_⟩;rw [List.length_drop] at hi;rw [List.getElem_drop] at hu
 have:=aL (k+i) Bl j u hu
 rw [show o+k * e.sz+i * e.sz+j=o+(k+i) * e.sz+j from by rw [Nat.add_mul,<-Nat.add_assoc]];exact this
theorem Rd.fromNone {α:Type} {e:Enc α} {w:World} {B:Nat} {A:Option Addr} {n c:Nat} {l:List α} (k:Nat) (hk:l.length<=k) (hn:n=0):Rd e w B (Aa A n c) (l.drop k):=by
 subst hn;rw [List.drop_eq_nil_of_le hk];exact ⟨_,c,rfl,Ag _,fun h=>absurd h Bo⟩
theorem Ku (l:List Entry) (s:Sl) (e:Entry) (w:World) (hl:l.length<=2000000) (h:RdL By w w s.v l) :
  Calls Am 291 #[Aa s.a s.n s.c,G6 e ()] w (Dv (Dt.list By) slV (Jk l e) w):=by
 obtain ⟨A,n,c⟩:=s;obtain rfl:n=l.length:=RdL.at1 (s:=⟨A,n,c⟩) h;obtain ⟨i0,aQ,aU,aS,aR⟩:=info_parts Gp;have h0:=Br (fun W (hW:Below w w W)=>((Jw h).below hW).more hW.size);have X:=DBox.new 71 [J U e.prio,J U e.seq,J U e.run,J U e.task] w (b:=w) rfl;have B0:Below w w (w.alloc (.cells #[J U e.prio,J U e.seq,J U e.run,J U e.task] 71)):=by repeat (first | exact Bs _ _ | refine Ae ?_ Bp _)
 go_enter func291,ntmps291;go_wp2;generalize G6 e ()=ev;go_loopw [5] (fun i wr=>∃ k:Nat,k<=l.length/\i = J U k/\Hid (∀ j (hj:j<l.length),j<k->Fg l[j] e=true)/\DBox w [J U e.prio,J U e.seq,J U e.run,J U e.task] wr/\Below w w wr) (fun i _=>l.length - (intOf i).toNat);case atStart=>exact ⟨0,Ag _,rfl,fun j hj h0=>absurd h0 Bl,X,B0⟩
 case round =>
  clear X B0;obtain ⟨k,hk,rfl,aY,X,hb⟩:=hrel;have X_:=X.g4;have aM:=Cw wr;by_cases aA:k<l.length
  ·have aB:(k:Int)<(l.length:Int):=Bl;have cE:(0:Int)<=(k:Int):=Bl;obtain ⟨b,o,_,rfl,aJ,_,c0,c1,c2,c3⟩:=(h.below hb).entry aA;have hs:b<wr:=Ai aJ hb.size;cases t2:Fg l[k] e;case true =>
    have S:=Br (show ∀ j (hj:j<l.length),j<k+1->Fg l[j] e=true from fun j hj gB=>by
     by_cases hjk2:j=k
     ·subst hjk2;exact t2
     ·exact aY.out j hj Bl)
    go_wp2;refine Bz Bm Bm ?_;repeat (go_big_quiet_step ((go_at_call 305;rename_i x;have h1:=K2 l[k] e x.1;exact Fu h1)))
    refine Ak ?_;rintro _ ⟨⟨w1,b1⟩,rfl⟩;clear aM;go_wp2;exact ⟨⟨k+1,Bl,by go_num,S,X.below b1,Bv hb b1⟩,clM⟩
   case false =>
    have HP:=Br (Ud hk aY.out (fun _=>t2));go_wp2;refine Bz Bm Bm ?_;repeat (go_big_quiet_step ((go_at_call 305;rename_i x;have h1:=K2 l[k] e x.1;exact Fu h1)))
    refine Ak ?_;rintro w0 ⟨⟨_,b1⟩,rfl⟩;clear aM;clear X_;replace X:=X.below b1;have BB:=(Bv hb b1)
    have nZ:k<=c:=Ah hk (h0.out _ BB).cap;have hkcI:(k:Int)<=(c:Int):=Bl;have a0:=Br (show ∀ W,Below w w W->Rd Cz W W (Aa (Ac ⟨b,o,Ab⟩) k c) (l.take k) from fun W hW=>(h0.out _ hW).take hk c nZ);have q1:Below w0 w0 (w0.alloc (.cells #[] 71)):=Bu;have cD:=Br (show (l.take k).length<=2000000 by simp;omega);have aW:=Br (show (l.take k ++ [e]).length<=2000001 by simp;omega);have mN:=Br (show (l.drop k).length<=2000000 by simp;omega);rcases Nat.lt_or_ge k c with hkc2 | hkc2
    ·have qK:¬ c=k:=Bl;go_wp2_with (first | (at_builtin;refine Ci _ Cz Bq rfl (.tmp 21) (.tmp 24) rfl underlying74 aQ aU aS aR rfl (base:=w0) (v:=Aa (Ac ⟨w0,0,Ab⟩) 0 0) (l:=[]) rfl (Ow.empty Cz 71 w0 (g:=w0) rfl) (A:=(Ac ⟨b,o,Ab⟩)) (m:=k) (c:=_) (ys:=l.take k) rfl (a0.out _ (Bv BB q1)) Bo (by have:=cD.out;omega) Bq q1.size ?_;intro v1 w1 o1 g1 _;rw [List.nil_append] at o1;have d1:Below w0 w0 w1:=q1.grown g1 q1.size (fun g hg=>Nat.le_of_eq (Option.some.inj hg));have X1:=X.below d1;have x0:=X1.cell 0 _ rfl;have x1:=X1.cell 1 _ rfl;have x2:=X1.cell 2 _ rfl;have x3:=X1.cell 3 _ rfl;have xl:=X1.lt;have vG:=d1.size) | (at_builtin;refine Ci _ Cz Bq rfl (.tmp 26) (.tmp 28) rfl underlying74 aQ aU aS aR rfl (base:=w0) (v:=v1) (l:=l.take k) rfl (o1.below (Bu)) (A:=Ac ⟨w1,0,Ab⟩) (m:=1) (c:=1) (ys:=[e]) rfl (Rd.one Cz w1 _ e rfl rfl 1 (Bt _) (Nat.lt_succ_self _)) (by have:=cD.out;omega) Bo Bq (d1.alloc d1.size _).size ?_;intro v2 w2 o2 g2 _;have d2:Below w0 w0 w2:=(d1.alloc d1.size _).grown g2 (d1.alloc d1.size _).size (fun g hg=>(o1.within g hg).1)) | (at_builtin;refine Ci _ Cz Bq rfl (.tmp 30) (.tmp 33) rfl underlying74 aQ aU aS aR rfl (base:=w0) (v:=v2) (l:=l.take k ++ [e]) rfl o2 (A:=Ac ⟨b,o+k * 4,Ab⟩) (m:=l.length - k) (c:=c - k) (ys:=l.drop k) rfl ((h0.out _ (Bv BB d2)).fromL k hk) (by have:=aW.out;omega) (by have:=mN.out;omega) Bq d2.size ?_;intro v3 w3 o3 g3 _;have d3:Below w0 w0 w3:=d2.grown g3 d2.size (fun g hg=>(o2.within g hg).1)))
     obtain ⟨s9,F9,rfl,o9,n9⟩:=H7 o3;go_ret;exact ⟨s9,F9,rfl,by rw [HP.out];exact o9,fun x hx=>Ah BB.size (n9 x hx),Bv BB d3⟩
    ·exact absurd (h0.out _ BB).cap (by show ¬ l.length<=c;omega)
  ·have aB:¬ (k:Int)<(l.length:Int):=Bl;have HP:=Br (Ud hk aY.out (fun hh=>absurd hh aA));go_wp2;refine Bz Bm Bm ?_;repeat (go_big_quiet_step (fail))
   refine Ak ?_;rintro w0 ⟨⟨_,b1⟩,rfl⟩;clear aM;clear X_;replace X:=X.below b1;have BB:=(Bv hb b1)
   have nZ:k<=c:=Ah hk (h0.out _ BB).cap;have hkcI:(k:Int)<=(c:Int):=Bl;have a0:=Br (show ∀ W,Below w w W->Rd Cz W W (Aa A k c) (l.take k) from fun W hW=>(h0.out _ hW).take hk c nZ);have q1:Below w0 w0 (w0.alloc (.cells #[] 71)):=Bu;have cD:=Br (show (l.take k).length<=2000000 by simp;omega);have aW:=Br (show (l.take k ++ [e]).length<=2000001 by simp;omega);have mN:=Br (show (l.drop k).length<=2000000 by simp;omega);rcases Nat.lt_or_ge k c with hkc2 | hkc2
   ·have qK:¬ c=k:=Bl;go_wp2_with (first | (at_builtin;refine Ci _ Cz Bq rfl (.tmp 21) (.tmp 24) rfl underlying74 aQ aU aS aR rfl (base:=w0) (v:=Aa (Ac ⟨w0,0,Ab⟩) 0 0) (l:=[]) rfl (Ow.empty Cz 71 w0 (g:=w0) rfl) (A:=A) (m:=k) (c:=_) (ys:=l.take k) rfl (a0.out _ (Bv BB q1)) Bo (by have:=cD.out;omega) Bq q1.size ?_;intro v1 w1 o1 g1 _;rw [List.nil_append] at o1;have d1:Below w0 w0 w1:=q1.grown g1 q1.size (fun g hg=>Nat.le_of_eq (Option.some.inj hg));have X1:=X.below d1;have x0:=X1.cell 0 _ rfl;have x1:=X1.cell 1 _ rfl;have x2:=X1.cell 2 _ rfl;have x3:=X1.cell 3 _ rfl;have xl:=X1.lt;have vG:=d1.size) | (at_builtin;refine Ci _ Cz Bq rfl (.tmp 26) (.tmp 28) rfl underlying74 aQ aU aS aR rfl (base:=w0) (v:=v1) (l:=l.take k) rfl (o1.below (Bu)) (A:=Ac ⟨w1,0,Ab⟩) (m:=1) (c:=1) (ys:=[e]) rfl (Rd.one Cz w1 _ e rfl rfl 1 (Bt _) (Nat.lt_succ_self _)) (by have:=cD.out;omega) Bo Bq (d1.alloc d1.size _).size ?_;intro v2 w2 o2 g2 _;have d2:Below w0 w0 w2:=(d1.alloc d1.size _).grown g2 (d1.alloc d1.size _).size (fun g hg=>(o1.within g hg).1)) | (at_builtin;refine Ci _ Cz Bq rfl (.tmp 30) (.tmp 33) rfl underlying74 aQ aU aS aR rfl (base:=w0) (v:=v2) (l:=l.take k ++ [e]) rfl o2 (A:=A.map fun x=>x.add (k * 4)) (m:=l.length - k) (c:=c - k) (ys:=l.drop k) rfl (Rd.fromNone (B:=0) k Bl Bl) (by have:=aW.out;omega) (by have:=mN.out;omega) Bq d2.size ?_;intro v3 w3 o3 g3 _;have d3:Below w0 w0 w3:=d2.grown g3 d2.size (fun g hg=>(o2.within g hg).1)))
    obtain ⟨s9,F9,rfl,o9,n9⟩:=H7 o3;go_ret;exact ⟨s9,F9,rfl,by rw [HP.out];exact o9,fun x hx=>Ah BB.size (n9 x hx),Bv BB d3⟩
   ·obtain rfl:k=c:=Bl;go_wp2_with (first | (at_builtin;refine Ci _ Cz Bq rfl (.tmp 21) (.tmp 24) rfl underlying74 aQ aU aS aR rfl (base:=w0) (v:=Aa (Ac ⟨w0,0,Ab⟩) 0 0) (l:=[]) rfl (Ow.empty Cz 71 w0 (g:=w0) rfl) (A:=A) (m:=k) (c:=_) (ys:=l.take k) rfl (a0.out _ (Bv BB q1)) Bo (by have:=cD.out;omega) Bq q1.size ?_;intro v1 w1 o1 g1 _;rw [List.nil_append] at o1;have d1:Below w0 w0 w1:=q1.grown g1 q1.size (fun g hg=>Nat.le_of_eq (Option.some.inj hg));have X1:=X.below d1;have x0:=X1.cell 0 _ rfl;have x1:=X1.cell 1 _ rfl;have x2:=X1.cell 2 _ rfl;have x3:=X1.cell 3 _ rfl;have xl:=X1.lt;have vG:=d1.size) | (at_builtin;refine Ci _ Cz Bq rfl (.tmp 26) (.tmp 28) rfl underlying74 aQ aU aS aR rfl (base:=w0) (v:=v1) (l:=l.take k) rfl (o1.below (Bu)) (A:=Ac ⟨w1,0,Ab⟩) (m:=1) (c:=1) (ys:=[e]) rfl (Rd.one Cz w1 _ e rfl rfl 1 (Bt _) (Nat.lt_succ_self _)) (by have:=cD.out;omega) Bo Bq (d1.alloc d1.size _).size ?_;intro v2 w2 o2 g2 _;have d2:Below w0 w0 w2:=(d1.alloc d1.size _).grown g2 (d1.alloc d1.size _).size (fun g hg=>(o1.within g hg).1)) | (at_builtin;refine Ci _ Cz Bq rfl (.tmp 30) (.tmp 33) rfl underlying74 aQ aU aS aR rfl (base:=w0) (v:=v2) (l:=l.take k ++ [e]) rfl o2 (A:=A) (m:=l.length - k) (c:=0) (ys:=l.drop k) rfl (Rd.fromNone (B:=0) k Bl Bl) (by have:=aW.out;omega) (by have:=mN.out;omega) Bq d2.size ?_;intro v3 w3 o3 g3 _;have d3:Below w0 w0 w3:=d2.grown g3 d2.size (fun g hg=>(o2.within g hg).1)))
    obtain ⟨s9,F9,rfl,o9,n9⟩:=H7 o3;go_ret;exact ⟨s9,F9,rfl,by rw [HP.out];exact o9,fun x hx=>Ah BB.size (n9 x hx),Bv BB d3⟩
theorem DBox.drew4 {b:Nat} {cs:List Value} {w:World} (h:DBox b cs w):DBox b cs w.drew:=⟨h.cell,h.free,h.lt⟩
theorem DBox.row4 {b:Nat} {cs:List Value} {w:World} (h:DBox b cs w) (hn:cs.length=4) (u0 u1 u2 u3:Value) :
  DBox b [u0,u1,u2,u3] ((((w.setCell ⟨b,0,Ab⟩ u0).setCell ⟨b,1,Ab⟩ u1).setCell ⟨b,2,Ab⟩ u2).setCell ⟨b,3,Ab⟩ u3):=by
 obtain ⟨c0,c1,c2,c3,rfl⟩:∃ c0 c1 c2 c3,cs=[c0,c1,c2,c3]:=by
  match cs,hn with
  | [c0,c1,c2,c3],_=>exact ⟨c0,c1,c2,c3,rfl⟩
 exact (((h.set 0 Bo u0).set 1 Bo u1).set 2 Bo u2).set 3 Bo u3
theorem Vv {b:Nat} {w:World} {u0 u1 u2 u3:Value} (X:DBox b [u0,u1,u2,u3] w) {v0 v1 v3 v4:Value} {rest:List Value} :
  (results Tryz.f245 (v0 :: v1 :: .pointer (Ac ⟨b,0,Ab⟩) :: v3 :: v4 :: rest).toArray).run Am w = .ok (.tuple #[.agg #[u0,u1,u2,u3],v3,v4]) w:=by
 have c0:=X.cell 0 _ rfl;have c1:=X.cell 1 _ rfl;have c2:=X.cell 2 _ rfl;have c3:=X.cell 3 _ rfl;simp [results,results245,go_sem,c0,c1,c2,c3]
def Ab5 (l:List Entry) (w:World) (e:Ending) (w':World):Prop :=
 ∃ (s:Sl) (F:List Nat),e = .returned (.tuple #[G6 (l.headD ⟨0,0,0,0⟩) (),Aa s.a s.n s.c,.bool (!l.isEmpty)])/\OwL By w' F s.v l.tail/\(∀ x∈F,w<=x)/\Below w w w'
theorem Q7 (l:List Entry) (s:Sl) (w:World) (hl:l.length<=2000000) (h:RdL By w w s.v l) :
  Calls Am 245 #[Aa s.a s.n s.c] w (Ab5 l w):=by
 obtain ⟨A,n,c⟩:=s;obtain rfl:n=l.length:=RdL.at1 (s:=⟨A,n,c⟩) h;obtain ⟨i0,aQ,aU,aS,aR⟩:=info_parts Gp;have h0:=Br (fun W (hW:Below w w W)=>((Jw h).below hW).more hW.size);cases l with
 | nil =>
  have R:=DBox.new 71 [J U 0,J U 0,J U 0,J U 0] w (b:=w) rfl;have B0:Below w w (w.alloc (.cells #[J U 0,J U 0,J U 0,J U 0] 71)):=by repeat (first | exact Bs _ _ | refine Ae ?_ Bp _)
  go_enter func245,ntmps245;go_wp2;have R1:=R.below ((Bs _ _).alloc (Bt _) (.cells #[] 71));refine Aj (v:=.tuple #[.agg #[J U 0,J U 0,J U 0,J U 0],Aa (Ac ⟨w+1,0,Ab⟩) 0 0,.bool false]) (Vv R1) rfl ⟨⟨Ac ⟨w+1,0,Ab⟩,0,0⟩,[],rfl,OwL.nil _ _ _ _,Bo,?_⟩;repeat (first | (with_reducible exact B0) | refine Ad ?_ Bp _ | refine Ae ?_ Bp _)
 | cons e tl =>
  have h1:((((e :: tl).length:Nat):Int) == 0)=false:=by rw [beq_eq_false_iff_ne];simp;omega
  obtain ⟨b,o,_,rfl,aJ,_,c0,c1,c2,c3⟩:=h.entry (k:=0) (by simp);simp only [Nat.zero_mul,Nat.add_zero,List.getElem_cons_zero] at c0 c1 c2 c3;have kC:1<=(e :: tl).length:=Bo;have cD:=Br (show tl.length<=3000000 by simp at hl;omega);have gN:=Br (show (e :: tl).drop 1=tl from rfl);have cI:(e :: tl).length<=c:=(h0.out w (Bs _ _)).cap;generalize hL:(e :: tl).length=L at *
  have hLI:(0:Int)<(L:Int):=Bl;have hLI1:(1:Int)<=(L:Int):=Bl;have hLN:0<L:=Bl;obtain ⟨W,aH,R,B0⟩:=bx1 w 71 [J U 0,J U 0,J U 0,J U 0];go_enter func245,ntmps245;go_wp2;rw [<-aH.out];clear aH;have hs:=B0.size;have hbW:b<W:=Bl;have HS0:=Br (show ∀ W',Below w w W'->(fun w'=>w'.cell? ⟨b,o,Ab⟩=Ac (J U e.prio)/\w'.cell? ⟨b,o+1,Ab⟩=Ac (J U e.seq)/\w'.cell? ⟨b,o+2,Ab⟩=Ac (J U e.run)/\w'.cell? ⟨b,o+3,Ab⟩=Ac (J U e.task)) W' from fun W' mP=>⟨(mP.cell (p:=⟨b,_,Ab⟩) aJ).trans c0,(mP.cell (p:=⟨b,_,Ab⟩) aJ).trans c1,(mP.cell (p:=⟨b,_,Ab⟩) aJ).trans c2,(mP.cell (p:=⟨b,_,Ab⟩) aJ).trans c3⟩);have B1:=B0.drew;replace R:=DBox.drew4 R;rcases Nat.lt_or_ge 1 c with hkc2 | hkc2
  ·have qK:¬ c=1:=Bl;have hcI:(1:Int)<=(c:Int):=Bl;refine Go.wp_region_noPanic ?_;refine wp_region_held_drew (S:=(fun w'=>w'.cell? ⟨b,o,Ab⟩=Ac (J U e.prio)/\w'.cell? ⟨b,o+1,Ab⟩=Ac (J U e.seq)/\w'.cell? ⟨b,o+2,Ab⟩=Ac (J U e.run)/\w'.cell? ⟨b,o+3,Ab⟩=Ac (J U e.task))) Bm (HS0.out _ B1) (fun hHeld=>?_);generalize W.drew=w1 at *
   refine tV 0 ?_
   (try simp only [pS])
   refine tV 1 ?_
   (try simp only [pS])
   refine tV 2 ?_
   (try simp only [pS])
   refine tV 4 ?_
   (try simp only [pS])
   refine tV 5 ?_
   (try simp only [pS])
   refine rC 3 (fun K_ hK=>?_);go_simp;have o2:=Ow.empty Cz 71 w1 (g:=w1) rfl;have b2:Below w1 w1 (w1.alloc (.cells #[] 71)):=Bu;have B2:=Bv B1 b2;have R2:=R.below b2;generalize w1.alloc (.cells #[] 71)=w2 at *
   refine hK.out _ _ (HS0.out _ B2) (fun hHeld=>?_);clear hK K_
   (try simp only [pS])
   refine rC 6 (fun K_ hK=>?_);have rd1:=(h0.out _ B2).fromL 1 (by show 1<=(e :: tl).length;simp);rw [hL,gN.out] at rd1;refine Dz _ Cz Bq (.tmp 13) (.tmp 15) 74 rfl w1.heap.size 71 _ _ _ underlying74 aQ aU aS aR rfl _ [] rfl o2 _ _ _ _ tl rfl rd1 Bo cD.out Bq b2.size ?_;intro v3 w3 o3 g3 _;rw [List.nil_append] at o3;have b3:Below w1 w1 w3:=b2.grown g3 b2.size (fun g hg=>Nat.le_of_eq (Option.some.inj hg));have B3:=Bv B1 b3;have R3:=R.below b3;refine hK.out _ _ (HS0.out _ B3) (fun hHeld=>?_);clear hK K_
   (try simp only [pS])
   have e0:=R3.cell 0 _ rfl;have e1:=R3.cell 1 _ rfl;have e2:=R3.cell 2 _ rfl;have e3:=R3.cell 3 _ rfl;have ef:=R3.free;have el:=R3.lt;refine rC 7 (fun K_ hK=>?_);go_simp;have R4:=DBox.row4 R3 rfl (J U e.prio) (J U e.seq) (J U e.run) (J U e.task);have B4:Below w w ((((w3.setCell ⟨w,0,Ab⟩ (J U e.prio)).setCell ⟨w,1,Ab⟩ (J U e.seq)).setCell ⟨w,2,Ab⟩ (J U e.run)).setCell ⟨w,3,Ab⟩ (J U e.task)):=Ajq
   have o4:=(((o3.setLow (a:=⟨w,0,Ab⟩) (by show w.heap.size<w1.heap.size;have:=R.lt;omega) (J U e.prio)).setLow (a:=⟨w,1,Ab⟩) (by show w.heap.size<w1.heap.size;have:=R.lt;omega) (J U e.seq)).setLow (a:=⟨w,2,Ab⟩) (by show w.heap.size<w1.heap.size;have:=R.lt;omega) (J U e.run)).setLow (a:=⟨w,3,Ab⟩) (by show w.heap.size<w1.heap.size;have:=R.lt;omega) (J U e.task);generalize ((((w3.setCell ⟨w,0,Ab⟩ (J U e.prio)).setCell ⟨w,1,Ab⟩ (J U e.seq)).setCell ⟨w,2,Ab⟩ (J U e.run)).setCell ⟨w,3,Ab⟩ (J U e.task))=w4 at *
   clear e0 e1 e2 e3 ef el;refine hK.out _ _ (HS0.out _ B4) (fun hHeld=>?_);clear hK K_
   (try simp only [pS])
   refine rC 8 (fun K_ hK=>?_);go_simp;refine hK.out _ _ (HS0.out _ B4) (fun hHeld=>?_);clear hK K_
   (try simp only [pS])
   refine rC 9 (fun K_ hK=>?_);go_simp;refine hK.out _ _ (HS0.out _ B4) (fun hHeld=>?_);clear hK K_
   (try simp only [pS])
   refine Al Bm ?_ _;refine NoPanic.normal ?_;clear hHeld;obtain ⟨s9,F9,rfl,o9,n9⟩:=H7 o4;go_wp2;refine Aj (v:=.tuple #[G6 e (),Aa s9.a s9.n s9.c,.bool true]) (Vv R4) rfl ⟨s9,F9,rfl,o9,fun x hx=>Ah (by have:=R.lt;omega) (n9 x hx),B4⟩
  ·obtain rfl:c=1:=Bl;obtain rfl:L=1:=Bl;refine Go.wp_region_noPanic ?_;refine wp_region_held_drew (S:=(fun w'=>w'.cell? ⟨b,o,Ab⟩=Ac (J U e.prio)/\w'.cell? ⟨b,o+1,Ab⟩=Ac (J U e.seq)/\w'.cell? ⟨b,o+2,Ab⟩=Ac (J U e.run)/\w'.cell? ⟨b,o+3,Ab⟩=Ac (J U e.task))) Bm (HS0.out _ B1) (fun hHeld=>?_);generalize W.drew=w1 at *
   refine tV 0 ?_
   (try simp only [pS])
   refine tV 1 ?_
   (try simp only [pS])
   refine tV 2 ?_
   (try simp only [pS])
   refine tV 4 ?_
   (try simp only [pS])
   refine tV 5 ?_
   (try simp only [pS])
   refine rC 3 (fun K_ hK=>?_);go_simp;have o2:=Ow.empty Cz 71 w1 (g:=w1) rfl;have b2:Below w1 w1 (w1.alloc (.cells #[] 71)):=Bu;have B2:=Bv B1 b2;have R2:=R.below b2;generalize w1.alloc (.cells #[] 71)=w2 at *
   refine hK.out _ _ (HS0.out _ B2) (fun hHeld=>?_);clear hK K_
   (try simp only [pS])
   refine rC 6 (fun K_ hK=>?_);have rd1:Rd Cz w2 0 (Aa (Ac ⟨b,o,Ab⟩) 0 0) tl:=Rd.fromNone (B:=0) (l:=e :: tl) 1 (by show (e :: tl).length<=1;rw [hL];exact Bt _) rfl;refine Dz _ Cz Bq (.tmp 13) (.tmp 15) 74 rfl w1.heap.size 71 _ _ _ underlying74 aQ aU aS aR rfl _ [] rfl o2 _ _ _ _ tl rfl rd1 Bo cD.out Bq b2.size ?_;intro v3 w3 o3 g3 _;rw [List.nil_append] at o3;have b3:Below w1 w1 w3:=b2.grown g3 b2.size (fun g hg=>Nat.le_of_eq (Option.some.inj hg));have B3:=Bv B1 b3;have R3:=R.below b3;refine hK.out _ _ (HS0.out _ B3) (fun hHeld=>?_);clear hK K_
   (try simp only [pS])
   have e0:=R3.cell 0 _ rfl;have e1:=R3.cell 1 _ rfl;have e2:=R3.cell 2 _ rfl;have e3:=R3.cell 3 _ rfl;have ef:=R3.free;have el:=R3.lt;refine rC 7 (fun K_ hK=>?_);go_simp;have R4:=DBox.row4 R3 rfl (J U e.prio) (J U e.seq) (J U e.run) (J U e.task);have B4:Below w w ((((w3.setCell ⟨w,0,Ab⟩ (J U e.prio)).setCell ⟨w,1,Ab⟩ (J U e.seq)).setCell ⟨w,2,Ab⟩ (J U e.run)).setCell ⟨w,3,Ab⟩ (J U e.task)):=Ajq
   have o4:=(((o3.setLow (a:=⟨w,0,Ab⟩) (by show w.heap.size<w1.heap.size;have:=R.lt;omega) (J U e.prio)).setLow (a:=⟨w,1,Ab⟩) (by show w.heap.size<w1.heap.size;have:=R.lt;omega) (J U e.seq)).setLow (a:=⟨w,2,Ab⟩) (by show w.heap.size<w1.heap.size;have:=R.lt;omega) (J U e.run)).setLow (a:=⟨w,3,Ab⟩) (by show w.heap.size<w1.heap.size;have:=R.lt;omega) (J U e.task);generalize ((((w3.setCell ⟨w,0,Ab⟩ (J U e.prio)).setCell ⟨w,1,Ab⟩ (J U e.seq)).setCell ⟨w,2,Ab⟩ (J U e.run)).setCell ⟨w,3,Ab⟩ (J U e.task))=w4 at *
   clear e0 e1 e2 e3 ef el;refine hK.out _ _ (HS0.out _ B4) (fun hHeld=>?_);clear hK K_
   (try simp only [pS])
   refine rC 8 (fun K_ hK=>?_);go_simp;refine hK.out _ _ (HS0.out _ B4) (fun hHeld=>?_);clear hK K_
   (try simp only [pS])
   refine rC 9 (fun K_ hK=>?_);go_simp;refine hK.out _ _ (HS0.out _ B4) (fun hHeld=>?_);clear hK K_
   (try simp only [pS])
   refine Al Bm ?_ _;refine NoPanic.normal ?_;clear hHeld;obtain ⟨s9,F9,rfl,o9,n9⟩:=H7 o4;go_wp2;refine Aj (v:=.tuple #[G6 e (),Aa s9.a s9.n s9.c,.bool true]) (Vv R4) rfl ⟨s9,F9,rfl,o9,fun x hx=>Ah (by have:=R.lt;omega) (n9 x hx),B4⟩
def Vw (l:List Entry) (w:World) (e:Ending) (w':World):Prop :=
 ∃ (s1:Sl) (F1:List Nat) (s2:Sl) (F2:List Nat),e = .returned (.tuple #[Aa s1.a s1.n s1.c,Aa s2.a s2.n s2.c])/\OwL By w' F1 s1.v (l.take (Df l))/\OwL By w' F2 s2.v (l.drop (Df l))/\(∀ x∈F1,w<=x)/\(∀ x∈F2,w<=x)/\(∀ x∈F1,x∉F2)/\Below w w w'
theorem J0 {w:World} {E:TypeId} {base:Nat} {v:Value} {l:List Entry} (h:Ow Cz E w base v l):∃ (s:Sl) (F:List Nat),v = Aa s.a s.n s.c/\OwL By w F s.v l/\(∀ b∈F,base<=b)/\(∀ b∈F,v.ownBlock=Ac b):=by
 obtain ⟨h1,h2⟩:=Hw.of_ow h;obtain ⟨⟨A,c,hv,hc,hA⟩,hF,hf⟩:=id h1;subst hv;refine ⟨⟨A,l.length,c⟩,_,rfl,⟨l.map fun x=>(x,()),El (Aa A l.length c) l.length,[],by rw [List.map_map];exact List.map_id _,⟨⟨A,c,by rw [Ar],by rw [Ar];exact hc,fun hl=>?_⟩,by rw [Ar],hf⟩,R8 w l,(List.append_nil _).symm,h1.nodup⟩,h2,H9 _ _⟩;exact Aic
theorem Ab6 (n:Nat):((n:Int)+1).tdiv 2=((n+1) / 2:Nat):=by
 rw [Int.tdiv_eq_ediv_of_nonneg Bl];omega
theorem Rd.dropM {α:Type} {e:Enc α} {w:World} {B:Nat} {A:Option Addr} {n c:Nat} {l:List α} (h:Rd e w B (Aa A n c) l) (k:Nat) (hk:k<=l.length):Rd e w B (Aa (A.map fun x=>x.add (k * e.sz)) (l.length - k) (c - k)) (l.drop k):=by
 obtain ⟨A',c0,hv,hc,hA⟩:=h;simp only [Value.slice.injEq] at hv;obtain ⟨rfl,rfl,rfl⟩:=hv;refine ⟨_,c - k,by rw [List.length_drop],by rw [List.length_drop];omega,fun hl=>?_⟩;rw [List.length_drop] at hl;obtain ⟨b,o,hb,aA,aL⟩:=hA Bl;refine ⟨b,o+k * e.sz,by rw [hb];simp only [Option.map_some,Option.some.injEq];unfold Addr.add;split<;>simp_all,aA,fun i hi j u hu=>?_⟩;rw [List.length_drop] at hi;rw [List.getElem_drop] at hu
 have:=aL (k+i) Bl j u hu
 rw [show o+k * e.sz+i * e.sz+j=o+(k+i) * e.sz+j from by rw [Nat.add_mul,<-Nat.add_assoc]];exact this
theorem Zs (l:List Entry) (s:Sl) (w:World) (hl:l.length<=2000000) (h:RdL By w w s.v l) :
  Calls Am 243 #[Aa s.a s.n s.c] w (Vw l w):=by
 obtain ⟨A,n,c⟩:=s;obtain rfl:n=l.length:=RdL.at1 (s:=⟨A,n,c⟩) h;obtain ⟨i0,aQ,aU,aS,aR⟩:=info_parts Gp;have h0:=Br (fun W (hW:Below w w W)=>((Jw h).below hW).more hW.size);have hd:=Ab6 l.length;rw [show (l.length+1) / 2=Df l from rfl] at hd;have mA:=Abv l;have vV:U.wrap ((l.length:Int)+1)=(l.length:Int)+1:=Aq _ Bl;have sJ:U.wrap (Df l:Int)=(Df l:Int):=Aq _ Bl;have cI:l.length<=c:=(h0.out w (Bs _ _)).cap;have nZ:Df l<=c:=Bl;have hkcI:(Df l:Int)<=(c:Int):=Bl;have hklI:(Df l:Int)<=(l.length:Int):=Bl;have hk0I:(0:Int)<=(Df l:Int):=Bl;have a0:=Br (show ∀ W,Below w w W->Rd Cz W W (Aa A (Df l) c) (l.take (Df l)) from fun W hW=>(h0.out _ hW).take mA c nZ);have cD:=Br (show (l.take (Df l)).length<=3000000 by simp;omega);have aW:=Br (show (l.drop (Df l)).length<=3000000 by simp;omega);have a1:=((h0.out w (Bs _ _)).dropM (Df l) mA)
 go_enter func243,ntmps243;go_upto_region 2 with fail
 rcases Nat.lt_or_ge (Df l) c with hk2 | hk2
 have qK:¬ c=Df l:=Bl;have r0:=a0;have rr:=Br (show ∀ W,Below w w W->Rd Cz W W (Aa (A.map fun x=>x.add (Df l * 4)) (l.length - Df l) (c - Df l)) (l.drop (Df l)) from fun W hW=>(a1.below hW).more hW.size);rotate_left;have qK:c=Df l:=Bl;have tI:l.length=Df l:=Bl;have r0:=Br (show ∀ W,Below w w W->Rd Cz W W (Aa A (Df l) (Df l)) (l.take (Df l)) from fun W hW=>by have h9:=a0.out W hW;rw [qK] at h9;exact h9);have rr:=Br (show ∀ W,Below w w W->Rd Cz W W (Aa A 0 0) (l.drop (Df l)) from fun W hW=>by
  rw [List.drop_eq_nil_of_le Bl];exact ⟨A,0,rfl,Ag _,fun h=>absurd h Bo⟩)
 all_goals
  clear a1;refine Go.wp_region_noPanic ?_;refine wp_region_held_drew (S:=fun _=>True) Bm trivial (fun hHeld=>?_);have B1:Below w w w.drew:=(Bs _ _).drew;generalize w.drew=w1 at *
  refine tY 1 ?_
  (try simp only [pS])
  refine tY 2 ?_
  (try simp only [pS])
  refine tY 3 ?_
  (try simp only [pS])
  refine tY 6 ?_
  (try simp only [pS])
  refine tY 7 ?_
  (try simp only [pS])
  refine tY 8 ?_
  (try simp only [pS])
  refine Js 0 5 rfl rfl Bm (by rfl) (by rfl) (fun K_ hK=>?_) (fun K_ hK=>?_)
  ·go_simp;obtain ⟨g9,eM⟩:∃ g,g=w1.heap.size:=⟨_,rfl⟩
   rw [<-eM];have bb:Below w1 w1 (w1.alloc (.cells #[] 71)):=Bu;have o9:Ow Cz 71 (w1.alloc (.cells #[] 71)) w (Aa (Ac ⟨g9,0,Ab⟩) 0 0) []:=(Ow.empty Cz 71 w1 eM).more (by have:=B1.size;omega);have z9:g9<(w1.alloc (.cells #[] 71)):=by simp;omega
   have Bw1a:=Bv B1 bb;have y9:=bb.size;have ga9:=Nat.le_of_eq eM;have gb9:=Nat.le_of_eq eM.symm;clear bb eM;generalize w1.alloc (.cells #[] 71)=w1a at *
   refine hK.out _ _ trivial (fun hHeld=>?_);clear hK K_
   (try simp only [pS])
   refine Js 4 5 rfl rfl Bm (by rfl) (by rfl) (fun K_ hK=>?_) (fun K_ hK=>?_)
   ·obtain ⟨n13,eP⟩:∃ n,n=w1a.heap.size:=⟨_,rfl⟩
    refine Dz _ Cz Bq (.tmp 9) (.tmp 12) 74 rfl w.heap.size 71 _ _ _ underlying74 aQ aU aS aR rfl _ [] rfl o9 _ _ _ _ (l.take (Df l)) rfl (r0.out _ Bw1a) Bo cD.out Bq Bw1a.size ?_;intro v13 w1ap o13 gg e13;rw [List.nil_append] at o13;rw [<-eP] at e13;have na13:=Nat.le_of_eq eP;have nb13:=Nat.le_of_eq eP.symm;clear eP;have t13:∀ g,v13.ownBlock=Ac g->g<w1ap.heap.size:=fun g h=>(o13.within g h).2;replace e13:v13.ownBlock=Ac g9\/v13.ownBlock=Ac n13:=e13;have Bw1ap:Below w w w1ap:=Bw1a.grown gg Bw1a.size (fun g hg=>(o9.within g hg).1);have y13:=gg.size;clear gg;refine hK.out _ _ trivial (fun hHeld=>?_);clear hK K_
    (try simp only [pS])
    refine rC 5 (fun K_ hK=>?_);go_simp;obtain ⟨g14,dM⟩:∃ g,g=w1ap.heap.size:=⟨_,rfl⟩
    rw [<-dM];have bb:Below w1ap w1ap (w1ap.alloc (.cells #[] 71)):=Bu;have o14:Ow Cz 71 (w1ap.alloc (.cells #[] 71)) w (Aa (Ac ⟨g14,0,Ab⟩) 0 0) []:=(Ow.empty Cz 71 w1ap dM).more (by have:=Bw1ap.size;omega);have z14:g14<(w1ap.alloc (.cells #[] 71)):=by simp;omega
    have Bw1apa:=Bv Bw1ap bb;replace o13:=o13.below bb;have y14:=bb.size;have ga14:=Nat.le_of_eq dM;have gb14:=Nat.le_of_eq dM.symm;clear bb dM;generalize w1ap.alloc (.cells #[] 71)=w1apa at *
    refine hK.out _ _ trivial (fun hHeld=>?_);clear hK K_
    (try simp only [pS])
    refine rC 9 (fun K_ hK=>?_);obtain ⟨n18,eH⟩:∃ n,n=w1apa.heap.size:=⟨_,rfl⟩
    refine Dz _ Cz Bq (.tmp 14) (.tmp 17) 74 rfl w.heap.size 71 _ _ _ underlying74 aQ aU aS aR rfl _ [] rfl o14 _ _ _ _ (l.drop (Df l)) rfl (rr.out _ Bw1apa) Bo aW.out Bq Bw1apa.size ?_;intro v18 w1apap o18 gg e18;rw [List.nil_append] at o18;rw [<-eH] at e18;have na18:=Nat.le_of_eq eH;have nb18:=Nat.le_of_eq eH.symm;clear eH;have t18:∀ g,v18.ownBlock=Ac g->g<w1apap.heap.size:=fun g h=>(o18.within g h).2;replace e18:v18.ownBlock=Ac g14\/v18.ownBlock=Ac n18:=e18;have Bw1apap:Below w w w1apap:=Bw1apa.grown gg Bw1apa.size (fun g hg=>(o14.within g hg).1);have y18:=gg.size;replace o13:=o13.grown gg (Or.inr (fun h=>by have:=t13 g14 h;rcases e13 with h2 | h2<;>(rw [h2] at h;have:=Option.some.inj (show Ac _=Ac g14 from h);omega)));clear gg;refine hK.out _ _ trivial (fun hHeld=>?_);clear hK K_
    (try simp only [pS])
    refine rC 10 (fun K_ hK=>?_);go_simp;refine hK.out _ _ trivial (fun hHeld=>?_);clear hK K_
    (try simp only [pS])
    refine rC 11 (fun K_ hK=>?_);go_simp;refine hK.out _ _ trivial (fun hHeld=>?_);clear hK K_
    (try simp only [pS])
    refine Al Bm ?_ _;refine NoPanic.normal ?_;obtain ⟨s1,F1,rfl,p1,q1,r1⟩:=J0 o13;obtain ⟨s2,F2,rfl,p2,q2,r2⟩:=J0 o18;go_wp2;go_ret2;exact ⟨s1,F1,s2,F2,rfl,p1,p2,q1,q2,fun x hx hy=>by
     have a1:=r1 x hx;have a2:=r2 x hy;have a3:=t13 x a1;have a4:=t18 x a2;rcases e13 with h | h<;>rcases e18 with h' | h'<;>(rw [a1] at h;rw [a2] at h';have:=Option.some.inj h;have:=Option.some.inj h';omega),Bw1apap⟩
   ·go_simp;obtain ⟨g14,dM⟩:∃ g,g=w1a.heap.size:=⟨_,rfl⟩
    rw [<-dM];have bb:Below w1a w1a (w1a.alloc (.cells #[] 71)):=Bu;have o14:Ow Cz 71 (w1a.alloc (.cells #[] 71)) w (Aa (Ac ⟨g14,0,Ab⟩) 0 0) []:=(Ow.empty Cz 71 w1a dM).more (by have:=Bw1a.size;omega);have z14:g14<(w1a.alloc (.cells #[] 71)):=by simp;omega
    have Bw1aa:=Bv Bw1a bb;replace o9:=o9.below bb;have y14:=bb.size;have ga14:=Nat.le_of_eq dM;have gb14:=Nat.le_of_eq dM.symm;clear bb dM;generalize w1a.alloc (.cells #[] 71)=w1aa at *
    refine hK.out _ _ trivial (fun hHeld=>?_);clear hK K_
    (try simp only [pS])
    refine rC 4 (fun K_ hK=>?_);obtain ⟨n13,eP⟩:∃ n,n=w1aa.heap.size:=⟨_,rfl⟩
    refine Dz _ Cz Bq (.tmp 9) (.tmp 12) 74 rfl w.heap.size 71 _ _ _ underlying74 aQ aU aS aR rfl _ [] rfl o9 _ _ _ _ (l.take (Df l)) rfl (r0.out _ Bw1aa) Bo cD.out Bq Bw1aa.size ?_;intro v13 w1aap o13 gg e13;rw [List.nil_append] at o13;rw [<-eP] at e13;have na13:=Nat.le_of_eq eP;have nb13:=Nat.le_of_eq eP.symm;clear eP;have t13:∀ g,v13.ownBlock=Ac g->g<w1aap.heap.size:=fun g h=>(o13.within g h).2;replace e13:v13.ownBlock=Ac g9\/v13.ownBlock=Ac n13:=e13;have Bw1aap:Below w w w1aap:=Bw1aa.grown gg Bw1aa.size (fun g hg=>(o9.within g hg).1);have y13:=gg.size;replace o14:=o14.grown gg (Or.inr (fun h=>by have:=Option.some.inj (show Ac g14=Ac g9 from h);omega));clear gg;refine hK.out _ _ trivial (fun hHeld=>?_);clear hK K_
    (try simp only [pS])
    refine rC 9 (fun K_ hK=>?_);obtain ⟨n18,eH⟩:∃ n,n=w1aap.heap.size:=⟨_,rfl⟩
    refine Dz _ Cz Bq (.tmp 14) (.tmp 17) 74 rfl w.heap.size 71 _ _ _ underlying74 aQ aU aS aR rfl _ [] rfl o14 _ _ _ _ (l.drop (Df l)) rfl (rr.out _ Bw1aap) Bo aW.out Bq Bw1aap.size ?_;intro v18 w1aapp o18 gg e18;rw [List.nil_append] at o18;rw [<-eH] at e18;have na18:=Nat.le_of_eq eH;have nb18:=Nat.le_of_eq eH.symm;clear eH;have t18:∀ g,v18.ownBlock=Ac g->g<w1aapp.heap.size:=fun g h=>(o18.within g h).2;replace e18:v18.ownBlock=Ac g14\/v18.ownBlock=Ac n18:=e18;have Bw1aapp:Below w w w1aapp:=Bw1aap.grown gg Bw1aap.size (fun g hg=>(o14.within g hg).1);have y18:=gg.size;replace o13:=o13.grown gg (Or.inr (fun h=>by have:=t13 g14 h;rcases e13 with h2 | h2<;>(rw [h2] at h;have:=Option.some.inj (show Ac _=Ac g14 from h);omega)));clear gg;refine hK.out _ _ trivial (fun hHeld=>?_);clear hK K_
    (try simp only [pS])
    refine rC 10 (fun K_ hK=>?_);go_simp;refine hK.out _ _ trivial (fun hHeld=>?_);clear hK K_
    (try simp only [pS])
    refine rC 11 (fun K_ hK=>?_);go_simp;refine hK.out _ _ trivial (fun hHeld=>?_);clear hK K_
    (try simp only [pS])
    refine Al Bm ?_ _;refine NoPanic.normal ?_;obtain ⟨s1,F1,rfl,p1,q1,r1⟩:=J0 o13;obtain ⟨s2,F2,rfl,p2,q2,r2⟩:=J0 o18;go_wp2;go_ret2;exact ⟨s1,F1,s2,F2,rfl,p1,p2,q1,q2,fun x hx hy=>by
     have a1:=r1 x hx;have a2:=r2 x hy;have a3:=t13 x a1;have a4:=t18 x a2;rcases e13 with h | h<;>rcases e18 with h' | h'<;>(rw [a1] at h;rw [a2] at h';have:=Option.some.inj h;have:=Option.some.inj h';omega),Bw1aapp⟩
  ·go_simp;obtain ⟨g14,dM⟩:∃ g,g=w1.heap.size:=⟨_,rfl⟩
   rw [<-dM];have bb:Below w1 w1 (w1.alloc (.cells #[] 71)):=Bu;have o14:Ow Cz 71 (w1.alloc (.cells #[] 71)) w (Aa (Ac ⟨g14,0,Ab⟩) 0 0) []:=(Ow.empty Cz 71 w1 dM).more (by have:=B1.size;omega);have z14:g14<(w1.alloc (.cells #[] 71)):=by simp;omega
   have Bw1a:=Bv B1 bb;have y14:=bb.size;have ga14:=Nat.le_of_eq dM;have gb14:=Nat.le_of_eq dM.symm;clear bb dM;generalize w1.alloc (.cells #[] 71)=w1a at *
   refine hK.out _ _ trivial (fun hHeld=>?_);clear hK K_
   (try simp only [pS])
   refine rC 0 (fun K_ hK=>?_);go_simp;obtain ⟨g9,eM⟩:∃ g,g=w1a.heap.size:=⟨_,rfl⟩
   rw [<-eM];have bb:Below w1a w1a (w1a.alloc (.cells #[] 71)):=Bu;have o9:Ow Cz 71 (w1a.alloc (.cells #[] 71)) w (Aa (Ac ⟨g9,0,Ab⟩) 0 0) []:=(Ow.empty Cz 71 w1a eM).more (by have:=Bw1a.size;omega);have z9:g9<(w1a.alloc (.cells #[] 71)):=by simp;omega
   have Bw1aa:=Bv Bw1a bb;replace o14:=o14.below bb;have y9:=bb.size;have ga9:=Nat.le_of_eq eM;have gb9:=Nat.le_of_eq eM.symm;clear bb eM;generalize w1a.alloc (.cells #[] 71)=w1aa at *
   refine hK.out _ _ trivial (fun hHeld=>?_);clear hK K_
   (try simp only [pS])
   refine rC 4 (fun K_ hK=>?_);obtain ⟨n13,eP⟩:∃ n,n=w1aa.heap.size:=⟨_,rfl⟩
   refine Dz _ Cz Bq (.tmp 9) (.tmp 12) 74 rfl w.heap.size 71 _ _ _ underlying74 aQ aU aS aR rfl _ [] rfl o9 _ _ _ _ (l.take (Df l)) rfl (r0.out _ Bw1aa) Bo cD.out Bq Bw1aa.size ?_;intro v13 w1aap o13 gg e13;rw [List.nil_append] at o13;rw [<-eP] at e13;have na13:=Nat.le_of_eq eP;have nb13:=Nat.le_of_eq eP.symm;clear eP;have t13:∀ g,v13.ownBlock=Ac g->g<w1aap.heap.size:=fun g h=>(o13.within g h).2;replace e13:v13.ownBlock=Ac g9\/v13.ownBlock=Ac n13:=e13;have Bw1aap:Below w w w1aap:=Bw1aa.grown gg Bw1aa.size (fun g hg=>(o9.within g hg).1);have y13:=gg.size;replace o14:=o14.grown gg (Or.inr (fun h=>by have:=Option.some.inj (show Ac g14=Ac g9 from h);omega));clear gg;refine hK.out _ _ trivial (fun hHeld=>?_);clear hK K_
   (try simp only [pS])
   refine rC 9 (fun K_ hK=>?_);obtain ⟨n18,eH⟩:∃ n,n=w1aap.heap.size:=⟨_,rfl⟩
   refine Dz _ Cz Bq (.tmp 14) (.tmp 17) 74 rfl w.heap.size 71 _ _ _ underlying74 aQ aU aS aR rfl _ [] rfl o14 _ _ _ _ (l.drop (Df l)) rfl (rr.out _ Bw1aap) Bo aW.out Bq Bw1aap.size ?_;intro v18 w1aapp o18 gg e18;rw [List.nil_append] at o18;rw [<-eH] at e18;have na18:=Nat.le_of_eq eH;have nb18:=Nat.le_of_eq eH.symm;clear eH;have t18:∀ g,v18.ownBlock=Ac g->g<w1aapp.heap.size:=fun g h=>(o18.within g h).2;replace e18:v18.ownBlock=Ac g14\/v18.ownBlock=Ac n18:=e18;have Bw1aapp:Below w w w1aapp:=Bw1aap.grown gg Bw1aap.size (fun g hg=>(o14.within g hg).1);have y18:=gg.size;replace o13:=o13.grown gg (Or.inr (fun h=>by have:=t13 g14 h;rcases e13 with h2 | h2<;>(rw [h2] at h;have:=Option.some.inj (show Ac _=Ac g14 from h);omega)));clear gg;refine hK.out _ _ trivial (fun hHeld=>?_);clear hK K_
   (try simp only [pS])
   refine rC 10 (fun K_ hK=>?_);go_simp;refine hK.out _ _ trivial (fun hHeld=>?_);clear hK K_
   (try simp only [pS])
   refine rC 11 (fun K_ hK=>?_);go_simp;refine hK.out _ _ trivial (fun hHeld=>?_);clear hK K_
   (try simp only [pS])
   refine Al Bm ?_ _;refine NoPanic.normal ?_;obtain ⟨s1,F1,rfl,p1,q1,r1⟩:=J0 o13;obtain ⟨s2,F2,rfl,p2,q2,r2⟩:=J0 o18;go_wp2;go_ret2;exact ⟨s1,F1,s2,F2,rfl,p1,p2,q1,q2,fun x hx hy=>by
    have a1:=r1 x hx;have a2:=r2 x hy;have a3:=t13 x a1;have a4:=t18 x a2;rcases e13 with h | h<;>rcases e18 with h' | h'<;>(rw [a1] at h;rw [a2] at h';have:=Option.some.inj h;have:=Option.some.inj h';omega),Bw1aapp⟩
theorem Agv {y:Yard} (h1:inB y.now 0 999999980=true) (h2:inB y.seq 1 1000000000=true) (h3:Kd y) (h6:y.runs.length<=8) (h7:Kt y y.runs.length):Dk y ↔ Gw y<=40:=by
 refine Aet h1 h2 h3.1 (fun k hk=>h3.2.1 _ (Aw hk)) (Zq h3 (Bt _)) h6 h7
def Qn (y:Yard) (k:Nat):Prop:=∀ j (hj:j<y.runs.length),j<k->Hn y.runs[j]/\Dn y y.runs[j].id=j
def Yf (y:Yard) (k:Nat):Prop:=∀ j (hj:j<y.runs.length),j<k->Kp y.now y.runs[j] (Ch y)
theorem Gl (y:Yard) (s:Sl×Sl) (w:World) (hl:Ca y<=2000000) (h:Bw.rd w w y s) :
  Calls Am 160 #[Ds y s] w fun e w'=>e = .returned (.bool (tf (Dk y)))/\Below w w w':=by
 have HR:=Br (show ∀ W,Below w w W->Bw.rd W W y s from fun W hW=>Bw.rd_more (Bw.rd_below h hW) hW.size);obtain ⟨⟨A1,n1,c1⟩,⟨A2,n2,c2⟩⟩:=s;obtain rfl:n2=y.runs.length:=RdL.at1 (s:=⟨A2,n2,c2⟩) h.2;have h2:RdL Cf w w (Aa A2 y.runs.length c2) y.runs:=h.2;have bS:y.runs.length<=2000000:=Ah (Ck Co _) (by unfold Ca at hl;omega);have HC:=Br (show ∀ k (hk:k<y.runs.length),Co y.runs[k]<=2000000 from fun k hk=>by
  have:=Dm (cnt:=Co) (Aw hk)
  unfold Ca at hl;omega)
 have HEn:=Br (show (Ch y).length<=2000000 by
  have:=Ik y.shelf y.shelf.length
  rw [List.take_length] at this;unfold Ca at hl;unfold Ch;omega)
 have qI:=Abs hl;clear h;have X:=DBox.new 31 [J U y.now,J U y.seq,Aa A1 n1 c1,Aa A2 y.runs.length c2] w (b:=w) rfl;have B0:Below w w (w.alloc (.cells #[J U y.now,J U y.seq,Aa A1 n1 c1,Aa A2 y.runs.length c2] 31)):=by repeat (first | exact Bs _ _ | refine Ae ?_ Bp _)
 cases a1:inB y.now 0 999999980;case false =>
  have H:=Br (Cg (show ¬ Dk y from fun h=>by have:=Ct.2 h.1;rw [a1] at this;cases this));go_enter func160,ntmps160;exact Ai9
 cases a2:inB y.seq 1 1000000000;case false =>
  have H:=Br (Cg (show ¬ Dk y from fun h=>by have:=Ct.2 h.2.1;rw [a2] at this;cases this));go_enter func160,ntmps160;exact Ai9
 by_cases a4:y.runs.length<=8;case neg =>
  have a4':(8:Int)<(y.runs.length:Int):=Bl;have H:=Br (Cg (show ¬ Dk y from fun h=>a4 h.2.2.2.2.2.2.1));clear a4;go_enter func160,ntmps160;exact Ai9
 have a4':¬ (8:Int)<(y.runs.length:Int):=Bl;have hqb:=Ct.1 a2;have tS:=Ct.1 a1;have C0:=Tr y (⟨A1,n1,c1⟩,⟨A2,y.runs.length,c2⟩) (w.alloc (.cells #[J U y.now,J U y.seq,Aa A1 n1 c1,Aa A2 y.runs.length c2] 31)) hl hqb (HR.out _ B0);by_cases a3:Kd y;case neg =>
  have H:=Br (Cg (show ¬ Dk y from fun h=>a3 ⟨h.2.2.1,h.2.2.2.1,h.2.2.2.2.1,h.2.2.2.2.2.1⟩));rw [Cg a3] at C0;clear a3;go_enter func160,ntmps160;go_wp2_with (first | (go_at_call 90;refine (Cd _ _ _ _).mono ?_;rintro e w' ⟨rfl,rfl⟩) | (go_at_call 233;refine C0.mono ?_;rintro e w1 ⟨rfl,b1⟩))
  go_ret;exact ⟨Bx H.out.symm,Bv B0 b1⟩
 rw [Di a3] at C0;go_enter func160,ntmps160;go_wp2_with (first | (go_at_call 90;refine (Cd _ _ _ _).mono ?_;rintro e w' ⟨rfl,rfl⟩) | (go_at_call 233;refine C0.mono ?_;rintro e w1 ⟨rfl,b1⟩))
 replace X:=X.below b1;replace B0:=Bv B0 b1;clear b1 C0;have A1_:=Br a1;have A2_:=Br a2;have A3_:=Br a3;clear a1 a2 a3 a4';go_loopw [3] (fun i wr=>∃ k:Nat,k<=y.runs.length/\i = J U k/\Hid (Qn y k)/\Below w1 w1 wr) (fun i _=>y.runs.length - (intOf i).toNat);case atStart=>exact ⟨0,Ag _,rfl,fun j _ h0=>absurd h0 Bl,Bs _ _⟩
 case round =>
  obtain ⟨k,hk,rfl,aY,hb⟩:=hrel;replace X:=X.below hb;replace B0:=Bv B0 hb;obtain ⟨X_0,X_1,X_2,X_3,X_l⟩:=X.g4;by_cases aA:k<y.runs.length
  ·have aB:(k:Int)<(y.runs.length:Int):=Bl;obtain ⟨b,o,⟨⟨A8,n8,c8⟩,⟨At,nt,ct⟩⟩,eJ,aJ,cP,e0,e1,e2,e3,e4,e5,e6,e7⟩:=(h2.below B0).run aA;subst eJ;have bE:b<wr:=Ai aJ B0.size;have HRr:=Br (show ∀ W,Below wr wr W->Cf.rd W W y.runs[k] (⟨A8,n8,c8⟩,⟨At,nt,ct⟩) from fun W hW=>Cf.rd_more (Cf.rd_below (Cf.rd_more cP B0.size) hW) hW.size);have mT:=HC.out k aA;have aM:=Cw wr;have C1:=fun u:J2 wr=>Mx y.runs[k] (⟨A8,n8,c8⟩,⟨At,nt,ct⟩) u.1 mT (HRr.out _ u.2);have C2:=fun u:J2 wr=>Fi y (⟨A1,n1,c1⟩,⟨Ac ⟨b,o,Ab⟩,y.runs.length,c2⟩) y.runs[k].id u.1 hl (HR.out _ (Bv B0 u.2));have D1:=Br C1;have D2:=Br C2;clear C1 C2;by_cases q1:Hn y.runs[k];case neg =>
    have H:=Br (Cg (show ¬ Dk y from fun h=>q1 (h.2.2.2.2.2.2.2.1 k aA).1));rw [Cg q1] at D1;clear q1;go_wp2;refine Bz Bm Bm ?_;repeat (go_big_quiet_step ((go_at_call 234;(with_reducible exact Jf D1.out))))
    refine Ak ?_;rintro _ ⟨⟨w3,b3⟩,rfl⟩;clear aM;go_wp2;go_ret;exact ⟨Bx H.out.symm,Bv B0 b3⟩
   rw [Di q1] at D1;by_cases q2:Dn y y.runs[k].id=k;case neg =>
    have H:=Br (Cg (show ¬ Dk y from fun h=>q2 (h.2.2.2.2.2.2.2.1 k aA).2));have q2':(Dn y y.runs[k].id != (k:Int))=true:=by simp [q2]
    clear q1 q2;go_wp2;refine Bz Bm Bm ?_;repeat (go_big_quiet_step ((first | (go_at_call 234;(with_reducible exact Jf D1.out)) | (go_at_call 153;(with_reducible exact Jf D2.out)))))
    refine Ak ?_;rintro _ ⟨⟨w3,b3⟩,rfl⟩;clear aM;go_wp2;go_ret;exact ⟨Bx H.out.symm,Bv B0 b3⟩
   have S:Hid (Qn y (k+1)):=fun j hj gB=>by
    by_cases e:j=k
    ·subst e;exact ⟨q1,q2⟩
    ·exact aY.out j hj Bl
   rw [q2] at D2;have q2':((k:Int) != (k:Int))=false:=Bo;clear q1 q2;go_wp2;refine Bz Bm Bm ?_;repeat (go_big_quiet_step ((first | (go_at_call 234;(with_reducible exact Jf D1.out)) | (go_at_call 153;(with_reducible exact Jf D2.out)))))
   refine Ak ?_;rintro _ ⟨⟨w3,b3⟩,rfl⟩;clear aM;go_wp2;first
    | exact ⟨⟨k+1,Bl,by go_num,S,Bv hb b3⟩,clM⟩
    | (refine ⟨?_,clM⟩;(repeat apply Exists.intro);refine ⟨?_,clR⟩;exact ⟨k+1,Bl,by go_num,S,Bv hb b3⟩)
  ·have aB:¬ (k:Int)<(y.runs.length:Int):=Bl;have HR1:Hid (Qn y y.runs.length):=fun j hj _=>aY.out j hj Bl;have C:=Oa y (⟨A1,n1,c1⟩,⟨A2,y.runs.length,c2⟩) wr hl (HR.out _ B0);go_wp2_with fail
   refine C.mono ?_;rintro e w2 ⟨v,rfl,o2,b2⟩;replace X:=X.below b2;replace B0:=Bv B0 b2;clear X_0 X_1 X_2 X_3 X_l aY aA aB hb;have O2:=Rd.of_own o2;clear o2;obtain ⟨A3,c3,rfl,-⟩:=id O2;have qX:=HEn.out;go_wp2;go_loopw [5] (fun i wr=>∃ k:Nat,k<=y.runs.length/\i = J U k/\Hid (Yf y k)/\Below w2 w2 wr) (fun i _=>y.runs.length - (intOf i).toNat);case atStart=>exact ⟨0,Ag _,rfl,fun j _ h0=>absurd h0 Bl,Bs _ _⟩
   case round =>
    obtain ⟨k,hk,rfl,aY,hb⟩:=hrel;replace X:=X.below hb;replace B0:=Bv B0 hb;obtain ⟨X_0,X_1,X_2,X_3,X_l⟩:=X.g4;by_cases aA:k<y.runs.length
    ·have aB:(k:Int)<(y.runs.length:Int):=Bl;obtain ⟨b,o,⟨⟨A8,n8,c8⟩,⟨At,nt,ct⟩⟩,eJ,aJ,cP,e0,e1,e2,e3,e4,e5,e6,e7⟩:=(h2.below B0).run aA;subst eJ;have bE:b<wr:=Ai aJ B0.size;have HRr:=Br (show ∀ W,Below wr wr W->Cf.rd W W y.runs[k] (⟨A8,n8,c8⟩,⟨At,nt,ct⟩) from fun W hW=>Cf.rd_more (Cf.rd_below (Cf.rd_more cP B0.size) hW) hW.size);have mT:=HC.out k aA;have hwt:=Aes (HR1.out k aA aA).1.2.1;have fA:y.runs[k].tasks.length<=2000000:=Ah (Ck D7 _) (by unfold Co at mT;omega);have aM:=Cw wr;have D3:=Br (show ∀ u:J2 wr,_ from fun u=>Xg y (⟨A1,n1,c1⟩,⟨Ac ⟨b,o,Ab⟩,y.runs.length,c2⟩) y.runs[k] (⟨A8,n8,c8⟩,⟨At,nt,ct⟩) (Ch y) ⟨A3,(Ch y).length,c3⟩ u.1 fA qX tS hwt (HRr.out _ u.2) ((O2.below (Bv hb u.2)).more (Bv hb u.2).size));by_cases q3:Kp y.now y.runs[k] (Ch y);case neg =>
      have H:=Br (Cg (show ¬ Dk y from fun h=>q3 (h.2.2.2.2.2.2.2.2.1 _ (Aw aA))));rw [Cg q3] at D3;clear q3;go_wp2;refine Bz Bm Bm ?_;repeat (go_big_quiet_step ((go_at_call 235;(with_reducible exact Jf D3.out))))
      refine Ak ?_;rintro _ ⟨⟨w3,b3⟩,rfl⟩;clear aM;go_wp2;go_ret;exact ⟨Bx H.out.symm,Bv B0 b3⟩
     have S:Hid (Yf y (k+1)):=fun j hj gB=>by
      by_cases e:j=k
      ·subst e;exact q3
      ·exact aY.out j hj Bl
     rw [Di q3] at D3;clear q3;go_wp2;refine Bz Bm Bm ?_;repeat (go_big_quiet_step ((go_at_call 235;(with_reducible exact Jf D3.out))))
     refine Ak ?_;rintro _ ⟨⟨w3,b3⟩,rfl⟩;clear aM;go_wp2;first
      | exact ⟨⟨k+1,Bl,by go_num,S,Bv hb b3⟩,clM⟩
      | (refine ⟨?_,clM⟩;(repeat apply Exists.intro);refine ⟨?_,clR⟩;exact ⟨k+1,Bl,by go_num,S,Bv hb b3⟩)
    ·have aB:¬ (k:Int)<(y.runs.length:Int):=Bl;have HRt:Hid (Kt y y.runs.length):=fun j hj hj2=>⟨(HR1.out j hj hj2).1,(HR1.out j hj hj2).2,aY.out j hj Bl⟩
     have HF:=Br (Agv A1_.out A2_.out A3_.out a4 HRt.out);have C:=P8 y (⟨A1,n1,c1⟩,⟨A2,y.runs.length,c2⟩) wr hl (HR.out _ B0);exact Ai2
theorem Kv {α β:Type} (f:β->α->β) (z:β) (l:List α) (k:Nat) (h:k<l.length):(l.take (k+1)).foldl f z=f ((l.take k).foldl f z) l[k]:=Als
theorem Vx (a b:List Entry) (s r:Sl) (w:World) (hl:a.length<=2000000) (hl':b.length<=2000000) (h:RdL By w w s.v a) (h':RdL By w w r.v b) :
  Calls Am 244 #[Aa s.a s.n s.c,Aa r.a r.n r.c] w (Dv (Dt.list By) slV (Gy a b) w):=by
 obtain ⟨A,n,c⟩:=s;obtain rfl:n=a.length:=RdL.at1 (s:=⟨A,n,c⟩) h;obtain ⟨A',n',c'⟩:=r;obtain rfl:n'=b.length:=RdL.at1 (s:=⟨A',n',c'⟩) h';obtain ⟨i0,aQ,aU,aS,aR⟩:=info_parts Gp;have h0:=Br (fun W (hW:Below w w W)=>((Jw h).below hW).more hW.size);have q1:Below w w (w.alloc (.cells #[] 71)):=Bu;by_cases h8:80<a.length+b.length
 ·have hI:(80:Int)<(a.length:Int)+(b.length:Int):=Bl;have H:=Br (show Gy a b=a from if_pos h8);go_enter func244,ntmps244;go_wp2_with (at_builtin;refine Ci _ Cz Bq rfl (.tmp 7) (.tmp 8) rfl underlying74 aQ aU aS aR rfl (base:=w) (v:=Aa (Ac ⟨w,0,Ab⟩) 0 0) (l:=[]) rfl (Ow.empty Cz 71 w rfl) rfl (h0.out _ q1) Bo Bl Bq q1.size ?_;intro v1 w1 o1 g1 _;rw [List.nil_append] at o1;have d1:Below w w w1:=q1.grown g1 q1.size (fun g hg=>Nat.le_of_eq (Option.some.inj hg)))
  obtain ⟨s9,F9,rfl,o9,n9⟩:=H7 o1;go_ret;exact ⟨s9,F9,rfl,by rw [H.out];exact o9,n9,d1⟩
 have hI:¬ (80:Int)<(a.length:Int)+(b.length:Int):=Bl;have H:=Br (show Gy a b=b.foldl Jk a from if_neg h8);go_enter func244,ntmps244;go_wp2_with (at_builtin;refine Ci _ Cz Bq rfl (.tmp 7) (.tmp 8) rfl underlying74 aQ aU aS aR rfl (base:=w) (v:=Aa (Ac ⟨w,0,Ab⟩) 0 0) (l:=[]) rfl (Ow.empty Cz 71 w rfl) rfl (h0.out _ q1) Bo Bl Bq q1.size ?_;intro v1 w1 o1 g1 _;rw [List.nil_append] at o1;have d1:Below w w w1:=q1.grown g1 q1.size (fun g hg=>Nat.le_of_eq (Option.some.inj hg)))
 obtain ⟨s9,F9,rfl,o9,n9⟩:=H7 o1;go_loopw [5,6] (fun x i wr=>∃ (k:Nat) (t:Sl) (F:List Nat),k<=b.length/\x = Aa t.a t.n t.c/\i = J U k/\Hid (OwL By wr F t.v ((b.take k).foldl Jk a)/\(∀ x∈F,w<=x))/\Below w w wr) (fun _ i _=>b.length - (intOf i).toNat);case atStart=>exact ⟨0,s9,F9,Ag _,rfl,rfl,⟨o9,n9⟩,d1⟩
 case round =>
  clear o9 n9 d1 o1 g1;obtain ⟨k,t,F,hk,rfl,rfl,hO,hb⟩:=hrel;by_cases aA:k<b.length
  ·have aB:(k:Int)<(b.length:Int):=Bl;obtain ⟨b1,o,_,rfl,aJ,_,c0,c1,c2,c3⟩:=(h'.below hb).entry aA;have hs:=hb.size;have bV:b1<wr:=Bl;have HT:=Br (Kv Jk a b k aA);have aE:((b.take k).foldl Jk a).length<=2000000:=by rw [Ma];simp;omega
   have CP:=Br (Ku ((b.take k).foldl Jk a) t b[k] wr aE hO.out.1.rd);generalize (b.take k).foldl Jk a=L at *
   go_wp2_with (go_at_call 291;refine CP.out.mono ?_;rintro e w2 ⟨t2,F2,rfl,o2,n2,b2⟩)
   exact ⟨⟨k+1,t2,F2,Bl,rfl,by go_num,⟨by rw [HT.out];exact o2,fun x hx=>Ah hs (n2 x hx)⟩,Bv hb b2⟩,clM⟩
  ·have aB:¬ (k:Int)<(b.length:Int):=Bl;have HO:=hO.out.1;rw [List.take_of_length_le Bl] at HO;exact Anl
def Kj:Plan:=⟨0,0,0,0,[]⟩
def Gz (d:Deed):Deed :=
 if d.kind=1 then ⟨d.kind,d.run,d.plan,0,0,0,0⟩
 else if d.kind=2 then ⟨d.kind,0,Kj,0,0,d.worker,d.draw⟩
 else if d.kind=3\/d.kind=4 then ⟨d.kind,d.run,Kj,d.task,d.try_,0,0⟩
 else if d.kind=6\/d.kind=7 then ⟨d.kind,d.run,Kj,0,0,0,0⟩
 else ⟨d.kind,0,Kj,0,0,0,0⟩
theorem DBox.drew {b:Nat} {cs:List Value} {w:World} (h:DBox b cs w):DBox b cs w.drew:=⟨h.cell,h.free,h.lt⟩
theorem DBox.row11 {b:Nat} {cs:List Value} {w:World} (h:DBox b cs w) (hn:cs.length=11) (u0 u1 u2 u3 u4 u5 u6 u7 u8 u9 u10:Value) :
  DBox b [u0,u1,u2,u3,u4,u5,u6,u7,u8,u9,u10] (((((((((((w.setCell ⟨b,0,Ab⟩ u0).setCell ⟨b,1,Ab⟩ u1).setCell ⟨b,2,Ab⟩ u2).setCell ⟨b,3,Ab⟩ u3).setCell ⟨b,4,Ab⟩ u4).setCell ⟨b,5,Ab⟩ u5).setCell ⟨b,6,Ab⟩ u6).setCell ⟨b,7,Ab⟩ u7).setCell ⟨b,8,Ab⟩ u8).setCell ⟨b,9,Ab⟩ u9).setCell ⟨b,10,Ab⟩ u10):=by
 obtain ⟨c0,c1,c2,c3,c4,c5,c6,c7,c8,c9,c10,rfl⟩:∃ c0 c1 c2 c3 c4 c5 c6 c7 c8 c9 c10,cs=[c0,c1,c2,c3,c4,c5,c6,c7,c8,c9,c10]:=by
  match cs,hn with
  | [c0,c1,c2,c3,c4,c5,c6,c7,c8,c9,c10],_=>exact ⟨c0,c1,c2,c3,c4,c5,c6,c7,c8,c9,c10,rfl⟩
 exact ((((((((((h.set 0 Bo u0).set 1 Bo u1).set 2 Bo u2).set 3 Bo u3).set 4 Bo u4).set 5 Bo u5).set 6 Bo u6).set 7 Bo u7).set 8 Bo u8).set 9 Bo u9).set 10 Bo u10
theorem Mc {b:Nat} {w:World} {u0 u1 u2 u3 u4 u5 u6 u7 u8 u9 u10:Value} (X:DBox b [u0,u1,u2,u3,u4,u5,u6,u7,u8,u9,u10] w) {v0 v1:Value} {rest:List Value} :
  (results Tryz.f128 (v0 :: v1 :: .pointer (Ac ⟨b,0,Ab⟩) :: rest).toArray).run Am w = .ok (.agg #[u0,u1,u2,u3,u4,u5,u6,u7,u8,u9,u10]) w:=by
 have c0:=X.cell 0 _ rfl;have c1:=X.cell 1 _ rfl;have c2:=X.cell 2 _ rfl;have c3:=X.cell 3 _ rfl;have c4:=X.cell 4 _ rfl;have c5:=X.cell 5 _ rfl;have c6:=X.cell 6 _ rfl;have c7:=X.cell 7 _ rfl;have c8:=X.cell 8 _ rfl;have c9:=X.cell 9 _ rfl;have c10:=X.cell 10 _ rfl;simp [results,results128,go_sem,c0,c1,c2,c3,c4,c5,c6,c7,c8,c9,c10]
theorem Afu (d:Deed) (s:Sl) (w:World) (hk:d.kind=1) :
  Calls Am 128 #[Dc d s] w fun e w'=>e = .returned (Dc (Gz d) (if d.kind=1 then s else ⟨Ab,0,0⟩))/\Below w w w':=by
 obtain ⟨A,n,c⟩:=s;obtain ⟨kd,rn,p,tk,ty,wk,dr⟩:=d;obtain rfl:kd=1:=hk;show Calls Am 128 #[Dc ⟨1,rn,p,tk,ty,wk,dr⟩ ⟨A,n,c⟩] w fun e w'=>e = .returned (Dc (Gz ⟨1,rn,p,tk,ty,wk,dr⟩) (if (1:Int)=1 then (⟨A,n,c⟩:Sl) else ⟨Ab,0,0⟩))/\Below w w w';rw [show Dc (Gz ⟨1,rn,p,tk,ty,wk,dr⟩) (if (1:Int)=1 then (⟨A,n,c⟩:Sl) else ⟨Ab,0,0⟩)=Dc ⟨1,rn,p,0,0,0,0⟩ ⟨A,n,c⟩ from rfl];obtain ⟨W,aH,X,R,Y,B0⟩:=bx3 w 45 [J U 1,J U rn,J U p.prio,J U p.most,J U p.wait,J U p.tasks,Aa A n c,J U tk,J U ty,J U wk,J U dr] 45 [J U 0,J U 0,J U 0,J U 0,J U 0,J U 0,Aa Ab 0 0,J U 0,J U 0,J U 0,J U 0] 45 [J U 1,J U 0,J U 0,J U 0,J U 0,J U 0,Aa Ab 0 0,J U 0,J U 0,J U 0,J U 0];go_enter func128,ntmps128;go_wp2;rw [<-aH.out];clear aH;have X_:=X.g11;have Y_:=Y.g11;have R_:=R.g11;have yf:=Y.free;have rf:=R.free;go_region;have Y3:DBox (w+1+1) [J U 1,J U rn,J U p.prio,J U p.most,J U p.wait,J U p.tasks,Aa A n c,J U 0,J U 0,J U 0,J U 0] ((((((W.setCell ⟨w+1+1,1,Ab⟩ (J U rn)).setCell ⟨w+1+1,2,Ab⟩ (J U p.prio)).setCell ⟨w+1+1,3,Ab⟩ (J U p.most)).setCell ⟨w+1+1,4,Ab⟩ (J U p.wait)).setCell ⟨w+1+1,5,Ab⟩ (J U p.tasks)).setCell ⟨w+1+1,6,Ab⟩ (Aa A n c)).drew:=DBox.drew ((((((Y.set 1 Bo (J U rn)).set 2 Bo (J U p.prio)).set 3 Bo (J U p.most)).set 4 Bo (J U p.wait)).set 5 Bo (J U p.tasks)).set 6 Bo (Aa A n c));have R3:DBox (w+1) [J U 0,J U 0,J U 0,J U 0,J U 0,J U 0,Aa Ab 0 0,J U 0,J U 0,J U 0,J U 0] ((((((W.setCell ⟨w+1+1,1,Ab⟩ (J U rn)).setCell ⟨w+1+1,2,Ab⟩ (J U p.prio)).setCell ⟨w+1+1,3,Ab⟩ (J U p.most)).setCell ⟨w+1+1,4,Ab⟩ (J U p.wait)).setCell ⟨w+1+1,5,Ab⟩ (J U p.tasks)).setCell ⟨w+1+1,6,Ab⟩ (Aa A n c)).drew:=DBox.drew ((((((R.setOther (a:=⟨w+1+1,1,Ab⟩) Bo (J U rn)).setOther (a:=⟨w+1+1,2,Ab⟩) Bo (J U p.prio)).setOther (a:=⟨w+1+1,3,Ab⟩) Bo (J U p.most)).setOther (a:=⟨w+1+1,4,Ab⟩) Bo (J U p.wait)).setOther (a:=⟨w+1+1,5,Ab⟩) Bo (J U p.tasks)).setOther (a:=⟨w+1+1,6,Ab⟩) Bo (Aa A n c));have B3:Below w w ((((((W.setCell ⟨w+1+1,1,Ab⟩ (J U rn)).setCell ⟨w+1+1,2,Ab⟩ (J U p.prio)).setCell ⟨w+1+1,3,Ab⟩ (J U p.most)).setCell ⟨w+1+1,4,Ab⟩ (J U p.wait)).setCell ⟨w+1+1,5,Ab⟩ (J U p.tasks)).setCell ⟨w+1+1,6,Ab⟩ (Aa A n c)).drew:=Below.drew (Ad (Ad (Ad (Ad (Ad (Ad B0 Bp (J U rn)) Bp (J U p.prio)) Bp (J U p.most)) Bp (J U p.wait)) Bp (J U p.tasks)) Bp (Aa A n c));clear X_;clear Y_;clear R_;clear X Y R yf rf B0;generalize ((((((W.setCell ⟨w+1+1,1,Ab⟩ (J U rn)).setCell ⟨w+1+1,2,Ab⟩ (J U p.prio)).setCell ⟨w+1+1,3,Ab⟩ (J U p.most)).setCell ⟨w+1+1,4,Ab⟩ (J U p.wait)).setCell ⟨w+1+1,5,Ab⟩ (J U p.tasks)).setCell ⟨w+1+1,6,Ab⟩ (Aa A n c)).drew=W3 at *
 have Y:=Y3;have R:=R3;have B0:=B3;clear Y3 R3 B3;have Y_:=Y.g11;have R_:=R.g11;have yf:=Y.free;have rf:=R.free;all_goals go_wp2
 all_goals refine Aj (v:=Dc ⟨1,rn,p,0,0,0,0⟩ ⟨A,n,c⟩) (Mc (DBox.row11 (cs:=[J U 0,J U 0,J U 0,J U 0,J U 0,J U 0,Aa Ab 0 0,J U 0,J U 0,J U 0,J U 0]) ?_ rfl _ _ _ _ _ _ _ _ _ _ _)) rfl ⟨rfl,?_⟩
 all_goals repeat (first | (with_reducible exact B0) | (with_reducible exact R) | refine Ad ?_ Bp _ | refine DBox.setOther ?_ Bp _)
theorem Afv (d:Deed) (s:Sl) (w:World) (hk:d.kind=2) :
  Calls Am 128 #[Dc d s] w fun e w'=>e = .returned (Dc (Gz d) (if d.kind=1 then s else ⟨Ab,0,0⟩))/\Below w w w':=by
 obtain ⟨A,n,c⟩:=s;obtain ⟨kd,rn,p,tk,ty,wk,dr⟩:=d;obtain rfl:kd=2:=hk;show Calls Am 128 #[Dc ⟨2,rn,p,tk,ty,wk,dr⟩ ⟨A,n,c⟩] w fun e w'=>e = .returned (Dc (Gz ⟨2,rn,p,tk,ty,wk,dr⟩) (if (2:Int)=1 then (⟨A,n,c⟩:Sl) else ⟨Ab,0,0⟩))/\Below w w w';rw [show Dc (Gz ⟨2,rn,p,tk,ty,wk,dr⟩) (if (2:Int)=1 then (⟨A,n,c⟩:Sl) else ⟨Ab,0,0⟩)=Dc ⟨2,0,Kj,0,0,wk,dr⟩ ⟨Ab,0,0⟩ from rfl];obtain ⟨W,aH,X,R,Y,B0⟩:=bx3 w 45 [J U 2,J U rn,J U p.prio,J U p.most,J U p.wait,J U p.tasks,Aa A n c,J U tk,J U ty,J U wk,J U dr] 45 [J U 0,J U 0,J U 0,J U 0,J U 0,J U 0,Aa Ab 0 0,J U 0,J U 0,J U 0,J U 0] 45 [J U 2,J U 0,J U 0,J U 0,J U 0,J U 0,Aa Ab 0 0,J U 0,J U 0,J U 0,J U 0];go_enter func128,ntmps128;go_wp2;rw [<-aH.out];clear aH;have X_:=X.g11;have Y_:=Y.g11;have R_:=R.g11;have yf:=Y.free;have rf:=R.free;go_region;have Y3:DBox (w+1+1) [J U 2,J U 0,J U 0,J U 0,J U 0,J U 0,Aa Ab 0 0,J U 0,J U 0,J U wk,J U dr] ((W.setCell ⟨w+1+1,9,Ab⟩ (J U wk)).setCell ⟨w+1+1,10,Ab⟩ (J U dr)).drew:=DBox.drew ((Y.set 9 Bo (J U wk)).set 10 Bo (J U dr));have R3:DBox (w+1) [J U 0,J U 0,J U 0,J U 0,J U 0,J U 0,Aa Ab 0 0,J U 0,J U 0,J U 0,J U 0] ((W.setCell ⟨w+1+1,9,Ab⟩ (J U wk)).setCell ⟨w+1+1,10,Ab⟩ (J U dr)).drew:=DBox.drew ((R.setOther (a:=⟨w+1+1,9,Ab⟩) Bo (J U wk)).setOther (a:=⟨w+1+1,10,Ab⟩) Bo (J U dr));have B3:Below w w ((W.setCell ⟨w+1+1,9,Ab⟩ (J U wk)).setCell ⟨w+1+1,10,Ab⟩ (J U dr)).drew:=Below.drew (Ad (Ad B0 Bp (J U wk)) Bp (J U dr));clear X_;clear Y_;clear R_;clear X Y R yf rf B0;generalize ((W.setCell ⟨w+1+1,9,Ab⟩ (J U wk)).setCell ⟨w+1+1,10,Ab⟩ (J U dr)).drew=W3 at *
 have Y:=Y3;have R:=R3;have B0:=B3;clear Y3 R3 B3;have Y_:=Y.g11;have R_:=R.g11;have yf:=Y.free;have rf:=R.free;all_goals go_wp2
 all_goals refine Aj (v:=Dc ⟨2,0,Kj,0,0,wk,dr⟩ ⟨Ab,0,0⟩) (Mc (DBox.row11 (cs:=[J U 0,J U 0,J U 0,J U 0,J U 0,J U 0,Aa Ab 0 0,J U 0,J U 0,J U 0,J U 0]) ?_ rfl _ _ _ _ _ _ _ _ _ _ _)) rfl ⟨rfl,?_⟩
 all_goals repeat (first | (with_reducible exact B0) | (with_reducible exact R) | refine Ad ?_ Bp _ | refine DBox.setOther ?_ Bp _)
theorem Afw (d:Deed) (s:Sl) (w:World) (hk:d.kind=3) :
  Calls Am 128 #[Dc d s] w fun e w'=>e = .returned (Dc (Gz d) (if d.kind=1 then s else ⟨Ab,0,0⟩))/\Below w w w':=by
 obtain ⟨A,n,c⟩:=s;obtain ⟨kd,rn,p,tk,ty,wk,dr⟩:=d;obtain rfl:kd=3:=hk;show Calls Am 128 #[Dc ⟨3,rn,p,tk,ty,wk,dr⟩ ⟨A,n,c⟩] w fun e w'=>e = .returned (Dc (Gz ⟨3,rn,p,tk,ty,wk,dr⟩) (if (3:Int)=1 then (⟨A,n,c⟩:Sl) else ⟨Ab,0,0⟩))/\Below w w w';rw [show Dc (Gz ⟨3,rn,p,tk,ty,wk,dr⟩) (if (3:Int)=1 then (⟨A,n,c⟩:Sl) else ⟨Ab,0,0⟩)=Dc ⟨3,rn,Kj,tk,ty,0,0⟩ ⟨Ab,0,0⟩ from rfl];obtain ⟨W,aH,X,R,Y,B0⟩:=bx3 w 45 [J U 3,J U rn,J U p.prio,J U p.most,J U p.wait,J U p.tasks,Aa A n c,J U tk,J U ty,J U wk,J U dr] 45 [J U 0,J U 0,J U 0,J U 0,J U 0,J U 0,Aa Ab 0 0,J U 0,J U 0,J U 0,J U 0] 45 [J U 3,J U 0,J U 0,J U 0,J U 0,J U 0,Aa Ab 0 0,J U 0,J U 0,J U 0,J U 0];go_enter func128,ntmps128;go_wp2;rw [<-aH.out];clear aH;have X_:=X.g11;have Y_:=Y.g11;have R_:=R.g11;have yf:=Y.free;have rf:=R.free;go_region;have Y3:DBox (w+1+1) [J U 3,J U rn,J U 0,J U 0,J U 0,J U 0,Aa Ab 0 0,J U tk,J U ty,J U 0,J U 0] (((W.setCell ⟨w+1+1,1,Ab⟩ (J U rn)).setCell ⟨w+1+1,7,Ab⟩ (J U tk)).setCell ⟨w+1+1,8,Ab⟩ (J U ty)).drew:=DBox.drew (((Y.set 1 Bo (J U rn)).set 7 Bo (J U tk)).set 8 Bo (J U ty));have R3:DBox (w+1) [J U 0,J U 0,J U 0,J U 0,J U 0,J U 0,Aa Ab 0 0,J U 0,J U 0,J U 0,J U 0] (((W.setCell ⟨w+1+1,1,Ab⟩ (J U rn)).setCell ⟨w+1+1,7,Ab⟩ (J U tk)).setCell ⟨w+1+1,8,Ab⟩ (J U ty)).drew:=DBox.drew (((R.setOther (a:=⟨w+1+1,1,Ab⟩) Bo (J U rn)).setOther (a:=⟨w+1+1,7,Ab⟩) Bo (J U tk)).setOther (a:=⟨w+1+1,8,Ab⟩) Bo (J U ty));have B3:Below w w (((W.setCell ⟨w+1+1,1,Ab⟩ (J U rn)).setCell ⟨w+1+1,7,Ab⟩ (J U tk)).setCell ⟨w+1+1,8,Ab⟩ (J U ty)).drew:=Below.drew (Ad (Ad (Ad B0 Bp (J U rn)) Bp (J U tk)) Bp (J U ty));clear X_;clear Y_;clear R_;clear X Y R yf rf B0;generalize (((W.setCell ⟨w+1+1,1,Ab⟩ (J U rn)).setCell ⟨w+1+1,7,Ab⟩ (J U tk)).setCell ⟨w+1+1,8,Ab⟩ (J U ty)).drew=W3 at *
 have Y:=Y3;have R:=R3;have B0:=B3;clear Y3 R3 B3;have Y_:=Y.g11;have R_:=R.g11;have yf:=Y.free;have rf:=R.free;all_goals go_wp2
 all_goals refine Aj (v:=Dc ⟨3,rn,Kj,tk,ty,0,0⟩ ⟨Ab,0,0⟩) (Mc (DBox.row11 (cs:=[J U 0,J U 0,J U 0,J U 0,J U 0,J U 0,Aa Ab 0 0,J U 0,J U 0,J U 0,J U 0]) ?_ rfl _ _ _ _ _ _ _ _ _ _ _)) rfl ⟨rfl,?_⟩
 all_goals repeat (first | (with_reducible exact B0) | (with_reducible exact R) | refine Ad ?_ Bp _ | refine DBox.setOther ?_ Bp _)
theorem Afx (d:Deed) (s:Sl) (w:World) (hk:d.kind=4) :
  Calls Am 128 #[Dc d s] w fun e w'=>e = .returned (Dc (Gz d) (if d.kind=1 then s else ⟨Ab,0,0⟩))/\Below w w w':=by
 obtain ⟨A,n,c⟩:=s;obtain ⟨kd,rn,p,tk,ty,wk,dr⟩:=d;obtain rfl:kd=4:=hk;show Calls Am 128 #[Dc ⟨4,rn,p,tk,ty,wk,dr⟩ ⟨A,n,c⟩] w fun e w'=>e = .returned (Dc (Gz ⟨4,rn,p,tk,ty,wk,dr⟩) (if (4:Int)=1 then (⟨A,n,c⟩:Sl) else ⟨Ab,0,0⟩))/\Below w w w';rw [show Dc (Gz ⟨4,rn,p,tk,ty,wk,dr⟩) (if (4:Int)=1 then (⟨A,n,c⟩:Sl) else ⟨Ab,0,0⟩)=Dc ⟨4,rn,Kj,tk,ty,0,0⟩ ⟨Ab,0,0⟩ from rfl];obtain ⟨W,aH,X,R,Y,B0⟩:=bx3 w 45 [J U 4,J U rn,J U p.prio,J U p.most,J U p.wait,J U p.tasks,Aa A n c,J U tk,J U ty,J U wk,J U dr] 45 [J U 0,J U 0,J U 0,J U 0,J U 0,J U 0,Aa Ab 0 0,J U 0,J U 0,J U 0,J U 0] 45 [J U 4,J U 0,J U 0,J U 0,J U 0,J U 0,Aa Ab 0 0,J U 0,J U 0,J U 0,J U 0];go_enter func128,ntmps128;go_wp2;rw [<-aH.out];clear aH;have X_:=X.g11;have Y_:=Y.g11;have R_:=R.g11;have yf:=Y.free;have rf:=R.free;go_region;have Y3:DBox (w+1+1) [J U 4,J U rn,J U 0,J U 0,J U 0,J U 0,Aa Ab 0 0,J U tk,J U ty,J U 0,J U 0] (((W.setCell ⟨w+1+1,1,Ab⟩ (J U rn)).setCell ⟨w+1+1,7,Ab⟩ (J U tk)).setCell ⟨w+1+1,8,Ab⟩ (J U ty)).drew:=DBox.drew (((Y.set 1 Bo (J U rn)).set 7 Bo (J U tk)).set 8 Bo (J U ty));have R3:DBox (w+1) [J U 0,J U 0,J U 0,J U 0,J U 0,J U 0,Aa Ab 0 0,J U 0,J U 0,J U 0,J U 0] (((W.setCell ⟨w+1+1,1,Ab⟩ (J U rn)).setCell ⟨w+1+1,7,Ab⟩ (J U tk)).setCell ⟨w+1+1,8,Ab⟩ (J U ty)).drew:=DBox.drew (((R.setOther (a:=⟨w+1+1,1,Ab⟩) Bo (J U rn)).setOther (a:=⟨w+1+1,7,Ab⟩) Bo (J U tk)).setOther (a:=⟨w+1+1,8,Ab⟩) Bo (J U ty));have B3:Below w w (((W.setCell ⟨w+1+1,1,Ab⟩ (J U rn)).setCell ⟨w+1+1,7,Ab⟩ (J U tk)).setCell ⟨w+1+1,8,Ab⟩ (J U ty)).drew:=Below.drew (Ad (Ad (Ad B0 Bp (J U rn)) Bp (J U tk)) Bp (J U ty));clear X_;clear Y_;clear R_;clear X Y R yf rf B0;generalize (((W.setCell ⟨w+1+1,1,Ab⟩ (J U rn)).setCell ⟨w+1+1,7,Ab⟩ (J U tk)).setCell ⟨w+1+1,8,Ab⟩ (J U ty)).drew=W3 at *
 have Y:=Y3;have R:=R3;have B0:=B3;clear Y3 R3 B3;have Y_:=Y.g11;have R_:=R.g11;have yf:=Y.free;have rf:=R.free;all_goals go_wp2
 all_goals refine Aj (v:=Dc ⟨4,rn,Kj,tk,ty,0,0⟩ ⟨Ab,0,0⟩) (Mc (DBox.row11 (cs:=[J U 0,J U 0,J U 0,J U 0,J U 0,J U 0,Aa Ab 0 0,J U 0,J U 0,J U 0,J U 0]) ?_ rfl _ _ _ _ _ _ _ _ _ _ _)) rfl ⟨rfl,?_⟩
 all_goals repeat (first | (with_reducible exact B0) | (with_reducible exact R) | refine Ad ?_ Bp _ | refine DBox.setOther ?_ Bp _)
theorem Afy (d:Deed) (s:Sl) (w:World) (hk:d.kind=6) :
  Calls Am 128 #[Dc d s] w fun e w'=>e = .returned (Dc (Gz d) (if d.kind=1 then s else ⟨Ab,0,0⟩))/\Below w w w':=by
 obtain ⟨A,n,c⟩:=s;obtain ⟨kd,rn,p,tk,ty,wk,dr⟩:=d;obtain rfl:kd=6:=hk;show Calls Am 128 #[Dc ⟨6,rn,p,tk,ty,wk,dr⟩ ⟨A,n,c⟩] w fun e w'=>e = .returned (Dc (Gz ⟨6,rn,p,tk,ty,wk,dr⟩) (if (6:Int)=1 then (⟨A,n,c⟩:Sl) else ⟨Ab,0,0⟩))/\Below w w w';rw [show Dc (Gz ⟨6,rn,p,tk,ty,wk,dr⟩) (if (6:Int)=1 then (⟨A,n,c⟩:Sl) else ⟨Ab,0,0⟩)=Dc ⟨6,rn,Kj,0,0,0,0⟩ ⟨Ab,0,0⟩ from rfl];obtain ⟨W,aH,X,R,Y,B0⟩:=bx3 w 45 [J U 6,J U rn,J U p.prio,J U p.most,J U p.wait,J U p.tasks,Aa A n c,J U tk,J U ty,J U wk,J U dr] 45 [J U 0,J U 0,J U 0,J U 0,J U 0,J U 0,Aa Ab 0 0,J U 0,J U 0,J U 0,J U 0] 45 [J U 6,J U 0,J U 0,J U 0,J U 0,J U 0,Aa Ab 0 0,J U 0,J U 0,J U 0,J U 0];go_enter func128,ntmps128;go_upto_region 12 with fail
 rw [<-aH.out];clear aH;have X_:=X.g11;have Y_:=Y.g11;have R_:=R.g11;have yf:=Y.free;have rf:=R.free;all_goals go_wp2
 all_goals refine Aj (v:=Dc ⟨6,rn,Kj,0,0,0,0⟩ ⟨Ab,0,0⟩) (Mc (DBox.row11 (cs:=[J U 0,J U 0,J U 0,J U 0,J U 0,J U 0,Aa Ab 0 0,J U 0,J U 0,J U 0,J U 0]) ?_ rfl _ _ _ _ _ _ _ _ _ _ _)) rfl ⟨rfl,?_⟩
 all_goals repeat (first | (with_reducible exact B0) | (with_reducible exact R) | refine Ad ?_ Bp _ | refine DBox.setOther ?_ Bp _)
theorem Afz (d:Deed) (s:Sl) (w:World) (hk:d.kind=7) :
  Calls Am 128 #[Dc d s] w fun e w'=>e = .returned (Dc (Gz d) (if d.kind=1 then s else ⟨Ab,0,0⟩))/\Below w w w':=by
 obtain ⟨A,n,c⟩:=s;obtain ⟨kd,rn,p,tk,ty,wk,dr⟩:=d;obtain rfl:kd=7:=hk;show Calls Am 128 #[Dc ⟨7,rn,p,tk,ty,wk,dr⟩ ⟨A,n,c⟩] w fun e w'=>e = .returned (Dc (Gz ⟨7,rn,p,tk,ty,wk,dr⟩) (if (7:Int)=1 then (⟨A,n,c⟩:Sl) else ⟨Ab,0,0⟩))/\Below w w w';rw [show Dc (Gz ⟨7,rn,p,tk,ty,wk,dr⟩) (if (7:Int)=1 then (⟨A,n,c⟩:Sl) else ⟨Ab,0,0⟩)=Dc ⟨7,rn,Kj,0,0,0,0⟩ ⟨Ab,0,0⟩ from rfl];obtain ⟨W,aH,X,R,Y,B0⟩:=bx3 w 45 [J U 7,J U rn,J U p.prio,J U p.most,J U p.wait,J U p.tasks,Aa A n c,J U tk,J U ty,J U wk,J U dr] 45 [J U 0,J U 0,J U 0,J U 0,J U 0,J U 0,Aa Ab 0 0,J U 0,J U 0,J U 0,J U 0] 45 [J U 7,J U 0,J U 0,J U 0,J U 0,J U 0,Aa Ab 0 0,J U 0,J U 0,J U 0,J U 0];go_enter func128,ntmps128;go_upto_region 12 with fail
 rw [<-aH.out];clear aH;have X_:=X.g11;have Y_:=Y.g11;have R_:=R.g11;have yf:=Y.free;have rf:=R.free;all_goals go_wp2
 all_goals refine Aj (v:=Dc ⟨7,rn,Kj,0,0,0,0⟩ ⟨Ab,0,0⟩) (Mc (DBox.row11 (cs:=[J U 0,J U 0,J U 0,J U 0,J U 0,J U 0,Aa Ab 0 0,J U 0,J U 0,J U 0,J U 0]) ?_ rfl _ _ _ _ _ _ _ _ _ _ _)) rfl ⟨rfl,?_⟩
 all_goals repeat (first | (with_reducible exact B0) | (with_reducible exact R) | refine Ad ?_ Bp _ | refine DBox.setOther ?_ Bp _)
theorem Af0 (d:Deed) (s:Sl) (w:World) (k1:(d.kind == 1)=false) (k2:(d.kind == 2)=false) (k3:(d.kind == 3)=false) (k4:(d.kind == 4)=false) (k6:(d.kind == 6)=false) (k7:(d.kind == 7)=false) :
  Calls Am 128 #[Dc d s] w fun e w'=>e = .returned (Dc (Gz d) (if d.kind=1 then s else ⟨Ab,0,0⟩))/\Below w w w':=by
 obtain ⟨A,n,c⟩:=s;obtain ⟨kd,rn,p,tk,ty,wk,dr⟩:=d;replace k1:(kd == 1)=false:=k1;replace k2:(kd == 2)=false:=k2;replace k3:(kd == 3)=false:=k3;replace k4:(kd == 4)=false:=k4;replace k6:(kd == 6)=false:=k6;replace k7:(kd == 7)=false:=k7;show Calls Am 128 #[Dc ⟨kd,rn,p,tk,ty,wk,dr⟩ ⟨A,n,c⟩] w fun e w'=>e = .returned (Dc (Gz ⟨kd,rn,p,tk,ty,wk,dr⟩) (if (kd:Int)=1 then (⟨A,n,c⟩:Sl) else ⟨Ab,0,0⟩))/\Below w w w';rw [show Dc (Gz ⟨kd,rn,p,tk,ty,wk,dr⟩) (if (kd:Int)=1 then (⟨A,n,c⟩:Sl) else ⟨Ab,0,0⟩)=Dc ⟨kd,0,Kj,0,0,0,0⟩ ⟨Ab,0,0⟩ from by simp only [beq_eq_false_iff_ne] at k1 k2 k3 k4 k6 k7;simp [Gz,k1,k2,k3,k4,k6,k7]];obtain ⟨W,aH,X,R,Y,B0⟩:=bx3 w 45 [J U kd,J U rn,J U p.prio,J U p.most,J U p.wait,J U p.tasks,Aa A n c,J U tk,J U ty,J U wk,J U dr] 45 [J U 0,J U 0,J U 0,J U 0,J U 0,J U 0,Aa Ab 0 0,J U 0,J U 0,J U 0,J U 0] 45 [J U kd,J U 0,J U 0,J U 0,J U 0,J U 0,Aa Ab 0 0,J U 0,J U 0,J U 0,J U 0];go_enter func128,ntmps128;go_upto_region 13 with fail
 rw [<-aH.out];clear aH;have X_:=X.g11;have Y_:=Y.g11;have R_:=R.g11;have yf:=Y.free;have rf:=R.free;all_goals go_wp2
 all_goals refine Aj (v:=Dc ⟨kd,0,Kj,0,0,0,0⟩ ⟨Ab,0,0⟩) (Mc (DBox.row11 (cs:=[J U 0,J U 0,J U 0,J U 0,J U 0,J U 0,Aa Ab 0 0,J U 0,J U 0,J U 0,J U 0]) ?_ rfl _ _ _ _ _ _ _ _ _ _ _)) rfl ⟨rfl,?_⟩
 all_goals repeat (first | (with_reducible exact B0) | (with_reducible exact R) | refine Ad ?_ Bp _ | refine DBox.setOther ?_ Bp _)
theorem Tu (id:Int) (w:World) :
  Calls Am 273 #[J U id] w fun e w'=>e = .returned (J U (C7 id))/\Below w w w':=by
 have sN:=Sr id;have aG:=Abf (Ex id);have C:=Br (Tm id w);by_cases h0:(Ex id).length=0
 ·have H:=Br (show (C7 id:Int)=0 by unfold C7;rw [if_pos h0];rfl);have hE:Ex id=[]:=List.eq_nil_of_length_eq_zero h0;rw [hE] at C;clear aG h0;go_enter func273,ntmps273;go_wp2_with (go_at_call 121;refine C.out.mono ?_;rintro e w1 ⟨rfl,b1⟩)
  go_ret;exact ⟨by rw [H.out];rfl,b1⟩
 ·have H:=Br (show (C7 id:Int)=Le (Ex id) % 4 by
   unfold C7;rw [if_neg h0];exact Int.toNat_of_nonneg (Int.emod_nonneg _ Bq))
  have hem:=Aeu h0;have CS:=Br (fun W=>Xa (Ex id) W Bl);have r4:=Ah7 _ aG.1;have w4:=Ahv _ aG.1;generalize Le (Ex id)=sm at *
  generalize Ex id=L at *
  go_enter func273,ntmps273;go_wp2_with (first | (go_at_call 121;refine C.out.mono ?_;rintro e w1 ⟨rfl,b1⟩) | (go_at_call 123;refine (CS.out _).mono ?_;rintro e w2 ⟨rfl,b2⟩))
  go_ret;exact ⟨by rw [H.out];rfl,Bv b1 b2⟩
theorem Md (l:List Entry) (s:Sl) (w:World) (hl:l.length<=2000000) (h:RdL By w w s.v l) :
  Calls Am 145 #[Aa s.a s.n s.c] w fun e w'=>∃ v,e = .returned v/\Ow Cz 71 w' w v l/\Below w w w':=by
 obtain ⟨A,n,c⟩:=s;obtain rfl:n=l.length:=RdL.at1 (s:=⟨A,n,c⟩) h;obtain ⟨i0,aQ,aU,aS,aR⟩:=info_parts Gp;go_enter func145,ntmps145;go_wp2_with (at_builtin;refine Ci _ Cz Bq rfl (.const (Aa Ab 0 0)) (.tmp 3) rfl underlying74 aQ aU aS aR rfl (v:=Aa Ab 0 0) (l:=[]) rfl (Ow.nil Cz 71 _ w) rfl (Jw h) Bo Bl Bq (Bt _) ?_;intro v1 w1 o1 g1 _;rw [List.nil_append] at o1)
 go_ret;exact ⟨_,rfl,o1,(Bs w w).grown g1 (Bt _) (fun g hg=>by cases hg)⟩
theorem Af1 (x e:Entry) (p:Nat) (w:World) (hp:DBox p [J U e.prio,J U e.seq,J U e.run,J U e.task] w) :
  Calls Am 303 #[G6 x (),.pointer (Ac ⟨p,0,Ab⟩)] w fun en w'=>en = .returned (.bool (!Fg x e))/\Below w w w':=by
 obtain ⟨W,aH,X,B0⟩:=bx1 w 71 [J U x.prio,J U x.seq,J U x.run,J U x.task];have P:=hp.below B0;have C:=Br (fun W=>Mw x e W);go_enter func303,ntmps303;go_upto_region 1 with fail
 rw [<-aH.out];clear aH;have X_:=X.g4;have P_:=P.g4;go_wp2_with fail
 refine (C.out _).mono ?_;rintro en w1 ⟨rfl,b1⟩;go_wp2;go_ret;exact ⟨rfl,Bv B0 b1⟩
theorem Agw (l:List Entry) (e:Entry):∃ k,k<=l.length/\Jk l e=l.take k ++ e :: l.drop k/\((Hv (fun x=>!Fg x e) l = -1/\k=l.length)\/(Hv (fun x=>!Fg x e) l=(k:Int)/\k<l.length)):=by
 rcases Mq (fun x=>!Fg x e) l with hr | ⟨k,hk,hr⟩
 ·refine ⟨l.length,Bt _,?_,.inl ⟨hr,rfl⟩⟩
  have:=Ud (l:=l) (e:=e) (Bt _) (fun j hj _=>by
   cases hp:Fg l[j] e with
   | true=>rfl
   | false=>exact absurd (Ry (p:=fun x=>!Fg x e).2 ⟨_,Aw hj,by rw [hp];rfl⟩) Bl) (fun h=>absurd h Bl)
  rw [this,List.append_assoc];rfl
 ·refine ⟨k,Bl,?_,.inr ⟨hr,hk⟩⟩;unfold Hv at hr;cases hf:l.findIdx? (fun x=>!Fg x e) with
  | none=>rw [hf] at hr;simp only at hr;omega
  | some i =>
   rw [hf] at hr;simp only at hr;obtain ⟨hi,hp,hb⟩:=List.findIdx?_eq_some_iff_getElem.1 hf;obtain rfl:i=k:=Bl
   have:=Ud (l:=l) (e:=e) (k:=i) Bl (fun j hj gB=>by simpa using hb j gB) (fun h=>by simpa using hp)
   rw [this,List.append_assoc];rfl
theorem Nh (l:List Entry) (s:Sl) (e:Entry) (w:World) (hl:l.length<=900000) (h:RdL By w w s.v l) :
  Calls Am 274 #[Aa s.a s.n s.c,G6 e ()] w (Dv (Dt.list By) slV (Jk l e) w):=by
 obtain ⟨A,n,c⟩:=s;obtain rfl:n=l.length:=RdL.at1 (s:=⟨A,n,c⟩) h;obtain ⟨W,aH,E,B0⟩:=bx1 w 71 [J U e.prio,J U e.seq,J U e.run,J U e.task];have CI:=Br (Qm 303 w (fun x=>!Fg x e) (Nz func303 Bm Bm) l A l.length c _ Bl ((Jw h).below B0 |>.more B0.size) (fun W' x hW=>Af1 x e w W' (E.below hW)));have CC:=Br (fun W (hW:Below w w W)=>Md l ⟨A,l.length,c⟩ W Bl ((h.below hW).more hW.size));obtain ⟨k,hk,cU,hi⟩:=Agw l e;replace cU:=Br cU;have hEl:=E.lt;go_enter func274,ntmps274;go_wp2_with fail
 rw [<-aH.out];clear aH;refine CI.out.mono ?_;rintro e1 w1 ⟨rfl,b1⟩;replace E:=E.below b1;have B1:=Bv B0 b1;clear CI b1 B0;have vS:Hv (fun x=>!Fg x e) l = -1\/Hv (fun x=>!Fg x e) l=(k:Int):=hi.imp (·.1) (·.1);clear vS;rcases hi with ⟨hi,hke⟩ | ⟨hi,hklt⟩
 rw [hke] at cU;rw [hi];clear hi hk hke;have hk:=Bt l.length;rotate_left;rw [hi];have cE:¬ (k:Int)<0:=Bl;clear hi hklt;all_goals go_upto_region 4 with fail
 all_goals
  refine Go.wp_region_noPanic ?_;refine wp_region_held_drew (S:=fun w'=>DBox w [J U e.prio,J U e.seq,J U e.run,J U e.task] w') Bm (DBox.drew4 E) (fun hHeld=>?_);replace E:=DBox.drew4 E;have B2:=B1.drew;generalize w1.drew=w2 at *
  refine tY 0 ?_
  (try simp only [pS])
  refine tY 2 ?_
  (try simp only [pS])
  refine tY 3 ?_
  (try simp only [pS])
  have aR:=B2.size;have hEl2:=E.lt;refine Js 1 4 rfl rfl Bm (by rfl) (by rfl) (fun K_ hK=>?_) (fun K_ hK=>?_)
  ·go_simp;refine (CC.out w2 B2).mono ?_;rintro e3 w3 ⟨v3,rfl,o3,b3⟩;refine hK.out _ _ (E.below b3) (fun hHeld=>?_);clear hK K_
   (try simp only [pS])
   refine rC 4 (fun K_ hK=>?_);go_simp;have ba:Below w3 w3 (w3.alloc (.cells #[J U e.prio,J U e.seq,J U e.run,J U e.task] 71)):=Bu;have hx:(w3.alloc (.cells #[J U e.prio,J U e.seq,J U e.run,J U e.task] 71)).heap[w3.heap.size]? = Ac (.cells (Cz.cells e).toArray 71 (0,0)):=heap_alloc_new w3 _;have ow:=o3.within;replace o3:=o3.below ba;have B4:=Bv B2 (Bv b3 ba);have E4:=E.below (Bv b3 ba);have dG:w3.heap.size<(w3.alloc (.cells #[J U e.prio,J U e.seq,J U e.run,J U e.task] 71)).heap.size:=Bo;have cB:=b3.size;generalize w3.heap.size=xb at *
   generalize w3.alloc (.cells #[J U e.prio,J U e.seq,J U e.run,J U e.task] 71)=w4 at *
   refine hK.out _ _ E4 (fun hHeld=>?_);clear hK K_
   (try simp only [pS])
   refine rC 5 (fun K_ hK=>?_);go_simp;refine (Od v3 l _ xb e w2 w4 hk Bl o3 Bl hx (fun h=>by have:=(ow _ h).2;omega)).mono ?_;rintro e5 w5 ⟨v5,rfl,o5,g5,-⟩;rw [<-cU.out] at o5;have B5:Below w w w5:=B4.grown g5 B4.size (fun g hg=>by have:=(ow g hg).1;omega);refine hK.out _ _ (E4.off g5 (fun h=>by have:=(ow _ h.symm).1;omega)) (fun hHeld=>?_);clear hK K_
   (try simp only [pS])
   refine rC 6 (fun K_ hK=>?_);go_simp;refine hK.out _ _ hHeld (fun hHeld=>?_);clear hK K_
   (try simp only [pS])
   refine Al Bm ?_ _;refine NoPanic.normal ?_;obtain ⟨s9,F9,rfl,o9,n9⟩:=H7 (o5.more aR);go_wp2;go_ret;exact ⟨s9,F9,rfl,o9,n9,B5⟩
  ·go_simp;have ba:Below w2 w2 (w2.alloc (.cells #[J U e.prio,J U e.seq,J U e.run,J U e.task] 71)):=Bu;have hx:(w2.alloc (.cells #[J U e.prio,J U e.seq,J U e.run,J U e.task] 71)).heap[w2.heap.size]? = Ac (.cells (Cz.cells e).toArray 71 (0,0)):=heap_alloc_new w2 _;have B3:=Bv B2 ba;replace E:=E.below ba;have dG:w2.heap.size<(w2.alloc (.cells #[J U e.prio,J U e.seq,J U e.run,J U e.task] 71)).heap.size:=Bo;generalize w2.heap.size=xb at *
   generalize w2.alloc (.cells #[J U e.prio,J U e.seq,J U e.run,J U e.task] 71)=w3 at *
   refine hK.out _ _ E (fun hHeld=>?_);clear hK K_
   (try simp only [pS])
   refine rC 1 (fun K_ hK=>?_);go_simp;refine (CC.out w3 B3).mono ?_;rintro e3 w4 ⟨v3,rfl,o3,b4⟩;replace hx:=(b4.block xb dG).trans hx;have ow:=o3.within;have B4:=Bv B3 b4;have E4:=E.below b4;have sE:=B3.size;have hz4:=b4.size;refine hK.out _ _ E4 (fun hHeld=>?_);clear hK K_
   (try simp only [pS])
   refine rC 5 (fun K_ hK=>?_);go_simp;refine (Od v3 l _ xb e w3 w4 hk Bl o3 Bl hx (fun h=>by have:=(ow _ h).1;omega)).mono ?_;rintro e5 w5 ⟨v5,rfl,o5,g5,-⟩;rw [<-cU.out] at o5;have B5:Below w w w5:=B4.grown g5 B4.size (fun g hg=>by have:=(ow g hg).1;omega);refine hK.out _ _ (E4.off g5 (fun h=>by have:=(ow _ h.symm).1;omega)) (fun hHeld=>?_);clear hK K_
   (try simp only [pS])
   refine rC 6 (fun K_ hK=>?_);go_simp;refine hK.out _ _ hHeld (fun hHeld=>?_);clear hK K_
   (try simp only [pS])
   refine Al Bm ?_ _;refine NoPanic.normal ?_;obtain ⟨s9,F9,rfl,o9,n9⟩:=H7 (o5.more sE);go_wp2;go_ret;exact ⟨s9,F9,rfl,o9,n9,B5⟩
end Go.Proofs.YtecnbnbopcblgaaGreat
