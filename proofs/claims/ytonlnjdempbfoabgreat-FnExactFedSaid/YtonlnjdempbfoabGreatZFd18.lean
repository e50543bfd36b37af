/-
  Fed of the program and of the reference. Written by program (fed.py). The law FnExactFed: its walk, out of the contracts of what it calls. Written by program (l
-/
import Derived.Test.YtonlnjdempbfoabGreatZFd2
import Derived.Test.YtonlnjdempbfoabGreatZFd3
import Derived.Test.YtonlnjdempbfoabGreatZFd4
import Derived.Test.YtonlnjdempbfoabGreatZFd6
import Derived.Test.YtonlnjdempbfoabGreatZFd7
import Derived.Test.YtonlnjdempbfoabGreatZFd9
import Derived.Test.YtonlnjdempbfoabGreatZFd17
import Derived.Deep.RegionHeld3
namespace Go.Proofs.YtonlnjdempbfoabGreat
open Go.RowKit
set_option maxRecDepth 100000
set_option maxHeartbeats 4000000
set_option linter.unusedVariables false
set_option linter.unusedSimpArgs false
open Value renaming int->J,slice->Aa
open IntKind renaming i64->U
open Option renaming none->Ab,some->Ac
open Nat renaming le_trans->Ah
open Go renaming bodyPost_ret->Aj
open Go.Proofs.Tryz renaming prog->Am
open IntWalk renaming i64_in->Aq
open Go.Proofs.Tryz
section
def Aeg (l:List Note) (q:Int):Int:=if h:0<l.length then l[l.length - 1].seq else q
open Classical in
noncomputable def Hu (f:Follower) (l:List Note):Follower×Int :=
 if Dh f.yard/\(0<=f.seq/\f.seq<=1000000000) then (⟨Hy f.yard (Ea l f.seq),Aeg (Ea l f.seq) f.seq⟩,(Ea l f.seq).length) else (f,0)
theorem Tr {f:Follower} {l:List Note} (h:¬ (Dh f.yard/\(0<=f.seq/\f.seq<=1000000000))):Hu f l=(f,0):=by unfold Hu;rw [if_neg h]
theorem Ab7 {f:Follower} {l:List Note} (h:Dh f.yard) (h':inB f.seq 0 1000000000=true):Hu f l=((⟨Hy f.yard (Ea l f.seq),Aeg (Ea l f.seq) f.seq⟩:Follower),((Ea l f.seq).length:Int)):=by unfold Hu;rw [if_pos ⟨h,Cw.1 h'⟩]
def Ts (x:Follower×Int) (w:World) (e:Ending) (w':World):Prop :=
 ∃ s F,e = .returned (.tuple #[Gf x.1 s,J U x.2])/\By.ow w' F x.1 s/\(∀ b∈F,w<=b)/\Below w w w'
theorem DBox.row5 {b:Nat} {v0 v1 v2 v3 v4:Value} {w:World} (h:DBox b [v0,v1,v2,v3,v4] w) (u0 u1 u2 u3 u4:Value) :
  DBox b [u0,u1,u2,u3,u4] (((((w.setCell ⟨b,0,Ab⟩ u0).setCell ⟨b,1,Ab⟩ u1).setCell ⟨b,2,Ab⟩ u2).setCell ⟨b,3,Ab⟩ u3).setCell ⟨b,4,Ab⟩ u4) :=
 ((((h.set 0 Bn u0).set 1 Bn u1).set 2 Bn u2).set 3 Bn u3).set 4 Bn u4
theorem DBox.row54 {b:Nat} {v0 v1 v2 v3 v4:Value} {w:World} (h:DBox b [v0,v1,v2,v3,v4] w) (u0 u1 u2 u3:Value) :
  DBox b [u0,u1,u2,u3,v4] ((((w.setCell ⟨b,0,Ab⟩ u0).setCell ⟨b,1,Ab⟩ u1).setCell ⟨b,2,Ab⟩ u2).setCell ⟨b,3,Ab⟩ u3) :=
 (((h.set 0 Bn u0).set 1 Bn u1).set 2 Bn u2).set 3 Bn u3
theorem Ya {l:List Note} {q:Int} (h:0<l.length):Aeg l q=l[l.length - 1].seq:=dif_pos h
theorem Ab8 {l:List Note} {q:Int} (h:¬ 0<l.length):Aeg l q=q:=dif_neg h
theorem Agi {y:Yard} {l:List Note} (h:¬ 0<l.length):Hy y l=y:=by cases l with | nil=>rfl | cons x l=>simp at h
theorem Chg.cells5 (w:World) (b i j k l m:Nat) (u0 u1 u2 u3 u4:Value):Chg [b] w (((((w.setCell ⟨b,i,Ab⟩ u0).setCell ⟨b,j,Ab⟩ u1).setCell ⟨b,k,Ab⟩ u2).setCell ⟨b,l,Ab⟩ u3).setCell ⟨b,m,Ab⟩ u4) :=
 (Chg.cells4 w b i j k l u0 u1 u2 u3).trans (Chg.setCell _ b m u4)
theorem Q8 {b:Nat} {w:World} {u0 u1 u2 u3 u4 n:Value} (X:DBox b [u0,u1,u2,u3,u4] w) {v0 v1 v2 v3:Value} {rest:List Value} :
  (results Tryz.f35 (v0 :: v1 :: v2 :: v3 :: .pointer (Ac ⟨b,0,Ab⟩) :: n :: rest).toArray).run Am w = .ok (.tuple #[.agg #[u0,u1,u2,u3,u4],n]) w:=by
 have c0:=X.cell 0 _ rfl;have c1:=X.cell 1 _ rfl;have c2:=X.cell 2 _ rfl;have c3:=X.cell 3 _ rfl;have c4:=X.cell 4 _ rfl;simp [results,results35,go_sem,c0,c1,c2,c3,c4]
theorem Ab9 (f:Follower) (s:Sl×Sl) (l:List Note) (sl:Sl) (w:World) (hc:Dy f<=2000000) (hl:D8 Cz l<=2000000) (hw:∀ x∈l,x.seq<=9223372036854775807) (hf:By.rd w w f s) (h:RdL Ct w w sl.v l) :
  Calls Am 35 #[Gf f s,Aa sl.a sl.n sl.c] w (Ts (Hu f l) w):=by
 obtain ⟨y,q⟩:=f;obtain ⟨⟨A1,n1,c1⟩,⟨A2,n2,c2⟩⟩:=s;obtain ⟨A,n,c⟩:=sl;obtain rfl:n=l.length:=RdL.at1 (s:=⟨A,n,c⟩) h;replace hc:Ca y<=2000000:=hc;have HR:=Bq (show ∀ W,Below w w W->Bv.rd W W y (⟨A1,n1,c1⟩,⟨A2,n2,c2⟩) from fun W hW=>Bv.rd_more (Bv.rd_below (x:=y) hf hW) hW.size);have CC:=Bq (fun W (hW:Below w w W)=>Ev y (⟨A1,n1,c1⟩,⟨A2,n2,c2⟩) W hc (HR.out W hW));have CY:=Bq (fun W (hW:Below w w W)=>Fw y (⟨A1,n1,c1⟩,⟨A2,n2,c2⟩) W hc (HR.out W hW));have CS:=Bq (fun W (hW:Below w w W) (hq:0<=q/\q<=9223372036854775807)=>Wv l ⟨A,l.length,c⟩ q W hl hq hw ((h.below hW).more hW.size));have CR:=Bq (fun W (hW:Below w w W) (sl:Sl) (hr:RdL Ct W W sl.v (Ea l q))=>V8 y (⟨A1,n1,c1⟩,⟨A2,n2,c2⟩) (Ea l q) sl W hc (Ah (Lj l q) hl) (HR.out W hW) hr);have kR:Hid ((Ea l q).length<=2000000):=Ah (Cj Cz _) (Ah (Lj l q) hl);clear hf h;obtain ⟨W,aH,X,RES,B0⟩:=bx2 w 73 [J U y.now,J U y.seq,Aa A1 n1 c1,Aa A2 n2 c2,J U q] 73 [J U 0,J U 0,Aa Ab 0 0,Aa Ab 0 0,J U 0];go_enter func35,ntmps35;go_upto_region 1 with fail
 rw [<-aH.out];clear aH;have bd:Below W W W.drew:=(Br _ _).drew;replace X:=X.below bd;refine Go.wp_region_noPanic ?_;refine wp_region_held_drew (S:=fun w'=>DBox w [J U y.now,J U y.seq,Aa A1 n1 c1,Aa A2 n2 c2,J U q] w') Bm X (fun hHeld=>?_);replace RES:=RES.below bd;replace B0:=Bu B0 bd;clear bd;generalize W.drew=W at *
 refine tY 0 ?_
 (try simp only [pS])
 refine tY 1 ?_
 (try simp only [pS])
 refine tY 3 ?_
 (try simp only [pS])
 refine tY 4 ?_
 (try simp only [pS])
 refine Qk 2 6 rfl rfl Bm (by rfl) (by rfl) (fun K_ hK=>?_) (fun K_ hK=>?_);focus
  go_simp;refine (CC.out _ B0).mono ?_;rintro e1 w1 ⟨⟨⟨B1,m1,e1⟩,⟨B2,m2,e2⟩⟩,F,rfl,oy,nF,b1⟩;replace oy:Bv.ow w1 F y (⟨B1,m1,e1⟩,⟨B2,m2,e2⟩):=oy;have cE:=Bv.ow_lt (F:=F) (x:=y) (s:=(⟨B1,m1,e1⟩,⟨B2,m2,e2⟩)) oy;have dP:=RES.lt;replace X:=X.below b1;replace RES:=RES.below b1;replace B0:=Bu B0 b1;have hF:Hid (∀ x∈F,w+1<x/\x<w1):=fun x hx=>⟨by have:=nF x hx;omega,cE x hx⟩
  clear nF cE b1;refine hK.out _ _ X (fun hHeld=>?_);clear hK K_
  (try simp only [pS])
  refine tY 5 ?_
  (try simp only [pS])
  refine rC 6 (fun K_ hK=>?_);go_simp;obtain ⟨g6,jV⟩:∃ g,g=w1.heap.size:=⟨_,rfl⟩
  have UB:DBox g6 [J U 0,J U 0,Aa Ab 0 0,Aa Ab 0 0,J U 0] (w1.alloc (.cells #[J U 0,J U 0,Aa Ab 0 0,Aa Ab 0 0,J U 0] 73)):=DBox.new 73 _ w1 (b:=g6) jV;have ba:Below w1 w1 (w1.alloc (.cells #[J U 0,J U 0,Aa Ab 0 0,Aa Ab 0 0,J U 0] 73)):=Bt;have gn6:w+1<g6:=by have:=RES.lt;omega
  rw [<-jV];replace X:=X.below ba;replace RES:=RES.below ba;replace B0:=Bu B0 ba;replace oy:Bv.ow _ F y (⟨B1,m1,e1⟩,⟨B2,m2,e2⟩):=owB oy ba;have dG:Hid (∀ x∈F,w+1<x/\x≠g6):=fun x hx=>⟨(hF.out x hx).1,fun e=>by have:=(hF.out x hx).2;omega⟩
  clear hF ba jV;generalize w1.alloc (.cells #[J U 0,J U 0,Aa Ab 0 0,Aa Ab 0 0,J U 0] 73)=w2 at *
  refine hK.out _ _ X (fun hHeld=>?_);clear hK K_
  (try simp only [pS])
  have UB_:=UB.g5;have ubf:=UB.free;refine rC 7 (fun K_ hK=>?_);go_simp
 rotate_left;focus
  go_simp;obtain ⟨g6,jV⟩:∃ g,g=W.heap.size:=⟨_,rfl⟩
  have UB:DBox g6 [J U 0,J U 0,Aa Ab 0 0,Aa Ab 0 0,J U 0] (W.alloc (.cells #[J U 0,J U 0,Aa Ab 0 0,Aa Ab 0 0,J U 0] 73)):=DBox.new 73 _ W (b:=g6) jV;have ba:Below W W (W.alloc (.cells #[J U 0,J U 0,Aa Ab 0 0,Aa Ab 0 0,J U 0] 73)):=Bt;have gn6:w+1<g6:=by have:=RES.lt;omega
  rw [<-jV];replace X:=X.below ba;replace RES:=RES.below ba;replace B0:=Bu B0 ba;have tB:=UB.lt;clear ba jV;generalize W.alloc (.cells #[J U 0,J U 0,Aa Ab 0 0,Aa Ab 0 0,J U 0] 73)=W at *
  refine hK.out _ _ X (fun hHeld=>?_);clear hK K_
  (try simp only [pS])
  refine rC 2 (fun K_ hK=>?_);go_simp;refine (CC.out _ B0).mono ?_;rintro e1 w1 ⟨⟨⟨B1,m1,e1⟩,⟨B2,m2,e2⟩⟩,F,rfl,oy,nF,b1⟩;replace oy:Bv.ow w1 F y (⟨B1,m1,e1⟩,⟨B2,m2,e2⟩):=oy;have cE:=Bv.ow_lt (F:=F) (x:=y) (s:=(⟨B1,m1,e1⟩,⟨B2,m2,e2⟩)) oy;have dP:=RES.lt;replace X:=X.below b1;replace RES:=RES.below b1;replace B0:=Bu B0 b1;have dG:Hid (∀ x∈F,w+1<x/\x≠g6):=fun x hx=>by have:=nF x hx;omega
  replace UB:=UB.below b1;clear nF cE b1 tB;rename World=>w2;refine hK.out _ _ X (fun hHeld=>?_);clear hK K_
  (try simp only [pS])
  refine tY 5 ?_
  (try simp only [pS])
  have UB_:=UB.g5;have ubf:=UB.free;refine rC 7 (fun K_ hK=>?_);go_simp
 all_goals
  have UB3:=UB.row5 (J U y.now) (J U y.seq) (Aa B1 m1 e1) (Aa B2 m2 e2) (J U q);have cN:=Chg.cells5 w2 g6 0 1 2 3 4 (J U y.now) (J U y.seq) (Aa B1 m1 e1) (Aa B2 m2 e2) (J U q);have aS:=Bq (show ∀ x,x∈[g6]->x=g6 from fun x hx=>by simpa using hx);have bR:=Bq (show ∀ x,x∈[w.heap.size+1]->x=w.heap.size+1 from fun x hx=>by simpa using hx);replace X:=X.chg cN (fun hx=>by have:=aS.out _ hx;omega);replace RES:=RES.chg cN (fun hx=>by have:=aS.out _ hx;omega);replace oy:Bv.ow _ F y (⟨B1,m1,e1⟩,⟨B2,m2,e2⟩):=owC oy cN (fun x hx hx2=>(dG.out x hx).2 (aS.out x hx2));replace B0:=B0.trans (cN.below (by have:=B0.size;omega) (fun x hx=>by have:=aS.out x hx;omega));clear cN UB UB_ ubf;have UB:=UB3;clear UB3;generalize ((((w2.setCell ⟨g6,0,Ab⟩ (J U y.now)).setCell ⟨g6,1,Ab⟩ (J U y.seq)).setCell ⟨g6,2,Ab⟩ (Aa B1 m1 e1)).setCell ⟨g6,3,Ab⟩ (Aa B2 m2 e2)).setCell ⟨g6,4,Ab⟩ (J U q)=w3 at *
  refine hK.out _ _ X (fun hHeld=>?_);clear hK K_ hHeld
  (try simp only [pS])
  refine wpAnyH_done Bm ?_ _;refine NoPanic.normal ?_;have X_:=X.g5;go_wp2_with fail
  refine (CY.out _ B0).mono ?_;rintro e4 w4 ⟨rfl,b4⟩;clear X_ CY CC;replace X:=X.below b4;replace RES:=RES.below b4;replace UB:=UB.below b4;replace oy:Bv.ow _ F y (⟨B1,m1,e1⟩,⟨B2,m2,e2⟩):=owB oy b4;replace B0:=Bu B0 b4;clear b4;have X_:=X.g5;have UB_:=UB.g5;have RES_:=RES.g5;have rf:=RES.free;by_cases p1:Dh y;case neg =>
   have H:=Bq (Tr (f:=⟨y,q⟩) (l:=l) (fun h=>p1 h.1));rw [Ci p1];clear p1;go_wp2;have en:w.heap.size+1∉F:=fun hx=>by have:=(dG.out _ hx).1;omega
   have cU:=Chg.cells5 w4 (w+1) 0 1 2 3 4 (J U y.now) (J U y.seq) (Aa B1 m1 e1) (Aa B2 m2 e2) (J U q);refine Aj (Q8 (RES.row5 _ _ _ _ _)) rfl ?_;rw [H.out];exact ⟨(⟨B1,m1,e1⟩,⟨B2,m2,e2⟩),F,rfl,Bv.ow_chg (F:=F) (x:=y) (s:=(⟨B1,m1,e1⟩,⟨B2,m2,e2⟩)) oy cU (fun x hx hx2=>en (by rw [<-bR.out x hx2];exact hx)),fun x hx=>by have:=(dG.out x hx).1;omega,B0.trans (cU.below (by have:=B0.size;omega) (fun x hx=>by have:=bR.out x hx;omega))⟩
  rw [Dp p1];cases a1:inB q 0 1000000000;case false =>
   have H:=Bq (Tr (f:=⟨y,q⟩) (l:=l) (fun h=>by have:=Cw.2 h.2;rw [a1] at this;cases this));clear p1;go_wp2_with (go_at_call 56;refine (Co _ _ _ _).mono ?_;rintro e w9 ⟨rfl,rfl⟩)
   have en:w.heap.size+1∉F:=fun hx=>by have:=(dG.out _ hx).1;omega
   have cU:=Chg.cells5 w4 (w+1) 0 1 2 3 4 (J U y.now) (J U y.seq) (Aa B1 m1 e1) (Aa B2 m2 e2) (J U q);refine Aj (Q8 (RES.row5 _ _ _ _ _)) rfl ?_;rw [H.out];exact ⟨(⟨B1,m1,e1⟩,⟨B2,m2,e2⟩),F,rfl,Bv.ow_chg (F:=F) (x:=y) (s:=(⟨B1,m1,e1⟩,⟨B2,m2,e2⟩)) oy cU (fun x hx hx2=>en (by rw [<-bR.out x hx2];exact hx)),fun x hx=>by have:=(dG.out x hx).1;omega,B0.trans (cU.below (by have:=B0.size;omega) (fun x hx=>by have:=bR.out x hx;omega))⟩
  have H:=Bq (Ab7 (f:=⟨y,q⟩) (l:=l) p1 a1);have CS1:=Bq (CS.out _ B0 (by have:=Cw.1 a1;omega));clear p1 CS;dsimp only at H;generalize Ea l q=S at *
  go_wp2_with (go_at_call 56;refine (Co _ _ _ _).mono ?_;rintro e w9 ⟨rfl,rfl⟩)
  refine CS1.out.mono ?_;rintro e5 w5 ⟨⟨A5,n5,c5⟩,F5,he,oS,nF5,b5⟩;replace he:e5 = .returned (Aa A5 n5 c5):=he;subst he;replace oS:OwL Ct w5 F5 (Aa A5 n5 c5) S:=oS;obtain rfl:n5=S.length:=RdL.at1 (s:=⟨A5,n5,c5⟩) oS.rd;have hg4:=UB.lt;have rN:Hid (∀ x∈F5,g6<x):=fun x hx=>by have:=nF5 x hx;omega
  clear X_ UB_ RES_ rf CS1 nF5;replace X:=X.below b5;replace RES:=RES.below b5;replace UB:=UB.below b5;replace oy:Bv.ow _ F y (⟨B1,m1,e1⟩,⟨B2,m2,e2⟩):=owB oy b5;replace B0:=Bu B0 b5;clear b5;have X_:=X.g5;have hSl:=kR.out;have CR1:=Bq (CR.out _ B0 ⟨A5,S.length,c5⟩ oS.rd);clear CR;go_wp2_with fail
  refine CR1.out.mono ?_;rintro e6 w6 ⟨⟨⟨B3,m3,e3⟩,⟨B4,m4,e4⟩⟩,F6,rfl,oz,nF6,b6⟩;replace oz:Bv.ow w6 F6 (Hy y S) (⟨B3,m3,e3⟩,⟨B4,m4,e4⟩):=oz;have hg5:=UB.lt;have hR5:=RES.lt;have nN:Hid (∀ x∈F6,w+1<x/\x≠g6):=fun x hx=>by have:=nF6 x hx;omega
  clear X_ CR1 nF6 oy dG X;replace RES:=RES.below b6;replace UB:=UB.below b6;replace oS:=oS.below b6;replace B0:=Bu B0 b6;clear b6;generalize Hy y S=Z at *
  have UB_:=UB.g5;have ubf:=UB.free;go_upto_region 6 with fail
  have UB3:=UB.row54 (J U Z.now) (J U Z.seq) (Aa B3 m3 e3) (Aa B4 m4 e4);have dD:=Chg.cells4 w6 g6 0 1 2 3 (J U Z.now) (J U Z.seq) (Aa B3 m3 e3) (Aa B4 m4 e4);replace RES:=RES.chg dD (fun hx=>by have:=aS.out _ hx;omega);replace oz:Bv.ow _ F6 Z (⟨B3,m3,e3⟩,⟨B4,m4,e4⟩):=owC oz dD (fun x hx hx2=>(nN.out x hx).2 (aS.out x hx2));replace oS:=oS.chg dD (fun x hx hx2=>by have:=rN.out x hx;have:=aS.out x hx2;omega);replace B0:=B0.trans (dD.below (by have:=B0.size;omega) (fun x hx=>by have:=aS.out x hx;omega));clear dD UB UB_ ubf;have UB:=UB3;clear UB3;generalize (((w6.setCell ⟨g6,0,Ab⟩ (J U Z.now)).setCell ⟨g6,1,Ab⟩ (J U Z.seq)).setCell ⟨g6,2,Ab⟩ (Aa B3 m3 e3)).setCell ⟨g6,3,Ab⟩ (Aa B4 m4 e4)=w7 at *
  by_cases hp:0<S.length
  ·have hpI:(0:Int)<(S.length:Int):=Bl;have hL:=Bq (Ya (q:=q) hp);obtain ⟨bN,oN,sN,rfl,hbN,-,k0,-⟩:=(show RdL Ct w7 w7.heap.size (Aa A5 S.length c5) S from oS.rd).note (k:=S.length - 1) Bl;have wl:U.wrap ((S.length:Int) - 1)=((S.length - 1:Nat):Int):=by rw [Aq _ Bl];omega
   have aR:(0:Int)<=((S.length - 1:Nat):Int):=Bl;have hiL:((S.length - 1:Nat):Int)<(S.length:Int):=Bl;generalize S[S.length - 1]=N at *
   generalize S.length - 1=kN at *
   have UB_:=UB.g5;have ubf:=UB.free;go_upto_region 8 with fail
   have UB3:=UB.set 4 Bn (J U N.seq);have dI:=Chg.setCell w7 g6 4 (J U N.seq);replace RES:=RES.chg dI (fun hx=>by have:=aS.out _ hx;omega);replace oz:Bv.ow _ F6 Z (⟨B3,m3,e3⟩,⟨B4,m4,e4⟩):=owC oz dI (fun x hx hx2=>(nN.out x hx).2 (aS.out x hx2));replace B0:=B0.trans (dI.below (by have:=B0.size;omega) (fun x hx=>by have:=aS.out x hx;omega));clear dI UB_ ubf;replace UB:DBox g6 [J U Z.now,J U Z.seq,Aa B3 m3 e3,Aa B4 m4 e4,J U N.seq] (w7.setCell ⟨g6,4,Ab⟩ (J U N.seq)):=UB3;clear UB3;generalize w7.setCell ⟨g6,4,Ab⟩ (J U N.seq)=w8 at *
   have UB_:=UB.g5;have RES_:=RES.g5;have rf:=RES.free;go_wp2;have en:w.heap.size+1∉F6:=fun hx=>by have:=(nN.out _ hx).1;omega
   have cU:=Chg.cells5 w8 (w+1) 0 1 2 3 4 (J U Z.now) (J U Z.seq) (Aa B3 m3 e3) (Aa B4 m4 e4) (J U N.seq);refine Aj (Q8 (RES.row5 _ _ _ _ _)) rfl ?_;rw [H.out,hL.out];exact ⟨(⟨B3,m3,e3⟩,⟨B4,m4,e4⟩),F6,rfl,Bv.ow_chg (F:=F6) (x:=Z) (s:=(⟨B3,m3,e3⟩,⟨B4,m4,e4⟩)) oz cU (fun x hx hx2=>en (by rw [<-bR.out x hx2];exact hx)),fun x hx=>by have:=(nN.out x hx).1;omega,B0.trans (cU.below (by have:=B0.size;omega) (fun x hx=>by have:=bR.out x hx;omega))⟩
  ·have hpI:¬ (0:Int)<(S.length:Int):=Bl;have hL:=Bq (Ab8 (q:=q) hp);have UB_:=UB.g5;have RES_:=RES.g5;have rf:=RES.free;go_wp2;have en:w.heap.size+1∉F6:=fun hx=>by have:=(nN.out _ hx).1;omega
   have cU:=Chg.cells5 w7 (w+1) 0 1 2 3 4 (J U Z.now) (J U Z.seq) (Aa B3 m3 e3) (Aa B4 m4 e4) (J U q);refine Aj (Q8 (RES.row5 _ _ _ _ _)) rfl ?_;rw [H.out,hL.out];exact ⟨(⟨B3,m3,e3⟩,⟨B4,m4,e4⟩),F6,rfl,Bv.ow_chg (F:=F6) (x:=Z) (s:=(⟨B3,m3,e3⟩,⟨B4,m4,e4⟩)) oz cU (fun x hx hx2=>en (by rw [<-bR.out x hx2];exact hx)),fun x hx=>by have:=(nN.out x hx).1;omega,B0.trans (cU.below (by have:=B0.size;omega) (fun x hx=>by have:=bR.out x hx;omega))⟩
theorem Q9 {b:Nat} {w:World} {u0 u1 u2 u3 u4 n:Value} (X:DBox b [u0,u1,u2,u3,u4] w) {v0 v1 v2 v3:Value} {rest:List Value} :
  (results Tryz.f32 (v0 :: v1 :: v2 :: v3 :: .pointer (Ac ⟨b,0,Ab⟩) :: n :: rest).toArray).run Am w = .ok (.tuple #[.agg #[u0,u1,u2,u3,u4],n]) w:=by
 have c0:=X.cell 0 _ rfl;have c1:=X.cell 1 _ rfl;have c2:=X.cell 2 _ rfl;have c3:=X.cell 3 _ rfl;have c4:=X.cell 4 _ rfl;simp [results,results32,go_sem,c0,c1,c2,c3,c4]
theorem Aca (f:Follower) (s:Sl×Sl) (l:List Note) (sl:Sl) (w:World) (hc:Dy f<=2000000) (hl:D8 Cz l<=2000000) (hw:∀ x∈l,x.seq<=9223372036854775807) (hf:By.rd w w f s) (h:RdL Ct w w sl.v l) :
  Calls Am 32 #[Gf f s,Aa sl.a sl.n sl.c] w (Ts (Hu f l) w):=by
 obtain ⟨y,q⟩:=f;obtain ⟨⟨A1,n1,c1⟩,⟨A2,n2,c2⟩⟩:=s;obtain ⟨A,n,c⟩:=sl;obtain rfl:n=l.length:=RdL.at1 (s:=⟨A,n,c⟩) h;replace hc:Ca y<=2000000:=hc;have HR:=Bq (show ∀ W,Below w w W->Bv.rd W W y (⟨A1,n1,c1⟩,⟨A2,n2,c2⟩) from fun W hW=>Bv.rd_more (Bv.rd_below (x:=y) hf hW) hW.size);have CC:=Bq (fun W (hW:Below w w W)=>El y (⟨A1,n1,c1⟩,⟨A2,n2,c2⟩) W hc (HR.out W hW));have CY:=Bq (fun W (hW:Below w w W)=>Fz y (⟨A1,n1,c1⟩,⟨A2,n2,c2⟩) W hc (HR.out W hW));have CS:=Bq (fun W (hW:Below w w W) (hq:0<=q/\q<=9223372036854775807)=>Ww l ⟨A,l.length,c⟩ q W hl hq hw ((h.below hW).more hW.size));have CR:=Bq (fun W (hW:Below w w W) (sl:Sl) (hr:RdL Ct W W sl.v (Ea l q))=>V9 y (⟨A1,n1,c1⟩,⟨A2,n2,c2⟩) (Ea l q) sl W hc (Ah (Lj l q) hl) (HR.out W hW) hr);have kR:Hid ((Ea l q).length<=2000000):=Ah (Cj Cz _) (Ah (Lj l q) hl);clear hf h;obtain ⟨W,aH,X,RES,B0⟩:=bx2 w 73 [J U y.now,J U y.seq,Aa A1 n1 c1,Aa A2 n2 c2,J U q] 73 [J U 0,J U 0,Aa Ab 0 0,Aa Ab 0 0,J U 0];go_enter func32,ntmps32;go_upto_region 1 with fail
 rw [<-aH.out];clear aH;have bd:Below W W W.drew:=(Br _ _).drew;replace X:=X.below bd;refine Go.wp_region_noPanic ?_;refine wp_region_held_drew (S:=fun w'=>DBox w [J U y.now,J U y.seq,Aa A1 n1 c1,Aa A2 n2 c2,J U q] w') Bm X (fun hHeld=>?_);replace RES:=RES.below bd;replace B0:=Bu B0 bd;clear bd;generalize W.drew=W at *
 refine tY 0 ?_
 (try simp only [pS])
 refine tY 1 ?_
 (try simp only [pS])
 refine tY 3 ?_
 (try simp only [pS])
 refine tY 4 ?_
 (try simp only [pS])
 refine Qk 2 6 rfl rfl Bm (by rfl) (by rfl) (fun K_ hK=>?_) (fun K_ hK=>?_);focus
  go_simp;refine (CC.out _ B0).mono ?_;rintro e1 w1 ⟨⟨⟨B1,m1,e1⟩,⟨B2,m2,e2⟩⟩,F,rfl,oy,nF,b1⟩;replace oy:Bv.ow w1 F y (⟨B1,m1,e1⟩,⟨B2,m2,e2⟩):=oy;have cE:=Bv.ow_lt (F:=F) (x:=y) (s:=(⟨B1,m1,e1⟩,⟨B2,m2,e2⟩)) oy;have dP:=RES.lt;replace X:=X.below b1;replace RES:=RES.below b1;replace B0:=Bu B0 b1;have hF:Hid (∀ x∈F,w+1<x/\x<w1):=fun x hx=>⟨by have:=nF x hx;omega,cE x hx⟩
  clear nF cE b1;refine hK.out _ _ X (fun hHeld=>?_);clear hK K_
  (try simp only [pS])
  refine tY 5 ?_
  (try simp only [pS])
  refine rC 6 (fun K_ hK=>?_);go_simp;obtain ⟨g6,jV⟩:∃ g,g=w1.heap.size:=⟨_,rfl⟩
  have UB:DBox g6 [J U 0,J U 0,Aa Ab 0 0,Aa Ab 0 0,J U 0] (w1.alloc (.cells #[J U 0,J U 0,Aa Ab 0 0,Aa Ab 0 0,J U 0] 73)):=DBox.new 73 _ w1 (b:=g6) jV;have ba:Below w1 w1 (w1.alloc (.cells #[J U 0,J U 0,Aa Ab 0 0,Aa Ab 0 0,J U 0] 73)):=Bt;have gn6:w+1<g6:=by have:=RES.lt;omega
  rw [<-jV];replace X:=X.below ba;replace RES:=RES.below ba;replace B0:=Bu B0 ba;replace oy:Bv.ow _ F y (⟨B1,m1,e1⟩,⟨B2,m2,e2⟩):=owB oy ba;have dG:Hid (∀ x∈F,w+1<x/\x≠g6):=fun x hx=>⟨(hF.out x hx).1,fun e=>by have:=(hF.out x hx).2;omega⟩
  clear hF ba jV;generalize w1.alloc (.cells #[J U 0,J U 0,Aa Ab 0 0,Aa Ab 0 0,J U 0] 73)=w2 at *
  refine hK.out _ _ X (fun hHeld=>?_);clear hK K_
  (try simp only [pS])
  have UB_:=UB.g5;have ubf:=UB.free;refine rC 7 (fun K_ hK=>?_);go_simp
 rotate_left;focus
  go_simp;obtain ⟨g6,jV⟩:∃ g,g=W.heap.size:=⟨_,rfl⟩
  have UB:DBox g6 [J U 0,J U 0,Aa Ab 0 0,Aa Ab 0 0,J U 0] (W.alloc (.cells #[J U 0,J U 0,Aa Ab 0 0,Aa Ab 0 0,J U 0] 73)):=DBox.new 73 _ W (b:=g6) jV;have ba:Below W W (W.alloc (.cells #[J U 0,J U 0,Aa Ab 0 0,Aa Ab 0 0,J U 0] 73)):=Bt;have gn6:w+1<g6:=by have:=RES.lt;omega
  rw [<-jV];replace X:=X.below ba;replace RES:=RES.below ba;replace B0:=Bu B0 ba;have tB:=UB.lt;clear ba jV;generalize W.alloc (.cells #[J U 0,J U 0,Aa Ab 0 0,Aa Ab 0 0,J U 0] 73)=W at *
  refine hK.out _ _ X (fun hHeld=>?_);clear hK K_
  (try simp only [pS])
  refine rC 2 (fun K_ hK=>?_);go_simp;refine (CC.out _ B0).mono ?_;rintro e1 w1 ⟨⟨⟨B1,m1,e1⟩,⟨B2,m2,e2⟩⟩,F,rfl,oy,nF,b1⟩;replace oy:Bv.ow w1 F y (⟨B1,m1,e1⟩,⟨B2,m2,e2⟩):=oy;have cE:=Bv.ow_lt (F:=F) (x:=y) (s:=(⟨B1,m1,e1⟩,⟨B2,m2,e2⟩)) oy;have dP:=RES.lt;replace X:=X.below b1;replace RES:=RES.below b1;replace B0:=Bu B0 b1;have dG:Hid (∀ x∈F,w+1<x/\x≠g6):=fun x hx=>by have:=nF x hx;omega
  replace UB:=UB.below b1;clear nF cE b1 tB;rename World=>w2;refine hK.out _ _ X (fun hHeld=>?_);clear hK K_
  (try simp only [pS])
  refine tY 5 ?_
  (try simp only [pS])
  have UB_:=UB.g5;have ubf:=UB.free;refine rC 7 (fun K_ hK=>?_);go_simp
 all_goals
  have UB3:=UB.row5 (J U y.now) (J U y.seq) (Aa B1 m1 e1) (Aa B2 m2 e2) (J U q);have cN:=Chg.cells5 w2 g6 0 1 2 3 4 (J U y.now) (J U y.seq) (Aa B1 m1 e1) (Aa B2 m2 e2) (J U q);have aS:=Bq (show ∀ x,x∈[g6]->x=g6 from fun x hx=>by simpa using hx);have bR:=Bq (show ∀ x,x∈[w.heap.size+1]->x=w.heap.size+1 from fun x hx=>by simpa using hx);replace X:=X.chg cN (fun hx=>by have:=aS.out _ hx;omega);replace RES:=RES.chg cN (fun hx=>by have:=aS.out _ hx;omega);replace oy:Bv.ow _ F y (⟨B1,m1,e1⟩,⟨B2,m2,e2⟩):=owC oy cN (fun x hx hx2=>(dG.out x hx).2 (aS.out x hx2));replace B0:=B0.trans (cN.below (by have:=B0.size;omega) (fun x hx=>by have:=aS.out x hx;omega));clear cN UB UB_ ubf;have UB:=UB3;clear UB3;generalize ((((w2.setCell ⟨g6,0,Ab⟩ (J U y.now)).setCell ⟨g6,1,Ab⟩ (J U y.seq)).setCell ⟨g6,2,Ab⟩ (Aa B1 m1 e1)).setCell ⟨g6,3,Ab⟩ (Aa B2 m2 e2)).setCell ⟨g6,4,Ab⟩ (J U q)=w3 at *
  refine hK.out _ _ X (fun hHeld=>?_);clear hK K_ hHeld
  (try simp only [pS])
  refine wpAnyH_done Bm ?_ _;refine NoPanic.normal ?_;have X_:=X.g5;go_wp2_with fail
  refine (CY.out _ B0).mono ?_;rintro e4 w4 ⟨rfl,b4⟩;clear X_ CY CC;replace X:=X.below b4;replace RES:=RES.below b4;replace UB:=UB.below b4;replace oy:Bv.ow _ F y (⟨B1,m1,e1⟩,⟨B2,m2,e2⟩):=owB oy b4;replace B0:=Bu B0 b4;clear b4;have X_:=X.g5;have UB_:=UB.g5;have RES_:=RES.g5;have rf:=RES.free;by_cases p1:Dh y;case neg =>
   have H:=Bq (Tr (f:=⟨y,q⟩) (l:=l) (fun h=>p1 h.1));rw [Ci p1];clear p1;go_wp2;have en:w.heap.size+1∉F:=fun hx=>by have:=(dG.out _ hx).1;omega
   have cU:=Chg.cells5 w4 (w+1) 0 1 2 3 4 (J U y.now) (J U y.seq) (Aa B1 m1 e1) (Aa B2 m2 e2) (J U q);refine Aj (Q9 (RES.row5 _ _ _ _ _)) rfl ?_;rw [H.out];exact ⟨(⟨B1,m1,e1⟩,⟨B2,m2,e2⟩),F,rfl,Bv.ow_chg (F:=F) (x:=y) (s:=(⟨B1,m1,e1⟩,⟨B2,m2,e2⟩)) oy cU (fun x hx hx2=>en (by rw [<-bR.out x hx2];exact hx)),fun x hx=>by have:=(dG.out x hx).1;omega,B0.trans (cU.below (by have:=B0.size;omega) (fun x hx=>by have:=bR.out x hx;omega))⟩
  rw [Dp p1];cases a1:inB q 0 1000000000;case false =>
   have H:=Bq (Tr (f:=⟨y,q⟩) (l:=l) (fun h=>by have:=Cw.2 h.2;rw [a1] at this;cases this));clear p1;go_wp2_with (go_at_call 84;refine (Cr _ _).mono ?_;rintro e w9 ⟨rfl,rfl⟩)
   have en:w.heap.size+1∉F:=fun hx=>by have:=(dG.out _ hx).1;omega
   have cU:=Chg.cells5 w4 (w+1) 0 1 2 3 4 (J U y.now) (J U y.seq) (Aa B1 m1 e1) (Aa B2 m2 e2) (J U q);refine Aj (Q9 (RES.row5 _ _ _ _ _)) rfl ?_;rw [H.out];exact ⟨(⟨B1,m1,e1⟩,⟨B2,m2,e2⟩),F,rfl,Bv.ow_chg (F:=F) (x:=y) (s:=(⟨B1,m1,e1⟩,⟨B2,m2,e2⟩)) oy cU (fun x hx hx2=>en (by rw [<-bR.out x hx2];exact hx)),fun x hx=>by have:=(dG.out x hx).1;omega,B0.trans (cU.below (by have:=B0.size;omega) (fun x hx=>by have:=bR.out x hx;omega))⟩
  have H:=Bq (Ab7 (f:=⟨y,q⟩) (l:=l) p1 a1);have CS1:=Bq (CS.out _ B0 (by have:=Cw.1 a1;omega));clear p1 CS;dsimp only at H;generalize Ea l q=S at *
  go_wp2_with (go_at_call 84;refine (Cr _ _).mono ?_;rintro e w9 ⟨rfl,rfl⟩)
  refine CS1.out.mono ?_;rintro e5 w5 ⟨⟨A5,n5,c5⟩,F5,he,oS,nF5,b5⟩;replace he:e5 = .returned (Aa A5 n5 c5):=he;subst he;replace oS:OwL Ct w5 F5 (Aa A5 n5 c5) S:=oS;obtain rfl:n5=S.length:=RdL.at1 (s:=⟨A5,n5,c5⟩) oS.rd;have hg4:=UB.lt;have rN:Hid (∀ x∈F5,g6<x):=fun x hx=>by have:=nF5 x hx;omega
  clear X_ UB_ RES_ rf CS1 nF5;replace X:=X.below b5;replace RES:=RES.below b5;replace UB:=UB.below b5;replace oy:Bv.ow _ F y (⟨B1,m1,e1⟩,⟨B2,m2,e2⟩):=owB oy b5;replace B0:=Bu B0 b5;clear b5;have X_:=X.g5;have hSl:=kR.out;have CR1:=Bq (CR.out _ B0 ⟨A5,S.length,c5⟩ oS.rd);clear CR;by_cases hp:0<S.length
  ·have hpI:(0:Int)<(S.length:Int):=Bl;go_wp2_with fail
   refine CR1.out.mono ?_;rintro e6 w6 ⟨⟨⟨B3,m3,e3⟩,⟨B4,m4,e4⟩⟩,F6,rfl,oz,nF6,b6⟩;replace oz:Bv.ow w6 F6 (Hy y S) (⟨B3,m3,e3⟩,⟨B4,m4,e4⟩):=oz;have hg5:=UB.lt;have hR5:=RES.lt;have nN:Hid (∀ x∈F6,w+1<x/\x≠g6):=fun x hx=>by have:=nF6 x hx;omega
   clear X_ CR1 nF6 oy dG X;replace RES:=RES.below b6;replace UB:=UB.below b6;replace oS:=oS.below b6;replace B0:=Bu B0 b6;clear b6;generalize Hy y S=Z at *
   have UB_:=UB.g5;have ubf:=UB.free;go_upto_region 7 with fail
   have UB3:=UB.row54 (J U Z.now) (J U Z.seq) (Aa B3 m3 e3) (Aa B4 m4 e4);have dD:=Chg.cells4 w6 g6 0 1 2 3 (J U Z.now) (J U Z.seq) (Aa B3 m3 e3) (Aa B4 m4 e4);replace RES:=RES.chg dD (fun hx=>by have:=aS.out _ hx;omega);replace oz:Bv.ow _ F6 Z (⟨B3,m3,e3⟩,⟨B4,m4,e4⟩):=owC oz dD (fun x hx hx2=>(nN.out x hx).2 (aS.out x hx2));replace oS:=oS.chg dD (fun x hx hx2=>by have:=rN.out x hx;have:=aS.out x hx2;omega);replace B0:=B0.trans (dD.below (by have:=B0.size;omega) (fun x hx=>by have:=aS.out x hx;omega));clear dD UB UB_ ubf;have UB:=UB3;clear UB3;generalize (((w6.setCell ⟨g6,0,Ab⟩ (J U Z.now)).setCell ⟨g6,1,Ab⟩ (J U Z.seq)).setCell ⟨g6,2,Ab⟩ (Aa B3 m3 e3)).setCell ⟨g6,3,Ab⟩ (Aa B4 m4 e4)=w7 at *
   have hL:=Bq (Ya (q:=q) hp);obtain ⟨bN,oN,sN,rfl,hbN,-,k0,-⟩:=(show RdL Ct w7 w7.heap.size (Aa A5 S.length c5) S from oS.rd).note (k:=S.length - 1) Bl;have wl:U.wrap ((S.length:Int) - 1)=((S.length - 1:Nat):Int):=by rw [Aq _ Bl];omega
   have aR:(0:Int)<=((S.length - 1:Nat):Int):=Bl;have hiL:((S.length - 1:Nat):Int)<(S.length:Int):=Bl;generalize S[S.length - 1]=N at *
   generalize S.length - 1=kN at *
   have UB_:=UB.g5;have ubf:=UB.free;go_upto_region 8 with fail
   have UB3:=UB.set 4 Bn (J U N.seq);have dI:=Chg.setCell w7 g6 4 (J U N.seq);replace RES:=RES.chg dI (fun hx=>by have:=aS.out _ hx;omega);replace oz:Bv.ow _ F6 Z (⟨B3,m3,e3⟩,⟨B4,m4,e4⟩):=owC oz dI (fun x hx hx2=>(nN.out x hx).2 (aS.out x hx2));replace B0:=B0.trans (dI.below (by have:=B0.size;omega) (fun x hx=>by have:=aS.out x hx;omega));clear dI UB_ ubf;replace UB:DBox g6 [J U Z.now,J U Z.seq,Aa B3 m3 e3,Aa B4 m4 e4,J U N.seq] (w7.setCell ⟨g6,4,Ab⟩ (J U N.seq)):=UB3;clear UB3;generalize w7.setCell ⟨g6,4,Ab⟩ (J U N.seq)=w8 at *
   have UB_:=UB.g5;have RES_:=RES.g5;have rf:=RES.free;go_wp2;have en:w.heap.size+1∉F6:=fun hx=>by have:=(nN.out _ hx).1;omega
   have cU:=Chg.cells5 w8 (w+1) 0 1 2 3 4 (J U Z.now) (J U Z.seq) (Aa B3 m3 e3) (Aa B4 m4 e4) (J U N.seq);refine Aj (Q9 (RES.row5 _ _ _ _ _)) rfl ?_;rw [H.out,hL.out];exact ⟨(⟨B3,m3,e3⟩,⟨B4,m4,e4⟩),F6,rfl,Bv.ow_chg (F:=F6) (x:=Z) (s:=(⟨B3,m3,e3⟩,⟨B4,m4,e4⟩)) oz cU (fun x hx hx2=>en (by rw [<-bR.out x hx2];exact hx)),fun x hx=>by have:=(nN.out x hx).1;omega,B0.trans (cU.below (by have:=B0.size;omega) (fun x hx=>by have:=bR.out x hx;omega))⟩
  ·have hpI:¬ (0:Int)<(S.length:Int):=Bl;have hL:=Bq (Ab8 (q:=q) hp);rw [Agi hp] at H;have UB_:=UB.g5;have RES_:=RES.g5;have rf:=RES.free;go_wp2;have en:w.heap.size+1∉F:=fun hx=>by have:=(dG.out _ hx).1;omega
   have cU:=Chg.cells5 w5 (w+1) 0 1 2 3 4 (J U y.now) (J U y.seq) (Aa B1 m1 e1) (Aa B2 m2 e2) (J U q);refine Aj (Q9 (RES.row5 _ _ _ _ _)) rfl ?_;rw [H.out,hL.out];exact ⟨(⟨B1,m1,e1⟩,⟨B2,m2,e2⟩),F,rfl,Bv.ow_chg (F:=F) (x:=y) (s:=(⟨B1,m1,e1⟩,⟨B2,m2,e2⟩)) oy cU (fun x hx hx2=>en (by rw [<-bR.out x hx2];exact hx)),fun x hx=>by have:=(dG.out x hx).1;omega,B0.trans (cU.below (by have:=B0.size;omega) (fun x hx=>by have:=bR.out x hx;omega))⟩
theorem Agz (f:Follower) (l:List Note) (h:Dy f<=2000000):Dy (Hu f l).1<=2000000:=by
 unfold Hu;split
 ·exact O6 _ _ h
 ·exact h
theorem Sr (f:Follower) (s:Sl×Sl) (l:List Note) (sl:Sl) (w:World) (hc:Dy f<=2000000) (hl:D8 Cz l<=2000000) (mV:Kg f) (hw:wfL Mi l) (hf:By.rd w w f s) (h:RdL Ct w w sl.v l) :
  Calls Am 35 #[Gf f s,Aa sl.a sl.n sl.c] w (Ts (Hu f l) w) :=
 Ab9 f s l sl w hc hl (fun x hx=>(hw.2 x hx).1.2) hf h
theorem Acb (f:Follower) (s:Sl×Sl) (l:List Note) (sl:Sl) (w:World) (hc:Dy f<=2000000) (hl:D8 Cz l<=2000000) (mV:Kg f) (hw:wfL Mi l) (hf:By.rd w w f s) (h:RdL Ct w w sl.v l) :
  Calls Am 32 #[Gf f s,Aa sl.a sl.n sl.c] w (Ts (Hu f l) w) :=
 Aca f s l sl w hc hl (fun x hx=>(hw.2 x hx).1.2) hf h
end
theorem Acc (x0:Follower) (s0:(Sl×Sl)) (x1:List (Note)) (s1:Sl) (w:World) (mV:Kg x0) (h0:By.rd w w x0 s0) (rF:wfL Mi x1) (h1:RdL Ct w w s1.v x1) :
  Calls Am 5 #[Gf x0 s0,Aa s1.a s1.n s1.c] w fun e w'=>e = .returned (.bool true)/\Below w w w':=by
 have b0:=Br w w;go_enter func5,ntmps5;go_wp2_with fail
 generalize hW1:w.alloc (.cells #[J U x0.yard.now,J U x0.yard.seq,Aa s0.1.a s0.1.n s0.1.c,Aa s0.2.a s0.2.n s0.2.c,J U x0.seq] 68)=w1;have c1:Below w w w1:=by rw [<-hW1];exact Bt
 have DaF:DBox (w.heap.size) [J U x0.yard.now,J U x0.yard.seq,Aa s0.1.a s0.1.n s0.1.c,Aa s0.2.a s0.2.n s0.2.c,J U x0.seq] w1:=by rw [<-hW1];exact DBox.new 68 _ _ (rfl)
 clear hW1;have laF:=DaF.lt;have b1:=Bu b0 c1;have s1_:w.heap.size<=w1.heap.size:=c1.size;refine (Uu x0 s0 _ _ Bl Bl mV (By.rd_more (By.rd_below h0 b1) b1.size)).mono ?_;rintro e w2 ⟨r2,rfl,sL,c2⟩;have b2:=Bu b1 c2;replace DaF:=DaF.below c2;have s2_:w1.heap.size<=w2.heap.size:=c2.size;rcases sL with rfl | ⟨q2,z2⟩
 ·go_wp2_with fail
  go_ret;exact ⟨rfl,b2⟩
 have qb2:decide (r2<0)=false:=by simpa using q2
 have eP:Dy x0<=2000000:=Bl;go_wp2_with fail
 refine (Aao x1 s1 _ _ Bl Bl rF ((h1.below b2).more b2.size)).mono ?_;rintro e w3 ⟨r3,rfl,hr3,c3⟩;have b3:=Bu b2 c3;replace DaF:=DaF.below c3;have s3_:w2.heap.size<=w3.heap.size:=c3.size;rcases hr3 with rfl | ⟨q3,z3⟩
 ·go_wp2_with fail
  go_ret;exact ⟨rfl,b3⟩
 have qb3:decide (r3<0)=false:=by simpa using q3
 have bU:D8 Cz x1<=2000000:=Bl;have mS:Dy ((Hu x0 x1).1)<=2000000:=Agz x0 x1 eP;have caF_:=DaF.g5;go_wp2_with fail
 clear caF_;refine (J3 x0 s0 _ eP (By.rd_more (By.rd_below h0 b3) b3.size)).mono ?_;rintro e w4 ⟨rw0s0,Fw0s0,rfl,ow0s0,nw0s0,c4⟩;have b4:=Bu b3 c4;replace DaF:=DaF.below c4;have s4_:w3.heap.size<=w4.heap.size:=c4.size;replace ow0s0:By.ow w4 Fw0s0 x0 rw0s0:=ow0s0;replace nw0s0:∀ b∈Fw0s0,w3<=b:=nw0s0;have tw0s0:∀ b∈Fw0s0,b<w4:=(By.ow_lt ow0s0)
 go_wp2_with fail
 refine (Md x1 s1 _ bU ((h1.below b4).more b4.size)).mono ?_;rintro e w5 ⟨rw0s1,Fw0s1,rfl,ow0s1,nw0s1,c5⟩;have b5:=Bu b4 c5;replace ow0s0:=(By.ow_below ow0s0 c5)
 replace DaF:=DaF.below c5;have s5_:w4.heap.size<=w5.heap.size:=c5.size;replace ow0s1:OwL Ct w5 Fw0s1 rw0s1.v x1:=ow0s1;replace nw0s1:∀ b∈Fw0s1,w4<=b:=nw0s1;have tw0s1:∀ b∈Fw0s1,b<w5:=(OwL.lt ow0s1)
 go_wp2_with fail
 refine (Acb x0 rw0s0 x1 rw0s1 _ eP bU mV rF (By.ow_rd ow0s0) (OwL.rd ow0s1)).mono ?_;rintro e w6 ⟨rw0,Fw0,rfl,ow0,nw0,c6⟩;have b6:=Bu b5 c6;replace ow0s0:=(By.ow_below ow0s0 c6)
 replace ow0s1:=(OwL.below ow0s1 c6)
 replace DaF:=DaF.below c6;have s6_:w5.heap.size<=w6.heap.size:=c6.size;replace ow0:By.ow w6 Fw0 ((Hu x0 x1).1) rw0:=ow0;replace nw0:∀ b∈Fw0,w5<=b:=nw0;have tw0:∀ b∈Fw0,b<w6:=(By.ow_lt ow0)
 clear ow0s0 nw0s0 tw0s0;clear ow0s1 nw0s1 tw0s1;have caF_:=DaF.g5;go_wp2_with fail
 clear caF_;generalize hW7:w6.alloc (.cells #[J U ((Hu x0 x1).1).yard.now,J U ((Hu x0 x1).1).yard.seq,Aa rw0.1.a rw0.1.n rw0.1.c,Aa rw0.2.a rw0.2.n rw0.2.c,J U ((Hu x0 x1).1).seq] 73)=w7;have c7:Below w6 w6 w7:=by rw [<-hW7];exact Bt
 have Dw0:DBox (w6.heap.size) [J U ((Hu x0 x1).1).yard.now,J U ((Hu x0 x1).1).yard.seq,Aa rw0.1.a rw0.1.n rw0.1.c,Aa rw0.2.a rw0.2.n rw0.2.c,J U ((Hu x0 x1).1).seq] w7:=by rw [<-hW7];exact DBox.new 73 _ _ (rfl)
 clear hW7;have lw0:=Dw0.lt;have b7:=Bu b6 c7;replace ow0:=(By.ow_below ow0 c7)
 replace DaF:=DaF.below c7;have s7_:w6.heap.size<=w7.heap.size:=c7.size;refine (J3 x0 s0 _ eP (By.rd_more (By.rd_below h0 b7) b7.size)).mono ?_;rintro e w8 ⟨rx0,Fx0,rfl,ox0,nx0,c8⟩;have b8:=Bu b7 c8;replace ow0:=(By.ow_below ow0 c8)
 replace DaF:=DaF.below c8;replace Dw0:=Dw0.below c8;have s8_:w7.heap.size<=w8.heap.size:=c8.size;replace ox0:By.ow w8 Fx0 x0 rx0:=ox0;replace nx0:∀ b∈Fx0,w7<=b:=nx0;have tx0:∀ b∈Fx0,b<w8:=(By.ow_lt ox0)
 go_wp2_with fail
 generalize hW9:w8.alloc (.cells #[J U x0.yard.now,J U x0.yard.seq,Aa rx0.1.a rx0.1.n rx0.1.c,Aa rx0.2.a rx0.2.n rx0.2.c,J U x0.seq] 73)=w9;have c9:Below w8 w8 w9:=by rw [<-hW9];exact Bt
 have Dx0:DBox (w8.heap.size) [J U x0.yard.now,J U x0.yard.seq,Aa rx0.1.a rx0.1.n rx0.1.c,Aa rx0.2.a rx0.2.n rx0.2.c,J U x0.seq] w9:=by rw [<-hW9];exact DBox.new 73 _ _ (rfl)
 clear hW9;have lx0:=Dx0.lt;have b9:=Bu b8 c9;replace ow0:=(By.ow_below ow0 c9)
 replace ox0:=(By.ow_below ox0 c9)
 replace DaF:=DaF.below c9;replace Dw0:=Dw0.below c9;have s9_:w8.heap.size<=w9.heap.size:=c9.size;refine (Md x1 s1 _ bU ((h1.below b9).more b9.size)).mono ?_;rintro e w10 ⟨rx1,Fx1,rfl,ox1,nx1,c10⟩;have b10:=Bu b9 c10;replace ow0:=(By.ow_below ow0 c10)
 replace ox0:=(By.ow_below ox0 c10)
 replace DaF:=DaF.below c10;replace Dw0:=Dw0.below c10;replace Dx0:=Dx0.below c10;have s10_:w9.heap.size<=w10.heap.size:=c10.size;replace ox1:OwL Ct w10 Fx1 rx1.v x1:=ox1;replace nx1:∀ b∈Fx1,w9<=b:=nx1;have tx1:∀ b∈Fx1,b<w10:=(OwL.lt ox1)
 have cx0_:=Dx0.g5;go_wp2_with fail
 clear cx0_;refine (Sr x0 rx0 x1 rx1 _ eP bU mV rF (By.ow_rd ox0) (OwL.rd ox1)).mono ?_;rintro e w11 ⟨rg0,Fg0,rfl,og0,ng0,c11⟩;have b11:=Bu b10 c11;replace ow0:=(By.ow_below ow0 c11)
 replace ox0:=(By.ow_below ox0 c11)
 replace ox1:=(OwL.below ox1 c11)
 replace DaF:=DaF.below c11;replace Dw0:=Dw0.below c11;replace Dx0:=Dx0.below c11;have s11_:w10.heap.size<=w11.heap.size:=c11.size;replace og0:By.ow w11 Fg0 ((Hu x0 x1).1) rg0:=og0;replace ng0:∀ b∈Fg0,w10<=b:=ng0;have tg0:∀ b∈Fg0,b<w11:=(By.ow_lt og0)
 have cw0_:=Dw0.g5;go_wp2_with fail
 clear cw0_;generalize hW12:w11.alloc (.cells #[J U ((Hu x0 x1).1).yard.now,J U ((Hu x0 x1).1).yard.seq,Aa rg0.1.a rg0.1.n rg0.1.c,Aa rg0.2.a rg0.2.n rg0.2.c,J U ((Hu x0 x1).1).seq] 73)=w12;have c12:Below w11 w11 w12:=by rw [<-hW12];exact Bt
 have Dg0:DBox (w11.heap.size) [J U ((Hu x0 x1).1).yard.now,J U ((Hu x0 x1).1).yard.seq,Aa rg0.1.a rg0.1.n rg0.1.c,Aa rg0.2.a rg0.2.n rg0.2.c,J U ((Hu x0 x1).1).seq] w12:=by rw [<-hW12];exact DBox.new 73 _ _ (rfl)
 clear hW12;have lg0:=Dg0.lt;have b12:=Bu b11 c12;replace ow0:=(By.ow_below ow0 c12)
 replace ox0:=(By.ow_below ox0 c12)
 replace ox1:=(OwL.below ox1 c12)
 replace og0:=(By.ow_below og0 c12)
 replace DaF:=DaF.below c12;replace Dw0:=Dw0.below c12;replace Dx0:=Dx0.below c12;have s12_:w11.heap.size<=w12.heap.size:=c12.size;refine (J4 ((Hu x0 x1).1) ((Hu x0 x1).1) rg0 rw0 _ mS mS (By.ow_rd og0) (By.ow_rd ow0)).mono ?_;rintro e w13 ⟨rfl,c13⟩;have b13:=Bu b12 c13;replace ow0:=(By.ow_below ow0 c13)
 replace ox0:=(By.ow_below ox0 c13)
 replace ox1:=(OwL.below ox1 c13)
 replace og0:=(By.ow_below og0 c13)
 replace DaF:=DaF.below c13;replace Dw0:=Dw0.below c13;replace Dx0:=Dx0.below c13;replace Dg0:=Dg0.below c13;have s13_:w12.heap.size<=w13.heap.size:=c13.size;have cx0_:=Dx0.g5;have caF_:=DaF.g5;go_wp2_with fail
 clear cx0_ caF_;have cx00:w13.cell? ⟨w8,0,Ab⟩=Ac (J U x0.yard.now):=Dx0.cell 0 _ rfl;have cx01:w13.cell? ⟨w8,1,Ab⟩=Ac (J U x0.yard.seq):=Dx0.cell 1 _ rfl;have cx02:w13.cell? ⟨w8,2,Ab⟩=Ac (Aa rx0.1.a rx0.1.n rx0.1.c):=Dx0.cell 2 _ rfl;have cx03:w13.cell? ⟨w8,3,Ab⟩=Ac (Aa rx0.2.a rx0.2.n rx0.2.c):=Dx0.cell 3 _ rfl;have cx04:w13.cell? ⟨w8,4,Ab⟩=Ac (J U x0.seq):=Dx0.cell 4 _ rfl;have caF0:w13.cell? ⟨w,0,Ab⟩=Ac (J U x0.yard.now):=DaF.cell 0 _ rfl;have caF1:w13.cell? ⟨w,1,Ab⟩=Ac (J U x0.yard.seq):=DaF.cell 1 _ rfl;have caF2:w13.cell? ⟨w,2,Ab⟩=Ac (Aa s0.1.a s0.1.n s0.1.c):=DaF.cell 2 _ rfl;have caF3:w13.cell? ⟨w,3,Ab⟩=Ac (Aa s0.2.a s0.2.n s0.2.c):=DaF.cell 3 _ rfl;have caF4:w13.cell? ⟨w,4,Ab⟩=Ac (J U x0.seq):=DaF.cell 4 _ rfl;have cx0s:=Dx0.lt;have caFs:=DaF.lt;go_region_held3 (fun w'=>w'.cell? ⟨w8,0,Ab⟩=Ac (J U x0.yard.now)/\w'.cell? ⟨w8,1,Ab⟩=Ac (J U x0.yard.seq)/\w'.cell? ⟨w8,2,Ab⟩=Ac (Aa rx0.1.a rx0.1.n rx0.1.c)/\w'.cell? ⟨w8,3,Ab⟩=Ac (Aa rx0.2.a rx0.2.n rx0.2.c)/\w'.cell? ⟨w8,4,Ab⟩=Ac (J U x0.seq)/\w'.cell? ⟨w,0,Ab⟩=Ac (J U x0.yard.now)/\w'.cell? ⟨w,1,Ab⟩=Ac (J U x0.yard.seq)/\w'.cell? ⟨w,2,Ab⟩=Ac (Aa s0.1.a s0.1.n s0.1.c)/\w'.cell? ⟨w,3,Ab⟩=Ac (Aa s0.2.a s0.2.n s0.2.c)/\w'.cell? ⟨w,4,Ab⟩=Ac (J U x0.seq))
  (first | (refine ⟨?_,?_,?_,?_,?_,?_,?_,?_,?_,?_⟩<;>first | assumption | go_keep) | go_keep)
  (first
   | (go_at_call 33;(with_reducible refine (J3 x0 s0 _ eP (By.rd_more (By.rd_below h0 b13.drew) b13.drew.size)).mono ?_);rintro e w14 ⟨ryx0,Fyx0,rfl,oyx0,nyx0,c14⟩;have b14:=Bu b13 (Bu ((Br w13 w13).drew) c14);replace ow0:=(By.ow_below ow0 (Bu ((Br w13 w13).drew) c14));replace ox0:=(By.ow_below ox0 (Bu ((Br w13 w13).drew) c14));replace ox1:=(OwL.below ox1 (Bu ((Br w13 w13).drew) c14));replace og0:=(By.ow_below og0 (Bu ((Br w13 w13).drew) c14));replace DaF:=DaF.below (Bu ((Br w13 w13).drew) c14);replace Dw0:=Dw0.below (Bu ((Br w13 w13).drew) c14);replace Dx0:=Dx0.below (Bu ((Br w13 w13).drew) c14);replace Dg0:=Dg0.below (Bu ((Br w13 w13).drew) c14);have s14_:w13.heap.size<=w14.heap.size:=c14.size;replace oyx0:By.ow w14 Fyx0 x0 ryx0:=oyx0;replace nyx0:∀ b∈Fyx0,w13<=b:=nyx0;have tyx0:∀ b∈Fyx0,b<w14:=(By.ow_lt oyx0);have Xx00:w14.cell? ⟨w8,0,Ab⟩=Ac (J U x0.yard.now):=Dx0.cell 0 _ rfl;have Xx01:w14.cell? ⟨w8,1,Ab⟩=Ac (J U x0.yard.seq):=Dx0.cell 1 _ rfl;have Xx02:w14.cell? ⟨w8,2,Ab⟩=Ac (Aa rx0.1.a rx0.1.n rx0.1.c):=Dx0.cell 2 _ rfl;have Xx03:w14.cell? ⟨w8,3,Ab⟩=Ac (Aa rx0.2.a rx0.2.n rx0.2.c):=Dx0.cell 3 _ rfl;have Xx04:w14.cell? ⟨w8,4,Ab⟩=Ac (J U x0.seq):=Dx0.cell 4 _ rfl;have XaF0:w14.cell? ⟨w,0,Ab⟩=Ac (J U x0.yard.now):=DaF.cell 0 _ rfl;have XaF1:w14.cell? ⟨w,1,Ab⟩=Ac (J U x0.yard.seq):=DaF.cell 1 _ rfl;have XaF2:w14.cell? ⟨w,2,Ab⟩=Ac (Aa s0.1.a s0.1.n s0.1.c):=DaF.cell 2 _ rfl;have XaF3:w14.cell? ⟨w,3,Ab⟩=Ac (Aa s0.2.a s0.2.n s0.2.c):=DaF.cell 3 _ rfl;have XaF4:w14.cell? ⟨w,4,Ab⟩=Ac (J U x0.seq):=DaF.cell 4 _ rfl;have Xx0s:=Dx0.lt;have XaFs:=DaF.lt)
   | (go_at_call 36;(with_reducible refine (J4 x0 x0 rx0 ryx0 _ eP eP (By.ow_rd ox0) (By.ow_rd oyx0)).mono ?_);rintro e w15 ⟨rfl,c15⟩;have b15:=Bu b14 c15;replace ow0:=(By.ow_below ow0 c15);replace ox0:=(By.ow_below ox0 c15);replace ox1:=(OwL.below ox1 c15);replace og0:=(By.ow_below og0 c15);replace oyx0:=(By.ow_below oyx0 c15);replace DaF:=DaF.below c15;replace Dw0:=Dw0.below c15;replace Dx0:=Dx0.below c15;replace Dg0:=Dg0.below c15;have s15_:w14.heap.size<=w15.heap.size:=c15.size;clear oyx0 nyx0 tyx0;have X1x00:w15.cell? ⟨w8,0,Ab⟩=Ac (J U x0.yard.now):=Dx0.cell 0 _ rfl;have X1x01:w15.cell? ⟨w8,1,Ab⟩=Ac (J U x0.yard.seq):=Dx0.cell 1 _ rfl;have X1x02:w15.cell? ⟨w8,2,Ab⟩=Ac (Aa rx0.1.a rx0.1.n rx0.1.c):=Dx0.cell 2 _ rfl;have X1x03:w15.cell? ⟨w8,3,Ab⟩=Ac (Aa rx0.2.a rx0.2.n rx0.2.c):=Dx0.cell 3 _ rfl;have X1x04:w15.cell? ⟨w8,4,Ab⟩=Ac (J U x0.seq):=Dx0.cell 4 _ rfl;have X1aF0:w15.cell? ⟨w,0,Ab⟩=Ac (J U x0.yard.now):=DaF.cell 0 _ rfl;have X1aF1:w15.cell? ⟨w,1,Ab⟩=Ac (J U x0.yard.seq):=DaF.cell 1 _ rfl;have X1aF2:w15.cell? ⟨w,2,Ab⟩=Ac (Aa s0.1.a s0.1.n s0.1.c):=DaF.cell 2 _ rfl;have X1aF3:w15.cell? ⟨w,3,Ab⟩=Ac (Aa s0.2.a s0.2.n s0.2.c):=DaF.cell 3 _ rfl;have X1aF4:w15.cell? ⟨w,4,Ab⟩=Ac (J U x0.seq):=DaF.cell 4 _ rfl;have X1x0s:=Dx0.lt;have X1aFs:=DaF.lt))
 clear cx00 cx01 cx02 cx03 cx04 cx0s caF0 caF1 caF2 caF3 caF4 caFs;clear Xx00 Xx01 Xx02 Xx03 Xx04 Xx0s XaF0 XaF1 XaF2 XaF3 XaF4 XaFs;clear X1x00 X1x01 X1x02 X1x03 X1x04 X1x0s X1aF0 X1aF1 X1aF2 X1aF3 X1aF4 X1aFs;go_wp2_with fail
 refine (Md x1 s1 _ bU ((h1.below b15).more b15.size)).mono ?_;rintro e w16 ⟨ryx1,Fyx1,rfl,oyx1,nyx1,c16⟩;have b16:=Bu b15 c16;replace ow0:=(By.ow_below ow0 c16)
 replace ox0:=(By.ow_below ox0 c16)
 replace ox1:=(OwL.below ox1 c16)
 replace og0:=(By.ow_below og0 c16)
 replace DaF:=DaF.below c16;replace Dw0:=Dw0.below c16;replace Dx0:=Dx0.below c16;replace Dg0:=Dg0.below c16;have s16_:w15.heap.size<=w16.heap.size:=c16.size;replace oyx1:OwL Ct w16 Fyx1 ryx1.v x1:=oyx1;replace nyx1:∀ b∈Fyx1,w15<=b:=nyx1;have tyx1:∀ b∈Fyx1,b<w16:=(OwL.lt oyx1)
 go_wp2_with fail
 refine (Aap x1 x1 rx1 ryx1 _ bU bU (OwL.rd ox1) (OwL.rd oyx1)).mono ?_;rintro e w17 ⟨rfl,c17⟩;have b17:=Bu b16 c17;replace ow0:=(By.ow_below ow0 c17)
 replace ox0:=(By.ow_below ox0 c17)
 replace ox1:=(OwL.below ox1 c17)
 replace og0:=(By.ow_below og0 c17)
 replace oyx1:=(OwL.below oyx1 c17)
 replace DaF:=DaF.below c17;replace Dw0:=Dw0.below c17;replace Dx0:=Dx0.below c17;replace Dg0:=Dg0.below c17;have s17_:w16.heap.size<=w17.heap.size:=c17.size;clear oyx1 nyx1 tyx1;have kx0_:=(Ph x0)
 have cx0_:=Dx0.g5;go_wp2_with fail
 clear cx0_;refine (M0 x0 rx0 Fx0 1 _ eP Bl Bl ox0).mono ?_;rintro e w18 ⟨rfl,oo18,c18⟩;have b18:=b17.trans (c18.below b17.size (fun x hx=>by have:=nx0 x hx;omega));replace ow0:=(By.ow_chg ow0 c18 (Jy (J9 nw0 tw0) (J9 nx0 tx0) (by first | exact .inl Bl | exact .inr Bl)))
 replace ox1:=(OwL.chg ox1 c18 (Jy (J9 nx1 tx1) (J9 nx0 tx0) (by first | exact .inl Bl | exact .inr Bl)))
 replace og0:=(By.ow_chg og0 c18 (Jy (J9 ng0 tg0) (J9 nx0 tx0) (by first | exact .inl Bl | exact .inr Bl)))
 replace DaF:=DaF.chg c18 (fun hx=>by have h1:=nx0 _ hx;have h2:=tx0 _ hx;omega);replace Dw0:=Dw0.chg c18 (fun hx=>by have h1:=nx0 _ hx;have h2:=tx0 _ hx;omega);replace Dx0:=Dx0.chg c18 (fun hx=>by have h1:=nx0 _ hx;have h2:=tx0 _ hx;omega);replace Dg0:=Dg0.chg c18 (fun hx=>by have h1:=nx0 _ hx;have h2:=tx0 _ hx;omega);have s18_:w17.heap.size<=w18.heap.size:=c18.size;replace ox0:By.ow w18 Fx0 (Lt 1 x0) rx0:=oo18;have kx1_:=(Et (num:=Hi) (cnt:=Cz) (K:=13) Un x1)
 go_wp2_with fail
 refine (Wn x1 rx1 Fx1 (1+(I1 x0:Nat)) _ bU Bl Bl ox1).mono ?_;rintro e w19 ⟨rfl,oo19,c19⟩;have b19:=b18.trans (c19.below b18.size (fun x hx=>by have:=nx1 x hx;omega));replace ow0:=(By.ow_chg ow0 c19 (Jy (J9 nw0 tw0) (J9 nx1 tx1) (by first | exact .inl Bl | exact .inr Bl)))
 replace ox0:=(By.ow_chg ox0 c19 (Jy (J9 nx0 tx0) (J9 nx1 tx1) (by first | exact .inl Bl | exact .inr Bl)))
 replace og0:=(By.ow_chg og0 c19 (Jy (J9 ng0 tg0) (J9 nx1 tx1) (by first | exact .inl Bl | exact .inr Bl)))
 replace DaF:=DaF.chg c19 (fun hx=>by have h1:=nx1 _ hx;have h2:=tx1 _ hx;omega);replace Dw0:=Dw0.chg c19 (fun hx=>by have h1:=nx1 _ hx;have h2:=tx1 _ hx;omega);replace Dx0:=Dx0.chg c19 (fun hx=>by have h1:=nx1 _ hx;have h2:=tx1 _ hx;omega);replace Dg0:=Dg0.chg c19 (fun hx=>by have h1:=nx1 _ hx;have h2:=tx1 _ hx;omega);have s19_:w18.heap.size<=w19.heap.size:=c19.size;replace ox1:OwL Ct w19 Fx1 rx1.v (mkL P5 Hi (1+(I1 x0:Nat)) x1):=oo19;have cg0_:=Dg0.g5;have cw0_:=Dw0.g5;go_wp2_with fail
 clear cg0_ cw0_;refine (J4 ((Hu x0 x1).1) ((Hu x0 x1).1) rg0 rw0 _ mS mS (By.ow_rd og0) (By.ow_rd ow0)).mono ?_;rintro e w20 ⟨rfl,c20⟩;have b20:=Bu b19 c20;replace ow0:=(By.ow_below ow0 c20)
 replace ox0:=(By.ow_below ox0 c20)
 replace ox1:=(OwL.below ox1 c20)
 replace og0:=(By.ow_below og0 c20)
 replace DaF:=DaF.below c20;replace Dw0:=Dw0.below c20;replace Dx0:=Dx0.below c20;replace Dg0:=Dg0.below c20;have s20_:w19.heap.size<=w20.heap.size:=c20.size;have kg0_:=(Ph ((Hu x0 x1).1))
 have cg0_:=Dg0.g5;go_wp2_with fail
 clear cg0_;refine (M0 ((Hu x0 x1).1) rg0 Fg0 1 _ mS Bl Bl og0).mono ?_;rintro e w21 ⟨rfl,oo21,c21⟩;have b21:=b20.trans (c21.below b20.size (fun x hx=>by have:=ng0 x hx;omega));replace ow0:=(By.ow_chg ow0 c21 (Jy (J9 nw0 tw0) (J9 ng0 tg0) (by first | exact .inl Bl | exact .inr Bl)))
 replace ox0:=(By.ow_chg ox0 c21 (Jy (J9 nx0 tx0) (J9 ng0 tg0) (by first | exact .inl Bl | exact .inr Bl)))
 replace ox1:=(OwL.chg ox1 c21 (Jy (J9 nx1 tx1) (J9 ng0 tg0) (by first | exact .inl Bl | exact .inr Bl)))
 replace DaF:=DaF.chg c21 (fun hx=>by have h1:=ng0 _ hx;have h2:=tg0 _ hx;omega);replace Dw0:=Dw0.chg c21 (fun hx=>by have h1:=ng0 _ hx;have h2:=tg0 _ hx;omega);replace Dx0:=Dx0.chg c21 (fun hx=>by have h1:=ng0 _ hx;have h2:=tg0 _ hx;omega);replace Dg0:=Dg0.chg c21 (fun hx=>by have h1:=ng0 _ hx;have h2:=tg0 _ hx;omega);have s21_:w20.heap.size<=w21.heap.size:=c21.size;replace og0:By.ow w21 Fg0 (Lt 1 ((Hu x0 x1).1)) rg0:=oo21;have cg0_:=Dg0.g5;go_wp2_with fail
 clear cg0_;refine (M3 ((Hu x0 x1).1) rg0 1 _ mS Bl Bl (By.ow_rd og0)).mono ?_;rintro e w22 ⟨rfl,c22⟩;have b22:=Bu b21 c22;replace ow0:=(By.ow_below ow0 c22)
 replace ox0:=(By.ow_below ox0 c22)
 replace ox1:=(OwL.below ox1 c22)
 replace og0:=(By.ow_below og0 c22)
 replace DaF:=DaF.below c22;replace Dw0:=Dw0.below c22;replace Dx0:=Dx0.below c22;replace Dg0:=Dg0.below c22;have s22_:w21.heap.size<=w22.heap.size:=c22.size;have caF_:=DaF.g5;go_wp2_with fail
 clear caF_;refine (J3 x0 s0 _ eP (By.rd_more (By.rd_below h0 b22) b22.size)).mono ?_;rintro e w23 ⟨rh0i0,Fh0i0,rfl,oh0i0,nh0i0,c23⟩;have b23:=Bu b22 c23;replace ow0:=(By.ow_below ow0 c23)
 replace ox0:=(By.ow_below ox0 c23)
 replace ox1:=(OwL.below ox1 c23)
 replace og0:=(By.ow_below og0 c23)
 replace DaF:=DaF.below c23;replace Dw0:=Dw0.below c23;replace Dx0:=Dx0.below c23;replace Dg0:=Dg0.below c23;have s23_:w22.heap.size<=w23.heap.size:=c23.size;replace oh0i0:By.ow w23 Fh0i0 x0 rh0i0:=oh0i0;replace nh0i0:∀ b∈Fh0i0,w22<=b:=nh0i0;have th0i0:∀ b∈Fh0i0,b<w23:=(By.ow_lt oh0i0)
 go_wp2_with fail
 refine (Md x1 s1 _ bU ((h1.below b23).more b23.size)).mono ?_;rintro e w24 ⟨rh0i1,Fh0i1,rfl,oh0i1,nh0i1,c24⟩;have b24:=Bu b23 c24;replace ow0:=(By.ow_below ow0 c24)
 replace ox0:=(By.ow_below ox0 c24)
 replace ox1:=(OwL.below ox1 c24)
 replace og0:=(By.ow_below og0 c24)
 replace oh0i0:=(By.ow_below oh0i0 c24)
 replace DaF:=DaF.below c24;replace Dw0:=Dw0.below c24;replace Dx0:=Dx0.below c24;replace Dg0:=Dg0.below c24;have s24_:w23.heap.size<=w24.heap.size:=c24.size;replace oh0i1:OwL Ct w24 Fh0i1 rh0i1.v x1:=oh0i1;replace nh0i1:∀ b∈Fh0i1,w23<=b:=nh0i1;have th0i1:∀ b∈Fh0i1,b<w24:=(OwL.lt oh0i1)
 go_wp2_with fail
 refine (Sr x0 rh0i0 x1 rh0i1 _ eP bU mV rF (By.ow_rd oh0i0) (OwL.rd oh0i1)).mono ?_;rintro e w25 ⟨rh0,Fh0,rfl,oh0,nh0,c25⟩;have b25:=Bu b24 c25;replace ow0:=(By.ow_below ow0 c25)
 replace ox0:=(By.ow_below ox0 c25)
 replace ox1:=(OwL.below ox1 c25)
 replace og0:=(By.ow_below og0 c25)
 replace oh0i0:=(By.ow_below oh0i0 c25)
 replace oh0i1:=(OwL.below oh0i1 c25)
 replace DaF:=DaF.below c25;replace Dw0:=Dw0.below c25;replace Dx0:=Dx0.below c25;replace Dg0:=Dg0.below c25;have s25_:w24.heap.size<=w25.heap.size:=c25.size;replace oh0:By.ow w25 Fh0 ((Hu x0 x1).1) rh0:=oh0;replace nh0:∀ b∈Fh0,w24<=b:=nh0;have th0:∀ b∈Fh0,b<w25:=(By.ow_lt oh0)
 clear oh0i0 nh0i0 th0i0;clear oh0i1 nh0i1 th0i1;have cw0_:=Dw0.g5;go_wp2_with fail
 clear cw0_;generalize hW26:w25.alloc (.cells #[J U ((Hu x0 x1).1).yard.now,J U ((Hu x0 x1).1).yard.seq,Aa rh0.1.a rh0.1.n rh0.1.c,Aa rh0.2.a rh0.2.n rh0.2.c,J U ((Hu x0 x1).1).seq] 73)=w26;have c26:Below w25 w25 w26:=by rw [<-hW26];exact Bt
 have Dh0:DBox (w25.heap.size) [J U ((Hu x0 x1).1).yard.now,J U ((Hu x0 x1).1).yard.seq,Aa rh0.1.a rh0.1.n rh0.1.c,Aa rh0.2.a rh0.2.n rh0.2.c,J U ((Hu x0 x1).1).seq] w26:=by rw [<-hW26];exact DBox.new 73 _ _ (rfl)
 clear hW26;have lh0:=Dh0.lt;have b26:=Bu b25 c26;replace ow0:=(By.ow_below ow0 c26)
 replace ox0:=(By.ow_below ox0 c26)
 replace ox1:=(OwL.below ox1 c26)
 replace og0:=(By.ow_below og0 c26)
 replace oh0:=(By.ow_below oh0 c26)
 replace DaF:=DaF.below c26;replace Dw0:=Dw0.below c26;replace Dx0:=Dx0.below c26;replace Dg0:=Dg0.below c26;have s26_:w25.heap.size<=w26.heap.size:=c26.size;refine (J4 ((Hu x0 x1).1) ((Hu x0 x1).1) rh0 rw0 _ mS mS (By.ow_rd oh0) (By.ow_rd ow0)).mono ?_;rintro e w27 ⟨rfl,c27⟩;have b27:=Bu b26 c27;replace ow0:=(By.ow_below ow0 c27)
 replace ox0:=(By.ow_below ox0 c27)
 replace ox1:=(OwL.below ox1 c27)
 replace og0:=(By.ow_below og0 c27)
 replace oh0:=(By.ow_below oh0 c27)
 replace DaF:=DaF.below c27;replace Dw0:=Dw0.below c27;replace Dx0:=Dx0.below c27;replace Dg0:=Dg0.below c27;replace Dh0:=Dh0.below c27;have s27_:w26.heap.size<=w27.heap.size:=c27.size;have cg0_:=Dg0.g5;go_wp2_with fail
 clear cg0_;refine (M3 ((Hu x0 x1).1) rg0 1 _ mS Bl Bl (By.ow_rd og0)).mono ?_;rintro e w28 ⟨rfl,c28⟩;have b28:=Bu b27 c28;replace ow0:=(By.ow_below ow0 c28)
 replace ox0:=(By.ow_below ox0 c28)
 replace ox1:=(OwL.below ox1 c28)
 replace og0:=(By.ow_below og0 c28)
 replace oh0:=(By.ow_below oh0 c28)
 replace DaF:=DaF.below c28;replace Dw0:=Dw0.below c28;replace Dx0:=Dx0.below c28;replace Dg0:=Dg0.below c28;replace Dh0:=Dh0.below c28;have s28_:w27.heap.size<=w28.heap.size:=c28.size;go_wp2_with fail
 go_ret;exact ⟨rfl,b28⟩
end Go.Proofs.YtonlnjdempbfoabGreat
