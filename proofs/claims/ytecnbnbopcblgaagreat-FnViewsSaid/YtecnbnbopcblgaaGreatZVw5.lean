/-
  Copies of yards, of the program and of the reference. Written by program (yy.py). slices.DeleteFunc: lists of which some are kept; builtin clear at cells of sev
-/
import Derived.Test.YtecnbnbopcblgaaGreatZVw0
import Derived.Test.YtecnbnbopcblgaaGreatZVw1
import Derived.Test.YtecnbnbopcblgaaGreatZVw4
import Derived.Laws.Externs
import Derived.Laws.NewBlocks
import Derived.Deep.Cut
namespace Go.Proofs.YtecnbnbopcblgaaGreat
open Go.RowKit
set_option maxRecDepth 100000
set_option maxHeartbeats 4000000
set_option linter.unusedVariables false
set_option linter.unusedSimpArgs false
open Value renaming int->J,slice->Aa
open IntKind renaming i64->Ab
open Option renaming none->Ac,some->Ad
open Below renaming setCell->Ae,alloc->Af
open Nat renaming zero_le->Ah,le_trans->Ai,lt_of_lt_of_le->Aj
open Go.Proofs.Tryz renaming prog->An
open IntWalk renaming i64_in->Ar
open List renaming getElem_mem->Ax,length_take->A0,length_append->Bd,length_set->Bh
open World renaming size_alloc->Bj
open Go.Proofs.Tryz
theorem OwL.grown {α:Type} {d:Dt α} {w w':World} {F:List Nat} {v:Value} {l:List α} {row:Option Nat} (h:OwL d w F v l) (hg:w.grownBy w' row) (hd:∀ b∈F,row≠Ad b):OwL d w' F v l :=
 h.keep hg.size fun b hb=>hg.block b (h.lt b hb) (fun e=>hd b hb e.symm)
def CopyYPost (y:Yard) (w:World) (e:Ending) (w':World):Prop :=
 ∃ (s1 s2:Sl) (F1:List Nat) (base:Nat),e = .returned (Dh y (s1,s2))/\OwL (Dt.list Ch) w' F1 s1.v y.shelf/\(∀ b∈F1,w<=b/\b<base)/\w.heap.size+1<base/\base<=w'.heap.size/\Bls Cn 67 w' base s2.v y.runs/\Below w w w'
theorem CopyYPost.own {y:Yard} {w w':World} {e:Ending} (h:CopyYPost y w e w'):Fa Bu Dh y w e w':=by
 obtain ⟨s1,s2,F1,base,rfl,h1,h2,h3,_,⟨rs,hm,hB⟩,h4⟩:=h;obtain ⟨F2,h5,h6⟩:=hB.owl hm;refine ⟨(s1,s2),F1 ++ F2,rfl,⟨F1,F2,rfl,?_,h1,h5⟩,fun b hb=>?_,h4⟩
 ·rw [List.nodup_append];refine ⟨h1.nodup,h5.nodup,fun u hu u' hu' e=>?_⟩
  have:=h2 u hu
  have:=h6 u' hu'
  omega
 ·rcases List.mem_append.1 hb with hb | hb
  ·exact (h2 b hb).1
  ·have:=h6 b hb;omega
theorem Bls.below {α:Type} {d:Dt α} {E:TypeId} {w w':World} {base:Nat} {v:Value} {l:List α} (h:Bls d E w base v l) (hb:Below w w w'):Bls d E w' base v l:=by
 obtain ⟨rs,hm,hB⟩:=h;exact ⟨rs,hm,hB.below hb⟩
theorem Bls.setOther {α:Type} {d:Dt α} {E:TypeId} {w:World} {base:Nat} {v:Value} {l:List α} (h:Bls d E w base v l) {a:Addr} (ha:a.block<base) (u:Value):Bls d E (w.setCell a u) base v l:=by
 obtain ⟨rs,hm,hB⟩:=h;exact ⟨rs,hm,hB.setOther ha u⟩
theorem K2 (y:Yard) (s:Sl×Sl) (w:World) (hl:Cf y<=2000000) (h:Bu.rd w w y s) :
  Calls An 73 #[Dh y s] w (CopyYPost y w):=by
 obtain ⟨⟨A1,n1,c1⟩,⟨A2,n2,c2⟩⟩:=s;obtain rfl:n1=y.shelf.length:=RdL.at1 (s:=⟨A1,n1,c1⟩) h.1;obtain rfl:n2=y.runs.length:=RdL.at1 (s:=⟨A2,n2,c2⟩) h.2;have h1:RdL (Dt.list Ch) w w (Aa A1 y.shelf.length c1) y.shelf:=h.1;have h2:RdL Cn w w (Aa A2 y.runs.length c2) y.runs:=h.2;have eJ:y.runs.length<=2000000:=Ai (Cv Dc _) (by unfold Cf at hl;omega);have hls:y.shelf.length<=2000000:=Ai (Cv Dp _) (by unfold Cf at hl;omega);have HE:=Bq (show ∀ k (hk:k<y.shelf.length),y.shelf[k].length<=2000000 from fun k hk=>by
  have:=Gw (cnt:=Dp) (Ax hk)
  have h2:y.shelf[k].length<=Dp y.shelf[k]:=Cv Kk _;unfold Cf at hl;omega)
 have HC:=Bq (show ∀ k (hk:k<y.runs.length),Dc y.runs[k]<=2000000 from fun k hk=>by
  have:=Gw (cnt:=Dc) (Ax hk)
  unfold Cf at hl;omega)
 clear h;obtain ⟨W,aG,X,Z,O,B0⟩:=bx3 w 31 [J Ab y.now,J Ab y.seq,Aa A1 y.shelf.length c1,Aa A2 y.runs.length c2] 31 [J Ab 0,J Ab 0,Aa Ac 0 0,Aa Ac 0 0] 31 [J Ab y.now,J Ab y.seq,Aa Ac 0 0,Aa Ac 0 0];obtain ⟨i0,aQ,aW,aU,aR⟩:=info_parts Lx;obtain ⟨e0,he0,ez0,ez1,ez2⟩:=info_parts Gi;obtain ⟨j0,bZ,jz0,jz1,jz2⟩:=info_parts L9;go_enter func73,ntmps73;go_wp2;rw [<-aG.out];clear aG;have pW:w.heap.size+3<=W.heap.size:=O.lt;go_loopw [16] (fun i wr=>∃ (k:Nat) (v:Value),k<=y.shelf.length/\i = J Ab k/\Hid (Bls (Dt.list Ch) 74 wr (w+3) v (y.shelf.take k))/\DBox w [J Ab y.now,J Ab y.seq,Aa A1 y.shelf.length c1,Aa A2 y.runs.length c2] wr/\DBox (w+1) [J Ab 0,J Ab 0,Aa Ac 0 0,Aa Ac 0 0] wr/\DBox (w+1+1) [J Ab y.now,J Ab y.seq,v,Aa Ac 0 0] wr/\Below w w wr/\w.heap.size+3<=wr.heap.size) (fun i _=>y.shelf.length - (intOf i).toNat);case atStart=>exact ⟨0,_,Ah _,rfl,⟨[],rfl,Bld.nil _ _ _ _⟩,X,Z,O,B0,pW⟩
 case round =>
  clear X Z O B0 pW;obtain ⟨k,v,hk,rfl,gA,X,Z,O,hb,bJ⟩:=hrel;obtain ⟨X_0,X_1,X_2,X_3,X_l⟩:=X.g4;obtain ⟨O_0,O_1,O_2,O_3,O_l⟩:=O.g4;have O_f:=O.free;by_cases aB:k<y.shelf.length
  ·have aC:(k:Int)<(y.shelf.length:Int):=Bl;obtain ⟨b,o,⟨As,ns,cs⟩,mF,aH,hr,d0⟩:=(h1.below hb).entryS aB;obtain rfl:ns=y.shelf[k].length:=RdL.at1 (s:=⟨As,ns,cs⟩) hr;subst mF;have bG:b<wr:=Aj aH hb.size;have hez:=HE.out k aB;obtain ⟨rs,hm,hB⟩:=gA.out;have cK:rs.length=k:=by have:=congrArg List.length hm;simpa [Nat.min_eq_left hk] using this
   have hrl':rs.length<=2000000:=Bl;have Hrl:=Bq cK;clear cK;have hO:=hB.ow;have aE:v.ownBlock≠Ad (w.heap.size+1+1):=fun e=>by have:=hO.within _ e;omega
   have bP:=Bq (show ∀ W,Below wr wr W->RdL Ch W W (Sl.v ⟨As,y.shelf[k].length,cs⟩) y.shelf[k] from fun W hW=>RdL.more (RdL.below (RdL.more hr hb.size) hW) hW.size);go_wp2;refine Dl (fun w'=>w'.cell? ⟨w+1+1,2,Ac⟩=Ad v) 7 Bm ?_ (fun aA=>?_)
   ·simpa [go_sem] using O_2
   refine aT 0 aA ?_;try simp only [pS]
   refine aT 1 aA ?_;try simp only [pS]
   refine aT 2 aA ?_;try simp only [pS]
   refine oT 3 (fun K hK=>?_)
   (go_simp;refine (Jz y.shelf[k] ⟨As,y.shelf[k].length,cs⟩ _ hez (bP.out _ (Br _ _).drew)).mono ?_;rintro e w2 ⟨s2,F2,rfl,o2,n2,b2⟩;(try dsimp only [slV]);have B12:=Bv ((Br wr wr).drew) b2;have z2:=B12.size;simp only [World.size_drew] at n2;have O2:=O.below B12;have X2:=X.below B12;have k0:w2.cell? ⟨w+1+1,2,Ac⟩=Ad v:=O2.cell 2 _ rfl;have d2f:=O2.free;have d2l:=O2.lt;go_simp)
   refine hK.out _ _ (fun _=>?_) ?_
   ·exact k0
   clear hK K;try simp only [pS]
   refine oT 4 (fun K hK=>?_);go_simp;refine hK.out _ _ (fun _=>?_) ?_
   ·(first | assumption | go_keep)
   clear hK K;try simp only [pS]
   refine oT 5 (fun K hK=>?_)
   (refine G4 _ (Dt.list Ch).enc Bp (by rfl) (.tmp 21) (.tmp 24) (by rfl) underlying28 aQ aW aU aR (by rfl) (v:=v) (l:=rs) (by rfl) (hO.below (B12.alloc Bl _)) (by rfl) (Rd.one (Dt.list Ch).enc _ _ (y.shelf[k],s2) Bn rfl 1 (Bs _) (Nat.lt_succ_self _)) Bl Bn Bp (by (try simp only [Bj]);omega) ?_;intro v5 w5 o5 g5 f5;obtain ⟨A5,c5,rfl,-⟩:=id (Rd.of_own o5);simp only [Bd,List.length_singleton] at o5 f5;have dS:=(Br w2 w2).alloc (Bs _) (.cells #[Aa s2.a s2.n s2.c] 74);have O5:=(O2.below dS).off g5 (fun e=>aE e.symm);have m0:w5.cell? ⟨w+1+1,2,Ac⟩=Ad v:=O5.cell 2 _ rfl;have X5:=(X2.below dS).off g5 (fun e=>by have:=hO.within _ e.symm;omega);have fO:=O5.free;have lO:=O5.lt)
   refine hK.out _ _ (fun _=>?_) ?_
   ·exact m0
   clear hK K;try simp only [pS]
   refine oT 6 (fun K hK=>?_);go_simp;refine hK.out _ _ (fun _=>?_) ?_
   ·exact m0
   clear hK K;try simp only [pS]
   refine oT 7 (fun K hK=>?_);go_simp;refine hK.out _ _ (fun aE=>absurd rfl aE) ?_;clear hK K;try simp only [pS]
   refine Eb Bm ?_ _;go_wp2;have Z5:=((Z.below B12).below dS).off g5 (fun e=>by have:=hO.within _ e.symm;omega);have hP:=Bld.push1 (d:=Dt.list Ch) hB B12 o2 (fun b bH=>by have:=n2 b bH;omega) bJ dS o5 g5 f5;have W5:=((hb.trans (B12.mono hb.size)).alloc Bl (.cells #[Aa s2.a s2.n s2.c] 74)).grown g5 (by (try simp only [Bj]);omega) (fun g hg=>by have:=hO.within g hg;omega);have S:Hid (Bls (Dt.list Ch) 74 (w5.setCell ⟨w+1+1,2,Ac⟩ (Aa A5 (rs.length+1) c5)) (w+3) (Aa A5 (rs.length+1) c5) (y.shelf.take (k+1))):=⟨rs ++ [(y.shelf[k],s2)],by rw [List.map_append,hm,Cy y.shelf k aB];rfl,hP.setOther (a:=⟨w+1+1,2,Ac⟩) (by show w.heap.size+1+1<_;omega) _⟩
   have g5s:=g5.size;simp only [Bj] at g5s;have SX:=X5.setOther (a:=⟨w+1+1,2,Ac⟩) (by show w.heap.size≠w.heap.size+1+1;omega) (Aa A5 (rs.length+1) c5);have SZ:=Z5.setOther (a:=⟨w+1+1,2,Ac⟩) (by show w.heap.size+1≠w.heap.size+1+1;omega) (Aa A5 (rs.length+1) c5);have SO:DBox (w+1+1) [J Ab y.now,J Ab y.seq,Aa A5 (rs.length+1) c5,Aa Ac 0 0] (w5.setCell ⟨w+1+1,2,Ac⟩ (Aa A5 (rs.length+1) c5)):=O5.set 2 Bn _;have SW:Below w w (w5.setCell ⟨w+1+1,2,Ac⟩ (Aa A5 (rs.length+1) c5)):=W5.setCell (by show w.heap.size<=w.heap.size+1+1;omega) _;have SS:w.heap.size+3<=(w5.setCell ⟨w+1+1,2,Ac⟩ (Aa A5 (rs.length+1) c5)).heap.size:=by simp [World.setCell];omega
   first
    | exact ⟨⟨k+1,Bl,Bn,Aa A5 (rs.length+1) c5,S,SX,SZ,SO,SW,by simpa using SS⟩,clM⟩
    | exact ⟨⟨k+1,Aa A5 (rs.length+1) c5,Bl,by go_num,S,SX,SZ,SO,SW,SS⟩,clM⟩
    | (refine ⟨?_,clM⟩;(repeat apply Exists.intro);refine ⟨?_,clR⟩;exact ⟨k+1,Aa A5 (rs.length+1) c5,Bl,by go_num,S,SX,SZ,SO,SW,SS⟩)
  ·have aC:¬ (k:Int)<(y.shelf.length:Int):=Bl;have bE:k=y.shelf.length:=Bl;obtain ⟨F1,⟨⟨A9,n9,c9⟩,rfl,OS⟩,nS⟩:∃ F1,(∃ s:Sl,v = Aa s.a s.n s.c/\OwL (Dt.list Ch) wr F1 s.v y.shelf) /\ ∀ b∈F1,w+3<=b:=by
    obtain ⟨rs,hm,hB⟩:=gA.out;rw [bE,List.take_length] at hm;obtain ⟨F,h1,h2⟩:=hB.owl hm;obtain ⟨A,c,rfl,_⟩:=h1.form;exact ⟨F,⟨⟨A,y.shelf.length,c⟩,rfl,h1⟩,h2⟩
   go_wp2;clear X_0 X_1 X_2 X_3 X_l O_0 O_1 O_2 O_3 O_l O_f aB aC bE hk gA;obtain ⟨ws,uX⟩:∃ ws,ws=wr:=⟨_,rfl⟩
   rw [<-uX] at hb X Z O OS bJ ⊢;clear uX;have lS:∀ b∈F1,b<ws:=OS.lt;have hsw3:w.heap.size+3<=ws.heap.size:=bJ;go_loopw [31] (fun i wr=>∃ (k:Nat) (v:Value),k<=y.runs.length/\i = J Ab k/\Hid (Bls Cn 67 wr ws v (y.runs.take k))/\Hid (OwL (Dt.list Ch) wr F1 (Aa A9 n9 c9) y.shelf)/\DBox w [J Ab y.now,J Ab y.seq,Aa A1 y.shelf.length c1,Aa A2 y.runs.length c2] wr/\DBox (w+1) [J Ab 0,J Ab 0,Aa Ac 0 0,Aa Ac 0 0] wr/\DBox (w+1+1) [J Ab y.now,J Ab y.seq,Aa A9 n9 c9,v] wr/\Below w w wr/\ws.heap.size<=wr.heap.size) (fun i _=>y.runs.length - (intOf i).toNat);case atStart=>exact ⟨0,_,Ah _,rfl,⟨[],rfl,Bld.nil _ _ _ _⟩,OS,X,Z,O,hb,Bs _⟩
   case round =>
    clear X Z O hb OS;obtain ⟨k,v,hk,rfl,gA,OS,X,Z,O,hb,jW⟩:=hrel;obtain ⟨X_0,X_1,X_2,X_3,X_l⟩:=X.g4;obtain ⟨O_0,O_1,O_2,O_3,O_l⟩:=O.g4;have O_f:=O.free;by_cases aB:k<y.runs.length
    ·have aC:(k:Int)<(y.runs.length:Int):=Bl;obtain ⟨b,o,⟨⟨A8,n8,c8⟩,⟨At,nt,ct⟩⟩,eG,aH,bP,e0,e1,e2,e3,e4,e5,e6,e7⟩:=(h2.below hb).run aB;subst eG;have bG:b<wr:=Aj aH hb.size;have HRr:=Bq (show ∀ W,Below wr wr W->Cn.rd W W y.runs[k] (⟨A8,n8,c8⟩,⟨At,nt,ct⟩) from fun W hW=>Cn.rd_more (Cn.rd_below (Cn.rd_more bP hb.size) hW) hW.size);have kQ:=HC.out k aB;obtain ⟨rs,hm,hB⟩:=gA.out;have cK:rs.length=k:=by have:=congrArg List.length hm;simpa [Nat.min_eq_left hk] using this
     have hrl':rs.length<=2000000:=Bl;have Hrl:=Bq cK;clear cK;have hO:=hB.ow;have aE:v.ownBlock≠Ad (w.heap.size+1+1):=fun e=>by have:=hO.within _ e;omega
     have T:=DBox.new 67 [J Ab y.runs[k].id,J Ab y.runs[k].plan.prio,J Ab y.runs[k].plan.most,J Ab y.runs[k].plan.wait,J Ab y.runs[k].plan.tasks,Aa A8 n8 c8,J Ab y.runs[k].state,Aa At nt ct] wr rfl;have ha:=(Br wr wr).alloc (Bs _) (.cells #[J Ab y.runs[k].id,J Ab y.runs[k].plan.prio,J Ab y.runs[k].plan.most,J Ab y.runs[k].plan.wait,J Ab y.runs[k].plan.tasks,Aa A8 n8 c8,J Ab y.runs[k].state,Aa At nt ct] 67);go_wp2;generalize hW1:wr.alloc (.cells #[J Ab y.runs[k].id,J Ab y.runs[k].plan.prio,J Ab y.runs[k].plan.most,J Ab y.runs[k].plan.wait,J Ab y.runs[k].plan.tasks,Aa A8 n8 c8,J Ab y.runs[k].state,Aa At nt ct] 67)=w1 at *
     clear hW1 X_0 X_1 X_2 X_3 X_l O_0 O_1 O_2 O_3 O_l O_f e0 e1 e2 e3 e4 e5 e6 e7;have X1:=X.below ha;have O1:=O.below ha;have sa:=ha.size;have Tl:=T.lt;refine Dl (fun w'=>w'.cell? ⟨w+1+1,3,Ac⟩=Ad v/\w'.cell? ⟨wr,0,Ac⟩=Ad (J Ab y.runs[k].id)/\w'.cell? ⟨wr,1,Ac⟩=Ad (J Ab y.runs[k].plan.prio)/\w'.cell? ⟨wr,2,Ac⟩=Ad (J Ab y.runs[k].plan.most)/\w'.cell? ⟨wr,3,Ac⟩=Ad (J Ab y.runs[k].plan.wait)/\w'.cell? ⟨wr,4,Ac⟩=Ad (J Ab y.runs[k].plan.tasks)/\w'.cell? ⟨wr,5,Ac⟩=Ad (Aa A8 n8 c8)/\w'.cell? ⟨wr,6,Ac⟩=Ad (J Ab y.runs[k].state)/\w'.cell? ⟨wr,7,Ac⟩=Ad (Aa At nt ct)) 7 Bm ?_ (fun aA=>?_)
     ·exact ⟨by simpa [go_sem] using O1.cell 3 _ rfl,by simpa [go_sem] using T.cell 0 _ rfl,by simpa [go_sem] using T.cell 1 _ rfl,by simpa [go_sem] using T.cell 2 _ rfl,by simpa [go_sem] using T.cell 3 _ rfl,by simpa [go_sem] using T.cell 4 _ rfl,by simpa [go_sem] using T.cell 5 _ rfl,by simpa [go_sem] using T.cell 6 _ rfl,by simpa [go_sem] using T.cell 7 _ rfl⟩
     refine aT 0 aA ?_;try simp only [pS]
     refine aT 1 aA ?_;try simp only [pS]
     refine aT 2 aA ?_;try simp only [pS]
     refine oT 3 (fun K hK=>?_)
     (go_simp;refine (Ol y.runs[k] (⟨A8,n8,c8⟩,⟨At,nt,ct⟩) _ kQ (HRr.out _ ha.drew)).mono ?_;rintro e w2 ⟨s2,F2,rfl,o2,n2,b2⟩;have B12:=Bv ha (Bv ((Br w1 w1).drew) b2);have z2:=B12.size;simp only [World.size_drew] at n2;have O2:=O.below B12;have k0:w2.cell? ⟨w+1+1,3,Ac⟩=Ad v:=O2.cell 3 _ rfl;have X2:=X.below B12;have T2:=T.below (Bv ((Br w1 w1).drew) b2);have q0:w2.cell? ⟨wr,0,Ac⟩=Ad (J Ab y.runs[k].id):=T2.cell 0 _ rfl;have q1:w2.cell? ⟨wr,1,Ac⟩=Ad (J Ab y.runs[k].plan.prio):=T2.cell 1 _ rfl;have q2:w2.cell? ⟨wr,2,Ac⟩=Ad (J Ab y.runs[k].plan.most):=T2.cell 2 _ rfl;have q3:w2.cell? ⟨wr,3,Ac⟩=Ad (J Ab y.runs[k].plan.wait):=T2.cell 3 _ rfl;have q4:w2.cell? ⟨wr,4,Ac⟩=Ad (J Ab y.runs[k].plan.tasks):=T2.cell 4 _ rfl;have q5:w2.cell? ⟨wr,5,Ac⟩=Ad (Aa A8 n8 c8):=T2.cell 5 _ rfl;have q6:w2.cell? ⟨wr,6,Ac⟩=Ad (J Ab y.runs[k].state):=T2.cell 6 _ rfl;have q7:w2.cell? ⟨wr,7,Ac⟩=Ad (Aa At nt ct):=T2.cell 7 _ rfl;have d2f:=O2.free;have d2l:=O2.lt;go_simp)
     refine hK.out _ _ (fun _=>?_) ?_
     ·exact ⟨k0,q0,q1,q2,q3,q4,q5,q6,q7⟩
     clear hK K;try simp only [pS]
     refine oT 4 (fun K hK=>?_);go_simp;refine hK.out _ _ (fun _=>?_) ?_
     ·(refine ⟨?_,?_,?_,?_,?_,?_,?_,?_,?_⟩<;>first | assumption | go_keep)
     clear hK K;try simp only [pS]
     refine oT 5 (fun K hK=>?_)
     (refine G4 _ Cn.enc Bp (by rfl) (.tmp 36) (.tmp 39) (by rfl) underlying29 bZ jz0 jz1 jz2 (by rfl) (v:=v) (l:=rs) (by rfl) (hO.below (B12.alloc Bl _)) (by rfl) (Rd.one Cn.enc _ _ (y.runs[k],s2) Bn rfl 1 (Bs _) (Nat.lt_succ_self _)) Bl Bn Bp (by (try simp only [Bj]);omega) ?_;intro v5 w5 o5 g5 f5;obtain ⟨A5,c5,rfl,-⟩:=id (Rd.of_own o5);simp only [Bd,List.length_singleton] at o5 f5;have dS:=(Br w2 w2).alloc (Bs _) (.cells #[J Ab y.runs[k].id,J Ab y.runs[k].plan.prio,J Ab y.runs[k].plan.most,J Ab y.runs[k].plan.wait,J Ab y.runs[k].plan.tasks,Aa s2.1.a s2.1.n s2.1.c,J Ab y.runs[k].state,Aa s2.2.a s2.2.n s2.2.c] 67);have O5:=(O2.below dS).off g5 (fun e=>aE e.symm);have m0:w5.cell? ⟨w+1+1,3,Ac⟩=Ad v:=O5.cell 3 _ rfl;have X5:=(X2.below dS).off g5 (fun e=>by have:=hO.within _ e.symm;omega);have T5:=(T2.below dS).off g5 (fun e=>by have:=hO.within _ e.symm;omega);have r0:w5.cell? ⟨wr,0,Ac⟩=Ad (J Ab y.runs[k].id):=T5.cell 0 _ rfl;have r1:w5.cell? ⟨wr,1,Ac⟩=Ad (J Ab y.runs[k].plan.prio):=T5.cell 1 _ rfl;have r2:w5.cell? ⟨wr,2,Ac⟩=Ad (J Ab y.runs[k].plan.most):=T5.cell 2 _ rfl;have r3:w5.cell? ⟨wr,3,Ac⟩=Ad (J Ab y.runs[k].plan.wait):=T5.cell 3 _ rfl;have r4:w5.cell? ⟨wr,4,Ac⟩=Ad (J Ab y.runs[k].plan.tasks):=T5.cell 4 _ rfl;have r5:w5.cell? ⟨wr,5,Ac⟩=Ad (Aa A8 n8 c8):=T5.cell 5 _ rfl;have r6:w5.cell? ⟨wr,6,Ac⟩=Ad (J Ab y.runs[k].state):=T5.cell 6 _ rfl;have r7:w5.cell? ⟨wr,7,Ac⟩=Ad (Aa At nt ct):=T5.cell 7 _ rfl;have fO:=O5.free;have lO:=O5.lt)
     refine hK.out _ _ (fun _=>?_) ?_
     ·exact ⟨m0,r0,r1,r2,r3,r4,r5,r6,r7⟩
     clear hK K;try simp only [pS]
     refine oT 6 (fun K hK=>?_);go_simp;refine hK.out _ _ (fun _=>?_) ?_
     ·exact ⟨m0,r0,r1,r2,r3,r4,r5,r6,r7⟩
     clear hK K;try simp only [pS]
     refine oT 7 (fun K hK=>?_);go_simp;refine hK.out _ _ (fun aE=>absurd rfl aE) ?_;clear hK K;try simp only [pS]
     refine Eb Bm ?_ _;go_wp2;have Z5:=((Z.below B12).below dS).off g5 (fun e=>by have:=hO.within _ e.symm;omega);have OS5:=((OS.out.below B12).below dS).grown g5 (fun b bH e=>by have:=hO.within _ e;have:=lS b bH;omega);have hP:=Bld.push1 (d:=Cn) hB B12 o2 (fun b bH=>by have:=n2 b bH;omega) jW dS o5 g5 f5;have W5:=((hb.trans (B12.mono hb.size)).alloc Bl (.cells #[J Ab y.runs[k].id,J Ab y.runs[k].plan.prio,J Ab y.runs[k].plan.most,J Ab y.runs[k].plan.wait,J Ab y.runs[k].plan.tasks,Aa s2.1.a s2.1.n s2.1.c,J Ab y.runs[k].state,Aa s2.2.a s2.2.n s2.2.c] 67)).grown g5 (by (try simp only [Bj]);omega) (fun g hg=>by have:=hO.within g hg;omega);have S:Hid (Bls Cn 67 (w5.setCell ⟨w+1+1,3,Ac⟩ (Aa A5 (rs.length+1) c5)) ws (Aa A5 (rs.length+1) c5) (y.runs.take (k+1))):=⟨rs ++ [(y.runs[k],s2)],by rw [List.map_append,hm,Cy y.runs k aB];rfl,hP.setOther (a:=⟨w+1+1,3,Ac⟩) (by show w.heap.size+1+1<_;omega) _⟩
     have S2:Hid (OwL (Dt.list Ch) (w5.setCell ⟨w+1+1,3,Ac⟩ (Aa A5 (rs.length+1) c5)) F1 (Aa A9 n9 c9) y.shelf):=OwL.set OS5 (fun hm=>by have:_<=w.heap.size+1+1:=nS _ hm;omega) _;have g5s:=g5.size;simp only [Bj] at g5s;have SX:=X5.setOther (a:=⟨w+1+1,3,Ac⟩) (by show w.heap.size≠w.heap.size+1+1;omega) (Aa A5 (rs.length+1) c5);have SZ:=Z5.setOther (a:=⟨w+1+1,3,Ac⟩) (by show w.heap.size+1≠w.heap.size+1+1;omega) (Aa A5 (rs.length+1) c5);have SO:DBox (w+1+1) [J Ab y.now,J Ab y.seq,Aa A9 n9 c9,Aa A5 (rs.length+1) c5] (w5.setCell ⟨w+1+1,3,Ac⟩ (Aa A5 (rs.length+1) c5)):=O5.set 3 Bn _;have SW:Below w w (w5.setCell ⟨w+1+1,3,Ac⟩ (Aa A5 (rs.length+1) c5)):=W5.setCell (by show w.heap.size<=w.heap.size+1+1;omega) _;have SS:ws.heap.size<=(w5.setCell ⟨w+1+1,3,Ac⟩ (Aa A5 (rs.length+1) c5)).heap.size:=by simp [World.setCell];omega
     first
      | exact ⟨⟨k+1,Bl,Bn,Aa A5 (rs.length+1) c5,S,S2,SX,SZ,SO,SW,by simpa using SS⟩,clM⟩
      | exact ⟨⟨k+1,Aa A5 (rs.length+1) c5,Bl,by go_num,S,S2,SX,SZ,SO,SW,SS⟩,clM⟩
      | (refine ⟨?_,clM⟩;(repeat apply Exists.intro);refine ⟨?_,clR⟩;exact ⟨k+1,Aa A5 (rs.length+1) c5,Bl,by go_num,S,S2,SX,SZ,SO,SW,SS⟩)
    ·have aC:¬ (k:Int)<(y.runs.length:Int):=Bl;have bE:k=y.runs.length:=Bl;obtain ⟨⟨A10,n10,c10⟩,rfl,OR⟩:∃ s:Sl,v = Aa s.a s.n s.c/\Bls Cn 67 wr ws s.v y.runs:=by
      obtain ⟨rs,hm,hB⟩:=gA.out;rw [bE,List.take_length] at hm;obtain ⟨A,c,rfl,_⟩:=hB.rd.form;exact ⟨⟨A,_,c⟩,rfl,rs,hm,hB⟩
     have hws3:=hsw3;have Z_f:=Z.free;obtain ⟨Z_0,Z_1,Z_2,Z_3,Z_l⟩:=Z.g4;go_wp2;refine bodyPost_ret (v:=Dh y (⟨A9,n9,c9⟩,⟨A10,n10,c10⟩)) ?_ rfl ?_
     ·simp [Dh,results,results73,go_sem,Z_0,Z_1,Z_2,Z_3]
     ·have OS1:=OS.out;refine ⟨⟨A9,n9,c9⟩,⟨A10,n10,c10⟩,F1,ws.heap.size,rfl,?_,fun b bH=>⟨by have:=nS b bH;omega,lS b bH⟩,Bl,?_,?_,?_⟩
      ·have hn:w.heap.size+1∉F1:=fun hm=>by have:=nS _ hm;omega
       show OwL (Dt.list Ch) _ F1 (Aa A9 n9 c9) y.shelf;repeat (first | (with_reducible exact OS1) | refine OwL.set ?_ hn _)
      ·simp [World.setCell];exact jW
      ·repeat (first | (with_reducible exact OR) | refine Bls.setOther ?_ (by show w.heap.size+1<ws.heap.size;omega) _)
      ·repeat (first | (with_reducible exact hb) | refine Ae ?_ (by first | (simp;done) | (simp;omega)) _)
theorem Gj (y:Yard) (s:Sl×Sl) (w:World) (hl:Cf y<=2000000) (h:Bu.rd w w y s) :
  Calls An 73 #[Dh y s] w (Fa Bu Dh y w):=(K2 y s w hl h).mono fun _ _ h=>h.own
theorem Nl (y:Yard) (s:Sl×Sl) (w:World) (hl:Cf y<=2000000) (h:Bu.rd w w y s) :
  Calls An 100 #[Dh y s] w (CopyYPost y w):=by
 obtain ⟨⟨A1,n1,c1⟩,⟨A2,n2,c2⟩⟩:=s;obtain rfl:n1=y.shelf.length:=RdL.at1 (s:=⟨A1,n1,c1⟩) h.1;obtain rfl:n2=y.runs.length:=RdL.at1 (s:=⟨A2,n2,c2⟩) h.2;have h1:RdL (Dt.list Ch) w w (Aa A1 y.shelf.length c1) y.shelf:=h.1;have h2:RdL Cn w w (Aa A2 y.runs.length c2) y.runs:=h.2;have eJ:y.runs.length<=2000000:=Ai (Cv Dc _) (by unfold Cf at hl;omega);have hls:y.shelf.length<=2000000:=Ai (Cv Dp _) (by unfold Cf at hl;omega);have HE:=Bq (show ∀ k (hk:k<y.shelf.length),y.shelf[k].length<=2000000 from fun k hk=>by
  have:=Gw (cnt:=Dp) (Ax hk)
  have h2:y.shelf[k].length<=Dp y.shelf[k]:=Cv Kk _;unfold Cf at hl;omega)
 have HC:=Bq (show ∀ k (hk:k<y.runs.length),Dc y.runs[k]<=2000000 from fun k hk=>by
  have:=Gw (cnt:=Dc) (Ax hk)
  unfold Cf at hl;omega)
 clear h;obtain ⟨W,aG,X,Z,O,B0⟩:=bx3 w 31 [J Ab y.now,J Ab y.seq,Aa A1 y.shelf.length c1,Aa A2 y.runs.length c2] 31 [J Ab 0,J Ab 0,Aa Ac 0 0,Aa Ac 0 0] 31 [J Ab y.now,J Ab y.seq,Aa Ac 0 0,Aa Ac 0 0];obtain ⟨i0,aQ,aW,aU,aR⟩:=info_parts Lx;obtain ⟨e0,he0,ez0,ez1,ez2⟩:=info_parts Gi;obtain ⟨j0,bZ,jz0,jz1,jz2⟩:=info_parts L9;go_enter func100,ntmps100;go_wp2;rw [<-aG.out];clear aG;have pW:w.heap.size+3<=W.heap.size:=O.lt;go_loopw [4] (fun i wr=>∃ (k:Nat) (v:Value),k<=y.shelf.length/\i = J Ab k/\Hid (Bls (Dt.list Ch) 74 wr (w+3) v (y.shelf.take k))/\DBox w [J Ab y.now,J Ab y.seq,Aa A1 y.shelf.length c1,Aa A2 y.runs.length c2] wr/\DBox (w+1) [J Ab 0,J Ab 0,Aa Ac 0 0,Aa Ac 0 0] wr/\DBox (w+1+1) [J Ab y.now,J Ab y.seq,v,Aa Ac 0 0] wr/\Below w w wr/\w.heap.size+3<=wr.heap.size) (fun i _=>y.shelf.length - (intOf i).toNat);case atStart=>exact ⟨0,_,Ah _,rfl,⟨[],rfl,Bld.nil _ _ _ _⟩,X,Z,O,B0,pW⟩
 case round =>
  clear X Z O B0 pW;obtain ⟨k,v,hk,rfl,gA,X,Z,O,hb,bJ⟩:=hrel;obtain ⟨X_0,X_1,X_2,X_3,X_l⟩:=X.g4;obtain ⟨O_0,O_1,O_2,O_3,O_l⟩:=O.g4;have O_f:=O.free;by_cases aB:k<y.shelf.length
  ·have aC:(k:Int)<(y.shelf.length:Int):=Bl;obtain ⟨b,o,⟨As,ns,cs⟩,mF,aH,hr,d0⟩:=(h1.below hb).entryS aB;obtain rfl:ns=y.shelf[k].length:=RdL.at1 (s:=⟨As,ns,cs⟩) hr;subst mF;have bG:b<wr:=Aj aH hb.size;have hez:=HE.out k aB;obtain ⟨rs,hm,hB⟩:=gA.out;have cK:rs.length=k:=by have:=congrArg List.length hm;simpa [Nat.min_eq_left hk] using this
   have hrl':rs.length<=2000000:=Bl;have Hrl:=Bq cK;clear cK;have hO:=hB.ow;have aE:v.ownBlock≠Ad (w.heap.size+1+1):=fun e=>by have:=hO.within _ e;omega
   have bP:=Bq (show ∀ W,Below wr wr W->RdL Ch W W (Sl.v ⟨As,y.shelf[k].length,cs⟩) y.shelf[k] from fun W hW=>RdL.more (RdL.below (RdL.more hr hb.size) hW) hW.size);go_wp2;refine Dl (fun w'=>w'.cell? ⟨w+1+1,2,Ac⟩=Ad v/\w'.cell? ⟨w,2,Ac⟩=Ad (Aa (Ad ⟨b,o,Ac⟩) y.shelf.length c1)/\w'.cell? ⟨b,o+k,Ac⟩=Ad (Aa As y.shelf[k].length cs)) 12 Bm ?_ (fun aA=>?_)
   ·exact ⟨by simpa [go_sem] using O_2,by simpa [go_sem] using X_2,by simpa [go_sem] using d0⟩
   refine aT 0 aA ?_;try simp only [pS]
   refine aT 1 aA ?_;try simp only [pS]
   refine aT 3 aA ?_;try simp only [pS]
   refine aT 4 aA ?_;try simp only [pS]
   refine aT 5 aA ?_;try simp only [pS]
   refine aT 6 aA ?_;try simp only [pS]
   refine aT 7 aA ?_;try simp only [pS]
   refine oT 2 (fun K hK=>?_);go_simp;refine hK.out _ _ (fun _=>?_) ?_
   ·(refine ⟨?_,?_,?_⟩<;>first | assumption | go_keep)
   clear hK K;try simp only [pS]
   refine oT 8 (fun K hK=>?_)
   (refine G4 _ Cw Bp (by rfl) (.tmp 20) (.tmp 25) (by rfl) underlying74 he0 ez0 ez1 ez2 (by rfl) (v:=Aa (Ad ⟨wr,0,Ac⟩) 0 0) (l:=[]) (by rfl) (Ow.empty Cw 71 wr.drew (g:=wr) Bn) (by rfl) (J3 (bP.out _ ((Br wr wr).drew.alloc Bn _))) Bn Bl Bp Bn ?_;intro v2 w2 o2' g2 f2;rw [List.nil_append] at o2';have B12:Below wr wr w2:=(((Br wr wr).drew.alloc Bn _).grown g2 Bn (fun g hg=>by simp [Value.ownBlock] at hg;omega));obtain ⟨s2,F2,rfl,o2,n2⟩:=Ib o2';have O2:=O.below B12;have X2:=X.below B12;have k0:w2.cell? ⟨w+1+1,2,Ac⟩=Ad v:=O2.cell 2 _ rfl;have k1:w2.cell? ⟨w,2,Ac⟩=Ad (Aa (Ad ⟨b,o,Ac⟩) y.shelf.length c1):=X2.cell 2 _ rfl;have k2:w2.cell? ⟨b,o+k,Ac⟩=Ad (Aa As y.shelf[k].length cs):=(B12.cell (p:=⟨b,o+k,Ac⟩) bG).trans d0;have z2:=B12.size;have d2f:=O2.free;have d2l:=O2.lt)
   refine hK.out _ _ (fun _=>?_) ?_
   ·exact ⟨k0,k1,k2⟩
   clear hK K;try simp only [pS]
   refine oT 9 (fun K hK=>?_);go_simp;refine hK.out _ _ (fun _=>?_) ?_
   ·(refine ⟨?_,?_,?_⟩<;>first | assumption | go_keep)
   clear hK K;try simp only [pS]
   refine oT 10 (fun K hK=>?_)
   (refine G4 _ (Dt.list Ch).enc Bp (by rfl) (.tmp 19) (.tmp 27) (by rfl) underlying28 aQ aW aU aR (by rfl) (v:=v) (l:=rs) (by rfl) (hO.below (B12.alloc Bl _)) (by rfl) (Rd.one (Dt.list Ch).enc _ _ (y.shelf[k],s2) Bn rfl 1 (Bs _) (Nat.lt_succ_self _)) Bl Bn Bp (by (try simp only [Bj]);omega) ?_;intro v5 w5 o5 g5 f5;obtain ⟨A5,c5,rfl,-⟩:=id (Rd.of_own o5);simp only [Bd,List.length_singleton] at o5 f5;have dS:=(Br w2 w2).alloc (Bs _) (.cells #[Aa s2.a s2.n s2.c] 74);have O5:=(O2.below dS).off g5 (fun e=>aE e.symm);have m0:w5.cell? ⟨w+1+1,2,Ac⟩=Ad v:=O5.cell 2 _ rfl;have X5:=(X2.below dS).off g5 (fun e=>by have:=hO.within _ e.symm;omega);have m1:w5.cell? ⟨w,2,Ac⟩=Ad (Aa (Ad ⟨b,o,Ac⟩) y.shelf.length c1):=X5.cell 2 _ rfl;have m2:w5.cell? ⟨b,o+k,Ac⟩=Ad (Aa As y.shelf[k].length cs):=(g5.cell_far ⟨b,o+k,Ac⟩ (by simp;omega) (fun e=>by have:_<=b/\b<_:=hO.within _ e.symm;omega)).trans ((dS.cell (p:=⟨b,o+k,Ac⟩) (by show b<_;omega)).trans k2);have fO:=O5.free;have lO:=O5.lt)
   refine hK.out _ _ (fun _=>?_) ?_
   ·exact ⟨m0,m1,m2⟩
   clear hK K;try simp only [pS]
   refine oT 11 (fun K hK=>?_);go_simp;refine hK.out _ _ (fun _=>?_) ?_
   ·exact ⟨m0,m1,m2⟩
   clear hK K;try simp only [pS]
   refine oT 12 (fun K hK=>?_);go_simp;refine hK.out _ _ (fun aE=>absurd rfl aE) ?_;clear hK K;try simp only [pS]
   refine Eb Bm ?_ _;go_wp2;have Z5:=((Z.below B12).below dS).off g5 (fun e=>by have:=hO.within _ e.symm;omega);have hP:=Bld.push1 (d:=Dt.list Ch) hB B12 o2 (fun b bH=>by have:=n2 b bH;omega) bJ dS o5 g5 f5;have W5:=((hb.trans (B12.mono hb.size)).alloc Bl (.cells #[Aa s2.a s2.n s2.c] 74)).grown g5 (by (try simp only [Bj]);omega) (fun g hg=>by have:=hO.within g hg;omega);have S:Hid (Bls (Dt.list Ch) 74 (w5.setCell ⟨w+1+1,2,Ac⟩ (Aa A5 (rs.length+1) c5)) (w+3) (Aa A5 (rs.length+1) c5) (y.shelf.take (k+1))):=⟨rs ++ [(y.shelf[k],s2)],by rw [List.map_append,hm,Cy y.shelf k aB];rfl,hP.setOther (a:=⟨w+1+1,2,Ac⟩) (by show w.heap.size+1+1<_;omega) _⟩
   have g5s:=g5.size;simp only [Bj] at g5s;have SX:=X5.setOther (a:=⟨w+1+1,2,Ac⟩) (by show w.heap.size≠w.heap.size+1+1;omega) (Aa A5 (rs.length+1) c5);have SZ:=Z5.setOther (a:=⟨w+1+1,2,Ac⟩) (by show w.heap.size+1≠w.heap.size+1+1;omega) (Aa A5 (rs.length+1) c5);have SO:DBox (w+1+1) [J Ab y.now,J Ab y.seq,Aa A5 (rs.length+1) c5,Aa Ac 0 0] (w5.setCell ⟨w+1+1,2,Ac⟩ (Aa A5 (rs.length+1) c5)):=O5.set 2 Bn _;have SW:Below w w (w5.setCell ⟨w+1+1,2,Ac⟩ (Aa A5 (rs.length+1) c5)):=W5.setCell (by show w.heap.size<=w.heap.size+1+1;omega) _;have SS:w.heap.size+3<=(w5.setCell ⟨w+1+1,2,Ac⟩ (Aa A5 (rs.length+1) c5)).heap.size:=by simp [World.setCell];omega
   first
    | exact ⟨⟨k+1,Bl,Bn,Aa A5 (rs.length+1) c5,S,SX,SZ,SO,SW,by simpa using SS⟩,clM⟩
    | exact ⟨⟨k+1,Aa A5 (rs.length+1) c5,Bl,by go_num,S,SX,SZ,SO,SW,SS⟩,clM⟩
    | (refine ⟨?_,clM⟩;(repeat apply Exists.intro);refine ⟨?_,clR⟩;exact ⟨k+1,Aa A5 (rs.length+1) c5,Bl,by go_num,S,SX,SZ,SO,SW,SS⟩)
  ·have aC:¬ (k:Int)<(y.shelf.length:Int):=Bl;have bE:k=y.shelf.length:=Bl;obtain ⟨F1,⟨⟨A9,n9,c9⟩,rfl,OS⟩,nS⟩:∃ F1,(∃ s:Sl,v = Aa s.a s.n s.c/\OwL (Dt.list Ch) wr F1 s.v y.shelf) /\ ∀ b∈F1,w+3<=b:=by
    obtain ⟨rs,hm,hB⟩:=gA.out;rw [bE,List.take_length] at hm;obtain ⟨F,h1,h2⟩:=hB.owl hm;obtain ⟨A,c,rfl,_⟩:=h1.form;exact ⟨F,⟨⟨A,y.shelf.length,c⟩,rfl,h1⟩,h2⟩
   go_wp2;clear X_0 X_1 X_2 X_3 X_l O_0 O_1 O_2 O_3 O_l O_f aB aC bE hk gA;obtain ⟨ws,uX⟩:∃ ws,ws=wr:=⟨_,rfl⟩
   rw [<-uX] at hb X Z O OS bJ ⊢;clear uX;have lS:∀ b∈F1,b<ws:=OS.lt;have hsw3:w.heap.size+3<=ws.heap.size:=bJ;go_loopw [5] (fun i wr=>∃ (k:Nat) (v:Value),k<=y.runs.length/\i = J Ab k/\Hid (Bls Cn 67 wr ws v (y.runs.take k))/\Hid (OwL (Dt.list Ch) wr F1 (Aa A9 n9 c9) y.shelf)/\DBox w [J Ab y.now,J Ab y.seq,Aa A1 y.shelf.length c1,Aa A2 y.runs.length c2] wr/\DBox (w+1) [J Ab 0,J Ab 0,Aa Ac 0 0,Aa Ac 0 0] wr/\DBox (w+1+1) [J Ab y.now,J Ab y.seq,Aa A9 n9 c9,v] wr/\Below w w wr/\ws.heap.size<=wr.heap.size) (fun i _=>y.runs.length - (intOf i).toNat);case atStart=>exact ⟨0,_,Ah _,rfl,⟨[],rfl,Bld.nil _ _ _ _⟩,OS,X,Z,O,hb,Bs _⟩
   case round =>
    clear X Z O hb OS;obtain ⟨k,v,hk,rfl,gA,OS,X,Z,O,hb,jW⟩:=hrel;obtain ⟨X_0,X_1,X_2,X_3,X_l⟩:=X.g4;obtain ⟨O_0,O_1,O_2,O_3,O_l⟩:=O.g4;have O_f:=O.free;by_cases aB:k<y.runs.length
    ·have aC:(k:Int)<(y.runs.length:Int):=Bl;obtain ⟨b,o,⟨⟨A8,n8,c8⟩,⟨At,nt,ct⟩⟩,eG,aH,bP,e0,e1,e2,e3,e4,e5,e6,e7⟩:=(h2.below hb).run aB;subst eG;have bG:b<wr:=Aj aH hb.size;have HRr:=Bq (show ∀ W,Below wr wr W->Cn.rd W W y.runs[k] (⟨A8,n8,c8⟩,⟨At,nt,ct⟩) from fun W hW=>Cn.rd_more (Cn.rd_below (Cn.rd_more bP hb.size) hW) hW.size);have kQ:=HC.out k aB;obtain ⟨rs,hm,hB⟩:=gA.out;have cK:rs.length=k:=by have:=congrArg List.length hm;simpa [Nat.min_eq_left hk] using this
     have hrl':rs.length<=2000000:=Bl;have Hrl:=Bq cK;clear cK;have hO:=hB.ow;have aE:v.ownBlock≠Ad (w.heap.size+1+1):=fun e=>by have:=hO.within _ e;omega
     go_wp2;refine Dl (fun w'=>w'.cell? ⟨w+1+1,3,Ac⟩=Ad v/\w'.cell? ⟨w,3,Ac⟩=Ad (Aa (Ad ⟨b,o,Ac⟩) y.runs.length c2)/\w'.cell? ⟨b,o+k * 8,Ac⟩=Ad (J Ab y.runs[k].id)/\w'.cell? ⟨b,o+k * 8+1,Ac⟩=Ad (J Ab y.runs[k].plan.prio)/\w'.cell? ⟨b,o+k * 8+2,Ac⟩=Ad (J Ab y.runs[k].plan.most)/\w'.cell? ⟨b,o+k * 8+3,Ac⟩=Ad (J Ab y.runs[k].plan.wait)/\w'.cell? ⟨b,o+k * 8+4,Ac⟩=Ad (J Ab y.runs[k].plan.tasks)/\w'.cell? ⟨b,o+k * 8+5,Ac⟩=Ad (Aa A8 n8 c8)/\w'.cell? ⟨b,o+k * 8+6,Ac⟩=Ad (J Ab y.runs[k].state)/\w'.cell? ⟨b,o+k * 8+7,Ac⟩=Ad (Aa At nt ct)) 11 Bm ?_ (fun aA=>?_)
     ·exact ⟨by simpa [go_sem] using O_3,by simpa [go_sem] using X_3,by simpa [go_sem] using e0,by simpa [go_sem] using e1,by simpa [go_sem] using e2,by simpa [go_sem] using e3,by simpa [go_sem] using e4,by simpa [go_sem] using e5,by simpa [go_sem] using e6,by simpa [go_sem] using e7⟩
     refine aT 0 aA ?_;try simp only [pS]
     refine aT 1 aA ?_;try simp only [pS]
     refine aT 2 aA ?_;try simp only [pS]
     refine aT 3 aA ?_;try simp only [pS]
     refine aT 4 aA ?_;try simp only [pS]
     refine aT 5 aA ?_;try simp only [pS]
     refine aT 6 aA ?_;try simp only [pS]
     refine oT 7 (fun K hK=>?_)
     (go_simp;refine (I4 y.runs[k] (⟨A8,n8,c8⟩,⟨At,nt,ct⟩) _ kQ (HRr.out _ (Br _ _).drew)).mono ?_;rintro e w2 ⟨s2,F2,rfl,o2,n2,b2⟩;have B12:=Bv ((Br wr wr).drew) b2;have z2:=B12.size;simp only [World.size_drew] at n2;have O2:=O.below B12;have k0:w2.cell? ⟨w+1+1,3,Ac⟩=Ad v:=O2.cell 3 _ rfl;have X2:=X.below B12;have k1:w2.cell? ⟨w,3,Ac⟩=Ad (Aa (Ad ⟨b,o,Ac⟩) y.runs.length c2):=X2.cell 3 _ rfl;have q0:w2.cell? ⟨b,o+k * 8,Ac⟩=Ad (J Ab y.runs[k].id):=(B12.cell (p:=⟨b,o+k * 8,Ac⟩) bG).trans e0;have q1:w2.cell? ⟨b,o+k * 8+1,Ac⟩=Ad (J Ab y.runs[k].plan.prio):=(B12.cell (p:=⟨b,o+k * 8+1,Ac⟩) bG).trans e1;have q2:w2.cell? ⟨b,o+k * 8+2,Ac⟩=Ad (J Ab y.runs[k].plan.most):=(B12.cell (p:=⟨b,o+k * 8+2,Ac⟩) bG).trans e2;have q3:w2.cell? ⟨b,o+k * 8+3,Ac⟩=Ad (J Ab y.runs[k].plan.wait):=(B12.cell (p:=⟨b,o+k * 8+3,Ac⟩) bG).trans e3;have q4:w2.cell? ⟨b,o+k * 8+4,Ac⟩=Ad (J Ab y.runs[k].plan.tasks):=(B12.cell (p:=⟨b,o+k * 8+4,Ac⟩) bG).trans e4;have q5:w2.cell? ⟨b,o+k * 8+5,Ac⟩=Ad (Aa A8 n8 c8):=(B12.cell (p:=⟨b,o+k * 8+5,Ac⟩) bG).trans e5;have q6:w2.cell? ⟨b,o+k * 8+6,Ac⟩=Ad (J Ab y.runs[k].state):=(B12.cell (p:=⟨b,o+k * 8+6,Ac⟩) bG).trans e6;have q7:w2.cell? ⟨b,o+k * 8+7,Ac⟩=Ad (Aa At nt ct):=(B12.cell (p:=⟨b,o+k * 8+7,Ac⟩) bG).trans e7;have d2f:=O2.free;have d2l:=O2.lt;go_simp)
     refine hK.out _ _ (fun _=>?_) ?_
     ·exact ⟨k0,k1,q0,q1,q2,q3,q4,q5,q6,q7⟩
     clear hK K;try simp only [pS]
     refine oT 8 (fun K hK=>?_);go_simp;refine hK.out _ _ (fun _=>?_) ?_
     ·(refine ⟨?_,?_,?_,?_,?_,?_,?_,?_,?_,?_⟩<;>first | assumption | go_keep)
     clear hK K;try simp only [pS]
     refine oT 9 (fun K hK=>?_)
     (refine G4 _ Cn.enc Bp (by rfl) (.tmp 38) (.tmp 45) (by rfl) underlying29 bZ jz0 jz1 jz2 (by rfl) (v:=v) (l:=rs) (by rfl) (hO.below (B12.alloc Bl _)) (by rfl) (Rd.one Cn.enc _ _ (y.runs[k],s2) Bn rfl 1 (Bs _) (Nat.lt_succ_self _)) Bl Bn Bp (by (try simp only [Bj]);omega) ?_;intro v5 w5 o5 g5 f5;obtain ⟨A5,c5,rfl,-⟩:=id (Rd.of_own o5);simp only [Bd,List.length_singleton] at o5 f5;have dS:=(Br w2 w2).alloc (Bs _) (.cells #[J Ab y.runs[k].id,J Ab y.runs[k].plan.prio,J Ab y.runs[k].plan.most,J Ab y.runs[k].plan.wait,J Ab y.runs[k].plan.tasks,Aa s2.1.a s2.1.n s2.1.c,J Ab y.runs[k].state,Aa s2.2.a s2.2.n s2.2.c] 67);have O5:=(O2.below dS).off g5 (fun e=>aE e.symm);have m0:w5.cell? ⟨w+1+1,3,Ac⟩=Ad v:=O5.cell 3 _ rfl;have X5:=(X2.below dS).off g5 (fun e=>by have:=hO.within _ e.symm;omega);have m1:w5.cell? ⟨w,3,Ac⟩=Ad (Aa (Ad ⟨b,o,Ac⟩) y.runs.length c2):=X5.cell 3 _ rfl;have r0:w5.cell? ⟨b,o+k * 8,Ac⟩=Ad (J Ab y.runs[k].id):=(g5.cell_far ⟨b,o+k * 8,Ac⟩ (by simp;omega) (fun e=>by have:_<=b/\b<_:=hO.within _ e.symm;omega)).trans ((dS.cell (p:=⟨b,o+k * 8,Ac⟩) (by show b<_;omega)).trans q0);have r1:w5.cell? ⟨b,o+k * 8+1,Ac⟩=Ad (J Ab y.runs[k].plan.prio):=(g5.cell_far ⟨b,o+k * 8+1,Ac⟩ (by simp;omega) (fun e=>by have:_<=b/\b<_:=hO.within _ e.symm;omega)).trans ((dS.cell (p:=⟨b,o+k * 8+1,Ac⟩) (by show b<_;omega)).trans q1);have r2:w5.cell? ⟨b,o+k * 8+2,Ac⟩=Ad (J Ab y.runs[k].plan.most):=(g5.cell_far ⟨b,o+k * 8+2,Ac⟩ (by simp;omega) (fun e=>by have:_<=b/\b<_:=hO.within _ e.symm;omega)).trans ((dS.cell (p:=⟨b,o+k * 8+2,Ac⟩) (by show b<_;omega)).trans q2);have r3:w5.cell? ⟨b,o+k * 8+3,Ac⟩=Ad (J Ab y.runs[k].plan.wait):=(g5.cell_far ⟨b,o+k * 8+3,Ac⟩ (by simp;omega) (fun e=>by have:_<=b/\b<_:=hO.within _ e.symm;omega)).trans ((dS.cell (p:=⟨b,o+k * 8+3,Ac⟩) (by show b<_;omega)).trans q3);have r4:w5.cell? ⟨b,o+k * 8+4,Ac⟩=Ad (J Ab y.runs[k].plan.tasks):=(g5.cell_far ⟨b,o+k * 8+4,Ac⟩ (by simp;omega) (fun e=>by have:_<=b/\b<_:=hO.within _ e.symm;omega)).trans ((dS.cell (p:=⟨b,o+k * 8+4,Ac⟩) (by show b<_;omega)).trans q4);have r5:w5.cell? ⟨b,o+k * 8+5,Ac⟩=Ad (Aa A8 n8 c8):=(g5.cell_far ⟨b,o+k * 8+5,Ac⟩ (by simp;omega) (fun e=>by have:_<=b/\b<_:=hO.within _ e.symm;omega)).trans ((dS.cell (p:=⟨b,o+k * 8+5,Ac⟩) (by show b<_;omega)).trans q5);have r6:w5.cell? ⟨b,o+k * 8+6,Ac⟩=Ad (J Ab y.runs[k].state):=(g5.cell_far ⟨b,o+k * 8+6,Ac⟩ (by simp;omega) (fun e=>by have:_<=b/\b<_:=hO.within _ e.symm;omega)).trans ((dS.cell (p:=⟨b,o+k * 8+6,Ac⟩) (by show b<_;omega)).trans q6);have r7:w5.cell? ⟨b,o+k * 8+7,Ac⟩=Ad (Aa At nt ct):=(g5.cell_far ⟨b,o+k * 8+7,Ac⟩ (by simp;omega) (fun e=>by have:_<=b/\b<_:=hO.within _ e.symm;omega)).trans ((dS.cell (p:=⟨b,o+k * 8+7,Ac⟩) (by show b<_;omega)).trans q7);have fO:=O5.free;have lO:=O5.lt)
     refine hK.out _ _ (fun _=>?_) ?_
     ·exact ⟨m0,m1,r0,r1,r2,r3,r4,r5,r6,r7⟩
     clear hK K;try simp only [pS]
     refine oT 10 (fun K hK=>?_);go_simp;refine hK.out _ _ (fun _=>?_) ?_
     ·exact ⟨m0,m1,r0,r1,r2,r3,r4,r5,r6,r7⟩
     clear hK K;try simp only [pS]
     refine oT 11 (fun K hK=>?_);go_simp;refine hK.out _ _ (fun aE=>absurd rfl aE) ?_;clear hK K;try simp only [pS]
     refine Eb Bm ?_ _;go_wp2;have Z5:=((Z.below B12).below dS).off g5 (fun e=>by have:=hO.within _ e.symm;omega);have OS5:=((OS.out.below B12).below dS).grown g5 (fun b bH e=>by have:=hO.within _ e;have:=lS b bH;omega);have hP:=Bld.push1 (d:=Cn) hB B12 o2 (fun b bH=>by have:=n2 b bH;omega) jW dS o5 g5 f5;have W5:=((hb.trans (B12.mono hb.size)).alloc Bl (.cells #[J Ab y.runs[k].id,J Ab y.runs[k].plan.prio,J Ab y.runs[k].plan.most,J Ab y.runs[k].plan.wait,J Ab y.runs[k].plan.tasks,Aa s2.1.a s2.1.n s2.1.c,J Ab y.runs[k].state,Aa s2.2.a s2.2.n s2.2.c] 67)).grown g5 (by (try simp only [Bj]);omega) (fun g hg=>by have:=hO.within g hg;omega);have S:Hid (Bls Cn 67 (w5.setCell ⟨w+1+1,3,Ac⟩ (Aa A5 (rs.length+1) c5)) ws (Aa A5 (rs.length+1) c5) (y.runs.take (k+1))):=⟨rs ++ [(y.runs[k],s2)],by rw [List.map_append,hm,Cy y.runs k aB];rfl,hP.setOther (a:=⟨w+1+1,3,Ac⟩) (by show w.heap.size+1+1<_;omega) _⟩
     have S2:Hid (OwL (Dt.list Ch) (w5.setCell ⟨w+1+1,3,Ac⟩ (Aa A5 (rs.length+1) c5)) F1 (Aa A9 n9 c9) y.shelf):=OwL.set OS5 (fun hm=>by have:_<=w.heap.size+1+1:=nS _ hm;omega) _;have g5s:=g5.size;simp only [Bj] at g5s;have SX:=X5.setOther (a:=⟨w+1+1,3,Ac⟩) (by show w.heap.size≠w.heap.size+1+1;omega) (Aa A5 (rs.length+1) c5);have SZ:=Z5.setOther (a:=⟨w+1+1,3,Ac⟩) (by show w.heap.size+1≠w.heap.size+1+1;omega) (Aa A5 (rs.length+1) c5);have SO:DBox (w+1+1) [J Ab y.now,J Ab y.seq,Aa A9 n9 c9,Aa A5 (rs.length+1) c5] (w5.setCell ⟨w+1+1,3,Ac⟩ (Aa A5 (rs.length+1) c5)):=O5.set 3 Bn _;have SW:Below w w (w5.setCell ⟨w+1+1,3,Ac⟩ (Aa A5 (rs.length+1) c5)):=W5.setCell (by show w.heap.size<=w.heap.size+1+1;omega) _;have SS:ws.heap.size<=(w5.setCell ⟨w+1+1,3,Ac⟩ (Aa A5 (rs.length+1) c5)).heap.size:=by simp [World.setCell];omega
     first
      | exact ⟨⟨k+1,Bl,Bn,Aa A5 (rs.length+1) c5,S,S2,SX,SZ,SO,SW,by simpa using SS⟩,clM⟩
      | exact ⟨⟨k+1,Aa A5 (rs.length+1) c5,Bl,by go_num,S,S2,SX,SZ,SO,SW,SS⟩,clM⟩
      | (refine ⟨?_,clM⟩;(repeat apply Exists.intro);refine ⟨?_,clR⟩;exact ⟨k+1,Aa A5 (rs.length+1) c5,Bl,by go_num,S,S2,SX,SZ,SO,SW,SS⟩)
    ·have aC:¬ (k:Int)<(y.runs.length:Int):=Bl;have bE:k=y.runs.length:=Bl;obtain ⟨⟨A10,n10,c10⟩,rfl,OR⟩:∃ s:Sl,v = Aa s.a s.n s.c/\Bls Cn 67 wr ws s.v y.runs:=by
      obtain ⟨rs,hm,hB⟩:=gA.out;rw [bE,List.take_length] at hm;obtain ⟨A,c,rfl,_⟩:=hB.rd.form;exact ⟨⟨A,_,c⟩,rfl,rs,hm,hB⟩
     have hws3:=hsw3;have Z_f:=Z.free;obtain ⟨Z_0,Z_1,Z_2,Z_3,Z_l⟩:=Z.g4;go_wp2;refine bodyPost_ret (v:=Dh y (⟨A9,n9,c9⟩,⟨A10,n10,c10⟩)) ?_ rfl ?_
     ·simp [Dh,results,results100,go_sem,Z_0,Z_1,Z_2,Z_3]
     ·have OS1:=OS.out;refine ⟨⟨A9,n9,c9⟩,⟨A10,n10,c10⟩,F1,ws.heap.size,rfl,?_,fun b bH=>⟨by have:=nS b bH;omega,lS b bH⟩,Bl,?_,?_,?_⟩
      ·have hn:w.heap.size+1∉F1:=fun hm=>by have:=nS _ hm;omega
       show OwL (Dt.list Ch) _ F1 (Aa A9 n9 c9) y.shelf;repeat (first | (with_reducible exact OS1) | refine OwL.set ?_ hn _)
      ·simp [World.setCell];exact jW
      ·repeat (first | (with_reducible exact OR) | refine Bls.setOther ?_ (by show w.heap.size+1<ws.heap.size;omega) _)
      ·repeat (first | (with_reducible exact hb) | refine Ae ?_ (by first | (simp;done) | (simp;omega)) _)
theorem Fh (y:Yard) (s:Sl×Sl) (w:World) (hl:Cf y<=2000000) (h:Bu.rd w w y s) :
  Calls An 100 #[Dh y s] w (Fa Bu Dh y w):=(Nl y s w hl h).mono fun _ _ h=>h.own
theorem Qr (b:Nat):∀ (us:List Value) (o:Nat) (w:World),w.setCells b o us=Is w b o us
 | [],_,_=>rfl
 | u :: us,o,w=>by rw [World.setCells,Is,Qr b us (o+1)]
theorem Om {P:Program} (w:World) (t e ty:TypeId) (z:Value) (ht:P.underlying t=Ad (.slice e)) (hv:∀ w,(zeroValue e).run P w = .ok z w) (b o n c:Nat) (hn:0<n) (h1:∀ v∈z.cells,v.oneCell'=true)
  (hc:∀ j,j<n * z.cells.size->(w.cell? ⟨b,o+j,Ac⟩).isSome=true) (hf:∀ j,w.frozen? ⟨b,j,Ac⟩=false) :
  (Builtin.clear_ #[t] ty #[Aa (Ad ⟨b,o,Ac⟩) n c]).run P w = .ok (.tuple #[]) (Is w b o (Builtin.zeroCells z.cells n).toList):=by
 have hl:(Builtin.zeroCells z.cells n).toList.length=n * z.cells.size:=by simp [Builtin.zeroCells]
 have bL:=run_storeCells_cells (P:=P) b o (Builtin.zeroCells z.cells n).toList 0 w (by rw [hl];simpa using hc) (fun j _=>hf _) (by
  intro v mT;simp only [Builtin.zeroCells,Array.toList_map,Array.toList_range,List.mem_map,List.mem_range] at mT;obtain ⟨i,hi,rfl⟩:=mT;have hz:0<z.cells.size:=Nat.pos_of_ne_zero (fun h=>by rw [h] at hi;simp at hi);have aB:i % z.cells.size<z.cells.size:=Nat.mod_lt _ hz;rw [getElem!_pos z.cells (i % z.cells.size) aB];exact h1 _ (Array.getElem_mem aB))
 simp only [Nat.add_zero] at bL;obtain ⟨m,rfl⟩:∃ m,n=m+1:=⟨n - 1,Bl⟩
 rw [<-Qr];simp [Builtin.clear_,run_underlying ht,hv,bL]
theorem R9:∀ (us:List Value) (w:World) (b i o:Nat),o<i->(Is w b i us).cell? ⟨b,o,Ac⟩=w.cell? ⟨b,o,Ac⟩
 | [],_,_,_,_,_=>rfl
 | u :: us,w,b,i,o,h=>by
  rw [Is,R9 us _ b (i+1) o Bl];exact World.cell?_setCell_other _ _ _ _ (fun e=>by injection e with _ h2 _;omega)
theorem Rd.clear {α:Type} {e:Enc α} {w:World} {B b o n c:Nat} {l:List α} (h:Rd e w B (Aa (Ad ⟨b,o,Ac⟩) n c) l) (k:Nat) (hk:k<=l.length) (us:List Value):Rd e (Is w b (o+k * e.sz) us) B (Aa (Ad ⟨b,o,Ac⟩) k c) (l.take k):=by
 have h1:=h.take hk c (by have:=h.cap;omega);obtain ⟨A',c',hv,cA,hA⟩:=h1;simp only [Value.slice.injEq] at hv;obtain ⟨rfl,aK,rfl⟩:=hv;have h2:(l.take k).length=k:=by rw [A0,Nat.min_eq_left hk]
 refine ⟨_,c,by rw [h2],Bl,fun hl=>?_⟩;obtain ⟨b',o',he,aB,hc⟩:=hA hl;simp only [Option.some.injEq,Addr.mk.injEq,and_true] at he;obtain ⟨rfl,rfl⟩:=he;refine ⟨b,o,rfl,aB,fun i hi j u hu=>?_⟩;have hj:j<e.sz:=by
  have:=(List.getElem?_eq_some_iff.1 hu).1
  rwa [e.len] at this
 rw [R9 _ _ _ _ _ (by
  have:(i+1) * e.sz<=k * e.sz:=Nat.mul_le_mul_right _ Bl;rw [Nat.succ_mul] at this;omega)]
 exact hc i hi j u hu
theorem Rd.some_ {α:Type} {e:Enc α} {w:World} {B b o n c:Nat} {l:List α} (h:Rd e w B (Aa (Ad ⟨b,o,Ac⟩) n c) l) (bJ:0<e.sz) (q:Nat) (hq:q<l.length * e.sz):(w.cell? ⟨b,o+q,Ac⟩).isSome=true:=by
 obtain ⟨A',c',hv,cA,hA⟩:=h;simp only [Value.slice.injEq] at hv;obtain ⟨rfl,aK,rfl⟩:=hv;have hk:q / e.sz<l.length:=Nat.div_lt_of_lt_mul (by rw [Nat.mul_comm];exact hq);have hj:q % e.sz<e.sz:=Nat.mod_lt _ bJ;have rK:q / e.sz * e.sz+q % e.sz=q:=by rw [Nat.mul_comm];exact Nat.div_add_mod _ _
 obtain ⟨b',o',he,aB,hc⟩:=hA (Nat.lt_of_le_of_lt (Ah _) hk);simp only [Option.some.injEq,Addr.mk.injEq,and_true] at he;obtain ⟨rfl,rfl⟩:=he;have mA:q % e.sz<(e.cells l[q / e.sz]).length:=by rw [e.len];exact hj
 have:=hc (q / e.sz) hk (q % e.sz) _ (List.getElem?_eq_getElem mA)
 rw [Nat.add_assoc,rK] at this;rw [this];rfl
theorem Hw.of_rd {α:Type} {e:Enc α} {w:World} {b o n c:Nat} {l:List α} (h:Rd e w w (Aa (Ad ⟨b,o,Ac⟩) n c) l) (hf:∀ j,w.frozen? ⟨b,j,Ac⟩=false):Hw e w (Ei (Aa (Ad ⟨b,o,Ac⟩) n c) l.length) (Aa (Ad ⟨b,o,Ac⟩) n c) l:=by
 refine ⟨h,rfl,fun g hg j=>?_⟩
 have:=Ho _ _ _ hg
 have:b=g:=by simpa [Value.ownBlock] using this
 subst this;exact hf j
def Aiq {α:Type} (e:Enc α) (A:Option Addr) (c:Nat) (F:List Nat) (l:List α) (w:World) (en:Ending) (w':World):Prop :=
 ∃ k F',en = .returned (Aa A k c)/\Hw e w' F' (Aa A k c) l/\(∀ b∈F',b∈F)/\Chg F w w'
structure Kept {α:Type} (p:α->Bool) (l M:List α) (i j:Nat):Prop where
 len:M.length=l.length
 head:M.take i=(l.take j).filter fun x=>!p x
 tail:∀ t (h:t<l.length) (h':t<M.length),j<=t->M[t]=l[t]
theorem Kept.drop {α:Type} {p:α->Bool} {l M:List α} {i j:Nat} (h:Kept p l M i j) (hj:j<l.length) (hp:p l[j]=true):Kept p l M i (j+1):=by
 refine ⟨h.len,?_,fun t ht eI htj=>h.tail t ht eI Bl⟩;rw [h.head,Cy l j hj,List.filter_append];simp [hp]
theorem Kept.keep {α:Type} {p:α->Bool} {l M:List α} {i j:Nat} (h:Kept p l M i j) (hj:j<l.length) (hi:i<j) (hp:p l[j]=false):Kept p l (M.set i l[j]) (i+1) (j+1):=by
 have hl:=h.len;refine ⟨by rw [Bh];exact h.len,?_,fun t ht eI htj=>?_⟩
 ·rw [Cy l j hj,List.filter_append,<-h.head,Cy _ i (by rw [Bh];omega),List.getElem_set_self,List.take_set_of_le (Bs _)];simp [hp]
 ·rw [List.getElem_set_ne Bl];exact h.tail t ht (by rw [Bh] at eI;exact eI) Bl
theorem Aek {α:Type} {p:α->Bool} {l:List α} {k:Nat} (hk:k<l.length) (h:∀ j (hj:j<l.length),j<k->p l[j]=false) (hp:p l[k]=true):Kept p l l k (k+1):=by
 refine ⟨rfl,?_,fun t _ _ _=>rfl⟩;rw [Cy l k hk,List.filter_append];have:(l.take k).filter (fun x=>!p x)=l.take k:=List.filter_eq_self.2 (fun x hx=>by
  obtain ⟨j,hj,rfl⟩:=List.getElem_of_mem hx;rw [A0] at hj;rw [List.getElem_take];simp [h j Bl Bl])
 rw [this];simp [hp]
theorem Ahp {α:Type} {p:α->Bool} {l:List α} (h:∀ j (hj:j<l.length),p l[j]=false):(l.filter fun x=>!p x)=l:=List.filter_eq_self.2 (fun x hx=>by
 obtain ⟨j,hj,rfl⟩:=List.getElem_of_mem hx
 simp [h j hj])
theorem On (v:Value) (l:List Entry) (i xb:Nat) (x:Entry) (base:Nat) (w:World) (hi:i<=l.length) (hl:l.length<=1000000) (ho:Ow Cw 71 w base v l) (aS:base<=w.heap.size)
  (hx:w.heap[xb]? = Ad (.cells (Cw.cells x).toArray 71 (0,0))) (aE:v.ownBlock≠Ad xb) :
  Calls An 304 #[v,J Ab (i:Int),Aa (Ad ⟨xb,0,Ac⟩) 1 1] w fun e w'=>∃ v',e = .returned v'/\Ow Cw 71 w' base v' (l.take i ++ x :: l.drop i)/\w.grownBy w' v.ownBlock/\(v'.ownBlock=v.ownBlock\/v'.ownBlock=Ad w.heap.size):=by
 obtain ⟨j0,bZ,jz0,jz1,jz2⟩:=info_parts Gi;have fA:xb<w:=(Array.getElem?_eq_some_iff.1 hx).1;have uT:∀ j u,(Cw.cells x)[j]? = Ad u->w.cell? ((⟨xb,0,Ac⟩:Addr).add j)=Ad u:=fun j u hu=>by
  have h0:w.cell? ⟨xb,j,Ac⟩=(Cw.cells x).toArray[j]?:=cell_of_row _ _ j _ _ (0,0) hx;have e:((⟨xb,0,Ac⟩:Addr).add j)=⟨xb,j,Ac⟩:=by unfold Addr.add;split<;>simp_all
  rw [e,h0];simpa using hu
 have jI:Rd Cw w w (Aa (Ad ⟨xb,0,Ac⟩) 1 1) [x]:=by
  refine ⟨_,1,rfl,Bn,fun _=>⟨xb,0,rfl,fA,fun k hk j u hu=>?_⟩⟩;have dF:k=0:=by simpa using hk
  subst dF;have e:(⟨xb,0+0 * Cw.sz+j,Ac⟩:Addr)=(⟨xb,0,Ac⟩:Addr).add j:=by unfold Addr.add;split<;>simp_all
  rw [e];exact uT j u hu
 by_cases dA:i=l.length
 ·have Hl:=Bq (show l.take i ++ x :: l.drop i=l ++ [x] by rw [dA,List.take_length,List.drop_length]);have HO:=Bq ho;have HX:=Bq hx;have HXC:=Bq uT;have HNE:=Bq aE;obtain ⟨A,c,rfl,hc,-⟩:=id (Rd.of_own ho);have aN:l.length<=c:=hc;subst dA;clear ho hx uT aE hi;have h0:¬ (l.length:Int)<0:=Bl;by_cases hcl:c=l.length;all_goals
   (try subst hcl)
   go_enter func304,ntmps304;go_wp2_with (at_builtin;refine Cj _ Cw Bp rfl (.tmp 23) (.tmp 24) rfl underlying74 bZ jz0 jz1 jz2 rfl (v:=Aa A l.length _) (l:=l) rfl HO.out (A:=Ad ⟨xb,0,Ac⟩) (m:=1) (c:=1) rfl jI Bl Bn Bp Bl ?_;intro v5 w5 o5 g5 f5)
   go_ret;exact ⟨v5,rfl,by first | exact o5 | (rw [Hl.out];exact o5),g5,f5⟩
 have aB:i<l.length:=Bl;obtain ⟨g,cap,rfl,hg1,kI,-⟩:∃ g cap,v = Aa (Ad ⟨g,0,Ac⟩) l.length cap/\base<=g/\g<w.heap.size/\True:=by
  rcases ho.form with ⟨_,e0⟩ | ⟨g,cap,e1,h1,h2,_⟩
  ·rw [e0] at aB;simp at aB
  ·exact ⟨g,cap,e1,h1,h2,trivial⟩
 obtain ⟨-,-,hncap,pZ,cur,cC,hclen,hcur⟩:=ho.row;have hne':xb≠g:=fun e=>aE (by rw [e];rfl);have bJ:(An.info? 71).map (·.size)=Ad 4:=by rw [bZ];simp [jz1]
 have hesz:Cw.sz=4:=rfl;have sF:(l.flatMap Cw.cells).length=l.length * 4:=Cw.flat_length l;have gH:(Cw.cells x).length=4:=Cw.len x;have hdl:((l.flatMap Cw.cells).drop (i * 4)).length=(l.length - i) * 4:=by rw [List.length_drop,sF,Nat.sub_mul]
 have hone:∀ u∈l.flatMap Cw.cells,u.oneCell'=true:=fun u hu=>by
  obtain ⟨y,_,hy⟩:=List.mem_flatMap.1 hu;exact Cw.one y u hy
 have hfi:=Bq (Oz Cw l i Bl x);rw [hesz] at hcur hclen hfi;have bV:∀ j u,(l.flatMap Cw.cells)[j]? = Ad u->w.cell? ⟨g,j,Ac⟩=Ad u:=fun j u hu=>by
  have h0:w.cell? ⟨g,j,Ac⟩=cur.toArray[j]?:=cell_of_row _ _ j _ _ (0,0) cC;rw [h0,<-hcur,List.getElem?_take] at *
  split at hu
  ·simpa using hu
  ·cases hu
 have Hone:=Bq hone;have Hcell:=Bq bV;have HX:=Bq hx;have HXC:=Bq uT;have Hrow:=Bq cC;have Hclen:=Bq hclen;have Hcur:=Bq hcur;have HO:=Bq ho;have Hxl:=Bq gH;have Hdl:=Bq hdl;have HLl:=Bq sF;have HSZ:=Bq bJ;have hcm2:cap<=9223372036854775807:=by simpa [maxLen] using pZ
 have pN:¬ ((i:Int)=(l.length:Int)):=Bl;have hib:((i:Int) == (l.length:Int))=false:=beq_eq_false_iff_ne.2 pN;have hw1:Ab.wrap ((i:Int)+1)=(i:Int)+1:=Ar _ Bl;have tF:Ab.wrap ((l.length:Int)+1)=(l.length:Int)+1:=Ar _ Bl;have aZ:(0:Int)<=(i:Int)+1:=Bl;have htn:((i:Int)+1).toNat=i+1:=Bl;have htn2:((l.length:Int)+1).toNat=l.length+1:=Bl;have fX:¬ cap=i:=Bl;have hiI:(i:Int)<=(l.length:Int):=Bl;have hicap:(i:Int)<=(cap:Int):=Bl;clear ho hx uT aE cC hclen hcur hone bV pZ aB dA hi jI sF gH hdl bJ hesz;by_cases dZ:l.length+1<=cap
 ·-- there is room: in place
  have tR:¬ cap=i+1:=Bl;have hro:¬ (cap:Int)<(l.length:Int)+1:=Bl;have hi1:(i:Int)+1<=(l.length:Int)+1:=Bl;have hi2:(i:Int)<=(l.length:Int)+1:=Bl;have hshx:w.shape? xb=Ad (71,4):=by unfold World.shape?;rw [HX.out];simp [Hxl.out]
  have hshg:w.shape? g=Ad (71,cap * 4):=by unfold World.shape?;rw [Hrow.out];simp [Hclen.out]
  have hfx:∀ o,w.frozen? ⟨xb,o,Ac⟩=false:=fun o=>by unfold World.frozen?;rw [HX.out];simp
  have hov:∀ lb cb,(callFunc 312 #[Aa (Ad ⟨xb,0,Ac⟩) 1 1,Aa (Ad ⟨g,(i+1) * 4,Ac⟩) lb cb]).run An w = .ok (.value (.bool false)) w:=fun lb cb=>by
   rw [run_callFunc_extern func312 Bm Bm Bm (e:=Extern.SlicesOverlaps.overlaps #[74,74] #[4]) Bm,
    Lib.run_overlaps_apart w 74 4 71 underlying74 4 (fun w=>by simp [sizeOf,typeInfo,bZ,jz1]) ⟨xb,0,Ac⟩ ⟨g,(i+1) * 4,Ac⟩ 1 1 lb cb hne' 71 71 4 (cap * 4) hshx hshg (by have:1 * 4<=cap * 4:=Nat.mul_le_mul_right _ Bl;omega) (hfx _) (hfx _)]
   rfl
  have Hsh:=Bq hshx;have Hsg:=Bq hshg;have Hfx:=Bq hfx;clear hshx hshg hfx;go_enter func304,ntmps304;go_wp2_with (simp only [hov])
  have e1:=Bq (show ((l.flatMap Cw.cells).drop (i * 4)).length=Nat.min (l.length+1 - i) (l.length - i) * 4 by rw [Hdl.out];congr 1;simp only [Nat.min_def];split<;>omega);have e2:=Bq (show ∀ j u,((l.flatMap Cw.cells).drop (i * 4))[j]? = Ad u->w.drew.cell? ((⟨g,i * 4,Ac⟩:Addr).add j)=Ad u from Nh Hrow.out _ (fun j u hu=>by
   rw [List.getElem?_drop,<-Hcur.out,List.getElem?_take] at hu;split at hu
   ·exact hu
   ·cases hu))
  have e3:=Bq (show (i+1) * 4+((l.flatMap Cw.cells).drop (i * 4)).length<=cur.length by
   rw [Hdl.out,Hclen.out,<-Nat.add_mul];exact Nat.mul_le_mul_right _ Bl)
  have e4:=Bq (show ∀ u∈(l.flatMap Cw.cells).drop (i * 4),u.oneCell'=true from fun u hu=>Hone.out u (List.mem_of_mem_drop hu));go_region_law (refine Rs w.drew rfl (.tmp 73) (.tmp 76) 74 74 rfl 71 4 underlying74 HSZ.out g ((i+1) * 4) (l.length - i) (cap - (i+1)) ⟨g,i * 4,Ac⟩ (l.length+1 - i) (cap - i) (by simp [Act.eval,Act.put]) (by simp [Act.eval,Act.put]) cur 71 Hrow.out ((l.flatMap Cw.cells).drop (i * 4)) e1.out e2.out e3.out e4.out ?_;intro w1 r1 g1);have f1:=Bq (show (Cw.cells x).length=Nat.min 1 (l.length+1 - i) * 4 by rw [Hxl.out];simp only [Nat.min_def];split<;>omega);have f2:=Bq (show ∀ j u,(Cw.cells x)[j]? = Ad u->w1.cell? ((⟨xb,0,Ac⟩:Addr).add j)=Ad u from Nh (Ab2 g1 (w:=w.drew) HX.out (fun e=>hne' (Option.some.inj e))) _ (fun j u hu=>by rw [Nat.zero_add];exact hu));have cH:=Bq (Ab3 Cw l i Bl x cur Hcur.out (by rw [Hclen.out];exact Nat.mul_le_mul_right _ dZ));have f3:=Bq (show i * 4+(Cw.cells x).length<=(splice cur ((i+1) * 4) ((l.flatMap Cw.cells).drop (i * 4))).length by
   rw [Hk _ _ _ e3.out,Hxl.out,Hclen.out,<-Nat.succ_mul];exact Nat.mul_le_mul_right _ Bl)
  have f4:=Bq (Cw.one x);clear e1 e2 e3 e4 hov;go_wp2_with (refine Oy w1 rfl (.tmp 80) (.tmp 81) 74 74 rfl 71 4 underlying74 HSZ.out g (i * 4) (l.length+1 - i) (cap - i) ⟨xb,0,Ac⟩ 1 1 (by simp [Act.eval]) (by simp [Act.eval]) _ 71 r1.out (Cw.cells x) f1.out f2.out f3.out f4.out ?_;intro w2 r2 g2)
  go_ret;have jC:=Ow.of_row (e:=Cw) (E:=71) (l:=l.take i ++ x :: l.drop i) (cap:=cap) (base:=base) r2.out (cH.out.2.trans Hclen.out) (by rw [Kz l i Bl x];exact cH.out.1) hg1 (by rw [Kz l i Bl x];exact dZ) (by simpa [maxLen] using hcm2);rw [Kz l i Bl x] at jC;exact ⟨_,rfl,jC,(V2 g1).trans g2,.inl rfl⟩
 ·-- no room: a new row
  obtain rfl:cap=l.length:=Bl;have hro:(l.length:Int)<(l.length:Int)+1:=Bl;have fD:Ab.wrap ((l.length:Int)+1 - (i:Int))=(l.length:Int)+1 - (i:Int):=Ar _ Bl;have a1:=Bq (show ((l.flatMap Cw.cells).take (i * 4)).length=i * 4 by
   rw [A0,HLl.out];exact Nat.min_eq_left (Nat.mul_le_mul_right _ Bl))
  have a2:=Bq (show ∀ j u,((l.flatMap Cw.cells).take (i * 4))[j]? = Ad u->w.cell? ((⟨g,0,Ac⟩:Addr).add j)=Ad u from Nh Hrow.out _ (fun j u hu=>by
   rw [List.getElem?_take] at hu;split at hu
   ·rw [<-Hcur.out,List.getElem?_take] at hu;split at hu
    ·rw [Nat.zero_add];exact hu
    ·cases hu
   ·cases hu))
  have cS:=Bq (show (l.length:Int)+1 - (i:Int)=((l.length+1 - i:Nat):Int) by omega);have hi3:0<l.length+1 - i:=Bl;have hGg:w≠g:=Bl;have hxG:xb≠w:=Bl;have f1:=Bq (show (Cw.cells x).length=Nat.min 1 (l.length+1 - i) * 4 by rw [Hxl.out];simp only [Nat.min_def];split<;>omega);have f4:=Bq (Cw.one x);have e1:=Bq (show ((l.flatMap Cw.cells).drop (i * 4)).length=Nat.min (l.length - i) (l.length - i) * 4 by rw [Hdl.out];congr 1;simp only [Nat.min_def];split<;>omega);have e4:=Bq (show ∀ u∈(l.flatMap Cw.cells).drop (i * 4),u.oneCell'=true from fun u hu=>Hone.out u (List.mem_of_mem_drop hu));have e2:=Bq (show ∀ W:World,W.heap[g]? = w.heap[g]? -> ∀ j u,((l.flatMap Cw.cells).drop (i * 4))[j]? = Ad u->W.cell? ((⟨g,i * 4,Ac⟩:Addr).add j)=Ad u from fun W hW=>Nh (hW.trans Hrow.out) _ (fun j u hu=>by
   rw [List.getElem?_drop,<-Hcur.out,List.getElem?_take] at hu;split at hu
   ·exact hu
   ·cases hu))
  go_enter func304,ntmps304;go_wp2_with (first
   | (refine Qg w rfl (.tmp 34) (.tmp 39) 74 3 rfl 71 j0 _ 4 _ .i64 .i64 underlying74 underlying3 bZ jz0 jz1 jz2 rfl Bp ⟨g,0,Ac⟩ i l.length _ (by simp [Act.eval]) (l.length+1 - i) ((l.length:Int)+1 - (i:Int)) cS.out (by simp [Act.eval]) a1.out a2.out hi3 Bl Bl Bp (l.length+1) Bl ?_;intro w1 c R r1 rl rt sK tJ g1 s1;have hci:¬ c=i:=(by omega);have hci1:¬ c=i+1:=(by omega);have hi2:(i:Int)<=(l.length:Int)+1:=(by omega);have hi1:(i:Int)+1<=(l.length:Int)+1:=(by omega);have rL:(l.length:Int)+1<=(c:Int):=(by omega);have f2:=Bq (show ∀ j u,(Cw.cells x)[j]? = Ad u->w1.cell? ((⟨xb,0,Ac⟩:Addr).add j)=Ad u from Nh (Ab2 g1 HX.out Bn) _ (fun j u hu=>by rw [Nat.zero_add];exact hu));have f3:=Bq (show i * 4+(Cw.cells x).length<=R.length by rw [Hxl.out,rl.out,<-Nat.succ_mul];exact Nat.mul_le_mul_right _ Bl);have cH:=Bq (Aec Cw l i Bl x R rt.out (by rw [rl.out];exact Nat.mul_le_mul_right _ sK));have hgw1:=Bq (g1.block g kI Bn);clear cS)
   | (refine Oy w1 rfl (.tmp 43) (.tmp 44) 74 74 rfl 71 4 underlying74 HSZ.out w.heap.size (i * 4) (l.length+1 - i) (c - i) ⟨xb,0,Ac⟩ 1 1 (by simp [Act.eval]) (by simp [Act.eval]) _ 71 r1.out (Cw.cells x) f1.out f2.out f3.out f4.out ?_;intro w2 r2 g2))
  have e3:=Bq (show (i+1) * 4+((l.flatMap Cw.cells).drop (i * 4)).length<=(splice R (i * 4) (Cw.cells x)).length by
   rw [Hk _ _ _ f3.out,Hdl.out,rl.out,<-Nat.add_mul];exact Nat.mul_le_mul_right _ Bl)
  have e2':=Bq (e2.out w2.drew ((g2.block g Bl (fun e=>hGg (Option.some.inj e).symm)).trans hgw1.out));clear e2 hgw1;go_region_law (refine Rs w2.drew rfl (.tmp 50) (.tmp 53) 74 74 rfl 71 4 underlying74 HSZ.out w.heap.size ((i+1) * 4) (l.length - i) (c - (i+1)) ⟨g,i * 4,Ac⟩ (l.length - i) (l.length - i) (by simp [Act.eval,Act.put]) (by simp [Act.eval,Act.put]) _ 71 r2.out ((l.flatMap Cw.cells).drop (i * 4)) e1.out e2'.out e3.out e4.out ?_;intro w3 r3 g3);go_wp2_with fail
  go_ret;have jC:=Ow.of_row (e:=Cw) (E:=71) (l:=l.take i ++ x :: l.drop i) (cap:=c) (base:=base) r3.out (cH.out.2.trans rl.out) (by rw [Kz l i Bl x];exact cH.out.1) aS (by rw [Kz l i Bl x];exact sK) (by simpa [maxLen] using tJ);rw [Kz l i Bl x] at jC;exact ⟨_,rfl,jC,Zd (Zd (Aeb g1 (Ad g)) g2 (Bs _)) (V2 g3) (Bs _),.inr rfl⟩
theorem Ack (d:Deed) (s:Sl) (w:World) (hk:d.kind=1) (h:Fb.rd w w d s) :
  Calls An 91 #[Dw d s] w fun e w'=>e = .returned (.bool (Dq d))/\Below w w w':=by
 have h2:Ck.rd w w d.plan s:=h;have HR:=Bq (show ∀ W,Below w w W->Ck.rd W W d.plan s from fun W hW=>Ck.rd_more (Ck.rd_below h2 hW) hW.size);clear h h2;obtain ⟨A,n,c⟩:=s;obtain ⟨kd,rn,p,tk,ty,wk,dr⟩:=d;obtain rfl:kd=1:=hk;have X:=DBox.new 45 [J Ab 1,J Ab rn,J Ab p.prio,J Ab p.most,J Ab p.wait,J Ab p.tasks,Aa A n c,J Ab tk,J Ab ty,J Ab wk,J Ab dr] w (b:=w) rfl;have B0:Below w w (w.alloc (.cells #[J Ab 1,J Ab rn,J Ab p.prio,J Ab p.most,J Ab p.wait,J Ab p.tasks,Aa A n c,J Ab tk,J Ab ty,J Ab wk,J Ab dr] 45)):=by repeat (first | exact Br _ _ | refine Af ?_ Bo _)
 have e0:inB 1 1 8=true:=rfl;have HD:=Bq (show Dq ⟨1,rn,p,tk,ty,wk,dr⟩=(Fi rn && (tk == 0) && (ty == 0) && (wk == 0) && (dr == 0) && Ez p) by simp [Dq,inB,Bool.and_assoc]);by_cases a0:inB rn 0 1000000000=false;rotate_left;replace a0:inB rn 0 1000000000=true:=by simpa using a0
 by_cases a1:(tk != 0)=true;rotate_left;replace a1:(tk != 0)=false:=by simpa using a1
 by_cases a2:(ty != 0)=true;rotate_left;replace a2:(ty != 0)=false:=by simpa using a2
 by_cases a3:(wk != 0)=true;rotate_left;replace a3:(wk != 0)=false:=by simpa using a3
 by_cases a4:(dr != 0)=true;rotate_left;replace a4:(dr != 0)=false:=by simpa using a4
 ·have H:=Bq (show Dq ⟨1,rn,p,tk,ty,wk,dr⟩=Ez p by rw [HD.out];simp only [bne_eq_false_iff_eq] at a0 a1 a2 a3 a4;simp [Fi, *]);have C:=U6 p ⟨A,n,c⟩ _ (HR.out _ B0);go_enter func91,ntmps91;go_upto_region 6 with (first | (go_at_call 161;refine (Cu _ _).mono ?_;rintro e w9 ⟨rfl,rfl⟩;(try (with_reducible first | rw [e0] | rw [a0] | rw [a1] | rw [a2] | rw [a3] | rw [a4]));dsimp only) | (go_at_call 90;refine (Cl _ _ _ _).mono ?_;rintro e w9 ⟨rfl,rfl⟩;(try (with_reducible first | rw [e0] | rw [a0] | rw [a1] | rw [a2] | rw [a3] | rw [a4]));dsimp only) | (go_at_call 162;refine C.mono ?_;rintro e w1 ⟨rfl,b1⟩))
  dsimp only [List.append];go_wp2_with (first | (go_at_call 161;refine (Cu _ _).mono ?_;rintro e w9 ⟨rfl,rfl⟩;(try (with_reducible first | rw [e0] | rw [a0] | rw [a1] | rw [a2] | rw [a3] | rw [a4]));dsimp only) | (go_at_call 90;refine (Cl _ _ _ _).mono ?_;rintro e w9 ⟨rfl,rfl⟩;(try (with_reducible first | rw [e0] | rw [a0] | rw [a1] | rw [a2] | rw [a3] | rw [a4]));dsimp only) | (go_at_call 162;refine C.mono ?_;rintro e w1 ⟨rfl,b1⟩))
  go_ret;exact ⟨Bx H.out.symm,Bv B0 b1⟩
 all_goals
  have H:=Bq (show Dq ⟨1,rn,p,tk,ty,wk,dr⟩=false by rw [HD.out];simp only [bne_eq_false_iff_eq,bne_iff_ne] at *;simp [Fi, *]);go_enter func91,ntmps91;go_upto_region 6 with (first | (go_at_call 161;refine (Cu _ _).mono ?_;rintro e w9 ⟨rfl,rfl⟩;(try (with_reducible first | rw [e0] | rw [a0] | rw [a1] | rw [a2] | rw [a3] | rw [a4]));dsimp only) | (go_at_call 90;refine (Cl _ _ _ _).mono ?_;rintro e w9 ⟨rfl,rfl⟩;(try (with_reducible first | rw [e0] | rw [a0] | rw [a1] | rw [a2] | rw [a3] | rw [a4]));dsimp only))
  dsimp only [List.append];go_wp2_with (first | (go_at_call 161;refine (Cu _ _).mono ?_;rintro e w9 ⟨rfl,rfl⟩;(try (with_reducible first | rw [e0] | rw [a0] | rw [a1] | rw [a2] | rw [a3] | rw [a4]));dsimp only) | (go_at_call 90;refine (Cl _ _ _ _).mono ?_;rintro e w9 ⟨rfl,rfl⟩;(try (with_reducible first | rw [e0] | rw [a0] | rw [a1] | rw [a2] | rw [a3] | rw [a4]));dsimp only))
  go_ret;exact ⟨Bx H.out.symm,B0⟩
theorem Acl (d:Deed) (s:Sl) (w:World) (hk:d.kind=2) (h:Fb.rd w w d s) :
  Calls An 91 #[Dw d s] w fun e w'=>e = .returned (.bool (Dq d))/\Below w w w':=by
 have h2:Ck.rd w w d.plan s:=h;have HR:=Bq (show ∀ W,Below w w W->Ck.rd W W d.plan s from fun W hW=>Ck.rd_more (Ck.rd_below h2 hW) hW.size);clear h h2;obtain ⟨A,n,c⟩:=s;obtain ⟨kd,rn,p,tk,ty,wk,dr⟩:=d;obtain rfl:kd=2:=hk;have X:=DBox.new 45 [J Ab 2,J Ab rn,J Ab p.prio,J Ab p.most,J Ab p.wait,J Ab p.tasks,Aa A n c,J Ab tk,J Ab ty,J Ab wk,J Ab dr] w (b:=w) rfl;have B0:Below w w (w.alloc (.cells #[J Ab 2,J Ab rn,J Ab p.prio,J Ab p.most,J Ab p.wait,J Ab p.tasks,Aa A n c,J Ab tk,J Ab ty,J Ab wk,J Ab dr] 45)):=by repeat (first | exact Br _ _ | refine Af ?_ Bo _)
 have e0:inB 2 1 8=true:=rfl;have HD:=Bq (show Dq ⟨2,rn,p,tk,ty,wk,dr⟩=((rn == 0) && (tk == 0) && (ty == 0) && Fi wk && Fi dr && Fq p) by simp [Dq,inB,Bool.and_assoc]);by_cases a0:(rn != 0)=true;rotate_left;replace a0:(rn != 0)=false:=by simpa using a0
 by_cases a1:(tk != 0)=true;rotate_left;replace a1:(tk != 0)=false:=by simpa using a1
 by_cases a2:(ty != 0)=true;rotate_left;replace a2:(ty != 0)=false:=by simpa using a2
 by_cases a3:inB wk 0 1000000000=false;rotate_left;replace a3:inB wk 0 1000000000=true:=by simpa using a3
 by_cases a4:inB dr 0 1000000000=false;rotate_left;replace a4:inB dr 0 1000000000=true:=by simpa using a4
 ·have H:=Bq (show Dq ⟨2,rn,p,tk,ty,wk,dr⟩=Fq p by rw [HD.out];simp only [bne_eq_false_iff_eq] at a0 a1 a2 a3 a4;simp [Fi, *]);have C:=Hr p ⟨A,n,c⟩ _ (HR.out _ B0);go_enter func91,ntmps91;go_upto_region 6 with (first | (go_at_call 161;refine (Cu _ _).mono ?_;rintro e w9 ⟨rfl,rfl⟩;(try (with_reducible first | rw [e0] | rw [a0] | rw [a1] | rw [a2] | rw [a3] | rw [a4]));dsimp only) | (go_at_call 90;refine (Cl _ _ _ _).mono ?_;rintro e w9 ⟨rfl,rfl⟩;(try (with_reducible first | rw [e0] | rw [a0] | rw [a1] | rw [a2] | rw [a3] | rw [a4]));dsimp only) | (go_at_call 163;refine C.mono ?_;rintro e w1 ⟨rfl,b1⟩))
  dsimp only [List.append];go_wp2_with (first | (go_at_call 161;refine (Cu _ _).mono ?_;rintro e w9 ⟨rfl,rfl⟩;(try (with_reducible first | rw [e0] | rw [a0] | rw [a1] | rw [a2] | rw [a3] | rw [a4]));dsimp only) | (go_at_call 90;refine (Cl _ _ _ _).mono ?_;rintro e w9 ⟨rfl,rfl⟩;(try (with_reducible first | rw [e0] | rw [a0] | rw [a1] | rw [a2] | rw [a3] | rw [a4]));dsimp only) | (go_at_call 163;refine C.mono ?_;rintro e w1 ⟨rfl,b1⟩))
  go_ret;exact ⟨Bx H.out.symm,Bv B0 b1⟩
 all_goals
  have H:=Bq (show Dq ⟨2,rn,p,tk,ty,wk,dr⟩=false by rw [HD.out];simp only [bne_eq_false_iff_eq,bne_iff_ne] at *;simp [Fi, *]);go_enter func91,ntmps91;go_upto_region 6 with (first | (go_at_call 161;refine (Cu _ _).mono ?_;rintro e w9 ⟨rfl,rfl⟩;(try (with_reducible first | rw [e0] | rw [a0] | rw [a1] | rw [a2] | rw [a3] | rw [a4]));dsimp only) | (go_at_call 90;refine (Cl _ _ _ _).mono ?_;rintro e w9 ⟨rfl,rfl⟩;(try (with_reducible first | rw [e0] | rw [a0] | rw [a1] | rw [a2] | rw [a3] | rw [a4]));dsimp only))
  dsimp only [List.append];go_wp2_with (first | (go_at_call 161;refine (Cu _ _).mono ?_;rintro e w9 ⟨rfl,rfl⟩;(try (with_reducible first | rw [e0] | rw [a0] | rw [a1] | rw [a2] | rw [a3] | rw [a4]));dsimp only) | (go_at_call 90;refine (Cl _ _ _ _).mono ?_;rintro e w9 ⟨rfl,rfl⟩;(try (with_reducible first | rw [e0] | rw [a0] | rw [a1] | rw [a2] | rw [a3] | rw [a4]));dsimp only))
  go_ret;exact ⟨Bx H.out.symm,B0⟩
theorem Acm (d:Deed) (s:Sl) (w:World) (hk:d.kind=3) (h:Fb.rd w w d s) :
  Calls An 91 #[Dw d s] w fun e w'=>e = .returned (.bool (Dq d))/\Below w w w':=by
 have h2:Ck.rd w w d.plan s:=h;have HR:=Bq (show ∀ W,Below w w W->Ck.rd W W d.plan s from fun W hW=>Ck.rd_more (Ck.rd_below h2 hW) hW.size);clear h h2;obtain ⟨A,n,c⟩:=s;obtain ⟨kd,rn,p,tk,ty,wk,dr⟩:=d;obtain rfl:kd=3:=hk;have X:=DBox.new 45 [J Ab 3,J Ab rn,J Ab p.prio,J Ab p.most,J Ab p.wait,J Ab p.tasks,Aa A n c,J Ab tk,J Ab ty,J Ab wk,J Ab dr] w (b:=w) rfl;have B0:Below w w (w.alloc (.cells #[J Ab 3,J Ab rn,J Ab p.prio,J Ab p.most,J Ab p.wait,J Ab p.tasks,Aa A n c,J Ab tk,J Ab ty,J Ab wk,J Ab dr] 45)):=by repeat (first | exact Br _ _ | refine Af ?_ Bo _)
 have e0:inB 3 1 8=true:=rfl;have HD:=Bq (show Dq ⟨3,rn,p,tk,ty,wk,dr⟩=(Fi rn && Fi tk && Fi ty && (wk == 0) && (dr == 0) && Fq p) by simp [Dq,inB,Bool.and_assoc]);by_cases a0:inB rn 0 1000000000=false;rotate_left;replace a0:inB rn 0 1000000000=true:=by simpa using a0
 by_cases a1:inB tk 0 1000000000=false;rotate_left;replace a1:inB tk 0 1000000000=true:=by simpa using a1
 by_cases a2:inB ty 0 1000000000=false;rotate_left;replace a2:inB ty 0 1000000000=true:=by simpa using a2
 by_cases a3:(wk != 0)=true;rotate_left;replace a3:(wk != 0)=false:=by simpa using a3
 by_cases a4:(dr != 0)=true;rotate_left;replace a4:(dr != 0)=false:=by simpa using a4
 ·have H:=Bq (show Dq ⟨3,rn,p,tk,ty,wk,dr⟩=Fq p by rw [HD.out];simp only [bne_eq_false_iff_eq] at a0 a1 a2 a3 a4;simp [Fi, *]);have C:=Hr p ⟨A,n,c⟩ _ (HR.out _ B0);go_enter func91,ntmps91;go_upto_region 6 with (first | (go_at_call 161;refine (Cu _ _).mono ?_;rintro e w9 ⟨rfl,rfl⟩;(try (with_reducible first | rw [e0] | rw [a0] | rw [a1] | rw [a2] | rw [a3] | rw [a4]));dsimp only) | (go_at_call 90;refine (Cl _ _ _ _).mono ?_;rintro e w9 ⟨rfl,rfl⟩;(try (with_reducible first | rw [e0] | rw [a0] | rw [a1] | rw [a2] | rw [a3] | rw [a4]));dsimp only) | (go_at_call 163;refine C.mono ?_;rintro e w1 ⟨rfl,b1⟩))
  dsimp only [List.append];go_wp2_with (first | (go_at_call 161;refine (Cu _ _).mono ?_;rintro e w9 ⟨rfl,rfl⟩;(try (with_reducible first | rw [e0] | rw [a0] | rw [a1] | rw [a2] | rw [a3] | rw [a4]));dsimp only) | (go_at_call 90;refine (Cl _ _ _ _).mono ?_;rintro e w9 ⟨rfl,rfl⟩;(try (with_reducible first | rw [e0] | rw [a0] | rw [a1] | rw [a2] | rw [a3] | rw [a4]));dsimp only) | (go_at_call 163;refine C.mono ?_;rintro e w1 ⟨rfl,b1⟩))
  go_ret;exact ⟨Bx H.out.symm,Bv B0 b1⟩
 all_goals
  have H:=Bq (show Dq ⟨3,rn,p,tk,ty,wk,dr⟩=false by rw [HD.out];simp only [bne_eq_false_iff_eq,bne_iff_ne] at *;simp [Fi, *]);go_enter func91,ntmps91;go_upto_region 6 with (first | (go_at_call 161;refine (Cu _ _).mono ?_;rintro e w9 ⟨rfl,rfl⟩;(try (with_reducible first | rw [e0] | rw [a0] | rw [a1] | rw [a2] | rw [a3] | rw [a4]));dsimp only) | (go_at_call 90;refine (Cl _ _ _ _).mono ?_;rintro e w9 ⟨rfl,rfl⟩;(try (with_reducible first | rw [e0] | rw [a0] | rw [a1] | rw [a2] | rw [a3] | rw [a4]));dsimp only))
  dsimp only [List.append];go_wp2_with (first | (go_at_call 161;refine (Cu _ _).mono ?_;rintro e w9 ⟨rfl,rfl⟩;(try (with_reducible first | rw [e0] | rw [a0] | rw [a1] | rw [a2] | rw [a3] | rw [a4]));dsimp only) | (go_at_call 90;refine (Cl _ _ _ _).mono ?_;rintro e w9 ⟨rfl,rfl⟩;(try (with_reducible first | rw [e0] | rw [a0] | rw [a1] | rw [a2] | rw [a3] | rw [a4]));dsimp only))
  go_ret;exact ⟨Bx H.out.symm,B0⟩
theorem Acn (d:Deed) (s:Sl) (w:World) (hk:d.kind=4) (h:Fb.rd w w d s) :
  Calls An 91 #[Dw d s] w fun e w'=>e = .returned (.bool (Dq d))/\Below w w w':=by
 have h2:Ck.rd w w d.plan s:=h;have HR:=Bq (show ∀ W,Below w w W->Ck.rd W W d.plan s from fun W hW=>Ck.rd_more (Ck.rd_below h2 hW) hW.size);clear h h2;obtain ⟨A,n,c⟩:=s;obtain ⟨kd,rn,p,tk,ty,wk,dr⟩:=d;obtain rfl:kd=4:=hk;have X:=DBox.new 45 [J Ab 4,J Ab rn,J Ab p.prio,J Ab p.most,J Ab p.wait,J Ab p.tasks,Aa A n c,J Ab tk,J Ab ty,J Ab wk,J Ab dr] w (b:=w) rfl;have B0:Below w w (w.alloc (.cells #[J Ab 4,J Ab rn,J Ab p.prio,J Ab p.most,J Ab p.wait,J Ab p.tasks,Aa A n c,J Ab tk,J Ab ty,J Ab wk,J Ab dr] 45)):=by repeat (first | exact Br _ _ | refine Af ?_ Bo _)
 have e0:inB 4 1 8=true:=rfl;have HD:=Bq (show Dq ⟨4,rn,p,tk,ty,wk,dr⟩=(Fi rn && Fi tk && Fi ty && (wk == 0) && (dr == 0) && Fq p) by simp [Dq,inB,Bool.and_assoc]);by_cases a0:inB rn 0 1000000000=false;rotate_left;replace a0:inB rn 0 1000000000=true:=by simpa using a0
 by_cases a1:inB tk 0 1000000000=false;rotate_left;replace a1:inB tk 0 1000000000=true:=by simpa using a1
 by_cases a2:inB ty 0 1000000000=false;rotate_left;replace a2:inB ty 0 1000000000=true:=by simpa using a2
 by_cases a3:(wk != 0)=true;rotate_left;replace a3:(wk != 0)=false:=by simpa using a3
 by_cases a4:(dr != 0)=true;rotate_left;replace a4:(dr != 0)=false:=by simpa using a4
 ·have H:=Bq (show Dq ⟨4,rn,p,tk,ty,wk,dr⟩=Fq p by rw [HD.out];simp only [bne_eq_false_iff_eq] at a0 a1 a2 a3 a4;simp [Fi, *]);have C:=Hr p ⟨A,n,c⟩ _ (HR.out _ B0);go_enter func91,ntmps91;go_upto_region 6 with (first | (go_at_call 161;refine (Cu _ _).mono ?_;rintro e w9 ⟨rfl,rfl⟩;(try (with_reducible first | rw [e0] | rw [a0] | rw [a1] | rw [a2] | rw [a3] | rw [a4]));dsimp only) | (go_at_call 90;refine (Cl _ _ _ _).mono ?_;rintro e w9 ⟨rfl,rfl⟩;(try (with_reducible first | rw [e0] | rw [a0] | rw [a1] | rw [a2] | rw [a3] | rw [a4]));dsimp only) | (go_at_call 163;refine C.mono ?_;rintro e w1 ⟨rfl,b1⟩))
  dsimp only [List.append];go_wp2_with (first | (go_at_call 161;refine (Cu _ _).mono ?_;rintro e w9 ⟨rfl,rfl⟩;(try (with_reducible first | rw [e0] | rw [a0] | rw [a1] | rw [a2] | rw [a3] | rw [a4]));dsimp only) | (go_at_call 90;refine (Cl _ _ _ _).mono ?_;rintro e w9 ⟨rfl,rfl⟩;(try (with_reducible first | rw [e0] | rw [a0] | rw [a1] | rw [a2] | rw [a3] | rw [a4]));dsimp only) | (go_at_call 163;refine C.mono ?_;rintro e w1 ⟨rfl,b1⟩))
  go_ret;exact ⟨Bx H.out.symm,Bv B0 b1⟩
 all_goals
  have H:=Bq (show Dq ⟨4,rn,p,tk,ty,wk,dr⟩=false by rw [HD.out];simp only [bne_eq_false_iff_eq,bne_iff_ne] at *;simp [Fi, *]);go_enter func91,ntmps91;go_upto_region 6 with (first | (go_at_call 161;refine (Cu _ _).mono ?_;rintro e w9 ⟨rfl,rfl⟩;(try (with_reducible first | rw [e0] | rw [a0] | rw [a1] | rw [a2] | rw [a3] | rw [a4]));dsimp only) | (go_at_call 90;refine (Cl _ _ _ _).mono ?_;rintro e w9 ⟨rfl,rfl⟩;(try (with_reducible first | rw [e0] | rw [a0] | rw [a1] | rw [a2] | rw [a3] | rw [a4]));dsimp only))
  dsimp only [List.append];go_wp2_with (first | (go_at_call 161;refine (Cu _ _).mono ?_;rintro e w9 ⟨rfl,rfl⟩;(try (with_reducible first | rw [e0] | rw [a0] | rw [a1] | rw [a2] | rw [a3] | rw [a4]));dsimp only) | (go_at_call 90;refine (Cl _ _ _ _).mono ?_;rintro e w9 ⟨rfl,rfl⟩;(try (with_reducible first | rw [e0] | rw [a0] | rw [a1] | rw [a2] | rw [a3] | rw [a4]));dsimp only))
  go_ret;exact ⟨Bx H.out.symm,B0⟩
theorem Aco (d:Deed) (s:Sl) (w:World) (hk:d.kind=5) (h:Fb.rd w w d s) :
  Calls An 91 #[Dw d s] w fun e w'=>e = .returned (.bool (Dq d))/\Below w w w':=by
 have h2:Ck.rd w w d.plan s:=h;have HR:=Bq (show ∀ W,Below w w W->Ck.rd W W d.plan s from fun W hW=>Ck.rd_more (Ck.rd_below h2 hW) hW.size);clear h h2;obtain ⟨A,n,c⟩:=s;obtain ⟨kd,rn,p,tk,ty,wk,dr⟩:=d;obtain rfl:kd=5:=hk;have X:=DBox.new 45 [J Ab 5,J Ab rn,J Ab p.prio,J Ab p.most,J Ab p.wait,J Ab p.tasks,Aa A n c,J Ab tk,J Ab ty,J Ab wk,J Ab dr] w (b:=w) rfl;have B0:Below w w (w.alloc (.cells #[J Ab 5,J Ab rn,J Ab p.prio,J Ab p.most,J Ab p.wait,J Ab p.tasks,Aa A n c,J Ab tk,J Ab ty,J Ab wk,J Ab dr] 45)):=by repeat (first | exact Br _ _ | refine Af ?_ Bo _)
 have e0:inB 5 1 8=true:=rfl;have HD:=Bq (show Dq ⟨5,rn,p,tk,ty,wk,dr⟩=((rn == 0) && (tk == 0) && (ty == 0) && (wk == 0) && (dr == 0) && Fq p) by simp [Dq,inB,Bool.and_assoc]);by_cases a0:(rn != 0)=true;rotate_left;replace a0:(rn != 0)=false:=by simpa using a0
 by_cases a1:(tk != 0)=true;rotate_left;replace a1:(tk != 0)=false:=by simpa using a1
 by_cases a2:(ty != 0)=true;rotate_left;replace a2:(ty != 0)=false:=by simpa using a2
 by_cases a3:(wk != 0)=true;rotate_left;replace a3:(wk != 0)=false:=by simpa using a3
 by_cases a4:(dr != 0)=true;rotate_left;replace a4:(dr != 0)=false:=by simpa using a4
 ·have H:=Bq (show Dq ⟨5,rn,p,tk,ty,wk,dr⟩=Fq p by rw [HD.out];simp only [bne_eq_false_iff_eq] at a0 a1 a2 a3 a4;simp [Fi, *]);have C:=Hr p ⟨A,n,c⟩ _ (HR.out _ B0);go_enter func91,ntmps91;go_upto_region 6 with (first | (go_at_call 161;refine (Cu _ _).mono ?_;rintro e w9 ⟨rfl,rfl⟩;(try (with_reducible first | rw [e0] | rw [a0] | rw [a1] | rw [a2] | rw [a3] | rw [a4]));dsimp only) | (go_at_call 90;refine (Cl _ _ _ _).mono ?_;rintro e w9 ⟨rfl,rfl⟩;(try (with_reducible first | rw [e0] | rw [a0] | rw [a1] | rw [a2] | rw [a3] | rw [a4]));dsimp only) | (go_at_call 163;refine C.mono ?_;rintro e w1 ⟨rfl,b1⟩))
  dsimp only [List.append];go_wp2_with (first | (go_at_call 161;refine (Cu _ _).mono ?_;rintro e w9 ⟨rfl,rfl⟩;(try (with_reducible first | rw [e0] | rw [a0] | rw [a1] | rw [a2] | rw [a3] | rw [a4]));dsimp only) | (go_at_call 90;refine (Cl _ _ _ _).mono ?_;rintro e w9 ⟨rfl,rfl⟩;(try (with_reducible first | rw [e0] | rw [a0] | rw [a1] | rw [a2] | rw [a3] | rw [a4]));dsimp only) | (go_at_call 163;refine C.mono ?_;rintro e w1 ⟨rfl,b1⟩))
  go_ret;exact ⟨Bx H.out.symm,Bv B0 b1⟩
 all_goals
  have H:=Bq (show Dq ⟨5,rn,p,tk,ty,wk,dr⟩=false by rw [HD.out];simp only [bne_eq_false_iff_eq,bne_iff_ne] at *;simp [Fi, *]);go_enter func91,ntmps91;go_upto_region 6 with (first | (go_at_call 161;refine (Cu _ _).mono ?_;rintro e w9 ⟨rfl,rfl⟩;(try (with_reducible first | rw [e0] | rw [a0] | rw [a1] | rw [a2] | rw [a3] | rw [a4]));dsimp only) | (go_at_call 90;refine (Cl _ _ _ _).mono ?_;rintro e w9 ⟨rfl,rfl⟩;(try (with_reducible first | rw [e0] | rw [a0] | rw [a1] | rw [a2] | rw [a3] | rw [a4]));dsimp only))
  dsimp only [List.append];go_wp2_with (first | (go_at_call 161;refine (Cu _ _).mono ?_;rintro e w9 ⟨rfl,rfl⟩;(try (with_reducible first | rw [e0] | rw [a0] | rw [a1] | rw [a2] | rw [a3] | rw [a4]));dsimp only) | (go_at_call 90;refine (Cl _ _ _ _).mono ?_;rintro e w9 ⟨rfl,rfl⟩;(try (with_reducible first | rw [e0] | rw [a0] | rw [a1] | rw [a2] | rw [a3] | rw [a4]));dsimp only))
  go_ret;exact ⟨Bx H.out.symm,B0⟩
theorem Acp (d:Deed) (s:Sl) (w:World) (hk:d.kind=8) (h:Fb.rd w w d s) :
  Calls An 91 #[Dw d s] w fun e w'=>e = .returned (.bool (Dq d))/\Below w w w':=by
 have h2:Ck.rd w w d.plan s:=h;have HR:=Bq (show ∀ W,Below w w W->Ck.rd W W d.plan s from fun W hW=>Ck.rd_more (Ck.rd_below h2 hW) hW.size);clear h h2;obtain ⟨A,n,c⟩:=s;obtain ⟨kd,rn,p,tk,ty,wk,dr⟩:=d;obtain rfl:kd=8:=hk;have X:=DBox.new 45 [J Ab 8,J Ab rn,J Ab p.prio,J Ab p.most,J Ab p.wait,J Ab p.tasks,Aa A n c,J Ab tk,J Ab ty,J Ab wk,J Ab dr] w (b:=w) rfl;have B0:Below w w (w.alloc (.cells #[J Ab 8,J Ab rn,J Ab p.prio,J Ab p.most,J Ab p.wait,J Ab p.tasks,Aa A n c,J Ab tk,J Ab ty,J Ab wk,J Ab dr] 45)):=by repeat (first | exact Br _ _ | refine Af ?_ Bo _)
 have e0:inB 8 1 8=true:=rfl;have HD:=Bq (show Dq ⟨8,rn,p,tk,ty,wk,dr⟩=((rn == 0) && (tk == 0) && (ty == 0) && (wk == 0) && (dr == 0) && Fq p) by simp [Dq,inB,Bool.and_assoc]);by_cases a0:(rn != 0)=true;rotate_left;replace a0:(rn != 0)=false:=by simpa using a0
 by_cases a1:(tk != 0)=true;rotate_left;replace a1:(tk != 0)=false:=by simpa using a1
 by_cases a2:(ty != 0)=true;rotate_left;replace a2:(ty != 0)=false:=by simpa using a2
 by_cases a3:(wk != 0)=true;rotate_left;replace a3:(wk != 0)=false:=by simpa using a3
 by_cases a4:(dr != 0)=true;rotate_left;replace a4:(dr != 0)=false:=by simpa using a4
 ·have H:=Bq (show Dq ⟨8,rn,p,tk,ty,wk,dr⟩=Fq p by rw [HD.out];simp only [bne_eq_false_iff_eq] at a0 a1 a2 a3 a4;simp [Fi, *]);have C:=Hr p ⟨A,n,c⟩ _ (HR.out _ B0);go_enter func91,ntmps91;go_upto_region 6 with (first | (go_at_call 161;refine (Cu _ _).mono ?_;rintro e w9 ⟨rfl,rfl⟩;(try (with_reducible first | rw [e0] | rw [a0] | rw [a1] | rw [a2] | rw [a3] | rw [a4]));dsimp only) | (go_at_call 90;refine (Cl _ _ _ _).mono ?_;rintro e w9 ⟨rfl,rfl⟩;(try (with_reducible first | rw [e0] | rw [a0] | rw [a1] | rw [a2] | rw [a3] | rw [a4]));dsimp only) | (go_at_call 163;refine C.mono ?_;rintro e w1 ⟨rfl,b1⟩))
  dsimp only [List.append];go_wp2_with (first | (go_at_call 161;refine (Cu _ _).mono ?_;rintro e w9 ⟨rfl,rfl⟩;(try (with_reducible first | rw [e0] | rw [a0] | rw [a1] | rw [a2] | rw [a3] | rw [a4]));dsimp only) | (go_at_call 90;refine (Cl _ _ _ _).mono ?_;rintro e w9 ⟨rfl,rfl⟩;(try (with_reducible first | rw [e0] | rw [a0] | rw [a1] | rw [a2] | rw [a3] | rw [a4]));dsimp only) | (go_at_call 163;refine C.mono ?_;rintro e w1 ⟨rfl,b1⟩))
  go_ret;exact ⟨Bx H.out.symm,Bv B0 b1⟩
 all_goals
  have H:=Bq (show Dq ⟨8,rn,p,tk,ty,wk,dr⟩=false by rw [HD.out];simp only [bne_eq_false_iff_eq,bne_iff_ne] at *;simp [Fi, *]);go_enter func91,ntmps91;go_upto_region 6 with (first | (go_at_call 161;refine (Cu _ _).mono ?_;rintro e w9 ⟨rfl,rfl⟩;(try (with_reducible first | rw [e0] | rw [a0] | rw [a1] | rw [a2] | rw [a3] | rw [a4]));dsimp only) | (go_at_call 90;refine (Cl _ _ _ _).mono ?_;rintro e w9 ⟨rfl,rfl⟩;(try (with_reducible first | rw [e0] | rw [a0] | rw [a1] | rw [a2] | rw [a3] | rw [a4]));dsimp only))
  dsimp only [List.append];go_wp2_with (first | (go_at_call 161;refine (Cu _ _).mono ?_;rintro e w9 ⟨rfl,rfl⟩;(try (with_reducible first | rw [e0] | rw [a0] | rw [a1] | rw [a2] | rw [a3] | rw [a4]));dsimp only) | (go_at_call 90;refine (Cl _ _ _ _).mono ?_;rintro e w9 ⟨rfl,rfl⟩;(try (with_reducible first | rw [e0] | rw [a0] | rw [a1] | rw [a2] | rw [a3] | rw [a4]));dsimp only))
  go_ret;exact ⟨Bx H.out.symm,B0⟩
theorem Acq (d:Deed) (s:Sl) (w:World) (hk:d.kind=6) (h:Fb.rd w w d s) :
  Calls An 91 #[Dw d s] w fun e w'=>e = .returned (.bool (Dq d))/\Below w w w':=by
 have h2:Ck.rd w w d.plan s:=h;have HR:=Bq (show ∀ W,Below w w W->Ck.rd W W d.plan s from fun W hW=>Ck.rd_more (Ck.rd_below h2 hW) hW.size);clear h h2;obtain ⟨A,n,c⟩:=s;obtain ⟨kd,rn,p,tk,ty,wk,dr⟩:=d;obtain rfl:kd=6:=hk;have X:=DBox.new 45 [J Ab 6,J Ab rn,J Ab p.prio,J Ab p.most,J Ab p.wait,J Ab p.tasks,Aa A n c,J Ab tk,J Ab ty,J Ab wk,J Ab dr] w (b:=w) rfl;have B0:Below w w (w.alloc (.cells #[J Ab 6,J Ab rn,J Ab p.prio,J Ab p.most,J Ab p.wait,J Ab p.tasks,Aa A n c,J Ab tk,J Ab ty,J Ab wk,J Ab dr] 45)):=by repeat (first | exact Br _ _ | refine Af ?_ Bo _)
 have e0:inB 6 1 8=true:=rfl;have HD:=Bq (show Dq ⟨6,rn,p,tk,ty,wk,dr⟩=(Fi rn && (tk == 0) && (ty == 0) && (wk == 0) && (dr == 0) && Fq p) by simp [Dq,inB,Bool.and_assoc]);by_cases a0:inB rn 0 1000000000=false;rotate_left;replace a0:inB rn 0 1000000000=true:=by simpa using a0
 by_cases a1:(tk != 0)=true;rotate_left;replace a1:(tk != 0)=false:=by simpa using a1
 by_cases a2:(ty != 0)=true;rotate_left;replace a2:(ty != 0)=false:=by simpa using a2
 by_cases a3:(wk != 0)=true;rotate_left;replace a3:(wk != 0)=false:=by simpa using a3
 by_cases a4:(dr != 0)=true;rotate_left;replace a4:(dr != 0)=false:=by simpa using a4
 ·have H:=Bq (show Dq ⟨6,rn,p,tk,ty,wk,dr⟩=Fq p by rw [HD.out];simp only [bne_eq_false_iff_eq] at a0 a1 a2 a3 a4;simp [Fi, *]);have C:=Hr p ⟨A,n,c⟩ _ (HR.out _ B0);go_enter func91,ntmps91;go_upto_region 6 with (first | (go_at_call 161;refine (Cu _ _).mono ?_;rintro e w9 ⟨rfl,rfl⟩;(try (with_reducible first | rw [e0] | rw [a0] | rw [a1] | rw [a2] | rw [a3] | rw [a4]));dsimp only) | (go_at_call 90;refine (Cl _ _ _ _).mono ?_;rintro e w9 ⟨rfl,rfl⟩;(try (with_reducible first | rw [e0] | rw [a0] | rw [a1] | rw [a2] | rw [a3] | rw [a4]));dsimp only) | (go_at_call 163;refine C.mono ?_;rintro e w1 ⟨rfl,b1⟩))
  dsimp only [List.append];go_wp2_with (first | (go_at_call 161;refine (Cu _ _).mono ?_;rintro e w9 ⟨rfl,rfl⟩;(try (with_reducible first | rw [e0] | rw [a0] | rw [a1] | rw [a2] | rw [a3] | rw [a4]));dsimp only) | (go_at_call 90;refine (Cl _ _ _ _).mono ?_;rintro e w9 ⟨rfl,rfl⟩;(try (with_reducible first | rw [e0] | rw [a0] | rw [a1] | rw [a2] | rw [a3] | rw [a4]));dsimp only) | (go_at_call 163;refine C.mono ?_;rintro e w1 ⟨rfl,b1⟩))
  go_ret;exact ⟨Bx H.out.symm,Bv B0 b1⟩
 all_goals
  have H:=Bq (show Dq ⟨6,rn,p,tk,ty,wk,dr⟩=false by rw [HD.out];simp only [bne_eq_false_iff_eq,bne_iff_ne] at *;simp [Fi, *]);go_enter func91,ntmps91;go_upto_region 6 with (first | (go_at_call 161;refine (Cu _ _).mono ?_;rintro e w9 ⟨rfl,rfl⟩;(try (with_reducible first | rw [e0] | rw [a0] | rw [a1] | rw [a2] | rw [a3] | rw [a4]));dsimp only) | (go_at_call 90;refine (Cl _ _ _ _).mono ?_;rintro e w9 ⟨rfl,rfl⟩;(try (with_reducible first | rw [e0] | rw [a0] | rw [a1] | rw [a2] | rw [a3] | rw [a4]));dsimp only))
  dsimp only [List.append];go_wp2_with (first | (go_at_call 161;refine (Cu _ _).mono ?_;rintro e w9 ⟨rfl,rfl⟩;(try (with_reducible first | rw [e0] | rw [a0] | rw [a1] | rw [a2] | rw [a3] | rw [a4]));dsimp only) | (go_at_call 90;refine (Cl _ _ _ _).mono ?_;rintro e w9 ⟨rfl,rfl⟩;(try (with_reducible first | rw [e0] | rw [a0] | rw [a1] | rw [a2] | rw [a3] | rw [a4]));dsimp only))
  go_ret;exact ⟨Bx H.out.symm,B0⟩
theorem Acr (d:Deed) (s:Sl) (w:World) (hk:d.kind=7) (h:Fb.rd w w d s) :
  Calls An 91 #[Dw d s] w fun e w'=>e = .returned (.bool (Dq d))/\Below w w w':=by
 have h2:Ck.rd w w d.plan s:=h;have HR:=Bq (show ∀ W,Below w w W->Ck.rd W W d.plan s from fun W hW=>Ck.rd_more (Ck.rd_below h2 hW) hW.size);clear h h2;obtain ⟨A,n,c⟩:=s;obtain ⟨kd,rn,p,tk,ty,wk,dr⟩:=d;obtain rfl:kd=7:=hk;have X:=DBox.new 45 [J Ab 7,J Ab rn,J Ab p.prio,J Ab p.most,J Ab p.wait,J Ab p.tasks,Aa A n c,J Ab tk,J Ab ty,J Ab wk,J Ab dr] w (b:=w) rfl;have B0:Below w w (w.alloc (.cells #[J Ab 7,J Ab rn,J Ab p.prio,J Ab p.most,J Ab p.wait,J Ab p.tasks,Aa A n c,J Ab tk,J Ab ty,J Ab wk,J Ab dr] 45)):=by repeat (first | exact Br _ _ | refine Af ?_ Bo _)
 have e0:inB 7 1 8=true:=rfl;have HD:=Bq (show Dq ⟨7,rn,p,tk,ty,wk,dr⟩=(Fi rn && (tk == 0) && (ty == 0) && (wk == 0) && (dr == 0) && Fq p) by simp [Dq,inB,Bool.and_assoc]);by_cases a0:inB rn 0 1000000000=false;rotate_left;replace a0:inB rn 0 1000000000=true:=by simpa using a0
 by_cases a1:(tk != 0)=true;rotate_left;replace a1:(tk != 0)=false:=by simpa using a1
 by_cases a2:(ty != 0)=true;rotate_left;replace a2:(ty != 0)=false:=by simpa using a2
 by_cases a3:(wk != 0)=true;rotate_left;replace a3:(wk != 0)=false:=by simpa using a3
 by_cases a4:(dr != 0)=true;rotate_left;replace a4:(dr != 0)=false:=by simpa using a4
 ·have H:=Bq (show Dq ⟨7,rn,p,tk,ty,wk,dr⟩=Fq p by rw [HD.out];simp only [bne_eq_false_iff_eq] at a0 a1 a2 a3 a4;simp [Fi, *]);have C:=Hr p ⟨A,n,c⟩ _ (HR.out _ B0);go_enter func91,ntmps91;go_upto_region 6 with (first | (go_at_call 161;refine (Cu _ _).mono ?_;rintro e w9 ⟨rfl,rfl⟩;(try (with_reducible first | rw [e0] | rw [a0] | rw [a1] | rw [a2] | rw [a3] | rw [a4]));dsimp only) | (go_at_call 90;refine (Cl _ _ _ _).mono ?_;rintro e w9 ⟨rfl,rfl⟩;(try (with_reducible first | rw [e0] | rw [a0] | rw [a1] | rw [a2] | rw [a3] | rw [a4]));dsimp only) | (go_at_call 163;refine C.mono ?_;rintro e w1 ⟨rfl,b1⟩))
  dsimp only [List.append];go_wp2_with (first | (go_at_call 161;refine (Cu _ _).mono ?_;rintro e w9 ⟨rfl,rfl⟩;(try (with_reducible first | rw [e0] | rw [a0] | rw [a1] | rw [a2] | rw [a3] | rw [a4]));dsimp only) | (go_at_call 90;refine (Cl _ _ _ _).mono ?_;rintro e w9 ⟨rfl,rfl⟩;(try (with_reducible first | rw [e0] | rw [a0] | rw [a1] | rw [a2] | rw [a3] | rw [a4]));dsimp only) | (go_at_call 163;refine C.mono ?_;rintro e w1 ⟨rfl,b1⟩))
  go_ret;exact ⟨Bx H.out.symm,Bv B0 b1⟩
 all_goals
  have H:=Bq (show Dq ⟨7,rn,p,tk,ty,wk,dr⟩=false by rw [HD.out];simp only [bne_eq_false_iff_eq,bne_iff_ne] at *;simp [Fi, *]);go_enter func91,ntmps91;go_upto_region 6 with (first | (go_at_call 161;refine (Cu _ _).mono ?_;rintro e w9 ⟨rfl,rfl⟩;(try (with_reducible first | rw [e0] | rw [a0] | rw [a1] | rw [a2] | rw [a3] | rw [a4]));dsimp only) | (go_at_call 90;refine (Cl _ _ _ _).mono ?_;rintro e w9 ⟨rfl,rfl⟩;(try (with_reducible first | rw [e0] | rw [a0] | rw [a1] | rw [a2] | rw [a3] | rw [a4]));dsimp only))
  dsimp only [List.append];go_wp2_with (first | (go_at_call 161;refine (Cu _ _).mono ?_;rintro e w9 ⟨rfl,rfl⟩;(try (with_reducible first | rw [e0] | rw [a0] | rw [a1] | rw [a2] | rw [a3] | rw [a4]));dsimp only) | (go_at_call 90;refine (Cl _ _ _ _).mono ?_;rintro e w9 ⟨rfl,rfl⟩;(try (with_reducible first | rw [e0] | rw [a0] | rw [a1] | rw [a2] | rw [a3] | rw [a4]));dsimp only))
  go_ret;exact ⟨Bx H.out.symm,B0⟩
end Go.Proofs.YtecnbnbopcblgaaGreat
