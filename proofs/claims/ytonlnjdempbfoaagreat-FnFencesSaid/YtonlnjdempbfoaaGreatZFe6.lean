/-
  Copies of yards, of the program and of the reference. Written by program (yy.py). slices.DeleteFunc: lists of which some are kept; builtin clear at cells of sev
-/
import Derived.Test.YtonlnjdempbfoaaGreatZFe0
import Derived.Test.YtonlnjdempbfoaaGreatZFe2
import Derived.Test.YtonlnjdempbfoaaGreatZFe5
import Derived.Laws.Externs
import Derived.Laws.NewBlocks
import Derived.Deep.Cut
namespace Go.Proofs.YtonlnjdempbfoaaGreat
open Go.RowKit
set_option maxRecDepth 100000
set_option maxHeartbeats 4000000
set_option linter.unusedVariables false
set_option linter.unusedSimpArgs false
open Value renaming int->J,slice->Aa
open IntKind renaming i64->U
open Option renaming none->Ab,some->Ac
open Below renaming setCell->Ad,alloc->Ae
open Nat renaming zero_le->Ag,le_trans->Ah,lt_of_lt_of_le->Ai
open Go.Proofs.Tryz renaming prog->An
open IntWalk renaming i64_in->Ar
open List renaming getElem_mem->Aw,length_take->Az,length_append->A0,length_set->Bg
open World renaming size_alloc->Bi
theorem OwL.grown {α:Type} {d:Dt α} {w w':World} {F:List Nat} {v:Value} {l:List α} {row:Option Nat} (h:OwL d w F v l) (hg:w.grownBy w' row) (hd:∀ b∈F,row≠Ac b):OwL d w' F v l :=
 h.keep hg.size fun b hb=>hg.block b (h.lt b hb) (fun e=>hd b hb e.symm)
def CopyYPost (y:Yard) (w:World) (e:Ending) (w':World):Prop :=
 ∃ (s1 s2:Sl) (F1:List Nat) (base:Nat),e = .returned (Du y (s1,s2))/\OwL (Dt.list Cg) w' F1 s1.v y.shelf/\(∀ b∈F1,w<=b/\b<base)/\w.heap.size+1<base/\base<=w'.heap.size/\Bls Co 89 w' base s2.v y.runs/\Below w w w'
theorem CopyYPost.own {y:Yard} {w w':World} {e:Ending} (h:CopyYPost y w e w'):Fc Bu Du y w e w':=by
 obtain ⟨s1,s2,F1,base,rfl,h1,h2,h3,_,⟨rs,hm,hB⟩,h4⟩:=h;obtain ⟨F2,h5,h6⟩:=hB.owl hm;refine ⟨(s1,s2),F1 ++ F2,rfl,⟨F1,F2,rfl,?_,h1,h5⟩,fun b hb=>?_,h4⟩
 ·rw [List.nodup_append];refine ⟨h1.nodup,h5.nodup,fun u hu u' hu' e=>?_⟩
  have:=h2 u hu
  have:=h6 u' hu'
  omega
 ·rcases List.mem_append.1 hb with hb | hb
  ·exact (h2 b hb).1
  ·have:=h6 b hb;omega
theorem Bls.below {α:Type} {d:Dt α} {E:TypeId} {w w':World} {base:Nat} {v:Value} {l:List α} (h:Bls d E w base v l) (hb:Below w w w'):Bls d E w' base v l:=by
 obtain ⟨rs,hm,hB⟩:=h;exact ⟨rs,hm,hB.below hb⟩
theorem Bls.setOther {α:Type} {d:Dt α} {E:TypeId} {w:World} {base:Nat} {v:Value} {l:List α} (h:Bls d E w base v l) {a:Addr} (ha:a.block<base) (u:Value):Bls d E (w.setCell a u) base v l:=by
 obtain ⟨rs,hm,hB⟩:=h;exact ⟨rs,hm,hB.setOther ha u⟩
theorem Rj (y:Yard) (s:Sl×Sl) (w:World) (hl:Ci y<=2000000) (h:Bu.rd w w y s) :
  Calls An 59 #[Du y s] w (CopyYPost y w):=by
 obtain ⟨⟨A1,n1,c1⟩,⟨A2,n2,c2⟩⟩:=s;obtain rfl:n1=y.shelf.length:=RdL.at1 (s:=⟨A1,n1,c1⟩) h.1;obtain rfl:n2=y.runs.length:=RdL.at1 (s:=⟨A2,n2,c2⟩) h.2;have h1:RdL (Dt.list Cg) w w (.slice A1 y.shelf.length c1) y.shelf:=h.1;have h2:RdL Co w w (.slice A2 y.runs.length c2) y.runs:=h.2;have eD:y.runs.length<=2000000:=Ah (Ct C9 _) (by unfold Ci at hl;omega);have hls:y.shelf.length<=2000000:=Ah (Ct De _) (by unfold Ci at hl;omega);have HE:=Bp (show ∀ k (hk:k<y.shelf.length),y.shelf[k].length<=2000000 from fun k hk=>by
  have:=Fk (cnt:=De) (Aw hk)
  have h2:y.shelf[k].length<=De y.shelf[k]:=Ct I6 _;unfold Ci at hl;omega)
 have HC:=Bp (show ∀ k (hk:k<y.runs.length),C9 y.runs[k]<=2000000 from fun k hk=>by
  have:=Fk (cnt:=C9) (Aw hk)
  unfold Ci at hl;omega)
 clear h;obtain ⟨W,aH,X,Z,O,B0⟩:=bx3 w 31 [.int .i64 y.now,.int .i64 y.seq,.slice A1 y.shelf.length c1,.slice A2 y.runs.length c2] 31 [.int .i64 0,.int .i64 0,.slice Ab 0 0,.slice Ab 0 0] 31 [.int .i64 y.now,.int .i64 y.seq,.slice Ab 0 0,.slice Ab 0 0];obtain ⟨i0,aL,aR,aS,aP⟩:=info_parts Mn;obtain ⟨e0,he0,ez0,ez1,ez2⟩:=info_parts Fw;obtain ⟨j0,bS,jz0,jz1,jz2⟩:=info_parts N2;go_enter Tryz.func59,Tryz.ntmps59;go_wp2;rw [<-aH.out];clear aH;have pF:w.heap.size+3<=W.heap.size:=O.lt;go_loopw [16] (fun i wr=>∃ (k:Nat) (v:Value),k<=y.shelf.length/\i = .int .i64 k/\Hid (Bls (Dt.list Cg) 96 wr (w.heap.size+3) v (y.shelf.take k))/\DBox w [.int .i64 y.now,.int .i64 y.seq,.slice A1 y.shelf.length c1,.slice A2 y.runs.length c2] wr/\DBox (w.heap.size+1) [.int .i64 0,.int .i64 0,.slice Ab 0 0,.slice Ab 0 0] wr/\DBox (w.heap.size+1+1) [.int .i64 y.now,.int .i64 y.seq,v,.slice Ab 0 0] wr/\Below w w wr/\w.heap.size+3<=wr.heap.size) (fun i _=>y.shelf.length - (intOf i).toNat);case atStart=>exact ⟨0,_,Ag _,rfl,⟨[],rfl,Bld.nil _ _ _ _⟩,X,Z,O,B0,pF⟩
 case round =>
  clear X Z O B0 pF;obtain ⟨k,v,hk,rfl,fQ,X,Z,O,hb,bG⟩:=hrel;obtain ⟨X_0,X_1,X_2,X_3,X_l⟩:=X.g4;obtain ⟨O_0,O_1,O_2,O_3,O_l⟩:=O.g4;have O_f:=O.free;by_cases aA:k<y.shelf.length
  ·have aB:(k:Int)<(y.shelf.length:Int):=Bk;obtain ⟨b,o,⟨As,ns,cs⟩,kE,aG,hr,d0⟩:=(h1.below hb).entryS aA;obtain rfl:ns=y.shelf[k].length:=RdL.at1 (s:=⟨As,ns,cs⟩) hr;subst kE;have bL:b<wr:=Ai aG hb.size;have hez:=HE.out k aA;obtain ⟨rs,hm,hB⟩:=fQ.out;have cA:rs.length=k:=by have:=congrArg List.length hm;simpa [Nat.min_eq_left hk] using this
   have hrl':rs.length<=2000000:=Bk;have Hrl:=Bp cA;clear cA;have hO:=hB.ow;have aC:v.ownBlock≠Ac (w.heap.size+1+1):=fun e=>by have:=hO.within _ e;omega
   have cE:=Bp (show ∀ W,Below wr wr W->RdL Cg W W (Sl.v ⟨As,y.shelf[k].length,cs⟩) y.shelf[k] from fun W hW=>RdL.more (RdL.below (RdL.more hr hb.size) hW) hW.size);go_wp2;refine Dj (fun w'=>w'.cell? ⟨w.heap.size+1+1,2,Ab⟩=Ac v) 7 Bl ?_ (fun hHeld=>?_)
   ·simpa [go_sem] using O_2
   refine aT 0 hHeld ?_;try simp only [pS]
   refine aT 1 hHeld ?_;try simp only [pS]
   refine aT 2 hHeld ?_;try simp only [pS]
   refine oT 3 (fun K hK=>?_)
   (go_simp;refine (Ik y.shelf[k] ⟨As,y.shelf[k].length,cs⟩ _ hez (cE.out _ (Bq _ _).drew)).mono ?_;rintro e w2 ⟨s2,F2,rfl,o2,n2,b2⟩;(try dsimp only [slV]);have B12:=Bs ((Bq wr wr).drew) b2;have z2:=B12.size;simp only [World.size_drew] at n2;have O2:=O.below B12;have X2:=X.below B12;have k0:w2.cell? ⟨w.heap.size+1+1,2,Ab⟩=Ac v:=O2.cell 2 _ rfl;have d2f:=O2.free;have d2l:=O2.lt;go_simp)
   refine hK.out _ _ (fun _=>?_) ?_
   ·exact k0
   clear hK K;try simp only [pS]
   refine oT 4 (fun K hK=>?_);go_simp;refine hK.out _ _ (fun _=>?_) ?_
   ·(first | assumption | go_keep)
   clear hK K;try simp only [pS]
   refine oT 5 (fun K hK=>?_)
   (refine Df _ (Dt.list Cg).enc Bo (by rfl) (.tmp 21) (.tmp 24) (by rfl) Tryz.underlying28 aL aR aS aP (by rfl) (v:=v) (l:=rs) (by rfl) (hO.below (B12.alloc Bk _)) (by rfl) (Rd.one (Dt.list Cg).enc _ _ (y.shelf[k],s2) Bm rfl 1 (Br _) (Nat.lt_succ_self _)) Bk Bm Bo (by (try simp only [Bi]);omega) ?_;intro v5 w5 o5 g5 f5;obtain ⟨A5,c5,rfl,-⟩:=id (Rd.of_own o5);simp only [A0,List.length_singleton] at o5 f5;have dC:=(Bq w2 w2).alloc (Br _) (.cells #[.slice s2.a s2.n s2.c] 96);have O5:=(O2.below dC).off g5 (fun e=>aC e.symm);have m0:w5.cell? ⟨w.heap.size+1+1,2,Ab⟩=Ac v:=O5.cell 2 _ rfl;have X5:=(X2.below dC).off g5 (fun e=>by have:=hO.within _ e.symm;omega);have fO:=O5.free;have lO:=O5.lt)
   refine hK.out _ _ (fun _=>?_) ?_
   ·exact m0
   clear hK K;try simp only [pS]
   refine oT 6 (fun K hK=>?_);go_simp;refine hK.out _ _ (fun _=>?_) ?_
   ·exact m0
   clear hK K;try simp only [pS]
   refine oT 7 (fun K hK=>?_);go_simp;refine hK.out _ _ (fun aC=>absurd rfl aC) ?_;clear hK K;try simp only [pS]
   refine Ec Bl ?_ _;go_wp2;have Z5:=((Z.below B12).below dC).off g5 (fun e=>by have:=hO.within _ e.symm;omega);have hP:=Bld.push1 (d:=Dt.list Cg) hB B12 o2 (fun b bE=>by have:=n2 b bE;omega) bG dC o5 g5 f5;have W5:=((hb.trans (B12.mono hb.size)).alloc Bk (.cells #[.slice s2.a s2.n s2.c] 96)).grown g5 (by (try simp only [Bi]);omega) (fun g hg=>by have:=hO.within g hg;omega);have S:Hid (Bls (Dt.list Cg) 96 (w5.setCell ⟨w.heap.size+1+1,2,Ab⟩ (.slice A5 (rs.length+1) c5)) (w.heap.size+3) (.slice A5 (rs.length+1) c5) (y.shelf.take (k+1))):=⟨rs ++ [(y.shelf[k],s2)],by rw [List.map_append,hm,Dc y.shelf k aA];rfl,hP.setOther (a:=⟨w.heap.size+1+1,2,Ab⟩) (by show w.heap.size+1+1<_;omega) _⟩
   have g5s:=g5.size;simp only [Bi] at g5s;have SX:=X5.setOther (a:=⟨w.heap.size+1+1,2,Ab⟩) (by show w.heap.size≠w.heap.size+1+1;omega) (.slice A5 (rs.length+1) c5);have SZ:=Z5.setOther (a:=⟨w.heap.size+1+1,2,Ab⟩) (by show w.heap.size+1≠w.heap.size+1+1;omega) (.slice A5 (rs.length+1) c5);have SO:DBox (w.heap.size+1+1) [.int .i64 y.now,.int .i64 y.seq,.slice A5 (rs.length+1) c5,.slice Ab 0 0] (w5.setCell ⟨w.heap.size+1+1,2,Ab⟩ (.slice A5 (rs.length+1) c5)):=O5.set 2 Bm _;have SW:Below w w (w5.setCell ⟨w.heap.size+1+1,2,Ab⟩ (.slice A5 (rs.length+1) c5)):=W5.setCell (by show w.heap.size<=w.heap.size+1+1;omega) _;have SS:w.heap.size+3<=(w5.setCell ⟨w.heap.size+1+1,2,Ab⟩ (.slice A5 (rs.length+1) c5)).heap.size:=by simp [World.setCell];omega
   first
    | exact ⟨⟨k+1,Bk,Bm,.slice A5 (rs.length+1) c5,S,SX,SZ,SO,SW,by simpa using SS⟩,by simp [intOf];omega⟩
    | exact ⟨⟨k+1,.slice A5 (rs.length+1) c5,Bk,by go_num,S,SX,SZ,SO,SW,SS⟩,by simp [intOf];omega⟩
    | (refine ⟨?_,by simp [intOf];omega⟩;(repeat apply Exists.intro);first | exact ⟨⟨k+1,.slice A5 (rs.length+1) c5,Bk,by go_num,S,SX,SZ,SO,SW,SS⟩,rfl⟩ | exact ⟨⟨k+1,.slice A5 (rs.length+1) c5,Bk,by go_num,S,SX,SZ,SO,SW,SS⟩,rfl,rfl⟩ | exact ⟨⟨k+1,.slice A5 (rs.length+1) c5,Bk,by go_num,S,SX,SZ,SO,SW,SS⟩,rfl,rfl,rfl⟩ | exact ⟨⟨k+1,.slice A5 (rs.length+1) c5,Bk,by go_num,S,SX,SZ,SO,SW,SS⟩,rfl,rfl,rfl,rfl⟩ | exact ⟨⟨k+1,.slice A5 (rs.length+1) c5,Bk,by go_num,S,SX,SZ,SO,SW,SS⟩,rfl,rfl,rfl,rfl,rfl⟩ | exact ⟨⟨k+1,.slice A5 (rs.length+1) c5,Bk,by go_num,S,SX,SZ,SO,SW,SS⟩,rfl,rfl,rfl,rfl,rfl,rfl⟩ | exact ⟨⟨k+1,.slice A5 (rs.length+1) c5,Bk,by go_num,S,SX,SZ,SO,SW,SS⟩,rfl,rfl,rfl,rfl,rfl,rfl,rfl⟩ | exact ⟨⟨k+1,.slice A5 (rs.length+1) c5,Bk,by go_num,S,SX,SZ,SO,SW,SS⟩,rfl,rfl,rfl,rfl,rfl,rfl,rfl,rfl⟩ | exact ⟨⟨k+1,.slice A5 (rs.length+1) c5,Bk,by go_num,S,SX,SZ,SO,SW,SS⟩,rfl,rfl,rfl,rfl,rfl,rfl,rfl,rfl,rfl⟩ | exact ⟨⟨k+1,.slice A5 (rs.length+1) c5,Bk,by go_num,S,SX,SZ,SO,SW,SS⟩,rfl,rfl,rfl,rfl,rfl,rfl,rfl,rfl,rfl,rfl⟩ | exact ⟨⟨k+1,.slice A5 (rs.length+1) c5,Bk,by go_num,S,SX,SZ,SO,SW,SS⟩,rfl,rfl,rfl,rfl,rfl,rfl,rfl,rfl,rfl,rfl,rfl⟩ | exact ⟨⟨k+1,.slice A5 (rs.length+1) c5,Bk,by go_num,S,SX,SZ,SO,SW,SS⟩,rfl,rfl,rfl,rfl,rfl,rfl,rfl,rfl,rfl,rfl,rfl,rfl⟩ | exact ⟨⟨k+1,.slice A5 (rs.length+1) c5,Bk,by go_num,S,SX,SZ,SO,SW,SS⟩,rfl,rfl,rfl,rfl,rfl,rfl,rfl,rfl,rfl,rfl,rfl,rfl,rfl⟩)
  ·have aB:¬ (k:Int)<(y.shelf.length:Int):=Bk;have aZ:k=y.shelf.length:=Bk;obtain ⟨F1,⟨⟨A9,n9,c9⟩,rfl,OS⟩,nS⟩:∃ F1,(∃ s:Sl,v = .slice s.a s.n s.c/\OwL (Dt.list Cg) wr F1 s.v y.shelf) /\ ∀ b∈F1,w.heap.size+3<=b:=by
    obtain ⟨rs,hm,hB⟩:=fQ.out;rw [aZ,List.take_length] at hm;obtain ⟨F,h1,h2⟩:=hB.owl hm;obtain ⟨A,c,rfl,_⟩:=h1.form;exact ⟨F,⟨⟨A,y.shelf.length,c⟩,rfl,h1⟩,h2⟩
   go_wp2;clear X_0 X_1 X_2 X_3 X_l O_0 O_1 O_2 O_3 O_l O_f aA aB aZ hk fQ;obtain ⟨ws,qR⟩:∃ ws,ws=wr:=⟨_,rfl⟩
   rw [<-qR] at hb X Z O OS bG ⊢;clear qR;have lS:∀ b∈F1,b<ws:=OS.lt;have hsw3:w.heap.size+3<=ws.heap.size:=bG;go_loopw [31] (fun i wr=>∃ (k:Nat) (v:Value),k<=y.runs.length/\i = .int .i64 k/\Hid (Bls Co 89 wr ws v (y.runs.take k))/\Hid (OwL (Dt.list Cg) wr F1 (.slice A9 n9 c9) y.shelf)/\DBox w [.int .i64 y.now,.int .i64 y.seq,.slice A1 y.shelf.length c1,.slice A2 y.runs.length c2] wr/\DBox (w.heap.size+1) [.int .i64 0,.int .i64 0,.slice Ab 0 0,.slice Ab 0 0] wr/\DBox (w.heap.size+1+1) [.int .i64 y.now,.int .i64 y.seq,.slice A9 n9 c9,v] wr/\Below w w wr/\ws.heap.size<=wr.heap.size) (fun i _=>y.runs.length - (intOf i).toNat);case atStart=>exact ⟨0,_,Ag _,rfl,⟨[],rfl,Bld.nil _ _ _ _⟩,OS,X,Z,O,hb,Br _⟩
   case round =>
    clear X Z O hb OS;obtain ⟨k,v,hk,rfl,fQ,OS,X,Z,O,hb,mM⟩:=hrel;obtain ⟨X_0,X_1,X_2,X_3,X_l⟩:=X.g4;obtain ⟨O_0,O_1,O_2,O_3,O_l⟩:=O.g4;have O_f:=O.free;by_cases aA:k<y.runs.length
    ·have aB:(k:Int)<(y.runs.length:Int):=Bk;obtain ⟨b,o,⟨⟨A8,n8,c8⟩,⟨At,nt,ct⟩⟩,dL,aG,cE,e0,e1,e2,e3,e4,e5,e6,e7⟩:=(h2.below hb).run aA;subst dL;have bL:b<wr:=Ai aG hb.size;have HRr:=Bp (show ∀ W,Below wr wr W->Co.rd W W y.runs[k] (⟨A8,n8,c8⟩,⟨At,nt,ct⟩) from fun W hW=>Co.rd_more (Co.rd_below (Co.rd_more cE hb.size) hW) hW.size);have jA:=HC.out k aA;obtain ⟨rs,hm,hB⟩:=fQ.out;have cA:rs.length=k:=by have:=congrArg List.length hm;simpa [Nat.min_eq_left hk] using this
     have hrl':rs.length<=2000000:=Bk;have Hrl:=Bp cA;clear cA;have hO:=hB.ow;have aC:v.ownBlock≠Ac (w.heap.size+1+1):=fun e=>by have:=hO.within _ e;omega
     have T:=DBox.new 89 [.int .i64 y.runs[k].id,.int .i64 y.runs[k].plan.prio,.int .i64 y.runs[k].plan.most,.int .i64 y.runs[k].plan.wait,.int .i64 y.runs[k].plan.tasks,.slice A8 n8 c8,.int .i64 y.runs[k].state,.slice At nt ct] wr rfl;have ha:=(Bq wr wr).alloc (Br _) (.cells #[.int .i64 y.runs[k].id,.int .i64 y.runs[k].plan.prio,.int .i64 y.runs[k].plan.most,.int .i64 y.runs[k].plan.wait,.int .i64 y.runs[k].plan.tasks,.slice A8 n8 c8,.int .i64 y.runs[k].state,.slice At nt ct] 89);go_wp2;generalize hW1:wr.alloc (.cells #[.int .i64 y.runs[k].id,.int .i64 y.runs[k].plan.prio,.int .i64 y.runs[k].plan.most,.int .i64 y.runs[k].plan.wait,.int .i64 y.runs[k].plan.tasks,.slice A8 n8 c8,.int .i64 y.runs[k].state,.slice At nt ct] 89)=w1 at *
     clear hW1 X_0 X_1 X_2 X_3 X_l O_0 O_1 O_2 O_3 O_l O_f e0 e1 e2 e3 e4 e5 e6 e7;have X1:=X.below ha;have O1:=O.below ha;have sa:=ha.size;have Tl:=T.lt;refine Dj (fun w'=>w'.cell? ⟨w.heap.size+1+1,3,Ab⟩=Ac v/\w'.cell? ⟨wr,0,Ab⟩=Ac (.int .i64 y.runs[k].id)/\w'.cell? ⟨wr,1,Ab⟩=Ac (.int .i64 y.runs[k].plan.prio)/\w'.cell? ⟨wr,2,Ab⟩=Ac (.int .i64 y.runs[k].plan.most)/\w'.cell? ⟨wr,3,Ab⟩=Ac (.int .i64 y.runs[k].plan.wait)/\w'.cell? ⟨wr,4,Ab⟩=Ac (.int .i64 y.runs[k].plan.tasks)/\w'.cell? ⟨wr,5,Ab⟩=Ac (.slice A8 n8 c8)/\w'.cell? ⟨wr,6,Ab⟩=Ac (.int .i64 y.runs[k].state)/\w'.cell? ⟨wr,7,Ab⟩=Ac (.slice At nt ct)) 7 Bl ?_ (fun hHeld=>?_)
     ·exact ⟨by simpa [go_sem] using O1.cell 3 _ rfl,by simpa [go_sem] using T.cell 0 _ rfl,by simpa [go_sem] using T.cell 1 _ rfl,by simpa [go_sem] using T.cell 2 _ rfl,by simpa [go_sem] using T.cell 3 _ rfl,by simpa [go_sem] using T.cell 4 _ rfl,by simpa [go_sem] using T.cell 5 _ rfl,by simpa [go_sem] using T.cell 6 _ rfl,by simpa [go_sem] using T.cell 7 _ rfl⟩
     refine aT 0 hHeld ?_;try simp only [pS]
     refine aT 1 hHeld ?_;try simp only [pS]
     refine aT 2 hHeld ?_;try simp only [pS]
     refine oT 3 (fun K hK=>?_)
     (go_simp;refine (Th y.runs[k] (⟨A8,n8,c8⟩,⟨At,nt,ct⟩) _ jA (HRr.out _ ha.drew)).mono ?_;rintro e w2 ⟨s2,F2,rfl,o2,n2,b2⟩;have B12:=Bs ha (Bs ((Bq w1 w1).drew) b2);have z2:=B12.size;simp only [World.size_drew] at n2;have O2:=O.below B12;have k0:w2.cell? ⟨w.heap.size+1+1,3,Ab⟩=Ac v:=O2.cell 3 _ rfl;have X2:=X.below B12;have T2:=T.below (Bs ((Bq w1 w1).drew) b2);have q0:w2.cell? ⟨wr,0,Ab⟩=Ac (.int .i64 y.runs[k].id):=T2.cell 0 _ rfl;have q1:w2.cell? ⟨wr,1,Ab⟩=Ac (.int .i64 y.runs[k].plan.prio):=T2.cell 1 _ rfl;have q2:w2.cell? ⟨wr,2,Ab⟩=Ac (.int .i64 y.runs[k].plan.most):=T2.cell 2 _ rfl;have q3:w2.cell? ⟨wr,3,Ab⟩=Ac (.int .i64 y.runs[k].plan.wait):=T2.cell 3 _ rfl;have q4:w2.cell? ⟨wr,4,Ab⟩=Ac (.int .i64 y.runs[k].plan.tasks):=T2.cell 4 _ rfl;have q5:w2.cell? ⟨wr,5,Ab⟩=Ac (.slice A8 n8 c8):=T2.cell 5 _ rfl;have q6:w2.cell? ⟨wr,6,Ab⟩=Ac (.int .i64 y.runs[k].state):=T2.cell 6 _ rfl;have q7:w2.cell? ⟨wr,7,Ab⟩=Ac (.slice At nt ct):=T2.cell 7 _ rfl;have d2f:=O2.free;have d2l:=O2.lt;go_simp)
     refine hK.out _ _ (fun _=>?_) ?_
     ·exact ⟨k0,q0,q1,q2,q3,q4,q5,q6,q7⟩
     clear hK K;try simp only [pS]
     refine oT 4 (fun K hK=>?_);go_simp;refine hK.out _ _ (fun _=>?_) ?_
     ·(refine ⟨?_,?_,?_,?_,?_,?_,?_,?_,?_⟩<;>first | assumption | go_keep)
     clear hK K;try simp only [pS]
     refine oT 5 (fun K hK=>?_)
     (refine Df _ Co.enc Bo (by rfl) (.tmp 36) (.tmp 39) (by rfl) Tryz.underlying29 bS jz0 jz1 jz2 (by rfl) (v:=v) (l:=rs) (by rfl) (hO.below (B12.alloc Bk _)) (by rfl) (Rd.one Co.enc _ _ (y.runs[k],s2) Bm rfl 1 (Br _) (Nat.lt_succ_self _)) Bk Bm Bo (by (try simp only [Bi]);omega) ?_;intro v5 w5 o5 g5 f5;obtain ⟨A5,c5,rfl,-⟩:=id (Rd.of_own o5);simp only [A0,List.length_singleton] at o5 f5;have dC:=(Bq w2 w2).alloc (Br _) (.cells #[.int .i64 y.runs[k].id,.int .i64 y.runs[k].plan.prio,.int .i64 y.runs[k].plan.most,.int .i64 y.runs[k].plan.wait,.int .i64 y.runs[k].plan.tasks,.slice s2.1.a s2.1.n s2.1.c,.int .i64 y.runs[k].state,.slice s2.2.a s2.2.n s2.2.c] 89);have O5:=(O2.below dC).off g5 (fun e=>aC e.symm);have m0:w5.cell? ⟨w.heap.size+1+1,3,Ab⟩=Ac v:=O5.cell 3 _ rfl;have X5:=(X2.below dC).off g5 (fun e=>by have:=hO.within _ e.symm;omega);have T5:=(T2.below dC).off g5 (fun e=>by have:=hO.within _ e.symm;omega);have r0:w5.cell? ⟨wr,0,Ab⟩=Ac (.int .i64 y.runs[k].id):=T5.cell 0 _ rfl;have r1:w5.cell? ⟨wr,1,Ab⟩=Ac (.int .i64 y.runs[k].plan.prio):=T5.cell 1 _ rfl;have r2:w5.cell? ⟨wr,2,Ab⟩=Ac (.int .i64 y.runs[k].plan.most):=T5.cell 2 _ rfl;have r3:w5.cell? ⟨wr,3,Ab⟩=Ac (.int .i64 y.runs[k].plan.wait):=T5.cell 3 _ rfl;have r4:w5.cell? ⟨wr,4,Ab⟩=Ac (.int .i64 y.runs[k].plan.tasks):=T5.cell 4 _ rfl;have r5:w5.cell? ⟨wr,5,Ab⟩=Ac (.slice A8 n8 c8):=T5.cell 5 _ rfl;have r6:w5.cell? ⟨wr,6,Ab⟩=Ac (.int .i64 y.runs[k].state):=T5.cell 6 _ rfl;have r7:w5.cell? ⟨wr,7,Ab⟩=Ac (.slice At nt ct):=T5.cell 7 _ rfl;have fO:=O5.free;have lO:=O5.lt)
     refine hK.out _ _ (fun _=>?_) ?_
     ·exact ⟨m0,r0,r1,r2,r3,r4,r5,r6,r7⟩
     clear hK K;try simp only [pS]
     refine oT 6 (fun K hK=>?_);go_simp;refine hK.out _ _ (fun _=>?_) ?_
     ·exact ⟨m0,r0,r1,r2,r3,r4,r5,r6,r7⟩
     clear hK K;try simp only [pS]
     refine oT 7 (fun K hK=>?_);go_simp;refine hK.out _ _ (fun aC=>absurd rfl aC) ?_;clear hK K;try simp only [pS]
     refine Ec Bl ?_ _;go_wp2;have Z5:=((Z.below B12).below dC).off g5 (fun e=>by have:=hO.within _ e.symm;omega);have OS5:=((OS.out.below B12).below dC).grown g5 (fun b bE e=>by have:=hO.within _ e;have:=lS b bE;omega);have hP:=Bld.push1 (d:=Co) hB B12 o2 (fun b bE=>by have:=n2 b bE;omega) mM dC o5 g5 f5;have W5:=((hb.trans (B12.mono hb.size)).alloc Bk (.cells #[.int .i64 y.runs[k].id,.int .i64 y.runs[k].plan.prio,.int .i64 y.runs[k].plan.most,.int .i64 y.runs[k].plan.wait,.int .i64 y.runs[k].plan.tasks,.slice s2.1.a s2.1.n s2.1.c,.int .i64 y.runs[k].state,.slice s2.2.a s2.2.n s2.2.c] 89)).grown g5 (by (try simp only [Bi]);omega) (fun g hg=>by have:=hO.within g hg;omega);have S:Hid (Bls Co 89 (w5.setCell ⟨w.heap.size+1+1,3,Ab⟩ (.slice A5 (rs.length+1) c5)) ws (.slice A5 (rs.length+1) c5) (y.runs.take (k+1))):=⟨rs ++ [(y.runs[k],s2)],by rw [List.map_append,hm,Dc y.runs k aA];rfl,hP.setOther (a:=⟨w.heap.size+1+1,3,Ab⟩) (by show w.heap.size+1+1<_;omega) _⟩
     have S2:Hid (OwL (Dt.list Cg) (w5.setCell ⟨w.heap.size+1+1,3,Ab⟩ (.slice A5 (rs.length+1) c5)) F1 (.slice A9 n9 c9) y.shelf):=OwL.set OS5 (fun hm=>by have:_<=w.heap.size+1+1:=nS _ hm;omega) _;have g5s:=g5.size;simp only [Bi] at g5s;have SX:=X5.setOther (a:=⟨w.heap.size+1+1,3,Ab⟩) (by show w.heap.size≠w.heap.size+1+1;omega) (.slice A5 (rs.length+1) c5);have SZ:=Z5.setOther (a:=⟨w.heap.size+1+1,3,Ab⟩) (by show w.heap.size+1≠w.heap.size+1+1;omega) (.slice A5 (rs.length+1) c5);have SO:DBox (w.heap.size+1+1) [.int .i64 y.now,.int .i64 y.seq,.slice A9 n9 c9,.slice A5 (rs.length+1) c5] (w5.setCell ⟨w.heap.size+1+1,3,Ab⟩ (.slice A5 (rs.length+1) c5)):=O5.set 3 Bm _;have SW:Below w w (w5.setCell ⟨w.heap.size+1+1,3,Ab⟩ (.slice A5 (rs.length+1) c5)):=W5.setCell (by show w.heap.size<=w.heap.size+1+1;omega) _;have SS:ws.heap.size<=(w5.setCell ⟨w.heap.size+1+1,3,Ab⟩ (.slice A5 (rs.length+1) c5)).heap.size:=by simp [World.setCell];omega
     first
      | exact ⟨⟨k+1,Bk,Bm,.slice A5 (rs.length+1) c5,S,S2,SX,SZ,SO,SW,by simpa using SS⟩,by simp [intOf];omega⟩
      | exact ⟨⟨k+1,.slice A5 (rs.length+1) c5,Bk,by go_num,S,S2,SX,SZ,SO,SW,SS⟩,by simp [intOf];omega⟩
      | (refine ⟨?_,by simp [intOf];omega⟩;(repeat apply Exists.intro);first | exact ⟨⟨k+1,.slice A5 (rs.length+1) c5,Bk,by go_num,S,S2,SX,SZ,SO,SW,SS⟩,rfl⟩ | exact ⟨⟨k+1,.slice A5 (rs.length+1) c5,Bk,by go_num,S,S2,SX,SZ,SO,SW,SS⟩,rfl,rfl⟩ | exact ⟨⟨k+1,.slice A5 (rs.length+1) c5,Bk,by go_num,S,S2,SX,SZ,SO,SW,SS⟩,rfl,rfl,rfl⟩ | exact ⟨⟨k+1,.slice A5 (rs.length+1) c5,Bk,by go_num,S,S2,SX,SZ,SO,SW,SS⟩,rfl,rfl,rfl,rfl⟩ | exact ⟨⟨k+1,.slice A5 (rs.length+1) c5,Bk,by go_num,S,S2,SX,SZ,SO,SW,SS⟩,rfl,rfl,rfl,rfl,rfl⟩ | exact ⟨⟨k+1,.slice A5 (rs.length+1) c5,Bk,by go_num,S,S2,SX,SZ,SO,SW,SS⟩,rfl,rfl,rfl,rfl,rfl,rfl⟩ | exact ⟨⟨k+1,.slice A5 (rs.length+1) c5,Bk,by go_num,S,S2,SX,SZ,SO,SW,SS⟩,rfl,rfl,rfl,rfl,rfl,rfl,rfl⟩ | exact ⟨⟨k+1,.slice A5 (rs.length+1) c5,Bk,by go_num,S,S2,SX,SZ,SO,SW,SS⟩,rfl,rfl,rfl,rfl,rfl,rfl,rfl,rfl⟩ | exact ⟨⟨k+1,.slice A5 (rs.length+1) c5,Bk,by go_num,S,S2,SX,SZ,SO,SW,SS⟩,rfl,rfl,rfl,rfl,rfl,rfl,rfl,rfl,rfl⟩ | exact ⟨⟨k+1,.slice A5 (rs.length+1) c5,Bk,by go_num,S,S2,SX,SZ,SO,SW,SS⟩,rfl,rfl,rfl,rfl,rfl,rfl,rfl,rfl,rfl,rfl⟩ | exact ⟨⟨k+1,.slice A5 (rs.length+1) c5,Bk,by go_num,S,S2,SX,SZ,SO,SW,SS⟩,rfl,rfl,rfl,rfl,rfl,rfl,rfl,rfl,rfl,rfl,rfl⟩ | exact ⟨⟨k+1,.slice A5 (rs.length+1) c5,Bk,by go_num,S,S2,SX,SZ,SO,SW,SS⟩,rfl,rfl,rfl,rfl,rfl,rfl,rfl,rfl,rfl,rfl,rfl,rfl⟩ | exact ⟨⟨k+1,.slice A5 (rs.length+1) c5,Bk,by go_num,S,S2,SX,SZ,SO,SW,SS⟩,rfl,rfl,rfl,rfl,rfl,rfl,rfl,rfl,rfl,rfl,rfl,rfl,rfl⟩)
    ·have aB:¬ (k:Int)<(y.runs.length:Int):=Bk;have aZ:k=y.runs.length:=Bk;obtain ⟨⟨A10,n10,c10⟩,rfl,OR⟩:∃ s:Sl,v = .slice s.a s.n s.c/\Bls Co 89 wr ws s.v y.runs:=by
      obtain ⟨rs,hm,hB⟩:=fQ.out;rw [aZ,List.take_length] at hm;obtain ⟨A,c,rfl,_⟩:=hB.rd.form;exact ⟨⟨A,_,c⟩,rfl,rs,hm,hB⟩
     have hws3:=hsw3;have Z_f:=Z.free;obtain ⟨Z_0,Z_1,Z_2,Z_3,Z_l⟩:=Z.g4;go_wp2;refine bodyPost_ret (v:=Du y (⟨A9,n9,c9⟩,⟨A10,n10,c10⟩)) ?_ rfl ?_
     ·simp [Du,results,Tryz.results59,go_sem,Z_0,Z_1,Z_2,Z_3]
     ·have OS1:=OS.out;refine ⟨⟨A9,n9,c9⟩,⟨A10,n10,c10⟩,F1,ws.heap.size,rfl,?_,fun b bE=>⟨by have:=nS b bE;omega,lS b bE⟩,Bk,?_,?_,?_⟩
      ·have hn:w.heap.size+1∉F1:=fun hm=>by have:=nS _ hm;omega
       show OwL (Dt.list Cg) _ F1 (.slice A9 n9 c9) y.shelf;repeat (first | (with_reducible exact OS1) | refine OwL.set ?_ hn _)
      ·simp [World.setCell];exact mM
      ·repeat (first | (with_reducible exact OR) | refine Bls.setOther ?_ (by show w.heap.size+1<ws.heap.size;omega) _)
      ·repeat (first | (with_reducible exact hb) | refine Ad ?_ (by first | (simp;done) | (simp;omega)) _)
theorem L8 (y:Yard) (s:Sl×Sl) (w:World) (hl:Ci y<=2000000) (h:Bu.rd w w y s) :
  Calls An 59 #[Du y s] w (Fc Bu Du y w):=(Rj y s w hl h).mono fun _ _ h=>h.own
theorem L9 (y:Yard) (s:Sl×Sl) (w:World) (hl:Ci y<=2000000) (h:Bu.rd w w y s) :
  Calls An 142 #[Du y s] w (CopyYPost y w):=by
 obtain ⟨⟨A1,n1,c1⟩,⟨A2,n2,c2⟩⟩:=s;obtain rfl:n1=y.shelf.length:=RdL.at1 (s:=⟨A1,n1,c1⟩) h.1;obtain rfl:n2=y.runs.length:=RdL.at1 (s:=⟨A2,n2,c2⟩) h.2;have h1:RdL (Dt.list Cg) w w (.slice A1 y.shelf.length c1) y.shelf:=h.1;have h2:RdL Co w w (.slice A2 y.runs.length c2) y.runs:=h.2;have eD:y.runs.length<=2000000:=Ah (Ct C9 _) (by unfold Ci at hl;omega);have hls:y.shelf.length<=2000000:=Ah (Ct De _) (by unfold Ci at hl;omega);have HE:=Bp (show ∀ k (hk:k<y.shelf.length),y.shelf[k].length<=2000000 from fun k hk=>by
  have:=Fk (cnt:=De) (Aw hk)
  have h2:y.shelf[k].length<=De y.shelf[k]:=Ct I6 _;unfold Ci at hl;omega)
 have HC:=Bp (show ∀ k (hk:k<y.runs.length),C9 y.runs[k]<=2000000 from fun k hk=>by
  have:=Fk (cnt:=C9) (Aw hk)
  unfold Ci at hl;omega)
 clear h;obtain ⟨W,aH,X,Z,O,B0⟩:=bx3 w 31 [.int .i64 y.now,.int .i64 y.seq,.slice A1 y.shelf.length c1,.slice A2 y.runs.length c2] 31 [.int .i64 0,.int .i64 0,.slice Ab 0 0,.slice Ab 0 0] 31 [.int .i64 y.now,.int .i64 y.seq,.slice Ab 0 0,.slice Ab 0 0];obtain ⟨i0,aL,aR,aS,aP⟩:=info_parts Mn;obtain ⟨e0,he0,ez0,ez1,ez2⟩:=info_parts Fw;obtain ⟨j0,bS,jz0,jz1,jz2⟩:=info_parts N2;go_enter Tryz.func142,Tryz.ntmps142;go_wp2;rw [<-aH.out];clear aH;have pF:w.heap.size+3<=W.heap.size:=O.lt;go_loopw [4] (fun i wr=>∃ (k:Nat) (v:Value),k<=y.shelf.length/\i = .int .i64 k/\Hid (Bls (Dt.list Cg) 96 wr (w.heap.size+3) v (y.shelf.take k))/\DBox w [.int .i64 y.now,.int .i64 y.seq,.slice A1 y.shelf.length c1,.slice A2 y.runs.length c2] wr/\DBox (w.heap.size+1) [.int .i64 0,.int .i64 0,.slice Ab 0 0,.slice Ab 0 0] wr/\DBox (w.heap.size+1+1) [.int .i64 y.now,.int .i64 y.seq,v,.slice Ab 0 0] wr/\Below w w wr/\w.heap.size+3<=wr.heap.size) (fun i _=>y.shelf.length - (intOf i).toNat);case atStart=>exact ⟨0,_,Ag _,rfl,⟨[],rfl,Bld.nil _ _ _ _⟩,X,Z,O,B0,pF⟩
 case round =>
  clear X Z O B0 pF;obtain ⟨k,v,hk,rfl,fQ,X,Z,O,hb,bG⟩:=hrel;obtain ⟨X_0,X_1,X_2,X_3,X_l⟩:=X.g4;obtain ⟨O_0,O_1,O_2,O_3,O_l⟩:=O.g4;have O_f:=O.free;by_cases aA:k<y.shelf.length
  ·have aB:(k:Int)<(y.shelf.length:Int):=Bk;obtain ⟨b,o,⟨As,ns,cs⟩,kE,aG,hr,d0⟩:=(h1.below hb).entryS aA;obtain rfl:ns=y.shelf[k].length:=RdL.at1 (s:=⟨As,ns,cs⟩) hr;subst kE;have bL:b<wr:=Ai aG hb.size;have hez:=HE.out k aA;obtain ⟨rs,hm,hB⟩:=fQ.out;have cA:rs.length=k:=by have:=congrArg List.length hm;simpa [Nat.min_eq_left hk] using this
   have hrl':rs.length<=2000000:=Bk;have Hrl:=Bp cA;clear cA;have hO:=hB.ow;have aC:v.ownBlock≠Ac (w.heap.size+1+1):=fun e=>by have:=hO.within _ e;omega
   have cE:=Bp (show ∀ W,Below wr wr W->RdL Cg W W (Sl.v ⟨As,y.shelf[k].length,cs⟩) y.shelf[k] from fun W hW=>RdL.more (RdL.below (RdL.more hr hb.size) hW) hW.size);go_wp2;refine Dj (fun w'=>w'.cell? ⟨w.heap.size+1+1,2,Ab⟩=Ac v/\w'.cell? ⟨w,2,Ab⟩=Ac (.slice (Ac ⟨b,o,Ab⟩) y.shelf.length c1)/\w'.cell? ⟨b,o+k,Ab⟩=Ac (.slice As y.shelf[k].length cs)) 12 Bl ?_ (fun hHeld=>?_)
   ·exact ⟨by simpa [go_sem] using O_2,by simpa [go_sem] using X_2,by simpa [go_sem] using d0⟩
   refine aT 0 hHeld ?_;try simp only [pS]
   refine aT 1 hHeld ?_;try simp only [pS]
   refine aT 3 hHeld ?_;try simp only [pS]
   refine aT 4 hHeld ?_;try simp only [pS]
   refine aT 5 hHeld ?_;try simp only [pS]
   refine aT 6 hHeld ?_;try simp only [pS]
   refine aT 7 hHeld ?_;try simp only [pS]
   refine oT 2 (fun K hK=>?_);go_simp;refine hK.out _ _ (fun _=>?_) ?_
   ·(refine ⟨?_,?_,?_⟩<;>first | assumption | go_keep)
   clear hK K;try simp only [pS]
   refine oT 8 (fun K hK=>?_)
   (refine Df _ Cu Bo (by rfl) (.tmp 20) (.tmp 25) (by rfl) Tryz.underlying96 he0 ez0 ez1 ez2 (by rfl) (v:=.slice (Ac ⟨wr,0,Ab⟩) 0 0) (l:=[]) (by rfl) (Ow.empty Cu 93 wr.drew (g:=wr.heap.size) Bm) (by rfl) (Iv (cE.out _ ((Bq wr wr).drew.alloc Bm _))) Bm Bk Bo Bm ?_;intro v2 w2 o2' g2 f2;rw [List.nil_append] at o2';have B12:Below wr wr w2:=(((Bq wr wr).drew.alloc Bm _).grown g2 Bm (fun g hg=>by simp [Value.ownBlock] at hg;omega));obtain ⟨s2,F2,rfl,o2,n2⟩:=Ha o2';have O2:=O.below B12;have X2:=X.below B12;have k0:w2.cell? ⟨w.heap.size+1+1,2,Ab⟩=Ac v:=O2.cell 2 _ rfl;have k1:w2.cell? ⟨w,2,Ab⟩=Ac (.slice (Ac ⟨b,o,Ab⟩) y.shelf.length c1):=X2.cell 2 _ rfl;have k2:w2.cell? ⟨b,o+k,Ab⟩=Ac (.slice As y.shelf[k].length cs):=(B12.cell (p:=⟨b,o+k,Ab⟩) bL).trans d0;have z2:=B12.size;have d2f:=O2.free;have d2l:=O2.lt)
   refine hK.out _ _ (fun _=>?_) ?_
   ·exact ⟨k0,k1,k2⟩
   clear hK K;try simp only [pS]
   refine oT 9 (fun K hK=>?_);go_simp;refine hK.out _ _ (fun _=>?_) ?_
   ·(refine ⟨?_,?_,?_⟩<;>first | assumption | go_keep)
   clear hK K;try simp only [pS]
   refine oT 10 (fun K hK=>?_)
   (refine Df _ (Dt.list Cg).enc Bo (by rfl) (.tmp 19) (.tmp 27) (by rfl) Tryz.underlying28 aL aR aS aP (by rfl) (v:=v) (l:=rs) (by rfl) (hO.below (B12.alloc Bk _)) (by rfl) (Rd.one (Dt.list Cg).enc _ _ (y.shelf[k],s2) Bm rfl 1 (Br _) (Nat.lt_succ_self _)) Bk Bm Bo (by (try simp only [Bi]);omega) ?_;intro v5 w5 o5 g5 f5;obtain ⟨A5,c5,rfl,-⟩:=id (Rd.of_own o5);simp only [A0,List.length_singleton] at o5 f5;have dC:=(Bq w2 w2).alloc (Br _) (.cells #[.slice s2.a s2.n s2.c] 96);have O5:=(O2.below dC).off g5 (fun e=>aC e.symm);have m0:w5.cell? ⟨w.heap.size+1+1,2,Ab⟩=Ac v:=O5.cell 2 _ rfl;have X5:=(X2.below dC).off g5 (fun e=>by have:=hO.within _ e.symm;omega);have m1:w5.cell? ⟨w,2,Ab⟩=Ac (.slice (Ac ⟨b,o,Ab⟩) y.shelf.length c1):=X5.cell 2 _ rfl;have m2:w5.cell? ⟨b,o+k,Ab⟩=Ac (.slice As y.shelf[k].length cs):=(g5.cell_far ⟨b,o+k,Ab⟩ (by simp;omega) (fun e=>by have:_<=b/\b<_:=hO.within _ e.symm;omega)).trans ((dC.cell (p:=⟨b,o+k,Ab⟩) (by show b<_;omega)).trans k2);have fO:=O5.free;have lO:=O5.lt)
   refine hK.out _ _ (fun _=>?_) ?_
   ·exact ⟨m0,m1,m2⟩
   clear hK K;try simp only [pS]
   refine oT 11 (fun K hK=>?_);go_simp;refine hK.out _ _ (fun _=>?_) ?_
   ·exact ⟨m0,m1,m2⟩
   clear hK K;try simp only [pS]
   refine oT 12 (fun K hK=>?_);go_simp;refine hK.out _ _ (fun aC=>absurd rfl aC) ?_;clear hK K;try simp only [pS]
   refine Ec Bl ?_ _;go_wp2;have Z5:=((Z.below B12).below dC).off g5 (fun e=>by have:=hO.within _ e.symm;omega);have hP:=Bld.push1 (d:=Dt.list Cg) hB B12 o2 (fun b bE=>by have:=n2 b bE;omega) bG dC o5 g5 f5;have W5:=((hb.trans (B12.mono hb.size)).alloc Bk (.cells #[.slice s2.a s2.n s2.c] 96)).grown g5 (by (try simp only [Bi]);omega) (fun g hg=>by have:=hO.within g hg;omega);have S:Hid (Bls (Dt.list Cg) 96 (w5.setCell ⟨w.heap.size+1+1,2,Ab⟩ (.slice A5 (rs.length+1) c5)) (w.heap.size+3) (.slice A5 (rs.length+1) c5) (y.shelf.take (k+1))):=⟨rs ++ [(y.shelf[k],s2)],by rw [List.map_append,hm,Dc y.shelf k aA];rfl,hP.setOther (a:=⟨w.heap.size+1+1,2,Ab⟩) (by show w.heap.size+1+1<_;omega) _⟩
   have g5s:=g5.size;simp only [Bi] at g5s;have SX:=X5.setOther (a:=⟨w.heap.size+1+1,2,Ab⟩) (by show w.heap.size≠w.heap.size+1+1;omega) (.slice A5 (rs.length+1) c5);have SZ:=Z5.setOther (a:=⟨w.heap.size+1+1,2,Ab⟩) (by show w.heap.size+1≠w.heap.size+1+1;omega) (.slice A5 (rs.length+1) c5);have SO:DBox (w.heap.size+1+1) [.int .i64 y.now,.int .i64 y.seq,.slice A5 (rs.length+1) c5,.slice Ab 0 0] (w5.setCell ⟨w.heap.size+1+1,2,Ab⟩ (.slice A5 (rs.length+1) c5)):=O5.set 2 Bm _;have SW:Below w w (w5.setCell ⟨w.heap.size+1+1,2,Ab⟩ (.slice A5 (rs.length+1) c5)):=W5.setCell (by show w.heap.size<=w.heap.size+1+1;omega) _;have SS:w.heap.size+3<=(w5.setCell ⟨w.heap.size+1+1,2,Ab⟩ (.slice A5 (rs.length+1) c5)).heap.size:=by simp [World.setCell];omega
   first
    | exact ⟨⟨k+1,Bk,Bm,.slice A5 (rs.length+1) c5,S,SX,SZ,SO,SW,by simpa using SS⟩,by simp [intOf];omega⟩
    | exact ⟨⟨k+1,.slice A5 (rs.length+1) c5,Bk,by go_num,S,SX,SZ,SO,SW,SS⟩,by simp [intOf];omega⟩
    | (refine ⟨?_,by simp [intOf];omega⟩;(repeat apply Exists.intro);first | exact ⟨⟨k+1,.slice A5 (rs.length+1) c5,Bk,by go_num,S,SX,SZ,SO,SW,SS⟩,rfl⟩ | exact ⟨⟨k+1,.slice A5 (rs.length+1) c5,Bk,by go_num,S,SX,SZ,SO,SW,SS⟩,rfl,rfl⟩ | exact ⟨⟨k+1,.slice A5 (rs.length+1) c5,Bk,by go_num,S,SX,SZ,SO,SW,SS⟩,rfl,rfl,rfl⟩ | exact ⟨⟨k+1,.slice A5 (rs.length+1) c5,Bk,by go_num,S,SX,SZ,SO,SW,SS⟩,rfl,rfl,rfl,rfl⟩ | exact ⟨⟨k+1,.slice A5 (rs.length+1) c5,Bk,by go_num,S,SX,SZ,SO,SW,SS⟩,rfl,rfl,rfl,rfl,rfl⟩ | exact ⟨⟨k+1,.slice A5 (rs.length+1) c5,Bk,by go_num,S,SX,SZ,SO,SW,SS⟩,rfl,rfl,rfl,rfl,rfl,rfl⟩ | exact ⟨⟨k+1,.slice A5 (rs.length+1) c5,Bk,by go_num,S,SX,SZ,SO,SW,SS⟩,rfl,rfl,rfl,rfl,rfl,rfl,rfl⟩ | exact ⟨⟨k+1,.slice A5 (rs.length+1) c5,Bk,by go_num,S,SX,SZ,SO,SW,SS⟩,rfl,rfl,rfl,rfl,rfl,rfl,rfl,rfl⟩ | exact ⟨⟨k+1,.slice A5 (rs.length+1) c5,Bk,by go_num,S,SX,SZ,SO,SW,SS⟩,rfl,rfl,rfl,rfl,rfl,rfl,rfl,rfl,rfl⟩ | exact ⟨⟨k+1,.slice A5 (rs.length+1) c5,Bk,by go_num,S,SX,SZ,SO,SW,SS⟩,rfl,rfl,rfl,rfl,rfl,rfl,rfl,rfl,rfl,rfl⟩ | exact ⟨⟨k+1,.slice A5 (rs.length+1) c5,Bk,by go_num,S,SX,SZ,SO,SW,SS⟩,rfl,rfl,rfl,rfl,rfl,rfl,rfl,rfl,rfl,rfl,rfl⟩ | exact ⟨⟨k+1,.slice A5 (rs.length+1) c5,Bk,by go_num,S,SX,SZ,SO,SW,SS⟩,rfl,rfl,rfl,rfl,rfl,rfl,rfl,rfl,rfl,rfl,rfl,rfl⟩ | exact ⟨⟨k+1,.slice A5 (rs.length+1) c5,Bk,by go_num,S,SX,SZ,SO,SW,SS⟩,rfl,rfl,rfl,rfl,rfl,rfl,rfl,rfl,rfl,rfl,rfl,rfl,rfl⟩)
  ·have aB:¬ (k:Int)<(y.shelf.length:Int):=Bk;have aZ:k=y.shelf.length:=Bk;obtain ⟨F1,⟨⟨A9,n9,c9⟩,rfl,OS⟩,nS⟩:∃ F1,(∃ s:Sl,v = .slice s.a s.n s.c/\OwL (Dt.list Cg) wr F1 s.v y.shelf) /\ ∀ b∈F1,w.heap.size+3<=b:=by
    obtain ⟨rs,hm,hB⟩:=fQ.out;rw [aZ,List.take_length] at hm;obtain ⟨F,h1,h2⟩:=hB.owl hm;obtain ⟨A,c,rfl,_⟩:=h1.form;exact ⟨F,⟨⟨A,y.shelf.length,c⟩,rfl,h1⟩,h2⟩
   go_wp2;clear X_0 X_1 X_2 X_3 X_l O_0 O_1 O_2 O_3 O_l O_f aA aB aZ hk fQ;obtain ⟨ws,qR⟩:∃ ws,ws=wr:=⟨_,rfl⟩
   rw [<-qR] at hb X Z O OS bG ⊢;clear qR;have lS:∀ b∈F1,b<ws:=OS.lt;have hsw3:w.heap.size+3<=ws.heap.size:=bG;go_loopw [5] (fun i wr=>∃ (k:Nat) (v:Value),k<=y.runs.length/\i = .int .i64 k/\Hid (Bls Co 89 wr ws v (y.runs.take k))/\Hid (OwL (Dt.list Cg) wr F1 (.slice A9 n9 c9) y.shelf)/\DBox w [.int .i64 y.now,.int .i64 y.seq,.slice A1 y.shelf.length c1,.slice A2 y.runs.length c2] wr/\DBox (w.heap.size+1) [.int .i64 0,.int .i64 0,.slice Ab 0 0,.slice Ab 0 0] wr/\DBox (w.heap.size+1+1) [.int .i64 y.now,.int .i64 y.seq,.slice A9 n9 c9,v] wr/\Below w w wr/\ws.heap.size<=wr.heap.size) (fun i _=>y.runs.length - (intOf i).toNat);case atStart=>exact ⟨0,_,Ag _,rfl,⟨[],rfl,Bld.nil _ _ _ _⟩,OS,X,Z,O,hb,Br _⟩
   case round =>
    clear X Z O hb OS;obtain ⟨k,v,hk,rfl,fQ,OS,X,Z,O,hb,mM⟩:=hrel;obtain ⟨X_0,X_1,X_2,X_3,X_l⟩:=X.g4;obtain ⟨O_0,O_1,O_2,O_3,O_l⟩:=O.g4;have O_f:=O.free;by_cases aA:k<y.runs.length
    ·have aB:(k:Int)<(y.runs.length:Int):=Bk;obtain ⟨b,o,⟨⟨A8,n8,c8⟩,⟨At,nt,ct⟩⟩,dL,aG,cE,e0,e1,e2,e3,e4,e5,e6,e7⟩:=(h2.below hb).run aA;subst dL;have bL:b<wr:=Ai aG hb.size;have HRr:=Bp (show ∀ W,Below wr wr W->Co.rd W W y.runs[k] (⟨A8,n8,c8⟩,⟨At,nt,ct⟩) from fun W hW=>Co.rd_more (Co.rd_below (Co.rd_more cE hb.size) hW) hW.size);have jA:=HC.out k aA;obtain ⟨rs,hm,hB⟩:=fQ.out;have cA:rs.length=k:=by have:=congrArg List.length hm;simpa [Nat.min_eq_left hk] using this
     have hrl':rs.length<=2000000:=Bk;have Hrl:=Bp cA;clear cA;have hO:=hB.ow;have aC:v.ownBlock≠Ac (w.heap.size+1+1):=fun e=>by have:=hO.within _ e;omega
     go_wp2;refine Dj (fun w'=>w'.cell? ⟨w.heap.size+1+1,3,Ab⟩=Ac v/\w'.cell? ⟨w,3,Ab⟩=Ac (.slice (Ac ⟨b,o,Ab⟩) y.runs.length c2)/\w'.cell? ⟨b,o+k * 8,Ab⟩=Ac (.int .i64 y.runs[k].id)/\w'.cell? ⟨b,o+k * 8+1,Ab⟩=Ac (.int .i64 y.runs[k].plan.prio)/\w'.cell? ⟨b,o+k * 8+2,Ab⟩=Ac (.int .i64 y.runs[k].plan.most)/\w'.cell? ⟨b,o+k * 8+3,Ab⟩=Ac (.int .i64 y.runs[k].plan.wait)/\w'.cell? ⟨b,o+k * 8+4,Ab⟩=Ac (.int .i64 y.runs[k].plan.tasks)/\w'.cell? ⟨b,o+k * 8+5,Ab⟩=Ac (.slice A8 n8 c8)/\w'.cell? ⟨b,o+k * 8+6,Ab⟩=Ac (.int .i64 y.runs[k].state)/\w'.cell? ⟨b,o+k * 8+7,Ab⟩=Ac (.slice At nt ct)) 11 Bl ?_ (fun hHeld=>?_)
     ·exact ⟨by simpa [go_sem] using O_3,by simpa [go_sem] using X_3,by simpa [go_sem] using e0,by simpa [go_sem] using e1,by simpa [go_sem] using e2,by simpa [go_sem] using e3,by simpa [go_sem] using e4,by simpa [go_sem] using e5,by simpa [go_sem] using e6,by simpa [go_sem] using e7⟩
     refine aT 0 hHeld ?_;try simp only [pS]
     refine aT 1 hHeld ?_;try simp only [pS]
     refine aT 2 hHeld ?_;try simp only [pS]
     refine aT 3 hHeld ?_;try simp only [pS]
     refine aT 4 hHeld ?_;try simp only [pS]
     refine aT 5 hHeld ?_;try simp only [pS]
     refine aT 6 hHeld ?_;try simp only [pS]
     refine oT 7 (fun K hK=>?_)
     (go_simp;refine (Hp y.runs[k] (⟨A8,n8,c8⟩,⟨At,nt,ct⟩) _ jA (HRr.out _ (Bq _ _).drew)).mono ?_;rintro e w2 ⟨s2,F2,rfl,o2,n2,b2⟩;have B12:=Bs ((Bq wr wr).drew) b2;have z2:=B12.size;simp only [World.size_drew] at n2;have O2:=O.below B12;have k0:w2.cell? ⟨w.heap.size+1+1,3,Ab⟩=Ac v:=O2.cell 3 _ rfl;have X2:=X.below B12;have k1:w2.cell? ⟨w,3,Ab⟩=Ac (.slice (Ac ⟨b,o,Ab⟩) y.runs.length c2):=X2.cell 3 _ rfl;have q0:w2.cell? ⟨b,o+k * 8,Ab⟩=Ac (.int .i64 y.runs[k].id):=(B12.cell (p:=⟨b,o+k * 8,Ab⟩) bL).trans e0;have q1:w2.cell? ⟨b,o+k * 8+1,Ab⟩=Ac (.int .i64 y.runs[k].plan.prio):=(B12.cell (p:=⟨b,o+k * 8+1,Ab⟩) bL).trans e1;have q2:w2.cell? ⟨b,o+k * 8+2,Ab⟩=Ac (.int .i64 y.runs[k].plan.most):=(B12.cell (p:=⟨b,o+k * 8+2,Ab⟩) bL).trans e2;have q3:w2.cell? ⟨b,o+k * 8+3,Ab⟩=Ac (.int .i64 y.runs[k].plan.wait):=(B12.cell (p:=⟨b,o+k * 8+3,Ab⟩) bL).trans e3;have q4:w2.cell? ⟨b,o+k * 8+4,Ab⟩=Ac (.int .i64 y.runs[k].plan.tasks):=(B12.cell (p:=⟨b,o+k * 8+4,Ab⟩) bL).trans e4;have q5:w2.cell? ⟨b,o+k * 8+5,Ab⟩=Ac (.slice A8 n8 c8):=(B12.cell (p:=⟨b,o+k * 8+5,Ab⟩) bL).trans e5;have q6:w2.cell? ⟨b,o+k * 8+6,Ab⟩=Ac (.int .i64 y.runs[k].state):=(B12.cell (p:=⟨b,o+k * 8+6,Ab⟩) bL).trans e6;have q7:w2.cell? ⟨b,o+k * 8+7,Ab⟩=Ac (.slice At nt ct):=(B12.cell (p:=⟨b,o+k * 8+7,Ab⟩) bL).trans e7;have d2f:=O2.free;have d2l:=O2.lt;go_simp)
     refine hK.out _ _ (fun _=>?_) ?_
     ·exact ⟨k0,k1,q0,q1,q2,q3,q4,q5,q6,q7⟩
     clear hK K;try simp only [pS]
     refine oT 8 (fun K hK=>?_);go_simp;refine hK.out _ _ (fun _=>?_) ?_
     ·(refine ⟨?_,?_,?_,?_,?_,?_,?_,?_,?_,?_⟩<;>first | assumption | go_keep)
     clear hK K;try simp only [pS]
     refine oT 9 (fun K hK=>?_)
     (refine Df _ Co.enc Bo (by rfl) (.tmp 38) (.tmp 45) (by rfl) Tryz.underlying29 bS jz0 jz1 jz2 (by rfl) (v:=v) (l:=rs) (by rfl) (hO.below (B12.alloc Bk _)) (by rfl) (Rd.one Co.enc _ _ (y.runs[k],s2) Bm rfl 1 (Br _) (Nat.lt_succ_self _)) Bk Bm Bo (by (try simp only [Bi]);omega) ?_;intro v5 w5 o5 g5 f5;obtain ⟨A5,c5,rfl,-⟩:=id (Rd.of_own o5);simp only [A0,List.length_singleton] at o5 f5;have dC:=(Bq w2 w2).alloc (Br _) (.cells #[.int .i64 y.runs[k].id,.int .i64 y.runs[k].plan.prio,.int .i64 y.runs[k].plan.most,.int .i64 y.runs[k].plan.wait,.int .i64 y.runs[k].plan.tasks,.slice s2.1.a s2.1.n s2.1.c,.int .i64 y.runs[k].state,.slice s2.2.a s2.2.n s2.2.c] 89);have O5:=(O2.below dC).off g5 (fun e=>aC e.symm);have m0:w5.cell? ⟨w.heap.size+1+1,3,Ab⟩=Ac v:=O5.cell 3 _ rfl;have X5:=(X2.below dC).off g5 (fun e=>by have:=hO.within _ e.symm;omega);have m1:w5.cell? ⟨w,3,Ab⟩=Ac (.slice (Ac ⟨b,o,Ab⟩) y.runs.length c2):=X5.cell 3 _ rfl;have r0:w5.cell? ⟨b,o+k * 8,Ab⟩=Ac (.int .i64 y.runs[k].id):=(g5.cell_far ⟨b,o+k * 8,Ab⟩ (by simp;omega) (fun e=>by have:_<=b/\b<_:=hO.within _ e.symm;omega)).trans ((dC.cell (p:=⟨b,o+k * 8,Ab⟩) (by show b<_;omega)).trans q0);have r1:w5.cell? ⟨b,o+k * 8+1,Ab⟩=Ac (.int .i64 y.runs[k].plan.prio):=(g5.cell_far ⟨b,o+k * 8+1,Ab⟩ (by simp;omega) (fun e=>by have:_<=b/\b<_:=hO.within _ e.symm;omega)).trans ((dC.cell (p:=⟨b,o+k * 8+1,Ab⟩) (by show b<_;omega)).trans q1);have r2:w5.cell? ⟨b,o+k * 8+2,Ab⟩=Ac (.int .i64 y.runs[k].plan.most):=(g5.cell_far ⟨b,o+k * 8+2,Ab⟩ (by simp;omega) (fun e=>by have:_<=b/\b<_:=hO.within _ e.symm;omega)).trans ((dC.cell (p:=⟨b,o+k * 8+2,Ab⟩) (by show b<_;omega)).trans q2);have r3:w5.cell? ⟨b,o+k * 8+3,Ab⟩=Ac (.int .i64 y.runs[k].plan.wait):=(g5.cell_far ⟨b,o+k * 8+3,Ab⟩ (by simp;omega) (fun e=>by have:_<=b/\b<_:=hO.within _ e.symm;omega)).trans ((dC.cell (p:=⟨b,o+k * 8+3,Ab⟩) (by show b<_;omega)).trans q3);have r4:w5.cell? ⟨b,o+k * 8+4,Ab⟩=Ac (.int .i64 y.runs[k].plan.tasks):=(g5.cell_far ⟨b,o+k * 8+4,Ab⟩ (by simp;omega) (fun e=>by have:_<=b/\b<_:=hO.within _ e.symm;omega)).trans ((dC.cell (p:=⟨b,o+k * 8+4,Ab⟩) (by show b<_;omega)).trans q4);have r5:w5.cell? ⟨b,o+k * 8+5,Ab⟩=Ac (.slice A8 n8 c8):=(g5.cell_far ⟨b,o+k * 8+5,Ab⟩ (by simp;omega) (fun e=>by have:_<=b/\b<_:=hO.within _ e.symm;omega)).trans ((dC.cell (p:=⟨b,o+k * 8+5,Ab⟩) (by show b<_;omega)).trans q5);have r6:w5.cell? ⟨b,o+k * 8+6,Ab⟩=Ac (.int .i64 y.runs[k].state):=(g5.cell_far ⟨b,o+k * 8+6,Ab⟩ (by simp;omega) (fun e=>by have:_<=b/\b<_:=hO.within _ e.symm;omega)).trans ((dC.cell (p:=⟨b,o+k * 8+6,Ab⟩) (by show b<_;omega)).trans q6);have r7:w5.cell? ⟨b,o+k * 8+7,Ab⟩=Ac (.slice At nt ct):=(g5.cell_far ⟨b,o+k * 8+7,Ab⟩ (by simp;omega) (fun e=>by have:_<=b/\b<_:=hO.within _ e.symm;omega)).trans ((dC.cell (p:=⟨b,o+k * 8+7,Ab⟩) (by show b<_;omega)).trans q7);have fO:=O5.free;have lO:=O5.lt)
     refine hK.out _ _ (fun _=>?_) ?_
     ·exact ⟨m0,m1,r0,r1,r2,r3,r4,r5,r6,r7⟩
     clear hK K;try simp only [pS]
     refine oT 10 (fun K hK=>?_);go_simp;refine hK.out _ _ (fun _=>?_) ?_
     ·exact ⟨m0,m1,r0,r1,r2,r3,r4,r5,r6,r7⟩
     clear hK K;try simp only [pS]
     refine oT 11 (fun K hK=>?_);go_simp;refine hK.out _ _ (fun aC=>absurd rfl aC) ?_;clear hK K;try simp only [pS]
     refine Ec Bl ?_ _;go_wp2;have Z5:=((Z.below B12).below dC).off g5 (fun e=>by have:=hO.within _ e.symm;omega);have OS5:=((OS.out.below B12).below dC).grown g5 (fun b bE e=>by have:=hO.within _ e;have:=lS b bE;omega);have hP:=Bld.push1 (d:=Co) hB B12 o2 (fun b bE=>by have:=n2 b bE;omega) mM dC o5 g5 f5;have W5:=((hb.trans (B12.mono hb.size)).alloc Bk (.cells #[.int .i64 y.runs[k].id,.int .i64 y.runs[k].plan.prio,.int .i64 y.runs[k].plan.most,.int .i64 y.runs[k].plan.wait,.int .i64 y.runs[k].plan.tasks,.slice s2.1.a s2.1.n s2.1.c,.int .i64 y.runs[k].state,.slice s2.2.a s2.2.n s2.2.c] 89)).grown g5 (by (try simp only [Bi]);omega) (fun g hg=>by have:=hO.within g hg;omega);have S:Hid (Bls Co 89 (w5.setCell ⟨w.heap.size+1+1,3,Ab⟩ (.slice A5 (rs.length+1) c5)) ws (.slice A5 (rs.length+1) c5) (y.runs.take (k+1))):=⟨rs ++ [(y.runs[k],s2)],by rw [List.map_append,hm,Dc y.runs k aA];rfl,hP.setOther (a:=⟨w.heap.size+1+1,3,Ab⟩) (by show w.heap.size+1+1<_;omega) _⟩
     have S2:Hid (OwL (Dt.list Cg) (w5.setCell ⟨w.heap.size+1+1,3,Ab⟩ (.slice A5 (rs.length+1) c5)) F1 (.slice A9 n9 c9) y.shelf):=OwL.set OS5 (fun hm=>by have:_<=w.heap.size+1+1:=nS _ hm;omega) _;have g5s:=g5.size;simp only [Bi] at g5s;have SX:=X5.setOther (a:=⟨w.heap.size+1+1,3,Ab⟩) (by show w.heap.size≠w.heap.size+1+1;omega) (.slice A5 (rs.length+1) c5);have SZ:=Z5.setOther (a:=⟨w.heap.size+1+1,3,Ab⟩) (by show w.heap.size+1≠w.heap.size+1+1;omega) (.slice A5 (rs.length+1) c5);have SO:DBox (w.heap.size+1+1) [.int .i64 y.now,.int .i64 y.seq,.slice A9 n9 c9,.slice A5 (rs.length+1) c5] (w5.setCell ⟨w.heap.size+1+1,3,Ab⟩ (.slice A5 (rs.length+1) c5)):=O5.set 3 Bm _;have SW:Below w w (w5.setCell ⟨w.heap.size+1+1,3,Ab⟩ (.slice A5 (rs.length+1) c5)):=W5.setCell (by show w.heap.size<=w.heap.size+1+1;omega) _;have SS:ws.heap.size<=(w5.setCell ⟨w.heap.size+1+1,3,Ab⟩ (.slice A5 (rs.length+1) c5)).heap.size:=by simp [World.setCell];omega
     first
      | exact ⟨⟨k+1,Bk,Bm,.slice A5 (rs.length+1) c5,S,S2,SX,SZ,SO,SW,by simpa using SS⟩,by simp [intOf];omega⟩
      | exact ⟨⟨k+1,.slice A5 (rs.length+1) c5,Bk,by go_num,S,S2,SX,SZ,SO,SW,SS⟩,by simp [intOf];omega⟩
      | (refine ⟨?_,by simp [intOf];omega⟩;(repeat apply Exists.intro);first | exact ⟨⟨k+1,.slice A5 (rs.length+1) c5,Bk,by go_num,S,S2,SX,SZ,SO,SW,SS⟩,rfl⟩ | exact ⟨⟨k+1,.slice A5 (rs.length+1) c5,Bk,by go_num,S,S2,SX,SZ,SO,SW,SS⟩,rfl,rfl⟩ | exact ⟨⟨k+1,.slice A5 (rs.length+1) c5,Bk,by go_num,S,S2,SX,SZ,SO,SW,SS⟩,rfl,rfl,rfl⟩ | exact ⟨⟨k+1,.slice A5 (rs.length+1) c5,Bk,by go_num,S,S2,SX,SZ,SO,SW,SS⟩,rfl,rfl,rfl,rfl⟩ | exact ⟨⟨k+1,.slice A5 (rs.length+1) c5,Bk,by go_num,S,S2,SX,SZ,SO,SW,SS⟩,rfl,rfl,rfl,rfl,rfl⟩ | exact ⟨⟨k+1,.slice A5 (rs.length+1) c5,Bk,by go_num,S,S2,SX,SZ,SO,SW,SS⟩,rfl,rfl,rfl,rfl,rfl,rfl⟩ | exact ⟨⟨k+1,.slice A5 (rs.length+1) c5,Bk,by go_num,S,S2,SX,SZ,SO,SW,SS⟩,rfl,rfl,rfl,rfl,rfl,rfl,rfl⟩ | exact ⟨⟨k+1,.slice A5 (rs.length+1) c5,Bk,by go_num,S,S2,SX,SZ,SO,SW,SS⟩,rfl,rfl,rfl,rfl,rfl,rfl,rfl,rfl⟩ | exact ⟨⟨k+1,.slice A5 (rs.length+1) c5,Bk,by go_num,S,S2,SX,SZ,SO,SW,SS⟩,rfl,rfl,rfl,rfl,rfl,rfl,rfl,rfl,rfl⟩ | exact ⟨⟨k+1,.slice A5 (rs.length+1) c5,Bk,by go_num,S,S2,SX,SZ,SO,SW,SS⟩,rfl,rfl,rfl,rfl,rfl,rfl,rfl,rfl,rfl,rfl⟩ | exact ⟨⟨k+1,.slice A5 (rs.length+1) c5,Bk,by go_num,S,S2,SX,SZ,SO,SW,SS⟩,rfl,rfl,rfl,rfl,rfl,rfl,rfl,rfl,rfl,rfl,rfl⟩ | exact ⟨⟨k+1,.slice A5 (rs.length+1) c5,Bk,by go_num,S,S2,SX,SZ,SO,SW,SS⟩,rfl,rfl,rfl,rfl,rfl,rfl,rfl,rfl,rfl,rfl,rfl,rfl⟩ | exact ⟨⟨k+1,.slice A5 (rs.length+1) c5,Bk,by go_num,S,S2,SX,SZ,SO,SW,SS⟩,rfl,rfl,rfl,rfl,rfl,rfl,rfl,rfl,rfl,rfl,rfl,rfl,rfl⟩)
    ·have aB:¬ (k:Int)<(y.runs.length:Int):=Bk;have aZ:k=y.runs.length:=Bk;obtain ⟨⟨A10,n10,c10⟩,rfl,OR⟩:∃ s:Sl,v = .slice s.a s.n s.c/\Bls Co 89 wr ws s.v y.runs:=by
      obtain ⟨rs,hm,hB⟩:=fQ.out;rw [aZ,List.take_length] at hm;obtain ⟨A,c,rfl,_⟩:=hB.rd.form;exact ⟨⟨A,_,c⟩,rfl,rs,hm,hB⟩
     have hws3:=hsw3;have Z_f:=Z.free;obtain ⟨Z_0,Z_1,Z_2,Z_3,Z_l⟩:=Z.g4;go_wp2;refine bodyPost_ret (v:=Du y (⟨A9,n9,c9⟩,⟨A10,n10,c10⟩)) ?_ rfl ?_
     ·simp [Du,results,Tryz.results142,go_sem,Z_0,Z_1,Z_2,Z_3]
     ·have OS1:=OS.out;refine ⟨⟨A9,n9,c9⟩,⟨A10,n10,c10⟩,F1,ws.heap.size,rfl,?_,fun b bE=>⟨by have:=nS b bE;omega,lS b bE⟩,Bk,?_,?_,?_⟩
      ·have hn:w.heap.size+1∉F1:=fun hm=>by have:=nS _ hm;omega
       show OwL (Dt.list Cg) _ F1 (.slice A9 n9 c9) y.shelf;repeat (first | (with_reducible exact OS1) | refine OwL.set ?_ hn _)
      ·simp [World.setCell];exact mM
      ·repeat (first | (with_reducible exact OR) | refine Bls.setOther ?_ (by show w.heap.size+1<ws.heap.size;omega) _)
      ·repeat (first | (with_reducible exact hb) | refine Ad ?_ (by first | (simp;done) | (simp;omega)) _)
theorem Er (y:Yard) (s:Sl×Sl) (w:World) (hl:Ci y<=2000000) (h:Bu.rd w w y s) :
  Calls An 142 #[Du y s] w (Fc Bu Du y w):=(L9 y s w hl h).mono fun _ _ h=>h.own
theorem Oy (b:Nat):∀ (us:List Value) (o:Nat) (w:World),w.setCells b o us=Io w b o us
 | [],_,_=>rfl
 | u :: us,o,w=>by rw [World.setCells,Io,Oy b us (o+1)]
theorem Tj {P:Program} (w:World) (t e ty:TypeId) (z:Value) (ht:P.underlying t=Ac (.slice e)) (hv:∀ w,(zeroValue e).run P w = .ok z w) (b o n c:Nat) (hn:0<n) (h1:∀ v∈z.cells,v.oneCell'=true)
  (hc:∀ j,j<n * z.cells.size->(w.cell? ⟨b,o+j,Ab⟩).isSome=true) (hf:∀ j,w.frozen? ⟨b,j,Ab⟩=false) :
  (Builtin.clear_ #[t] ty #[.slice (Ac ⟨b,o,Ab⟩) n c]).run P w = .ok (.tuple #[]) (Io w b o (Builtin.zeroCells z.cells n).toList):=by
 have hl:(Builtin.zeroCells z.cells n).toList.length=n * z.cells.size:=by simp [Builtin.zeroCells]
 have bV:=run_storeCells_cells (P:=P) b o (Builtin.zeroCells z.cells n).toList 0 w (by rw [hl];simpa using hc) (fun j _=>hf _) (by
  intro v hv';simp only [Builtin.zeroCells,Array.toList_map,Array.toList_range,List.mem_map,List.mem_range] at hv';obtain ⟨i,hi,rfl⟩:=hv';have hz:0<z.cells.size:=Nat.pos_of_ne_zero (fun h=>by rw [h] at hi;simp at hi);have aA:i % z.cells.size<z.cells.size:=Nat.mod_lt _ hz;rw [getElem!_pos z.cells (i % z.cells.size) aA];exact h1 _ (Array.getElem_mem aA))
 simp only [Nat.add_zero] at bV;obtain ⟨m,rfl⟩:∃ m,n=m+1:=⟨n - 1,Bk⟩
 rw [<-Oy];simp [Builtin.clear_,run_underlying ht,hv,bV]
theorem Qj:∀ (us:List Value) (w:World) (b i o:Nat),o<i->(Io w b i us).cell? ⟨b,o,Ab⟩=w.cell? ⟨b,o,Ab⟩
 | [],_,_,_,_,_=>rfl
 | u :: us,w,b,i,o,h=>by
  rw [Io,Qj us _ b (i+1) o Bk];exact World.cell?_setCell_other _ _ _ _ (fun e=>by injection e with _ h2 _;omega)
theorem Rd.clear {α:Type} {e:Enc α} {w:World} {B b o n c:Nat} {l:List α} (h:Rd e w B (Aa (Ac ⟨b,o,Ab⟩) n c) l) (k:Nat) (hk:k<=l.length) (us:List Value):Rd e (Io w b (o+k * e.sz) us) B (Aa (Ac ⟨b,o,Ab⟩) k c) (l.take k):=by
 have h1:=h.take hk c (by have:=h.cap;omega);obtain ⟨A',c',hv,bT,hA⟩:=h1;simp only [Value.slice.injEq] at hv;obtain ⟨rfl,aK,rfl⟩:=hv;have h2:(l.take k).length=k:=by rw [Az,Nat.min_eq_left hk]
 refine ⟨_,c,by rw [h2],Bk,fun hl=>?_⟩;obtain ⟨b',o',he,aA,hc⟩:=hA hl;simp only [Option.some.injEq,Addr.mk.injEq,and_true] at he;obtain ⟨rfl,rfl⟩:=he;refine ⟨b,o,rfl,aA,fun i hi j u hu=>?_⟩;have hj:j<e.sz:=by
  have:=(List.getElem?_eq_some_iff.1 hu).1
  rwa [e.len] at this
 rw [Qj _ _ _ _ _ (by
  have:(i+1) * e.sz<=k * e.sz:=Nat.mul_le_mul_right _ Bk;rw [Nat.succ_mul] at this;omega)]
 exact hc i hi j u hu
theorem Rd.some_ {α:Type} {e:Enc α} {w:World} {B b o n c:Nat} {l:List α} (h:Rd e w B (Aa (Ac ⟨b,o,Ab⟩) n c) l) (bG:0<e.sz) (q:Nat) (hq:q<l.length * e.sz):(w.cell? ⟨b,o+q,Ab⟩).isSome=true:=by
 obtain ⟨A',c',hv,bT,hA⟩:=h;simp only [Value.slice.injEq] at hv;obtain ⟨rfl,aK,rfl⟩:=hv;have hk:q / e.sz<l.length:=Nat.div_lt_of_lt_mul (by rw [Nat.mul_comm];exact hq);have hj:q % e.sz<e.sz:=Nat.mod_lt _ bG;have mS:q / e.sz * e.sz+q % e.sz=q:=by rw [Nat.mul_comm];exact Nat.div_add_mod _ _
 obtain ⟨b',o',he,aA,hc⟩:=hA (Nat.lt_of_le_of_lt (Ag _) hk);simp only [Option.some.injEq,Addr.mk.injEq,and_true] at he;obtain ⟨rfl,rfl⟩:=he;have nN:q % e.sz<(e.cells l[q / e.sz]).length:=by rw [e.len];exact hj
 have:=hc (q / e.sz) hk (q % e.sz) _ (List.getElem?_eq_getElem nN)
 rw [Nat.add_assoc,mS] at this;rw [this];rfl
theorem Hw.of_rd {α:Type} {e:Enc α} {w:World} {b o n c:Nat} {l:List α} (h:Rd e w w (Aa (Ac ⟨b,o,Ab⟩) n c) l) (hf:∀ j,w.frozen? ⟨b,j,Ab⟩=false):Hw e w (Eh (Aa (Ac ⟨b,o,Ab⟩) n c) l.length) (Aa (Ac ⟨b,o,Ab⟩) n c) l:=by
 refine ⟨h,rfl,fun g hg j=>?_⟩
 have:=H6 _ _ _ hg
 have:b=g:=by simpa [Value.ownBlock] using this
 subst this;exact hf j
def Afe {α:Type} (e:Enc α) (A:Option Addr) (c:Nat) (F:List Nat) (l:List α) (w:World) (en:Ending) (w':World):Prop :=
 ∃ k F',en = .returned (Aa A k c)/\Hw e w' F' (Aa A k c) l/\(∀ b∈F',b∈F)/\Chg F w w'
structure Kept {α:Type} (p:α->Bool) (l M:List α) (i j:Nat):Prop where
 len:M.length=l.length
 head:M.take i=(l.take j).filter fun x=>!p x
 tail:∀ t (h:t<l.length) (h':t<M.length),j<=t->M[t]=l[t]
theorem Kept.drop {α:Type} {p:α->Bool} {l M:List α} {i j:Nat} (h:Kept p l M i j) (hj:j<l.length) (hp:p l[j]=true):Kept p l M i (j+1):=by
 refine ⟨h.len,?_,fun t ht dK htj=>h.tail t ht dK Bk⟩;rw [h.head,Dc l j hj,List.filter_append];simp [hp]
theorem Kept.keep {α:Type} {p:α->Bool} {l M:List α} {i j:Nat} (h:Kept p l M i j) (hj:j<l.length) (hi:i<j) (hp:p l[j]=false):Kept p l (M.set i l[j]) (i+1) (j+1):=by
 have hl:=h.len;refine ⟨by rw [Bg];exact h.len,?_,fun t ht dK htj=>?_⟩
 ·rw [Dc l j hj,List.filter_append,<-h.head,Dc _ i (by rw [Bg];omega),List.getElem_set_self,List.take_set_of_le (Br _)];simp [hp]
 ·rw [List.getElem_set_ne Bk];exact h.tail t ht (by rw [Bg] at dK;exact dK) Bk
theorem Abm {α:Type} {p:α->Bool} {l:List α} {k:Nat} (hk:k<l.length) (h:∀ j (hj:j<l.length),j<k->p l[j]=false) (hp:p l[k]=true):Kept p l l k (k+1):=by
 refine ⟨rfl,?_,fun t _ _ _=>rfl⟩;rw [Dc l k hk,List.filter_append];have:(l.take k).filter (fun x=>!p x)=l.take k:=List.filter_eq_self.2 (fun x hx=>by
  obtain ⟨j,hj,rfl⟩:=List.getElem_of_mem hx;rw [Az] at hj;rw [List.getElem_take];simp [h j Bk Bk])
 rw [this];simp [hp]
theorem Aef {α:Type} {p:α->Bool} {l:List α} (h:∀ j (hj:j<l.length),p l[j]=false):(l.filter fun x=>!p x)=l:=List.filter_eq_self.2 (fun x hx=>by
 obtain ⟨j,hj,rfl⟩:=List.getElem_of_mem hx
 simp [h j hj])
theorem M6 (v:Value) (l:List Entry) (i xb:Nat) (x:Entry) (base:Nat) (w:World) (hi:i<=l.length) (hl:l.length<=1000000) (ho:Ow Cu 93 w base v l) (aV:base<=w.heap.size)
  (hx:w.heap[xb]? = Ac (.cells (Cu.cells x).toArray 93 (0,0))) (aC:v.ownBlock≠Ac xb) :
  Calls An 194 #[v,.int .i64 (i:Int),.slice (Ac ⟨xb,0,Ab⟩) 1 1] w fun e w'=>∃ v',e = .returned v'/\Ow Cu 93 w' base v' (l.take i ++ x :: l.drop i)/\w.grownBy w' v.ownBlock/\(v'.ownBlock=v.ownBlock\/v'.ownBlock=Ac w.heap.size):=by
 obtain ⟨j0,bS,jz0,jz1,jz2⟩:=info_parts Fw;have dZ:xb<w:=(Array.getElem?_eq_some_iff.1 hx).1;have kT:∀ j u,(Cu.cells x)[j]? = Ac u->w.cell? ((⟨xb,0,Ab⟩:Addr).add j)=Ac u:=fun j u hu=>by
  have h0:w.cell? ⟨xb,j,Ab⟩=(Cu.cells x).toArray[j]?:=cell_of_row _ _ j _ _ (0,0) hx;have e:((⟨xb,0,Ab⟩:Addr).add j)=⟨xb,j,Ab⟩:=by unfold Addr.add;split<;>simp_all
  rw [e,h0];simpa using hu
 have fE:Rd Cu w w (.slice (Ac ⟨xb,0,Ab⟩) 1 1) [x]:=by
  refine ⟨_,1,rfl,Bm,fun _=>⟨xb,0,rfl,dZ,fun k hk j u hu=>?_⟩⟩;have cS:k=0:=by simpa using hk
  subst cS;have e:(⟨xb,0+0 * Cu.sz+j,Ab⟩:Addr)=(⟨xb,0,Ab⟩:Addr).add j:=by unfold Addr.add;split<;>simp_all
  rw [e];exact kT j u hu
 by_cases bU:i=l.length
 ·have Hl:=Bp (show l.take i ++ x :: l.drop i=l ++ [x] by rw [bU,List.take_length,List.drop_length]);have HO:=Bp ho;have HX:=Bp hx;have HXC:=Bp kT;have HNE:=Bp aC;obtain ⟨A,c,rfl,hc,-⟩:=id (Rd.of_own ho);have aJ:l.length<=c:=hc;subst bU;clear ho hx kT aC hi;have h0:¬ (l.length:Int)<0:=Bk;by_cases rQ:c=l.length;all_goals
   (try subst rQ)
   go_enter Tryz.func194,Tryz.ntmps194;go_wp2_with (at_builtin;refine Bz _ Cu Bo rfl (.tmp 23) (.tmp 24) rfl Tryz.underlying96 bS jz0 jz1 jz2 rfl (v:=.slice A l.length _) (l:=l) rfl HO.out (A:=Ac ⟨xb,0,Ab⟩) (m:=1) (c:=1) rfl fE Bk Bm Bo Bk ?_;intro v5 w5 o5 g5 f5)
   go_ret;exact ⟨v5,rfl,by first | exact o5 | (rw [Hl.out];exact o5),g5,f5⟩
 have aA:i<l.length:=Bk;obtain ⟨g,cap,rfl,pJ,gS,-⟩:∃ g cap,v = .slice (Ac ⟨g,0,Ab⟩) l.length cap/\base<=g/\g<w.heap.size/\True:=by
  rcases ho.form with ⟨_,e0⟩ | ⟨g,cap,e1,h1,h2,_⟩
  ·rw [e0] at aA;simp at aA
  ·exact ⟨g,cap,e1,h1,h2,trivial⟩
 obtain ⟨-,-,hncap,mK,cur,bQ,eI,fA⟩:=ho.row;have hne':xb≠g:=fun e=>aC (by rw [e];rfl);have bG:(An.info? 93).map (·.size)=Ac 4:=by rw [bS];simp [jz1]
 have kV:Cu.sz=4:=rfl;have kM:(l.flatMap Cu.cells).length=l.length * 4:=Cu.flat_length l;have eW:(Cu.cells x).length=4:=Cu.len x;have sM:((l.flatMap Cu.cells).drop (i * 4)).length=(l.length - i) * 4:=by rw [List.length_drop,kM,Nat.sub_mul]
 have mJ:∀ u∈l.flatMap Cu.cells,u.oneCell'=true:=fun u hu=>by
  obtain ⟨y,_,hy⟩:=List.mem_flatMap.1 hu;exact Cu.one y u hy
 have pY:=Bp (Lf Cu l i Bk x);rw [kV] at fA eI pY;have aY:∀ j u,(l.flatMap Cu.cells)[j]? = Ac u->w.cell? ⟨g,j,Ab⟩=Ac u:=fun j u hu=>by
  have h0:w.cell? ⟨g,j,Ab⟩=cur.toArray[j]?:=cell_of_row _ _ j _ _ (0,0) bQ;rw [h0,<-fA,List.getElem?_take] at *
  split at hu
  ·simpa using hu
  ·cases hu
 have Hone:=Bp mJ;have Hcell:=Bp aY;have HX:=Bp hx;have HXC:=Bp kT;have Hrow:=Bp bQ;have Hclen:=Bp eI;have Hcur:=Bp fA;have HO:=Bp ho;have Hxl:=Bp eW;have Hdl:=Bp sM;have HLl:=Bp kM;have HSZ:=Bp bG;have hcm2:cap<=9223372036854775807:=by simpa [maxLen] using mK
 have kD:¬ ((i:Int)=(l.length:Int)):=Bk;have hib:((i:Int) == (l.length:Int))=false:=beq_eq_false_iff_ne.2 kD;have hw1:U.wrap ((i:Int)+1)=(i:Int)+1:=Ar _ Bk;have qT:U.wrap ((l.length:Int)+1)=(l.length:Int)+1:=Ar _ Bk;have aQ:(0:Int)<=(i:Int)+1:=Bk;have qW:((i:Int)+1).toNat=i+1:=Bk;have htn2:((l.length:Int)+1).toNat=l.length+1:=Bk;have eS:¬ cap=i:=Bk;have hiI:(i:Int)<=(l.length:Int):=Bk;have hicap:(i:Int)<=(cap:Int):=Bk;clear ho hx kT aC bQ eI fA mJ aY mK aA bU hi fE kM eW sM bG kV;by_cases hroom:l.length+1<=cap
 ·-- there is room: in place
  have rT:¬ cap=i+1:=Bk;have hro:¬ (cap:Int)<(l.length:Int)+1:=Bk;have hi1:(i:Int)+1<=(l.length:Int)+1:=Bk;have sN:(i:Int)<=(l.length:Int)+1:=Bk;have gM:w.shape? xb=Ac (93,4):=by unfold World.shape?;rw [HX.out];simp [Hxl.out]
  have gK:w.shape? g=Ac (93,cap * 4):=by unfold World.shape?;rw [Hrow.out];simp [Hclen.out]
  have pG:∀ o,w.frozen? ⟨xb,o,Ab⟩=false:=fun o=>by unfold World.frozen?;rw [HX.out];simp
  have sR:∀ lb cb,(callFunc 233 #[.slice (Ac ⟨xb,0,Ab⟩) 1 1,.slice (Ac ⟨g,(i+1) * 4,Ab⟩) lb cb]).run An w = .ok (.value (.bool false)) w:=fun lb cb=>by
   rw [run_callFunc_extern Tryz.func233 Bl Bl Bl (e:=Extern.SlicesOverlaps.overlaps #[96,96] #[4]) Bl,
    Lib.run_overlaps_apart w 96 4 93 Tryz.underlying96 4 (fun w=>by simp [sizeOf,typeInfo,bS,jz1]) ⟨xb,0,Ab⟩ ⟨g,(i+1) * 4,Ab⟩ 1 1 lb cb hne' 93 93 4 (cap * 4) gM gK (by have:1 * 4<=cap * 4:=Nat.mul_le_mul_right _ Bk;omega) (pG _) (pG _)]
   rfl
  have Hsh:=Bp gM;have Hsg:=Bp gK;have Hfx:=Bp pG;clear gM gK pG;go_enter Tryz.func194,Tryz.ntmps194;go_wp2_with (simp only [sR])
  have e1:=Bp (show ((l.flatMap Cu.cells).drop (i * 4)).length=Nat.min (l.length+1 - i) (l.length - i) * 4 by rw [Hdl.out];congr 1;simp only [Nat.min_def];split<;>omega);have e2:=Bp (show ∀ j u,((l.flatMap Cu.cells).drop (i * 4))[j]? = Ac u->w.drew.cell? ((⟨g,i * 4,Ab⟩:Addr).add j)=Ac u from Hs Hrow.out _ (fun j u hu=>by
   rw [List.getElem?_drop,<-Hcur.out,List.getElem?_take] at hu;split at hu
   ·exact hu
   ·cases hu))
  have e3:=Bp (show (i+1) * 4+((l.flatMap Cu.cells).drop (i * 4)).length<=cur.length by
   rw [Hdl.out,Hclen.out,<-Nat.add_mul];exact Nat.mul_le_mul_right _ Bk)
  have e4:=Bp (show ∀ u∈(l.flatMap Cu.cells).drop (i * 4),u.oneCell'=true from fun u hu=>Hone.out u (List.mem_of_mem_drop hu));go_region_law (refine Kf w.drew rfl (.tmp 73) (.tmp 76) 96 96 rfl 93 4 Tryz.underlying96 HSZ.out g ((i+1) * 4) (l.length - i) (cap - (i+1)) ⟨g,i * 4,Ab⟩ (l.length+1 - i) (cap - i) (by simp [Act.eval,Act.put]) (by simp [Act.eval,Act.put]) cur 93 Hrow.out ((l.flatMap Cu.cells).drop (i * 4)) e1.out e2.out e3.out e4.out ?_;intro w1 r1 g1);have f1:=Bp (show (Cu.cells x).length=Nat.min 1 (l.length+1 - i) * 4 by rw [Hxl.out];simp only [Nat.min_def];split<;>omega);have f2:=Bp (show ∀ j u,(Cu.cells x)[j]? = Ac u->w1.cell? ((⟨xb,0,Ab⟩:Addr).add j)=Ac u from Hs (Jy g1 (w:=w.drew) HX.out (fun e=>hne' (Option.some.inj e))) _ (fun j u hu=>by rw [Nat.zero_add];exact hu));have cR:=Bp (Rz Cu l i Bk x cur Hcur.out (by rw [Hclen.out];exact Nat.mul_le_mul_right _ hroom));have f3:=Bp (show i * 4+(Cu.cells x).length<=(splice cur ((i+1) * 4) ((l.flatMap Cu.cells).drop (i * 4))).length by
   rw [E8 _ _ _ e3.out,Hxl.out,Hclen.out,<-Nat.succ_mul];exact Nat.mul_le_mul_right _ Bk)
  have f4:=Bp (Cu.one x);clear e1 e2 e3 e4 sR;go_wp2_with (refine I5 w1 rfl (.tmp 80) (.tmp 81) 96 96 rfl 93 4 Tryz.underlying96 HSZ.out g (i * 4) (l.length+1 - i) (cap - i) ⟨xb,0,Ab⟩ 1 1 (by simp [Act.eval]) (by simp [Act.eval]) _ 93 r1.out (Cu.cells x) f1.out f2.out f3.out f4.out ?_;intro w2 r2 g2)
  go_ret;have gA:=Ow.of_row (e:=Cu) (E:=93) (l:=l.take i ++ x :: l.drop i) (cap:=cap) (base:=base) r2.out (cR.out.2.trans Hclen.out) (by rw [Gn l i Bk x];exact cR.out.1) pJ (by rw [Gn l i Bk x];exact hroom) (by simpa [maxLen] using hcm2);rw [Gn l i Bk x] at gA;exact ⟨_,rfl,gA,(Mm g1).trans g2,.inl rfl⟩
 ·-- no room: a new row
  obtain rfl:cap=l.length:=Bk;have hro:(l.length:Int)<(l.length:Int)+1:=Bk;have fZ:U.wrap ((l.length:Int)+1 - (i:Int))=(l.length:Int)+1 - (i:Int):=Ar _ Bk;have a1:=Bp (show ((l.flatMap Cu.cells).take (i * 4)).length=i * 4 by
   rw [Az,HLl.out];exact Nat.min_eq_left (Nat.mul_le_mul_right _ Bk))
  have a2:=Bp (show ∀ j u,((l.flatMap Cu.cells).take (i * 4))[j]? = Ac u->w.cell? ((⟨g,0,Ab⟩:Addr).add j)=Ac u from Hs Hrow.out _ (fun j u hu=>by
   rw [List.getElem?_take] at hu;split at hu
   ·rw [<-Hcur.out,List.getElem?_take] at hu;split at hu
    ·rw [Nat.zero_add];exact hu
    ·cases hu
   ·cases hu))
  have dA:=Bp (show (l.length:Int)+1 - (i:Int)=((l.length+1 - i:Nat):Int) by omega);have sU:0<l.length+1 - i:=Bk;have hGg:w≠g:=Bk;have hxG:xb≠w:=Bk;have f1:=Bp (show (Cu.cells x).length=Nat.min 1 (l.length+1 - i) * 4 by rw [Hxl.out];simp only [Nat.min_def];split<;>omega);have f4:=Bp (Cu.one x);have e1:=Bp (show ((l.flatMap Cu.cells).drop (i * 4)).length=Nat.min (l.length - i) (l.length - i) * 4 by rw [Hdl.out];congr 1;simp only [Nat.min_def];split<;>omega);have e4:=Bp (show ∀ u∈(l.flatMap Cu.cells).drop (i * 4),u.oneCell'=true from fun u hu=>Hone.out u (List.mem_of_mem_drop hu));have e2:=Bp (show ∀ W:World,W.heap[g]? = w.heap[g]? -> ∀ j u,((l.flatMap Cu.cells).drop (i * 4))[j]? = Ac u->W.cell? ((⟨g,i * 4,Ab⟩:Addr).add j)=Ac u from fun W hW=>Hs (hW.trans Hrow.out) _ (fun j u hu=>by
   rw [List.getElem?_drop,<-Hcur.out,List.getElem?_take] at hu;split at hu
   ·exact hu
   ·cases hu))
  go_enter Tryz.func194,Tryz.ntmps194;go_wp2_with (first
   | (refine J7 w rfl (.tmp 34) (.tmp 39) 96 3 rfl 93 j0 _ 4 _ .i64 .i64 Tryz.underlying96 Tryz.underlying3 bS jz0 jz1 jz2 rfl Bo ⟨g,0,Ab⟩ i l.length _ (by simp [Act.eval]) (l.length+1 - i) ((l.length:Int)+1 - (i:Int)) dA.out (by simp [Act.eval]) a1.out a2.out sU Bk Bk Bo (l.length+1) Bk ?_;intro w1 c R r1 rl rt nB pL g1 s1;have hci:¬ c=i:=(by omega);have hci1:¬ c=i+1:=(by omega);have sN:(i:Int)<=(l.length:Int)+1:=(by omega);have hi1:(i:Int)+1<=(l.length:Int)+1:=(by omega);have nW:(l.length:Int)+1<=(c:Int):=(by omega);have f2:=Bp (show ∀ j u,(Cu.cells x)[j]? = Ac u->w1.cell? ((⟨xb,0,Ab⟩:Addr).add j)=Ac u from Hs (Jy g1 HX.out Bm) _ (fun j u hu=>by rw [Nat.zero_add];exact hu));have f3:=Bp (show i * 4+(Cu.cells x).length<=R.length by rw [Hxl.out,rl.out,<-Nat.succ_mul];exact Nat.mul_le_mul_right _ Bk);have cR:=Bp (Um Cu l i Bk x R rt.out (by rw [rl.out];exact Nat.mul_le_mul_right _ nB));have mC:=Bp (g1.block g gS Bm);clear dA)
   | (refine I5 w1 rfl (.tmp 43) (.tmp 44) 96 96 rfl 93 4 Tryz.underlying96 HSZ.out w.heap.size (i * 4) (l.length+1 - i) (c - i) ⟨xb,0,Ab⟩ 1 1 (by simp [Act.eval]) (by simp [Act.eval]) _ 93 r1.out (Cu.cells x) f1.out f2.out f3.out f4.out ?_;intro w2 r2 g2))
  have e3:=Bp (show (i+1) * 4+((l.flatMap Cu.cells).drop (i * 4)).length<=(splice R (i * 4) (Cu.cells x)).length by
   rw [E8 _ _ _ f3.out,Hdl.out,rl.out,<-Nat.add_mul];exact Nat.mul_le_mul_right _ Bk)
  have e2':=Bp (e2.out w2.drew ((g2.block g Bk (fun e=>hGg (Option.some.inj e).symm)).trans mC.out));clear e2 mC;go_region_law (refine Kf w2.drew rfl (.tmp 50) (.tmp 53) 96 96 rfl 93 4 Tryz.underlying96 HSZ.out w.heap.size ((i+1) * 4) (l.length - i) (c - (i+1)) ⟨g,i * 4,Ab⟩ (l.length - i) (l.length - i) (by simp [Act.eval,Act.put]) (by simp [Act.eval,Act.put]) _ 93 r2.out ((l.flatMap Cu.cells).drop (i * 4)) e1.out e2'.out e3.out e4.out ?_;intro w3 r3 g3);go_wp2_with fail
  go_ret;have gA:=Ow.of_row (e:=Cu) (E:=93) (l:=l.take i ++ x :: l.drop i) (cap:=c) (base:=base) r3.out (cR.out.2.trans rl.out) (by rw [Gn l i Bk x];exact cR.out.1) aV (by rw [Gn l i Bk x];exact nB) (by simpa [maxLen] using pL);rw [Gn l i Bk x] at gA;exact ⟨_,rfl,gA,N1 (N1 (Uk g1 (Ac g)) g2 (Br _)) (Mm g3) (Br _),.inr rfl⟩
theorem Zr (d:Deed) (s:Sl) (w:World) (hk:d.kind=1) (h:I8.rd w w d s) :
  Calls An 141 #[Nl d s] w fun e w'=>e = .returned (.bool (Dr d))/\Below w w w':=by
 have h2:Cm.rd w w d.plan s:=h;have HR:=Bp (show ∀ W,Below w w W->Cm.rd W W d.plan s from fun W hW=>Cm.rd_more (Cm.rd_below h2 hW) hW.size);clear h h2;obtain ⟨A,n,c⟩:=s;obtain ⟨kd,rn,p,tk,ty,wk,dr⟩:=d;obtain rfl:kd=1:=hk;have X:=DBox.new 45 [J U 1,J U rn,J U p.prio,J U p.most,J U p.wait,J U p.tasks,Aa A n c,J U tk,J U ty,J U wk,J U dr] w (b:=w.heap.size) rfl;have B0:Below w w (w.alloc (.cells #[J U 1,J U rn,J U p.prio,J U p.most,J U p.wait,J U p.tasks,Aa A n c,J U tk,J U ty,J U wk,J U dr] 45)):=by repeat (first | exact Bq _ _ | refine Ae ?_ Bn _)
 have e0:inB 1 1 8=true:=rfl;have HD:=Bp (show Dr ⟨1,rn,p,tk,ty,wk,dr⟩=(Ge rn && (tk == 0) && (ty == 0) && (wk == 0) && (dr == 0) && Ff p) by simp [Dr,inB,Bool.and_assoc]);by_cases a0:inB rn 0 1000000000=false;rotate_left;replace a0:inB rn 0 1000000000=true:=by simpa using a0
 by_cases a1:(tk != 0)=true;rotate_left;replace a1:(tk != 0)=false:=by simpa using a1
 by_cases a2:(ty != 0)=true;rotate_left;replace a2:(ty != 0)=false:=by simpa using a2
 by_cases a3:(wk != 0)=true;rotate_left;replace a3:(wk != 0)=false:=by simpa using a3
 by_cases a4:(dr != 0)=true;rotate_left;replace a4:(dr != 0)=false:=by simpa using a4
 ·have H:=Bp (show Dr ⟨1,rn,p,tk,ty,wk,dr⟩=Ff p by rw [HD.out];simp only [bne_eq_false_iff_eq] at a0 a1 a2 a3 a4;simp [Ge, *]);have C:=Ti p ⟨A,n,c⟩ _ (HR.out _ B0);go_enter Tryz.func141,Tryz.ntmps141;go_upto_region 6 with (first | (go_at_call 191;refine (Cq _ _).mono ?_;rintro e w9 ⟨rfl,rfl⟩;(try (with_reducible first | rw [e0] | rw [a0] | rw [a1] | rw [a2] | rw [a3] | rw [a4]));dsimp only) | (go_at_call 155;refine (Cf _ _ _ _).mono ?_;rintro e w9 ⟨rfl,rfl⟩;(try (with_reducible first | rw [e0] | rw [a0] | rw [a1] | rw [a2] | rw [a3] | rw [a4]));dsimp only) | (go_at_call 196;refine C.mono ?_;rintro e w1 ⟨rfl,b1⟩))
  dsimp only [List.append];go_wp2_with (first | (go_at_call 191;refine (Cq _ _).mono ?_;rintro e w9 ⟨rfl,rfl⟩;(try (with_reducible first | rw [e0] | rw [a0] | rw [a1] | rw [a2] | rw [a3] | rw [a4]));dsimp only) | (go_at_call 155;refine (Cf _ _ _ _).mono ?_;rintro e w9 ⟨rfl,rfl⟩;(try (with_reducible first | rw [e0] | rw [a0] | rw [a1] | rw [a2] | rw [a3] | rw [a4]));dsimp only) | (go_at_call 196;refine C.mono ?_;rintro e w1 ⟨rfl,b1⟩))
  go_ret;exact ⟨Bw H.out.symm,Bs B0 b1⟩
 all_goals
  have H:=Bp (show Dr ⟨1,rn,p,tk,ty,wk,dr⟩=false by rw [HD.out];simp only [bne_eq_false_iff_eq,bne_iff_ne] at *;simp [Ge, *]);go_enter Tryz.func141,Tryz.ntmps141;go_upto_region 6 with (first | (go_at_call 191;refine (Cq _ _).mono ?_;rintro e w9 ⟨rfl,rfl⟩;(try (with_reducible first | rw [e0] | rw [a0] | rw [a1] | rw [a2] | rw [a3] | rw [a4]));dsimp only) | (go_at_call 155;refine (Cf _ _ _ _).mono ?_;rintro e w9 ⟨rfl,rfl⟩;(try (with_reducible first | rw [e0] | rw [a0] | rw [a1] | rw [a2] | rw [a3] | rw [a4]));dsimp only))
  dsimp only [List.append];go_wp2_with (first | (go_at_call 191;refine (Cq _ _).mono ?_;rintro e w9 ⟨rfl,rfl⟩;(try (with_reducible first | rw [e0] | rw [a0] | rw [a1] | rw [a2] | rw [a3] | rw [a4]));dsimp only) | (go_at_call 155;refine (Cf _ _ _ _).mono ?_;rintro e w9 ⟨rfl,rfl⟩;(try (with_reducible first | rw [e0] | rw [a0] | rw [a1] | rw [a2] | rw [a3] | rw [a4]));dsimp only))
  go_ret;exact ⟨Bw H.out.symm,B0⟩
theorem Zs (d:Deed) (s:Sl) (w:World) (hk:d.kind=2) (h:I8.rd w w d s) :
  Calls An 141 #[Nl d s] w fun e w'=>e = .returned (.bool (Dr d))/\Below w w w':=by
 have h2:Cm.rd w w d.plan s:=h;have HR:=Bp (show ∀ W,Below w w W->Cm.rd W W d.plan s from fun W hW=>Cm.rd_more (Cm.rd_below h2 hW) hW.size);clear h h2;obtain ⟨A,n,c⟩:=s;obtain ⟨kd,rn,p,tk,ty,wk,dr⟩:=d;obtain rfl:kd=2:=hk;have X:=DBox.new 45 [J U 2,J U rn,J U p.prio,J U p.most,J U p.wait,J U p.tasks,Aa A n c,J U tk,J U ty,J U wk,J U dr] w (b:=w.heap.size) rfl;have B0:Below w w (w.alloc (.cells #[J U 2,J U rn,J U p.prio,J U p.most,J U p.wait,J U p.tasks,Aa A n c,J U tk,J U ty,J U wk,J U dr] 45)):=by repeat (first | exact Bq _ _ | refine Ae ?_ Bn _)
 have e0:inB 2 1 8=true:=rfl;have HD:=Bp (show Dr ⟨2,rn,p,tk,ty,wk,dr⟩=((rn == 0) && (tk == 0) && (ty == 0) && Ge wk && Ge dr && Gh p) by simp [Dr,inB,Bool.and_assoc]);by_cases a0:(rn != 0)=true;rotate_left;replace a0:(rn != 0)=false:=by simpa using a0
 by_cases a1:(tk != 0)=true;rotate_left;replace a1:(tk != 0)=false:=by simpa using a1
 by_cases a2:(ty != 0)=true;rotate_left;replace a2:(ty != 0)=false:=by simpa using a2
 by_cases a3:inB wk 0 1000000000=false;rotate_left;replace a3:inB wk 0 1000000000=true:=by simpa using a3
 by_cases a4:inB dr 0 1000000000=false;rotate_left;replace a4:inB dr 0 1000000000=true:=by simpa using a4
 ·have H:=Bp (show Dr ⟨2,rn,p,tk,ty,wk,dr⟩=Gh p by rw [HD.out];simp only [bne_eq_false_iff_eq] at a0 a1 a2 a3 a4;simp [Ge, *]);have C:=Gy p ⟨A,n,c⟩ _ (HR.out _ B0);go_enter Tryz.func141,Tryz.ntmps141;go_upto_region 6 with (first | (go_at_call 191;refine (Cq _ _).mono ?_;rintro e w9 ⟨rfl,rfl⟩;(try (with_reducible first | rw [e0] | rw [a0] | rw [a1] | rw [a2] | rw [a3] | rw [a4]));dsimp only) | (go_at_call 155;refine (Cf _ _ _ _).mono ?_;rintro e w9 ⟨rfl,rfl⟩;(try (with_reducible first | rw [e0] | rw [a0] | rw [a1] | rw [a2] | rw [a3] | rw [a4]));dsimp only) | (go_at_call 197;refine C.mono ?_;rintro e w1 ⟨rfl,b1⟩))
  dsimp only [List.append];go_wp2_with (first | (go_at_call 191;refine (Cq _ _).mono ?_;rintro e w9 ⟨rfl,rfl⟩;(try (with_reducible first | rw [e0] | rw [a0] | rw [a1] | rw [a2] | rw [a3] | rw [a4]));dsimp only) | (go_at_call 155;refine (Cf _ _ _ _).mono ?_;rintro e w9 ⟨rfl,rfl⟩;(try (with_reducible first | rw [e0] | rw [a0] | rw [a1] | rw [a2] | rw [a3] | rw [a4]));dsimp only) | (go_at_call 197;refine C.mono ?_;rintro e w1 ⟨rfl,b1⟩))
  go_ret;exact ⟨Bw H.out.symm,Bs B0 b1⟩
 all_goals
  have H:=Bp (show Dr ⟨2,rn,p,tk,ty,wk,dr⟩=false by rw [HD.out];simp only [bne_eq_false_iff_eq,bne_iff_ne] at *;simp [Ge, *]);go_enter Tryz.func141,Tryz.ntmps141;go_upto_region 6 with (first | (go_at_call 191;refine (Cq _ _).mono ?_;rintro e w9 ⟨rfl,rfl⟩;(try (with_reducible first | rw [e0] | rw [a0] | rw [a1] | rw [a2] | rw [a3] | rw [a4]));dsimp only) | (go_at_call 155;refine (Cf _ _ _ _).mono ?_;rintro e w9 ⟨rfl,rfl⟩;(try (with_reducible first | rw [e0] | rw [a0] | rw [a1] | rw [a2] | rw [a3] | rw [a4]));dsimp only))
  dsimp only [List.append];go_wp2_with (first | (go_at_call 191;refine (Cq _ _).mono ?_;rintro e w9 ⟨rfl,rfl⟩;(try (with_reducible first | rw [e0] | rw [a0] | rw [a1] | rw [a2] | rw [a3] | rw [a4]));dsimp only) | (go_at_call 155;refine (Cf _ _ _ _).mono ?_;rintro e w9 ⟨rfl,rfl⟩;(try (with_reducible first | rw [e0] | rw [a0] | rw [a1] | rw [a2] | rw [a3] | rw [a4]));dsimp only))
  go_ret;exact ⟨Bw H.out.symm,B0⟩
theorem Zt (d:Deed) (s:Sl) (w:World) (hk:d.kind=3) (h:I8.rd w w d s) :
  Calls An 141 #[Nl d s] w fun e w'=>e = .returned (.bool (Dr d))/\Below w w w':=by
 have h2:Cm.rd w w d.plan s:=h;have HR:=Bp (show ∀ W,Below w w W->Cm.rd W W d.plan s from fun W hW=>Cm.rd_more (Cm.rd_below h2 hW) hW.size);clear h h2;obtain ⟨A,n,c⟩:=s;obtain ⟨kd,rn,p,tk,ty,wk,dr⟩:=d;obtain rfl:kd=3:=hk;have X:=DBox.new 45 [J U 3,J U rn,J U p.prio,J U p.most,J U p.wait,J U p.tasks,Aa A n c,J U tk,J U ty,J U wk,J U dr] w (b:=w.heap.size) rfl;have B0:Below w w (w.alloc (.cells #[J U 3,J U rn,J U p.prio,J U p.most,J U p.wait,J U p.tasks,Aa A n c,J U tk,J U ty,J U wk,J U dr] 45)):=by repeat (first | exact Bq _ _ | refine Ae ?_ Bn _)
 have e0:inB 3 1 8=true:=rfl;have HD:=Bp (show Dr ⟨3,rn,p,tk,ty,wk,dr⟩=(Ge rn && Ge tk && Ge ty && (wk == 0) && (dr == 0) && Gh p) by simp [Dr,inB,Bool.and_assoc]);by_cases a0:inB rn 0 1000000000=false;rotate_left;replace a0:inB rn 0 1000000000=true:=by simpa using a0
 by_cases a1:inB tk 0 1000000000=false;rotate_left;replace a1:inB tk 0 1000000000=true:=by simpa using a1
 by_cases a2:inB ty 0 1000000000=false;rotate_left;replace a2:inB ty 0 1000000000=true:=by simpa using a2
 by_cases a3:(wk != 0)=true;rotate_left;replace a3:(wk != 0)=false:=by simpa using a3
 by_cases a4:(dr != 0)=true;rotate_left;replace a4:(dr != 0)=false:=by simpa using a4
 ·have H:=Bp (show Dr ⟨3,rn,p,tk,ty,wk,dr⟩=Gh p by rw [HD.out];simp only [bne_eq_false_iff_eq] at a0 a1 a2 a3 a4;simp [Ge, *]);have C:=Gy p ⟨A,n,c⟩ _ (HR.out _ B0);go_enter Tryz.func141,Tryz.ntmps141;go_upto_region 6 with (first | (go_at_call 191;refine (Cq _ _).mono ?_;rintro e w9 ⟨rfl,rfl⟩;(try (with_reducible first | rw [e0] | rw [a0] | rw [a1] | rw [a2] | rw [a3] | rw [a4]));dsimp only) | (go_at_call 155;refine (Cf _ _ _ _).mono ?_;rintro e w9 ⟨rfl,rfl⟩;(try (with_reducible first | rw [e0] | rw [a0] | rw [a1] | rw [a2] | rw [a3] | rw [a4]));dsimp only) | (go_at_call 197;refine C.mono ?_;rintro e w1 ⟨rfl,b1⟩))
  dsimp only [List.append];go_wp2_with (first | (go_at_call 191;refine (Cq _ _).mono ?_;rintro e w9 ⟨rfl,rfl⟩;(try (with_reducible first | rw [e0] | rw [a0] | rw [a1] | rw [a2] | rw [a3] | rw [a4]));dsimp only) | (go_at_call 155;refine (Cf _ _ _ _).mono ?_;rintro e w9 ⟨rfl,rfl⟩;(try (with_reducible first | rw [e0] | rw [a0] | rw [a1] | rw [a2] | rw [a3] | rw [a4]));dsimp only) | (go_at_call 197;refine C.mono ?_;rintro e w1 ⟨rfl,b1⟩))
  go_ret;exact ⟨Bw H.out.symm,Bs B0 b1⟩
 all_goals
  have H:=Bp (show Dr ⟨3,rn,p,tk,ty,wk,dr⟩=false by rw [HD.out];simp only [bne_eq_false_iff_eq,bne_iff_ne] at *;simp [Ge, *]);go_enter Tryz.func141,Tryz.ntmps141;go_upto_region 6 with (first | (go_at_call 191;refine (Cq _ _).mono ?_;rintro e w9 ⟨rfl,rfl⟩;(try (with_reducible first | rw [e0] | rw [a0] | rw [a1] | rw [a2] | rw [a3] | rw [a4]));dsimp only) | (go_at_call 155;refine (Cf _ _ _ _).mono ?_;rintro e w9 ⟨rfl,rfl⟩;(try (with_reducible first | rw [e0] | rw [a0] | rw [a1] | rw [a2] | rw [a3] | rw [a4]));dsimp only))
  dsimp only [List.append];go_wp2_with (first | (go_at_call 191;refine (Cq _ _).mono ?_;rintro e w9 ⟨rfl,rfl⟩;(try (with_reducible first | rw [e0] | rw [a0] | rw [a1] | rw [a2] | rw [a3] | rw [a4]));dsimp only) | (go_at_call 155;refine (Cf _ _ _ _).mono ?_;rintro e w9 ⟨rfl,rfl⟩;(try (with_reducible first | rw [e0] | rw [a0] | rw [a1] | rw [a2] | rw [a3] | rw [a4]));dsimp only))
  go_ret;exact ⟨Bw H.out.symm,B0⟩
theorem Zu (d:Deed) (s:Sl) (w:World) (hk:d.kind=4) (h:I8.rd w w d s) :
  Calls An 141 #[Nl d s] w fun e w'=>e = .returned (.bool (Dr d))/\Below w w w':=by
 have h2:Cm.rd w w d.plan s:=h;have HR:=Bp (show ∀ W,Below w w W->Cm.rd W W d.plan s from fun W hW=>Cm.rd_more (Cm.rd_below h2 hW) hW.size);clear h h2;obtain ⟨A,n,c⟩:=s;obtain ⟨kd,rn,p,tk,ty,wk,dr⟩:=d;obtain rfl:kd=4:=hk;have X:=DBox.new 45 [J U 4,J U rn,J U p.prio,J U p.most,J U p.wait,J U p.tasks,Aa A n c,J U tk,J U ty,J U wk,J U dr] w (b:=w.heap.size) rfl;have B0:Below w w (w.alloc (.cells #[J U 4,J U rn,J U p.prio,J U p.most,J U p.wait,J U p.tasks,Aa A n c,J U tk,J U ty,J U wk,J U dr] 45)):=by repeat (first | exact Bq _ _ | refine Ae ?_ Bn _)
 have e0:inB 4 1 8=true:=rfl;have HD:=Bp (show Dr ⟨4,rn,p,tk,ty,wk,dr⟩=(Ge rn && Ge tk && Ge ty && (wk == 0) && (dr == 0) && Gh p) by simp [Dr,inB,Bool.and_assoc]);by_cases a0:inB rn 0 1000000000=false;rotate_left;replace a0:inB rn 0 1000000000=true:=by simpa using a0
 by_cases a1:inB tk 0 1000000000=false;rotate_left;replace a1:inB tk 0 1000000000=true:=by simpa using a1
 by_cases a2:inB ty 0 1000000000=false;rotate_left;replace a2:inB ty 0 1000000000=true:=by simpa using a2
 by_cases a3:(wk != 0)=true;rotate_left;replace a3:(wk != 0)=false:=by simpa using a3
 by_cases a4:(dr != 0)=true;rotate_left;replace a4:(dr != 0)=false:=by simpa using a4
 ·have H:=Bp (show Dr ⟨4,rn,p,tk,ty,wk,dr⟩=Gh p by rw [HD.out];simp only [bne_eq_false_iff_eq] at a0 a1 a2 a3 a4;simp [Ge, *]);have C:=Gy p ⟨A,n,c⟩ _ (HR.out _ B0);go_enter Tryz.func141,Tryz.ntmps141;go_upto_region 6 with (first | (go_at_call 191;refine (Cq _ _).mono ?_;rintro e w9 ⟨rfl,rfl⟩;(try (with_reducible first | rw [e0] | rw [a0] | rw [a1] | rw [a2] | rw [a3] | rw [a4]));dsimp only) | (go_at_call 155;refine (Cf _ _ _ _).mono ?_;rintro e w9 ⟨rfl,rfl⟩;(try (with_reducible first | rw [e0] | rw [a0] | rw [a1] | rw [a2] | rw [a3] | rw [a4]));dsimp only) | (go_at_call 197;refine C.mono ?_;rintro e w1 ⟨rfl,b1⟩))
  dsimp only [List.append];go_wp2_with (first | (go_at_call 191;refine (Cq _ _).mono ?_;rintro e w9 ⟨rfl,rfl⟩;(try (with_reducible first | rw [e0] | rw [a0] | rw [a1] | rw [a2] | rw [a3] | rw [a4]));dsimp only) | (go_at_call 155;refine (Cf _ _ _ _).mono ?_;rintro e w9 ⟨rfl,rfl⟩;(try (with_reducible first | rw [e0] | rw [a0] | rw [a1] | rw [a2] | rw [a3] | rw [a4]));dsimp only) | (go_at_call 197;refine C.mono ?_;rintro e w1 ⟨rfl,b1⟩))
  go_ret;exact ⟨Bw H.out.symm,Bs B0 b1⟩
 all_goals
  have H:=Bp (show Dr ⟨4,rn,p,tk,ty,wk,dr⟩=false by rw [HD.out];simp only [bne_eq_false_iff_eq,bne_iff_ne] at *;simp [Ge, *]);go_enter Tryz.func141,Tryz.ntmps141;go_upto_region 6 with (first | (go_at_call 191;refine (Cq _ _).mono ?_;rintro e w9 ⟨rfl,rfl⟩;(try (with_reducible first | rw [e0] | rw [a0] | rw [a1] | rw [a2] | rw [a3] | rw [a4]));dsimp only) | (go_at_call 155;refine (Cf _ _ _ _).mono ?_;rintro e w9 ⟨rfl,rfl⟩;(try (with_reducible first | rw [e0] | rw [a0] | rw [a1] | rw [a2] | rw [a3] | rw [a4]));dsimp only))
  dsimp only [List.append];go_wp2_with (first | (go_at_call 191;refine (Cq _ _).mono ?_;rintro e w9 ⟨rfl,rfl⟩;(try (with_reducible first | rw [e0] | rw [a0] | rw [a1] | rw [a2] | rw [a3] | rw [a4]));dsimp only) | (go_at_call 155;refine (Cf _ _ _ _).mono ?_;rintro e w9 ⟨rfl,rfl⟩;(try (with_reducible first | rw [e0] | rw [a0] | rw [a1] | rw [a2] | rw [a3] | rw [a4]));dsimp only))
  go_ret;exact ⟨Bw H.out.symm,B0⟩
theorem Zv (d:Deed) (s:Sl) (w:World) (hk:d.kind=5) (h:I8.rd w w d s) :
  Calls An 141 #[Nl d s] w fun e w'=>e = .returned (.bool (Dr d))/\Below w w w':=by
 have h2:Cm.rd w w d.plan s:=h;have HR:=Bp (show ∀ W,Below w w W->Cm.rd W W d.plan s from fun W hW=>Cm.rd_more (Cm.rd_below h2 hW) hW.size);clear h h2;obtain ⟨A,n,c⟩:=s;obtain ⟨kd,rn,p,tk,ty,wk,dr⟩:=d;obtain rfl:kd=5:=hk;have X:=DBox.new 45 [J U 5,J U rn,J U p.prio,J U p.most,J U p.wait,J U p.tasks,Aa A n c,J U tk,J U ty,J U wk,J U dr] w (b:=w.heap.size) rfl;have B0:Below w w (w.alloc (.cells #[J U 5,J U rn,J U p.prio,J U p.most,J U p.wait,J U p.tasks,Aa A n c,J U tk,J U ty,J U wk,J U dr] 45)):=by repeat (first | exact Bq _ _ | refine Ae ?_ Bn _)
 have e0:inB 5 1 8=true:=rfl;have HD:=Bp (show Dr ⟨5,rn,p,tk,ty,wk,dr⟩=((rn == 0) && (tk == 0) && (ty == 0) && (wk == 0) && (dr == 0) && Gh p) by simp [Dr,inB,Bool.and_assoc]);by_cases a0:(rn != 0)=true;rotate_left;replace a0:(rn != 0)=false:=by simpa using a0
 by_cases a1:(tk != 0)=true;rotate_left;replace a1:(tk != 0)=false:=by simpa using a1
 by_cases a2:(ty != 0)=true;rotate_left;replace a2:(ty != 0)=false:=by simpa using a2
 by_cases a3:(wk != 0)=true;rotate_left;replace a3:(wk != 0)=false:=by simpa using a3
 by_cases a4:(dr != 0)=true;rotate_left;replace a4:(dr != 0)=false:=by simpa using a4
 ·have H:=Bp (show Dr ⟨5,rn,p,tk,ty,wk,dr⟩=Gh p by rw [HD.out];simp only [bne_eq_false_iff_eq] at a0 a1 a2 a3 a4;simp [Ge, *]);have C:=Gy p ⟨A,n,c⟩ _ (HR.out _ B0);go_enter Tryz.func141,Tryz.ntmps141;go_upto_region 6 with (first | (go_at_call 191;refine (Cq _ _).mono ?_;rintro e w9 ⟨rfl,rfl⟩;(try (with_reducible first | rw [e0] | rw [a0] | rw [a1] | rw [a2] | rw [a3] | rw [a4]));dsimp only) | (go_at_call 155;refine (Cf _ _ _ _).mono ?_;rintro e w9 ⟨rfl,rfl⟩;(try (with_reducible first | rw [e0] | rw [a0] | rw [a1] | rw [a2] | rw [a3] | rw [a4]));dsimp only) | (go_at_call 197;refine C.mono ?_;rintro e w1 ⟨rfl,b1⟩))
  dsimp only [List.append];go_wp2_with (first | (go_at_call 191;refine (Cq _ _).mono ?_;rintro e w9 ⟨rfl,rfl⟩;(try (with_reducible first | rw [e0] | rw [a0] | rw [a1] | rw [a2] | rw [a3] | rw [a4]));dsimp only) | (go_at_call 155;refine (Cf _ _ _ _).mono ?_;rintro e w9 ⟨rfl,rfl⟩;(try (with_reducible first | rw [e0] | rw [a0] | rw [a1] | rw [a2] | rw [a3] | rw [a4]));dsimp only) | (go_at_call 197;refine C.mono ?_;rintro e w1 ⟨rfl,b1⟩))
  go_ret;exact ⟨Bw H.out.symm,Bs B0 b1⟩
 all_goals
  have H:=Bp (show Dr ⟨5,rn,p,tk,ty,wk,dr⟩=false by rw [HD.out];simp only [bne_eq_false_iff_eq,bne_iff_ne] at *;simp [Ge, *]);go_enter Tryz.func141,Tryz.ntmps141;go_upto_region 6 with (first | (go_at_call 191;refine (Cq _ _).mono ?_;rintro e w9 ⟨rfl,rfl⟩;(try (with_reducible first | rw [e0] | rw [a0] | rw [a1] | rw [a2] | rw [a3] | rw [a4]));dsimp only) | (go_at_call 155;refine (Cf _ _ _ _).mono ?_;rintro e w9 ⟨rfl,rfl⟩;(try (with_reducible first | rw [e0] | rw [a0] | rw [a1] | rw [a2] | rw [a3] | rw [a4]));dsimp only))
  dsimp only [List.append];go_wp2_with (first | (go_at_call 191;refine (Cq _ _).mono ?_;rintro e w9 ⟨rfl,rfl⟩;(try (with_reducible first | rw [e0] | rw [a0] | rw [a1] | rw [a2] | rw [a3] | rw [a4]));dsimp only) | (go_at_call 155;refine (Cf _ _ _ _).mono ?_;rintro e w9 ⟨rfl,rfl⟩;(try (with_reducible first | rw [e0] | rw [a0] | rw [a1] | rw [a2] | rw [a3] | rw [a4]));dsimp only))
  go_ret;exact ⟨Bw H.out.symm,B0⟩
theorem Zw (d:Deed) (s:Sl) (w:World) (hk:d.kind=8) (h:I8.rd w w d s) :
  Calls An 141 #[Nl d s] w fun e w'=>e = .returned (.bool (Dr d))/\Below w w w':=by
 have h2:Cm.rd w w d.plan s:=h;have HR:=Bp (show ∀ W,Below w w W->Cm.rd W W d.plan s from fun W hW=>Cm.rd_more (Cm.rd_below h2 hW) hW.size);clear h h2;obtain ⟨A,n,c⟩:=s;obtain ⟨kd,rn,p,tk,ty,wk,dr⟩:=d;obtain rfl:kd=8:=hk;have X:=DBox.new 45 [J U 8,J U rn,J U p.prio,J U p.most,J U p.wait,J U p.tasks,Aa A n c,J U tk,J U ty,J U wk,J U dr] w (b:=w.heap.size) rfl;have B0:Below w w (w.alloc (.cells #[J U 8,J U rn,J U p.prio,J U p.most,J U p.wait,J U p.tasks,Aa A n c,J U tk,J U ty,J U wk,J U dr] 45)):=by repeat (first | exact Bq _ _ | refine Ae ?_ Bn _)
 have e0:inB 8 1 8=true:=rfl;have HD:=Bp (show Dr ⟨8,rn,p,tk,ty,wk,dr⟩=((rn == 0) && (tk == 0) && (ty == 0) && (wk == 0) && (dr == 0) && Gh p) by simp [Dr,inB,Bool.and_assoc]);by_cases a0:(rn != 0)=true;rotate_left;replace a0:(rn != 0)=false:=by simpa using a0
 by_cases a1:(tk != 0)=true;rotate_left;replace a1:(tk != 0)=false:=by simpa using a1
 by_cases a2:(ty != 0)=true;rotate_left;replace a2:(ty != 0)=false:=by simpa using a2
 by_cases a3:(wk != 0)=true;rotate_left;replace a3:(wk != 0)=false:=by simpa using a3
 by_cases a4:(dr != 0)=true;rotate_left;replace a4:(dr != 0)=false:=by simpa using a4
 ·have H:=Bp (show Dr ⟨8,rn,p,tk,ty,wk,dr⟩=Gh p by rw [HD.out];simp only [bne_eq_false_iff_eq] at a0 a1 a2 a3 a4;simp [Ge, *]);have C:=Gy p ⟨A,n,c⟩ _ (HR.out _ B0);go_enter Tryz.func141,Tryz.ntmps141;go_upto_region 6 with (first | (go_at_call 191;refine (Cq _ _).mono ?_;rintro e w9 ⟨rfl,rfl⟩;(try (with_reducible first | rw [e0] | rw [a0] | rw [a1] | rw [a2] | rw [a3] | rw [a4]));dsimp only) | (go_at_call 155;refine (Cf _ _ _ _).mono ?_;rintro e w9 ⟨rfl,rfl⟩;(try (with_reducible first | rw [e0] | rw [a0] | rw [a1] | rw [a2] | rw [a3] | rw [a4]));dsimp only) | (go_at_call 197;refine C.mono ?_;rintro e w1 ⟨rfl,b1⟩))
  dsimp only [List.append];go_wp2_with (first | (go_at_call 191;refine (Cq _ _).mono ?_;rintro e w9 ⟨rfl,rfl⟩;(try (with_reducible first | rw [e0] | rw [a0] | rw [a1] | rw [a2] | rw [a3] | rw [a4]));dsimp only) | (go_at_call 155;refine (Cf _ _ _ _).mono ?_;rintro e w9 ⟨rfl,rfl⟩;(try (with_reducible first | rw [e0] | rw [a0] | rw [a1] | rw [a2] | rw [a3] | rw [a4]));dsimp only) | (go_at_call 197;refine C.mono ?_;rintro e w1 ⟨rfl,b1⟩))
  go_ret;exact ⟨Bw H.out.symm,Bs B0 b1⟩
 all_goals
  have H:=Bp (show Dr ⟨8,rn,p,tk,ty,wk,dr⟩=false by rw [HD.out];simp only [bne_eq_false_iff_eq,bne_iff_ne] at *;simp [Ge, *]);go_enter Tryz.func141,Tryz.ntmps141;go_upto_region 6 with (first | (go_at_call 191;refine (Cq _ _).mono ?_;rintro e w9 ⟨rfl,rfl⟩;(try (with_reducible first | rw [e0] | rw [a0] | rw [a1] | rw [a2] | rw [a3] | rw [a4]));dsimp only) | (go_at_call 155;refine (Cf _ _ _ _).mono ?_;rintro e w9 ⟨rfl,rfl⟩;(try (with_reducible first | rw [e0] | rw [a0] | rw [a1] | rw [a2] | rw [a3] | rw [a4]));dsimp only))
  dsimp only [List.append];go_wp2_with (first | (go_at_call 191;refine (Cq _ _).mono ?_;rintro e w9 ⟨rfl,rfl⟩;(try (with_reducible first | rw [e0] | rw [a0] | rw [a1] | rw [a2] | rw [a3] | rw [a4]));dsimp only) | (go_at_call 155;refine (Cf _ _ _ _).mono ?_;rintro e w9 ⟨rfl,rfl⟩;(try (with_reducible first | rw [e0] | rw [a0] | rw [a1] | rw [a2] | rw [a3] | rw [a4]));dsimp only))
  go_ret;exact ⟨Bw H.out.symm,B0⟩
theorem Zx (d:Deed) (s:Sl) (w:World) (hk:d.kind=6) (h:I8.rd w w d s) :
  Calls An 141 #[Nl d s] w fun e w'=>e = .returned (.bool (Dr d))/\Below w w w':=by
 have h2:Cm.rd w w d.plan s:=h;have HR:=Bp (show ∀ W,Below w w W->Cm.rd W W d.plan s from fun W hW=>Cm.rd_more (Cm.rd_below h2 hW) hW.size);clear h h2;obtain ⟨A,n,c⟩:=s;obtain ⟨kd,rn,p,tk,ty,wk,dr⟩:=d;obtain rfl:kd=6:=hk;have X:=DBox.new 45 [J U 6,J U rn,J U p.prio,J U p.most,J U p.wait,J U p.tasks,Aa A n c,J U tk,J U ty,J U wk,J U dr] w (b:=w.heap.size) rfl;have B0:Below w w (w.alloc (.cells #[J U 6,J U rn,J U p.prio,J U p.most,J U p.wait,J U p.tasks,Aa A n c,J U tk,J U ty,J U wk,J U dr] 45)):=by repeat (first | exact Bq _ _ | refine Ae ?_ Bn _)
 have e0:inB 6 1 8=true:=rfl;have HD:=Bp (show Dr ⟨6,rn,p,tk,ty,wk,dr⟩=(Ge rn && (tk == 0) && (ty == 0) && (wk == 0) && (dr == 0) && Gh p) by simp [Dr,inB,Bool.and_assoc]);by_cases a0:inB rn 0 1000000000=false;rotate_left;replace a0:inB rn 0 1000000000=true:=by simpa using a0
 by_cases a1:(tk != 0)=true;rotate_left;replace a1:(tk != 0)=false:=by simpa using a1
 by_cases a2:(ty != 0)=true;rotate_left;replace a2:(ty != 0)=false:=by simpa using a2
 by_cases a3:(wk != 0)=true;rotate_left;replace a3:(wk != 0)=false:=by simpa using a3
 by_cases a4:(dr != 0)=true;rotate_left;replace a4:(dr != 0)=false:=by simpa using a4
 ·have H:=Bp (show Dr ⟨6,rn,p,tk,ty,wk,dr⟩=Gh p by rw [HD.out];simp only [bne_eq_false_iff_eq] at a0 a1 a2 a3 a4;simp [Ge, *]);have C:=Gy p ⟨A,n,c⟩ _ (HR.out _ B0);go_enter Tryz.func141,Tryz.ntmps141;go_upto_region 6 with (first | (go_at_call 191;refine (Cq _ _).mono ?_;rintro e w9 ⟨rfl,rfl⟩;(try (with_reducible first | rw [e0] | rw [a0] | rw [a1] | rw [a2] | rw [a3] | rw [a4]));dsimp only) | (go_at_call 155;refine (Cf _ _ _ _).mono ?_;rintro e w9 ⟨rfl,rfl⟩;(try (with_reducible first | rw [e0] | rw [a0] | rw [a1] | rw [a2] | rw [a3] | rw [a4]));dsimp only) | (go_at_call 197;refine C.mono ?_;rintro e w1 ⟨rfl,b1⟩))
  dsimp only [List.append];go_wp2_with (first | (go_at_call 191;refine (Cq _ _).mono ?_;rintro e w9 ⟨rfl,rfl⟩;(try (with_reducible first | rw [e0] | rw [a0] | rw [a1] | rw [a2] | rw [a3] | rw [a4]));dsimp only) | (go_at_call 155;refine (Cf _ _ _ _).mono ?_;rintro e w9 ⟨rfl,rfl⟩;(try (with_reducible first | rw [e0] | rw [a0] | rw [a1] | rw [a2] | rw [a3] | rw [a4]));dsimp only) | (go_at_call 197;refine C.mono ?_;rintro e w1 ⟨rfl,b1⟩))
  go_ret;exact ⟨Bw H.out.symm,Bs B0 b1⟩
 all_goals
  have H:=Bp (show Dr ⟨6,rn,p,tk,ty,wk,dr⟩=false by rw [HD.out];simp only [bne_eq_false_iff_eq,bne_iff_ne] at *;simp [Ge, *]);go_enter Tryz.func141,Tryz.ntmps141;go_upto_region 6 with (first | (go_at_call 191;refine (Cq _ _).mono ?_;rintro e w9 ⟨rfl,rfl⟩;(try (with_reducible first | rw [e0] | rw [a0] | rw [a1] | rw [a2] | rw [a3] | rw [a4]));dsimp only) | (go_at_call 155;refine (Cf _ _ _ _).mono ?_;rintro e w9 ⟨rfl,rfl⟩;(try (with_reducible first | rw [e0] | rw [a0] | rw [a1] | rw [a2] | rw [a3] | rw [a4]));dsimp only))
  dsimp only [List.append];go_wp2_with (first | (go_at_call 191;refine (Cq _ _).mono ?_;rintro e w9 ⟨rfl,rfl⟩;(try (with_reducible first | rw [e0] | rw [a0] | rw [a1] | rw [a2] | rw [a3] | rw [a4]));dsimp only) | (go_at_call 155;refine (Cf _ _ _ _).mono ?_;rintro e w9 ⟨rfl,rfl⟩;(try (with_reducible first | rw [e0] | rw [a0] | rw [a1] | rw [a2] | rw [a3] | rw [a4]));dsimp only))
  go_ret;exact ⟨Bw H.out.symm,B0⟩
theorem Zy (d:Deed) (s:Sl) (w:World) (hk:d.kind=7) (h:I8.rd w w d s) :
  Calls An 141 #[Nl d s] w fun e w'=>e = .returned (.bool (Dr d))/\Below w w w':=by
 have h2:Cm.rd w w d.plan s:=h;have HR:=Bp (show ∀ W,Below w w W->Cm.rd W W d.plan s from fun W hW=>Cm.rd_more (Cm.rd_below h2 hW) hW.size);clear h h2;obtain ⟨A,n,c⟩:=s;obtain ⟨kd,rn,p,tk,ty,wk,dr⟩:=d;obtain rfl:kd=7:=hk;have X:=DBox.new 45 [J U 7,J U rn,J U p.prio,J U p.most,J U p.wait,J U p.tasks,Aa A n c,J U tk,J U ty,J U wk,J U dr] w (b:=w.heap.size) rfl;have B0:Below w w (w.alloc (.cells #[J U 7,J U rn,J U p.prio,J U p.most,J U p.wait,J U p.tasks,Aa A n c,J U tk,J U ty,J U wk,J U dr] 45)):=by repeat (first | exact Bq _ _ | refine Ae ?_ Bn _)
 have e0:inB 7 1 8=true:=rfl;have HD:=Bp (show Dr ⟨7,rn,p,tk,ty,wk,dr⟩=(Ge rn && (tk == 0) && (ty == 0) && (wk == 0) && (dr == 0) && Gh p) by simp [Dr,inB,Bool.and_assoc]);by_cases a0:inB rn 0 1000000000=false;rotate_left;replace a0:inB rn 0 1000000000=true:=by simpa using a0
 by_cases a1:(tk != 0)=true;rotate_left;replace a1:(tk != 0)=false:=by simpa using a1
 by_cases a2:(ty != 0)=true;rotate_left;replace a2:(ty != 0)=false:=by simpa using a2
 by_cases a3:(wk != 0)=true;rotate_left;replace a3:(wk != 0)=false:=by simpa using a3
 by_cases a4:(dr != 0)=true;rotate_left;replace a4:(dr != 0)=false:=by simpa using a4
 ·have H:=Bp (show Dr ⟨7,rn,p,tk,ty,wk,dr⟩=Gh p by rw [HD.out];simp only [bne_eq_false_iff_eq] at a0 a1 a2 a3 a4;simp [Ge, *]);have C:=Gy p ⟨A,n,c⟩ _ (HR.out _ B0);go_enter Tryz.func141,Tryz.ntmps141;go_upto_region 6 with (first | (go_at_call 191;refine (Cq _ _).mono ?_;rintro e w9 ⟨rfl,rfl⟩;(try (with_reducible first | rw [e0] | rw [a0] | rw [a1] | rw [a2] | rw [a3] | rw [a4]));dsimp only) | (go_at_call 155;refine (Cf _ _ _ _).mono ?_;rintro e w9 ⟨rfl,rfl⟩;(try (with_reducible first | rw [e0] | rw [a0] | rw [a1] | rw [a2] | rw [a3] | rw [a4]));dsimp only) | (go_at_call 197;refine C.mono ?_;rintro e w1 ⟨rfl,b1⟩))
  dsimp only [List.append];go_wp2_with (first | (go_at_call 191;refine (Cq _ _).mono ?_;rintro e w9 ⟨rfl,rfl⟩;(try (with_reducible first | rw [e0] | rw [a0] | rw [a1] | rw [a2] | rw [a3] | rw [a4]));dsimp only) | (go_at_call 155;refine (Cf _ _ _ _).mono ?_;rintro e w9 ⟨rfl,rfl⟩;(try (with_reducible first | rw [e0] | rw [a0] | rw [a1] | rw [a2] | rw [a3] | rw [a4]));dsimp only) | (go_at_call 197;refine C.mono ?_;rintro e w1 ⟨rfl,b1⟩))
  go_ret;exact ⟨Bw H.out.symm,Bs B0 b1⟩
 all_goals
  have H:=Bp (show Dr ⟨7,rn,p,tk,ty,wk,dr⟩=false by rw [HD.out];simp only [bne_eq_false_iff_eq,bne_iff_ne] at *;simp [Ge, *]);go_enter Tryz.func141,Tryz.ntmps141;go_upto_region 6 with (first | (go_at_call 191;refine (Cq _ _).mono ?_;rintro e w9 ⟨rfl,rfl⟩;(try (with_reducible first | rw [e0] | rw [a0] | rw [a1] | rw [a2] | rw [a3] | rw [a4]));dsimp only) | (go_at_call 155;refine (Cf _ _ _ _).mono ?_;rintro e w9 ⟨rfl,rfl⟩;(try (with_reducible first | rw [e0] | rw [a0] | rw [a1] | rw [a2] | rw [a3] | rw [a4]));dsimp only))
  dsimp only [List.append];go_wp2_with (first | (go_at_call 191;refine (Cq _ _).mono ?_;rintro e w9 ⟨rfl,rfl⟩;(try (with_reducible first | rw [e0] | rw [a0] | rw [a1] | rw [a2] | rw [a3] | rw [a4]));dsimp only) | (go_at_call 155;refine (Cf _ _ _ _).mono ?_;rintro e w9 ⟨rfl,rfl⟩;(try (with_reducible first | rw [e0] | rw [a0] | rw [a1] | rw [a2] | rw [a3] | rw [a4]));dsimp only))
  go_ret;exact ⟨Bw H.out.symm,B0⟩
end Go.Proofs.YtonlnjdempbfoaaGreat
