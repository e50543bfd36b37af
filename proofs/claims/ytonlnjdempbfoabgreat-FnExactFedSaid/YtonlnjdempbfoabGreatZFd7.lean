/-
  Copies of yards, of the program and of the reference. Written by program (yy.py). slices.DeleteFunc: lists of which some are kept; builtin clear at cells of sev
-/
import Derived.Test.YtonlnjdempbfoabGreatZFd0
import Derived.Test.YtonlnjdempbfoabGreatZFd2
import Derived.Test.YtonlnjdempbfoabGreatZFd3
import Derived.Test.YtonlnjdempbfoabGreatZFd4
import Derived.Test.YtonlnjdempbfoabGreatZFd5
import Derived.Test.YtonlnjdempbfoabGreatZFd6
import Derived.Laws.Externs
import Derived.Laws.NewBlocks
namespace Go.Proofs.YtonlnjdempbfoabGreat
open Go.RowKit
set_option maxRecDepth 100000
set_option maxHeartbeats 4000000
set_option linter.unusedVariables false
set_option linter.unusedSimpArgs false
open Value renaming int->J,slice->Aa
open IntKind renaming i64->U
open Option renaming none->Ab,some->Ac
open Below renaming setCell->Ad,alloc->Ae
open Nat renaming zero_le->Ag,le_trans->Ah,lt_of_lt_of_le->Ai
open Go.Proofs.Tryz renaming prog->Am
open IntWalk renaming i64_in->Aq
open List renaming length_map->Ar,getElem_mem->Aw,nodup_append->Ax,length_take->Az,length_append->Bd,length_set->Bh
open World renaming size_alloc->Bj
open Go.Proofs.Tryz
theorem OwL.grown {α:Type} {d:Dt α} {w w':World} {F:List Nat} {v:Value} {l:List α} {row:Option Nat} (h:OwL d w F v l) (hg:w.grownBy w' row) (hd:∀ b∈F,row≠Ac b):OwL d w' F v l :=
 h.keep hg.size fun b hb=>hg.block b (h.lt b hb) (fun e=>hd b hb e.symm)
def CopyYPost (y:Yard) (w:World) (e:Ending) (w':World):Prop :=
 ∃ (s1 s2:Sl) (F1:List Nat) (base:Nat),e = .returned (Dm y (s1,s2))/\OwL (Dt.list Bx) w' F1 s1.v y.shelf/\(∀ b∈F1,w<=b/\b<base)/\w.heap.size+1<base/\base<=w'.heap.size/\Bls Ce 167 w' base s2.v y.runs/\Below w w w'
theorem CopyYPost.own {y:Yard} {w w':World} {e:Ending} (h:CopyYPost y w e w'):Df Bv Dm y w e w':=by
 obtain ⟨s1,s2,F1,base,rfl,h1,h2,h3,_,⟨rs,hm,hB⟩,h4⟩:=h;obtain ⟨F2,h5,h6⟩:=hB.owl hm;refine ⟨(s1,s2),F1 ++ F2,rfl,⟨F1,F2,rfl,?_,h1,h5⟩,fun b hb=>?_,h4⟩
 ·rw [Ax];refine ⟨h1.nodup,h5.nodup,fun u hu u' hu' e=>?_⟩
  have:=h2 u hu
  have:=h6 u' hu'
  omega
 ·rcases List.mem_append.1 hb with hb | hb
  ·exact (h2 b hb).1
  ·have:=h6 b hb;omega
theorem Bls.below {α:Type} {d:Dt α} {E:TypeId} {w w':World} {base:Nat} {v:Value} {l:List α} (h:Bls d E w base v l) (hb:Below w w w'):Bls d E w' base v l:=by
 obtain ⟨rs,hm,hB⟩:=h;exact ⟨rs,hm,hB.below hb⟩
theorem Bls.setOther {α:Type} {d:Dt α} {E:TypeId} {w:World} {base:Nat} {v:Value} {l:List α} (h:Bls d E w base v l) {a:Addr} (ha:a.block<base) (u:Value):Bls d E (w.setCell a u) base v l:=by
 obtain ⟨rs,hm,hB⟩:=h;exact ⟨rs,hm,hB.setOther ha u⟩
theorem Kn (y:Yard) (s:Sl×Sl) (w:World) (hl:Ca y<=2000000) (h:Bv.rd w w y s) :
  Calls Am 74 #[Dm y s] w (CopyYPost y w):=by
 obtain ⟨⟨A1,n1,c1⟩,⟨A2,n2,c2⟩⟩:=s;obtain rfl:n1=y.shelf.length:=RdL.at1 (s:=⟨A1,n1,c1⟩) h.1;obtain rfl:n2=y.runs.length:=RdL.at1 (s:=⟨A2,n2,c2⟩) h.2;have h1:RdL (Dt.list Bx) w w (Aa A1 y.shelf.length c1) y.shelf:=h.1;have h2:RdL Ce w w (Aa A2 y.runs.length c2) y.runs:=h.2;have bZ:y.runs.length<=2000000:=Ah (Cj Cn _) (by unfold Ca at hl;omega);have hls:y.shelf.length<=2000000:=Ah (Cj Cl _) (by unfold Ca at hl;omega);have HE:=Bq (show ∀ k (hk:k<y.shelf.length),y.shelf[k].length<=2000000 from fun k hk=>by
  have:=C9 (cnt:=Cl) (Aw hk)
  have h2:y.shelf[k].length<=Cl y.shelf[k]:=Cj Dw _;unfold Ca at hl;omega)
 have HC:=Bq (show ∀ k (hk:k<y.runs.length),Cn y.runs[k]<=2000000 from fun k hk=>by
  have:=C9 (cnt:=Cn) (Aw hk)
  unfold Ca at hl;omega)
 clear h;obtain ⟨W,aH,X,Z,O,B0⟩:=bx3 w 27 [J U y.now,J U y.seq,Aa A1 y.shelf.length c1,Aa A2 y.runs.length c2] 27 [J U 0,J U 0,Aa Ab 0 0,Aa Ab 0 0] 27 [J U y.now,J U y.seq,Aa Ab 0 0,Aa Ab 0 0];obtain ⟨i0,aR,aX,aW,aU⟩:=info_parts Nf;obtain ⟨e0,he0,ez0,ez1,ez2⟩:=info_parts Gg;obtain ⟨j0,cJ,jz0,jz1,jz2⟩:=info_parts Kf;go_enter func74,ntmps74;go_wp2;rw [<-aH.out];clear aH;have qS:w.heap.size+3<=W.heap.size:=O.lt;go_loopw [16] (fun i wr=>∃ (k:Nat) (v:Value),k<=y.shelf.length/\i = J U k/\Hid (Bls (Dt.list Bx) 122 wr (w+3) v (y.shelf.take k))/\DBox w [J U y.now,J U y.seq,Aa A1 y.shelf.length c1,Aa A2 y.runs.length c2] wr/\DBox (w+1) [J U 0,J U 0,Aa Ab 0 0,Aa Ab 0 0] wr/\DBox (w+1+1) [J U y.now,J U y.seq,v,Aa Ab 0 0] wr/\Below w w wr/\w.heap.size+3<=wr.heap.size) (fun i _=>y.shelf.length - (intOf i).toNat);case atStart=>exact ⟨0,_,Ag _,rfl,⟨[],rfl,Bld.nil _ _ _ _⟩,X,Z,O,B0,qS⟩
 case round =>
  clear X Z O B0 qS;obtain ⟨k,v,hk,rfl,eF,X,Z,O,hb,bM⟩:=hrel;obtain ⟨X_0,X_1,X_2,X_3,X_l⟩:=X.g4;obtain ⟨O_0,O_1,O_2,O_3,O_l⟩:=O.g4;have O_f:=O.free;by_cases aA:k<y.shelf.length
  ·have aB:(k:Int)<(y.shelf.length:Int):=Bl;obtain ⟨b,o,⟨As,ns,cs⟩,mM,aK,hr,d0⟩:=(h1.below hb).entryS aA;obtain rfl:ns=y.shelf[k].length:=RdL.at1 (s:=⟨As,ns,cs⟩) hr;subst mM;have bS:b<wr:=Ai aK hb.size;have hez:=HE.out k aA;obtain ⟨rs,hm,hB⟩:=eF.out;have bG:rs.length=k:=by have:=congrArg List.length hm;simpa [Nat.min_eq_left hk] using this
   have hrl':rs.length<=2000000:=Bl;have Hrl:=Bq bG;clear bG;have hO:=hB.ow;have aC:v.ownBlock≠Ac (w.heap.size+1+1):=fun e=>by have:=hO.within _ e;omega
   have cM:=Bq (show ∀ W,Below wr wr W->RdL Bx W W (Sl.v ⟨As,y.shelf[k].length,cs⟩) y.shelf[k] from fun W hW=>RdL.more (RdL.below (RdL.more hr hb.size) hW) hW.size);go_wp2;refine Db (fun w'=>w'.cell? ⟨w+1+1,2,Ab⟩=Ac v) 7 Bm ?_ (fun hHeld=>?_)
   ·simpa [go_sem] using O_2
   refine aT 0 hHeld ?_;try simp only [pS]
   refine aT 1 hHeld ?_;try simp only [pS]
   refine aT 2 hHeld ?_;try simp only [pS]
   refine oT 3 (fun K hK=>?_)
   (go_simp;refine (Jc y.shelf[k] ⟨As,y.shelf[k].length,cs⟩ _ hez (cM.out _ (Br _ _).drew)).mono ?_;rintro e w2 ⟨s2,F2,rfl,o2,n2,b2⟩;(try dsimp only [slV]);have B12:=Bu ((Br wr wr).drew) b2;have z2:=B12.size;simp only [World.size_drew] at n2;have O2:=O.below B12;have X2:=X.below B12;have k0:w2.cell? ⟨w+1+1,2,Ab⟩=Ac v:=O2.cell 2 _ rfl;have d2f:=O2.free;have d2l:=O2.lt;go_simp)
   refine hK.out _ _ (fun _=>?_) ?_
   ·exact k0
   clear hK K;try simp only [pS]
   refine oT 4 (fun K hK=>?_);go_simp;refine hK.out _ _ (fun _=>?_) ?_
   ·(first | assumption | go_keep)
   clear hK K;try simp only [pS]
   refine oT 5 (fun K hK=>?_)
   (refine Gj _ (Dt.list Bx).enc Bp (by rfl) (.tmp 21) (.tmp 24) (by rfl) underlying24 aR aX aW aU (by rfl) (v:=v) (l:=rs) (by rfl) (hO.below (B12.alloc Bl _)) (by rfl) (Rd.one (Dt.list Bx).enc _ _ (y.shelf[k],s2) Bn rfl 1 (Bs _) (Nat.lt_succ_self _)) Bl Bn Bp (by (try simp only [Bj]);omega) ?_;intro v5 w5 o5 g5 f5;obtain ⟨A5,c5,rfl,-⟩:=id (Rd.of_own o5);simp only [Bd,List.length_singleton] at o5 f5;have eC:=(Br w2 w2).alloc (Bs _) (.cells #[Aa s2.a s2.n s2.c] 122);have O5:=(O2.below eC).off g5 (fun e=>aC e.symm);have m0:w5.cell? ⟨w+1+1,2,Ab⟩=Ac v:=O5.cell 2 _ rfl;have X5:=(X2.below eC).off g5 (fun e=>by have:=hO.within _ e.symm;omega);have fO:=O5.free;have lO:=O5.lt)
   refine hK.out _ _ (fun _=>?_) ?_
   ·exact m0
   clear hK K;try simp only [pS]
   refine oT 6 (fun K hK=>?_);go_simp;refine hK.out _ _ (fun _=>?_) ?_
   ·exact m0
   clear hK K;try simp only [pS]
   refine oT 7 (fun K hK=>?_);go_simp;refine hK.out _ _ (fun aC=>absurd rfl aC) ?_;clear hK K;try simp only [pS]
   refine D6 Bm ?_ _;go_wp2;have Z5:=((Z.below B12).below eC).off g5 (fun e=>by have:=hO.within _ e.symm;omega);have hP:=Bld.push1 (d:=Dt.list Bx) hB B12 o2 (fun b aV=>by have:=n2 b aV;omega) bM eC o5 g5 f5;have W5:=((hb.trans (B12.mono hb.size)).alloc Bl (.cells #[Aa s2.a s2.n s2.c] 122)).grown g5 (by (try simp only [Bj]);omega) (fun g hg=>by have:=hO.within g hg;omega);have S:Hid (Bls (Dt.list Bx) 122 (w5.setCell ⟨w+1+1,2,Ab⟩ (Aa A5 (rs.length+1) c5)) (w+3) (Aa A5 (rs.length+1) c5) (y.shelf.take (k+1))):=⟨rs ++ [(y.shelf[k],s2)],by rw [List.map_append,hm,Cp y.shelf k aA];rfl,hP.setOther (a:=⟨w+1+1,2,Ab⟩) (by show w.heap.size+1+1<_;omega) _⟩
   have g5s:=g5.size;simp only [Bj] at g5s;have SX:=X5.setOther (a:=⟨w+1+1,2,Ab⟩) (by show w.heap.size≠w.heap.size+1+1;omega) (Aa A5 (rs.length+1) c5);have SZ:=Z5.setOther (a:=⟨w+1+1,2,Ab⟩) (by show w.heap.size+1≠w.heap.size+1+1;omega) (Aa A5 (rs.length+1) c5);have SO:DBox (w+1+1) [J U y.now,J U y.seq,Aa A5 (rs.length+1) c5,Aa Ab 0 0] (w5.setCell ⟨w+1+1,2,Ab⟩ (Aa A5 (rs.length+1) c5)):=O5.set 2 Bn _;have SW:Below w w (w5.setCell ⟨w+1+1,2,Ab⟩ (Aa A5 (rs.length+1) c5)):=W5.setCell (by show w.heap.size<=w.heap.size+1+1;omega) _;have SS:w.heap.size+3<=(w5.setCell ⟨w+1+1,2,Ab⟩ (Aa A5 (rs.length+1) c5)).heap.size:=by simp [World.setCell];omega
   first
    | exact ⟨⟨k+1,Bl,Bn,Aa A5 (rs.length+1) c5,S,SX,SZ,SO,SW,by simpa using SS⟩,by simp [intOf];omega⟩
    | exact ⟨⟨k+1,Aa A5 (rs.length+1) c5,Bl,by go_num,S,SX,SZ,SO,SW,SS⟩,by simp [intOf];omega⟩
    | (refine ⟨?_,by simp [intOf];omega⟩;(repeat apply Exists.intro);first | exact ⟨⟨k+1,Aa A5 (rs.length+1) c5,Bl,by go_num,S,SX,SZ,SO,SW,SS⟩,rfl⟩ | exact ⟨⟨k+1,Aa A5 (rs.length+1) c5,Bl,by go_num,S,SX,SZ,SO,SW,SS⟩,rfl,rfl⟩ | exact ⟨⟨k+1,Aa A5 (rs.length+1) c5,Bl,by go_num,S,SX,SZ,SO,SW,SS⟩,rfl,rfl,rfl⟩ | exact ⟨⟨k+1,Aa A5 (rs.length+1) c5,Bl,by go_num,S,SX,SZ,SO,SW,SS⟩,rfl,rfl,rfl,rfl⟩ | exact ⟨⟨k+1,Aa A5 (rs.length+1) c5,Bl,by go_num,S,SX,SZ,SO,SW,SS⟩,rfl,rfl,rfl,rfl,rfl⟩ | exact ⟨⟨k+1,Aa A5 (rs.length+1) c5,Bl,by go_num,S,SX,SZ,SO,SW,SS⟩,rfl,rfl,rfl,rfl,rfl,rfl⟩ | exact ⟨⟨k+1,Aa A5 (rs.length+1) c5,Bl,by go_num,S,SX,SZ,SO,SW,SS⟩,rfl,rfl,rfl,rfl,rfl,rfl,rfl⟩ | exact ⟨⟨k+1,Aa A5 (rs.length+1) c5,Bl,by go_num,S,SX,SZ,SO,SW,SS⟩,rfl,rfl,rfl,rfl,rfl,rfl,rfl,rfl⟩ | exact ⟨⟨k+1,Aa A5 (rs.length+1) c5,Bl,by go_num,S,SX,SZ,SO,SW,SS⟩,rfl,rfl,rfl,rfl,rfl,rfl,rfl,rfl,rfl⟩ | exact ⟨⟨k+1,Aa A5 (rs.length+1) c5,Bl,by go_num,S,SX,SZ,SO,SW,SS⟩,rfl,rfl,rfl,rfl,rfl,rfl,rfl,rfl,rfl,rfl⟩ | exact ⟨⟨k+1,Aa A5 (rs.length+1) c5,Bl,by go_num,S,SX,SZ,SO,SW,SS⟩,rfl,rfl,rfl,rfl,rfl,rfl,rfl,rfl,rfl,rfl,rfl⟩ | exact ⟨⟨k+1,Aa A5 (rs.length+1) c5,Bl,by go_num,S,SX,SZ,SO,SW,SS⟩,rfl,rfl,rfl,rfl,rfl,rfl,rfl,rfl,rfl,rfl,rfl,rfl⟩ | exact ⟨⟨k+1,Aa A5 (rs.length+1) c5,Bl,by go_num,S,SX,SZ,SO,SW,SS⟩,rfl,rfl,rfl,rfl,rfl,rfl,rfl,rfl,rfl,rfl,rfl,rfl,rfl⟩)
  ·have aB:¬ (k:Int)<(y.shelf.length:Int):=Bl;have bF:k=y.shelf.length:=Bl;obtain ⟨F1,⟨⟨A9,n9,c9⟩,rfl,OS⟩,nS⟩:∃ F1,(∃ s:Sl,v = Aa s.a s.n s.c/\OwL (Dt.list Bx) wr F1 s.v y.shelf) /\ ∀ b∈F1,w+3<=b:=by
    obtain ⟨rs,hm,hB⟩:=eF.out;rw [bF,List.take_length] at hm;obtain ⟨F,h1,h2⟩:=hB.owl hm;obtain ⟨A,c,rfl,_⟩:=h1.form;exact ⟨F,⟨⟨A,y.shelf.length,c⟩,rfl,h1⟩,h2⟩
   go_wp2;clear X_0 X_1 X_2 X_3 X_l O_0 O_1 O_2 O_3 O_l O_f aA aB bF hk eF;obtain ⟨ws,uW⟩:∃ ws,ws=wr:=⟨_,rfl⟩
   rw [<-uW] at hb X Z O OS bM ⊢;clear uW;have lS:∀ b∈F1,b<ws:=OS.lt;have hsw3:w.heap.size+3<=ws.heap.size:=bM;go_loopw [31] (fun i wr=>∃ (k:Nat) (v:Value),k<=y.runs.length/\i = J U k/\Hid (Bls Ce 167 wr ws v (y.runs.take k))/\Hid (OwL (Dt.list Bx) wr F1 (Aa A9 n9 c9) y.shelf)/\DBox w [J U y.now,J U y.seq,Aa A1 y.shelf.length c1,Aa A2 y.runs.length c2] wr/\DBox (w+1) [J U 0,J U 0,Aa Ab 0 0,Aa Ab 0 0] wr/\DBox (w+1+1) [J U y.now,J U y.seq,Aa A9 n9 c9,v] wr/\Below w w wr/\ws.heap.size<=wr.heap.size) (fun i _=>y.runs.length - (intOf i).toNat);case atStart=>exact ⟨0,_,Ag _,rfl,⟨[],rfl,Bld.nil _ _ _ _⟩,OS,X,Z,O,hb,Bs _⟩
   case round =>
    clear X Z O hb OS;obtain ⟨k,v,hk,rfl,eF,OS,X,Z,O,hb,kH⟩:=hrel;obtain ⟨X_0,X_1,X_2,X_3,X_l⟩:=X.g4;obtain ⟨O_0,O_1,O_2,O_3,O_l⟩:=O.g4;have O_f:=O.free;by_cases aA:k<y.runs.length
    ·have aB:(k:Int)<(y.runs.length:Int):=Bl;obtain ⟨b,o,⟨⟨A8,n8,c8⟩,⟨At,nt,ct⟩⟩,eN,aK,cM,e0,e1,e2,e3,e4,e5,e6,e7⟩:=(h2.below hb).run aA;subst eN;have bS:b<wr:=Ai aK hb.size;have HRr:=Bq (show ∀ W,Below wr wr W->Ce.rd W W y.runs[k] (⟨A8,n8,c8⟩,⟨At,nt,ct⟩) from fun W hW=>Ce.rd_more (Ce.rd_below (Ce.rd_more cM hb.size) hW) hW.size);have mY:=HC.out k aA;obtain ⟨rs,hm,hB⟩:=eF.out;have bG:rs.length=k:=by have:=congrArg List.length hm;simpa [Nat.min_eq_left hk] using this
     have hrl':rs.length<=2000000:=Bl;have Hrl:=Bq bG;clear bG;have hO:=hB.ow;have aC:v.ownBlock≠Ac (w.heap.size+1+1):=fun e=>by have:=hO.within _ e;omega
     have T:=DBox.new 167 [J U y.runs[k].id,J U y.runs[k].plan.prio,J U y.runs[k].plan.most,J U y.runs[k].plan.wait,J U y.runs[k].plan.tasks,Aa A8 n8 c8,J U y.runs[k].state,Aa At nt ct] wr rfl;have ha:=(Br wr wr).alloc (Bs _) (.cells #[J U y.runs[k].id,J U y.runs[k].plan.prio,J U y.runs[k].plan.most,J U y.runs[k].plan.wait,J U y.runs[k].plan.tasks,Aa A8 n8 c8,J U y.runs[k].state,Aa At nt ct] 167);go_wp2;generalize hW1:wr.alloc (.cells #[J U y.runs[k].id,J U y.runs[k].plan.prio,J U y.runs[k].plan.most,J U y.runs[k].plan.wait,J U y.runs[k].plan.tasks,Aa A8 n8 c8,J U y.runs[k].state,Aa At nt ct] 167)=w1 at *
     clear hW1 X_0 X_1 X_2 X_3 X_l O_0 O_1 O_2 O_3 O_l O_f e0 e1 e2 e3 e4 e5 e6 e7;have X1:=X.below ha;have O1:=O.below ha;have sa:=ha.size;have Tl:=T.lt;refine Db (fun w'=>w'.cell? ⟨w+1+1,3,Ab⟩=Ac v/\w'.cell? ⟨wr,0,Ab⟩=Ac (J U y.runs[k].id)/\w'.cell? ⟨wr,1,Ab⟩=Ac (J U y.runs[k].plan.prio)/\w'.cell? ⟨wr,2,Ab⟩=Ac (J U y.runs[k].plan.most)/\w'.cell? ⟨wr,3,Ab⟩=Ac (J U y.runs[k].plan.wait)/\w'.cell? ⟨wr,4,Ab⟩=Ac (J U y.runs[k].plan.tasks)/\w'.cell? ⟨wr,5,Ab⟩=Ac (Aa A8 n8 c8)/\w'.cell? ⟨wr,6,Ab⟩=Ac (J U y.runs[k].state)/\w'.cell? ⟨wr,7,Ab⟩=Ac (Aa At nt ct)) 7 Bm ?_ (fun hHeld=>?_)
     ·exact ⟨by simpa [go_sem] using O1.cell 3 _ rfl,by simpa [go_sem] using T.cell 0 _ rfl,by simpa [go_sem] using T.cell 1 _ rfl,by simpa [go_sem] using T.cell 2 _ rfl,by simpa [go_sem] using T.cell 3 _ rfl,by simpa [go_sem] using T.cell 4 _ rfl,by simpa [go_sem] using T.cell 5 _ rfl,by simpa [go_sem] using T.cell 6 _ rfl,by simpa [go_sem] using T.cell 7 _ rfl⟩
     refine aT 0 hHeld ?_;try simp only [pS]
     refine aT 1 hHeld ?_;try simp only [pS]
     refine aT 2 hHeld ?_;try simp only [pS]
     refine oT 3 (fun K hK=>?_)
     (go_simp;refine (Nx y.runs[k] (⟨A8,n8,c8⟩,⟨At,nt,ct⟩) _ mY (HRr.out _ ha.drew)).mono ?_;rintro e w2 ⟨s2,F2,rfl,o2,n2,b2⟩;have B12:=Bu ha (Bu ((Br w1 w1).drew) b2);have z2:=B12.size;simp only [World.size_drew] at n2;have O2:=O.below B12;have k0:w2.cell? ⟨w+1+1,3,Ab⟩=Ac v:=O2.cell 3 _ rfl;have X2:=X.below B12;have T2:=T.below (Bu ((Br w1 w1).drew) b2);have q0:w2.cell? ⟨wr,0,Ab⟩=Ac (J U y.runs[k].id):=T2.cell 0 _ rfl;have q1:w2.cell? ⟨wr,1,Ab⟩=Ac (J U y.runs[k].plan.prio):=T2.cell 1 _ rfl;have q2:w2.cell? ⟨wr,2,Ab⟩=Ac (J U y.runs[k].plan.most):=T2.cell 2 _ rfl;have q3:w2.cell? ⟨wr,3,Ab⟩=Ac (J U y.runs[k].plan.wait):=T2.cell 3 _ rfl;have q4:w2.cell? ⟨wr,4,Ab⟩=Ac (J U y.runs[k].plan.tasks):=T2.cell 4 _ rfl;have q5:w2.cell? ⟨wr,5,Ab⟩=Ac (Aa A8 n8 c8):=T2.cell 5 _ rfl;have q6:w2.cell? ⟨wr,6,Ab⟩=Ac (J U y.runs[k].state):=T2.cell 6 _ rfl;have q7:w2.cell? ⟨wr,7,Ab⟩=Ac (Aa At nt ct):=T2.cell 7 _ rfl;have d2f:=O2.free;have d2l:=O2.lt;go_simp)
     refine hK.out _ _ (fun _=>?_) ?_
     ·exact ⟨k0,q0,q1,q2,q3,q4,q5,q6,q7⟩
     clear hK K;try simp only [pS]
     refine oT 4 (fun K hK=>?_);go_simp;refine hK.out _ _ (fun _=>?_) ?_
     ·(refine ⟨?_,?_,?_,?_,?_,?_,?_,?_,?_⟩<;>first | assumption | go_keep)
     clear hK K;try simp only [pS]
     refine oT 5 (fun K hK=>?_)
     (refine Gj _ Ce.enc Bp (by rfl) (.tmp 36) (.tmp 39) (by rfl) underlying25 cJ jz0 jz1 jz2 (by rfl) (v:=v) (l:=rs) (by rfl) (hO.below (B12.alloc Bl _)) (by rfl) (Rd.one Ce.enc _ _ (y.runs[k],s2) Bn rfl 1 (Bs _) (Nat.lt_succ_self _)) Bl Bn Bp (by (try simp only [Bj]);omega) ?_;intro v5 w5 o5 g5 f5;obtain ⟨A5,c5,rfl,-⟩:=id (Rd.of_own o5);simp only [Bd,List.length_singleton] at o5 f5;have eC:=(Br w2 w2).alloc (Bs _) (.cells #[J U y.runs[k].id,J U y.runs[k].plan.prio,J U y.runs[k].plan.most,J U y.runs[k].plan.wait,J U y.runs[k].plan.tasks,Aa s2.1.a s2.1.n s2.1.c,J U y.runs[k].state,Aa s2.2.a s2.2.n s2.2.c] 167);have O5:=(O2.below eC).off g5 (fun e=>aC e.symm);have m0:w5.cell? ⟨w+1+1,3,Ab⟩=Ac v:=O5.cell 3 _ rfl;have X5:=(X2.below eC).off g5 (fun e=>by have:=hO.within _ e.symm;omega);have T5:=(T2.below eC).off g5 (fun e=>by have:=hO.within _ e.symm;omega);have r0:w5.cell? ⟨wr,0,Ab⟩=Ac (J U y.runs[k].id):=T5.cell 0 _ rfl;have r1:w5.cell? ⟨wr,1,Ab⟩=Ac (J U y.runs[k].plan.prio):=T5.cell 1 _ rfl;have r2:w5.cell? ⟨wr,2,Ab⟩=Ac (J U y.runs[k].plan.most):=T5.cell 2 _ rfl;have r3:w5.cell? ⟨wr,3,Ab⟩=Ac (J U y.runs[k].plan.wait):=T5.cell 3 _ rfl;have r4:w5.cell? ⟨wr,4,Ab⟩=Ac (J U y.runs[k].plan.tasks):=T5.cell 4 _ rfl;have r5:w5.cell? ⟨wr,5,Ab⟩=Ac (Aa A8 n8 c8):=T5.cell 5 _ rfl;have r6:w5.cell? ⟨wr,6,Ab⟩=Ac (J U y.runs[k].state):=T5.cell 6 _ rfl;have r7:w5.cell? ⟨wr,7,Ab⟩=Ac (Aa At nt ct):=T5.cell 7 _ rfl;have fO:=O5.free;have lO:=O5.lt)
     refine hK.out _ _ (fun _=>?_) ?_
     ·exact ⟨m0,r0,r1,r2,r3,r4,r5,r6,r7⟩
     clear hK K;try simp only [pS]
     refine oT 6 (fun K hK=>?_);go_simp;refine hK.out _ _ (fun _=>?_) ?_
     ·exact ⟨m0,r0,r1,r2,r3,r4,r5,r6,r7⟩
     clear hK K;try simp only [pS]
     refine oT 7 (fun K hK=>?_);go_simp;refine hK.out _ _ (fun aC=>absurd rfl aC) ?_;clear hK K;try simp only [pS]
     refine D6 Bm ?_ _;go_wp2;have Z5:=((Z.below B12).below eC).off g5 (fun e=>by have:=hO.within _ e.symm;omega);have OS5:=((OS.out.below B12).below eC).grown g5 (fun b aV e=>by have:=hO.within _ e;have:=lS b aV;omega);have hP:=Bld.push1 (d:=Ce) hB B12 o2 (fun b aV=>by have:=n2 b aV;omega) kH eC o5 g5 f5;have W5:=((hb.trans (B12.mono hb.size)).alloc Bl (.cells #[J U y.runs[k].id,J U y.runs[k].plan.prio,J U y.runs[k].plan.most,J U y.runs[k].plan.wait,J U y.runs[k].plan.tasks,Aa s2.1.a s2.1.n s2.1.c,J U y.runs[k].state,Aa s2.2.a s2.2.n s2.2.c] 167)).grown g5 (by (try simp only [Bj]);omega) (fun g hg=>by have:=hO.within g hg;omega);have S:Hid (Bls Ce 167 (w5.setCell ⟨w+1+1,3,Ab⟩ (Aa A5 (rs.length+1) c5)) ws (Aa A5 (rs.length+1) c5) (y.runs.take (k+1))):=⟨rs ++ [(y.runs[k],s2)],by rw [List.map_append,hm,Cp y.runs k aA];rfl,hP.setOther (a:=⟨w+1+1,3,Ab⟩) (by show w.heap.size+1+1<_;omega) _⟩
     have S2:Hid (OwL (Dt.list Bx) (w5.setCell ⟨w+1+1,3,Ab⟩ (Aa A5 (rs.length+1) c5)) F1 (Aa A9 n9 c9) y.shelf):=OwL.set OS5 (fun hm=>by have:_<=w.heap.size+1+1:=nS _ hm;omega) _;have g5s:=g5.size;simp only [Bj] at g5s;have SX:=X5.setOther (a:=⟨w+1+1,3,Ab⟩) (by show w.heap.size≠w.heap.size+1+1;omega) (Aa A5 (rs.length+1) c5);have SZ:=Z5.setOther (a:=⟨w+1+1,3,Ab⟩) (by show w.heap.size+1≠w.heap.size+1+1;omega) (Aa A5 (rs.length+1) c5);have SO:DBox (w+1+1) [J U y.now,J U y.seq,Aa A9 n9 c9,Aa A5 (rs.length+1) c5] (w5.setCell ⟨w+1+1,3,Ab⟩ (Aa A5 (rs.length+1) c5)):=O5.set 3 Bn _;have SW:Below w w (w5.setCell ⟨w+1+1,3,Ab⟩ (Aa A5 (rs.length+1) c5)):=W5.setCell (by show w.heap.size<=w.heap.size+1+1;omega) _;have SS:ws.heap.size<=(w5.setCell ⟨w+1+1,3,Ab⟩ (Aa A5 (rs.length+1) c5)).heap.size:=by simp [World.setCell];omega
     first
      | exact ⟨⟨k+1,Bl,Bn,Aa A5 (rs.length+1) c5,S,S2,SX,SZ,SO,SW,by simpa using SS⟩,by simp [intOf];omega⟩
      | exact ⟨⟨k+1,Aa A5 (rs.length+1) c5,Bl,by go_num,S,S2,SX,SZ,SO,SW,SS⟩,by simp [intOf];omega⟩
      | (refine ⟨?_,by simp [intOf];omega⟩;(repeat apply Exists.intro);first | exact ⟨⟨k+1,Aa A5 (rs.length+1) c5,Bl,by go_num,S,S2,SX,SZ,SO,SW,SS⟩,rfl⟩ | exact ⟨⟨k+1,Aa A5 (rs.length+1) c5,Bl,by go_num,S,S2,SX,SZ,SO,SW,SS⟩,rfl,rfl⟩ | exact ⟨⟨k+1,Aa A5 (rs.length+1) c5,Bl,by go_num,S,S2,SX,SZ,SO,SW,SS⟩,rfl,rfl,rfl⟩ | exact ⟨⟨k+1,Aa A5 (rs.length+1) c5,Bl,by go_num,S,S2,SX,SZ,SO,SW,SS⟩,rfl,rfl,rfl,rfl⟩ | exact ⟨⟨k+1,Aa A5 (rs.length+1) c5,Bl,by go_num,S,S2,SX,SZ,SO,SW,SS⟩,rfl,rfl,rfl,rfl,rfl⟩ | exact ⟨⟨k+1,Aa A5 (rs.length+1) c5,Bl,by go_num,S,S2,SX,SZ,SO,SW,SS⟩,rfl,rfl,rfl,rfl,rfl,rfl⟩ | exact ⟨⟨k+1,Aa A5 (rs.length+1) c5,Bl,by go_num,S,S2,SX,SZ,SO,SW,SS⟩,rfl,rfl,rfl,rfl,rfl,rfl,rfl⟩ | exact ⟨⟨k+1,Aa A5 (rs.length+1) c5,Bl,by go_num,S,S2,SX,SZ,SO,SW,SS⟩,rfl,rfl,rfl,rfl,rfl,rfl,rfl,rfl⟩ | exact ⟨⟨k+1,Aa A5 (rs.length+1) c5,Bl,by go_num,S,S2,SX,SZ,SO,SW,SS⟩,rfl,rfl,rfl,rfl,rfl,rfl,rfl,rfl,rfl⟩ | exact ⟨⟨k+1,Aa A5 (rs.length+1) c5,Bl,by go_num,S,S2,SX,SZ,SO,SW,SS⟩,rfl,rfl,rfl,rfl,rfl,rfl,rfl,rfl,rfl,rfl⟩ | exact ⟨⟨k+1,Aa A5 (rs.length+1) c5,Bl,by go_num,S,S2,SX,SZ,SO,SW,SS⟩,rfl,rfl,rfl,rfl,rfl,rfl,rfl,rfl,rfl,rfl,rfl⟩ | exact ⟨⟨k+1,Aa A5 (rs.length+1) c5,Bl,by go_num,S,S2,SX,SZ,SO,SW,SS⟩,rfl,rfl,rfl,rfl,rfl,rfl,rfl,rfl,rfl,rfl,rfl,rfl⟩ | exact ⟨⟨k+1,Aa A5 (rs.length+1) c5,Bl,by go_num,S,S2,SX,SZ,SO,SW,SS⟩,rfl,rfl,rfl,rfl,rfl,rfl,rfl,rfl,rfl,rfl,rfl,rfl,rfl⟩)
    ·have aB:¬ (k:Int)<(y.runs.length:Int):=Bl;have bF:k=y.runs.length:=Bl;obtain ⟨⟨A10,n10,c10⟩,rfl,OR⟩:∃ s:Sl,v = Aa s.a s.n s.c/\Bls Ce 167 wr ws s.v y.runs:=by
      obtain ⟨rs,hm,hB⟩:=eF.out;rw [bF,List.take_length] at hm;obtain ⟨A,c,rfl,_⟩:=hB.rd.form;exact ⟨⟨A,_,c⟩,rfl,rs,hm,hB⟩
     have hws3:=hsw3;have Z_f:=Z.free;obtain ⟨Z_0,Z_1,Z_2,Z_3,Z_l⟩:=Z.g4;go_wp2;refine bodyPost_ret (v:=Dm y (⟨A9,n9,c9⟩,⟨A10,n10,c10⟩)) ?_ rfl ?_
     ·simp [Dm,results,results74,go_sem,Z_0,Z_1,Z_2,Z_3]
     ·have OS1:=OS.out;refine ⟨⟨A9,n9,c9⟩,⟨A10,n10,c10⟩,F1,ws.heap.size,rfl,?_,fun b aV=>⟨by have:=nS b aV;omega,lS b aV⟩,Bl,?_,?_,?_⟩
      ·have hn:w.heap.size+1∉F1:=fun hm=>by have:=nS _ hm;omega
       show OwL (Dt.list Bx) _ F1 (Aa A9 n9 c9) y.shelf;repeat (first | (with_reducible exact OS1) | refine OwL.set ?_ hn _)
      ·simp [World.setCell];exact kH
      ·repeat (first | (with_reducible exact OR) | refine Bls.setOther ?_ (by show w.heap.size+1<ws.heap.size;omega) _)
      ·repeat (first | (with_reducible exact hb) | refine Ad ?_ (by first | (simp;done) | (simp;omega)) _)
theorem Ev (y:Yard) (s:Sl×Sl) (w:World) (hl:Ca y<=2000000) (h:Bv.rd w w y s) :
  Calls Am 74 #[Dm y s] w (Df Bv Dm y w):=(Kn y s w hl h).mono fun _ _ h=>h.own
theorem M4 (y:Yard) (s:Sl×Sl) (w:World) (hl:Ca y<=2000000) (h:Bv.rd w w y s) :
  Calls Am 75 #[Dm y s] w (CopyYPost y w):=by
 obtain ⟨⟨A1,n1,c1⟩,⟨A2,n2,c2⟩⟩:=s;obtain rfl:n1=y.shelf.length:=RdL.at1 (s:=⟨A1,n1,c1⟩) h.1;obtain rfl:n2=y.runs.length:=RdL.at1 (s:=⟨A2,n2,c2⟩) h.2;have h1:RdL (Dt.list Bx) w w (Aa A1 y.shelf.length c1) y.shelf:=h.1;have h2:RdL Ce w w (Aa A2 y.runs.length c2) y.runs:=h.2;have bZ:y.runs.length<=2000000:=Ah (Cj Cn _) (by unfold Ca at hl;omega);have hls:y.shelf.length<=2000000:=Ah (Cj Cl _) (by unfold Ca at hl;omega);have HE:=Bq (show ∀ k (hk:k<y.shelf.length),y.shelf[k].length<=2000000 from fun k hk=>by
  have:=C9 (cnt:=Cl) (Aw hk)
  have h2:y.shelf[k].length<=Cl y.shelf[k]:=Cj Dw _;unfold Ca at hl;omega)
 have HC:=Bq (show ∀ k (hk:k<y.runs.length),Cn y.runs[k]<=2000000 from fun k hk=>by
  have:=C9 (cnt:=Cn) (Aw hk)
  unfold Ca at hl;omega)
 clear h;obtain ⟨W,aH,X,Z,O,B0⟩:=bx3 w 27 [J U y.now,J U y.seq,Aa A1 y.shelf.length c1,Aa A2 y.runs.length c2] 27 [J U 0,J U 0,Aa Ab 0 0,Aa Ab 0 0] 27 [J U y.now,J U y.seq,Aa Ab 0 0,Aa Ab 0 0];obtain ⟨i0,aR,aX,aW,aU⟩:=info_parts Nf;obtain ⟨e0,he0,ez0,ez1,ez2⟩:=info_parts Gg;obtain ⟨j0,cJ,jz0,jz1,jz2⟩:=info_parts Kf;go_enter func75,ntmps75;go_wp2;rw [<-aH.out];clear aH;have qS:w.heap.size+3<=W.heap.size:=O.lt;go_loopw [4] (fun i wr=>∃ (k:Nat) (v:Value),k<=y.shelf.length/\i = J U k/\Hid (Bls (Dt.list Bx) 122 wr (w+3) v (y.shelf.take k))/\DBox w [J U y.now,J U y.seq,Aa A1 y.shelf.length c1,Aa A2 y.runs.length c2] wr/\DBox (w+1) [J U 0,J U 0,Aa Ab 0 0,Aa Ab 0 0] wr/\DBox (w+1+1) [J U y.now,J U y.seq,v,Aa Ab 0 0] wr/\Below w w wr/\w.heap.size+3<=wr.heap.size) (fun i _=>y.shelf.length - (intOf i).toNat);case atStart=>exact ⟨0,_,Ag _,rfl,⟨[],rfl,Bld.nil _ _ _ _⟩,X,Z,O,B0,qS⟩
 case round =>
  clear X Z O B0 qS;obtain ⟨k,v,hk,rfl,eF,X,Z,O,hb,bM⟩:=hrel;obtain ⟨X_0,X_1,X_2,X_3,X_l⟩:=X.g4;obtain ⟨O_0,O_1,O_2,O_3,O_l⟩:=O.g4;have O_f:=O.free;by_cases aA:k<y.shelf.length
  ·have aB:(k:Int)<(y.shelf.length:Int):=Bl;obtain ⟨b,o,⟨As,ns,cs⟩,mM,aK,hr,d0⟩:=(h1.below hb).entryS aA;obtain rfl:ns=y.shelf[k].length:=RdL.at1 (s:=⟨As,ns,cs⟩) hr;subst mM;have bS:b<wr:=Ai aK hb.size;have hez:=HE.out k aA;obtain ⟨rs,hm,hB⟩:=eF.out;have bG:rs.length=k:=by have:=congrArg List.length hm;simpa [Nat.min_eq_left hk] using this
   have hrl':rs.length<=2000000:=Bl;have Hrl:=Bq bG;clear bG;have hO:=hB.ow;have aC:v.ownBlock≠Ac (w.heap.size+1+1):=fun e=>by have:=hO.within _ e;omega
   have cM:=Bq (show ∀ W,Below wr wr W->RdL Bx W W (Sl.v ⟨As,y.shelf[k].length,cs⟩) y.shelf[k] from fun W hW=>RdL.more (RdL.below (RdL.more hr hb.size) hW) hW.size);go_wp2;refine Db (fun w'=>w'.cell? ⟨w+1+1,2,Ab⟩=Ac v/\w'.cell? ⟨w,2,Ab⟩=Ac (Aa (Ac ⟨b,o,Ab⟩) y.shelf.length c1)/\w'.cell? ⟨b,o+k,Ab⟩=Ac (Aa As y.shelf[k].length cs)) 12 Bm ?_ (fun hHeld=>?_)
   ·exact ⟨by simpa [go_sem] using O_2,by simpa [go_sem] using X_2,by simpa [go_sem] using d0⟩
   refine aT 0 hHeld ?_;try simp only [pS]
   refine aT 1 hHeld ?_;try simp only [pS]
   refine aT 3 hHeld ?_;try simp only [pS]
   refine aT 4 hHeld ?_;try simp only [pS]
   refine aT 5 hHeld ?_;try simp only [pS]
   refine aT 6 hHeld ?_;try simp only [pS]
   refine aT 7 hHeld ?_;try simp only [pS]
   refine oT 2 (fun K hK=>?_);go_simp;refine hK.out _ _ (fun _=>?_) ?_
   ·(refine ⟨?_,?_,?_⟩<;>first | assumption | go_keep)
   clear hK K;try simp only [pS]
   refine oT 8 (fun K hK=>?_)
   (refine Gj _ Cy Bp (by rfl) (.tmp 20) (.tmp 25) (by rfl) underlying122 he0 ez0 ez1 ez2 (by rfl) (v:=Aa (Ac ⟨wr,0,Ab⟩) 0 0) (l:=[]) (by rfl) (Ow.empty Cy 163 wr.drew (g:=wr) Bn) (by rfl) (Jm (cM.out _ ((Br wr wr).drew.alloc Bn _))) Bn Bl Bp Bn ?_;intro v2 w2 o2' g2 f2;rw [List.nil_append] at o2';have B12:Below wr wr w2:=(((Br wr wr).drew.alloc Bn _).grown g2 Bn (fun g hg=>by simp [Value.ownBlock] at hg;omega));obtain ⟨s2,F2,rfl,o2,n2⟩:=Hr o2';have O2:=O.below B12;have X2:=X.below B12;have k0:w2.cell? ⟨w+1+1,2,Ab⟩=Ac v:=O2.cell 2 _ rfl;have k1:w2.cell? ⟨w,2,Ab⟩=Ac (Aa (Ac ⟨b,o,Ab⟩) y.shelf.length c1):=X2.cell 2 _ rfl;have k2:w2.cell? ⟨b,o+k,Ab⟩=Ac (Aa As y.shelf[k].length cs):=(B12.cell (p:=⟨b,o+k,Ab⟩) bS).trans d0;have z2:=B12.size;have d2f:=O2.free;have d2l:=O2.lt)
   refine hK.out _ _ (fun _=>?_) ?_
   ·exact ⟨k0,k1,k2⟩
   clear hK K;try simp only [pS]
   refine oT 9 (fun K hK=>?_);go_simp;refine hK.out _ _ (fun _=>?_) ?_
   ·(refine ⟨?_,?_,?_⟩<;>first | assumption | go_keep)
   clear hK K;try simp only [pS]
   refine oT 10 (fun K hK=>?_)
   (refine Gj _ (Dt.list Bx).enc Bp (by rfl) (.tmp 19) (.tmp 27) (by rfl) underlying24 aR aX aW aU (by rfl) (v:=v) (l:=rs) (by rfl) (hO.below (B12.alloc Bl _)) (by rfl) (Rd.one (Dt.list Bx).enc _ _ (y.shelf[k],s2) Bn rfl 1 (Bs _) (Nat.lt_succ_self _)) Bl Bn Bp (by (try simp only [Bj]);omega) ?_;intro v5 w5 o5 g5 f5;obtain ⟨A5,c5,rfl,-⟩:=id (Rd.of_own o5);simp only [Bd,List.length_singleton] at o5 f5;have eC:=(Br w2 w2).alloc (Bs _) (.cells #[Aa s2.a s2.n s2.c] 122);have O5:=(O2.below eC).off g5 (fun e=>aC e.symm);have m0:w5.cell? ⟨w+1+1,2,Ab⟩=Ac v:=O5.cell 2 _ rfl;have X5:=(X2.below eC).off g5 (fun e=>by have:=hO.within _ e.symm;omega);have m1:w5.cell? ⟨w,2,Ab⟩=Ac (Aa (Ac ⟨b,o,Ab⟩) y.shelf.length c1):=X5.cell 2 _ rfl;have m2:w5.cell? ⟨b,o+k,Ab⟩=Ac (Aa As y.shelf[k].length cs):=(g5.cell_far ⟨b,o+k,Ab⟩ (by simp;omega) (fun e=>by have:_<=b/\b<_:=hO.within _ e.symm;omega)).trans ((eC.cell (p:=⟨b,o+k,Ab⟩) (by show b<_;omega)).trans k2);have fO:=O5.free;have lO:=O5.lt)
   refine hK.out _ _ (fun _=>?_) ?_
   ·exact ⟨m0,m1,m2⟩
   clear hK K;try simp only [pS]
   refine oT 11 (fun K hK=>?_);go_simp;refine hK.out _ _ (fun _=>?_) ?_
   ·exact ⟨m0,m1,m2⟩
   clear hK K;try simp only [pS]
   refine oT 12 (fun K hK=>?_);go_simp;refine hK.out _ _ (fun aC=>absurd rfl aC) ?_;clear hK K;try simp only [pS]
   refine D6 Bm ?_ _;go_wp2;have Z5:=((Z.below B12).below eC).off g5 (fun e=>by have:=hO.within _ e.symm;omega);have hP:=Bld.push1 (d:=Dt.list Bx) hB B12 o2 (fun b aV=>by have:=n2 b aV;omega) bM eC o5 g5 f5;have W5:=((hb.trans (B12.mono hb.size)).alloc Bl (.cells #[Aa s2.a s2.n s2.c] 122)).grown g5 (by (try simp only [Bj]);omega) (fun g hg=>by have:=hO.within g hg;omega);have S:Hid (Bls (Dt.list Bx) 122 (w5.setCell ⟨w+1+1,2,Ab⟩ (Aa A5 (rs.length+1) c5)) (w+3) (Aa A5 (rs.length+1) c5) (y.shelf.take (k+1))):=⟨rs ++ [(y.shelf[k],s2)],by rw [List.map_append,hm,Cp y.shelf k aA];rfl,hP.setOther (a:=⟨w+1+1,2,Ab⟩) (by show w.heap.size+1+1<_;omega) _⟩
   have g5s:=g5.size;simp only [Bj] at g5s;have SX:=X5.setOther (a:=⟨w+1+1,2,Ab⟩) (by show w.heap.size≠w.heap.size+1+1;omega) (Aa A5 (rs.length+1) c5);have SZ:=Z5.setOther (a:=⟨w+1+1,2,Ab⟩) (by show w.heap.size+1≠w.heap.size+1+1;omega) (Aa A5 (rs.length+1) c5);have SO:DBox (w+1+1) [J U y.now,J U y.seq,Aa A5 (rs.length+1) c5,Aa Ab 0 0] (w5.setCell ⟨w+1+1,2,Ab⟩ (Aa A5 (rs.length+1) c5)):=O5.set 2 Bn _;have SW:Below w w (w5.setCell ⟨w+1+1,2,Ab⟩ (Aa A5 (rs.length+1) c5)):=W5.setCell (by show w.heap.size<=w.heap.size+1+1;omega) _;have SS:w.heap.size+3<=(w5.setCell ⟨w+1+1,2,Ab⟩ (Aa A5 (rs.length+1) c5)).heap.size:=by simp [World.setCell];omega
   first
    | exact ⟨⟨k+1,Bl,Bn,Aa A5 (rs.length+1) c5,S,SX,SZ,SO,SW,by simpa using SS⟩,by simp [intOf];omega⟩
    | exact ⟨⟨k+1,Aa A5 (rs.length+1) c5,Bl,by go_num,S,SX,SZ,SO,SW,SS⟩,by simp [intOf];omega⟩
    | (refine ⟨?_,by simp [intOf];omega⟩;(repeat apply Exists.intro);first | exact ⟨⟨k+1,Aa A5 (rs.length+1) c5,Bl,by go_num,S,SX,SZ,SO,SW,SS⟩,rfl⟩ | exact ⟨⟨k+1,Aa A5 (rs.length+1) c5,Bl,by go_num,S,SX,SZ,SO,SW,SS⟩,rfl,rfl⟩ | exact ⟨⟨k+1,Aa A5 (rs.length+1) c5,Bl,by go_num,S,SX,SZ,SO,SW,SS⟩,rfl,rfl,rfl⟩ | exact ⟨⟨k+1,Aa A5 (rs.length+1) c5,Bl,by go_num,S,SX,SZ,SO,SW,SS⟩,rfl,rfl,rfl,rfl⟩ | exact ⟨⟨k+1,Aa A5 (rs.length+1) c5,Bl,by go_num,S,SX,SZ,SO,SW,SS⟩,rfl,rfl,rfl,rfl,rfl⟩ | exact ⟨⟨k+1,Aa A5 (rs.length+1) c5,Bl,by go_num,S,SX,SZ,SO,SW,SS⟩,rfl,rfl,rfl,rfl,rfl,rfl⟩ | exact ⟨⟨k+1,Aa A5 (rs.length+1) c5,Bl,by go_num,S,SX,SZ,SO,SW,SS⟩,rfl,rfl,rfl,rfl,rfl,rfl,rfl⟩ | exact ⟨⟨k+1,Aa A5 (rs.length+1) c5,Bl,by go_num,S,SX,SZ,SO,SW,SS⟩,rfl,rfl,rfl,rfl,rfl,rfl,rfl,rfl⟩ | exact ⟨⟨k+1,Aa A5 (rs.length+1) c5,Bl,by go_num,S,SX,SZ,SO,SW,SS⟩,rfl,rfl,rfl,rfl,rfl,rfl,rfl,rfl,rfl⟩ | exact ⟨⟨k+1,Aa A5 (rs.length+1) c5,Bl,by go_num,S,SX,SZ,SO,SW,SS⟩,rfl,rfl,rfl,rfl,rfl,rfl,rfl,rfl,rfl,rfl⟩ | exact ⟨⟨k+1,Aa A5 (rs.length+1) c5,Bl,by go_num,S,SX,SZ,SO,SW,SS⟩,rfl,rfl,rfl,rfl,rfl,rfl,rfl,rfl,rfl,rfl,rfl⟩ | exact ⟨⟨k+1,Aa A5 (rs.length+1) c5,Bl,by go_num,S,SX,SZ,SO,SW,SS⟩,rfl,rfl,rfl,rfl,rfl,rfl,rfl,rfl,rfl,rfl,rfl,rfl⟩ | exact ⟨⟨k+1,Aa A5 (rs.length+1) c5,Bl,by go_num,S,SX,SZ,SO,SW,SS⟩,rfl,rfl,rfl,rfl,rfl,rfl,rfl,rfl,rfl,rfl,rfl,rfl,rfl⟩)
  ·have aB:¬ (k:Int)<(y.shelf.length:Int):=Bl;have bF:k=y.shelf.length:=Bl;obtain ⟨F1,⟨⟨A9,n9,c9⟩,rfl,OS⟩,nS⟩:∃ F1,(∃ s:Sl,v = Aa s.a s.n s.c/\OwL (Dt.list Bx) wr F1 s.v y.shelf) /\ ∀ b∈F1,w+3<=b:=by
    obtain ⟨rs,hm,hB⟩:=eF.out;rw [bF,List.take_length] at hm;obtain ⟨F,h1,h2⟩:=hB.owl hm;obtain ⟨A,c,rfl,_⟩:=h1.form;exact ⟨F,⟨⟨A,y.shelf.length,c⟩,rfl,h1⟩,h2⟩
   go_wp2;clear X_0 X_1 X_2 X_3 X_l O_0 O_1 O_2 O_3 O_l O_f aA aB bF hk eF;obtain ⟨ws,uW⟩:∃ ws,ws=wr:=⟨_,rfl⟩
   rw [<-uW] at hb X Z O OS bM ⊢;clear uW;have lS:∀ b∈F1,b<ws:=OS.lt;have hsw3:w.heap.size+3<=ws.heap.size:=bM;go_loopw [5] (fun i wr=>∃ (k:Nat) (v:Value),k<=y.runs.length/\i = J U k/\Hid (Bls Ce 167 wr ws v (y.runs.take k))/\Hid (OwL (Dt.list Bx) wr F1 (Aa A9 n9 c9) y.shelf)/\DBox w [J U y.now,J U y.seq,Aa A1 y.shelf.length c1,Aa A2 y.runs.length c2] wr/\DBox (w+1) [J U 0,J U 0,Aa Ab 0 0,Aa Ab 0 0] wr/\DBox (w+1+1) [J U y.now,J U y.seq,Aa A9 n9 c9,v] wr/\Below w w wr/\ws.heap.size<=wr.heap.size) (fun i _=>y.runs.length - (intOf i).toNat);case atStart=>exact ⟨0,_,Ag _,rfl,⟨[],rfl,Bld.nil _ _ _ _⟩,OS,X,Z,O,hb,Bs _⟩
   case round =>
    clear X Z O hb OS;obtain ⟨k,v,hk,rfl,eF,OS,X,Z,O,hb,kH⟩:=hrel;obtain ⟨X_0,X_1,X_2,X_3,X_l⟩:=X.g4;obtain ⟨O_0,O_1,O_2,O_3,O_l⟩:=O.g4;have O_f:=O.free;by_cases aA:k<y.runs.length
    ·have aB:(k:Int)<(y.runs.length:Int):=Bl;obtain ⟨b,o,⟨⟨A8,n8,c8⟩,⟨At,nt,ct⟩⟩,eN,aK,cM,e0,e1,e2,e3,e4,e5,e6,e7⟩:=(h2.below hb).run aA;subst eN;have bS:b<wr:=Ai aK hb.size;have HRr:=Bq (show ∀ W,Below wr wr W->Ce.rd W W y.runs[k] (⟨A8,n8,c8⟩,⟨At,nt,ct⟩) from fun W hW=>Ce.rd_more (Ce.rd_below (Ce.rd_more cM hb.size) hW) hW.size);have mY:=HC.out k aA;obtain ⟨rs,hm,hB⟩:=eF.out;have bG:rs.length=k:=by have:=congrArg List.length hm;simpa [Nat.min_eq_left hk] using this
     have hrl':rs.length<=2000000:=Bl;have Hrl:=Bq bG;clear bG;have hO:=hB.ow;have aC:v.ownBlock≠Ac (w.heap.size+1+1):=fun e=>by have:=hO.within _ e;omega
     go_wp2;refine Db (fun w'=>w'.cell? ⟨w+1+1,3,Ab⟩=Ac v/\w'.cell? ⟨w,3,Ab⟩=Ac (Aa (Ac ⟨b,o,Ab⟩) y.runs.length c2)/\w'.cell? ⟨b,o+k * 8,Ab⟩=Ac (J U y.runs[k].id)/\w'.cell? ⟨b,o+k * 8+1,Ab⟩=Ac (J U y.runs[k].plan.prio)/\w'.cell? ⟨b,o+k * 8+2,Ab⟩=Ac (J U y.runs[k].plan.most)/\w'.cell? ⟨b,o+k * 8+3,Ab⟩=Ac (J U y.runs[k].plan.wait)/\w'.cell? ⟨b,o+k * 8+4,Ab⟩=Ac (J U y.runs[k].plan.tasks)/\w'.cell? ⟨b,o+k * 8+5,Ab⟩=Ac (Aa A8 n8 c8)/\w'.cell? ⟨b,o+k * 8+6,Ab⟩=Ac (J U y.runs[k].state)/\w'.cell? ⟨b,o+k * 8+7,Ab⟩=Ac (Aa At nt ct)) 11 Bm ?_ (fun hHeld=>?_)
     ·exact ⟨by simpa [go_sem] using O_3,by simpa [go_sem] using X_3,by simpa [go_sem] using e0,by simpa [go_sem] using e1,by simpa [go_sem] using e2,by simpa [go_sem] using e3,by simpa [go_sem] using e4,by simpa [go_sem] using e5,by simpa [go_sem] using e6,by simpa [go_sem] using e7⟩
     refine aT 0 hHeld ?_;try simp only [pS]
     refine aT 1 hHeld ?_;try simp only [pS]
     refine aT 2 hHeld ?_;try simp only [pS]
     refine aT 3 hHeld ?_;try simp only [pS]
     refine aT 4 hHeld ?_;try simp only [pS]
     refine aT 5 hHeld ?_;try simp only [pS]
     refine aT 6 hHeld ?_;try simp only [pS]
     refine oT 7 (fun K hK=>?_)
     (go_simp;refine (Ih y.runs[k] (⟨A8,n8,c8⟩,⟨At,nt,ct⟩) _ mY (HRr.out _ (Br _ _).drew)).mono ?_;rintro e w2 ⟨s2,F2,rfl,o2,n2,b2⟩;have B12:=Bu ((Br wr wr).drew) b2;have z2:=B12.size;simp only [World.size_drew] at n2;have O2:=O.below B12;have k0:w2.cell? ⟨w+1+1,3,Ab⟩=Ac v:=O2.cell 3 _ rfl;have X2:=X.below B12;have k1:w2.cell? ⟨w,3,Ab⟩=Ac (Aa (Ac ⟨b,o,Ab⟩) y.runs.length c2):=X2.cell 3 _ rfl;have q0:w2.cell? ⟨b,o+k * 8,Ab⟩=Ac (J U y.runs[k].id):=(B12.cell (p:=⟨b,o+k * 8,Ab⟩) bS).trans e0;have q1:w2.cell? ⟨b,o+k * 8+1,Ab⟩=Ac (J U y.runs[k].plan.prio):=(B12.cell (p:=⟨b,o+k * 8+1,Ab⟩) bS).trans e1;have q2:w2.cell? ⟨b,o+k * 8+2,Ab⟩=Ac (J U y.runs[k].plan.most):=(B12.cell (p:=⟨b,o+k * 8+2,Ab⟩) bS).trans e2;have q3:w2.cell? ⟨b,o+k * 8+3,Ab⟩=Ac (J U y.runs[k].plan.wait):=(B12.cell (p:=⟨b,o+k * 8+3,Ab⟩) bS).trans e3;have q4:w2.cell? ⟨b,o+k * 8+4,Ab⟩=Ac (J U y.runs[k].plan.tasks):=(B12.cell (p:=⟨b,o+k * 8+4,Ab⟩) bS).trans e4;have q5:w2.cell? ⟨b,o+k * 8+5,Ab⟩=Ac (Aa A8 n8 c8):=(B12.cell (p:=⟨b,o+k * 8+5,Ab⟩) bS).trans e5;have q6:w2.cell? ⟨b,o+k * 8+6,Ab⟩=Ac (J U y.runs[k].state):=(B12.cell (p:=⟨b,o+k * 8+6,Ab⟩) bS).trans e6;have q7:w2.cell? ⟨b,o+k * 8+7,Ab⟩=Ac (Aa At nt ct):=(B12.cell (p:=⟨b,o+k * 8+7,Ab⟩) bS).trans e7;have d2f:=O2.free;have d2l:=O2.lt;go_simp)
     refine hK.out _ _ (fun _=>?_) ?_
     ·exact ⟨k0,k1,q0,q1,q2,q3,q4,q5,q6,q7⟩
     clear hK K;try simp only [pS]
     refine oT 8 (fun K hK=>?_);go_simp;refine hK.out _ _ (fun _=>?_) ?_
     ·(refine ⟨?_,?_,?_,?_,?_,?_,?_,?_,?_,?_⟩<;>first | assumption | go_keep)
     clear hK K;try simp only [pS]
     refine oT 9 (fun K hK=>?_)
     (refine Gj _ Ce.enc Bp (by rfl) (.tmp 38) (.tmp 45) (by rfl) underlying25 cJ jz0 jz1 jz2 (by rfl) (v:=v) (l:=rs) (by rfl) (hO.below (B12.alloc Bl _)) (by rfl) (Rd.one Ce.enc _ _ (y.runs[k],s2) Bn rfl 1 (Bs _) (Nat.lt_succ_self _)) Bl Bn Bp (by (try simp only [Bj]);omega) ?_;intro v5 w5 o5 g5 f5;obtain ⟨A5,c5,rfl,-⟩:=id (Rd.of_own o5);simp only [Bd,List.length_singleton] at o5 f5;have eC:=(Br w2 w2).alloc (Bs _) (.cells #[J U y.runs[k].id,J U y.runs[k].plan.prio,J U y.runs[k].plan.most,J U y.runs[k].plan.wait,J U y.runs[k].plan.tasks,Aa s2.1.a s2.1.n s2.1.c,J U y.runs[k].state,Aa s2.2.a s2.2.n s2.2.c] 167);have O5:=(O2.below eC).off g5 (fun e=>aC e.symm);have m0:w5.cell? ⟨w+1+1,3,Ab⟩=Ac v:=O5.cell 3 _ rfl;have X5:=(X2.below eC).off g5 (fun e=>by have:=hO.within _ e.symm;omega);have m1:w5.cell? ⟨w,3,Ab⟩=Ac (Aa (Ac ⟨b,o,Ab⟩) y.runs.length c2):=X5.cell 3 _ rfl;have r0:w5.cell? ⟨b,o+k * 8,Ab⟩=Ac (J U y.runs[k].id):=(g5.cell_far ⟨b,o+k * 8,Ab⟩ (by simp;omega) (fun e=>by have:_<=b/\b<_:=hO.within _ e.symm;omega)).trans ((eC.cell (p:=⟨b,o+k * 8,Ab⟩) (by show b<_;omega)).trans q0);have r1:w5.cell? ⟨b,o+k * 8+1,Ab⟩=Ac (J U y.runs[k].plan.prio):=(g5.cell_far ⟨b,o+k * 8+1,Ab⟩ (by simp;omega) (fun e=>by have:_<=b/\b<_:=hO.within _ e.symm;omega)).trans ((eC.cell (p:=⟨b,o+k * 8+1,Ab⟩) (by show b<_;omega)).trans q1);have r2:w5.cell? ⟨b,o+k * 8+2,Ab⟩=Ac (J U y.runs[k].plan.most):=(g5.cell_far ⟨b,o+k * 8+2,Ab⟩ (by simp;omega) (fun e=>by have:_<=b/\b<_:=hO.within _ e.symm;omega)).trans ((eC.cell (p:=⟨b,o+k * 8+2,Ab⟩) (by show b<_;omega)).trans q2);have r3:w5.cell? ⟨b,o+k * 8+3,Ab⟩=Ac (J U y.runs[k].plan.wait):=(g5.cell_far ⟨b,o+k * 8+3,Ab⟩ (by simp;omega) (fun e=>by have:_<=b/\b<_:=hO.within _ e.symm;omega)).trans ((eC.cell (p:=⟨b,o+k * 8+3,Ab⟩) (by show b<_;omega)).trans q3);have r4:w5.cell? ⟨b,o+k * 8+4,Ab⟩=Ac (J U y.runs[k].plan.tasks):=(g5.cell_far ⟨b,o+k * 8+4,Ab⟩ (by simp;omega) (fun e=>by have:_<=b/\b<_:=hO.within _ e.symm;omega)).trans ((eC.cell (p:=⟨b,o+k * 8+4,Ab⟩) (by show b<_;omega)).trans q4);have r5:w5.cell? ⟨b,o+k * 8+5,Ab⟩=Ac (Aa A8 n8 c8):=(g5.cell_far ⟨b,o+k * 8+5,Ab⟩ (by simp;omega) (fun e=>by have:_<=b/\b<_:=hO.within _ e.symm;omega)).trans ((eC.cell (p:=⟨b,o+k * 8+5,Ab⟩) (by show b<_;omega)).trans q5);have r6:w5.cell? ⟨b,o+k * 8+6,Ab⟩=Ac (J U y.runs[k].state):=(g5.cell_far ⟨b,o+k * 8+6,Ab⟩ (by simp;omega) (fun e=>by have:_<=b/\b<_:=hO.within _ e.symm;omega)).trans ((eC.cell (p:=⟨b,o+k * 8+6,Ab⟩) (by show b<_;omega)).trans q6);have r7:w5.cell? ⟨b,o+k * 8+7,Ab⟩=Ac (Aa At nt ct):=(g5.cell_far ⟨b,o+k * 8+7,Ab⟩ (by simp;omega) (fun e=>by have:_<=b/\b<_:=hO.within _ e.symm;omega)).trans ((eC.cell (p:=⟨b,o+k * 8+7,Ab⟩) (by show b<_;omega)).trans q7);have fO:=O5.free;have lO:=O5.lt)
     refine hK.out _ _ (fun _=>?_) ?_
     ·exact ⟨m0,m1,r0,r1,r2,r3,r4,r5,r6,r7⟩
     clear hK K;try simp only [pS]
     refine oT 10 (fun K hK=>?_);go_simp;refine hK.out _ _ (fun _=>?_) ?_
     ·exact ⟨m0,m1,r0,r1,r2,r3,r4,r5,r6,r7⟩
     clear hK K;try simp only [pS]
     refine oT 11 (fun K hK=>?_);go_simp;refine hK.out _ _ (fun aC=>absurd rfl aC) ?_;clear hK K;try simp only [pS]
     refine D6 Bm ?_ _;go_wp2;have Z5:=((Z.below B12).below eC).off g5 (fun e=>by have:=hO.within _ e.symm;omega);have OS5:=((OS.out.below B12).below eC).grown g5 (fun b aV e=>by have:=hO.within _ e;have:=lS b aV;omega);have hP:=Bld.push1 (d:=Ce) hB B12 o2 (fun b aV=>by have:=n2 b aV;omega) kH eC o5 g5 f5;have W5:=((hb.trans (B12.mono hb.size)).alloc Bl (.cells #[J U y.runs[k].id,J U y.runs[k].plan.prio,J U y.runs[k].plan.most,J U y.runs[k].plan.wait,J U y.runs[k].plan.tasks,Aa s2.1.a s2.1.n s2.1.c,J U y.runs[k].state,Aa s2.2.a s2.2.n s2.2.c] 167)).grown g5 (by (try simp only [Bj]);omega) (fun g hg=>by have:=hO.within g hg;omega);have S:Hid (Bls Ce 167 (w5.setCell ⟨w+1+1,3,Ab⟩ (Aa A5 (rs.length+1) c5)) ws (Aa A5 (rs.length+1) c5) (y.runs.take (k+1))):=⟨rs ++ [(y.runs[k],s2)],by rw [List.map_append,hm,Cp y.runs k aA];rfl,hP.setOther (a:=⟨w+1+1,3,Ab⟩) (by show w.heap.size+1+1<_;omega) _⟩
     have S2:Hid (OwL (Dt.list Bx) (w5.setCell ⟨w+1+1,3,Ab⟩ (Aa A5 (rs.length+1) c5)) F1 (Aa A9 n9 c9) y.shelf):=OwL.set OS5 (fun hm=>by have:_<=w.heap.size+1+1:=nS _ hm;omega) _;have g5s:=g5.size;simp only [Bj] at g5s;have SX:=X5.setOther (a:=⟨w+1+1,3,Ab⟩) (by show w.heap.size≠w.heap.size+1+1;omega) (Aa A5 (rs.length+1) c5);have SZ:=Z5.setOther (a:=⟨w+1+1,3,Ab⟩) (by show w.heap.size+1≠w.heap.size+1+1;omega) (Aa A5 (rs.length+1) c5);have SO:DBox (w+1+1) [J U y.now,J U y.seq,Aa A9 n9 c9,Aa A5 (rs.length+1) c5] (w5.setCell ⟨w+1+1,3,Ab⟩ (Aa A5 (rs.length+1) c5)):=O5.set 3 Bn _;have SW:Below w w (w5.setCell ⟨w+1+1,3,Ab⟩ (Aa A5 (rs.length+1) c5)):=W5.setCell (by show w.heap.size<=w.heap.size+1+1;omega) _;have SS:ws.heap.size<=(w5.setCell ⟨w+1+1,3,Ab⟩ (Aa A5 (rs.length+1) c5)).heap.size:=by simp [World.setCell];omega
     first
      | exact ⟨⟨k+1,Bl,Bn,Aa A5 (rs.length+1) c5,S,S2,SX,SZ,SO,SW,by simpa using SS⟩,by simp [intOf];omega⟩
      | exact ⟨⟨k+1,Aa A5 (rs.length+1) c5,Bl,by go_num,S,S2,SX,SZ,SO,SW,SS⟩,by simp [intOf];omega⟩
      | (refine ⟨?_,by simp [intOf];omega⟩;(repeat apply Exists.intro);first | exact ⟨⟨k+1,Aa A5 (rs.length+1) c5,Bl,by go_num,S,S2,SX,SZ,SO,SW,SS⟩,rfl⟩ | exact ⟨⟨k+1,Aa A5 (rs.length+1) c5,Bl,by go_num,S,S2,SX,SZ,SO,SW,SS⟩,rfl,rfl⟩ | exact ⟨⟨k+1,Aa A5 (rs.length+1) c5,Bl,by go_num,S,S2,SX,SZ,SO,SW,SS⟩,rfl,rfl,rfl⟩ | exact ⟨⟨k+1,Aa A5 (rs.length+1) c5,Bl,by go_num,S,S2,SX,SZ,SO,SW,SS⟩,rfl,rfl,rfl,rfl⟩ | exact ⟨⟨k+1,Aa A5 (rs.length+1) c5,Bl,by go_num,S,S2,SX,SZ,SO,SW,SS⟩,rfl,rfl,rfl,rfl,rfl⟩ | exact ⟨⟨k+1,Aa A5 (rs.length+1) c5,Bl,by go_num,S,S2,SX,SZ,SO,SW,SS⟩,rfl,rfl,rfl,rfl,rfl,rfl⟩ | exact ⟨⟨k+1,Aa A5 (rs.length+1) c5,Bl,by go_num,S,S2,SX,SZ,SO,SW,SS⟩,rfl,rfl,rfl,rfl,rfl,rfl,rfl⟩ | exact ⟨⟨k+1,Aa A5 (rs.length+1) c5,Bl,by go_num,S,S2,SX,SZ,SO,SW,SS⟩,rfl,rfl,rfl,rfl,rfl,rfl,rfl,rfl⟩ | exact ⟨⟨k+1,Aa A5 (rs.length+1) c5,Bl,by go_num,S,S2,SX,SZ,SO,SW,SS⟩,rfl,rfl,rfl,rfl,rfl,rfl,rfl,rfl,rfl⟩ | exact ⟨⟨k+1,Aa A5 (rs.length+1) c5,Bl,by go_num,S,S2,SX,SZ,SO,SW,SS⟩,rfl,rfl,rfl,rfl,rfl,rfl,rfl,rfl,rfl,rfl⟩ | exact ⟨⟨k+1,Aa A5 (rs.length+1) c5,Bl,by go_num,S,S2,SX,SZ,SO,SW,SS⟩,rfl,rfl,rfl,rfl,rfl,rfl,rfl,rfl,rfl,rfl,rfl⟩ | exact ⟨⟨k+1,Aa A5 (rs.length+1) c5,Bl,by go_num,S,S2,SX,SZ,SO,SW,SS⟩,rfl,rfl,rfl,rfl,rfl,rfl,rfl,rfl,rfl,rfl,rfl,rfl⟩ | exact ⟨⟨k+1,Aa A5 (rs.length+1) c5,Bl,by go_num,S,S2,SX,SZ,SO,SW,SS⟩,rfl,rfl,rfl,rfl,rfl,rfl,rfl,rfl,rfl,rfl,rfl,rfl,rfl⟩)
    ·have aB:¬ (k:Int)<(y.runs.length:Int):=Bl;have bF:k=y.runs.length:=Bl;obtain ⟨⟨A10,n10,c10⟩,rfl,OR⟩:∃ s:Sl,v = Aa s.a s.n s.c/\Bls Ce 167 wr ws s.v y.runs:=by
      obtain ⟨rs,hm,hB⟩:=eF.out;rw [bF,List.take_length] at hm;obtain ⟨A,c,rfl,_⟩:=hB.rd.form;exact ⟨⟨A,_,c⟩,rfl,rs,hm,hB⟩
     have hws3:=hsw3;have Z_f:=Z.free;obtain ⟨Z_0,Z_1,Z_2,Z_3,Z_l⟩:=Z.g4;go_wp2;refine bodyPost_ret (v:=Dm y (⟨A9,n9,c9⟩,⟨A10,n10,c10⟩)) ?_ rfl ?_
     ·simp [Dm,results,results75,go_sem,Z_0,Z_1,Z_2,Z_3]
     ·have OS1:=OS.out;refine ⟨⟨A9,n9,c9⟩,⟨A10,n10,c10⟩,F1,ws.heap.size,rfl,?_,fun b aV=>⟨by have:=nS b aV;omega,lS b aV⟩,Bl,?_,?_,?_⟩
      ·have hn:w.heap.size+1∉F1:=fun hm=>by have:=nS _ hm;omega
       show OwL (Dt.list Bx) _ F1 (Aa A9 n9 c9) y.shelf;repeat (first | (with_reducible exact OS1) | refine OwL.set ?_ hn _)
      ·simp [World.setCell];exact kH
      ·repeat (first | (with_reducible exact OR) | refine Bls.setOther ?_ (by show w.heap.size+1<ws.heap.size;omega) _)
      ·repeat (first | (with_reducible exact hb) | refine Ad ?_ (by first | (simp;done) | (simp;omega)) _)
theorem El (y:Yard) (s:Sl×Sl) (w:World) (hl:Ca y<=2000000) (h:Bv.rd w w y s) :
  Calls Am 75 #[Dm y s] w (Df Bv Dm y w):=(M4 y s w hl h).mono fun _ _ h=>h.own
theorem Pq (b:Nat):∀ (us:List Value) (o:Nat) (w:World),w.setCells b o us=Hz w b o us
 | [],_,_=>rfl
 | u :: us,o,w=>by rw [World.setCells,Hz,Pq b us (o+1)]
theorem Ny {P:Program} (w:World) (t e ty:TypeId) (z:Value) (ht:P.underlying t=Ac (.slice e)) (hv:∀ w,(zeroValue e).run P w = .ok z w) (b o n c:Nat) (hn:0<n) (h1:∀ v∈z.cells,v.oneCell'=true)
  (hc:∀ j,j<n * z.cells.size->(w.cell? ⟨b,o+j,Ab⟩).isSome=true) (hf:∀ j,w.frozen? ⟨b,j,Ab⟩=false) :
  (Builtin.clear_ #[t] ty #[Aa (Ac ⟨b,o,Ab⟩) n c]).run P w = .ok (.tuple #[]) (Hz w b o (Builtin.zeroCells z.cells n).toList):=by
 have hl:(Builtin.zeroCells z.cells n).toList.length=n * z.cells.size:=by simp [Builtin.zeroCells]
 have eB:=run_storeCells_cells (P:=P) b o (Builtin.zeroCells z.cells n).toList 0 w (by rw [hl];simpa using hc) (fun j _=>hf _) (by
  intro v sH;simp only [Builtin.zeroCells,Array.toList_map,Array.toList_range,List.mem_map,List.mem_range] at sH;obtain ⟨i,hi,rfl⟩:=sH;have hz:0<z.cells.size:=Nat.pos_of_ne_zero (fun h=>by rw [h] at hi;simp at hi);have aA:i % z.cells.size<z.cells.size:=Nat.mod_lt _ hz;rw [getElem!_pos z.cells (i % z.cells.size) aA];exact h1 _ (Array.getElem_mem aA))
 simp only [Nat.add_zero] at eB;obtain ⟨m,rfl⟩:∃ m,n=m+1:=⟨n - 1,Bl⟩
 rw [<-Pq];simp [Builtin.clear_,run_underlying ht,hv,eB]
theorem Qq:∀ (us:List Value) (w:World) (b i o:Nat),o<i->(Hz w b i us).cell? ⟨b,o,Ab⟩=w.cell? ⟨b,o,Ab⟩
 | [],_,_,_,_,_=>rfl
 | u :: us,w,b,i,o,h=>by
  rw [Hz,Qq us _ b (i+1) o Bl];exact World.cell?_setCell_other _ _ _ _ (fun e=>by injection e with _ h2 _;omega)
theorem Rd.clear {α:Type} {e:Enc α} {w:World} {B b o n c:Nat} {l:List α} (h:Rd e w B (Aa (Ac ⟨b,o,Ab⟩) n c) l) (k:Nat) (hk:k<=l.length) (us:List Value):Rd e (Hz w b (o+k * e.sz) us) B (Aa (Ac ⟨b,o,Ab⟩) k c) (l.take k):=by
 have h1:=h.take hk c (by have:=h.cap;omega);obtain ⟨A',c',hv,cI,hA⟩:=h1;simp only [Value.slice.injEq] at hv;obtain ⟨rfl,aF,rfl⟩:=hv;have h2:(l.take k).length=k:=by rw [Az,Nat.min_eq_left hk]
 refine ⟨_,c,by rw [h2],Bl,fun hl=>?_⟩;obtain ⟨b',o',he,aA,hc⟩:=hA hl;simp only [Option.some.injEq,Addr.mk.injEq,and_true] at he;obtain ⟨rfl,rfl⟩:=he;refine ⟨b,o,rfl,aA,fun i hi j u hu=>?_⟩;have hj:j<e.sz:=by
  have:=(List.getElem?_eq_some_iff.1 hu).1
  rwa [e.len] at this
 rw [Qq _ _ _ _ _ (by
  have:(i+1) * e.sz<=k * e.sz:=Nat.mul_le_mul_right _ Bl;rw [Nat.succ_mul] at this;omega)]
 exact hc i hi j u hu
theorem Rd.some_ {α:Type} {e:Enc α} {w:World} {B b o n c:Nat} {l:List α} (h:Rd e w B (Aa (Ac ⟨b,o,Ab⟩) n c) l) (bM:0<e.sz) (q:Nat) (hq:q<l.length * e.sz):(w.cell? ⟨b,o+q,Ab⟩).isSome=true:=by
 obtain ⟨A',c',hv,cI,hA⟩:=h;simp only [Value.slice.injEq] at hv;obtain ⟨rfl,aF,rfl⟩:=hv;have hk:q / e.sz<l.length:=Nat.div_lt_of_lt_mul (by rw [Nat.mul_comm];exact hq);have hj:q % e.sz<e.sz:=Nat.mod_lt _ bM;have rJ:q / e.sz * e.sz+q % e.sz=q:=by rw [Nat.mul_comm];exact Nat.div_add_mod _ _
 obtain ⟨b',o',he,aA,hc⟩:=hA (Nat.lt_of_le_of_lt (Ag _) hk);simp only [Option.some.injEq,Addr.mk.injEq,and_true] at he;obtain ⟨rfl,rfl⟩:=he;have mB:q % e.sz<(e.cells l[q / e.sz]).length:=by rw [e.len];exact hj
 have:=hc (q / e.sz) hk (q % e.sz) _ (List.getElem?_eq_getElem mB)
 rw [Nat.add_assoc,rJ] at this;rw [this];rfl
theorem Hw.of_rd {α:Type} {e:Enc α} {w:World} {b o n c:Nat} {l:List α} (h:Rd e w w (Aa (Ac ⟨b,o,Ab⟩) n c) l) (hf:∀ j,w.frozen? ⟨b,j,Ab⟩=false):Hw e w (Ek (Aa (Ac ⟨b,o,Ab⟩) n c) l.length) (Aa (Ac ⟨b,o,Ab⟩) n c) l:=by
 refine ⟨h,rfl,fun g hg j=>?_⟩
 have:=Ht _ _ _ hg
 have:b=g:=by simpa [Value.ownBlock] using this
 subst this;exact hf j
def Agr {α:Type} (e:Enc α) (A:Option Addr) (c:Nat) (F:List Nat) (l:List α) (w:World) (en:Ending) (w':World):Prop :=
 ∃ k F',en = .returned (Aa A k c)/\Hw e w' F' (Aa A k c) l/\(∀ b∈F',b∈F)/\Chg F w w'
structure Kept {α:Type} (p:α->Bool) (l M:List α) (i j:Nat):Prop where
 len:M.length=l.length
 head:M.take i=(l.take j).filter fun x=>!p x
 tail:∀ t (h:t<l.length) (h':t<M.length),j<=t->M[t]=l[t]
theorem Kept.drop {α:Type} {p:α->Bool} {l M:List α} {i j:Nat} (h:Kept p l M i j) (hj:j<l.length) (hp:p l[j]=true):Kept p l M i (j+1):=by
 refine ⟨h.len,?_,fun t ht kM htj=>h.tail t ht kM Bl⟩;rw [h.head,Cp l j hj,List.filter_append];simp [hp]
theorem Kept.keep {α:Type} {p:α->Bool} {l M:List α} {i j:Nat} (h:Kept p l M i j) (hj:j<l.length) (hi:i<j) (hp:p l[j]=false):Kept p l (M.set i l[j]) (i+1) (j+1):=by
 have hl:=h.len;refine ⟨by rw [Bh];exact h.len,?_,fun t ht kM htj=>?_⟩
 ·rw [Cp l j hj,List.filter_append,<-h.head,Cp _ i (by rw [Bh];omega),List.getElem_set_self,List.take_set_of_le (Bs _)];simp [hp]
 ·rw [List.getElem_set_ne Bl];exact h.tail t ht (by rw [Bh] at kM;exact kM) Bl
theorem Adl {α:Type} {p:α->Bool} {l:List α} {k:Nat} (hk:k<l.length) (h:∀ j (hj:j<l.length),j<k->p l[j]=false) (hp:p l[k]=true):Kept p l l k (k+1):=by
 refine ⟨rfl,?_,fun t _ _ _=>rfl⟩;rw [Cp l k hk,List.filter_append];have:(l.take k).filter (fun x=>!p x)=l.take k:=List.filter_eq_self.2 (fun x hx=>by
  obtain ⟨j,hj,rfl⟩:=List.getElem_of_mem hx;rw [Az] at hj;rw [List.getElem_take];simp [h j Bl Bl])
 rw [this];simp [hp]
theorem Af5 {α:Type} {p:α->Bool} {l:List α} (h:∀ j (hj:j<l.length),p l[j]=false):(l.filter fun x=>!p x)=l:=List.filter_eq_self.2 (fun x hx=>by
 obtain ⟨j,hj,rfl⟩:=List.getElem_of_mem hx
 simp [h j hj])
theorem Nz (v:Value) (l:List Entry) (i xb:Nat) (x:Entry) (base:Nat) (w:World) (hi:i<=l.length) (hl:l.length<=1000000) (ho:Ow Cy 163 w base v l) (bE:base<=w.heap.size)
  (hx:w.heap[xb]? = Ac (.cells (Cy.cells x).toArray 163 (0,0))) (aC:v.ownBlock≠Ac xb) :
  Calls Am 280 #[v,J U (i:Int),Aa (Ac ⟨xb,0,Ab⟩) 1 1] w fun e w'=>∃ v',e = .returned v'/\Ow Cy 163 w' base v' (l.take i ++ x :: l.drop i)/\w.grownBy w' v.ownBlock/\(v'.ownBlock=v.ownBlock\/v'.ownBlock=Ac w.heap.size):=by
 obtain ⟨j0,cJ,jz0,jz1,jz2⟩:=info_parts Gg;have fG:xb<w:=(Array.getElem?_eq_some_iff.1 hx).1;have tJ:∀ j u,(Cy.cells x)[j]? = Ac u->w.cell? ((⟨xb,0,Ab⟩:Addr).add j)=Ac u:=fun j u hu=>by
  have h0:w.cell? ⟨xb,j,Ab⟩=(Cy.cells x).toArray[j]?:=cell_of_row _ _ j _ _ (0,0) hx;have e:((⟨xb,0,Ab⟩:Addr).add j)=⟨xb,j,Ab⟩:=by unfold Addr.add;split<;>simp_all
  rw [e,h0];simpa using hu
 have jJ:Rd Cy w w (Aa (Ac ⟨xb,0,Ab⟩) 1 1) [x]:=by
  refine ⟨_,1,rfl,Bn,fun _=>⟨xb,0,rfl,fG,fun k hk j u hu=>?_⟩⟩;have cL:k=0:=by simpa using hk
  subst cL;have e:(⟨xb,0+0 * Cy.sz+j,Ab⟩:Addr)=(⟨xb,0,Ab⟩:Addr).add j:=by unfold Addr.add;split<;>simp_all
  rw [e];exact tJ j u hu
 by_cases dR:i=l.length
 ·have Hl:=Bq (show l.take i ++ x :: l.drop i=l ++ [x] by rw [dR,List.take_length,List.drop_length]);have HO:=Bq ho;have HX:=Bq hx;have HXC:=Bq tJ;have HNE:=Bq aC;obtain ⟨A,c,rfl,hc,-⟩:=id (Rd.of_own ho);have aQ:l.length<=c:=hc;subst dR;clear ho hx tJ aC hi;have h0:¬ (l.length:Int)<0:=Bl;by_cases hcl:c=l.length;all_goals
   (try subst hcl)
   go_enter func280,ntmps280;go_wp2_with (at_builtin;refine Ch _ Cy Bp rfl (.tmp 23) (.tmp 24) rfl underlying122 cJ jz0 jz1 jz2 rfl (v:=Aa A l.length _) (l:=l) rfl HO.out (A:=Ac ⟨xb,0,Ab⟩) (m:=1) (c:=1) rfl jJ Bl Bn Bp Bl ?_;intro v5 w5 o5 g5 f5)
   go_ret;exact ⟨v5,rfl,by first | exact o5 | (rw [Hl.out];exact o5),g5,f5⟩
 have aA:i<l.length:=Bl;obtain ⟨g,cap,rfl,tB,kT,-⟩:∃ g cap,v = Aa (Ac ⟨g,0,Ab⟩) l.length cap/\base<=g/\g<w.heap.size/\True:=by
  rcases ho.form with ⟨_,e0⟩ | ⟨g,cap,e1,h1,h2,_⟩
  ·rw [e0] at aA;simp at aA
  ·exact ⟨g,cap,e1,h1,h2,trivial⟩
 obtain ⟨-,-,hncap,qI,cur,dE,hclen,hcur⟩:=ho.row;have hne':xb≠g:=fun e=>aC (by rw [e];rfl);have bM:(Am.info? 163).map (·.size)=Ac 4:=by rw [cJ];simp [jz1]
 have hesz:Cy.sz=4:=rfl;have uD:(l.flatMap Cy.cells).length=l.length * 4:=Cy.flat_length l;have dW:(Cy.cells x).length=4:=Cy.len x;have hdl:((l.flatMap Cy.cells).drop (i * 4)).length=(l.length - i) * 4:=by rw [List.length_drop,uD,Nat.sub_mul]
 have hone:∀ u∈l.flatMap Cy.cells,u.oneCell'=true:=fun u hu=>by
  obtain ⟨y,_,hy⟩:=List.mem_flatMap.1 hu;exact Cy.one y u hy
 have hfi:=Bq (N8 Cy l i Bl x);rw [hesz] at hcur hclen hfi;have aN:∀ j u,(l.flatMap Cy.cells)[j]? = Ac u->w.cell? ⟨g,j,Ab⟩=Ac u:=fun j u hu=>by
  have h0:w.cell? ⟨g,j,Ab⟩=cur.toArray[j]?:=cell_of_row _ _ j _ _ (0,0) dE;rw [h0,<-hcur,List.getElem?_take] at *
  split at hu
  ·simpa using hu
  ·cases hu
 have Hone:=Bq hone;have Hcell:=Bq aN;have HX:=Bq hx;have HXC:=Bq tJ;have Hrow:=Bq dE;have Hclen:=Bq hclen;have Hcur:=Bq hcur;have HO:=Bq ho;have Hxl:=Bq dW;have Hdl:=Bq hdl;have HLl:=Bq uD;have HSZ:=Bq bM;have hcm2:cap<=9223372036854775807:=by simpa [maxLen] using qI
 have pQ:¬ ((i:Int)=(l.length:Int)):=Bl;have hib:((i:Int) == (l.length:Int))=false:=beq_eq_false_iff_ne.2 pQ;have rF:U.wrap ((i:Int)+1)=(i:Int)+1:=Aq _ Bl;have hw2:U.wrap ((l.length:Int)+1)=(l.length:Int)+1:=Aq _ Bl;have aJ:(0:Int)<=(i:Int)+1:=Bl;have htn:((i:Int)+1).toNat=i+1:=Bl;have htn2:((l.length:Int)+1).toNat=l.length+1:=Bl;have sB:¬ cap=i:=Bl;have hiI:(i:Int)<=(l.length:Int):=Bl;have hicap:(i:Int)<=(cap:Int):=Bl;clear ho hx tJ aC dE hclen hcur hone aN qI aA dR hi jJ uD dW hdl bM hesz;by_cases gY:l.length+1<=cap
 ·-- there is room: in place
  have uN:¬ cap=i+1:=Bl;have hro:¬ (cap:Int)<(l.length:Int)+1:=Bl;have hi1:(i:Int)+1<=(l.length:Int)+1:=Bl;have hi2:(i:Int)<=(l.length:Int)+1:=Bl;have hshx:w.shape? xb=Ac (163,4):=by unfold World.shape?;rw [HX.out];simp [Hxl.out]
  have hshg:w.shape? g=Ac (163,cap * 4):=by unfold World.shape?;rw [Hrow.out];simp [Hclen.out]
  have hfx:∀ o,w.frozen? ⟨xb,o,Ab⟩=false:=fun o=>by unfold World.frozen?;rw [HX.out];simp
  have hov:∀ lb cb,(callFunc 287 #[Aa (Ac ⟨xb,0,Ab⟩) 1 1,Aa (Ac ⟨g,(i+1) * 4,Ab⟩) lb cb]).run Am w = .ok (.value (.bool false)) w:=fun lb cb=>by
   rw [run_callFunc_extern func287 Bm Bm Bm (e:=Extern.SlicesOverlaps.overlaps #[122,122] #[4]) Bm,
    Lib.run_overlaps_apart w 122 4 163 underlying122 4 (fun w=>by simp [sizeOf,typeInfo,cJ,jz1]) ⟨xb,0,Ab⟩ ⟨g,(i+1) * 4,Ab⟩ 1 1 lb cb hne' 163 163 4 (cap * 4) hshx hshg (by have:1 * 4<=cap * 4:=Nat.mul_le_mul_right _ Bl;omega) (hfx _) (hfx _)]
   rfl
  have Hsh:=Bq hshx;have Hsg:=Bq hshg;have Hfx:=Bq hfx;clear hshx hshg hfx;go_enter func280,ntmps280;go_wp2_with (simp only [hov])
  have e1:=Bq (show ((l.flatMap Cy.cells).drop (i * 4)).length=Nat.min (l.length+1 - i) (l.length - i) * 4 by rw [Hdl.out];congr 1;simp only [Nat.min_def];split<;>omega);have e2:=Bq (show ∀ j u,((l.flatMap Cy.cells).drop (i * 4))[j]? = Ac u->w.drew.cell? ((⟨g,i * 4,Ab⟩:Addr).add j)=Ac u from Mx Hrow.out _ (fun j u hu=>by
   rw [List.getElem?_drop,<-Hcur.out,List.getElem?_take] at hu;split at hu
   ·exact hu
   ·cases hu))
  have e3:=Bq (show (i+1) * 4+((l.flatMap Cy.cells).drop (i * 4)).length<=cur.length by
   rw [Hdl.out,Hclen.out,<-Nat.add_mul];exact Nat.mul_le_mul_right _ Bl)
  have e4:=Bq (show ∀ u∈(l.flatMap Cy.cells).drop (i * 4),u.oneCell'=true from fun u hu=>Hone.out u (List.mem_of_mem_drop hu));go_region_law (refine Qm w.drew rfl (.tmp 73) (.tmp 76) 122 122 rfl 163 4 underlying122 HSZ.out g ((i+1) * 4) (l.length - i) (cap - (i+1)) ⟨g,i * 4,Ab⟩ (l.length+1 - i) (cap - i) (by simp [Act.eval,Act.put]) (by simp [Act.eval,Act.put]) cur 163 Hrow.out ((l.flatMap Cy.cells).drop (i * 4)) e1.out e2.out e3.out e4.out ?_;intro w1 r1 g1);have f1:=Bq (show (Cy.cells x).length=Nat.min 1 (l.length+1 - i) * 4 by rw [Hxl.out];simp only [Nat.min_def];split<;>omega);have f2:=Bq (show ∀ j u,(Cy.cells x)[j]? = Ac u->w1.cell? ((⟨xb,0,Ab⟩:Addr).add j)=Ac u from Mx (Aac g1 (w:=w.drew) HX.out (fun e=>hne' (Option.some.inj e))) _ (fun j u hu=>by rw [Nat.zero_add];exact hu));have cP:=Bq (Aad Cy l i Bl x cur Hcur.out (by rw [Hclen.out];exact Nat.mul_le_mul_right _ gY));have f3:=Bq (show i * 4+(Cy.cells x).length<=(splice cur ((i+1) * 4) ((l.flatMap Cy.cells).drop (i * 4))).length by
   rw [G7 _ _ _ e3.out,Hxl.out,Hclen.out,<-Nat.succ_mul];exact Nat.mul_le_mul_right _ Bl)
  have f4:=Bq (Cy.one x);clear e1 e2 e3 e4 hov;go_wp2_with (refine N7 w1 rfl (.tmp 80) (.tmp 81) 122 122 rfl 163 4 underlying122 HSZ.out g (i * 4) (l.length+1 - i) (cap - i) ⟨xb,0,Ab⟩ 1 1 (by simp [Act.eval]) (by simp [Act.eval]) _ 163 r1.out (Cy.cells x) f1.out f2.out f3.out f4.out ?_;intro w2 r2 g2)
  go_ret;have jQ:=Ow.of_row (e:=Cy) (E:=163) (l:=l.take i ++ x :: l.drop i) (cap:=cap) (base:=base) r2.out (cP.out.2.trans Hclen.out) (by rw [Ke l i Bl x];exact cP.out.1) tB (by rw [Ke l i Bl x];exact gY) (by simpa [maxLen] using hcm2);rw [Ke l i Bl x] at jQ;exact ⟨_,rfl,jQ,(Uc g1).trans g2,.inl rfl⟩
 ·-- no room: a new row
  obtain rfl:cap=l.length:=Bl;have hro:(l.length:Int)<(l.length:Int)+1:=Bl;have fP:U.wrap ((l.length:Int)+1 - (i:Int))=(l.length:Int)+1 - (i:Int):=Aq _ Bl;have a1:=Bq (show ((l.flatMap Cy.cells).take (i * 4)).length=i * 4 by
   rw [Az,HLl.out];exact Nat.min_eq_left (Nat.mul_le_mul_right _ Bl))
  have a2:=Bq (show ∀ j u,((l.flatMap Cy.cells).take (i * 4))[j]? = Ac u->w.cell? ((⟨g,0,Ab⟩:Addr).add j)=Ac u from Mx Hrow.out _ (fun j u hu=>by
   rw [List.getElem?_take] at hu;split at hu
   ·rw [<-Hcur.out,List.getElem?_take] at hu;split at hu
    ·rw [Nat.zero_add];exact hu
    ·cases hu
   ·cases hu))
  have bU:=Bq (show (l.length:Int)+1 - (i:Int)=((l.length+1 - i:Nat):Int) by omega);have hi3:0<l.length+1 - i:=Bl;have hGg:w≠g:=Bl;have hxG:xb≠w:=Bl;have f1:=Bq (show (Cy.cells x).length=Nat.min 1 (l.length+1 - i) * 4 by rw [Hxl.out];simp only [Nat.min_def];split<;>omega);have f4:=Bq (Cy.one x);have e1:=Bq (show ((l.flatMap Cy.cells).drop (i * 4)).length=Nat.min (l.length - i) (l.length - i) * 4 by rw [Hdl.out];congr 1;simp only [Nat.min_def];split<;>omega);have e4:=Bq (show ∀ u∈(l.flatMap Cy.cells).drop (i * 4),u.oneCell'=true from fun u hu=>Hone.out u (List.mem_of_mem_drop hu));have e2:=Bq (show ∀ W:World,W.heap[g]? = w.heap[g]? -> ∀ j u,((l.flatMap Cy.cells).drop (i * 4))[j]? = Ac u->W.cell? ((⟨g,i * 4,Ab⟩:Addr).add j)=Ac u from fun W hW=>Mx (hW.trans Hrow.out) _ (fun j u hu=>by
   rw [List.getElem?_drop,<-Hcur.out,List.getElem?_take] at hu;split at hu
   ·exact hu
   ·cases hu))
  go_enter func280,ntmps280;go_wp2_with (first
   | (refine O7 w rfl (.tmp 34) (.tmp 39) 122 3 rfl 163 j0 _ 4 _ .i64 .i64 underlying122 underlying3 cJ jz0 jz1 jz2 rfl Bp ⟨g,0,Ab⟩ i l.length _ (by simp [Act.eval]) (l.length+1 - i) ((l.length:Int)+1 - (i:Int)) bU.out (by simp [Act.eval]) a1.out a2.out hi3 Bl Bl Bp (l.length+1) Bl ?_;intro w1 c R r1 rl rt sJ hc4 g1 s1;have hci:¬ c=i:=(by omega);have hci1:¬ c=i+1:=(by omega);have hi2:(i:Int)<=(l.length:Int)+1:=(by omega);have hi1:(i:Int)+1<=(l.length:Int)+1:=(by omega);have hc5:(l.length:Int)+1<=(c:Int):=(by omega);have f2:=Bq (show ∀ j u,(Cy.cells x)[j]? = Ac u->w1.cell? ((⟨xb,0,Ab⟩:Addr).add j)=Ac u from Mx (Aac g1 HX.out Bn) _ (fun j u hu=>by rw [Nat.zero_add];exact hu));have f3:=Bq (show i * 4+(Cy.cells x).length<=R.length by rw [Hxl.out,rl.out,<-Nat.succ_mul];exact Nat.mul_le_mul_right _ Bl);have cP:=Bq (Acl Cy l i Bl x R rt.out (by rw [rl.out];exact Nat.mul_le_mul_right _ sJ));have hgw1:=Bq (g1.block g kT Bn);clear bU)
   | (refine N7 w1 rfl (.tmp 43) (.tmp 44) 122 122 rfl 163 4 underlying122 HSZ.out w.heap.size (i * 4) (l.length+1 - i) (c - i) ⟨xb,0,Ab⟩ 1 1 (by simp [Act.eval]) (by simp [Act.eval]) _ 163 r1.out (Cy.cells x) f1.out f2.out f3.out f4.out ?_;intro w2 r2 g2))
  have e3:=Bq (show (i+1) * 4+((l.flatMap Cy.cells).drop (i * 4)).length<=(splice R (i * 4) (Cy.cells x)).length by
   rw [G7 _ _ _ f3.out,Hdl.out,rl.out,<-Nat.add_mul];exact Nat.mul_le_mul_right _ Bl)
  have e2':=Bq (e2.out w2.drew ((g2.block g Bl (fun e=>hGg (Option.some.inj e).symm)).trans hgw1.out));clear e2 hgw1;go_region_law (refine Qm w2.drew rfl (.tmp 50) (.tmp 53) 122 122 rfl 163 4 underlying122 HSZ.out w.heap.size ((i+1) * 4) (l.length - i) (c - (i+1)) ⟨g,i * 4,Ab⟩ (l.length - i) (l.length - i) (by simp [Act.eval,Act.put]) (by simp [Act.eval,Act.put]) _ 163 r2.out ((l.flatMap Cy.cells).drop (i * 4)) e1.out e2'.out e3.out e4.out ?_;intro w3 r3 g3);go_wp2_with fail
  go_ret;have jQ:=Ow.of_row (e:=Cy) (E:=163) (l:=l.take i ++ x :: l.drop i) (cap:=c) (base:=base) r3.out (cP.out.2.trans rl.out) (by rw [Ke l i Bl x];exact cP.out.1) bE (by rw [Ke l i Bl x];exact sJ) (by simpa [maxLen] using hc4);rw [Ke l i Bl x] at jQ;exact ⟨_,rfl,jQ,W9 (W9 (Ack g1 (Ac g)) g2 (Bs _)) (Uc g3) (Bs _),.inr rfl⟩
def Fc (n:Int):Bool:=inB n 0 1000000000
def E6 (p:Plan):Bool:=Fc p.prio && Fc p.most && Fc p.wait && Fc p.tasks && decide (p.edges.length<=31) && p.edges.all fun e=>Fc e.fr && Fc e.to
def Fd (p:Plan):Bool:=p.prio == 0 && p.most == 0 && p.wait == 0 && p.tasks == 0 && p.edges.length == 0
def Dl (d:Deed):Bool :=
 inB d.kind 1 8 &&
 (if d.kind=2\/d.kind=5\/d.kind=8 then d.run == 0 else Fc d.run) &&
 (if d.kind=3\/d.kind=4 then Fc d.task && Fc d.try_ else d.task == 0 && d.try_ == 0) &&
 (if d.kind=2 then Fc d.worker && Fc d.draw else d.worker == 0 && d.draw == 0) &&
 (if d.kind=1 then E6 d.plan else Fd d.plan)
theorem Hf (p:Plan) (s:Sl) (w:World) (h:Cd.rd w w p s) :
  Calls Am 122 #[Jr p s] w fun e w'=>e = .returned (.bool (Fd p))/\Below w w w':=by
 obtain ⟨A,n,c⟩:=s;obtain rfl:n=p.edges.length:=RdL.at1 (s:=⟨A,n,c⟩) h;have X:=DBox.new 36 [J U p.prio,J U p.most,J U p.wait,J U p.tasks,Aa A p.edges.length c] w (b:=w) rfl;have B0:Below w w (w.alloc (.cells #[J U p.prio,J U p.most,J U p.wait,J U p.tasks,Aa A p.edges.length c] 36)):=by repeat (first | exact Br _ _ | refine Ae ?_ Bo _)
 have H:=Bq (show Fd p=(p.prio == 0 && p.most == 0 && p.wait == 0 && p.tasks == 0 && p.edges.length == 0) from rfl);by_cases a0:p.prio=0;case neg =>
  have b0:(p.prio == 0)=false:=by simpa using a0
  go_enter func122,ntmps122;go_wp2;go_ret;exact ⟨Bw (by rw [H.out];simp [b0]),B0⟩
 have b0:(p.prio == 0)=true:=by simpa using a0
 clear a0;by_cases a1:p.most=0;case neg =>
  have b1:(p.most == 0)=false:=by simpa using a1
  go_enter func122,ntmps122;go_wp2;go_ret;exact ⟨Bw (by rw [H.out];simp [b0,b1]),B0⟩
 have b1:(p.most == 0)=true:=by simpa using a1
 clear a1;by_cases a2:p.wait=0;case neg =>
  have b2:(p.wait == 0)=false:=by simpa using a2
  go_enter func122,ntmps122;go_wp2;go_ret;exact ⟨Bw (by rw [H.out];simp [b0,b1,b2]),B0⟩
 have b2:(p.wait == 0)=true:=by simpa using a2
 clear a2;by_cases a3:p.tasks=0;case neg =>
  have b3:(p.tasks == 0)=false:=by simpa using a3
  go_enter func122,ntmps122;go_wp2;go_ret;exact ⟨Bw (by rw [H.out];simp [b0,b1,b2,b3]),B0⟩
 have b3:(p.tasks == 0)=true:=by simpa using a3
 clear a3;by_cases a4:p.edges.length=0;case neg =>
  have b4:((p.edges.length:Int) == 0)=false:=by rw [beq_eq_false_iff_ne];omega
  have b5:(p.edges.length == 0)=false:=by rw [beq_eq_false_iff_ne];exact a4
  go_enter func122,ntmps122;go_wp2;go_ret;exact ⟨Bw (by rw [H.out];simp [b0,b1,b2,b3,b5]),B0⟩
 have b4:((p.edges.length:Int) == 0)=true:=by rw [beq_iff_eq];omega
 have b5:(p.edges.length == 0)=true:=by rw [beq_iff_eq];exact a4
 clear a4;go_enter func122,ntmps122;go_wp2;go_ret;exact ⟨Bw (by rw [H.out];simp [b0,b1,b2,b3,b5]),B0⟩
theorem Af6 {α:Type} {f:α->Bool} {l:List α} {k:Nat} (h:k<l.length) (hn:f l[k]=false):l.all f=false:=by
 rw [List.all_eq_false];exact ⟨l[k],Aw h,by simp [hn]⟩
theorem Sd {p:Plan} {k:Nat} (h:k<p.edges.length) (hn:(Fc p.edges[k].fr && Fc p.edges[k].to)=false):E6 p=false:=by
 unfold E6;rw [Af6 h hn,Bool.and_false]
theorem S8 (p:Plan) (s:Sl) (w:World) (h:Cd.rd w w p s) :
  Calls Am 121 #[Jr p s] w fun e w'=>e = .returned (.bool (E6 p))/\Below w w w':=by
 obtain ⟨A,n,c⟩:=s;obtain rfl:n=p.edges.length:=RdL.at1 (s:=⟨A,n,c⟩) h;have h2:Rd G6 w w (Aa A p.edges.length c) p.edges:=Ir h;clear h;have X:=DBox.new 36 [J U p.prio,J U p.most,J U p.wait,J U p.tasks,Aa A p.edges.length c] w (b:=w) rfl;have B0:Below w w (w.alloc (.cells #[J U p.prio,J U p.most,J U p.wait,J U p.tasks,Aa A p.edges.length c] 36)):=by repeat (first | exact Br _ _ | refine Ae ?_ Bo _)
 cases b0:inB p.prio 0 1000000000;case false =>
  have H:=Bq (show E6 p=false by simp [E6,Fc,b0]);go_enter func121,ntmps121;go_wp2_with (go_at_call 84;refine (Cr _ _).mono ?_;rintro e w9 ⟨rfl,rfl⟩)
  go_ret;exact ⟨Bw H.out.symm,B0⟩
 cases b1:inB p.most 0 1000000000;case false =>
  have H:=Bq (show E6 p=false by simp [E6,Fc,b0,b1]);go_enter func121,ntmps121;go_wp2_with (go_at_call 84;refine (Cr _ _).mono ?_;rintro e w9 ⟨rfl,rfl⟩)
  go_ret;exact ⟨Bw H.out.symm,B0⟩
 cases b2:inB p.wait 0 1000000000;case false =>
  have H:=Bq (show E6 p=false by simp [E6,Fc,b0,b1,b2]);go_enter func121,ntmps121;go_wp2_with (go_at_call 84;refine (Cr _ _).mono ?_;rintro e w9 ⟨rfl,rfl⟩)
  go_ret;exact ⟨Bw H.out.symm,B0⟩
 cases b3:inB p.tasks 0 1000000000;case false =>
  have H:=Bq (show E6 p=false by simp [E6,Fc,b0,b1,b2,b3]);go_enter func121,ntmps121;go_wp2_with (go_at_call 84;refine (Cr _ _).mono ?_;rintro e w9 ⟨rfl,rfl⟩)
  go_ret;exact ⟨Bw H.out.symm,B0⟩
 by_cases a4:p.edges.length<=31;case neg =>
  have b4:(31:Int)<(p.edges.length:Int):=Bl;have H:=Bq (show E6 p=false by simp [E6,a4]);go_enter func121,ntmps121;go_wp2_with (go_at_call 84;refine (Cr _ _).mono ?_;rintro e w9 ⟨rfl,rfl⟩)
  go_ret;exact ⟨Bw H.out.symm,B0⟩
 have b4:¬ (31:Int)<(p.edges.length:Int):=Bl;have HN:=Bq (show E6 p=p.edges.all (fun e=>Fc e.fr && Fc e.to) by simp [E6,Fc,b0,b1,b2,b3,a4]);go_enter func121,ntmps121;go_wp2_with (go_at_call 84;refine (Cr _ _).mono ?_;rintro e w9 ⟨rfl,rfl⟩)
 generalize (w.alloc (.cells #[J U p.prio,J U p.most,J U p.wait,J U p.tasks,Aa A p.edges.length c] 36))=W at *
 clear b0 b1 b2 b3;go_loopw [3] (fun i wr=>∃ k:Nat,k<=p.edges.length/\i = J U k/\Hid ((p.edges.take k).all (fun e=>Fc e.fr && Fc e.to)=true)/\DBox w [J U p.prio,J U p.most,J U p.wait,J U p.tasks,Aa A p.edges.length c] wr/\Below w w wr) (fun i _=>p.edges.length - (intOf i).toNat);case atStart=>exact ⟨0,Ag _,rfl,rfl,X,B0⟩
 case round =>
  clear X B0;obtain ⟨k,hk,rfl,hA,X,hb⟩:=hrel;obtain ⟨X_0,X_1,X_2,X_3,X_4,X_l⟩:=X.g5;by_cases aA:k<p.edges.length
  ·have aB:(k:Int)<(p.edges.length:Int):=Bl;obtain ⟨b,o,rfl,aK,d0,d1⟩:=(h2.below hb).edge aA;cases q0:inB p.edges[k].fr 0 1000000000
   ·have H:=Bq (Sd aA (by simp [Fc,q0]));go_wp2_with (go_at_call 84;refine (Cr _ _).mono ?_;rintro e w9 ⟨rfl,rfl⟩)
    go_ret;exact ⟨Bw H.out.symm,hb⟩
   cases q1:inB p.edges[k].to 0 1000000000
   ·have H:=Bq (Sd aA (by simp [Fc,q1]));go_wp2_with (go_at_call 84;refine (Cr _ _).mono ?_;rintro e w9 ⟨rfl,rfl⟩)
    go_ret;exact ⟨Bw H.out.symm,hb⟩
   have S:Hid ((p.edges.take (k+1)).all (fun e=>Fc e.fr && Fc e.to)=true):=by
    show _=_;rw [List.take_succ_eq_append_getElem aA,List.all_append,hA.out];simp [Fc,q0,q1]
   go_wp2_with (go_at_call 84;refine (Cr _ _).mono ?_;rintro e w9 ⟨rfl,rfl⟩)
   exact ⟨⟨k+1,Bl,by go_num,S,X,hb⟩,by simp [intOf];omega⟩
  ·have H:=Bq (show E6 p=true by
    have:=hA.out
    rw [List.take_of_length_le Bl] at this;rw [HN.out,this])
   have aB:¬ (k:Int)<(p.edges.length:Int):=Bl;go_wp2;go_ret;exact ⟨Bw H.out.symm,hb⟩
def I2 (l:List Entry) (k:Nat):List Nat:=(l.take k).map fun e=>e.seq.toNat
theorem Vc (l:List Entry) (k:Nat) (hk:k<l.length):I2 l (k+1)=I2 l k ++ [l[k].seq.toNat]:=by
 unfold I2;rw [Cp l k hk,List.map_append];rfl
theorem Ae3 (l:List Entry) (k:Nat):(I2 l k).length<=k:=by
 unfold I2;rw [Ar,Az];omega
theorem Se {l:List Entry} (h:∀ j (hj:j<l.length),l[j].seq.toNat∉I2 l j):(l.map (·.seq)).Nodup:=by
 have:∀ k,k<=l.length->(I2 l k).Nodup:=by
  intro k;induction k with
  | zero=>intro _;simp [I2]
  | succ k ih =>
   intro hk;rw [Vc l k Bl,Ax];refine ⟨ih Bl,Bn,fun a ha b hb e=>?_⟩;have aV:b=l[k].seq.toNat:=by simpa using hb
   subst aV;subst e;exact h k Bl ha
 have h2:=this l.length (Bs _);unfold I2 at h2;rw [List.take_length] at h2;have e:(l.map fun e=>e.seq.toNat)=(l.map (·.seq)).map Int.toNat:=by rw [List.map_map];rfl
 rw [e] at h2;exact List.Pairwise.of_map _ (fun a b aC e=>aC (by rw [e])) h2
theorem Sf {l:List Entry} (h:(l.map (·.seq)).Nodup) (hp:∀ e∈l,1<=e.seq) {k:Nat} (hk:k<l.length):l[k].seq.toNat∉I2 l k:=by
 intro hm;unfold I2 at hm;obtain ⟨x,hx,he⟩:=List.mem_map.1 hm;obtain ⟨j,hj,rfl⟩:=List.getElem_of_mem hx;rw [Az] at hj;rw [List.getElem_take] at he;have h1:=hp _ (Aw (show j<l.length by omega));have h2:=hp _ (Aw hk);have e:l[j].seq=l[k].seq:=Bl;have h3:=List.pairwise_iff_getElem.1 h j k (by rw [Ar];omega) (by rw [Ar];omega) Bl;rw [List.getElem_map,List.getElem_map] at h3;exact h3 e
theorem Ad8 {p:Plan} (h:Cs p=0):1<=p.wait/\p.wait<=20:=by
 have:=(Dj.1 h).1
 simp only [Ew,Bool.and_eq_true] at this;exact Cw.1 this.2
def Ni (q:Int) (l:List Entry) (k:Nat):Prop:=∀ j (hj:j<l.length),j<k->(1<=l[j].seq/\l[j].seq<=q - 1)/\l[j].seq.toNat∉I2 l j
theorem Xq {q:Int} {l:List Entry} {k:Nat} (h:Ni q l k) (hk:k<l.length) (h1:inB l[k].seq 1 (q - 1)=true) (h2:l[k].seq.toNat∉I2 l k):Ni q l (k+1):=by
 intro j hj fS;by_cases e:j=k
 ·subst e;exact ⟨Cw.1 h1,h2⟩
 ·exact h j hj Bl
theorem Ae4 {y:Yard} {k:Nat} (hk:k<(Cf y).length) (h1:inB (Cf y)[k].seq 1 (y.seq - 1)=false):¬ Dh y:=by
 intro h
 have:=Cw.2 (h.2.2.2.2.1 _ (Aw hk))
 rw [h1] at this;cases this
theorem Ae5 {y:Yard} {k:Nat} (hk:k<(Cf y).length) (h1:(Cf y)[k].seq.toNat∈I2 (Cf y) k):¬ Dh y:=fun h =>
 Sf h.2.2.2.2.2.1 (fun e he=>(h.2.2.2.2.1 e he).1) hk h1
def Ko (y:Yard) (k:Nat):Prop:=∀ j (hj:j<y.runs.length),j<k->Hd y.runs[j]/\Dk y y.runs[j].id=j/\Ki y.now y.runs[j] (Cf y)
theorem Ae6 {y:Yard} {k:Nat} (h:Ko y k) (hk:k<y.runs.length) (h1:Hd y.runs[k]) (h2:Dk y y.runs[k].id=k) (h3:Ki y.now y.runs[k] (Cf y)):Ko y (k+1):=by
 intro j hj fS;by_cases e:j=k
 ·subst e;exact ⟨h1,h2,h3⟩
 ·exact h j hj Bl
theorem Ad9 {y:Yard} (h1:inB y.now 0 999999980=true) (h2:inB y.seq 1 1000000000=true) (h3:y.shelf.length=4) (h4:∀ k (hk:k<y.shelf.length),H9 y.shelf[k]) (h5:Ni y.seq (Cf y) (Cf y).length) (h6:y.runs.length<=8) (h7:Ko y y.runs.length) :
  Dh y ↔ Gp y<=40:=by
 constructor
 ·intro h;exact h.2.2.2.2.2.2.2.2.2
 ·intro h;refine ⟨Cw.1 h1,Cw.1 h2,h3,fun l hl=>?_,fun e he=>?_,Se (fun j hj=>(h5 j hj hj).2),h6,fun k hk=>⟨(h7 k hk hk).1,(h7 k hk hk).2.1⟩,fun r hr=>?_,h⟩
  ·obtain ⟨k,hk,rfl⟩:=List.getElem_of_mem hl;exact h4 k hk
  ·obtain ⟨k,hk,rfl⟩:=List.getElem_of_mem he;exact (h5 k hk hk).1
  ·obtain ⟨k,hk,rfl⟩:=List.getElem_of_mem hr;exact (h7 k hk hk).2.2
theorem Fw (y:Yard) (s:Sl×Sl) (w:World) (hl:Ca y<=2000000) (h:Bv.rd w w y s) :
  Calls Am 68 #[Dm y s] w fun e w'=>e = .returned (.bool (tf (Dh y)))/\Below w w w':=by
 have HR:=Bq (show ∀ W,Below w w W->Bv.rd W W y s from fun W hW=>Bv.rd_more (Bv.rd_below h hW) hW.size);obtain ⟨⟨A1,n1,c1⟩,⟨A2,n2,c2⟩⟩:=s;obtain rfl:n1=y.shelf.length:=RdL.at1 (s:=⟨A1,n1,c1⟩) h.1;obtain rfl:n2=y.runs.length:=RdL.at1 (s:=⟨A2,n2,c2⟩) h.2;have h1:RdL (Dt.list Bx) w w (Aa A1 y.shelf.length c1) y.shelf:=h.1;have h2:RdL Ce w w (Aa A2 y.runs.length c2) y.runs:=h.2;have bZ:y.runs.length<=2000000:=Ah (Cj Cn _) (by unfold Ca at hl;omega);have hls:y.shelf.length<=2000000:=Ah (Cj Cl _) (by unfold Ca at hl;omega);have HE:=Bq (show ∀ k (hk:k<y.shelf.length),y.shelf[k].length<=2000000 from fun k hk=>by
  have:=C9 (cnt:=Cl) (Aw hk)
  have h2:y.shelf[k].length<=Cl y.shelf[k]:=Cj Dw _;unfold Ca at hl;omega)
 have HC:=Bq (show ∀ k (hk:k<y.runs.length),Cn y.runs[k]<=2000000 from fun k hk=>by
  have:=C9 (cnt:=Cn) (Aw hk)
  unfold Ca at hl;omega)
 have HEn:=Bq (show (Cf y).length<=2000000 by
  have:=Ib y.shelf y.shelf.length
  rw [List.take_length] at this;unfold Ca at hl;unfold Cf;omega)
 have kR:=Aa6 hl;clear h;have X:=DBox.new 27 [J U y.now,J U y.seq,Aa A1 y.shelf.length c1,Aa A2 y.runs.length c2] w (b:=w) rfl;have B0:Below w w (w.alloc (.cells #[J U y.now,J U y.seq,Aa A1 y.shelf.length c1,Aa A2 y.runs.length c2] 27)):=by repeat (first | exact Br _ _ | refine Ae ?_ Bo _)
 cases a1:inB y.now 0 999999980;case false =>
  have H:=Bq (Ci (show ¬ Dh y from fun h=>by have:=Cw.2 h.1;rw [a1] at this;cases this));go_enter func68,ntmps68;go_wp2_with (go_at_call 56;refine (Co _ _ _ _).mono ?_;rintro e w' ⟨rfl,rfl⟩)
  go_ret;exact ⟨Bw H.out.symm,B0⟩
 cases a2:inB y.seq 1 1000000000;case false =>
  have H:=Bq (Ci (show ¬ Dh y from fun h=>by have:=Cw.2 h.2.1;rw [a2] at this;cases this));go_enter func68,ntmps68;go_wp2_with (go_at_call 56;refine (Co _ _ _ _).mono ?_;rintro e w' ⟨rfl,rfl⟩)
  go_ret;exact ⟨Bw H.out.symm,B0⟩
 by_cases a3:y.shelf.length=4;case neg =>
  have a3':((y.shelf.length:Int) != 4)=true:=by simp;omega
  have H:=Bq (Ci (show ¬ Dh y from fun h=>a3 h.2.2.1));clear a3;go_enter func68,ntmps68;go_wp2_with (go_at_call 56;refine (Co _ _ _ _).mono ?_;rintro e w' ⟨rfl,rfl⟩)
  go_ret;exact ⟨Bw H.out.symm,B0⟩
 have a3':((y.shelf.length:Int) != 4)=false:=by simp [a3]
 have A3_:=Bq a3;clear a3;by_cases a4:y.runs.length<=8;case neg =>
  have a4':(8:Int)<(y.runs.length:Int):=Bl;have H:=Bq (Ci (show ¬ Dh y from fun h=>a4 h.2.2.2.2.2.2.1));clear a4;go_enter func68,ntmps68;go_wp2_with (go_at_call 56;refine (Co _ _ _ _).mono ?_;rintro e w' ⟨rfl,rfl⟩)
  go_ret;exact ⟨Bw H.out.symm,B0⟩
 have a4':¬ (8:Int)<(y.runs.length:Int):=Bl;have hqb:=Cw.1 a2;have vA:=Cw.1 a1;go_enter func68,ntmps68;go_wp2_with (go_at_call 56;refine (Co _ _ _ _).mono ?_;rintro e w' ⟨rfl,rfl⟩)
 generalize (w.alloc (.cells #[J U y.now,J U y.seq,Aa A1 y.shelf.length c1,Aa A2 y.runs.length c2] 27))=W at *
 have A1_:=Bq a1;have A2_:=Bq a2;clear a1 a2 a3' a4';go_loopw [36] (fun i wr=>∃ k:Nat,k<=y.shelf.length/\i = J U k/\Hid (∀ j (hj:j<y.shelf.length),j<k->H9 y.shelf[j])/\Below W W wr) (fun i _=>y.shelf.length - (intOf i).toNat);case atStart=>exact ⟨0,Ag _,rfl,fun j _ h0=>absurd h0 Bl,Br _ _⟩
 case round =>
  obtain ⟨k,hk,rfl,bL,hb⟩:=hrel;replace X:=X.below hb;replace B0:=Bu B0 hb;by_cases aA:k<y.shelf.length
  ·have aB:(k:Int)<(y.shelf.length:Int):=Bl;obtain ⟨b,o,⟨As,ns,cs⟩,mM,aK,hr,d0⟩:=(h1.below B0).entryS aA;obtain rfl:ns=y.shelf[k].length:=RdL.at1 (s:=⟨As,ns,cs⟩) hr;subst mM;have C:=S0 y.shelf[k] ⟨As,y.shelf[k].length,cs⟩ wr (HE.out k aA) (hr.more B0.size);by_cases q:H9 y.shelf[k]
   ·have S:Hid (∀ j (hj:j<y.shelf.length),j<k+1->H9 y.shelf[j]):=fun j hj fS=>by
     by_cases e:j=k
     ·subst e;exact q
     ·exact bL.out j hj Bl
    rw [Dp q] at C;clear q;go_wp2_with fail
    refine C.mono ?_;rintro e w2 ⟨rfl,b2⟩;go_wp2;first
     | exact ⟨⟨k+1,Bl,by go_num,S,Bu hb b2⟩,by simp [intOf];omega⟩
     | (refine ⟨?_,by simp [intOf];omega⟩;(repeat apply Exists.intro);first | exact ⟨⟨k+1,Bl,by go_num,S,Bu hb b2⟩,rfl⟩ | exact ⟨⟨k+1,Bl,by go_num,S,Bu hb b2⟩,rfl,rfl⟩ | exact ⟨⟨k+1,Bl,by go_num,S,Bu hb b2⟩,rfl,rfl,rfl⟩ | exact ⟨⟨k+1,Bl,by go_num,S,Bu hb b2⟩,rfl,rfl,rfl,rfl⟩ | exact ⟨⟨k+1,Bl,by go_num,S,Bu hb b2⟩,rfl,rfl,rfl,rfl,rfl⟩ | exact ⟨⟨k+1,Bl,by go_num,S,Bu hb b2⟩,rfl,rfl,rfl,rfl,rfl,rfl⟩ | exact ⟨⟨k+1,Bl,by go_num,S,Bu hb b2⟩,rfl,rfl,rfl,rfl,rfl,rfl,rfl⟩)
   ·have H:=Bq (Ci (show ¬ Dh y from fun h=>q (h.2.2.2.1 _ (Aw aA))));rw [Ci q] at C;clear q;go_wp2_with fail
    refine C.mono ?_;rintro e w2 ⟨rfl,b2⟩;go_wp2;go_ret;exact ⟨Bw H.out.symm,Bu B0 b2⟩
  ·have aB:¬ (k:Int)<(y.shelf.length:Int):=Bl;have HS:Hid (∀ k (hk:k<y.shelf.length),H9 y.shelf[k]):=fun j hj=>bL.out j hj Bl;have C:=Nv y (⟨A1,y.shelf.length,c1⟩,⟨A2,y.runs.length,c2⟩) wr hl (HR.out _ B0);obtain ⟨X_0,X_1,X_2,X_3,X_l⟩:=X.g4;go_wp2_with fail
   refine C.mono ?_;rintro e w2 ⟨v,rfl,o2,b2⟩;replace X:=X.below b2;replace B0:=Bu B0 b2;clear X_0 X_1 X_2 X_3 X_l bL aA aB hb;have O2:=Rd.of_own o2;clear o2;obtain ⟨A3,c3,rfl,-⟩:=id O2;have qK:=HEn.out;obtain ⟨j0,cJ,jz0,jz1,jz2⟩:=info_parts K0;go_wp2;go_loopw [6,48] (fun vl i wr=>∃ k:Nat,k<=(Cf y).length/\i = J U k/\Ow Eu 3 wr w2 vl (I2 (Cf y) k)/\Hid (Ni y.seq (Cf y) k)/\Below w2 w2 wr) (fun _ i _=>(Cf y).length - (intOf i).toNat);case atStart=>exact ⟨0,Ag _,rfl,by simpa [I2] using Ow.nil Eu 3 w2 w2.heap.size,fun j _ h0=>absurd h0 Bl,Br _ _⟩
   case round =>
    obtain ⟨k,hk,rfl,om,bL,hb⟩:=hrel;replace X:=X.below hb;replace B0:=Bu B0 hb;obtain ⟨X_0,X_1,X_2,X_3,X_l⟩:=X.g4;have hsn:=Ae3 (Cf y) k;by_cases aA:k<(Cf y).length
    ·have aB:(k:Int)<((Cf y).length:Int):=Bl;obtain ⟨b,o,_,kK,aK,_,d0,d1,d2,d3⟩:=RdL.entry (Lc (O2.below hb)) aA;subst kK;have bS:b<wr:=Ai aK hb.size;have hE:Hid (∀ wr:World,Below wr wr (wr.alloc (.cells #[J U (Cf y)[k].prio,J U (Cf y)[k].seq,J U (Cf y)[k].run,J U (Cf y)[k].task] 163))):=fun wr=>Bt;obtain ⟨A7,c7,rfl,-⟩:=id (Rd.of_own om);have w1':U.wrap (y.seq - 1)=y.seq - 1:=Aq _ Bl;have HB1:=Bq (Ae4 (y:=y) aA);have HB2:=Bq (Ae5 (y:=y) aA);have HSt:=Bq (Xq (q:=y.seq) bL.out aA);have HSq:=Bq (Vc (Cf y) k aA);cases q1:inB (Cf y)[k].seq 1 (y.seq - 1)
     ·have H:=Bq (Ci (HB1.out q1));go_wp2_with (go_at_call 56;refine (Co _ _ _ _).mono ?_;rintro e w' ⟨rfl,rfl⟩)
      go_ret;exact ⟨Bw H.out.symm,Bu B0 (hE.out _)⟩
     have q1b:=Cw.1 q1;generalize hx:(Cf y)[k].seq=x at *
     obtain ⟨n,rfl⟩:=Int.eq_ofNat_of_zero_le (show 0<=x by omega);have hn:Hid ((n:Int).toNat=n):=Int.toNat_natCast n;have HX:=Bq hx;clear hx;by_cases q2:n∈I2 (Cf y) k
     ·have H:=Bq (Ci (HB2.out (by rw [hn.out];exact q2)));have C:=K5 _ (I2 (Cf y) k) n _ _ Bl (Rd.of_own (om.below (hE.out wr)));rw [decide_eq_true q2] at C;clear q2;go_wp2_with (first | (go_at_call 56;refine (Co _ _ _ _).mono ?_;rintro e w' ⟨rfl,rfl⟩) | (go_at_call 134;refine C.mono ?_;rintro e w' ⟨rfl,rfl⟩))
      go_ret;exact ⟨Bw H.out.symm,Bu B0 (hE.out _)⟩
     ·have S:=Bq (HSt.out q1 (by rw [hn.out];exact q2));have C:=K5 _ (I2 (Cf y) k) n _ _ Bl (Rd.of_own (om.below (hE.out wr)));rw [decide_eq_false q2] at C;clear q2;have ha:Hid (∀ w:World,Below w w ((w.alloc (.cells #[J U (Cf y)[k].prio,J U (n:Int),J U (Cf y)[k].run,J U (Cf y)[k].task] 163)).alloc (.cells #[J U (n:Int)] 3))):=fun w=>(Bt).alloc Bn _;go_wp2_with (first | (go_at_call 56;refine (Co _ _ _ _).mono ?_;rintro e w' ⟨rfl,rfl⟩) | (go_at_call 134;refine C.mono ?_;rintro e w' ⟨rfl,rfl⟩) | (at_builtin;refine Ch _ Eu Bp rfl (.tmp 65) (.tmp 68) rfl underlying32 cJ jz0 jz1 jz2 rfl (l:=I2 (Cf y) k) rfl (om.below (ha.out wr)) rfl (Rd.one Eu _ _ n Bn rfl 1 (Bs _) (Nat.lt_succ_self _)) Bl Bn Bp (by have:=hb.size;simp;omega) ?_;intro v5 w5 o5 g5 _))
      have aV:=Bu hb (ha.out wr);have W5:=aV.grown g5 aV.size (fun g hg=>by have:=om.within _ hg;omega);have o6:Ow Eu 3 w5 w2 v5 (I2 (Cf y) (k+1)):=by rw [HSq.out,hn.out];exact o5
      first
       | exact ⟨⟨k+1,Bl,by go_num,o6,S,W5⟩,by simp [intOf];omega⟩
       | (refine ⟨?_,by simp [intOf];omega⟩;(repeat apply Exists.intro);first | exact ⟨⟨k+1,Bl,by go_num,o6,S,W5⟩,rfl⟩ | exact ⟨⟨k+1,Bl,by go_num,o6,S,W5⟩,rfl,rfl⟩ | exact ⟨⟨k+1,Bl,by go_num,o6,S,W5⟩,rfl,rfl,rfl⟩ | exact ⟨⟨k+1,Bl,by go_num,o6,S,W5⟩,rfl,rfl,rfl,rfl⟩ | exact ⟨⟨k+1,Bl,by go_num,o6,S,W5⟩,rfl,rfl,rfl,rfl,rfl⟩ | exact ⟨⟨k+1,Bl,by go_num,o6,S,W5⟩,rfl,rfl,rfl,rfl,rfl,rfl⟩ | exact ⟨⟨k+1,Bl,by go_num,o6,S,W5⟩,rfl,rfl,rfl,rfl,rfl,rfl,rfl⟩)
    ·have aB:¬ (k:Int)<((Cf y).length:Int):=Bl;have HO:Hid (Ni y.seq (Cf y) (Cf y).length):=fun j hj hj2=>bL.out j hj Bl;go_wp2;replace O2:=O2.below hb;clear X_0 X_1 X_2 X_3 X_l bL aA aB om hsn;have hsb:=hb.size;clear hb;obtain ⟨w6,hw6⟩:∃ w6,w6=wr:=⟨_,rfl⟩
     rw [<-hw6] at X B0 O2 hsb ⊢;clear hw6;go_loopw [74] (fun i wr=>∃ k:Nat,k<=y.runs.length/\i = J U k/\Hid (Ko y k)/\Below w6 w6 wr) (fun i _=>y.runs.length - (intOf i).toNat);case atStart=>exact ⟨0,Ag _,rfl,fun j _ h0=>absurd h0 Bl,Br _ _⟩
     case round =>
      obtain ⟨k,hk,rfl,bL,hb⟩:=hrel;replace X:=X.below hb;replace B0:=Bu B0 hb;by_cases aA:k<y.runs.length
      ·have aB:(k:Int)<(y.runs.length:Int):=Bl;obtain ⟨b,o,⟨⟨A8,n8,c8⟩,⟨At,nt,ct⟩⟩,eN,aK,cM,e0,e1,e2,e3,e4,e5,e6,e7⟩:=(h2.below B0).run aA;subst eN;have bS:b<wr:=Ai aK B0.size;have HRr:=Bq (show ∀ W,Below wr wr W->Ce.rd W W y.runs[k] (⟨A8,n8,c8⟩,⟨At,nt,ct⟩) from fun W hW=>Ce.rd_more (Ce.rd_below (Ce.rd_more cM B0.size) hW) hW.size);have mY:=HC.out k aA;have ha:Below wr wr (wr.alloc (.cells #[J U y.runs[k].id,J U y.runs[k].plan.prio,J U y.runs[k].plan.most,J U y.runs[k].plan.wait,J U y.runs[k].plan.tasks,Aa A8 n8 c8,J U y.runs[k].state,Aa At nt ct] 167)):=Bt;have R:=DBox.new 167 [J U y.runs[k].id,J U y.runs[k].plan.prio,J U y.runs[k].plan.most,J U y.runs[k].plan.wait,J U y.runs[k].plan.tasks,Aa A8 n8 c8,J U y.runs[k].state,Aa At nt ct] wr rfl;have C1:=Pn y.runs[k] (⟨A8,n8,c8⟩,⟨At,nt,ct⟩) _ mY (HRr.out _ ha);have HSt:=Bq (Ae6 bL.out aA);by_cases q1:Hd y.runs[k];case neg =>
        have H:=Bq (Ci (show ¬ Dh y from fun h=>q1 (h.2.2.2.2.2.2.2.1 k aA).1));rw [Ci q1] at C1;clear q1;go_wp2_with fail
        refine C1.mono ?_;rintro e w7 ⟨rfl,b7⟩;go_wp2;go_ret;exact ⟨Bw H.out.symm,Bu B0 (Bu ha b7)⟩
       rw [Dp q1] at C1;have HQ1:=Bq q1;have hwt:=Ad8 q1.2.1;have eW:y.runs[k].tasks.length<=2000000:=Ah (Cj Dz _) (by unfold Cn at mY;omega);clear q1;go_wp2_with fail
       refine C1.mono ?_;rintro e w7 ⟨rfl,b7⟩;replace R:=R.below b7;have ha7:=Bu ha b7;replace X:=X.below ha7;obtain ⟨X_0,X_1,X_2,X_3,X_l⟩:=X.g4;obtain ⟨R_0,R_1,R_2,R_3,R_4,R_5,R_6,R_7,R_l⟩:=R.g8;have C2:=E9 y (⟨A1,y.shelf.length,c1⟩,⟨Ac ⟨b,o,Ab⟩,y.runs.length,c2⟩) y.runs[k].id w7 hl (HR.out _ (Bu B0 ha7));by_cases q2:Dk y y.runs[k].id=k;case neg =>
        have H:=Bq (Ci (show ¬ Dh y from fun h=>q2 (h.2.2.2.2.2.2.2.1 k aA).2));have q2':(Dk y y.runs[k].id != (k:Int))=true:=by simp [q2]
        clear q2;go_wp2_with fail
        refine C2.mono ?_;rintro e w8 ⟨rfl,b8⟩;go_wp2;go_ret;exact ⟨Bw H.out.symm,Bu B0 (Bu ha7 b8)⟩
       rw [q2] at C2;have HQ2:=Bq q2;clear q2;have q2':((k:Int) != (k:Int))=false:=Bn;go_wp2_with fail
       refine C2.mono ?_;rintro e w8 ⟨rfl,b8⟩;have mQ:=Bu ha7 b8;replace X:=X.below b8;clear X_0 X_1 X_2 X_3 X_l;obtain ⟨X_0,X_1,X_2,X_3,X_l⟩:=X.g4;replace R:=R.below b8;clear R_0 R_1 R_2 R_3 R_4 R_5 R_6 R_7 R_l;obtain ⟨R_0,R_1,R_2,R_3,R_4,R_5,R_6,R_7,R_l⟩:=R.g8;have C3:=Wt y (⟨A1,y.shelf.length,c1⟩,⟨Ac ⟨b,o,Ab⟩,y.runs.length,c2⟩) y.runs[k] (⟨A8,n8,c8⟩,⟨At,nt,ct⟩) (Cf y) ⟨A3,(Cf y).length,c3⟩ w8 eW qK vA hwt (HRr.out _ mQ) ((O2.below ((Bu hb mQ).mono hsb)).more (Ah hsb (Bu hb mQ).size));by_cases q3:Ki y.now y.runs[k] (Cf y);case neg =>
        have H:=Bq (Ci (show ¬ Dh y from fun h=>q3 (h.2.2.2.2.2.2.2.2.1 _ (Aw aA))));rw [Ci q3] at C3;clear q3;go_wp2_with fail
        refine C3.mono ?_;rintro e w9 ⟨rfl,b9⟩;go_wp2;go_ret;exact ⟨Bw H.out.symm,Bu B0 (Bu mQ b9)⟩
       have S:=Bq (HSt.out HQ1.out HQ2.out q3);rw [Dp q3] at C3;clear q3;go_wp2_with fail
       refine C3.mono ?_;rintro e w9 ⟨rfl,b9⟩;go_wp2;first
        | exact ⟨⟨k+1,Bl,by go_num,S,Bu hb (Bu mQ b9)⟩,by simp [intOf];omega⟩
        | (refine ⟨?_,by simp [intOf];omega⟩;(repeat apply Exists.intro);first | exact ⟨⟨k+1,Bl,by go_num,S,Bu hb (Bu mQ b9)⟩,rfl⟩ | exact ⟨⟨k+1,Bl,by go_num,S,Bu hb (Bu mQ b9)⟩,rfl,rfl⟩ | exact ⟨⟨k+1,Bl,by go_num,S,Bu hb (Bu mQ b9)⟩,rfl,rfl,rfl⟩ | exact ⟨⟨k+1,Bl,by go_num,S,Bu hb (Bu mQ b9)⟩,rfl,rfl,rfl,rfl⟩ | exact ⟨⟨k+1,Bl,by go_num,S,Bu hb (Bu mQ b9)⟩,rfl,rfl,rfl,rfl,rfl⟩ | exact ⟨⟨k+1,Bl,by go_num,S,Bu hb (Bu mQ b9)⟩,rfl,rfl,rfl,rfl,rfl,rfl⟩ | exact ⟨⟨k+1,Bl,by go_num,S,Bu hb (Bu mQ b9)⟩,rfl,rfl,rfl,rfl,rfl,rfl,rfl⟩)
      ·have aB:¬ (k:Int)<(y.runs.length:Int):=Bl;have HRt:Hid (Ko y y.runs.length):=fun j hj _=>bL.out j hj Bl;have HF:=Bq (Ad9 A1_.out A2_.out A3_.out HS.out HO.out a4 HRt.out);have C:=Po y (⟨A1,y.shelf.length,c1⟩,⟨A2,y.runs.length,c2⟩) wr hl (HR.out _ B0);obtain ⟨X_0,X_1,X_2,X_3,X_l⟩:=X.g4;go_wp2_with fail
       refine C.mono ?_;rintro e w7 ⟨rfl,b7⟩;have HT:=Bq (show tf (Dh y)=decide ((Gp y:Int)<=40) by
        rw [Bool.eq_iff_iff,Mj,HF.out,decide_eq_true_eq];omega)
       generalize Gp y=N at *
       by_cases q:N<=40
       ·have H:=Bq (show tf (Dh y)=true by rw [HT.out];exact decide_eq_true Bl);go_wp2;go_ret;exact ⟨Bw (by rw [H.out];exact decide_eq_true Bl),Bu B0 b7⟩
       ·have H:=Bq (show tf (Dh y)=false by rw [HT.out];exact decide_eq_false Bl);go_wp2;go_ret;exact ⟨Bw (by rw [H.out];exact decide_eq_false Bl),Bu B0 b7⟩
def Hn (l:List Task) (t:Nat) (f:Task->Task):List Task:=l.set t (f (l.getD t ⟨0,0,0,0⟩))
theorem Of (l:List Task) (t:Nat) (f:Task->Task):(Hn l t f).length=l.length:=by unfold Hn;rw [Bh]
def Ej (p:Plan) (t:Nat):Task :=
 let n:=(D9 (D4 p) p.tasks.toNat t).length
 ⟨if n=0 then 2 else 1,n,0,0⟩
def Ck (id:Int) (p:Plan):Run:=⟨id,p,1,(List.range p.tasks.toNat).map (Ej p)⟩
theorem P8 (id:Int) (p:Plan):(Ck id p).tasks.length=p.tasks.toNat:=by unfold Ck;simp
def Dr (x:Task):Task:=⟨if x.need - 1=0 then 2 else x.state,x.need - 1,x.try_,x.until_⟩
def I4 (r:Run) (t:Nat):List Task:=(Fq (D4 r.plan) r.plan.tasks.toNat t).foldl (fun l b=>Hn l b Dr) (Hn r.tasks t fun x=>⟨4,x.need,x.try_,0⟩)
def Ji (r:Run) (t:Nat):Run:=⟨r.id,r.plan,stL (I4 r t),I4 r t⟩
def Dq (x:Task):Task:=if x.state≠4/\x.state≠5 then ⟨6,x.need,x.try_,0⟩ else x
def Dx (r:Run) (st:Int):Run:=⟨r.id,r.plan,st,r.tasks.map Dq⟩
def Dn (r:Run) (t:Nat):Run :=
 if (Cv r t).try_<r.plan.most then ⟨r.id,r.plan,r.state,Hn r.tasks t fun x=>⟨2,x.need,x.try_,0⟩⟩
 else Dx ⟨r.id,r.plan,r.state,Hn r.tasks t fun x=>⟨5,x.need,x.try_,0⟩⟩ 3
def Ee (r:Run) (t:Nat) (now:Int):Run:=⟨r.id,r.plan,r.state,Hn r.tasks t fun x=>⟨3,x.need,x.try_+1,now+r.plan.wait⟩⟩
def Lw (y:Yard) (r:Run) (t:Nat):Yard:=⟨y.now,y.seq+1,y.shelf.set (C6 r.id) (Jd (y.shelf.getD (C6 r.id) []) ⟨r.plan.prio,y.seq,r.id,t⟩),y.runs⟩
def N0 (was r:Run) (n:Nat):List Nat:=(List.range n).filter fun t=>(Cv r t).state == 2 && !((Cv was t).state == 2)
def Nj (y:Yard) (was r:Run):Yard:=(N0 was r r.tasks.length).foldl (fun y t=>Lw y r t) y
def G4:Run:=⟨0,⟨0,0,0,0,[]⟩,0,[]⟩
def Gd (y:Yard) (k:Nat) (r:Run):Yard:=Nj ⟨y.now,y.seq,y.shelf,y.runs.set k r⟩ (y.runs.getD k G4) r
theorem Vd (was r:Run) (n:Nat):N0 was r (n+1)=N0 was r n ++ (if (Cv r n).state=2 /\ ¬ (Cv was n).state=2 then [n] else []):=by
 unfold N0;rw [List.range_succ,List.filter_append];congr 1;by_cases h1:(Cv r n).state=2<;>by_cases h2:(Cv was n).state=2<;>simp [h1,h2]
theorem Adm (y:Yard) (r:Run) (t:Nat):(Lw y r t).shelf.length=y.shelf.length:=by unfold Lw;simp
theorem Qr (r:Run):∀ (l:List Nat) (y:Yard),(l.foldl (fun y t=>Lw y r t) y).now=y.now/\(l.foldl (fun y t=>Lw y r t) y).runs=y.runs/\(l.foldl (fun y t=>Lw y r t) y).shelf.length=y.shelf.length/\(l.foldl (fun y t=>Lw y r t) y).seq=y.seq+l.length
 | [],y=>⟨rfl,rfl,rfl,Bn⟩
 | t :: l,y=>by
  obtain ⟨h1,h2,h3,h4⟩:=Qr r l (Lw y r t);refine ⟨by rw [List.foldl_cons,h1];rfl,by rw [List.foldl_cons,h2];rfl,by rw [List.foldl_cons,h3,Adm],?_⟩;rw [List.foldl_cons,h4,List.length_cons,show (Lw y r t).seq=y.seq+1 from rfl];push_cast;omega
noncomputable def Cb (y:Yard) (i:Nat):Yard:=⟨y.now,y.seq,y.shelf.set i ((y.shelf.getD i []).filter fun e=>E0 y e),y.runs⟩
def Er (home draw:Int):List Nat :=
 let d:=(max draw 0 % 3).toNat
 (List.range 3).map fun i=>((home.toNat+1+(d+i) % 3) % 4)
noncomputable def Es (home:Nat) (y:Yard) (v:Nat):Yard :=
 if (y.shelf.getD home []).length=0 then
  let z:=Cb y v
  let l:=z.shelf.getD v []
  ⟨z.now,z.seq,(z.shelf.set v (l.drop (Dd l))).set home (Gq ((z.shelf.set v (l.drop (Dd l))).getD home []) (l.take (Dd l))),z.runs⟩
 else y
end Go.Proofs.YtonlnjdempbfoabGreat
