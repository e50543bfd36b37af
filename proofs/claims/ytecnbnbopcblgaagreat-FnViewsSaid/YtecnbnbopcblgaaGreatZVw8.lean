/-
  l10Lay of the reference: tasks are laid on their run's shelf. Written by program (ke.py). Shelves of the program: TakeEntry, HalfOf, Merged.  DeedOk of the prog
-/
import Derived.Test.YtecnbnbopcblgaaGreatZVw0
import Derived.Test.YtecnbnbopcblgaaGreatZVw1
import Derived.Test.YtecnbnbopcblgaaGreatZVw2
import Derived.Test.YtecnbnbopcblgaaGreatZVw3
import Derived.Test.YtecnbnbopcblgaaGreatZVw4
import Derived.Test.YtecnbnbopcblgaaGreatZVw7
import Derived.Deep.Cut
namespace Go.Proofs.YtecnbnbopcblgaaGreat
open Go.RowKit
set_option maxRecDepth 100000
set_option maxHeartbeats 4000000
set_option linter.unusedVariables false
set_option linter.unusedSimpArgs false
open Value renaming int->J,slice->Aa
open IntKind renaming i64->Ab
open Option renaming none->Ac,some->Ad
open Below renaming setCell->Ae,alloc->Af
open Nat renaming zero_le->Ah,le_trans->Ai
open Go renaming bodyPost_ret->Ak,wpQuiet_nil->Al
open Go.Proofs.Tryz renaming prog->An
open IntWalk renaming i64_in->Ar
open List renaming length_map->Au,mem_singleton->Aw,getElem_mem->Ax,nodup_append->Ay,mem_append_right->Be,mem_append_left->Bf,take_of_length_le->Bg,mem_append->Bi
open Go.Proofs.Tryz
def I6 (y:Yard) (was r:Run) (n:Nat):Yard:=(Gt was r n).foldl (fun y t=>J4 y r t) y
theorem Acz {y:Yard} {was r:Run} {n:Nat} (h1:(By r n).state=2) (h2:¬ (By was n).state=2):I6 y was r (n+1)=J4 (I6 y was r n) r n:=by
 unfold I6;rw [Wo,if_pos ⟨h1,h2⟩,List.foldl_append];rfl
theorem Afm {y:Yard} {was r:Run} {n:Nat} (h:¬ ((By r n).state=2 /\ ¬ (By was n).state=2)):I6 y was r (n+1)=I6 y was r n:=by
 unfold I6;rw [Wo,if_neg h,List.append_nil]
theorem Td (was r:Run) (n:Nat):(Gt was r n).length<=n:=by
 unfold Gt;exact Ai (List.length_filter_le _ _) Bn
theorem N1 (r:Run) (M:Nat):∀ (l:List Nat) (y:Yard),(∀ s∈y.shelf,s.length<=M) -> ∀ s∈(l.foldl (fun y t=>J4 y r t) y).shelf,s.length<=M+l.length
 | [],y,h=>fun s hs=>by simpa using h s hs
 | t :: l,y,h=>fun s hs=>by
  have h1:∀ s∈(J4 y r t).shelf,s.length<=M+1:=by
   intro s hs;unfold J4 at hs;rcases List.mem_or_eq_of_mem_set hs with h2 | h2
   ·exact Nat.le_succ_of_le (h s h2)
   ·subst h2;rw [Ach,List.getD_eq_getElem?_getD];cases q:y.shelf[Cz r.id]? with
    | none=>simp
    | some z=>have:=h z (List.mem_of_getElem? q);simp;omega
  have:=N1 r (M+1) l (J4 y r t) h1 s hs
  rw [List.length_cons];omega
structure LayF (y:Yard) (r:Run) (M n:Nat) (z:Yard):Prop where
 now:z.now=y.now
 runs:z.runs=y.runs
 len:z.shelf.length=y.shelf.length
 seq:y.seq<=z.seq/\z.seq<=y.seq+n
 all:∀ s∈z.shelf,s.length<=M+n
theorem Rf {y:Yard} {was r:Run} {M:Nat} (hM:∀ s∈y.shelf,s.length<=M) (n:Nat):LayF y r M n (I6 y was r n):=by
 obtain ⟨h1,h2,h3,h4⟩:=Ko r (Gt was r n) y;have h5:=Td was r n;exact ⟨h1,h2,h3,by unfold I6;rw [h4];omega,fun s hs=>Ai (N1 r M (Gt was r n) y hM s hs) Bl⟩
theorem Chg.high {F:List Nat} {a b:World} (h:Chg F a b) {g:Nat} (hg:a<=g) (o:Nat) (u:Value):Chg F a (b.setCell ⟨g,o,Ac⟩ u) :=
 ⟨h.os,h.tape,h.output,by simp [World.setCell];exact h.size,fun i hi hn=>(Below.heap_setCell b ⟨g,o,Ac⟩ u i (by show i≠g;omega)).trans (h.block i hi hn)⟩
theorem Chg.drew {F:List Nat} {a b:World} (h:Chg F a b):Chg F a b.drew:=⟨h.os,h.tape,h.output,h.size,h.block⟩
def Ais (z:Yard) (g o cs n:Nat) (R:Sl) (Fs:List Nat) (w:World) (e:Ending) (w':World):Prop :=
 ∃ F',e = .returned (Dh z (⟨Ad ⟨g,o,Ac⟩,n,cs⟩,R))/\OwL (Dt.list Ch) w' F' (Aa (Ad ⟨g,o,Ac⟩) n cs) z.shelf/\(∀ x∈F',x∈Fs\/w<=x)/\Chg [g] w w'
theorem OwL.free0 {α:Type} {d:Dt α} {w:World} {F:List Nat} {b o n c:Nat} {l:List α} (h:OwL d w F (Aa (Ad ⟨b,o,Ac⟩) n c) l) (hp:0<l.length):∀ j,w.frozen? ⟨b,j,Ac⟩=false:=by
 obtain ⟨rs,H,G,hm,hh,ho,rfl,hn⟩:=h;have kL:0<rs.length:=by rw [<-hm,Au] at hp;exact hp
 obtain ⟨b',o',hA,rfl,kG,hf⟩:=hh.at_ kL;simp only [Option.some.injEq,Addr.mk.injEq,and_true] at hA;obtain ⟨rfl,rfl⟩:=hA;exact hf
theorem Ait {b:Nat} {w:World} {u0 u1 u2 u3:Value} (X:DBox b [u0,u1,u2,u3] w) {v0 v1 v2 v3 v4 v5:Value} {rest:List Value} :
  (results Tryz.f240 (v0 :: v1 :: v2 :: v3 :: v4 :: v5 :: .pointer (Ad ⟨b,0,Ac⟩) :: rest).toArray).run An w = .ok (.agg #[u0,u1,u2,u3]) w:=by
 have c0:=X.cell 0 _ rfl;have c1:=X.cell 1 _ rfl;have c2:=X.cell 2 _ rfl;have c3:=X.cell 3 _ rfl;simp [results,results240,go_sem,c0,c1,c2,c3]
theorem Uc (y:Yard) (g o cs:Nat) (R:Sl) (was:Run) (sw:Sl×Sl) (r:Run) (sr:Sl×Sl) (w:World) (Fs:List Nat) (h4:y.shelf.length=4) (hM:∀ s∈y.shelf,s.length<=1000000) (hq:0<=y.seq/\y.seq<=2000000000) (hT:r.tasks.length<=1000) (qA:was.tasks.length<=1000)
  (hs:OwL (Dt.list Ch) w Fs (Aa (Ad ⟨g,o,Ac⟩) y.shelf.length cs) y.shelf)
  (HR:Hid (∀ W,Chg [g] w W->RdL Eu W W (Aa sr.2.a sr.2.n sr.2.c) r.tasks)) (HW:Hid (∀ W,Chg [g] w W->RdL Eu W W (Aa sw.2.a sw.2.n sw.2.c) was.tasks)) :
  Calls An 240 #[Dh y (⟨Ad ⟨g,o,Ac⟩,y.shelf.length,cs⟩,R),Hx was sw,Hx r sr] w (Ais (Ly y was r) g o cs y.shelf.length R Fs w):=by
 have eP:g<w:=by
  obtain ⟨b,o',s,hA,hb,_⟩:=hs.rd.entryS (k:=0) (by omega);simp only [Option.some.injEq,Addr.mk.injEq,and_true] at hA;omega
 have jE:=Bq hs.lt;have pX:Cz r.id<y.shelf.length:=by rw [h4];exact Q6 _
 obtain ⟨⟨ea,en,ec⟩,⟨ta,tn,tc⟩⟩:=sr;obtain ⟨⟨ea',en',ec'⟩,⟨ta',tn',tc'⟩⟩:=sw;have htn:tn=r.tasks.length:=RdL.at1 (s:=⟨ta,tn,tc⟩) (HR.out w (Chg.refl _ _));have htn':tn'=was.tasks.length:=RdL.at1 (s:=⟨ta',tn',tc'⟩) (HW.out w (Chg.refl _ _));subst htn htn';replace h4:=Bq h4;have Y:=(((DBox.new 31 [J Ab y.now,J Ab y.seq,Aa (Ad ⟨g,o,Ac⟩) y.shelf.length cs,Aa R.a R.n R.c] w (b:=w) rfl).below ((Br _ _).alloc (Bs _) (.cells #[J Ab was.id,J Ab was.plan.prio,J Ab was.plan.most,J Ab was.plan.wait,J Ab was.plan.tasks,Aa ea' en' ec',J Ab was.state,Aa ta' was.tasks.length tc'] 67))).below ((Br _ _).alloc (Bs _) (.cells #[J Ab r.id,J Ab r.plan.prio,J Ab r.plan.most,J Ab r.plan.wait,J Ab r.plan.tasks,Aa ea en ec,J Ab r.state,Aa ta r.tasks.length tc] 67))).below ((Br _ _).alloc (Bs _) (.cells #[J Ab 0,J Ab 0,Aa Ac 0 0,Aa Ac 0 0] 31));have WB:=((DBox.new 67 [J Ab was.id,J Ab was.plan.prio,J Ab was.plan.most,J Ab was.plan.wait,J Ab was.plan.tasks,Aa ea' en' ec',J Ab was.state,Aa ta' was.tasks.length tc'] (w.alloc (.cells #[J Ab y.now,J Ab y.seq,Aa (Ad ⟨g,o,Ac⟩) y.shelf.length cs,Aa R.a R.n R.c] 31)) (b:=w+1) Bn).below ((Br _ _).alloc (Bs _) (.cells #[J Ab r.id,J Ab r.plan.prio,J Ab r.plan.most,J Ab r.plan.wait,J Ab r.plan.tasks,Aa ea en ec,J Ab r.state,Aa ta r.tasks.length tc] 67))).below ((Br _ _).alloc (Bs _) (.cells #[J Ab 0,J Ab 0,Aa Ac 0 0,Aa Ac 0 0] 31));have RB:=(DBox.new 67 [J Ab r.id,J Ab r.plan.prio,J Ab r.plan.most,J Ab r.plan.wait,J Ab r.plan.tasks,Aa ea en ec,J Ab r.state,Aa ta r.tasks.length tc] ((w.alloc (.cells #[J Ab y.now,J Ab y.seq,Aa (Ad ⟨g,o,Ac⟩) y.shelf.length cs,Aa R.a R.n R.c] 31)).alloc (.cells #[J Ab was.id,J Ab was.plan.prio,J Ab was.plan.most,J Ab was.plan.wait,J Ab was.plan.tasks,Aa ea' en' ec',J Ab was.state,Aa ta' was.tasks.length tc'] 67)) (b:=w+1+1) Bn).below ((Br _ _).alloc (Bs _) (.cells #[J Ab 0,J Ab 0,Aa Ac 0 0,Aa Ac 0 0] 31));have RES:=DBox.new 31 [J Ab 0,J Ab 0,Aa Ac 0 0,Aa Ac 0 0] (((w.alloc (.cells #[J Ab y.now,J Ab y.seq,Aa (Ad ⟨g,o,Ac⟩) y.shelf.length cs,Aa R.a R.n R.c] 31)).alloc (.cells #[J Ab was.id,J Ab was.plan.prio,J Ab was.plan.most,J Ab was.plan.wait,J Ab was.plan.tasks,Aa ea' en' ec',J Ab was.state,Aa ta' was.tasks.length tc'] 67)).alloc (.cells #[J Ab r.id,J Ab r.plan.prio,J Ab r.plan.most,J Ab r.plan.wait,J Ab r.plan.tasks,Aa ea en ec,J Ab r.state,Aa ta r.tasks.length tc] 67)) (b:=w+1+1+1) Bn;have B0:Below w w ((((w.alloc (.cells #[J Ab y.now,J Ab y.seq,Aa (Ad ⟨g,o,Ac⟩) y.shelf.length cs,Aa R.a R.n R.c] 31)).alloc (.cells #[J Ab was.id,J Ab was.plan.prio,J Ab was.plan.most,J Ab was.plan.wait,J Ab was.plan.tasks,Aa ea' en' ec',J Ab was.state,Aa ta' was.tasks.length tc'] 67)).alloc (.cells #[J Ab r.id,J Ab r.plan.prio,J Ab r.plan.most,J Ab r.plan.wait,J Ab r.plan.tasks,Aa ea en ec,J Ab r.state,Aa ta r.tasks.length tc] 67)).alloc (.cells #[J Ab 0,J Ab 0,Aa Ac 0 0,Aa Ac 0 0] 31)):=by repeat (first | exact Br _ _ | refine Af ?_ Bo _)
 go_enter func240,ntmps240;go_wp2_with (go_at_call 290;refine (U9 r.id _).mono ?_;rintro e w1 ⟨rfl,b1⟩)
 replace Y:=Y.below b1;replace WB:=WB.below b1;replace RB:=RB.below b1;replace RES:=RES.below b1;replace B0:=Bv B0 b1;clear b1;generalize Dh y (⟨Ad ⟨g,o,Ac⟩,y.shelf.length,cs⟩,R)=yv;generalize Hx was (⟨ea',en',ec'⟩,⟨ta',was.tasks.length,tc'⟩)=wv;generalize Hx r (⟨ea,en,ec⟩,⟨ta,r.tasks.length,tc⟩)=rv;have C0:=Chg.of_below [g] B0;have uE:=hs.below B0;go_loopw [8] (fun i wr=>∃ (n:Nat) (F:List Nat),n<=r.tasks.length/\i = J Ab n/\Hid (OwL (Dt.list Ch) wr F (Aa (Ad ⟨g,o,Ac⟩) y.shelf.length cs) (I6 y was r n).shelf/\(∀ x∈F,x∈Fs\/w+4<=x))/\DBox w [J Ab y.now,J Ab (I6 y was r n).seq,Aa (Ad ⟨g,o,Ac⟩) y.shelf.length cs,Aa R.a R.n R.c] wr/\DBox (w+1) [J Ab was.id,J Ab was.plan.prio,J Ab was.plan.most,J Ab was.plan.wait,J Ab was.plan.tasks,Aa ea' en' ec',J Ab was.state,Aa ta' was.tasks.length tc'] wr/\DBox (w+1+1) [J Ab r.id,J Ab r.plan.prio,J Ab r.plan.most,J Ab r.plan.wait,J Ab r.plan.tasks,Aa ea en ec,J Ab r.state,Aa ta r.tasks.length tc] wr/\DBox (w+1+1+1) [J Ab 0,J Ab 0,Aa Ac 0 0,Aa Ac 0 0] wr/\Chg [g] w wr) (fun i _=>r.tasks.length - (intOf i).toNat);case atStart=>exact ⟨0,Fs,Ah _,rfl,⟨uE,fun x hx=>.inl hx⟩,Y,WB,RB,RES,C0⟩
 case round =>
  clear Y WB RB RES C0 uE B0;obtain ⟨n,F,hn,rfl,hO,Y,WB,RB,RES,hb⟩:=hrel;have hf:=Rf (was:=was) (r:=r) hM n;obtain ⟨Y_0,Y_1,Y_2,Y_3,Y_l⟩:=Y.g4;have WB_:=WB.g8;obtain ⟨RB_0,RB_1,RB_2,RB_3,RB_4,RB_5,RB_6,RB_7,RB_l⟩:=RB.g8;obtain ⟨RES_0,RES_1,RES_2,RES_3,RES_l⟩:=RES.g4;by_cases aB:n<r.tasks.length;case neg =>
   have aC:¬ (n:Int)<(r.tasks.length:Int):=Bl;obtain rfl:n=r.tasks.length:=Bl;have HE:Hid (I6 y was r r.tasks.length=Ly y was r):=rfl;have rf:=RES.free;go_wp2;have R4:=DBox.row4 RES rfl (J Ab y.now) (J Ab (I6 y was r r.tasks.length).seq) (Aa (Ad ⟨g,o,Ac⟩) y.shelf.length cs) (Aa R.a R.n R.c);refine Ak (Ait R4) rfl ⟨F,?_,?_,?_,?_⟩
   ·rw [<-HE.out,<-hf.now]
   ·rw [<-HE.out];have hn3:w.heap.size+1+1+1∉F:=fun hx=>by rcases hO.out.2 _ hx with h | h;(have:=jE.out _ h;omega);omega
    exact (((hO.out.1.set (a:=⟨_,_,Ac⟩) hn3 _).set (a:=⟨_,_,Ac⟩) hn3 _).set (a:=⟨_,_,Ac⟩) hn3 _).set (a:=⟨_,_,Ac⟩) hn3 _
   ·exact fun x hx=>(hO.out.2 x hx).imp id (fun h=>Bl)
   ·exact (((hb.high Bl _ _).high Bl _ _).high Bl _ _).high Bl _ _
  have aC:(n:Int)<(r.tasks.length:Int):=Bl;have uS:(0:Int)<=(n:Int):=Bl;obtain ⟨b1,o1,_,rfl,aH,_,c0,-,-,-⟩:=(HR.out wr hb).task aB;have ht:=Bq (Co aB);by_cases q1:r.tasks[n].state=2;case neg =>
   have q2:(r.tasks[n].state != 2)=true:=by simp [q1]
   have aF:=Bq (Afm (y:=y) (was:=was) (r:=r) (n:=n) (fun h=>by rw [ht.out] at h;exact q1 h.1));clear q1;go_wp2;exact ⟨⟨n+1,F,Bl,by go_num,by rw [aF.out];exact hO,by rw [aF.out];exact Y,WB,RB,RES,hb⟩,clM⟩
  have q2:(r.tasks[n].state != 2)=false:=by simp [q1]
  have pV:=Bq (show (By r n).state=2 by rw [ht.out];exact q1);clear q1;by_cases sL:n<was.tasks.length
  ·have hlwI:(n:Int)<(was.tasks.length:Int):=Bl;obtain ⟨b2,o2,_,rfl,mD,_,d0,-,-,-⟩:=(HW.out wr hb).task sL;have tN:=Bq (Co sL);by_cases q3:was.tasks[n].state=2
   ·have q4:(was.tasks[n].state == 2)=true:=by simp [q3]
    have aF:=Bq (Afm (y:=y) (was:=was) (r:=r) (n:=n) (fun h=>by rw [tN.out] at h;exact h.2 q3));clear q3;go_wp2;exact ⟨⟨n+1,F,Bl,by go_num,by rw [aF.out];exact hO,by rw [aF.out];exact Y,WB,RB,RES,hb⟩,clM⟩
   ·have q4:(was.tasks[n].state == 2)=false:=by simp [q3]
    have aF:=Bq (Acz (y:=y) pV.out (show ¬ (By was n).state=2 by rw [tN.out];exact q3));clear q3;have kN:Cz r.id<(I6 y was r n).shelf.length:=by rw [hf.len];exact pX
    obtain ⟨b9,o9,sk,cG,hbb9,bR,ck⟩:=hO.out.1.rd.entryS kN;simp only [Option.some.injEq,Addr.mk.injEq,and_true] at cG;obtain ⟨rfl,rfl⟩:=cG;have gJ:((Cz r.id:Nat):Int)<(y.shelf.length:Int):=Bl;have dF:(0:Int)<=((Cz r.id:Nat):Int):=Bl;have qU:(I6 y was r n).shelf[Cz r.id].length<=2000000:=by have:=hf.all _ (Ax kN);omega
    have dC:=Bq (show (I6 y was r n).shelf.getD (Cz r.id) []=(I6 y was r n).shelf[Cz r.id] by rw [List.getD_eq_getElem?_getD,List.getElem?_eq_getElem kN];rfl);have fB:=hO.out.1.free0 Bl;have CP:=Bq (K4 (I6 y was r n).shelf[Cz r.id] sk ⟨r.plan.prio,(I6 y was r n).seq,r.id,n⟩ wr.drew qU (bR.below (Br _ _).drew));go_wp2;refine Dl (fun w'=>w'.cell? ⟨w,1,Ac⟩=Ad (J Ab (I6 y was r n).seq)/\w'.cell? ⟨w,2,Ac⟩=Ad (Aa (Ad ⟨g,o,Ac⟩) y.shelf.length cs)/\w'.cell? ⟨w+1+1,0,Ac⟩=Ad (J Ab r.id)/\w'.cell? ⟨w+1+1,1,Ac⟩=Ad (J Ab r.plan.prio)/\w'.cell? ⟨g,o+Cz r.id,Ac⟩=Ad (Aa sk.a sk.n sk.c)) 19 Bm ?_ (fun aA=>?_)
    ·exact ⟨Y_1,Y_2,RB_0,RB_1,ck⟩
    refine aT 0 aA ?_;try simp only [pS]
    refine aT 1 aA ?_;try simp only [pS]
    refine aT 2 aA ?_;try simp only [pS]
    refine aT 3 aA ?_;try simp only [pS]
    refine aT 4 aA ?_;try simp only [pS]
    refine aT 5 aA ?_;try simp only [pS]
    refine aT 6 aA ?_;try simp only [pS]
    refine aT 7 aA ?_;try simp only [pS]
    refine aT 8 aA ?_;try simp only [pS]
    refine aT 9 aA ?_;try simp only [pS]
    refine aT 10 aA ?_;try simp only [pS]
    refine aT 11 aA ?_;try simp only [pS]
    refine aT 12 aA ?_;try simp only [pS]
    refine aT 13 aA ?_;try simp only [pS]
    refine aT 14 aA ?_;try simp only [pS]
    refine aT 15 aA ?_;try simp only [pS]
    refine aT 16 aA ?_;try simp only [pS]
    refine oT 17 (fun K hK=>?_)
    (go_simp;refine CP.out.mono ?_;rintro e w2 ⟨t2,F2,rfl,o2,n2,b2⟩;have hgs:w2.cell? ⟨g,o+Cz r.id,Ac⟩=Ad (Aa sk.a sk.n sk.c):=(b2.cell (p:=⟨_,_,Ac⟩) (by show g<wr;have:=hb.size;omega)).trans ck;have pL:w2.frozen? ⟨g,o+Cz r.id,Ac⟩=false:=(b2.frozen (p:=⟨_,_,Ac⟩) (by show g<wr;have:=hb.size;omega)).trans (fB _))
    refine hK.out _ _ (fun _=>?_) ?_
    ·exact ⟨(b2.cell (p:=⟨_,_,Ac⟩) (by show w.heap.size<wr.heap.size;omega)).trans Y_1,(b2.cell (p:=⟨_,_,Ac⟩) (by show w.heap.size<wr.heap.size;omega)).trans Y_2,(b2.cell (p:=⟨_,_,Ac⟩) (by show w.heap.size+1+1<wr.heap.size;omega)).trans RB_0,(b2.cell (p:=⟨_,_,Ac⟩) (by show w.heap.size+1+1<wr.heap.size;omega)).trans RB_1,(b2.cell (p:=⟨_,_,Ac⟩) (by show g<wr;have:=hb.size;omega)).trans ck⟩
    clear hK K;try simp only [pS]
    refine oT 18 (fun K hK=>?_);go_simp;refine hK.out _ _ (fun _=>?_) ?_
    ·exact ⟨(b2.cell (p:=⟨_,_,Ac⟩) (by show w.heap.size<wr.heap.size;omega)).trans Y_1,(b2.cell (p:=⟨_,_,Ac⟩) (by show w.heap.size<wr.heap.size;omega)).trans Y_2,(b2.cell (p:=⟨_,_,Ac⟩) (by show w.heap.size+1+1<wr.heap.size;omega)).trans RB_0,(b2.cell (p:=⟨_,_,Ac⟩) (by show w.heap.size+1+1<wr.heap.size;omega)).trans RB_1,(b2.cell (p:=⟨_,_,Ac⟩) (by show g<wr;have:=hb.size;omega)).trans ck⟩
    clear hK K;try simp only [pS]
    refine oT 19 (fun K hK=>?_);go_simp;refine hK.out _ _ (fun aE=>absurd rfl aE) ?_;clear hK K;try simp only [pS]
    refine Eb Bm ?_ _;have b2':Below wr wr w2:=Bv (Br _ _).drew b2;obtain ⟨F',p1,p2,p3,p4⟩:=OwL.swap (hO.out.1.below b2') kN (y:=Ip (I6 y was r n).shelf[Cz r.id] ⟨r.plan.prio,(I6 y was r n).seq,r.id,n⟩) (s:=t2) (Fy:=F2) o2 (fun x hx bF=>by have h1:=n2 x hx;have h2:=hO.out.1.lt x bF;have h3:wr.drew.heap.size=wr.heap.size:=rfl;omega);have fD:Is w2 g (o+Cz r.id * (Dt.list Ch).enc.sz) ((Dt.list Ch).enc.cells (Ip (I6 y was r n).shelf[Cz r.id] ⟨r.plan.prio,(I6 y was r n).seq,r.id,n⟩,t2))=w2.setCell ⟨g,o+Cz r.id,Ac⟩ (Aa t2.a t2.n t2.c):=by
     rw [show (Dt.list Ch).enc.sz=1 from rfl,Nat.mul_one];rfl
    rw [fD] at p1;have B3:Chg [g] w (w2.setCell ⟨g,o+Cz r.id,Ac⟩ (Aa t2.a t2.n t2.c)):=(hb.trans (Chg.of_below [g] b2')).trans (Chg.setCell w2 g _ _);have bJ:=RES_l;clear Y_0 Y_1 Y_2 Y_3 Y_l;clear WB_;clear RB_0 RB_1 RB_2 RB_3 RB_4 RB_5 RB_6 RB_7 RB_l;clear RES_0 RES_1 RES_2 RES_3 RES_l;replace Y:=(Y.below b2').setOther (a:=⟨g,o+Cz r.id,Ac⟩) (by show w.heap.size≠g;omega) (Aa t2.a t2.n t2.c);replace WB:=(WB.below b2').setOther (a:=⟨g,o+Cz r.id,Ac⟩) (by show w.heap.size+1≠g;omega) (Aa t2.a t2.n t2.c);replace RB:=(RB.below b2').setOther (a:=⟨g,o+Cz r.id,Ac⟩) (by show w.heap.size+1+1≠g;omega) (Aa t2.a t2.n t2.c);replace RES:=(RES.below b2').setOther (a:=⟨g,o+Cz r.id,Ac⟩) (by show w.heap.size+1+1+1≠g;omega) (Aa t2.a t2.n t2.c);generalize w2.setCell ⟨g,o+Cz r.id,Ac⟩ (Aa t2.a t2.n t2.c)=w3 at *
    have jZ:=hf.seq;have y1:=Y.cell 1 _ rfl;have yf:=Y.free;have yl:=Y.lt;have uL:w.heap.size∉F':=fun hx=>by rcases p2 _ hx with h | h;(rcases hO.out.2 _ h with h | h;(have:=jE.out _ h;omega);omega);(have:=n2 _ h;have h3:wr.drew.heap.size=wr.heap.size:=rfl;omega)
    clear aA;go_wp2;exact ⟨⟨n+1,F',Bl,by go_num,⟨by rw [aF.out];unfold J4;rw [dC.out];exact p1.set (a:=⟨w,1,Ac⟩) uL _,fun x hx=>by rcases p2 x hx with h | h;exact hO.out.2 x h;right;have:=n2 _ h;have h3:wr.drew.heap.size=wr.heap.size:=rfl;omega⟩,by rw [aF.out];exact Y.set 1 Bn _,WB.setOther (by show w.heap.size+1≠w.heap.size;omega) _,RB.setOther (by show w.heap.size+1+1≠w.heap.size;omega) _,RES.setOther (by show w.heap.size+1+1+1≠w.heap.size;omega) _,B3.high (Bs _) _ _⟩,clM⟩
  ·have hlwI:¬ (n:Int)<(was.tasks.length:Int):=Bl;have aF:=Bq (Acz (y:=y) pV.out (show ¬ (By was n).state=2 by unfold By;rw [List.getD_eq_getElem?_getD,List.getElem?_eq_none Bl];simp));have kN:Cz r.id<(I6 y was r n).shelf.length:=by rw [hf.len];exact pX
   obtain ⟨b9,o9,sk,cG,hbb9,bR,ck⟩:=hO.out.1.rd.entryS kN;simp only [Option.some.injEq,Addr.mk.injEq,and_true] at cG;obtain ⟨rfl,rfl⟩:=cG;have gJ:((Cz r.id:Nat):Int)<(y.shelf.length:Int):=Bl;have dF:(0:Int)<=((Cz r.id:Nat):Int):=Bl;have qU:(I6 y was r n).shelf[Cz r.id].length<=2000000:=by have:=hf.all _ (Ax kN);omega
   have dC:=Bq (show (I6 y was r n).shelf.getD (Cz r.id) []=(I6 y was r n).shelf[Cz r.id] by rw [List.getD_eq_getElem?_getD,List.getElem?_eq_getElem kN];rfl);have fB:=hO.out.1.free0 Bl;have CP:=Bq (K4 (I6 y was r n).shelf[Cz r.id] sk ⟨r.plan.prio,(I6 y was r n).seq,r.id,n⟩ wr.drew qU (bR.below (Br _ _).drew));go_wp2;refine Dl (fun w'=>w'.cell? ⟨w,1,Ac⟩=Ad (J Ab (I6 y was r n).seq)/\w'.cell? ⟨w,2,Ac⟩=Ad (Aa (Ad ⟨g,o,Ac⟩) y.shelf.length cs)/\w'.cell? ⟨w+1+1,0,Ac⟩=Ad (J Ab r.id)/\w'.cell? ⟨w+1+1,1,Ac⟩=Ad (J Ab r.plan.prio)/\w'.cell? ⟨g,o+Cz r.id,Ac⟩=Ad (Aa sk.a sk.n sk.c)) 19 Bm ?_ (fun aA=>?_)
   ·exact ⟨Y_1,Y_2,RB_0,RB_1,ck⟩
   refine aT 0 aA ?_;try simp only [pS]
   refine aT 1 aA ?_;try simp only [pS]
   refine aT 2 aA ?_;try simp only [pS]
   refine aT 3 aA ?_;try simp only [pS]
   refine aT 4 aA ?_;try simp only [pS]
   refine aT 5 aA ?_;try simp only [pS]
   refine aT 6 aA ?_;try simp only [pS]
   refine aT 7 aA ?_;try simp only [pS]
   refine aT 8 aA ?_;try simp only [pS]
   refine aT 9 aA ?_;try simp only [pS]
   refine aT 10 aA ?_;try simp only [pS]
   refine aT 11 aA ?_;try simp only [pS]
   refine aT 12 aA ?_;try simp only [pS]
   refine aT 13 aA ?_;try simp only [pS]
   refine aT 14 aA ?_;try simp only [pS]
   refine aT 15 aA ?_;try simp only [pS]
   refine aT 16 aA ?_;try simp only [pS]
   refine oT 17 (fun K hK=>?_)
   (go_simp;refine CP.out.mono ?_;rintro e w2 ⟨t2,F2,rfl,o2,n2,b2⟩;have hgs:w2.cell? ⟨g,o+Cz r.id,Ac⟩=Ad (Aa sk.a sk.n sk.c):=(b2.cell (p:=⟨_,_,Ac⟩) (by show g<wr;have:=hb.size;omega)).trans ck;have pL:w2.frozen? ⟨g,o+Cz r.id,Ac⟩=false:=(b2.frozen (p:=⟨_,_,Ac⟩) (by show g<wr;have:=hb.size;omega)).trans (fB _))
   refine hK.out _ _ (fun _=>?_) ?_
   ·exact ⟨(b2.cell (p:=⟨_,_,Ac⟩) (by show w.heap.size<wr.heap.size;omega)).trans Y_1,(b2.cell (p:=⟨_,_,Ac⟩) (by show w.heap.size<wr.heap.size;omega)).trans Y_2,(b2.cell (p:=⟨_,_,Ac⟩) (by show w.heap.size+1+1<wr.heap.size;omega)).trans RB_0,(b2.cell (p:=⟨_,_,Ac⟩) (by show w.heap.size+1+1<wr.heap.size;omega)).trans RB_1,(b2.cell (p:=⟨_,_,Ac⟩) (by show g<wr;have:=hb.size;omega)).trans ck⟩
   clear hK K;try simp only [pS]
   refine oT 18 (fun K hK=>?_);go_simp;refine hK.out _ _ (fun _=>?_) ?_
   ·exact ⟨(b2.cell (p:=⟨_,_,Ac⟩) (by show w.heap.size<wr.heap.size;omega)).trans Y_1,(b2.cell (p:=⟨_,_,Ac⟩) (by show w.heap.size<wr.heap.size;omega)).trans Y_2,(b2.cell (p:=⟨_,_,Ac⟩) (by show w.heap.size+1+1<wr.heap.size;omega)).trans RB_0,(b2.cell (p:=⟨_,_,Ac⟩) (by show w.heap.size+1+1<wr.heap.size;omega)).trans RB_1,(b2.cell (p:=⟨_,_,Ac⟩) (by show g<wr;have:=hb.size;omega)).trans ck⟩
   clear hK K;try simp only [pS]
   refine oT 19 (fun K hK=>?_);go_simp;refine hK.out _ _ (fun aE=>absurd rfl aE) ?_;clear hK K;try simp only [pS]
   refine Eb Bm ?_ _;have b2':Below wr wr w2:=Bv (Br _ _).drew b2;obtain ⟨F',p1,p2,p3,p4⟩:=OwL.swap (hO.out.1.below b2') kN (y:=Ip (I6 y was r n).shelf[Cz r.id] ⟨r.plan.prio,(I6 y was r n).seq,r.id,n⟩) (s:=t2) (Fy:=F2) o2 (fun x hx bF=>by have h1:=n2 x hx;have h2:=hO.out.1.lt x bF;have h3:wr.drew.heap.size=wr.heap.size:=rfl;omega);have fD:Is w2 g (o+Cz r.id * (Dt.list Ch).enc.sz) ((Dt.list Ch).enc.cells (Ip (I6 y was r n).shelf[Cz r.id] ⟨r.plan.prio,(I6 y was r n).seq,r.id,n⟩,t2))=w2.setCell ⟨g,o+Cz r.id,Ac⟩ (Aa t2.a t2.n t2.c):=by
    rw [show (Dt.list Ch).enc.sz=1 from rfl,Nat.mul_one];rfl
   rw [fD] at p1;have B3:Chg [g] w (w2.setCell ⟨g,o+Cz r.id,Ac⟩ (Aa t2.a t2.n t2.c)):=(hb.trans (Chg.of_below [g] b2')).trans (Chg.setCell w2 g _ _);have bJ:=RES_l;clear Y_0 Y_1 Y_2 Y_3 Y_l;clear WB_;clear RB_0 RB_1 RB_2 RB_3 RB_4 RB_5 RB_6 RB_7 RB_l;clear RES_0 RES_1 RES_2 RES_3 RES_l;replace Y:=(Y.below b2').setOther (a:=⟨g,o+Cz r.id,Ac⟩) (by show w.heap.size≠g;omega) (Aa t2.a t2.n t2.c);replace WB:=(WB.below b2').setOther (a:=⟨g,o+Cz r.id,Ac⟩) (by show w.heap.size+1≠g;omega) (Aa t2.a t2.n t2.c);replace RB:=(RB.below b2').setOther (a:=⟨g,o+Cz r.id,Ac⟩) (by show w.heap.size+1+1≠g;omega) (Aa t2.a t2.n t2.c);replace RES:=(RES.below b2').setOther (a:=⟨g,o+Cz r.id,Ac⟩) (by show w.heap.size+1+1+1≠g;omega) (Aa t2.a t2.n t2.c);generalize w2.setCell ⟨g,o+Cz r.id,Ac⟩ (Aa t2.a t2.n t2.c)=w3 at *
   have jZ:=hf.seq;have y1:=Y.cell 1 _ rfl;have yf:=Y.free;have yl:=Y.lt;have uL:w.heap.size∉F':=fun hx=>by rcases p2 _ hx with h | h;(rcases hO.out.2 _ h with h | h;(have:=jE.out _ h;omega);omega);(have:=n2 _ h;have h3:wr.drew.heap.size=wr.heap.size:=rfl;omega)
   clear aA;go_wp2;exact ⟨⟨n+1,F',Bl,by go_num,⟨by rw [aF.out];unfold J4;rw [dC.out];exact p1.set (a:=⟨w,1,Ac⟩) uL _,fun x hx=>by rcases p2 x hx with h | h;exact hO.out.2 x h;right;have:=n2 _ h;have h3:wr.drew.heap.size=wr.heap.size:=rfl;omega⟩,by rw [aF.out];exact Y.set 1 Bn _,WB.setOther (by show w.heap.size+1≠w.heap.size;omega) _,RB.setOther (by show w.heap.size+1+1≠w.heap.size;omega) _,RES.setOther (by show w.heap.size+1+1+1≠w.heap.size;omega) _,B3.high (Bs _) _ _⟩,clM⟩
theorem Afn {w:World} {B:Nat} {v:Value} {l:List Entry} (h:Rd Cw w B v l):RdL Ch w B v l:=by
 obtain ⟨A,c,rfl,hc,hA⟩:=h;refine ⟨l.map fun x=>(x,()),by rw [List.map_map];exact List.map_id _,⟨A,c,by rw [Au],by rw [Au];exact hc,fun hl=>?_⟩,fun _ _=>trivial⟩;rw [Au] at hl;obtain ⟨b,o,h3,h4,h5⟩:=hA hl;refine ⟨b,o,h3,h4,fun k hk j u hu=>?_⟩;rw [List.getElem_map] at hu;exact h5 k (by rw [Au] at hk;exact hk) j u hu
theorem Zt {b:Nat} {w:World} {u0 u1 u2 u3:Value} (X:DBox b [u0,u1,u2,u3] w) {v0 v1 v3 v4:Value} {rest:List Value} :
  (results Tryz.f208 (v0 :: v1 :: .pointer (Ad ⟨b,0,Ac⟩) :: v3 :: v4 :: rest).toArray).run An w = .ok (.tuple #[.agg #[u0,u1,u2,u3],v3,v4]) w:=by
 obtain ⟨c0,c1,c2,c3,-⟩:=X.g4;simp [results,results208,go_sem,c0,c1,c2,c3]
theorem Sd (l:List Entry) (s:Sl) (w:World) (hl:l.length<=2000000) (h:RdL Ch w w s.v l) :
  Calls An 208 #[Aa s.a s.n s.c] w (Acv l w):=by
 obtain ⟨A,n,c⟩:=s;obtain rfl:n=l.length:=RdL.at1 (s:=⟨A,n,c⟩) h;have R:=DBox.new 71 [J Ab 0,J Ab 0,J Ab 0,J Ab 0] w (b:=w) rfl;have B0:Below w w (w.alloc (.cells #[J Ab 0,J Ab 0,J Ab 0,J Ab 0] 71)):=by repeat (first | exact Br _ _ | refine Af ?_ Bo _)
 cases l with
 | nil =>
  go_enter func208,ntmps208;go_wp2;refine Ak (Zt R) rfl ⟨⟨Ac,0,0⟩,[],rfl,⟨[],[],[],rfl,Hw.nil _ _ _ _,.nil,rfl,List.nodup_nil⟩,fun _ h=>(by cases h),?_⟩;repeat (first | (with_reducible exact B0) | refine Ae ?_ Bo _)
 | cons e tl =>
  have h1:((((e :: tl).length:Nat):Int) == 0)=false:=by rw [beq_eq_false_iff_ne];simp;omega
  have HC:=Bq (fun W (hW:Below w w W) (s':Sl) (tX:RdL Ch w w s'.v tl)=>Jz tl s' W (by simp at hl;omega) ((tX.below hW).more hW.size));obtain ⟨b,o,_,rfl,aH,_,c0,c1,c2,c3⟩:=h.entry (k:=0) (by simp);simp only [Nat.zero_mul,Nat.add_zero,List.getElem_cons_zero] at c0 c1 c2 c3;have cA:(e :: tl).length<=c:=(J3 h).cap;have hd0:=(J3 h).fromL 1 Bn;generalize hL:(e :: tl).length=L at *
  have tD:0<L:=by rw [<-hL];simp
  have hLI:(0:Int)<(L:Int):=Bl;have hLI1:(1:Int)<=(L:Int):=Bl;have hLN:0<L:=Bl;have HS:=Bq (show ∀ W,Below w w W->(fun w'=>w'.cell? ⟨b,o,Ac⟩=Ad (J Ab e.prio)/\w'.cell? ⟨b,o+1,Ac⟩=Ad (J Ab e.seq)/\w'.cell? ⟨b,o+2,Ac⟩=Ad (J Ab e.run)/\w'.cell? ⟨b,o+3,Ac⟩=Ad (J Ab e.task)) W from fun W hW=>⟨(hW.cell (p:=⟨b,o,Ac⟩) aH).trans c0,(hW.cell (p:=⟨b,o+1,Ac⟩) aH).trans c1,(hW.cell (p:=⟨b,o+2,Ac⟩) aH).trans c2,(hW.cell (p:=⟨b,o+3,Ac⟩) aH).trans c3⟩);have hdB:=Bq (show RdL Ch w w.heap.size (Sl.v ⟨Ad ⟨b,o+4,Ac⟩,L - 1,c - 1⟩) tl from Afn hd0);have hdA:=Bq (show c=1->RdL Ch w w (Sl.v ⟨Ad ⟨b,o,Ac⟩,0,0⟩) tl from fun h=>by
   have:tl=[]:=List.eq_nil_of_length_eq_zero (by simp at hL;omega);subst this;exact ⟨[],rfl,⟨_,0,rfl,Ah _,fun h=>absurd h Bn⟩,fun _ h=>by cases h⟩)
  clear hd0 c0 c1 c2 c3 hL;have fX:c=1\/(¬ c=1/\(1:Int)<=(c:Int)/\1<c):=Bl;go_enter func208,ntmps208;go_upto_region 3 with fail
  generalize (w.alloc (.cells #[J Ab 0,J Ab 0,J Ab 0,J Ab 0] 71))=W at *
  rcases fX with rfl | ⟨fX,tR,sK⟩
  have HX:=Bq (fun W hW=>HC.out W hW ⟨Ad ⟨b,o,Ac⟩,0,0⟩ (hdA.out rfl));rotate_left;have HX:=Bq (fun W hW=>HC.out W hW ⟨Ad ⟨b,o+4,Ac⟩,L - 1,c - 1⟩ hdB.out);all_goals
   have bN:=B0.size;have hbW:b<W:=Bl;refine Go.wp_region_noPanic ?_;refine wp_region_held_drew (S:=(fun w'=>w'.cell? ⟨b,o,Ac⟩=Ad (J Ab e.prio)/\w'.cell? ⟨b,o+1,Ac⟩=Ad (J Ab e.seq)/\w'.cell? ⟨b,o+2,Ac⟩=Ad (J Ab e.run)/\w'.cell? ⟨b,o+3,Ac⟩=Ad (J Ab e.task))) Bm (HS.out _ B0.drew) (fun aA=>?_);replace R:=DBox.drew4 R;have B1:=B0.drew;generalize W.drew=w1 at *
   have hRl1:=R.lt;refine tY 0 ?_
   (try simp only [pS])
   refine tY 1 ?_
   (try simp only [pS])
   refine tV 2 ?_
   (try simp only [pS])
   refine tY 3 ?_
   (try simp only [pS])
   refine tY 4 ?_
   (try simp only [pS])
   refine rC 5 (fun K_ hK=>?_);go_simp;refine (HX.out w1 B1).mono ?_;rintro e2 w3 ⟨s3,F3,rfl,o3,n3,b3⟩;dsimp only [slV];have B3:=Bv B1 b3;replace R:=R.below b3;have hwl:=R.lt;have hw1:=B1.size;refine hK.out _ _ (HS.out _ B3) (fun aA=>?_);clear hK K_
   (try simp only [pS])
   obtain ⟨r0,r1,r2,r3,-⟩:=R.g4;have rf:=R.free;refine rC 6 (fun K_ hK=>?_);go_simp;have R4:=DBox.row4 R rfl (J Ab e.prio) (J Ab e.seq) (J Ab e.run) (J Ab e.task);have B4:Below w w ((((w3.setCell ⟨w,0,Ac⟩ (J Ab e.prio)).setCell ⟨w,1,Ac⟩ (J Ab e.seq)).setCell ⟨w,2,Ac⟩ (J Ab e.run)).setCell ⟨w,3,Ac⟩ (J Ab e.task)):=by
    repeat (first | (with_reducible exact B3) | refine Ae ?_ Bo _)
   have cM:w.heap.size∉F3:=fun hx=>by have:=n3 _ hx;omega
   have o4:OwL Ch ((((w3.setCell ⟨w,0,Ac⟩ (J Ab e.prio)).setCell ⟨w,1,Ac⟩ (J Ab e.seq)).setCell ⟨w,2,Ac⟩ (J Ab e.run)).setCell ⟨w,3,Ac⟩ (J Ab e.task)) F3 s3.v tl:=(((o3.set (a:=⟨_,_,Ac⟩) cM _).set (a:=⟨_,_,Ac⟩) cM _).set (a:=⟨_,_,Ac⟩) cM _).set (a:=⟨_,_,Ac⟩) cM _;generalize ((((w3.setCell ⟨w,0,Ac⟩ (J Ab e.prio)).setCell ⟨w,1,Ac⟩ (J Ab e.seq)).setCell ⟨w,2,Ac⟩ (J Ab e.run)).setCell ⟨w,3,Ac⟩ (J Ab e.task))=w4 at *
   clear r0 r1 r2 r3 rf R;refine hK.out _ _ (HS.out _ B4) (fun aA=>?_);clear hK K_
   (try simp only [pS])
   refine rC 7 (fun K_ hK=>?_);go_simp;refine hK.out _ _ aA (fun aA=>?_);clear hK K_
   (try simp only [pS])
   refine rC 8 (fun K_ hK=>?_);go_simp;refine hK.out _ _ aA (fun aA=>?_);clear hK K_
   (try simp only [pS])
   refine wpAnyH_done Bm ?_ _;refine NoPanic.normal ?_;clear aA;go_wp2;exact Ak (Zt R4) rfl ⟨s3,F3,rfl,o4,fun x hx=>by have:=n3 x hx;omega,B4⟩
theorem Aax (l:List Entry) (s:Sl) (w:World) (hl:l.length<=2000000) (h:RdL Ch w w s.v l) :
  Calls An 206 #[Aa s.a s.n s.c] w (Ww l w):=by
 obtain ⟨A,n,c⟩:=s;obtain rfl:n=l.length:=RdL.at1 (s:=⟨A,n,c⟩) h;have hd:=Acw l.length;rw [show (l.length+1) / 2=C9 l from rfl] at hd;have kP:=Acj l;have hw1:Ab.wrap ((l.length:Int)+1)=(l.length:Int)+1:=Ar _ Bl;have tF:Ab.wrap (C9 l:Int)=(C9 l:Int):=Ar _ Bl;have cA:l.length<=c:=(J3 h).cap;have nV:C9 l<=c:=Bl;have hkcI:(C9 l:Int)<=(c:Int):=Bl;have hklI:(C9 l:Int)<=(l.length:Int):=Bl;have hk0I:(0:Int)<=(C9 l:Int):=Bl;have HC:=Bq (fun W (hW:Below w w W) (k:List Entry) (hk:k.length<=2000000) (s':Sl) (tX:Rd Cw w w s'.v k)=>Mm k s' W hk ((Afn tX).below hW |>.more hW.size));have a0:=Bq ((J3 h).take kP c nV);have a1:=Bq ((J3 h).dropM (C9 l) kP);have a2:=Bq (show C9 l=c->Rd Cw w w (Aa A 0 0) (l.drop (C9 l)) from fun hh=>by
  rw [List.drop_eq_nil_of_le Bl];exact ⟨A,0,rfl,Ah _,fun h=>absurd h Bn⟩)
 go_enter func206,ntmps206;go_upto_region 2 with fail
 rcases Nat.lt_or_ge (C9 l) c with hk2 | hk2
 have qZ:¬ c=C9 l:=Bl;have HX:=Bq (fun W hW=>HC.out W hW (l.drop (C9 l)) (by simp;omega) ⟨A.map fun x=>x.add (C9 l * 4),l.length - C9 l,c - C9 l⟩ a1.out);have HY:=Bq (fun W hW=>HC.out W hW (l.take (C9 l)) (by simp;omega) ⟨A,C9 l,c⟩ a0.out);rotate_left;have qZ:c=C9 l:=Bl;have hcl:l.length=C9 l:=Bl;have HX:=Bq (fun W hW=>HC.out W hW (l.drop (C9 l)) (by simp;omega) ⟨A,0,0⟩ (a2.out Bl));have HY:=Bq (fun W hW=>HC.out W hW (l.take (C9 l)) (by simp;omega) ⟨A,C9 l,C9 l⟩ (by have:=a0.out;rw [qZ] at this;exact this));all_goals
  refine Go.wp_region_noPanic ?_;refine wp_region_held_drew (S:=fun _=>True) Bm trivial (fun aA=>?_);have B1:Below w w w.drew:=(Br _ _).drew;generalize w.drew=w1 at *
  refine tY 0 ?_
  (try simp only [pS])
  refine tY 1 ?_
  (try simp only [pS])
  refine tY 2 ?_
  (try simp only [pS])
  refine tY 4 ?_
  (try simp only [pS])
  refine tY 5 ?_
  (try simp only [pS])
  refine tY 6 ?_
  (try simp only [pS])
  refine rC 3 (fun K_ hK=>?_);go_simp;refine (HY.out w1 B1).mono ?_;rintro e2 w3 ⟨v3,rfl,o3,b3⟩;have B3:=Bv B1 b3;refine hK.out _ _ trivial (fun aA=>?_);clear hK K_
  (try simp only [pS])
  refine rC 7 (fun K_ hK=>?_);go_simp;refine (HX.out w3 B3).mono ?_;rintro e4 w4 ⟨v4,rfl,o4,b4⟩;refine hK.out _ _ trivial (fun aA=>?_);clear hK K_
  (try simp only [pS])
  refine rC 8 (fun K_ hK=>?_);go_simp;refine hK.out _ _ aA (fun aA=>?_);clear hK K_
  (try simp only [pS])
  refine rC 9 (fun K_ hK=>?_);go_simp;refine hK.out _ _ aA (fun aA=>?_);clear hK K_
  (try simp only [pS])
  refine wpAnyH_done Bm ?_ _;refine NoPanic.normal ?_;clear aA;have aU:=B1.size;have ow3:=o3.within;obtain ⟨s5,F5,rfl,o5,n5,m5⟩:=J9 (o3.below b4);obtain ⟨s6,F6,rfl,o6,n6,m6⟩:=J9 o4;have HF:=Bq (show Ww l w (.returned (.tuple #[Aa s5.a s5.n s5.c,Aa s6.a s6.n s6.c])) w4 from ⟨s5,F5,s6,F6,rfl,o5,o6,fun x hx=>Ai aU (n5 x hx),fun x hx=>Ai B3.size (n6 x hx),fun x hx hx2=>by have h1:=(ow3 x (m5 x hx)).2;have h2:=n6 x hx2;omega,Bv B3 b4⟩);clear ow3 o5 o6 n5 n6 m5 m6 o3 o4;go_wp2;refine Ak ?_ rfl HF.out;simp [results,results206,go_sem]
def Wz (d:Deed) (s:Sl):Sl:=if d.kind=1 then s else ⟨Ac,0,0⟩
theorem Aay (d:Deed) (s:Sl) (w:World) :
  Calls An 128 #[Dw d s] w fun e w'=>e = .returned (Dw (Hb d) (Wz d s))/\Below w w w':=by
 by_cases k1:d.kind=1
 ·exact Agg d s w k1
 by_cases k2:d.kind=2
 ·exact Agh d s w k2
 by_cases k3:d.kind=3
 ·exact Agi d s w k3
 by_cases k4:d.kind=4
 ·exact Agj d s w k4
 by_cases k6:d.kind=6
 ·exact Agk d s w k6
 by_cases k7:d.kind=7
 ·exact Agl d s w k7
 exact Agm d s w (beq_eq_false_iff_ne.2 k1) (beq_eq_false_iff_ne.2 k2) (beq_eq_false_iff_ne.2 k3) (beq_eq_false_iff_ne.2 k4) (beq_eq_false_iff_ne.2 k6) (beq_eq_false_iff_ne.2 k7)
theorem Aaz (p:Plan):Fq p=decide (p=Kw):=by
 obtain ⟨a,b,c,d,l⟩:=p;rw [Bool.eq_iff_iff];simp [Fq,Kw,and_assoc]
theorem Aa0 (l:List Edge):(Ie l).all Fi=l.all (fun e=>Fi e.fr && Fi e.to):=by
 induction l with
 | nil=>rfl
 | cons a l ih=>rw [show Ie (a :: l)=[a.fr,a.to] ++ Ie l from rfl,List.all_append,ih];simp [Bool.and_assoc]
theorem Ajg (d:Deed) (h0:inB d.kind 1 8=true) (hl:d.plan.edges.length<=31):Dq d=(decide (d=Hb d) && (E9 d).all Fi):=by
 obtain ⟨kd,rn,p,tk,ty,wk,dr⟩:=d;replace h0:inB kd 1 8=true:=h0;replace hl:p.edges.length<=31:=hl;have hn:Fi (p.edges.length:Int)=true:=by simp [Fi,inB];omega
 have:kd=1\/kd=2\/kd=3\/kd=4\/kd=5\/kd=6\/kd=7\/kd=8:=by
  simp [inB] at h0;omega
 rcases this with rfl | rfl | rfl | rfl | rfl | rfl | rfl | rfl<;>(rw [Bool.eq_iff_iff];simp [Dq,Hb,E9,Aaz,Ez,Aa0,hn,hl,h0];try (constructor<;>intro h<;>simp_all))
theorem Ajh (d:Deed) (hl:¬ d.plan.edges.length<=31):Dq d=false:=by
 have h1:Ez d.plan=false:=by simp [Ez,hl]
 have h2:Fq d.plan=false:=by
  have:(d.plan.edges.length == 0)=false:=beq_eq_false_iff_ne.2 Bl;simp [Fq,this]
 simp [Dq,h1,h2]
theorem Aiu {d:Deed} {s:Sl} {w:World} {B:Nat} (h:Fb.rd w B d s):Fb.rd w B (Hb d) (Wz d s):=by
 have h0:Ck.rd w B d.plan s:=h;show Ck.rd w B (Hb d).plan (Wz d s);unfold Hb Wz;split
 ·exact h0
 ·have e:∀ q:Plan,q.edges=[]->Ck.rd w B q ⟨Ac,0,0⟩:=fun q hq=>by
   show RdL Kj w B (Aa Ac 0 0) q.edges;rw [hq];exact ⟨[],rfl,⟨Ac,0,rfl,Bs _,fun h=>absurd h Bn⟩,Bn⟩
  split
  ·exact e _ rfl
  split
  ·exact e _ rfl
  split<;>exact e _ rfl
theorem Vb (d du:Deed) (A:Option Addr) (c:Nat) (su:Sl) (nd:List Int) (D:Bool) (w:World) (LN:nd.length<=6+2 * d.plan.edges.length)
  (CS:Hid (∀ W,Below w w W->Calls An 127 #[Dw d ⟨A,d.plan.edges.length,c⟩,Dw du su] W fun e w'=>e = .returned (.bool (decide (d=du)))/\Below W W w'))
  (CU:Hid (∀ W,Calls An 128 #[Dw d ⟨A,d.plan.edges.length,c⟩] W fun e w'=>e = .returned (Dw du su)/\Below W W w'))
  (CN:Hid (∀ W,d.plan.edges.length<=31->Below w w W->Calls An 125 #[Dw d ⟨A,d.plan.edges.length,c⟩] W fun e w'=>∃ v,e = .returned v/\Ow Ii 3 w' W v nd/\Below W W w'))
  (L0:Hid (inB d.kind 1 8=false->D=false)) (L1:Hid (¬ d.plan.edges.length<=31->D=false)) (L2:Hid (inB d.kind 1 8=true->d.plan.edges.length<=31->D=(decide (d=du) && nd.all Fi))) :
  Calls An 67 #[Dw d ⟨A,d.plan.edges.length,c⟩] w fun e w'=>e = .returned (.bool D)/\Below w w w':=by
 obtain ⟨W,aG,X,B0⟩:=bx1 w 45 [J Ab d.kind,J Ab d.run,J Ab d.plan.prio,J Ab d.plan.most,J Ab d.plan.wait,J Ab d.plan.tasks,Aa A d.plan.edges.length c,J Ab d.task,J Ab d.try_,J Ab d.worker,J Ab d.draw];go_enter func67,ntmps67;go_wp2;rw [<-aG.out];clear aG;have X_:=X.g11;have aN:=Df W;cases a0:inB d.kind 1 8;case false =>
  have H:=Bq (L0.out a0);clear L0 L1 L2 CS CU CN;refine Bz Bm Bm ?_;repeat (go_big_quiet_step ((go_at_call 72;exact Dy (fun u=>Cq _ _ _ u.1))))
  refine Al ?_;rintro _ ⟨⟨w3,b3⟩,rfl⟩;clear aN;go_wp2;go_ret;exact ⟨Bx H.out.symm,Bv B0 b3⟩
 by_cases hl:d.plan.edges.length<=31;case neg =>
  have H:=Bq (L1.out hl);have hlI:(31:Int)<(d.plan.edges.length:Int):=Bl;clear L0 L1 L2 CS CU CN hl;refine Bz Bm Bm ?_;repeat (go_big_quiet_step ((go_at_call 72;exact Dy (fun u=>Cq _ _ _ u.1))))
  refine Al ?_;rintro _ ⟨⟨w3,b3⟩,rfl⟩;clear aN;go_wp2;go_ret;exact ⟨Bx H.out.symm,Bv B0 b3⟩
 have HD:=Bq (L2.out a0 hl);have LN:=Bq (show nd.length<=68 by omega);have CN:=Bq (fun W hW=>CN.out W hl hW);have hlI:¬ (31:Int)<(d.plan.edges.length:Int):=Bl;clear L0 L1 L2;cases a1:decide (d=du);case false =>
  have H:=Bq (show D=false by rw [HD.out,a1,Bool.false_and]);rw [a1] at CS;clear CN HD;refine Bz Bm Bm ?_;repeat (go_big_quiet_step ((first
   | (go_at_call 72;exact Dy (fun u=>Cq _ _ _ u.1))
   | (go_at_call 128;rename_i x;have h1:=CU.out x.1;exact Fk h1)
   | (go_at_call 127;rename_i x;have h1:=CS.out x.1 (Bv B0 x.2);exact Fk h1))))
  refine Al ?_;rintro _ ⟨⟨w3,b3⟩,rfl⟩;clear aN;go_wp2;go_ret;exact ⟨Bx H.out.symm,Bv B0 b3⟩
 have HD:=Bq (show D=nd.all Fi by rw [HD.out,a1,Bool.true_and]);rw [a1] at CS;refine Bz Bm Bm ?_;repeat (go_big_quiet_step ((first
  | (go_at_call 72;exact Dy (fun u=>Cq _ _ _ u.1))
  | (go_at_call 128;rename_i x;have h1:=CU.out x.1;exact Fk h1)
  | (go_at_call 127;rename_i x;have h1:=CS.out x.1 (Bv B0 x.2);exact Fk h1))))
 refine Al ?_;rintro _ ⟨⟨w3,b3⟩,rfl⟩;clear aN CS CU a0 a1 hlI hl;replace B0:=Bv B0 b3;replace X:=X.below b3;clear X_;have X_:=X.g11;clear b3;go_wp2_with (go_at_call 125;refine (CN.out _ B0).mono ?_;rintro e w4 ⟨v,rfl,o4,b4⟩;obtain ⟨A9,c9,rfl,-⟩:=id (Rd.of_own o4))
 clear X_;clear X CN;replace B0:=Bv B0 b4;have h5:=Bq (Rd.of_own o4);clear o4 b4;go_loopw [26] (fun i wr=>∃ k:Nat,k<=nd.length/\i = J Ab k/\Hid ((nd.take k).all Fi=true)/\Below w4 w4 wr) (fun i _=>nd.length - (intOf i).toNat);case atStart=>exact ⟨0,Ah _,rfl,rfl,Br _ _⟩
 case round =>
  obtain ⟨k,hk,rfl,hA,hb⟩:=hrel;have LN:=LN.out;by_cases aB:k<nd.length
  ·have aC:(k:Int)<(nd.length:Int):=Bl;obtain ⟨b,o,rfl,aH,d0⟩:=(h5.out.below hb).int aB;cases q0:inB nd[k] 0 1000000000
   ·have H:=Bq (show D=false by rw [HD.out];exact Aho aB q0);go_wp2_with (go_at_call 72;refine (Cq _ _ _ _).mono ?_;rintro e w5 ⟨rfl,rfl⟩)
    go_ret;exact ⟨Bx H.out.symm,Bv B0 hb⟩
   ·have S:=Bq (show (nd.take (k+1)).all Fi=true by rw [List.take_succ_eq_append_getElem aB,List.all_append,hA.out];simp [Fi,q0]);go_wp2_with (go_at_call 72;refine (Cq _ _ _ _).mono ?_;rintro e w5 ⟨rfl,rfl⟩)
    exact ⟨⟨k+1,Bl,by go_num,S,hb⟩,clM⟩
  ·have aC:¬ (k:Int)<(nd.length:Int):=Bl;have H:=Bq (show D=true by rw [HD.out,<-hA.out,Bg Bl]);go_wp2;go_ret;exact ⟨Bx H.out.symm,Bv B0 hb⟩
theorem W0 (d:Deed) (s:Sl) (w:World) (hc:Iy d<=2000000) (h:Fb.rd w w d s) :
  Calls An 67 #[Dw d s] w fun e w'=>e = .returned (.bool (Dq d))/\Below w w w':=by
 have hcu:Iy (Hb d)<=2000000:=by
  have:Iy (Hb d)<=Iy d:=by
   unfold Iy Hi Hb;split
   ·exact Bs _
   split
   ·exact Ah _
   split
   ·exact Ah _
   split<;>exact Ah _
  omega
 have HR:Hid (∀ W,Below w w W->Fb.rd W W d s):=fun W hW=>Fb.rd_more (Fb.rd_below h hW) hW.size;have HU:Hid (∀ W,Below w w W->Fb.rd W W (Hb d) (Wz d s)):=fun W hW=>Aiu (HR.out W hW);have CS:=Bq (fun W hW=>Aap d (Hb d) s (Wz d s) W hc hcu (HR.out W hW) (HU.out W hW));have CU:=Bq (Aay d s);have CN:=Bq (fun W (hl:d.plan.edges.length<=31) hW=>U7 d s W Bl (HR.out W hW));have L1:=Bq (Ajh d);have L2:=Bq (Ajg d);have L0:Hid (inB d.kind 1 8=false->Dq d=false):=fun a0=>by simp [Dq,a0]
 have h1:s.n=d.plan.edges.length:=by
  have h0:Ck.rd w w d.plan s:=h;exact RdL.at1 h0
 obtain ⟨A,n,c⟩:=s;replace h1:n=d.plan.edges.length:=h1;subst h1;exact Vb d (Hb d) A c (Wz d ⟨A,d.plan.edges.length,c⟩) (E9 d) (Dq d) w (Yx d) CS CU CN L0 L1 L2
theorem Rd.row {α:Type} (e:Enc α) (w:World) (T:TypeId) (l:List α) {g:Nat} (hg:g=w) {cs:Array Value} (mW:cs=(l.flatMap e.cells).toArray) {n:Nat} (hn:n=l.length) (c:Nat) (hc:n<=c) {B:Nat} (hB:g<B):Rd e (w.alloc (.cells cs T)) B (Aa (Ad ⟨g,0,Ac⟩) n c) l:=by
 subst hn;refine ⟨_,c,rfl,hc,fun _=>⟨g,0,rfl,hB,fun k hk j u hu=>?_⟩⟩;have hj:j<e.sz:=by
  rw [<-e.len l[k]];exact (List.getElem?_eq_some_iff.1 hu).1
 have:=Oq w cs T hg (k * e.sz+j) u (by rw [mW];show (l.flatMap e.cells)[k * e.sz+j]? = Ad u;rw [e.flat_get hj l k hk];exact hu)
 have ea:(⟨g,0,Ac⟩:Addr).add (k * e.sz+j)=⟨g,0+k * e.sz+j,Ac⟩:=by
  unfold Addr.add;split<;>simp_all
 rw [ea] at this;exact this
noncomputable def Mb (code:List UInt8):Plan:=(Hu code (Hj code)).1
theorem Aa1 (code:List UInt8):Cr (Mb code)=0:=Wy _ _
theorem Aa2 {b:Nat} {w:World} {u0 u1 u2 u3 u4:Value} (X:DBox b [u0,u1,u2,u3,u4] w) {v0 v1:Value} {rest:List Value} :
  (results Tryz.f26 (v0 :: v1 :: .pointer (Ad ⟨b,0,Ac⟩) :: rest).toArray).run An w = .ok (.agg #[u0,u1,u2,u3,u4]) w:=by
 obtain ⟨c0,c1,c2,c3,c4,-⟩:=X.g5;simp [results,results26,go_sem,c0,c1,c2,c3,c4]
theorem Yy (v:Value) (code:List UInt8) (w:World) (hs:code.length<=1048576) (h:Rd Jx w w v code) :
  Calls An 26 #[v] w fun e w'=>∃ u,e = .returned (Gl (Mb code) u)/\Rd Gd w' w' u (Mb code).edges/\Below w w w':=by
 obtain ⟨W,aG,RES,B0⟩:=bx1 w 43 [J Ab 0,J Ab 0,J Ab 0,J Ab 0,Aa Ac 0 0];replace h:=(h.below B0).more B0.size;have HD:Hid (Mb code=(Hu code (Hj code)).1):=rfl;go_enter func26,ntmps26;go_wp2_with fail
 rw [<-aG.out];clear aG;refine (Afe _ code W hs h).mono ?_;rintro e1 w1 ⟨g,rfl,hg,h1,b1⟩;have C:=Bq (Ry g _ code (Hj code) w1 h1);have hWl:=RES.lt;have rM:=h1.box.lt;have pH:W<=g:=Bl;clear hg h h1;generalize Hu code (Hj code)=P at *
 obtain ⟨p,cy⟩:=P;have HE:Mb code=p:=HD.out;clear HD;have HE:=Bq HE;go_wp2_with fail
 refine C.out.mono ?_;rintro e2 w2 ⟨u,rfl,ou,-,cc⟩;dsimp only at ou;have aE:∀ x∈[g],w<=x:=fun x hx=>by rw [Aw.1 hx];omega
 have B2:Below w w w2:=(Bv B0 b1).trans (cc.below (by have:=B0.size;have:=b1.size;omega) aE);replace RES:=(RES.below b1).chg cc (fun hx=>by have:=Aw.1 hx;omega);obtain ⟨A1,e1,rfl,-⟩:=id (Rd.of_own ou);have HF:Hid (∀ W',W'=((((w2.setCell ⟨w,0,Ac⟩ (J Ab p.prio)).setCell ⟨w,1,Ac⟩ (J Ab p.most)).setCell ⟨w,2,Ac⟩ (J Ab p.wait)).setCell ⟨w,3,Ac⟩ (J Ab p.tasks)).setCell ⟨w,4,Ac⟩ (Aa A1 p.edges.length e1) ->
   DBox w [J Ab p.prio,J Ab p.most,J Ab p.wait,J Ab p.tasks,Aa A1 p.edges.length e1] W'/\Rd Gd W' W' (Aa A1 p.edges.length e1) p.edges/\Below w w W'):=by
  rintro W' rfl;have hw1:w.heap.size<w1.heap.size:=Bl;exact ⟨((((RES.put 0 Bn _).put 1 Bn _).put 2 Bn _).put 3 Bn _).put 4 Bn _,
   Rd.of_own (((((ou.setLow (by show w.heap.size<w1.heap.size;omega) _).setLow (by show w.heap.size<w1.heap.size;omega) _).setLow (by show w.heap.size<w1.heap.size;omega) _).setLow (by show w.heap.size<w1.heap.size;omega) _).setLow (by show w.heap.size<w1.heap.size;omega) _),
   ((((B2.setCell (Bs _) _).setCell (Bs _) _).setCell (Bs _) _).setCell (Bs _) _).setCell (Bs _) _⟩
 clear ou cc B2;have rf:=RES.free;have RES_:=RES.g5;go_wp2;obtain ⟨X,h2,h3⟩:=HF.out _ rfl;exact Ak (Aa2 X) rfl ⟨_,by rw [HE.out],by rw [HE.out];exact h2,h3⟩
theorem OwL.elem {α:Type} {d:Dt α} {w:World} {F:List Nat} {b o n c:Nat} {l:List α} (h:OwL d w F (Aa (Ad ⟨b,o,Ac⟩) n c) l) {j:Nat} (hj:j<l.length) :
  ∃ (s:d.S) (Fx:List Nat),d.ow w Fx l[j] s/\(∀ x∈Fx,x∈F)/\b∉Fx/\b∈F/\(∀ i,w.frozen? ⟨b,i,Ac⟩=false)/\(∀ i u,(d.enc.cells (l[j],s))[i]? = Ad u->w.cell? ⟨b,o+j * d.enc.sz+i,Ac⟩=Ad u):=by
 obtain ⟨rs,H,G,hm,hh,ho,rfl,hn⟩:=h;subst hm;have kL:j<rs.length:=by rw [Au] at hj;exact hj
 obtain ⟨b',o',hA,rfl,kG,hf⟩:=hh.at_ Bl;simp only [Option.some.injEq,Addr.mk.injEq,and_true] at hA;obtain ⟨rfl,rfl⟩:=hA;obtain ⟨F1,F2,rfl,h1,h2⟩:=ho.split j Bl;rw [List.drop_eq_getElem_cons kL] at h2;obtain ⟨Fx,F3,rfl,h3,h4⟩:=h2.head;have dP:b∉F1 ++ (Fx ++ F3):=by
  have:=hn
  simp only [List.singleton_append,List.nodup_cons] at this;exact this.1
 have e:(rs.map (·.1))[j]'(by rw [Au];exact kL)=rs[j].1:=by rw [List.getElem_map]
 refine ⟨rs[j].2,Fx,by rw [e];exact h3,fun x hx=>by simp [hx],fun hx=>dP (by simp [hx]),Bn,hf,fun i u hu=>?_⟩;rw [e] at hu;obtain ⟨A',c',hv,_,hA⟩:=hh.rd;simp only [Value.slice.injEq] at hv;obtain ⟨rfl,_,_⟩:=hv;obtain ⟨b2,o2,eG,_,hc⟩:=hA Bl;simp only [Option.some.injEq,Addr.mk.injEq,and_true] at eG;obtain ⟨rfl,rfl⟩:=eG;exact hc j kL i u hu
theorem Ahs {b:Nat} {w:World} {u0 u1 u2 u3:Value} (X:DBox b [u0,u1,u2,u3] w) {v0 v1 v2 v3 v4 v5:Value} {rest:List Value} :
  (results Tryz.f248 (v0 :: v1 :: v2 :: v3 :: v4 :: v5 :: .pointer (Ad ⟨b,0,Ac⟩) :: rest).toArray).run An w = .ok (.agg #[u0,u1,u2,u3]) w:=by
 have c0:=X.cell 0 _ rfl;have c1:=X.cell 1 _ rfl;have c2:=X.cell 2 _ rfl;have c3:=X.cell 3 _ rfl;simp [results,results248,go_sem,c0,c1,c2,c3]
def Aht (z:Yard) (F Fr:List Nat) (w:World) (e:Ending) (w':World):Prop :=
 ∃ (s':Sl×Sl) (F':List Nat),e = .returned (Dh z s')/\Bu.ow w' F' z s'/\(∀ x∈F',x∈F\/x∈Fr\/w<=x)/\Chg F w w'
theorem L7 (y:Yard) (s:Sl×Sl) (k:Nat) (r:Run) (sr:Sl×Sl) (w:World) (F Fr:List Nat) (h4:y.shelf.length=4) (hM:∀ s∈y.shelf,s.length<=1000000) (hq:0<=y.seq/\y.seq<=2000000000) (hk:k<y.runs.length) (hT:r.tasks.length<=1000) (qA:y.runs[k].tasks.length<=1000)
  (hy:Bu.ow w F y s) (hr:Cn.ow w Fr r sr) (hd:∀ x∈Fr,x∉F) :
  Calls An 248 #[Dh y s,J Ab k,Hx r sr] w (Aht (E0 y k r) F Fr w):=by
 obtain ⟨F1,F2,rfl,hn,hs,fT⟩:=hy;obtain ⟨⟨sa,sn,sc⟩,⟨ra,rn,rc⟩⟩:=s;replace hs:OwL (Dt.list Ch) w F1 (Aa sa sn sc) y.shelf:=hs;replace fT:OwL Cn w F2 (Aa ra rn rc) y.runs:=fT;obtain rfl:sn=y.shelf.length:=RdL.at1 (s:=⟨sa,sn,sc⟩) hs.rd;obtain rfl:rn=y.runs.length:=RdL.at1 (s:=⟨ra,rn,rc⟩) fT.rd;have rI:0<y.shelf.length:=Bl;replace h4:=Bq h4;obtain ⟨g,o,_,rfl,fZ,_,_⟩:=hs.rd.entryS (k:=0) rI;obtain ⟨gr,o2,_,rfl,cQ,_⟩:=fT.rd.run hk;obtain ⟨sw,Fx,hx,bF,kK,fH,pL,nZ⟩:=fT.elem hk;obtain ⟨_,_,_,_,_,eP,hgfr,_⟩:=hs.elem (j:=0) rI;have c0:w.cell? ⟨gr,o2+k * 8,Ac⟩=Ad (J Ab y.runs[k].id):=nZ 0 _ rfl;have c1:w.cell? ⟨gr,o2+k * 8+1,Ac⟩=Ad (J Ab y.runs[k].plan.prio):=nZ 1 _ rfl;have c2:w.cell? ⟨gr,o2+k * 8+2,Ac⟩=Ad (J Ab y.runs[k].plan.most):=nZ 2 _ rfl;have c3:w.cell? ⟨gr,o2+k * 8+3,Ac⟩=Ad (J Ab y.runs[k].plan.wait):=nZ 3 _ rfl;have c4:w.cell? ⟨gr,o2+k * 8+4,Ac⟩=Ad (J Ab y.runs[k].plan.tasks):=nZ 4 _ rfl;have c5:w.cell? ⟨gr,o2+k * 8+5,Ac⟩=Ad (Aa sw.1.a sw.1.n sw.1.c):=nZ 5 _ rfl;have c6:w.cell? ⟨gr,o2+k * 8+6,Ac⟩=Ad (J Ab y.runs[k].state):=nZ 6 _ rfl;have c7:w.cell? ⟨gr,o2+k * 8+7,Ac⟩=Ad (Aa sw.2.a sw.2.n sw.2.c):=nZ 7 _ rfl;have gJ:(k:Int)<(y.runs.length:Int):=Bl;have dF:(0:Int)<=(k:Int):=Bl;obtain ⟨W,aG,Y,RB,RES,B0⟩:=bx3 w 31 [J Ab y.now,J Ab y.seq,Aa (Ad ⟨g,o,Ac⟩) y.shelf.length sc,Aa (Ad ⟨gr,o2,Ac⟩) y.runs.length rc] 67 [J Ab r.id,J Ab r.plan.prio,J Ab r.plan.most,J Ab r.plan.wait,J Ab r.plan.tasks,Aa sr.1.a sr.1.n sr.1.c,J Ab r.state,Aa sr.2.a sr.2.n sr.2.c] 31 [J Ab 0,J Ab 0,Aa Ac 0 0,Aa Ac 0 0];go_enter func248,ntmps248;go_upto_region 1 with fail
 rw [<-aG.out];clear aG;have Y_:=Y.g4;have RB_:=RB.g8;obtain ⟨RES_0,RES_1,RES_2,RES_3,RES_l⟩:=RES.g4;replace c0:=(B0.cell (p:=⟨gr,o2+k * 8,Ac⟩) cQ).trans c0;replace c1:=(B0.cell (p:=⟨gr,o2+k * 8+1,Ac⟩) cQ).trans c1;replace c2:=(B0.cell (p:=⟨gr,o2+k * 8+2,Ac⟩) cQ).trans c2;replace c3:=(B0.cell (p:=⟨gr,o2+k * 8+3,Ac⟩) cQ).trans c3;replace c4:=(B0.cell (p:=⟨gr,o2+k * 8+4,Ac⟩) cQ).trans c4;replace c5:=(B0.cell (p:=⟨gr,o2+k * 8+5,Ac⟩) cQ).trans c5;replace c6:=(B0.cell (p:=⟨gr,o2+k * 8+6,Ac⟩) cQ).trans c6;replace c7:=(B0.cell (p:=⟨gr,o2+k * 8+7,Ac⟩) cQ).trans c7;have hfW:=fun i=>(B0.frozen (p:=⟨gr,i,Ac⟩) cQ).trans (pL i);have hsW:=B0.size;have pH:gr<W:=Bl;go_upto_region 2 with fail
 have b1:Below W W (W.alloc (.cells #[J Ab y.runs[k].id,J Ab y.runs[k].plan.prio,J Ab y.runs[k].plan.most,J Ab y.runs[k].plan.wait,J Ab y.runs[k].plan.tasks,Aa sw.1.a sw.1.n sw.1.c,J Ab y.runs[k].state,Aa sw.2.a sw.2.n sw.2.c] 67)):=Bt;have WB:=DBox.new 67 [J Ab y.runs[k].id,J Ab y.runs[k].plan.prio,J Ab y.runs[k].plan.most,J Ab y.runs[k].plan.wait,J Ab y.runs[k].plan.tasks,Aa sw.1.a sw.1.n sw.1.c,J Ab y.runs[k].state,Aa sw.2.a sw.2.n sw.2.c] W (b:=W) rfl;clear Y_;clear RB_;clear RES_0 RES_1 RES_2 RES_3 RES_l;replace Y:=Y.below b1;replace RB:=RB.below b1;replace RES:=RES.below b1;have B1:=Bv B0 b1;replace c0:=(b1.cell (p:=⟨gr,o2+k * 8,Ac⟩) pH).trans c0;replace c1:=(b1.cell (p:=⟨gr,o2+k * 8+1,Ac⟩) pH).trans c1;replace c2:=(b1.cell (p:=⟨gr,o2+k * 8+2,Ac⟩) pH).trans c2;replace c3:=(b1.cell (p:=⟨gr,o2+k * 8+3,Ac⟩) pH).trans c3;replace c4:=(b1.cell (p:=⟨gr,o2+k * 8+4,Ac⟩) pH).trans c4;replace c5:=(b1.cell (p:=⟨gr,o2+k * 8+5,Ac⟩) pH).trans c5;replace c6:=(b1.cell (p:=⟨gr,o2+k * 8+6,Ac⟩) pH).trans c6;replace c7:=(b1.cell (p:=⟨gr,o2+k * 8+7,Ac⟩) pH).trans c7;replace hfW:=fun i=>(b1.frozen (p:=⟨gr,i,Ac⟩) pH).trans (hfW i);obtain ⟨hwb,hwbE⟩:∃ x,x=W.heap.size:=⟨_,rfl⟩
 rw [<-hwbE] at WB ⊢;have hwb1:=Nat.le_of_eq hwbE;have hwb2:=Nat.le_of_eq hwbE.symm;clear hwbE;generalize W.alloc (.cells #[J Ab y.runs[k].id,J Ab y.runs[k].plan.prio,J Ab y.runs[k].plan.most,J Ab y.runs[k].plan.wait,J Ab y.runs[k].plan.tasks,Aa sw.1.a sw.1.n sw.1.c,J Ab y.runs[k].state,Aa sw.2.a sw.2.n sw.2.c] 67)=W2 at *
 have Y_:=Y.g4;have RB_:=RB.g8;obtain ⟨RES_0,RES_1,RES_2,RES_3,RES_l⟩:=RES.g4;have WB_:=WB.g8;have hrn2:=fT.below B1;have pV:=Cn.ow_below hr B1;have gS:gr∉Fr:=fun h=>hd _ h (Be _ fH);have kI:g∉Fr:=fun h=>hd _ h (Bf _ eP);have dX:∀ x∈F1,x∉F2:=fun x h1 h2=>(Ay.1 hn).2.2 x h1 x h2 rfl;obtain ⟨F2',p1,p2,p3,p4⟩:=OwL.swap hrn2 hk (y:=r) (s:=sr) pV (fun x hx hx2=>hd x hx (Be _ hx2));have fD:Is W2 gr (o2+k * Cn.enc.sz) (Cn.enc.cells (r,sr))=((((((((W2.setCell ⟨gr,o2+k * 8,Ac⟩ (J Ab r.id)).setCell ⟨gr,o2+k * 8+1,Ac⟩ (J Ab r.plan.prio)).setCell ⟨gr,o2+k * 8+2,Ac⟩ (J Ab r.plan.most)).setCell ⟨gr,o2+k * 8+3,Ac⟩ (J Ab r.plan.wait)).setCell ⟨gr,o2+k * 8+4,Ac⟩ (J Ab r.plan.tasks)).setCell ⟨gr,o2+k * 8+5,Ac⟩ (Aa sr.1.a sr.1.n sr.1.c)).setCell ⟨gr,o2+k * 8+6,Ac⟩ (J Ab r.state)).setCell ⟨gr,o2+k * 8+7,Ac⟩ (Aa sr.2.a sr.2.n sr.2.c)):=rfl;have hC:Chg [gr] W2 ((((((((W2.setCell ⟨gr,o2+k * 8,Ac⟩ (J Ab r.id)).setCell ⟨gr,o2+k * 8+1,Ac⟩ (J Ab r.plan.prio)).setCell ⟨gr,o2+k * 8+2,Ac⟩ (J Ab r.plan.most)).setCell ⟨gr,o2+k * 8+3,Ac⟩ (J Ab r.plan.wait)).setCell ⟨gr,o2+k * 8+4,Ac⟩ (J Ab r.plan.tasks)).setCell ⟨gr,o2+k * 8+5,Ac⟩ (Aa sr.1.a sr.1.n sr.1.c)).setCell ⟨gr,o2+k * 8+6,Ac⟩ (J Ab r.state)).setCell ⟨gr,o2+k * 8+7,Ac⟩ (Aa sr.2.a sr.2.n sr.2.c)):=by rw [<-fD];exact Fn _ _ _ _
 rw [fD] at p1;clear fD;have nK:gr∉F1:=fun h=>dX _ h fH;have hgx2:g∉Fx:=fun h=>dX _ eP (bF _ h);have fS:=(hs.below B1).chg hC (fun x hx h=>by simp only [Aw] at h;subst h;exact nK hx);have jL:=Cn.ow_chg (Cn.ow_below hx B1) hC (fun x hx h=>by simp only [Aw] at h;subst h;exact kK hx);have hr3:=Cn.ow_chg pV hC (fun x hx h=>by simp only [Aw] at h;subst h;exact gS hx);have uG:=RES_l;have hsz2:=B1.size;have hszb:=b1.size;go_upto_region 3 with fail
 clear Y_;clear RB_;clear RES_0 RES_1 RES_2 RES_3 RES_l;clear WB_;replace Y:=Y.chg hC (by simp only [Aw];omega);replace RB:=RB.chg hC (by simp only [Aw];omega);replace RES:=RES.chg hC (by simp only [Aw];omega);replace WB:=WB.chg hC (by simp only [Aw];omega);have hsz3:=hC.size;generalize ((((((((W2.setCell ⟨gr,o2+k * 8,Ac⟩ (J Ab r.id)).setCell ⟨gr,o2+k * 8+1,Ac⟩ (J Ab r.plan.prio)).setCell ⟨gr,o2+k * 8+2,Ac⟩ (J Ab r.plan.most)).setCell ⟨gr,o2+k * 8+3,Ac⟩ (J Ab r.plan.wait)).setCell ⟨gr,o2+k * 8+4,Ac⟩ (J Ab r.plan.tasks)).setCell ⟨gr,o2+k * 8+5,Ac⟩ (Aa sr.1.a sr.1.n sr.1.c)).setCell ⟨gr,o2+k * 8+6,Ac⟩ (J Ab r.state)).setCell ⟨gr,o2+k * 8+7,Ac⟩ (Aa sr.2.a sr.2.n sr.2.c))=W3 at *
 have Y_:=Y.g4;have RB_:=RB.g8;obtain ⟨RES_0,RES_1,RES_2,RES_3,RES_l⟩:=RES.g4;have WB_:=WB.g8;clear c0 c1 c2 c3 c4 c5 c6 c7 hfW;go_wp2_with fail
 refine (Uc ⟨y.now,y.seq,y.shelf,y.runs.set k r⟩ g o sc ⟨Ad ⟨gr,o2,Ac⟩,y.runs.length,rc⟩ y.runs[k] sw r sr W3 F1 h4.out hM hq hT qA fS (Bq fun W hW=>(Cn.ow_rd (Cn.ow_chg hr3 hW (fun x hx h=>by simp only [Aw] at h;subst h;exact kI hx))).2) (Bq fun W hW=>(Cn.ow_rd (Cn.ow_chg jL hW (fun x hx h=>by simp only [Aw] at h;subst h;exact hgx2 hx))).2)).mono ?_;rintro e W4 ⟨F1',rfl,q1,q2,q3⟩;have HE:=Bq (show E0 y k r=Ly ⟨y.now,y.seq,y.shelf,y.runs.set k r⟩ y.runs[k] r by unfold E0;rw [List.getD_eq_getElem?_getD,List.getElem?_eq_getElem hk];rfl);have fB:=Bq (show (Ly ⟨y.now,y.seq,y.shelf,y.runs.set k r⟩ y.runs[k] r).runs=y.runs.set k r from (Rf (y:=⟨y.now,y.seq,y.shelf,y.runs.set k r⟩) (was:=y.runs[k]) (r:=r) hM r.tasks.length).runs);dsimp only at q1;generalize Ly ⟨y.now,y.seq,y.shelf,y.runs.set k r⟩ y.runs[k] r=Z at *
 have hsz4:=q3.size;clear Y_;clear RB_;clear RES_0 RES_1 RES_2 RES_3 RES_l;clear WB_;replace RES:=RES.chg q3 (by simp only [Aw];omega);obtain ⟨RES_0,RES_1,RES_2,RES_3,RES_l⟩:=RES.g4;have rf:=RES.free;have hg1':∀ x∈F1',x∈F1\/W3<=x:=q2;have dB:∀ x∈F1,x<w:=hs.lt;have aX:∀ x∈F2,x<w:=fT.lt;have hltr:∀ x∈Fr,x<w:=Cn.ow_lt hr;have pN:w.heap.size+1+1∉F1':=fun h=>by
  rcases q2 _ h with h | h
  ·have:=dB _ h;omega
  ·omega
 have fP:w.heap.size+1+1∉F2':=fun h=>by
  rcases p2 _ h with h | h
  ·have:=aX _ h;omega
  ·have:=hltr _ h;omega
 have p5:=p1.chg q3 (fun x hx h=>by
  simp only [Aw] at h;subst h;rcases p2 _ hx with h | h
  ·exact dX _ eP h
  ·exact kI h)
 have bI:(F1' ++ F2').Nodup:=by
  rw [Ay];refine ⟨q1.nodup,p1.nodup,fun a ha c hc e=>?_⟩;subst e;rcases q2 _ ha with h | h<;>rcases p2 _ hc with h' | h'
  ·exact dX _ h h'
  ·exact hd _ h' (Bf _ h)
  ·have:=aX _ h';omega
  ·have:=hltr _ h';omega
 have hcw:Chg (F1 ++ F2) w W4:=(((Chg.of_below (F1 ++ F2) B1).trans (hC.mono (fun x hx=>by simp only [Aw] at hx;subst hx;exact Be _ fH))).trans (q3.mono (fun x hx=>by simp only [Aw] at hx;subst hx;exact Bf _ eP)))
 go_wp2;refine Ak (Ahs (DBox.row4 RES rfl _ _ _ _)) rfl ⟨(⟨Ad ⟨g,o,Ac⟩,y.shelf.length,sc⟩,⟨Ad ⟨gr,o2,Ac⟩,y.runs.length,rc⟩),F1' ++ F2',by rw [HE.out],⟨F1',F2',rfl,bI,?_,?_⟩,?_,?_⟩
 ·rw [HE.out];show OwL (Dt.list Ch) _ F1' (Aa (Ad ⟨g,o,Ac⟩) y.shelf.length sc) Z.shelf;exact (((q1.set (a:=⟨_,_,Ac⟩) pN _).set (a:=⟨_,_,Ac⟩) pN _).set (a:=⟨_,_,Ac⟩) pN _).set (a:=⟨_,_,Ac⟩) pN _
 ·rw [HE.out];show OwL Cn _ F2' (Aa (Ad ⟨gr,o2,Ac⟩) y.runs.length rc) Z.runs;rw [fB.out];exact (((p5.set (a:=⟨_,_,Ac⟩) fP _).set (a:=⟨_,_,Ac⟩) fP _).set (a:=⟨_,_,Ac⟩) fP _).set (a:=⟨_,_,Ac⟩) fP _
 ·intro x hx;rcases Bi.1 hx with hx | hx
  ·rcases q2 _ hx with h | h
   ·exact .inl (Bf _ h)
   ·right;right;omega
  ·rcases p2 _ hx with h | h
   ·exact .inl (Be _ h)
   ·exact .inr (.inl h)
 ·exact (((hcw.high Bl _ _).high Bl _ _).high Bl _ _).high Bl _ _
theorem W6 (a b:List Entry) (s r:Sl) (w:World) (hl:a.length<=400000) (hl':b.length<=400000) (h:RdL Ch w w s.v a) (h':RdL Ch w w r.v b) :
  Calls An 207 #[Aa s.a s.n s.c,Aa r.a r.n r.c] w (Fa (Dt.list Ch) slV (Gp a b) w):=by
 have CC:=Bq (Jz a s w Bl h);obtain ⟨A,n,c⟩:=s;obtain rfl:n=a.length:=RdL.at1 (s:=⟨A,n,c⟩) h;obtain ⟨A',n',c'⟩:=r;obtain rfl:n'=b.length:=RdL.at1 (s:=⟨A',n',c'⟩) h';by_cases h8:80<a.length+b.length
 ·have hI:(80:Int)<(a.length:Int)+(b.length:Int):=Bl;have H:=Bq (show Gp a b=a from if_pos h8);go_enter func207,ntmps207;go_wp2_with fail
  refine CC.out.mono ?_;rintro e w1 ⟨s9,F9,rfl,o9,n9,b1⟩;dsimp only [slV];go_wp2;go_ret;exact ⟨s9,F9,rfl,by rw [H.out];exact o9,n9,b1⟩
 have hI:¬ (80:Int)<(a.length:Int)+(b.length:Int):=Bl;have H:=Bq (show Gp a b=b.foldl Ip a from if_neg h8);go_enter func207,ntmps207;go_wp2_with fail
 refine CC.out.mono ?_;rintro e w1 ⟨s9,F9,rfl,o9,n9,d1⟩;dsimp only [slV];go_wp2;clear CC;go_loopw [5,19] (fun x i wr=>∃ (k:Nat) (t:Sl) (F:List Nat),k<=b.length/\x = Aa t.a t.n t.c/\i = J Ab k/\Hid (OwL Ch wr F t.v ((b.take k).foldl Ip a)/\(∀ x∈F,w<=x))/\Below w w wr) (fun _ i _=>b.length - (intOf i).toNat);case atStart=>exact ⟨0,s9,F9,Ah _,rfl,rfl,⟨o9,n9⟩,d1⟩
 case round =>
  clear o9 n9 d1;obtain ⟨k,t,F,hk,rfl,rfl,hO,hb⟩:=hrel;by_cases aB:k<b.length
  ·have aC:(k:Int)<(b.length:Int):=Bl;obtain ⟨b1,o,_,rfl,aH,_,c0,c1,c2,c3⟩:=(h'.below hb).entry aB;have hs:=hb.size;have bN:b1<wr:=Bl;have HT:=Bq (K5 Ip a b k aB);have aK:((b.take k).foldl Ip a).length<=900000:=by rw [Ml];simp;omega
   have ha:Below wr wr (wr.alloc (.cells #[J Ab b[k].prio,J Ab b[k].seq,J Ab b[k].run,J Ab b[k].task] 71)):=Bt;have CP:=Bq (Nn ((b.take k).foldl Ip a) t b[k] _ aK ((hO.out.1.below ha).rd));generalize (b.take k).foldl Ip a=L at *
   go_wp2_with (go_at_call 274;refine CP.out.mono ?_;rintro e w2 ⟨t2,F2,rfl,o2,n2,b2⟩)
   have hE:=Bv hb (Bv ha b2);have hz:=ha.size;exact ⟨⟨k+1,t2,F2,Bl,rfl,by go_num,⟨by rw [HT.out];exact o2,fun x hx=>by have:=n2 x hx;omega⟩,hE⟩,clM⟩
  ·have aC:¬ (k:Int)<(b.length:Int):=Bl;have HO:=hO.out.1;rw [Bg Bl] at HO;go_wp2;go_ret;exact ⟨t,F,rfl,by rw [H.out];exact HO,hO.out.2,hb⟩
theorem Afo (v:Value) (code:List UInt8) (w:World) (hm:code.length<=9223372036854775807) (h:Rd Jx w w v code):Calls An 8 #[v] w fun e w'=>e = .returned (.bool (decide ((1048576:Int)<(code.length:Int))))/\w=w':=by
 obtain ⟨A,c,rfl,-⟩:=id h;go_enter func8,ntmps8;go_wp2;go_ret;exact ⟨rfl,rfl⟩
theorem Aep (v:Value) (l:List Int) (x:Int) (w:World) (hl:l.length<=2000000) (h:Rd Ii w w v l) :
  Calls An 22 #[v,J Ab x] w fun e w'=>e = .returned (.bool (decide (x∈l)))/\w=w':=by
 obtain ⟨A,c,rfl,-⟩:=id h;go_enter func22,ntmps22;go_wp2;go_loop [5] (fun i=>∃ k:Nat,k<=l.length/\i = J Ab k/\Hid (x∉l.take k)) (fun i=>l.length - (intOf i).toNat);case atStart=>exact ⟨0,Ah _,rfl,by show x∉l.take 0;simp⟩
 case round =>
  obtain ⟨k,hk,rfl,bY⟩:=hrel;by_cases aB:k<l.length
  ·obtain ⟨b,o,rfl,aH,c0⟩:=h.int aB;have i1:(k:Int)<(l.length:Int):=Bl;by_cases hx:l[k]=x
   ·have S:Hid (decide (x∈l)=true):=decide_eq_true (by rw [<-hx];exact Ax aB);rw [hx] at c0;clear hx;go_wp2;go_ret;exact ⟨Bx S.out.symm,rfl⟩
   ·have S:Hid (x∉l.take (k+1)):=by
     show x∉l.take (k+1);rw [Cy l k aB,Bi,Aw];rintro (h | h)
     ·exact bY.out h
     ·exact hx h.symm
    have eE:(l[k] == x)=false:=beq_eq_false_iff_ne.2 hx;clear hx;go_wp2;go_round;case rel=>exact ⟨k+1,Bl,by go_num,S⟩
    case measure=>simp [intOf];omega
  ·have i1:¬ (k:Int)<(l.length:Int):=Bl;have nE:k=l.length:=Bl;have S:Hid (decide (x∈l)=false):=decide_eq_false (by have:=bY.out;rw [nE,List.take_length] at this;exact this);clear nE bY;go_wp2;go_ret;exact ⟨Bx S.out.symm,rfl⟩
theorem Ahu {w:World} {F:List Nat} {rs:List (Task×Eu.S)} (h:Ows Eu w F rs):F=[]:=by
 induction h with
 | nil=>rfl
 | cons h1 _ ih=>rw [show _=[] from h1,ih];rfl
theorem N2 {w:World} {F:List Nat} {v:Value} {l:List Task} (h:OwL Eu w F v l):Hw Fz w F v l:=by
 have hr:=Vm h.rd;obtain ⟨rs,H,G,hm,hh,ho,rfl,hn⟩:=h;have hG:=Ahu ho;subst hG;obtain ⟨h1,h2,h3⟩:=hh;refine ⟨hr,?_,fun g hg=>h3 g (by simpa using hg)⟩;rw [List.append_nil,h2,<-hm,Au]
theorem Hf {w:World} {F:List Nat} {v:Value} {l:List Task} (h1:Hw Fz w F v l):OwL Eu w F v l:=by
 obtain ⟨⟨A,c,hv,hc,hA⟩,hF,hf⟩:=id h1;subst hv;refine ⟨l.map fun x=>(x,()),F,[],by rw [List.map_map];exact List.map_id _,⟨⟨A,c,by rw [Au],by rw [Au];exact hc,fun hl=>?_⟩,by rw [Au];exact hF,hf⟩,Wl w l,(List.append_nil _).symm,h1.nodup⟩;rw [Au] at hl;obtain ⟨b,o,h3,h4,h5⟩:=hA hl;refine ⟨b,o,h3,h4,fun k hk j u hu=>?_⟩;rw [List.getElem_map] at hu;exact h5 k (by rw [Au] at hk;exact hk) j u hu
theorem Hw.part {α:Type} {e:Enc α} {w:World} {F:List Nat} {b o n c:Nat} {l:List α} (h:Hw e w F (Aa (Ad ⟨b,o,Ac⟩) n c) l) {j:Nat} (hj:j<l.length) (y:α) (off:Nat) (us:List Value) (hoff:off+us.length<=e.sz)
  (cH:∀ i (hi:i<us.length),(e.cells y)[off+i]? = Ad us[i]) (fI:∀ i,i<e.sz->(i<off\/off+us.length<=i)->(e.cells y)[i]? = (e.cells l[j])[i]?) :
  Hw e (Is w b (o+j * e.sz+off) us) F (Aa (Ad ⟨b,o,Ac⟩) n c) (l.set j y):=by
 refine ⟨?_,by rw [List.length_set];exact h.2.1,fun g hg i=>by rw [Jf];exact h.2.2 g hg i⟩
 have:=Rd.part h.rd j hj y off us hoff cH fI
 rw [J8];exact this
theorem Hw.block {α:Type} {e:Enc α} {w:World} {F:List Nat} {b o n c:Nat} {l:List α} (h:Hw e w F (Aa (Ad ⟨b,o,Ac⟩) n c) l) (hp:0<l.length):F=[b]/\b<w/\(∀ i,w.frozen? ⟨b,i,Ac⟩=false):=by
 obtain ⟨b',o',hA,hF,hb,hf⟩:=h.at_ hp;simp only [Option.some.injEq,Addr.mk.injEq,and_true] at hA;obtain ⟨rfl,rfl⟩:=hA;exact ⟨hF,hb,hf⟩
theorem Rd.tsk {w:World} {B:Nat} {A:Option Addr} {n c:Nat} {l:List Task} (h:Rd Fz w B (Aa A n c) l) {k:Nat} (hk:k<l.length) :
  ∃ b o,A=Ad ⟨b,o,Ac⟩/\b<B/\w.cell? ⟨b,o+k * 4,Ac⟩=Ad (J Ab l[k].state)/\w.cell? ⟨b,o+k * 4+1,Ac⟩=Ad (J Ab l[k].need)/\w.cell? ⟨b,o+k * 4+2,Ac⟩=Ad (J Ab l[k].try_)/\w.cell? ⟨b,o+k * 4+3,Ac⟩=Ad (J Ab l[k].until_):=by
 obtain ⟨A',c',hv,_,hA⟩:=h;simp only [Value.slice.injEq] at hv;obtain ⟨rfl,_,_⟩:=hv;obtain ⟨b,o,bW,hb,hc⟩:=hA Bl;exact ⟨b,o,bW,hb,hc k hk 0 _ rfl,hc k hk 1 _ rfl,hc k hk 2 _ rfl,hc k hk 3 _ rfl⟩
theorem Hw.task4 {w:World} {F:List Nat} {b o n c:Nat} {l:List Task} (h:Hw Fz w F (Aa (Ad ⟨b,o,Ac⟩) n c) l) {j:Nat} (hj:j<l.length) (y:Task) :
  Hw Fz ((((w.setCell ⟨b,o+j * 4,Ac⟩ (J Ab y.state)).setCell ⟨b,o+j * 4+1,Ac⟩ (J Ab y.need)).setCell ⟨b,o+j * 4+2,Ac⟩ (J Ab y.try_)).setCell ⟨b,o+j * 4+3,Ac⟩ (J Ab y.until_)) F (Aa (Ad ⟨b,o,Ac⟩) n c) (l.set j y) :=
 h.part hj y 0 [J Ab y.state,J Ab y.need,J Ab y.try_,J Ab y.until_] (Bs _) (fun i hi=>by rw [Nat.zero_add];exact List.getElem?_eq_getElem hi) (fun i hi ho=>by simp at ho;have:i<4:=hi;omega)
theorem Hw.taskState {w:World} {F:List Nat} {b o n c:Nat} {l:List Task} (h:Hw Fz w F (Aa (Ad ⟨b,o,Ac⟩) n c) l) {j:Nat} (hj:j<l.length) (st:Int) :
  Hw Fz (w.setCell ⟨b,o+j * 4,Ac⟩ (J Ab st)) F (Aa (Ad ⟨b,o,Ac⟩) n c) (l.set j ⟨st,l[j].need,l[j].try_,l[j].until_⟩) :=
 h.part hj ⟨st,l[j].need,l[j].try_,l[j].until_⟩ 0 [J Ab st] (show 0+1<=4 by omega) (fun i hi=>by simp at hi;subst hi;rfl) (fun i hi ho=>by
  have:i<4:=hi;rcases (show i=1\/i=2\/i=3 by simp at ho;omega) with rfl | rfl | rfl<;>rfl)
theorem Hw.taskUntil {w:World} {F:List Nat} {b o n c:Nat} {l:List Task} (h:Hw Fz w F (Aa (Ad ⟨b,o,Ac⟩) n c) l) {j:Nat} (hj:j<l.length) (u:Int) :
  Hw Fz (w.setCell ⟨b,o+j * 4+3,Ac⟩ (J Ab u)) F (Aa (Ad ⟨b,o,Ac⟩) n c) (l.set j ⟨l[j].state,l[j].need,l[j].try_,u⟩) :=
 h.part hj ⟨l[j].state,l[j].need,l[j].try_,u⟩ 3 [J Ab u] (show 3+1<=4 by omega) (fun i hi=>by simp at hi;subst hi;rfl) (fun i hi ho=>by
  have:i<4:=hi;rcases (show i=0\/i=1\/i=2 by simp at ho;omega) with rfl | rfl | rfl<;>rfl)
theorem DBox.row8 {b:Nat} {cs:List Value} {w:World} (h:DBox b cs w) (hn:cs.length=8) (u0 u1 u2 u3 u4 u5 u6 u7:Value) :
  DBox b [u0,u1,u2,u3,u4,u5,u6,u7] ((((((((w.setCell ⟨b,0,Ac⟩ u0).setCell ⟨b,1,Ac⟩ u1).setCell ⟨b,2,Ac⟩ u2).setCell ⟨b,3,Ac⟩ u3).setCell ⟨b,4,Ac⟩ u4).setCell ⟨b,5,Ac⟩ u5).setCell ⟨b,6,Ac⟩ u6).setCell ⟨b,7,Ac⟩ u7):=by
 obtain ⟨c0,c1,c2,c3,c4,c5,c6,c7,rfl⟩:∃ c0 c1 c2 c3 c4 c5 c6 c7,cs=[c0,c1,c2,c3,c4,c5,c6,c7]:=by
  match cs,hn with
  | [c0,c1,c2,c3,c4,c5,c6,c7],_=>exact ⟨c0,c1,c2,c3,c4,c5,c6,c7,rfl⟩
 exact (((((((h.set 0 Bn u0).set 1 Bn u1).set 2 Bn u2).set 3 Bn u3).set 4 Bn u4).set 5 Bn u5).set 6 Bn u6).set 7 Bn u7
theorem Agn {b:Nat} {w:World} {u0 u1 u2 u3 u4 u5 u6 u7:Value} (X:DBox b [u0,u1,u2,u3,u4,u5,u6,u7] w) {v0 v1 v2 v3:Value} {rest:List Value} :
  (results Tryz.f295 (v0 :: v1 :: v2 :: v3 :: .pointer (Ad ⟨b,0,Ac⟩) :: rest).toArray).run An w = .ok (.agg #[u0,u1,u2,u3,u4,u5,u6,u7]) w:=by
 have c0:=X.cell 0 _ rfl;have c1:=X.cell 1 _ rfl;have c2:=X.cell 2 _ rfl;have c3:=X.cell 3 _ rfl;have c4:=X.cell 4 _ rfl;have c5:=X.cell 5 _ rfl;have c6:=X.cell 6 _ rfl;have c7:=X.cell 7 _ rfl;simp [results,results295,go_sem,c0,c1,c2,c3,c4,c5,c6,c7]
theorem N3 {l:List Task} {k:Nat} (hk:k<l.length) (f:Task->Task):((l.take k).map f ++ l.drop k).set k (f l[k])=(l.take (k+1)).map f ++ l.drop (k+1):=by
 rw [List.drop_eq_getElem_cons hk,List.set_append_right _ _ (by simp;omega)];rw [show k - ((l.take k).map f).length=0 by simp;omega,List.set_cons_zero,List.take_succ_eq_append_getElem hk,List.map_append,List.append_assoc];rfl
def Te (r:Run) (st:Int) (E:Sl) (b o c:Nat) (F:List Nat) (w:World) (e:Ending) (w':World):Prop :=
 e = .returned (Hx (C8 r st) (E,⟨Ad ⟨b,o,Ac⟩,r.tasks.length,c⟩))/\Hw Fz w' F (Aa (Ad ⟨b,o,Ac⟩) r.tasks.length c) (C8 r st).tasks/\Chg [b] w w'
theorem Qs (r:Run) (E:Sl) (st:Int) (b o c:Nat) (F:List Nat) (w:World) (hl:r.tasks.length<=2000000) (hp:0<r.tasks.length) (h:Hw Fz w F (Aa (Ad ⟨b,o,Ac⟩) r.tasks.length c) r.tasks) :
  Calls An 295 #[Hx r (E,⟨Ad ⟨b,o,Ac⟩,r.tasks.length,c⟩),J Ab st] w (Te r st E b o c F w):=by
 obtain ⟨rfl,bN,pJ⟩:=h.block hp;have X:=(DBox.new 67 [J Ab r.id,J Ab r.plan.prio,J Ab r.plan.most,J Ab r.plan.wait,J Ab r.plan.tasks,Aa E.a E.n E.c,J Ab r.state,Aa (Ad ⟨b,o,Ac⟩) r.tasks.length c] w (b:=w) rfl).below ((Br _ _).alloc (Bs _) (.cells #[J Ab 0,J Ab 0,J Ab 0,J Ab 0,J Ab 0,Aa Ac 0 0,J Ab 0,Aa Ac 0 0] 67));have RES:=DBox.new 67 [J Ab 0,J Ab 0,J Ab 0,J Ab 0,J Ab 0,Aa Ac 0 0,J Ab 0,Aa Ac 0 0] (w.alloc (.cells #[J Ab r.id,J Ab r.plan.prio,J Ab r.plan.most,J Ab r.plan.wait,J Ab r.plan.tasks,Aa E.a E.n E.c,J Ab r.state,Aa (Ad ⟨b,o,Ac⟩) r.tasks.length c] 67)) (b:=w+1) Bn;have B0:Below w w ((w.alloc (.cells #[J Ab r.id,J Ab r.plan.prio,J Ab r.plan.most,J Ab r.plan.wait,J Ab r.plan.tasks,Aa E.a E.n E.c,J Ab r.state,Aa (Ad ⟨b,o,Ac⟩) r.tasks.length c] 67)).alloc (.cells #[J Ab 0,J Ab 0,J Ab 0,J Ab 0,J Ab 0,Aa Ac 0 0,J Ab 0,Aa Ac 0 0] 67)):=by repeat (first | exact Br _ _ | refine Af ?_ Bo _)
 go_enter func295,ntmps295;go_wp2;have C0:=Chg.of_below [b] B0;have h0:=h.below B0;generalize Hx r (E,⟨Ad ⟨b,o,Ac⟩,r.tasks.length,c⟩)=rv;generalize ((w.alloc (.cells #[J Ab r.id,J Ab r.plan.prio,J Ab r.plan.most,J Ab r.plan.wait,J Ab r.plan.tasks,Aa E.a E.n E.c,J Ab r.state,Aa (Ad ⟨b,o,Ac⟩) r.tasks.length c] 67)).alloc (.cells #[J Ab 0,J Ab 0,J Ab 0,J Ab 0,J Ab 0,Aa Ac 0 0,J Ab 0,Aa Ac 0 0] 67))=W at *
 go_loopw [5] (fun i wr=>∃ k:Nat,k<=r.tasks.length/\i = J Ab k/\Hid (Hw Fz wr [b] (Aa (Ad ⟨b,o,Ac⟩) r.tasks.length c) ((r.tasks.take k).map Dj ++ r.tasks.drop k))/\DBox w [J Ab r.id,J Ab r.plan.prio,J Ab r.plan.most,J Ab r.plan.wait,J Ab r.plan.tasks,Aa E.a E.n E.c,J Ab r.state,Aa (Ad ⟨b,o,Ac⟩) r.tasks.length c] wr/\DBox (w+1) [J Ab 0,J Ab 0,J Ab 0,J Ab 0,J Ab 0,Aa Ac 0 0,J Ab 0,Aa Ac 0 0] wr/\Chg [b] w wr) (fun i _=>r.tasks.length - (intOf i).toNat);case atStart=>exact ⟨0,Ah _,rfl,by simpa using Bq h0,X,RES,C0⟩
 case round =>
  clear X RES C0 h0 B0;obtain ⟨k,hk,rfl,hO,X,RES,hb⟩:=hrel;obtain ⟨X_0,X_1,X_2,X_3,X_4,X_5,X_6,X_7,X_l⟩:=X.g8;obtain ⟨RES_0,RES_1,RES_2,RES_3,RES_4,RES_5,RES_6,RES_7,RES_l⟩:=RES.g8;by_cases aB:k<r.tasks.length;case neg =>
   have aC:¬ (k:Int)<(r.tasks.length:Int):=Bl;have HO:=hO.out;rw [Bg Bl,List.drop_eq_nil_of_le Bl,List.append_nil] at HO;have xf:=X.free;have rf:=RES.free;go_wp2;have R4:=DBox.row8 (RES.setOther (a:=⟨w,6,Ac⟩) (by show w.heap.size+1≠w.heap.size;omega) (J Ab st)) rfl (J Ab r.id) (J Ab r.plan.prio) (J Ab r.plan.most) (J Ab r.plan.wait) (J Ab r.plan.tasks) (Aa E.a E.n E.c) (J Ab st) (Aa (Ad ⟨b,o,Ac⟩) r.tasks.length c);have vA:∀ x∈[b],x∉[w.heap.size,w.heap.size+1]:=fun x hx h2=>by
    simp only [Aw] at hx;simp only [List.mem_cons,List.not_mem_nil,or_false] at h2;omega
   refine Ak (Agn R4) rfl ⟨rfl,?_,?_⟩
   ·show Hw Fz _ [b] _ (r.tasks.map Dj);have e1:w.heap.size∉[b]:=by simp only [Aw];omega
    have e2:w.heap.size+1∉[b]:=by simp only [Aw];omega
    exact ((((((((HO.set (a:=⟨_,_,Ac⟩) e1 _).set (a:=⟨_,_,Ac⟩) e2 _).set (a:=⟨_,_,Ac⟩) e2 _).set (a:=⟨_,_,Ac⟩) e2 _).set (a:=⟨_,_,Ac⟩) e2 _).set (a:=⟨_,_,Ac⟩) e2 _).set (a:=⟨_,_,Ac⟩) e2 _).set (a:=⟨_,_,Ac⟩) e2 _).set (a:=⟨_,_,Ac⟩) e2 _
   ·exact ((((((((hb.high (Bs _) _ _).high Bl _ _).high Bl _ _).high Bl _ _).high Bl _ _).high Bl _ _).high Bl _ _).high Bl _ _).high Bl _ _
  have aC:(k:Int)<(r.tasks.length:Int):=Bl;have dF:(0:Int)<=(k:Int):=Bl;have jG:k<((r.tasks.take k).map Dj ++ r.tasks.drop k).length:=by simp;omega
  have tA:=Bq (show ((r.tasks.take k).map Dj ++ r.tasks.drop k)[k]=r.tasks[k] by
   rw [List.getElem_append_right (by simp;omega)];simp [Nat.min_eq_left (Nat.le_of_lt aB)])
  obtain ⟨b1,o1,mF,hbb1,c0,c1,c2,c3⟩:=hO.out.rd.tsk jG;simp only [Option.some.injEq,Addr.mk.injEq,and_true] at mF;obtain ⟨rfl,rfl⟩:=mF;rw [tA.out] at c0 c1 c2 c3;have hlM:=Bq (show ((r.tasks.take k).map Dj ++ r.tasks.drop k).length=r.tasks.length by simp;omega);by_cases s4:r.tasks[k].state=4
  ·have q4:(r.tasks[k].state != 4)=false:=by simp [s4]
   have hy:=Bq (show Dj r.tasks[k]=⟨r.tasks[k].state,r.tasks[k].need,r.tasks[k].try_,r.tasks[k].until_⟩ by unfold Dj;rw [if_neg (by simp [s4])]);clear s4;go_upto_region 8 with fail
   have XB:DBox wr [J Ab r.tasks[k].state,J Ab r.tasks[k].need,J Ab r.tasks[k].try_,J Ab r.tasks[k].until_] (wr.alloc (.cells #[J Ab r.tasks[k].state,J Ab r.tasks[k].need,J Ab r.tasks[k].try_,J Ab r.tasks[k].until_] 203)):=DBox.new 203 [J Ab r.tasks[k].state,J Ab r.tasks[k].need,J Ab r.tasks[k].try_,J Ab r.tasks[k].until_] wr rfl;have bw:Chg [b] wr (wr.alloc (.cells #[J Ab r.tasks[k].state,J Ab r.tasks[k].need,J Ab r.tasks[k].try_,J Ab r.tasks[k].until_] 203)):=Chg.of_below _ (Bt);have bb:Below wr wr (wr.alloc (.cells #[J Ab r.tasks[k].state,J Ab r.tasks[k].need,J Ab r.tasks[k].try_,J Ab r.tasks[k].until_] 203)):=by repeat (first | (with_reducible exact Br _ _) | refine Ae ?_ Bo _ | refine Af ?_ Bo _)
   have HO:=hO.out.below bb;replace X:=X.below bb;replace RES:=RES.below bb;clear bb;have hbz:=bw.size;generalize (wr.alloc (.cells #[J Ab r.tasks[k].state,J Ab r.tasks[k].need,J Ab r.tasks[k].try_,J Ab r.tasks[k].until_] 203))=W1 at *
   clear X_0 X_1 X_2 X_3 X_4 X_5 X_6 X_7 X_l;clear RES_0 RES_1 RES_2 RES_3 RES_4 RES_5 RES_6 RES_7 RES_l;obtain ⟨X_0,X_1,X_2,X_3,X_4,X_5,X_6,X_7,X_l⟩:=X.g8;have z0:=XB.cell 0 _ rfl;have z1:=XB.cell 1 _ rfl;have z2:=XB.cell 2 _ rfl;have z3:=XB.cell 3 _ rfl;have zl:=XB.lt;obtain ⟨b2,o2,eG,mD,d0,d1,d2,d3⟩:=HO.rd.tsk jG;simp only [Option.some.injEq,Addr.mk.injEq,and_true] at eG;obtain ⟨rfl,rfl⟩:=eG;have hfz:=(HO.block Bl).2.2;have Y4:Hw Fz ((((W1.setCell ⟨b,o+k * 4,Ac⟩ (J Ab r.tasks[k].state)).setCell ⟨b,o+k * 4+1,Ac⟩ (J Ab r.tasks[k].need)).setCell ⟨b,o+k * 4+2,Ac⟩ (J Ab r.tasks[k].try_)).setCell ⟨b,o+k * 4+3,Ac⟩ (J Ab r.tasks[k].until_)) [b] (Aa (Ad ⟨b,o,Ac⟩) r.tasks.length c) _:=HO.task4 jG ⟨r.tasks[k].state,r.tasks[k].need,r.tasks[k].try_,r.tasks[k].until_⟩;have B4:Chg [b] w ((((W1.setCell ⟨b,o+k * 4,Ac⟩ (J Ab r.tasks[k].state)).setCell ⟨b,o+k * 4+1,Ac⟩ (J Ab r.tasks[k].need)).setCell ⟨b,o+k * 4+2,Ac⟩ (J Ab r.tasks[k].try_)).setCell ⟨b,o+k * 4+3,Ac⟩ (J Ab r.tasks[k].until_)):=(((((hb.trans bw).trans (Chg.setCell _ b _ _)).trans (Chg.setCell _ b _ _)).trans (Chg.setCell _ b _ _)).trans (Chg.setCell _ b _ _))
   have e1:w≠b:=Bl;have e2:w+1≠b:=Bl;have X4:DBox w _ ((((W1.setCell ⟨b,o+k * 4,Ac⟩ (J Ab r.tasks[k].state)).setCell ⟨b,o+k * 4+1,Ac⟩ (J Ab r.tasks[k].need)).setCell ⟨b,o+k * 4+2,Ac⟩ (J Ab r.tasks[k].try_)).setCell ⟨b,o+k * 4+3,Ac⟩ (J Ab r.tasks[k].until_)):=(((X.setOther (a:=⟨b,_,Ac⟩) e1 _).setOther (a:=⟨b,_,Ac⟩) e1 _).setOther (a:=⟨b,_,Ac⟩) e1 _).setOther (a:=⟨b,_,Ac⟩) e1 _;have R4:DBox (w+1) _ ((((W1.setCell ⟨b,o+k * 4,Ac⟩ (J Ab r.tasks[k].state)).setCell ⟨b,o+k * 4+1,Ac⟩ (J Ab r.tasks[k].need)).setCell ⟨b,o+k * 4+2,Ac⟩ (J Ab r.tasks[k].try_)).setCell ⟨b,o+k * 4+3,Ac⟩ (J Ab r.tasks[k].until_)):=(((RES.setOther (a:=⟨b,_,Ac⟩) e2 _).setOther (a:=⟨b,_,Ac⟩) e2 _).setOther (a:=⟨b,_,Ac⟩) e2 _).setOther (a:=⟨b,_,Ac⟩) e2 _;have aF:=Bq (show ((r.tasks.take k).map Dj ++ r.tasks.drop k).set k ⟨r.tasks[k].state,r.tasks[k].need,r.tasks[k].try_,r.tasks[k].until_⟩=(r.tasks.take (k+1)).map Dj ++ r.tasks.drop (k+1) by rw [<-N3 aB Dj,hy.out]);clear d0 d1 d2 d3;have g0:=Bq Y4;clear Y4;obtain ⟨b3,o3,fC,hbb3,d0,d1,d2,d3⟩:=HO.rd.tsk jG;simp only [Option.some.injEq,Addr.mk.injEq,and_true] at fC;obtain ⟨rfl,rfl⟩:=fC;go_wp2;exact ⟨⟨k+1,Bl,by go_num,by rw [<-aF.out];exact g0,X4,R4,B4⟩,clM⟩
  by_cases s5:r.tasks[k].state=5
  ·have q4:(r.tasks[k].state != 4)=true:=by simp [s4]
   have q5:(r.tasks[k].state != 5)=false:=by simp [s5]
   have hy:=Bq (show Dj r.tasks[k]=⟨r.tasks[k].state,r.tasks[k].need,r.tasks[k].try_,r.tasks[k].until_⟩ by unfold Dj;rw [if_neg (by simp [s5])]);clear s4 s5;go_upto_region 8 with fail
   have XB:DBox wr [J Ab r.tasks[k].state,J Ab r.tasks[k].need,J Ab r.tasks[k].try_,J Ab r.tasks[k].until_] (wr.alloc (.cells #[J Ab r.tasks[k].state,J Ab r.tasks[k].need,J Ab r.tasks[k].try_,J Ab r.tasks[k].until_] 203)):=DBox.new 203 [J Ab r.tasks[k].state,J Ab r.tasks[k].need,J Ab r.tasks[k].try_,J Ab r.tasks[k].until_] wr rfl;have bw:Chg [b] wr (wr.alloc (.cells #[J Ab r.tasks[k].state,J Ab r.tasks[k].need,J Ab r.tasks[k].try_,J Ab r.tasks[k].until_] 203)):=Chg.of_below _ (Bt);have bb:Below wr wr (wr.alloc (.cells #[J Ab r.tasks[k].state,J Ab r.tasks[k].need,J Ab r.tasks[k].try_,J Ab r.tasks[k].until_] 203)):=by repeat (first | (with_reducible exact Br _ _) | refine Ae ?_ Bo _ | refine Af ?_ Bo _)
   have HO:=hO.out.below bb;replace X:=X.below bb;replace RES:=RES.below bb;clear bb;have hbz:=bw.size;generalize (wr.alloc (.cells #[J Ab r.tasks[k].state,J Ab r.tasks[k].need,J Ab r.tasks[k].try_,J Ab r.tasks[k].until_] 203))=W1 at *
   clear X_0 X_1 X_2 X_3 X_4 X_5 X_6 X_7 X_l;clear RES_0 RES_1 RES_2 RES_3 RES_4 RES_5 RES_6 RES_7 RES_l;obtain ⟨X_0,X_1,X_2,X_3,X_4,X_5,X_6,X_7,X_l⟩:=X.g8;have z0:=XB.cell 0 _ rfl;have z1:=XB.cell 1 _ rfl;have z2:=XB.cell 2 _ rfl;have z3:=XB.cell 3 _ rfl;have zl:=XB.lt;obtain ⟨b2,o2,eG,mD,d0,d1,d2,d3⟩:=HO.rd.tsk jG;simp only [Option.some.injEq,Addr.mk.injEq,and_true] at eG;obtain ⟨rfl,rfl⟩:=eG;have hfz:=(HO.block Bl).2.2;have Y4:Hw Fz ((((W1.setCell ⟨b,o+k * 4,Ac⟩ (J Ab r.tasks[k].state)).setCell ⟨b,o+k * 4+1,Ac⟩ (J Ab r.tasks[k].need)).setCell ⟨b,o+k * 4+2,Ac⟩ (J Ab r.tasks[k].try_)).setCell ⟨b,o+k * 4+3,Ac⟩ (J Ab r.tasks[k].until_)) [b] (Aa (Ad ⟨b,o,Ac⟩) r.tasks.length c) _:=HO.task4 jG ⟨r.tasks[k].state,r.tasks[k].need,r.tasks[k].try_,r.tasks[k].until_⟩;have B4:Chg [b] w ((((W1.setCell ⟨b,o+k * 4,Ac⟩ (J Ab r.tasks[k].state)).setCell ⟨b,o+k * 4+1,Ac⟩ (J Ab r.tasks[k].need)).setCell ⟨b,o+k * 4+2,Ac⟩ (J Ab r.tasks[k].try_)).setCell ⟨b,o+k * 4+3,Ac⟩ (J Ab r.tasks[k].until_)):=(((((hb.trans bw).trans (Chg.setCell _ b _ _)).trans (Chg.setCell _ b _ _)).trans (Chg.setCell _ b _ _)).trans (Chg.setCell _ b _ _))
   have e1:w≠b:=Bl;have e2:w+1≠b:=Bl;have X4:DBox w _ ((((W1.setCell ⟨b,o+k * 4,Ac⟩ (J Ab r.tasks[k].state)).setCell ⟨b,o+k * 4+1,Ac⟩ (J Ab r.tasks[k].need)).setCell ⟨b,o+k * 4+2,Ac⟩ (J Ab r.tasks[k].try_)).setCell ⟨b,o+k * 4+3,Ac⟩ (J Ab r.tasks[k].until_)):=(((X.setOther (a:=⟨b,_,Ac⟩) e1 _).setOther (a:=⟨b,_,Ac⟩) e1 _).setOther (a:=⟨b,_,Ac⟩) e1 _).setOther (a:=⟨b,_,Ac⟩) e1 _;have R4:DBox (w+1) _ ((((W1.setCell ⟨b,o+k * 4,Ac⟩ (J Ab r.tasks[k].state)).setCell ⟨b,o+k * 4+1,Ac⟩ (J Ab r.tasks[k].need)).setCell ⟨b,o+k * 4+2,Ac⟩ (J Ab r.tasks[k].try_)).setCell ⟨b,o+k * 4+3,Ac⟩ (J Ab r.tasks[k].until_)):=(((RES.setOther (a:=⟨b,_,Ac⟩) e2 _).setOther (a:=⟨b,_,Ac⟩) e2 _).setOther (a:=⟨b,_,Ac⟩) e2 _).setOther (a:=⟨b,_,Ac⟩) e2 _;have aF:=Bq (show ((r.tasks.take k).map Dj ++ r.tasks.drop k).set k ⟨r.tasks[k].state,r.tasks[k].need,r.tasks[k].try_,r.tasks[k].until_⟩=(r.tasks.take (k+1)).map Dj ++ r.tasks.drop (k+1) by rw [<-N3 aB Dj,hy.out]);clear d0 d1 d2 d3;have g0:=Bq Y4;clear Y4;obtain ⟨b3,o3,fC,hbb3,d0,d1,d2,d3⟩:=HO.rd.tsk jG;simp only [Option.some.injEq,Addr.mk.injEq,and_true] at fC;obtain ⟨rfl,rfl⟩:=fC;go_wp2;exact ⟨⟨k+1,Bl,by go_num,by rw [<-aF.out];exact g0,X4,R4,B4⟩,clM⟩
  have q4:(r.tasks[k].state != 4)=true:=by simp [s4]
  have q5:(r.tasks[k].state != 5)=true:=by simp [s5]
  have hy:=Bq (show Dj r.tasks[k]=⟨6,r.tasks[k].need,r.tasks[k].try_,0⟩ by unfold Dj;rw [if_pos ⟨s4,s5⟩]);clear s4 s5;go_upto_region 8 with fail
  have XB:DBox wr [J Ab 6,J Ab r.tasks[k].need,J Ab r.tasks[k].try_,J Ab 0] (wr.alloc (.cells #[J Ab 6,J Ab r.tasks[k].need,J Ab r.tasks[k].try_,J Ab 0] 203)):=DBox.new 203 [J Ab 6,J Ab r.tasks[k].need,J Ab r.tasks[k].try_,J Ab 0] wr rfl;have bw:Chg [b] wr (wr.alloc (.cells #[J Ab 6,J Ab r.tasks[k].need,J Ab r.tasks[k].try_,J Ab 0] 203)):=Chg.of_below _ (by repeat (first | (with_reducible exact Br _ _) | refine Ae ?_ Bo _ | refine Af ?_ Bo _));have bb:Below wr wr (wr.alloc (.cells #[J Ab 6,J Ab r.tasks[k].need,J Ab r.tasks[k].try_,J Ab 0] 203)):=by repeat (first | (with_reducible exact Br _ _) | refine Ae ?_ Bo _ | refine Af ?_ Bo _)
  have HO:=hO.out.below bb;replace X:=X.below bb;replace RES:=RES.below bb;clear bb;have hbz:=bw.size;generalize (wr.alloc (.cells #[J Ab 6,J Ab r.tasks[k].need,J Ab r.tasks[k].try_,J Ab 0] 203))=W1 at *
  clear X_0 X_1 X_2 X_3 X_4 X_5 X_6 X_7 X_l;clear RES_0 RES_1 RES_2 RES_3 RES_4 RES_5 RES_6 RES_7 RES_l;obtain ⟨X_0,X_1,X_2,X_3,X_4,X_5,X_6,X_7,X_l⟩:=X.g8;have z0:=XB.cell 0 _ rfl;have z1:=XB.cell 1 _ rfl;have z2:=XB.cell 2 _ rfl;have z3:=XB.cell 3 _ rfl;have zl:=XB.lt;obtain ⟨b2,o2,eG,mD,d0,d1,d2,d3⟩:=HO.rd.tsk jG;simp only [Option.some.injEq,Addr.mk.injEq,and_true] at eG;obtain ⟨rfl,rfl⟩:=eG;have hfz:=(HO.block Bl).2.2;have Y4:Hw Fz ((((W1.setCell ⟨b,o+k * 4,Ac⟩ (J Ab 6)).setCell ⟨b,o+k * 4+1,Ac⟩ (J Ab r.tasks[k].need)).setCell ⟨b,o+k * 4+2,Ac⟩ (J Ab r.tasks[k].try_)).setCell ⟨b,o+k * 4+3,Ac⟩ (J Ab 0)) [b] (Aa (Ad ⟨b,o,Ac⟩) r.tasks.length c) _:=HO.task4 jG ⟨6,r.tasks[k].need,r.tasks[k].try_,0⟩;have B4:Chg [b] w ((((W1.setCell ⟨b,o+k * 4,Ac⟩ (J Ab 6)).setCell ⟨b,o+k * 4+1,Ac⟩ (J Ab r.tasks[k].need)).setCell ⟨b,o+k * 4+2,Ac⟩ (J Ab r.tasks[k].try_)).setCell ⟨b,o+k * 4+3,Ac⟩ (J Ab 0)):=(((((hb.trans bw).trans (Chg.setCell _ b _ _)).trans (Chg.setCell _ b _ _)).trans (Chg.setCell _ b _ _)).trans (Chg.setCell _ b _ _))
  have e1:w≠b:=Bl;have e2:w+1≠b:=Bl;have X4:DBox w _ ((((W1.setCell ⟨b,o+k * 4,Ac⟩ (J Ab 6)).setCell ⟨b,o+k * 4+1,Ac⟩ (J Ab r.tasks[k].need)).setCell ⟨b,o+k * 4+2,Ac⟩ (J Ab r.tasks[k].try_)).setCell ⟨b,o+k * 4+3,Ac⟩ (J Ab 0)):=(((X.setOther (a:=⟨b,_,Ac⟩) e1 _).setOther (a:=⟨b,_,Ac⟩) e1 _).setOther (a:=⟨b,_,Ac⟩) e1 _).setOther (a:=⟨b,_,Ac⟩) e1 _;have R4:DBox (w+1) _ ((((W1.setCell ⟨b,o+k * 4,Ac⟩ (J Ab 6)).setCell ⟨b,o+k * 4+1,Ac⟩ (J Ab r.tasks[k].need)).setCell ⟨b,o+k * 4+2,Ac⟩ (J Ab r.tasks[k].try_)).setCell ⟨b,o+k * 4+3,Ac⟩ (J Ab 0)):=(((RES.setOther (a:=⟨b,_,Ac⟩) e2 _).setOther (a:=⟨b,_,Ac⟩) e2 _).setOther (a:=⟨b,_,Ac⟩) e2 _).setOther (a:=⟨b,_,Ac⟩) e2 _;have aF:=Bq (show ((r.tasks.take k).map Dj ++ r.tasks.drop k).set k ⟨6,r.tasks[k].need,r.tasks[k].try_,0⟩=(r.tasks.take (k+1)).map Dj ++ r.tasks.drop (k+1) by rw [<-N3 aB Dj,hy.out]);clear d0 d1 d2 d3;have g0:=Bq Y4;clear Y4;obtain ⟨b3,o3,fC,hbb3,d0,d1,d2,d3⟩:=HO.rd.tsk jG;simp only [Option.some.injEq,Addr.mk.injEq,and_true] at fC;obtain ⟨rfl,rfl⟩:=fC;go_wp2;exact ⟨⟨k+1,Bl,by go_num,by rw [<-aF.out];exact g0,X4,R4,B4⟩,clM⟩
def Kq (y:Yard) (r:Run) (l:List Nat):Yard:=l.foldl (fun y t=>J4 y r t) y
theorem Ac0 (y:Yard) (r:Run) (l:List Nat) (k:Nat) (h:k<l.length):Kq y r (l.take (k+1))=J4 (Kq y r (l.take k)) r l[k]:=by
 unfold Kq;rw [List.take_succ_eq_append_getElem h,List.foldl_append];rfl
structure StockF (y z:Yard) (M n:Nat):Prop where
 now:z.now=y.now
 runs:z.runs=y.runs
 len:z.shelf.length=y.shelf.length
 seq:z.seq=y.seq+n
 all:∀ s∈z.shelf,s.length<=M+n
theorem W7 {y:Yard} {M:Nat} (hM:∀ s∈y.shelf,s.length<=M) (r:Run) (l:List Nat):StockF y (Kq y r l) M l.length:=by
 obtain ⟨h1,h2,h3,h4⟩:=Ko r l y;exact ⟨h1,h2,h3,h4,N1 r M l y hM⟩
def P8 (z:Yard) (b g o cs n:Nat) (R:Sl) (Fs:List Nat) (w:World) (e:Ending) (w':World):Prop :=
 e = .returned (.tuple #[]) /\ ∃ F',OwL (Dt.list Ch) w' F' (Aa (Ad ⟨g,o,Ac⟩) n cs) z.shelf/\DBox b [J Ab z.now,J Ab z.seq,Aa (Ad ⟨g,o,Ac⟩) n cs,Aa R.a R.n R.c] w'/\(∀ x∈F',x∈Fs\/w<=x)/\Chg [b,g] w w'
theorem Qt (y:Yard) (b g o cs:Nat) (R:Sl) (r:Run) (sr:Sl×Sl) (l:List Nat) (A:Option Addr) (n c:Nat) (w:World) (Fs:List Nat) (h4:y.shelf.length=4) (hM:∀ s∈y.shelf,s.length<=100000) (hq:0<=y.seq/\y.seq<=2000000000) (hl:l.length<=1000)
  (hY:DBox b [J Ab y.now,J Ab y.seq,Aa (Ad ⟨g,o,Ac⟩) y.shelf.length cs,Aa R.a R.n R.c] w) (hs:OwL (Dt.list Ch) w Fs (Aa (Ad ⟨g,o,Ac⟩) y.shelf.length cs) y.shelf) (bT:b∉Fs)
  (HT:Hid (∀ W,Chg [b,g] w W->Rd En W W (Aa A n c) l)) :
  Calls An 203 #[.pointer (Ad ⟨b,0,Ac⟩),Hx r sr,Aa A n c] w (P8 (Kq y r l) b g o cs y.shelf.length R Fs w):=by
 have mQ:n=l.length:=by obtain ⟨A',c',hv,_⟩:=HT.out w (Chg.refl _ _);simp only [Value.slice.injEq] at hv;exact hv.2.1
 subst mQ;have hg0:g∈Fs/\g<w:=by
  obtain ⟨_,_,_,_,_,h5,_,_⟩:=hs.elem (j:=0) Bl;exact ⟨h5,hs.lt g h5⟩
 have hbg:b≠g:=fun e=>bT (by rw [e];exact hg0.1);have jE:=Bq hs.lt;have pX:Cz r.id<y.shelf.length:=by rw [h4];exact Q6 _
 have kG:=hY.lt;obtain ⟨⟨ea,en,ec⟩,⟨ta,tn,tc⟩⟩:=sr;replace h4:=Bq h4;have RB:=DBox.new 67 [J Ab r.id,J Ab r.plan.prio,J Ab r.plan.most,J Ab r.plan.wait,J Ab r.plan.tasks,Aa ea en ec,J Ab r.state,Aa ta tn tc] w (b:=w) rfl;have B0:Below w w (w.alloc (.cells #[J Ab r.id,J Ab r.plan.prio,J Ab r.plan.most,J Ab r.plan.wait,J Ab r.plan.tasks,Aa ea en ec,J Ab r.state,Aa ta tn tc] 67)):=by repeat (first | exact Br _ _ | refine Af ?_ Bo _)
 go_enter func203,ntmps203;go_wp2_with (go_at_call 273;refine (Va r.id _).mono ?_;rintro e w1 ⟨rfl,b1⟩)
 replace RB:=RB.below b1;replace B0:=Bv B0 b1;clear b1;generalize Hx r (⟨ea,en,ec⟩,⟨ta,tn,tc⟩)=rv;have C0:=Chg.of_below [b,g] B0;have qY:=hY.below B0;have uE:=hs.below B0;have bG:=B0.size;have dL:=RB.lt;have bL:=hs.lt;clear hY hs;go_loopw [8,14] (fun x i wr=>∃ (k:Nat) (F:List Nat),k<=l.length/\i = J Ab k/\Hid (OwL (Dt.list Ch) wr F (Aa (Ad ⟨g,o,Ac⟩) y.shelf.length cs) (Kq y r (l.take k)).shelf/\(∀ x∈F,x∈Fs\/w+1<=x))/\DBox b [J Ab y.now,J Ab (Kq y r (l.take k)).seq,Aa (Ad ⟨g,o,Ac⟩) y.shelf.length cs,Aa R.a R.n R.c] wr/\DBox w [J Ab r.id,J Ab r.plan.prio,J Ab r.plan.most,J Ab r.plan.wait,J Ab r.plan.tasks,Aa ea en ec,J Ab r.state,Aa ta tn tc] wr/\Chg [b,g] w wr/\w.heap.size+1<=wr.heap.size) (fun _ i _=>l.length - (intOf i).toNat);case atStart=>exact ⟨0,Fs,Ah _,rfl,⟨uE,fun x hx=>.inl hx⟩,qY,RB,C0,dL⟩
 case round =>
  clear qY RB C0 uE B0 bG dL;obtain ⟨k,F,hk,rfl,hO,Y,RB,hC,hwr⟩:=hrel;by_cases aB:k<l.length;case neg =>
   have aC:¬ (k:Int)<(l.length:Int):=Bl;have cE:=hO.out;have hE:=Bq (show l.take k=l from Bg Bl);rw [hE.out] at cE Y;have hF:P8 (Kq y r l) b g o cs y.shelf.length R Fs w (.returned (.tuple #[])) wr:=⟨rfl,F,cE.1,by rw [(W7 hM r l).now];exact Y,fun x hx=>(cE.2 x hx).imp id (fun h=>Bl),hC⟩
   have HF:=Bq hF;clear hF cE hO Y;go_wp2;exact Ak (v:=.tuple #[]) (by simp [results,results203,go_sem]) rfl HF.out
  have aC:(k:Int)<(l.length:Int):=Bl;have hf:=W7 hM r (l.take k);have aF:=Bq (Ac0 y r l k aB);obtain ⟨b1,o1,rfl,aH,c0⟩:=(HT.out wr hC).nat aB;have hlk:(l.take k).length<=1000:=by rw [List.length_take];omega
  generalize Kq y r (l.take k)=Z at *
  obtain ⟨gI,aL,aK,kS,cW⟩:=hf;replace gI:=Bq gI;replace aL:=Bq aL;replace aK:=Bq aK;have hsq:0<=Z.seq/\Z.seq<=2000001000:=Bl;replace kS:=Bq kS;obtain ⟨kz,hkzE⟩:∃ kz,kz=Cz r.id:=⟨_,rfl⟩
  rw [<-hkzE] at pX ⊢;replace hkzE:=Bq hkzE;have kN:kz<Z.shelf.length:=by rw [aK.out];exact pX
  obtain ⟨_,_,sk,cG,hbb9,bR,ck⟩:=hO.out.1.rd.entryS kN;simp only [Option.some.injEq,Addr.mk.injEq,and_true] at cG;obtain ⟨rfl,rfl⟩:=cG;have gJ:(kz:Int)<(y.shelf.length:Int):=Bl;have dF:(0:Int)<=(kz:Int):=Bl;have qU:Z.shelf[kz].length<=900000:=by have:=cW _ (Ax kN);omega
  have dC:=Bq (show Z.shelf.getD kz []=Z.shelf[kz] by rw [List.getD_eq_getElem?_getD,List.getElem?_eq_getElem kN];rfl);have fB:=hO.out.1.free0 Bl;have CP:=Bq (Nn Z.shelf[kz] sk ⟨r.plan.prio,Z.seq,r.id,l[k]⟩ wr.drew qU (bR.below (Br _ _).drew));have hgwr:g<wr:=by have:=hC.size;omega
  have hbwr:=Y.lt;obtain ⟨Y_0,Y_1,Y_2,Y_3,Y_l⟩:=Y.g4;obtain ⟨RB_0,RB_1,RB_2,RB_3,RB_4,RB_5,RB_6,RB_7,RB_l⟩:=RB.g8;generalize l[k]=tk at *
  go_upto_region 5 with fail
  have HS:=Bq (show ∀ W,Below wr wr W->(fun w'=>w'.cell? ⟨b,1,Ac⟩=Ad (J Ab Z.seq)/\w'.cell? ⟨b,2,Ac⟩=Ad (Aa (Ad ⟨g,o,Ac⟩) y.shelf.length cs)/\w'.cell? ⟨w,0,Ac⟩=Ad (J Ab r.id)/\w'.cell? ⟨w,1,Ac⟩=Ad (J Ab r.plan.prio)/\w'.cell? ⟨g,o+kz,Ac⟩=Ad (Aa sk.a sk.n sk.c)) W from fun W hW=>⟨(hW.cell (p:=⟨_,_,Ac⟩) hbwr).trans Y_1,(hW.cell (p:=⟨_,_,Ac⟩) hbwr).trans Y_2,(hW.cell (p:=⟨_,_,Ac⟩) hwr).trans RB_0,(hW.cell (p:=⟨_,_,Ac⟩) hwr).trans RB_1,(hW.cell (p:=⟨_,_,Ac⟩) hgwr).trans ck⟩);refine Dl (fun w'=>w'.cell? ⟨b,1,Ac⟩=Ad (J Ab Z.seq)/\w'.cell? ⟨b,2,Ac⟩=Ad (Aa (Ad ⟨g,o,Ac⟩) y.shelf.length cs)/\w'.cell? ⟨w,0,Ac⟩=Ad (J Ab r.id)/\w'.cell? ⟨w,1,Ac⟩=Ad (J Ab r.plan.prio)/\w'.cell? ⟨g,o+kz,Ac⟩=Ad (Aa sk.a sk.n sk.c)) 25 Bm (HS.out _ (Br _ _).drew) (fun aA=>?_);refine aT 0 aA ?_;try simp only [pS]
  refine aT 1 aA ?_;try simp only [pS]
  refine aT 2 aA ?_;try simp only [pS]
  refine aT 3 aA ?_;try simp only [pS]
  refine aT 4 aA ?_;try simp only [pS]
  refine aT 5 aA ?_;try simp only [pS]
  refine aT 6 aA ?_;try simp only [pS]
  refine aT 7 aA ?_;try simp only [pS]
  refine aT 8 aA ?_;try simp only [pS]
  refine aT 9 aA ?_;try simp only [pS]
  refine aT 10 aA ?_;try simp only [pS]
  refine aT 11 aA ?_;try simp only [pS]
  refine aT 12 aA ?_;try simp only [pS]
  refine aT 13 aA ?_;try simp only [pS]
  refine aT 14 aA ?_;try simp only [pS]
  refine aT 15 aA ?_;try simp only [pS]
  refine aT 16 aA ?_;try simp only [pS]
  refine aT 17 aA ?_;try simp only [pS]
  refine aT 18 aA ?_;try simp only [pS]
  refine aT 19 aA ?_;try simp only [pS]
  refine aT 20 aA ?_;try simp only [pS]
  refine aT 21 aA ?_;try simp only [pS]
  refine aT 22 aA ?_;try simp only [pS]
  refine oT 23 (fun K hK=>?_);go_simp;refine CP.out.mono ?_;rintro e w2 ⟨t2,F2,rfl,o2,n2,b2⟩;dsimp only [slV];have b2':Below wr wr w2:=Bv (Br _ _).drew b2;have hwz:wr.drew.heap.size=wr.heap.size:=rfl;refine hK.out _ _ (fun _=>HS.out _ b2') ?_;clear hK K;try simp only [pS]
  have hgs:w2.cell? ⟨g,o+kz,Ac⟩=Ad (Aa sk.a sk.n sk.c):=(b2'.cell (p:=⟨_,_,Ac⟩) hgwr).trans ck;have pL:w2.frozen? ⟨g,o+kz,Ac⟩=false:=(b2'.frozen (p:=⟨_,_,Ac⟩) hgwr).trans (fB _);refine oT 24 (fun K hK=>?_);go_simp;refine hK.out _ _ (fun _=>HS.out _ b2') ?_;clear hK K;try simp only [pS]
  refine oT 25 (fun K hK=>?_);go_simp;refine hK.out _ _ (fun aE=>absurd rfl aE) ?_;clear hK K aA HS;try simp only [pS]
  refine Eb Bm ?_ _;obtain ⟨F',p1,p2,p3,p4⟩:=OwL.swap (hO.out.1.below b2') kN (y:=Ip Z.shelf[kz] ⟨r.plan.prio,Z.seq,r.id,tk⟩) (s:=t2) (Fy:=F2) o2 (fun x hx bF=>by have h1:=n2 x hx;have h2:=hO.out.1.lt x bF;omega);have fD:Is w2 g (o+kz * (Dt.list Ch).enc.sz) ((Dt.list Ch).enc.cells (Ip Z.shelf[kz] ⟨r.plan.prio,Z.seq,r.id,tk⟩,t2))=w2.setCell ⟨g,o+kz,Ac⟩ (Aa t2.a t2.n t2.c):=by
   show Is w2 g (o+kz * 1) [Aa t2.a t2.n t2.c]=_;rw [Nat.mul_one];rfl
  rw [fD] at p1;clear fD;have jD:Chg [b,g] w (w2.setCell ⟨g,o+kz,Ac⟩ (Aa t2.a t2.n t2.c)):=(hC.trans (Chg.of_below [b,g] b2')).trans ((Chg.setCell w2 g _ _).mono (fun x hx=>by simp only [Aw] at hx;subst hx;simp));have aR:=b2'.size;clear Y_0 Y_1 Y_2 Y_3 Y_l;clear RB_0 RB_1 RB_2 RB_3 RB_4 RB_5 RB_6 RB_7 RB_l;replace Y:=(Y.below b2').setOther (a:=⟨g,o+kz,Ac⟩) hbg (Aa t2.a t2.n t2.c);replace RB:=(RB.below b2').setOther (a:=⟨g,o+kz,Ac⟩) (by show w.heap.size≠g;omega) (Aa t2.a t2.n t2.c);have tW:(w2.setCell ⟨g,o+kz,Ac⟩ (Aa t2.a t2.n t2.c)).heap.size=w2.heap.size:=by simp [World.setCell]
  generalize w2.setCell ⟨g,o+kz,Ac⟩ (Aa t2.a t2.n t2.c)=w3 at *
  have y1:=Y.cell 1 _ rfl;have yf:=Y.free;have yl:=Y.lt;have cH:∀ x∈F',x∈Fs\/w+1<=x:=fun x hx=>by
   rcases p2 x hx with h | h
   ·exact hO.out.2 x h
   ·right;have:=n2 _ h;omega
  have uL:b∉F':=fun hx=>by rcases cH _ hx with h | h;(exact bT h);omega
  have hT:=Bq (show Kq y r (l.take (k+1))=⟨Z.now,Z.seq+1,Z.shelf.set kz (Ip Z.shelf[kz] ⟨r.plan.prio,Z.seq,r.id,tk⟩),Z.runs⟩ by rw [aF.out];unfold J4;rw [<-hkzE.out,dC.out]);clear aF dC hO p2 n2 p3 p4 o2 hgs pL CP;generalize Ip Z.shelf[kz] ⟨r.plan.prio,Z.seq,r.id,tk⟩=PE at *
  go_wp2;exact ⟨⟨k+1,F',Bl,by go_num,⟨by rw [hT.out];exact p1.set (a:=⟨b,1,Ac⟩) uL _,cH⟩,by rw [hT.out];exact Y.set 1 Bn _,RB.setOther (by show w.heap.size≠b;omega) _,jD.trans ((Chg.setCell w3 b _ _).mono (fun x hx=>by simp only [Aw] at hx;subst hx;simp)),by simp [World.setCell];omega⟩,clM⟩
end Go.Proofs.YtecnbnbopcblgaaGreat
