/-
  Data of the type Edge: how it lies in memory, and the walks of the laws' helpers on it. Written by program (deep.py). Data of the type Task: how it lies in memo
-/
import Derived.Test.YtonlnjdempbfoaaGreatZOv0
import Derived.Test.YtonlnjdempbfoaaGreatZOv1
import Derived.Lib.Hide
import Derived.IntWalk
import Derived.Sort.OwnSortedInts
namespace Go.Proofs.YtonlnjdempbfoaaGreat
open Go.RowKit
set_option maxRecDepth 100000
set_option maxHeartbeats 4000000
set_option linter.unusedVariables false
set_option linter.unusedSimpArgs false
@[go_sem] abbrev Tq (x:Edge) (_s:Unit):Value:=.agg #[.int .i64 x.fr,.int .i64 x.to]
abbrev Ct:Dt Edge:=Dt.flat (fun q=>[.int .i64 q.1.fr,.int .i64 q.1.to]) 2 (fun _=>rfl) (fun q u hu=>by simp at hu;rcases hu with rfl | rfl<;>rfl)
def Dy (_:Edge):Nat:=0
def Qz (x:Edge):Prop:=Wf x.fr/\Wf x.to
theorem Yc (x:Edge) (s:Unit) (w:World) (hl:Dy x<=2000000) (h:Ct.rd w w.heap.size x s) :
  Calls Tryz.prog 247 #[Tq x s] w (Cj Ct Tq x w):=by
 have cX:∀ W,Below w.heap.size w W->Ct.rd W W.heap.size x s:=fun W hW=>Ct.rd_more (Ct.rd_below h hW) hW.size
 go_enter Tryz.func247,Tryz.ntmps247
 go_wp2
 refine bodyPost_ret (v:=Tq x ()) ?_ rfl ?_
 ·simp [Tq,results,Tryz.results247,go_sem]
 ·exact ⟨(),[],rfl,rfl,(fun _ h=>by cases h),by repeat (first | (with_reducible exact Below.refl _ _) | refine Below.setCell ?_ (by simp<;>omega) _ | refine Below.alloc ?_ (by simp<;>omega) _)⟩
theorem Yd (x y:Edge) (s r:Unit) (w:World) (hl:Dy x<=2000000) (hl':Dy y<=2000000) (h:Ct.rd w w.heap.size x s) (h':Ct.rd w w.heap.size y r) :
  Calls Tryz.prog 248 #[Tq x s,Tq y r] w fun e w'=>e = .returned (.bool (decide (x=y)))/\Below w.heap.size w w':=by
 have cX:∀ W,Below w.heap.size w W->Ct.rd W W.heap.size x s:=fun W hW=>Ct.rd_more (Ct.rd_below h hW) hW.size
 have cK:∀ W,Below w.heap.size w W->Ct.rd W W.heap.size y r:=fun W hW=>Ct.rd_more (Ct.rd_below h' hW) hW.size
 by_cases h0:x.fr=y.fr
 case neg =>
  have t0:(x.fr != y.fr)=true:=by rw [bne_iff_ne];exact h0
  have H:=Lib.hid (show decide (x=y)=false by simp only [decide_eq_false_iff_not];intro e;exact h0 (by rw [e]))
  clear h0
  go_enter Tryz.func248,Tryz.ntmps248
  go_wp2
  go_ret
  exact ⟨Ac (by first | exact H.out.symm | rfl),by repeat (first | exact Below.refl _ _ | refine Below.alloc ?_ (by simp<;>omega) _)⟩
 have t0:(x.fr != y.fr)=false:=by simp [h0]
 have H0:=Lib.hid h0
 clear h0
 by_cases h1:x.to=y.to
 case neg =>
  have t1:(x.to != y.to)=true:=by rw [bne_iff_ne];exact h1
  have H:=Lib.hid (show decide (x=y)=false by simp only [decide_eq_false_iff_not];intro e;exact h1 (by rw [e]))
  clear h1
  go_enter Tryz.func248,Tryz.ntmps248
  go_wp2
  go_ret
  exact ⟨Ac (by first | exact H.out.symm | rfl),by repeat (first | exact Below.refl _ _ | refine Below.alloc ?_ (by simp<;>omega) _)⟩
 have t1:(x.to != y.to)=false:=by simp [h1]
 have H1:=Lib.hid h1
 clear h1
 have H:=Lib.hid (show decide (x=y)=true by
  simp only [decide_eq_true_eq]
  have hh:=And.intro H0.out H1.out
  obtain ⟨e0,e1⟩:=hh
  cases x
  cases y
  simp only at e0 e1
  subst e0 e1
  rfl)
 go_enter Tryz.func248,Tryz.ntmps248
 go_wp2
 go_ret
 exact ⟨Ac (by first | exact H.out.symm | rfl),by repeat (first | exact Below.refl _ _ | refine Below.alloc ?_ (by simp<;>omega) _)⟩
theorem RdL.edge {w:World} {B:Nat} {A:Option Addr} {n c:Nat} {l:List (Edge)} (h:RdL Ct w B (.slice A n c) l) {k:Nat} (hk:k<l.length) :
  ∃ b o,∃ _s:Unit,A=some ⟨b,o,none⟩/\b<B/\Ct.rd w B l[k] _s/\w.cell? ⟨b,o+k * 2,none⟩=some (.int .i64 l[k].fr)/\w.cell? ⟨b,o+k * 2+1,none⟩=some (.int .i64 l[k].to):=by
 obtain ⟨b,o,s,rfl,hb,hc,hr⟩:=h.at_ k hk
 exact ⟨b,o,s,rfl,hb,hr,hc 0 _ rfl,hc 1 _ rfl⟩
theorem Ow.c_edge {E:TypeId} {w:World} {base g n cap:Nat} {l:List ((Edge)×Unit)} (h:Ow Ct.enc E w base (.slice (some ⟨g,0,none⟩) n cap) l) {k:Nat} (hk:k<l.length) :
  w.cell? ⟨g,k * 2,none⟩=some (.int .i64 l[k].1.fr)/\w.cell? ⟨g,k * 2+1,none⟩=some (.int .i64 l[k].1.to):=by
 rcases h.form with ⟨h1,_⟩ | ⟨g',cap',hv,_,_,_,_,_,hc⟩
 ·simp at h1
 ·simp only [Value.slice.injEq,Option.some.injEq,Addr.mk.injEq,and_true] at hv
  obtain ⟨rfl,_,_⟩:=hv
  exact ⟨hc k hk 0 _ rfl,hc k hk 1 _ rfl⟩
theorem V7 (l:List (Edge)) (s:Sl) (left:Int) (w:World) (h0:0<=left) (h1:left<=2000000) (hw:wfL Qz l) (h:RdL Ct w w.heap.size s.v l) :
  Calls Tryz.prog 195 #[.slice s.a s.n s.c,.int .i64 left] w (Um left (Gd Dy l) w):=by
 obtain ⟨A,n,c⟩:=s
 obtain ⟨A',c',hv,-⟩:=h.form
 simp only [Sl.v,Value.slice.injEq] at hv
 obtain ⟨rfl,rfl,rfl⟩:=hv
 have dI:=hw.1
 by_cases aA:left<l.length
 ·go_enter Tryz.func195,Tryz.ntmps195
  go_wp2
  go_ret
  exact ⟨-1,rfl,.inl rfl,Below.refl _ _⟩
 go_enter Tryz.func195,Tryz.ntmps195
 go_wp2
 go_ret
 exact ⟨_,rfl,.inr ⟨by omega,by rw [El (cnt:=Dy) (fun _=>rfl) l];omega⟩,Below.refl _ _⟩
theorem V8 (l l':List (Edge)) (s s':Sl) (w:World) (hl:Gd Dy l<=2000000) (hl':Gd Dy l'<=2000000) (h:RdL Ct w w.heap.size s.v l) (h':RdL Ct w w.heap.size s'.v l') :
  Calls Tryz.prog 220 #[.slice s.a s.n s.c,.slice s'.a s'.n s'.c] w fun e w'=>e = .returned (.bool (decide (l=l')))/\Below w.heap.size w w':=by
 obtain ⟨A,n,c⟩:=s
 obtain ⟨A0,c0,hv,-⟩:=h.form
 simp only [Sl.v,Value.slice.injEq] at hv
 obtain ⟨rfl,rfl,rfl⟩:=hv
 obtain ⟨A',n',c'⟩:=s'
 obtain ⟨A0,c0,hv,-⟩:=h'.form
 simp only [Sl.v,Value.slice.injEq] at hv
 obtain ⟨rfl,rfl,rfl⟩:=hv
 have dI:l.length<=2000000:=Nat.le_trans (Ar _ _) hl
 have hll':l'.length<=2000000:=Nat.le_trans (Ar _ _) hl'
 have qY:∀ k (hk:k<l.length),Dy l[k]<=2000000:=fun k hk=>by have:=Cq (cnt:=Dy) (List.getElem_mem hk);omega
 have hcc':∀ k (hk:k<l'.length),Dy l'[k]<=2000000:=fun k hk=>by have:=Cq (cnt:=Dy) (List.getElem_mem hk);omega
 clear hl hl'
 by_cases aC:l.length=l'.length
 ·have bU:((l.length:Int) != (l'.length:Int))=false:=by simp [aC]
  have Hne:=Lib.hid aC
  clear aC
  go_enter Tryz.func220,Tryz.ntmps220
  go_wp2
  go_loopw [5] (fun i wr=>∃ k:Nat,k<=l.length/\i = .int .i64 k/\Hid (l.take k=l'.take k)/\Below w.heap.size w wr) (fun i _=>l.length - (intOf i).toNat)
  case atStart=>exact ⟨0,Nat.zero_le _,rfl,rfl,Below.refl _ _⟩
  case round =>
   obtain ⟨k,hk,rfl,jE,hb⟩:=hrel
   by_cases aA:k<l.length
   ·have eJ:k<l'.length:=by rw [<-Hne.out];exact aA
    obtain ⟨b,o,s,rfl,aH,hr,c0,c1⟩:=(h.below hb).edge aA
    obtain ⟨b',o',s',rfl,bI,nN,d0,d1⟩:=(h'.below hb).edge eJ
    have hx:∀ W,Below wr.heap.size wr W->Ct.rd W W.heap.size l[k] s:=fun W hW=>Ct.rd_more (Ct.rd_below (Ct.rd_more hr hb.size) hW) hW.size
    have eE:∀ W,Below wr.heap.size wr W->Ct.rd W W.heap.size l'[k] s':=fun W hW=>Ct.rd_more (Ct.rd_below (Ct.rd_more nN hb.size) hW) hW.size
    go_wp2
    go_still_tail 8,(by kernel_rfl)
    go_wp2_with (go_at_call 248;refine (Yd l[k] l'[k] s s' _ (qY k aA) (hcc' k eJ) (hx _ (by first | exact Below.refl _ _ | exact (Below.refl _ _).drew)) (eE _ (by first | exact Below.refl _ _ | exact (Below.refl _ _).drew))).mono ?_;rintro e w1 ⟨rfl,aL⟩)
    ·rename_i hd
     go_ret
     refine ⟨Ac ?_,(hb.drew).trans (aL.mono hb.size)⟩
     simp only [Bool.false_eq,decide_eq_false_iff_not]
     intro e
     subst e
     simp at hd
    ·rename_i hd
     refine ⟨⟨k+1,by omega,by go_num,?_,(hb.drew).trans (aL.mono hb.size)⟩,by simp [intOf];omega⟩
     show List.take (k+1) l=List.take (k+1) l'
     rw [Ay l k aA,Ay l' k eJ,jE.out]
     simp at hd
     rw [hd]
   ·go_wp2
    go_ret
    refine ⟨Ac ?_,hb⟩
    have h1:=jE.out
    rw [List.take_of_length_le (by omega),List.take_of_length_le (by rw [<-Hne.out];omega)] at h1
    simp [h1]
 ·have bU:((l.length:Int) != (l'.length:Int))=true:=by simp;omega
  go_enter Tryz.func220,Tryz.ntmps220
  go_wp2
  go_ret
  refine ⟨Ac ?_,Below.refl _ _⟩
  simp only [Bool.false_eq,decide_eq_false_iff_not]
  intro e
  exact aC (by rw [e])
theorem Ye:(Tryz.prog.info? 199).map (fun i=>(i.zero,i.size,i.bytes))=some (some (.agg #[.int .i64 0,.int .i64 0]),2,16):=by kernel_rfl
theorem V9 (l:List (Edge)) (s:Sl) (w:World) (hl:Gd Dy l<=2000000) (h:RdL Ct w w.heap.size s.v l) :
  Calls Tryz.prog 219 #[.slice s.a s.n s.c] w (Cj (Dt.list Ct) slV l w):=by
 obtain ⟨A,n,c⟩:=s
 obtain ⟨A',c',hv,-⟩:=h.form
 simp only [Sl.v,Value.slice.injEq] at hv
 obtain ⟨rfl,rfl,rfl⟩:=hv
 have dI:l.length<=2000000:=Nat.le_trans (Ar _ _) hl
 have qY:∀ k (hk:k<l.length),Dy l[k]<=2000000:=fun k hk=>by have:=Cq (cnt:=Dy) (List.getElem_mem hk);omega
 clear hl
 obtain ⟨i0,aP,aX,aV,aQ⟩:=info_parts Ye
 have mH:∀ w:World,(Instr.makeSlice 41 (.int .i64 (l.length:Int)) (.int .i64 (l.length:Int))).run Tryz.prog w = .ok (.slice (some ⟨w.heap.size,0,none⟩) l.length l.length) (w.alloc (.cells (madeCells #[.int .i64 0,.int .i64 0] (l.length * 2)) 199)):=by
  intro w
  have:=run_make (P:=Tryz.prog) w 41 199 i0 _ Tryz.underlying41 aP aX .i64 .i64 l.length l.length (by omega) (by omega) (by rw [aQ];omega) (by omega)
  rw [aV] at this
  simpa [Value.cells] using this
 go_enter Tryz.func219,Tryz.ntmps219
 go_wp2
 go_loopw [4] (fun i wr=>∃ k:Nat,k<=l.length/\i = .int .i64 k/\Hid (∃ (rs:List ((Edge)×Unit)) (G:List Nat),rs.map (·.1)=l.take k/\Ow Ct.enc 199 wr w.heap.size (.slice (some ⟨w.heap.size,0,none⟩) l.length l.length) (rs ++ List.replicate (l.length - k) (⟨0,0⟩,()))/\Ows Ct wr G rs/\G.Nodup /\ ∀ b∈G,w.heap.size<b)/\Below w.heap.size w wr) (fun i _=>l.length - (intOf i).toNat)
 case atStart=>exact ⟨0,Nat.zero_le _,rfl,⟨[],[],rfl,by rw [List.nil_append,Nat.sub_zero];exact Ow.made Ct.enc 199 w (⟨0,0⟩,()) l.length (by decide) (by simp [maxLen];omega) rfl rfl,.nil,List.nodup_nil,fun _ h=>by cases h⟩,(Below.refl _ _).alloc (Nat.le_refl _) _⟩
 case round =>
  obtain ⟨k,hk,rfl,⟨rs,G,hm,hown,hG,uG,kM⟩,hb⟩:=hrel
  have bR:rs.length=k:=by have:=congrArg List.length hm;simpa [Nat.min_eq_left hk] using this
  by_cases aA:k<l.length
  ·obtain ⟨b,o,s,rfl,aH,hr,c0,c1⟩:=(h.below hb).edge aA
   have hx:∀ W,Below wr.heap.size wr W->Ct.rd W W.heap.size l[k] s:=fun W hW=>Ct.rd_more (Ct.rd_below (Ct.rd_more hr hb.size) hW) hW.size
   have aJ:(rs ++ List.replicate (l.length - k) ((⟨0,0⟩,()):(Edge)×Unit)).length=l.length:=by simp;omega
   have Hm:=Lib.hid hm
   have Hrl:=Lib.hid bR
   clear hm bR
   go_wp2_with (go_at_call 247;refine (Yc l[k] s _ (qY k aA) (hx _ (by first | exact Below.refl _ _ | exact (Below.refl _ _).drew))).mono ?_;rintro e w1 ⟨s1,F1,rfl,o1,n1,aL⟩;have eW:=hown.below aL;have hf:=eW.free;obtain ⟨d0,d1⟩:=eW.c_edge (k:=k) (by rw [aJ];exact aA))
   have hp:=Ow.put eW aJ k aA (l[k],s1)
   have Hp:=Bld.lay hG uG kM aL (r:=(l[k],s1)) o1 n1 (Nat.lt_of_lt_of_le (hown.blk).2 (Nat.le_refl _)) hp.2
   rw [V2 rs _ k l.length Hrl.out aA] at hp
   refine ⟨⟨k+1,by omega,by go_num,⟨rs ++ [(l[k],s1)],G ++ F1,?_,hp.1,Hp.1,Hp.2.1,Hp.2.2⟩,(hb.trans (aL.mono hb.size)).grown hp.2 (Nat.le_trans hb.size aL.size) (fun g hg=>by simp at hg;omega)⟩,by simp [intOf];omega⟩
   rw [List.map_append,Hm.out,Ay l k aA]
   rfl
  ·have bH:k=l.length:=by omega
   subst bH
   rw [Nat.sub_self,List.replicate_zero,List.append_nil] at hown
   go_wp2
   go_ret
   rw [List.take_length] at hm
   have hB:Bld Ct 199 wr w.heap.size (.slice (some ⟨w.heap.size,0,none⟩) l.length l.length) rs:=⟨G,by rw [<-bR];exact (by rw [bR];exact hown),hG,uG,fun b bG=>⟨Nat.le_of_lt (kM b bG),by simp [Value.ownBlock];have:=kM b bG;omega⟩⟩
   obtain ⟨F,h1,h2⟩:=hB.owl hm
   exact ⟨⟨some ⟨w.heap.size,0,none⟩,l.length,l.length⟩,F,rfl,h1,h2,hb⟩
structure Task where
 state:Int
 need:Int
 try_:Int
 until_:Int
deriving DecidableEq,Inhabited
abbrev Cv:Dt Task:=Dt.flat (fun q=>[.int .i64 q.1.state,.int .i64 q.1.need,.int .i64 q.1.try_,.int .i64 q.1.until_]) 4 (fun _=>rfl) (fun q u hu=>by simp at hu;rcases hu with rfl | rfl | rfl | rfl<;>rfl)
def Fc (_:Task):Nat:=0
theorem RdL.task {w:World} {B:Nat} {A:Option Addr} {n c:Nat} {l:List (Task)} (h:RdL Cv w B (.slice A n c) l) {k:Nat} (hk:k<l.length) :
  ∃ b o,∃ _s:Unit,A=some ⟨b,o,none⟩/\b<B/\Cv.rd w B l[k] _s/\w.cell? ⟨b,o+k * 4,none⟩=some (.int .i64 l[k].state)/\w.cell? ⟨b,o+k * 4+1,none⟩=some (.int .i64 l[k].need)/\w.cell? ⟨b,o+k * 4+2,none⟩=some (.int .i64 l[k].try_)/\w.cell? ⟨b,o+k * 4+3,none⟩=some (.int .i64 l[k].until_):=by
 obtain ⟨b,o,s,rfl,hb,hc,hr⟩:=h.at_ k hk
 exact ⟨b,o,s,rfl,hb,hr,hc 0 _ rfl,hc 1 _ rfl,hc 2 _ rfl,hc 3 _ rfl⟩
structure DBox (b:Nat) (cs:List Value) (w:World):Prop where
 cell:∀ (j:Nat) (u:Value),cs[j]? = some u->w.cell? ⟨b,j,none⟩=some u
 free:∀ j,w.frozen? ⟨b,j,none⟩=false
 lt:b<w.heap.size
theorem DBox.new (T:TypeId) (cs:List Value) (w:World) {b:Nat} (hb:b=w.heap.size):DBox b cs (w.alloc (.cells cs.toArray T)):=by
 subst hb
 refine ⟨fun j u hu=>?_,fun j=>by simp [go_sem],by simp⟩
 have:=Nd w cs.toArray T rfl j u (by simpa using hu)
 have e:((⟨w.heap.size,0,none⟩:Addr).add j)=⟨w.heap.size,j,none⟩:=by
  unfold Addr.add
  split<;>simp_all
 rw [e] at this
 exact this
theorem DBox.keep {b:Nat} {cs:List Value} {w w':World} (h:DBox b cs w) (hs:w.heap.size<=w'.heap.size) (hk:∀ j,w'.cell? ⟨b,j,none⟩=w.cell? ⟨b,j,none⟩) (hf:∀ j,w'.frozen? ⟨b,j,none⟩=w.frozen? ⟨b,j,none⟩):DBox b cs w' :=
 ⟨fun j u hu=>(hk j).trans (h.cell j u hu),fun j=>(hf j).trans (h.free j),Nat.lt_of_lt_of_le h.lt hs⟩
theorem DBox.below {b:Nat} {cs:List Value} {w w':World} (h:DBox b cs w) (hb:Below w.heap.size w w'):DBox b cs w' :=
 h.keep hb.size (fun j=>hb.cell (p:=⟨b,j,none⟩) h.lt) (fun j=>hb.frozen (p:=⟨b,j,none⟩) h.lt)
theorem DBox.chg {F:List Nat} {b:Nat} {cs:List Value} {w w':World} (h:DBox b cs w) (hc:Chg F w w') (hn:b∉F):DBox b cs w' :=
 h.keep hc.size (fun j=>hc.cell (p:=⟨b,j,none⟩) h.lt hn) (fun j=>hc.frozen (p:=⟨b,j,none⟩) h.lt hn)
theorem bx1 (w:World) (T1:TypeId) (c1:List Value):∃ W,Hid (W=(w.alloc (.cells c1.toArray T1)))/\DBox (w.heap.size) c1 W/\Below w.heap.size w W :=
 ⟨_,Lib.hid rfl,DBox.new T1 c1 w (by simp),by repeat (first | exact Below.refl _ _ | refine Below.alloc ?_ (by simp<;>omega) _)⟩
theorem bx2 (w:World) (T1:TypeId) (c1:List Value) (T2:TypeId) (c2:List Value):∃ W,Hid (W=((w.alloc (.cells c1.toArray T1)).alloc (.cells c2.toArray T2)))/\DBox (w.heap.size) c1 W/\DBox (w.heap.size+1) c2 W/\Below w.heap.size w W :=
 ⟨_,Lib.hid rfl,(DBox.new T1 c1 w (by simp)).below ((Below.refl _ _).alloc (Nat.le_refl _) _),DBox.new T2 c2 (w.alloc (.cells c1.toArray T1)) (by simp),by repeat (first | exact Below.refl _ _ | refine Below.alloc ?_ (by simp<;>omega) _)⟩
theorem bx3 (w:World) (T1:TypeId) (c1:List Value) (T2:TypeId) (c2:List Value) (T3:TypeId) (c3:List Value):∃ W,Hid (W=(((w.alloc (.cells c1.toArray T1)).alloc (.cells c2.toArray T2)).alloc (.cells c3.toArray T3)))/\DBox (w.heap.size) c1 W/\DBox (w.heap.size+1) c2 W/\DBox (w.heap.size+1+1) c3 W/\Below w.heap.size w W :=
 ⟨_,Lib.hid rfl,((DBox.new T1 c1 w (by simp)).below ((Below.refl _ _).alloc (Nat.le_refl _) _)).below ((Below.refl _ _).alloc (Nat.le_refl _) _),(DBox.new T2 c2 (w.alloc (.cells c1.toArray T1)) (by simp)).below ((Below.refl _ _).alloc (Nat.le_refl _) _),DBox.new T3 c3 ((w.alloc (.cells c1.toArray T1)).alloc (.cells c2.toArray T2)) (by simp),by repeat (first | exact Below.refl _ _ | refine Below.alloc ?_ (by simp<;>omega) _)⟩
theorem bx4 (w:World) (T1:TypeId) (c1:List Value) (T2:TypeId) (c2:List Value) (T3:TypeId) (c3:List Value) (T4:TypeId) (c4:List Value):∃ W,Hid (W=((((w.alloc (.cells c1.toArray T1)).alloc (.cells c2.toArray T2)).alloc (.cells c3.toArray T3)).alloc (.cells c4.toArray T4)))/\DBox (w.heap.size) c1 W/\DBox (w.heap.size+1) c2 W/\DBox (w.heap.size+1+1) c3 W/\DBox (w.heap.size+1+1+1) c4 W/\Below w.heap.size w W :=
 ⟨_,Lib.hid rfl,(((DBox.new T1 c1 w (by simp)).below ((Below.refl _ _).alloc (Nat.le_refl _) _)).below ((Below.refl _ _).alloc (Nat.le_refl _) _)).below ((Below.refl _ _).alloc (Nat.le_refl _) _),((DBox.new T2 c2 (w.alloc (.cells c1.toArray T1)) (by simp)).below ((Below.refl _ _).alloc (Nat.le_refl _) _)).below ((Below.refl _ _).alloc (Nat.le_refl _) _),(DBox.new T3 c3 ((w.alloc (.cells c1.toArray T1)).alloc (.cells c2.toArray T2)) (by simp)).below ((Below.refl _ _).alloc (Nat.le_refl _) _),DBox.new T4 c4 (((w.alloc (.cells c1.toArray T1)).alloc (.cells c2.toArray T2)).alloc (.cells c3.toArray T3)) (by simp),by repeat (first | exact Below.refl _ _ | refine Below.alloc ?_ (by simp<;>omega) _)⟩
theorem bx5 (w:World) (T1:TypeId) (c1:List Value) (T2:TypeId) (c2:List Value) (T3:TypeId) (c3:List Value) (T4:TypeId) (c4:List Value) (T5:TypeId) (c5:List Value):∃ W,Hid (W=(((((w.alloc (.cells c1.toArray T1)).alloc (.cells c2.toArray T2)).alloc (.cells c3.toArray T3)).alloc (.cells c4.toArray T4)).alloc (.cells c5.toArray T5)))/\DBox (w.heap.size) c1 W/\DBox (w.heap.size+1) c2 W/\DBox (w.heap.size+1+1) c3 W/\DBox (w.heap.size+1+1+1) c4 W/\DBox (w.heap.size+1+1+1+1) c5 W/\Below w.heap.size w W :=
 ⟨_,Lib.hid rfl,((((DBox.new T1 c1 w (by simp)).below ((Below.refl _ _).alloc (Nat.le_refl _) _)).below ((Below.refl _ _).alloc (Nat.le_refl _) _)).below ((Below.refl _ _).alloc (Nat.le_refl _) _)).below ((Below.refl _ _).alloc (Nat.le_refl _) _),(((DBox.new T2 c2 (w.alloc (.cells c1.toArray T1)) (by simp)).below ((Below.refl _ _).alloc (Nat.le_refl _) _)).below ((Below.refl _ _).alloc (Nat.le_refl _) _)).below ((Below.refl _ _).alloc (Nat.le_refl _) _),((DBox.new T3 c3 ((w.alloc (.cells c1.toArray T1)).alloc (.cells c2.toArray T2)) (by simp)).below ((Below.refl _ _).alloc (Nat.le_refl _) _)).below ((Below.refl _ _).alloc (Nat.le_refl _) _),(DBox.new T4 c4 (((w.alloc (.cells c1.toArray T1)).alloc (.cells c2.toArray T2)).alloc (.cells c3.toArray T3)) (by simp)).below ((Below.refl _ _).alloc (Nat.le_refl _) _),DBox.new T5 c5 ((((w.alloc (.cells c1.toArray T1)).alloc (.cells c2.toArray T2)).alloc (.cells c3.toArray T3)).alloc (.cells c4.toArray T4)) (by simp),by repeat (first | exact Below.refl _ _ | refine Below.alloc ?_ (by simp<;>omega) _)⟩
theorem DBox.g1 {b:Nat} {w:World} {u0:Value} (h:DBox b [u0] w):w.cell? ⟨b,0,none⟩=some u0/\b<w.heap.size :=
 ⟨h.cell 0 _ rfl,h.lt⟩
theorem DBox.g4 {b:Nat} {w:World} {u0 u1 u2 u3:Value} (h:DBox b [u0,u1,u2,u3] w):w.cell? ⟨b,0,none⟩=some u0/\w.cell? ⟨b,1,none⟩=some u1/\w.cell? ⟨b,2,none⟩=some u2/\w.cell? ⟨b,3,none⟩=some u3/\b<w.heap.size :=
 ⟨h.cell 0 _ rfl,h.cell 1 _ rfl,h.cell 2 _ rfl,h.cell 3 _ rfl,h.lt⟩
theorem DBox.g5 {b:Nat} {w:World} {u0 u1 u2 u3 u4:Value} (h:DBox b [u0,u1,u2,u3,u4] w):w.cell? ⟨b,0,none⟩=some u0/\w.cell? ⟨b,1,none⟩=some u1/\w.cell? ⟨b,2,none⟩=some u2/\w.cell? ⟨b,3,none⟩=some u3/\w.cell? ⟨b,4,none⟩=some u4/\b<w.heap.size :=
 ⟨h.cell 0 _ rfl,h.cell 1 _ rfl,h.cell 2 _ rfl,h.cell 3 _ rfl,h.cell 4 _ rfl,h.lt⟩
theorem DBox.g7 {b:Nat} {w:World} {u0 u1 u2 u3 u4 u5 u6:Value} (h:DBox b [u0,u1,u2,u3,u4,u5,u6] w):w.cell? ⟨b,0,none⟩=some u0/\w.cell? ⟨b,1,none⟩=some u1/\w.cell? ⟨b,2,none⟩=some u2/\w.cell? ⟨b,3,none⟩=some u3/\w.cell? ⟨b,4,none⟩=some u4/\w.cell? ⟨b,5,none⟩=some u5/\w.cell? ⟨b,6,none⟩=some u6/\b<w.heap.size :=
 ⟨h.cell 0 _ rfl,h.cell 1 _ rfl,h.cell 2 _ rfl,h.cell 3 _ rfl,h.cell 4 _ rfl,h.cell 5 _ rfl,h.cell 6 _ rfl,h.lt⟩
theorem DBox.g8 {b:Nat} {w:World} {u0 u1 u2 u3 u4 u5 u6 u7:Value} (h:DBox b [u0,u1,u2,u3,u4,u5,u6,u7] w):w.cell? ⟨b,0,none⟩=some u0/\w.cell? ⟨b,1,none⟩=some u1/\w.cell? ⟨b,2,none⟩=some u2/\w.cell? ⟨b,3,none⟩=some u3/\w.cell? ⟨b,4,none⟩=some u4/\w.cell? ⟨b,5,none⟩=some u5/\w.cell? ⟨b,6,none⟩=some u6/\w.cell? ⟨b,7,none⟩=some u7/\b<w.heap.size :=
 ⟨h.cell 0 _ rfl,h.cell 1 _ rfl,h.cell 2 _ rfl,h.cell 3 _ rfl,h.cell 4 _ rfl,h.cell 5 _ rfl,h.cell 6 _ rfl,h.cell 7 _ rfl,h.lt⟩
theorem DBox.g11 {b:Nat} {w:World} {u0 u1 u2 u3 u4 u5 u6 u7 u8 u9 u10:Value} (h:DBox b [u0,u1,u2,u3,u4,u5,u6,u7,u8,u9,u10] w):w.cell? ⟨b,0,none⟩=some u0/\w.cell? ⟨b,1,none⟩=some u1/\w.cell? ⟨b,2,none⟩=some u2/\w.cell? ⟨b,3,none⟩=some u3/\w.cell? ⟨b,4,none⟩=some u4/\w.cell? ⟨b,5,none⟩=some u5/\w.cell? ⟨b,6,none⟩=some u6/\w.cell? ⟨b,7,none⟩=some u7/\w.cell? ⟨b,8,none⟩=some u8/\w.cell? ⟨b,9,none⟩=some u9/\w.cell? ⟨b,10,none⟩=some u10/\b<w.heap.size :=
 ⟨h.cell 0 _ rfl,h.cell 1 _ rfl,h.cell 2 _ rfl,h.cell 3 _ rfl,h.cell 4 _ rfl,h.cell 5 _ rfl,h.cell 6 _ rfl,h.cell 7 _ rfl,h.cell 8 _ rfl,h.cell 9 _ rfl,h.cell 10 _ rfl,h.lt⟩
theorem Dt.set4 {α:Type} (d:Dt α) {w:World} {F:List Nat} {x:α} {s:d.S} {b o0 o1 o2 o3:Nat} {u0 u1 u2 u3:Value} (h:d.ow w F x s) (hb:b∉F) :
  d.ow ((((w.setCell ⟨b,o0,none⟩ u0).setCell ⟨b,o1,none⟩ u1).setCell ⟨b,o2,none⟩ u2).setCell ⟨b,o3,none⟩ u3) F x s :=
 d.ow_set (d.ow_set (d.ow_set (d.ow_set h (a:=⟨b,o0,none⟩) hb u0) (a:=⟨b,o1,none⟩) hb u1) (a:=⟨b,o2,none⟩) hb u2) (a:=⟨b,o3,none⟩) hb u3
def Cf (es:List (Nat×Nat)) (T t:Nat):List Nat:=(List.range T).filter fun s=>decide ((s,t)∈es)
def Dp (es:List (Nat×Nat)) (T t:Nat):List Nat:=(List.range T).filter fun s=>decide ((t,s)∈es)
def Gm (l:List (Nat×Nat)) (q:Nat×Nat) (x:Nat):List Nat:=if q∈l then [x] else []
theorem Uv (es:List (Nat×Nat)) (k t:Nat):Cf es (k+1) t=Cf es k t ++ Gm es (k,t) k:=by
 unfold Cf Gm
 rw [List.range_succ,List.filter_append]
 by_cases h:(k,t)∈es<;>simp [h]
theorem Nk (es:List (Nat×Nat)) (k t:Nat):Dp es (k+1) t=Dp es k t ++ Gm es (t,k) k:=by
 unfold Dp Gm
 rw [List.range_succ,List.filter_append]
 by_cases h:(t,k)∈es<;>simp [h]
theorem Gn (es:List (Nat×Nat)) (T t:Nat):(Cf es T t).length<=T:=by
 have:=List.length_filter_le (fun s=>decide ((s,t)∈es)) (List.range T)
 simpa [Cf] using this
theorem Jv (es:List (Nat×Nat)) (T t:Nat):(Dp es T t).length<=T:=by
 have:=List.length_filter_le (fun s=>decide ((t,s)∈es)) (List.range T)
 simpa [Dp] using this
theorem Tr (l:List (Nat×Nat)) (q:Nat×Nat) (x:Nat):(Gm l q x).length<=1:=by
 unfold Gm
 split<;>simp
theorem Ts {l l':List (Nat×Nat)} {q:Nat×Nat} {x:Nat} (h:l'=l ++ [q]) (hq:q∉l):Gm l' q x=Gm l q x ++ [x]:=by
 subst h
 simp [Gm,hq]
theorem Wa {l l':List (Nat×Nat)} {q e:Nat×Nat} {x:Nat} (h:l'=l ++ [e]) (hq:e≠q):Gm l' q x=Gm l q x:=by
 subst h
 simp [Gm,Ne.symm hq]
theorem Zi {p:Plan} (he:Eu p) (hn:p.edges.Nodup) {j:Nat} (hj:j<p.edges.length):(p.edges[j].fr.toNat,p.edges[j].to.toNat)∉esL (p.edges.take j):=by
 intro hm
 simp only [esL,List.mem_map] at hm
 obtain ⟨e,pN,hee⟩:=hm
 obtain ⟨i,hi,rfl⟩:=List.getElem_of_mem pN
 have hi2:i<j:=by
  rw [List.length_take] at hi
  omega
 rw [List.getElem_take] at hee
 have h1:=Fa he (k:=i) (by omega)
 have h2:=Fa he hj
 simp only [Prod.mk.injEq] at hee
 have e1:p.edges[i].fr=p.edges[j].fr:=by omega
 have e2:p.edges[i].to=p.edges[j].to:=by omega
 have:p.edges[i]=p.edges[j]:=by
  cases hx:p.edges[i];cases hy:p.edges[j]
  rw [hx,hy] at e1 e2
  simp only at e1 e2
  rw [e1,e2]
 exact List.pairwise_iff_getElem.1 hn i j (by omega) hj hi2 this
theorem Lf (p:Plan) (ve:Value) (t:Nat) (w:World) (hm:Cu p=true) (he:Eu p) (hn:p.edges.Nodup) (h:Rd Ei w w.heap.size ve p.edges) :
  Calls Tryz.prog 237 #[Ee p ve,.int .i64 (t:Int)] w fun e w'=>∃ v,e = .returned v/\Ow Cs 3 w' w.heap.size v (Cf (Ca p) p.tasks.toNat t)/\Below w.heap.size w w':=by
 obtain ⟨A,c,rfl,-⟩:=id h
 obtain ⟨t1,t2⟩:=Ch hm
 have aJ:=Dh hm
 obtain ⟨T,hT⟩:=Int.eq_ofNat_of_zero_le (show 0<=p.tasks by omega)
 have HT:=Lib.hid hT
 have HTn:=Lib.hid (show p.tasks.toNat=T by omega)
 have eU:T<=12:=by omega
 clear hT
 obtain ⟨j0,bX,jz0,jz1,jz2⟩:=info_parts Iv
 unfold Ee
 go_enter Tryz.func237,Tryz.ntmps237
 go_wp2
 go_loopw [5,6] (fun vl i wr=>∃ k:Nat,k<=T/\i = .int .i64 k/\Ow Cs 3 wr (w.heap.size+1) vl (Cf (Ca p) k t)/\BoxAt w.heap.size p (.slice A p.edges.length c) wr/\Below w.heap.size w wr) (fun _ i _=>T - (intOf i).toNat)
 case atStart =>
  have D:=BoxAt.new 43 p (.slice A p.edges.length c) w
  refine ⟨0,Nat.zero_le _,rfl,?_,D.below ((Below.refl _ _).alloc (Nat.le_refl _) _),?_⟩
  ·exact (Ow.empty Cs 3 (Ci 43 p (.slice A p.edges.length c) w) (g:=w.heap.size+1) (by rw [Di]))
  ·repeat (first | exact Below.refl _ _ | refine Below.alloc ?_ (by simp<;>omega) _)
 case round =>
  obtain ⟨k,hk,rfl,ho,D,hb⟩:=hrel
  obtain ⟨x0,x1,x2,x3,x4,xs⟩:=D.cells
  by_cases aA:k<T
  ·have aB:(k:Int)<p.tasks:=by rw [HT.out];omega
   obtain ⟨wo,rfl⟩:∃ wo:World,wo=wr:=⟨_,rfl⟩
   go_wp2
   clear x0 x1 x2 x3 x4 xs
   go_loopw [5,7] (fun vl i wr=>∃ j:Nat,j<=p.edges.length/\i = .int .i64 j/\Ow Cs 3 wr (w.heap.size+1) vl (Cf (Ca p) k t ++ Gm (esL (p.edges.take j)) (k,t) k)/\BoxAt w.heap.size p (.slice A p.edges.length c) wr/\Below w.heap.size w wr) (fun _ i _=>p.edges.length - (intOf i).toNat)
   case atStart=>exact ⟨0,Nat.zero_le _,rfl,by simpa [Gm,esL] using ho,D,hb⟩
   case round =>
    clear ho D hb
    obtain ⟨j,hj,rfl,ho,D,hb⟩:=hrel
    obtain ⟨x0,x1,x2,x3,x4,xs⟩:=D.cells
    by_cases cZ:j<p.edges.length
    ·have fU:(j:Int)<(p.edges.length:Int):=by omega
     obtain ⟨b,o,rfl,aH,c0,c1⟩:=(h.below hb).edge cZ
     obtain ⟨f1,f2,f3,f4⟩:=Fa he cZ
     have cR:=Lib.hid (show esL (p.edges.take (j+1))=esL (p.edges.take j) ++ [(p.edges[j].fr.toNat,p.edges[j].to.toNat)] by unfold esL;rw [Ay _ j cZ,List.map_append];rfl)
     have gN:=Lib.hid (Zi he hn cZ)
     generalize p.edges[j].fr=fx at *
     generalize p.edges[j].to=tx at *
     obtain ⟨a,rfl⟩:=Int.eq_ofNat_of_zero_le f1
     obtain ⟨d,rfl⟩:=Int.eq_ofNat_of_zero_le f3
     simp only [Int.toNat_natCast] at cR gN
     by_cases hxy:a=k/\d=t
     ·obtain ⟨e1,e2⟩:=hxy
      subst e1
      subst e2
      have S:=Lib.hid (Ts (l:=esL (p.edges.take j)) (l':=esL (p.edges.take (j+1))) (q:=(a,d)) (x:=a) cR.out gN.out)
      have Hl:=Lib.hid (show (Cf (Ca p) a d ++ Gm (esL (p.edges.take j)) (a,d) a).length<=3000000 by
       have h1:=Gn (Ca p) a d
       have h2:=Tr (esL (p.edges.take j)) (a,d) a
       rw [List.length_append]
       omega)
      have kR:((a:Int) == (a:Int))=true:=by simp
      have hab2:((d:Int) == (d:Int))=true:=by simp
      have ha:Hid (∀ w:World,Below w.heap.size w (w.alloc (.cells #[.int .i64 (a:Int)] 3))):=fun w=>(Below.refl _ _).alloc (Nat.le_refl _) _
      go_wp2_with (at_builtin;refine Ak _ Cs (by decide) rfl (.tmp 40) (.tmp 42) rfl Tryz.underlying26 bX jz0 jz1 jz2 rfl (l:=Cf (Ca p) a d ++ Gm (esL (p.edges.take j)) (a,d) a) rfl (ho.below (ha.out wr)) rfl (Rd.one Cs _ _ a rfl rfl 1 (Nat.le_refl _) (Nat.lt_succ_self _)) Hl.out (by simp) (by decide) (by simp;omega) ?_;intro v5 w5 o5 g5 _)
      have D5:=(D.below (ha.out wr)).far g5 (fun e=>by have:=ho.within _ e.symm;omega)
      have bG:=Aa hb (ha.out wr)
      have W5:=bG.grown g5 bG.size (fun g hg=>by have:=ho.within _ hg;omega)
      refine ⟨⟨j+1,by omega,by go_num,?_,D5,W5⟩,by simp [intOf];omega⟩
      rw [S.out,<-List.append_assoc]
      exact o5
     ·have S:=Lib.hid (Wa (l:=esL (p.edges.take j)) (l':=esL (p.edges.take (j+1))) (q:=(k,t)) (e:=(a,d)) (x:=k) cR.out (fun e=>hxy (by simp only [Prod.mk.injEq] at e;omega)))
      have eX:∀ w',Below wr.heap.size wr w'->(∃ j_1:Nat,j_1<=p.edges.length/\Value.int .i64 ((j:Int)+1)=Value.int .i64 (j_1:Int)/\Ow Cs 3 w' (w.heap.size+1) u5 (Cf (Ca p) k t ++ Gm (esL (p.edges.take j_1)) (k,t) k)/\BoxAt w.heap.size p (.slice (some ⟨b,o,none⟩) p.edges.length c) w'/\Below w.heap.size w w'):=fun w' mV=>⟨j+1,by omega,by go_num,by rw [S.out];exact ho.below mV,D.below mV,Aa hb mV⟩
      have Hout:=Lib.hid eX
      clear eX
      by_cases hfa:a=k
      ·have kR:((a:Int) == ((k:Nat):Int))=true:=by simp [hfa]
       have hdb:((d:Int) == ((t:Nat):Int))=false:=beq_eq_false_iff_ne.2 (by omega)
       clear hfa hxy
       go_wp2
       exact ⟨Hout.out _ (Below.refl _ _),by simp [intOf];omega⟩
      ·have kR:((a:Int) == ((k:Nat):Int))=false:=beq_eq_false_iff_ne.2 (by omega)
       clear hfa hxy
       go_wp2
       exact ⟨Hout.out _ (Below.refl _ _),by simp [intOf];omega⟩
    ·have fU:¬ (j:Int)<(p.edges.length:Int):=by omega
     have hj':j=p.edges.length:=by omega
     subst hj'
     rw [List.take_length] at ho
     have S:=Lib.hid (Uv (Ca p) k t)
     go_wp2
     exact ⟨⟨k+1,by omega,by go_num,by rw [S.out];exact ho,D,hb⟩,by simp [intOf];omega⟩
  ·have aB:¬ (k:Int)<p.tasks:=by rw [HT.out];omega
   have bH:k=T:=by omega
   subst bH
   go_wp2
   go_ret
   refine ⟨_,rfl,?_,hb⟩
   rw [HTn.out]
   exact ho.more (by omega)
theorem Q0 (p:Plan) (ve:Value) (t:Nat) (w:World) (hm:Cu p=true) (he:Eu p) (hn:p.edges.Nodup) (h:Rd Ei w w.heap.size ve p.edges) :
  Calls Tryz.prog 242 #[Ee p ve,.int .i64 (t:Int)] w fun e w'=>∃ v,e = .returned v/\Ow Cs 3 w' w.heap.size v (Dp (Ca p) p.tasks.toNat t)/\Below w.heap.size w w':=by
 obtain ⟨A,c,rfl,-⟩:=id h
 obtain ⟨t1,t2⟩:=Ch hm
 have aJ:=Dh hm
 obtain ⟨T,hT⟩:=Int.eq_ofNat_of_zero_le (show 0<=p.tasks by omega)
 have HT:=Lib.hid hT
 have HTn:=Lib.hid (show p.tasks.toNat=T by omega)
 have eU:T<=12:=by omega
 clear hT
 obtain ⟨j0,bX,jz0,jz1,jz2⟩:=info_parts Iv
 unfold Ee
 go_enter Tryz.func242,Tryz.ntmps242
 go_wp2
 go_loopw [5,6] (fun vl i wr=>∃ k:Nat,k<=T/\i = .int .i64 k/\Ow Cs 3 wr (w.heap.size+1) vl (Dp (Ca p) k t)/\BoxAt w.heap.size p (.slice A p.edges.length c) wr/\Below w.heap.size w wr) (fun _ i _=>T - (intOf i).toNat)
 case atStart =>
  have D:=BoxAt.new 43 p (.slice A p.edges.length c) w
  refine ⟨0,Nat.zero_le _,rfl,?_,D.below ((Below.refl _ _).alloc (Nat.le_refl _) _),?_⟩
  ·exact (Ow.empty Cs 3 (Ci 43 p (.slice A p.edges.length c) w) (g:=w.heap.size+1) (by rw [Di]))
  ·repeat (first | exact Below.refl _ _ | refine Below.alloc ?_ (by simp<;>omega) _)
 case round =>
  obtain ⟨k,hk,rfl,ho,D,hb⟩:=hrel
  obtain ⟨x0,x1,x2,x3,x4,xs⟩:=D.cells
  by_cases aA:k<T
  ·have aB:(k:Int)<p.tasks:=by rw [HT.out];omega
   obtain ⟨wo,rfl⟩:∃ wo:World,wo=wr:=⟨_,rfl⟩
   go_wp2
   clear x0 x1 x2 x3 x4 xs
   go_loopw [5,7] (fun vl i wr=>∃ j:Nat,j<=p.edges.length/\i = .int .i64 j/\Ow Cs 3 wr (w.heap.size+1) vl (Dp (Ca p) k t ++ Gm (esL (p.edges.take j)) (t,k) k)/\BoxAt w.heap.size p (.slice A p.edges.length c) wr/\Below w.heap.size w wr) (fun _ i _=>p.edges.length - (intOf i).toNat)
   case atStart=>exact ⟨0,Nat.zero_le _,rfl,by simpa [Gm,esL] using ho,D,hb⟩
   case round =>
    clear ho D hb
    obtain ⟨j,hj,rfl,ho,D,hb⟩:=hrel
    obtain ⟨x0,x1,x2,x3,x4,xs⟩:=D.cells
    by_cases cZ:j<p.edges.length
    ·have fU:(j:Int)<(p.edges.length:Int):=by omega
     obtain ⟨b,o,rfl,aH,c0,c1⟩:=(h.below hb).edge cZ
     obtain ⟨f1,f2,f3,f4⟩:=Fa he cZ
     have cR:=Lib.hid (show esL (p.edges.take (j+1))=esL (p.edges.take j) ++ [(p.edges[j].fr.toNat,p.edges[j].to.toNat)] by unfold esL;rw [Ay _ j cZ,List.map_append];rfl)
     have gN:=Lib.hid (Zi he hn cZ)
     generalize p.edges[j].fr=fx at *
     generalize p.edges[j].to=tx at *
     obtain ⟨a,rfl⟩:=Int.eq_ofNat_of_zero_le f1
     obtain ⟨d,rfl⟩:=Int.eq_ofNat_of_zero_le f3
     simp only [Int.toNat_natCast] at cR gN
     by_cases hxy:d=k/\a=t
     ·obtain ⟨e1,e2⟩:=hxy
      subst e1
      subst e2
      have S:=Lib.hid (Ts (l:=esL (p.edges.take j)) (l':=esL (p.edges.take (j+1))) (q:=(a,d)) (x:=d) cR.out gN.out)
      have Hl:=Lib.hid (show (Dp (Ca p) d a ++ Gm (esL (p.edges.take j)) (a,d) d).length<=3000000 by
       have h1:=Jv (Ca p) d a
       have h2:=Tr (esL (p.edges.take j)) (a,d) d
       rw [List.length_append]
       omega)
      have kR:((d:Int) == (d:Int))=true:=by simp
      have hab2:((a:Int) == (a:Int))=true:=by simp
      have ha:Hid (∀ w:World,Below w.heap.size w (w.alloc (.cells #[.int .i64 (d:Int)] 3))):=fun w=>(Below.refl _ _).alloc (Nat.le_refl _) _
      go_wp2_with (at_builtin;refine Ak _ Cs (by decide) rfl (.tmp 40) (.tmp 42) rfl Tryz.underlying26 bX jz0 jz1 jz2 rfl (l:=Dp (Ca p) d a ++ Gm (esL (p.edges.take j)) (a,d) d) rfl (ho.below (ha.out wr)) rfl (Rd.one Cs _ _ d rfl rfl 1 (Nat.le_refl _) (Nat.lt_succ_self _)) Hl.out (by simp) (by decide) (by simp;omega) ?_;intro v5 w5 o5 g5 _)
      have D5:=(D.below (ha.out wr)).far g5 (fun e=>by have:=ho.within _ e.symm;omega)
      have bG:=Aa hb (ha.out wr)
      have W5:=bG.grown g5 bG.size (fun g hg=>by have:=ho.within _ hg;omega)
      refine ⟨⟨j+1,by omega,by go_num,?_,D5,W5⟩,by simp [intOf];omega⟩
      rw [S.out,<-List.append_assoc]
      exact o5
     ·have S:=Lib.hid (Wa (l:=esL (p.edges.take j)) (l':=esL (p.edges.take (j+1))) (q:=(t,k)) (e:=(a,d)) (x:=k) cR.out (fun e=>hxy (by simp only [Prod.mk.injEq] at e;omega)))
      have eX:∀ w',Below wr.heap.size wr w'->(∃ j_1:Nat,j_1<=p.edges.length/\Value.int .i64 ((j:Int)+1)=Value.int .i64 (j_1:Int)/\Ow Cs 3 w' (w.heap.size+1) u5 (Dp (Ca p) k t ++ Gm (esL (p.edges.take j_1)) (t,k) k)/\BoxAt w.heap.size p (.slice (some ⟨b,o,none⟩) p.edges.length c) w'/\Below w.heap.size w w'):=fun w' mV=>⟨j+1,by omega,by go_num,by rw [S.out];exact ho.below mV,D.below mV,Aa hb mV⟩
      have Hout:=Lib.hid eX
      clear eX
      by_cases hfa:a=t
      ·have kR:((a:Int) == ((t:Nat):Int))=true:=by simp [hfa]
       have hdb:((d:Int) == ((k:Nat):Int))=false:=beq_eq_false_iff_ne.2 (by omega)
       clear hfa hxy
       go_wp2
       exact ⟨Hout.out _ (Below.refl _ _),by simp [intOf];omega⟩
      ·have kR:((a:Int) == ((t:Nat):Int))=false:=beq_eq_false_iff_ne.2 (by omega)
       clear hfa hxy
       go_wp2
       exact ⟨Hout.out _ (Below.refl _ _),by simp [intOf];omega⟩
    ·have fU:¬ (j:Int)<(p.edges.length:Int):=by omega
     have hj':j=p.edges.length:=by omega
     subst hj'
     rw [List.take_length] at ho
     have S:=Lib.hid (Nk (Ca p) k t)
     go_wp2
     exact ⟨⟨k+1,by omega,by go_num,by rw [S.out];exact ho,D,hb⟩,by simp [intOf];omega⟩
  ·have aB:¬ (k:Int)<p.tasks:=by rw [HT.out];omega
   have bH:k=T:=by omega
   subst bH
   go_wp2
   go_ret
   refine ⟨_,rfl,?_,hb⟩
   rw [HTn.out]
   exact ho.more (by omega)
theorem RdL.at1 {α:Type} {d:Dt α} {w:World} {B:Nat} {s:Sl} {l:List α} (h:RdL d w B s.v l):s.n=l.length:=by
 obtain ⟨A,c,hv,-⟩:=h.form
 simp only [Sl.v,Value.slice.injEq] at hv
 exact hv.2.1
structure Reply where
 code:Int
 run:Int
 task:Int
 try_:Int
deriving DecidableEq,Inhabited
@[go_sem] abbrev Aci (x:Reply) (_s:Unit):Value:=.agg #[.int .i64 x.code,.int .i64 x.run,.int .i64 x.task,.int .i64 x.try_]
abbrev Acn:Dt Reply:=Dt.flat (fun q=>[.int .i64 q.1.code,.int .i64 q.1.run,.int .i64 q.1.task,.int .i64 q.1.try_]) 4 (fun _=>rfl) (fun q u hu=>by simp at hu;rcases hu with rfl | rfl | rfl | rfl<;>rfl)
@[go_sem] abbrev Hi (x:Plan) (s:Sl):Value:=.agg #[.int .i64 x.prio,.int .i64 x.most,.int .i64 x.wait,.int .i64 x.tasks,.slice s.a s.n s.c]
abbrev Ag:Dt Plan:=Dt.via (Dt.list Ct) (·.edges) (fun q=>[.int .i64 q.1.prio,.int .i64 q.1.most,.int .i64 q.1.wait,.int .i64 q.1.tasks,.slice q.2.a q.2.n q.2.c]) 5 (fun _=>rfl) (fun q u hu=>by simp at hu;rcases hu with rfl | rfl | rfl | rfl | rfl<;>rfl)
def C8 (x:Plan):Nat:=Gd Dy x.edges
def Yf (x:Plan):Prop:=Wf x.prio/\Wf x.most/\Wf x.wait/\Wf x.tasks/\wfL Qz x.edges
theorem Yg (x:Plan) (s:Sl) (w:World) (hl:C8 x<=2000000) (h:Ag.rd w w.heap.size x s) :
  Calls Tryz.prog 152 #[Hi x s] w (Cj Ag Hi x w):=by
 have cX:∀ W,Below w.heap.size w W->Ag.rd W W.heap.size x s:=fun W hW=>Ag.rd_more (Ag.rd_below h hW) hW.size
 go_enter Tryz.func152,Tryz.ntmps152
 go_wp2_with fail
 refine (V9 x.edges s _ (by unfold C8 at hl;omega) ((cX _ (by repeat (first | exact Below.refl _ _ | refine Below.alloc ?_ (by simp<;>omega) _))))).mono ?_
 rintro e w0 ⟨s0,F0,rfl,o0,n0,bU⟩
 obtain ⟨q0,p0⟩:=K0 bU
 have z0:=bU.size
 simp only [World.size_alloc,World.size_setCell] at z0 n0
 have B0:Below w.heap.size w w0:=Aa (by repeat (first | exact Below.refl _ _ | refine Below.alloc ?_ (by simp<;>omega) _)) bU
 go_wp2
 refine bodyPost_ret (v:=Hi x s0) ?_ rfl ?_
 ·simp [Hi,results,Tryz.results152,go_sem,q0]
 ·refine ⟨s0,F0,rfl,?_,?_,?_⟩
  ·repeat (first | (with_reducible exact o0) | refine Dt.ow_set _ ?_ (by intro hm;have:=n0 _ hm;(try simp only [World.size_alloc,World.size_setCell] at this);omega) _)
  ·intro b hb
   have:=n0 b hb
   omega
  ·repeat (first | (with_reducible exact B0) | (with_reducible exact Below.refl _ _) | refine Below.setCell ?_ (by simp<;>omega) _ | refine Below.alloc ?_ (by simp<;>omega) _)
theorem Yh (x y:Plan) (s r:Sl) (w:World) (hl:C8 x<=2000000) (hl':C8 y<=2000000) (h:Ag.rd w w.heap.size x s) (h':Ag.rd w w.heap.size y r) :
  Calls Tryz.prog 153 #[Hi x s,Hi y r] w fun e w'=>e = .returned (.bool (decide (x=y)))/\Below w.heap.size w w':=by
 have cX:∀ W,Below w.heap.size w W->Ag.rd W W.heap.size x s:=fun W hW=>Ag.rd_more (Ag.rd_below h hW) hW.size
 have cK:∀ W,Below w.heap.size w W->Ag.rd W W.heap.size y r:=fun W hW=>Ag.rd_more (Ag.rd_below h' hW) hW.size
 by_cases h0:x.prio=y.prio
 case neg =>
  have t0:(x.prio != y.prio)=true:=by rw [bne_iff_ne];exact h0
  have H:=Lib.hid (show decide (x=y)=false by simp only [decide_eq_false_iff_not];intro e;exact h0 (by rw [e]))
  clear h0
  go_enter Tryz.func153,Tryz.ntmps153
  go_wp2
  go_ret
  exact ⟨Ac (by first | exact H.out.symm | rfl),by repeat (first | exact Below.refl _ _ | refine Below.alloc ?_ (by simp<;>omega) _)⟩
 have t0:(x.prio != y.prio)=false:=by simp [h0]
 have H0:=Lib.hid h0
 clear h0
 by_cases h1:x.most=y.most
 case neg =>
  have t1:(x.most != y.most)=true:=by rw [bne_iff_ne];exact h1
  have H:=Lib.hid (show decide (x=y)=false by simp only [decide_eq_false_iff_not];intro e;exact h1 (by rw [e]))
  clear h1
  go_enter Tryz.func153,Tryz.ntmps153
  go_wp2
  go_ret
  exact ⟨Ac (by first | exact H.out.symm | rfl),by repeat (first | exact Below.refl _ _ | refine Below.alloc ?_ (by simp<;>omega) _)⟩
 have t1:(x.most != y.most)=false:=by simp [h1]
 have H1:=Lib.hid h1
 clear h1
 by_cases h2:x.wait=y.wait
 case neg =>
  have t2:(x.wait != y.wait)=true:=by rw [bne_iff_ne];exact h2
  have H:=Lib.hid (show decide (x=y)=false by simp only [decide_eq_false_iff_not];intro e;exact h2 (by rw [e]))
  clear h2
  go_enter Tryz.func153,Tryz.ntmps153
  go_wp2
  go_ret
  exact ⟨Ac (by first | exact H.out.symm | rfl),by repeat (first | exact Below.refl _ _ | refine Below.alloc ?_ (by simp<;>omega) _)⟩
 have t2:(x.wait != y.wait)=false:=by simp [h2]
 have H2:=Lib.hid h2
 clear h2
 by_cases h3:x.tasks=y.tasks
 case neg =>
  have t3:(x.tasks != y.tasks)=true:=by rw [bne_iff_ne];exact h3
  have H:=Lib.hid (show decide (x=y)=false by simp only [decide_eq_false_iff_not];intro e;exact h3 (by rw [e]))
  clear h3
  go_enter Tryz.func153,Tryz.ntmps153
  go_wp2
  go_ret
  exact ⟨Ac (by first | exact H.out.symm | rfl),by repeat (first | exact Below.refl _ _ | refine Below.alloc ?_ (by simp<;>omega) _)⟩
 have t3:(x.tasks != y.tasks)=false:=by simp [h3]
 have H3:=Lib.hid h3
 clear h3
 go_enter Tryz.func153,Tryz.ntmps153
 go_wp2_with fail
 refine (V8 x.edges y.edges s r _ (by unfold C8 at hl;omega) (by unfold C8 at hl';omega) ((cX _ (by repeat (first | exact Below.refl _ _ | refine Below.alloc ?_ (by simp<;>omega) _)))) ((cK _ (by repeat (first | exact Below.refl _ _ | refine Below.alloc ?_ (by simp<;>omega) _))))).mono ?_
 rintro e w4 ⟨rfl,bQ⟩
 have B4:Below w.heap.size w w4:=Aa (by repeat (first | exact Below.refl _ _ | refine Below.alloc ?_ (by simp<;>omega) _)) bQ
 obtain ⟨q4,p4⟩:=K0 bQ
 by_cases h4:x.edges=y.edges
 case neg =>
  have H:=Lib.hid (show decide (x=y)=false by simp only [decide_eq_false_iff_not];intro e;exact h4 (by rw [e]))
  rw [decide_eq_false h4]
  clear h4
  go_wp2
  go_ret
  exact ⟨Ac (by first | exact H.out.symm | rfl),by exact B4⟩
 rw [decide_eq_true h4]
 have H4:=Lib.hid h4
 clear h4
 have H:=Lib.hid (show decide (x=y)=true by
  simp only [decide_eq_true_eq]
  have hh:=And.intro H0.out (And.intro H1.out (And.intro H2.out (And.intro H3.out H4.out)))
  obtain ⟨e0,e1,e2,e3,e4⟩:=hh
  cases x
  cases y
  simp only at e0 e1 e2 e3 e4
  subst e0 e1 e2 e3 e4
  rfl)
 go_wp2
 go_ret
 exact ⟨Ac (by first | exact H.out.symm | rfl),by exact B4⟩
theorem Yi (x:Plan) (s:Sl) (left:Int) (w:World) (h0:0<=left) (h1:left<=2000000) (hw:Yf x) (h:Ag.rd w w.heap.size x s) :
  Calls Tryz.prog 140 #[Hi x s,.int .i64 left] w (Um left (C8 x) w):=by
 have cX:∀ W,Below w.heap.size w W->Ag.rd W W.heap.size x s:=fun W hW=>Ag.rd_more (Ag.rd_below h hW) hW.size
 go_enter Tryz.func140,Tryz.ntmps140
 go_wp2_with fail
 refine (V7 x.edges s left _ (by omega) (by omega) hw.2.2.2.2 ((cX _ (by repeat (first | exact Below.refl _ _ | refine Below.alloc ?_ (by simp<;>omega) _))))).mono ?_
 rintro e w0 ⟨r0,rfl,mU,bU⟩
 have B0:Below w.heap.size w w0:=Aa (by repeat (first | exact Below.refl _ _ | refine Below.alloc ?_ (by simp<;>omega) _)) bU
 obtain ⟨q0,p0⟩:=K0 bU
 rcases mU with rfl | ⟨y0,z0⟩
 ·go_wp2
  go_ret
  exact ⟨-1,rfl,.inl rfl,B0⟩
 go_wp2
 go_ret
 exact ⟨_,rfl,.inr ⟨by omega,by unfold C8;omega⟩,B0⟩
structure Wait where
 call:Int
 reply:Reply
deriving DecidableEq,Inhabited
abbrev Aco:Dt Wait:=Dt.flat (fun q=>[.int .i64 q.1.call,.int .i64 q.1.reply.code,.int .i64 q.1.reply.run,.int .i64 q.1.reply.task,.int .i64 q.1.reply.try_]) 5 (fun _=>rfl) (fun q u hu=>by simp at hu;rcases hu with rfl | rfl | rfl | rfl | rfl<;>rfl)
structure Run where
 id:Int
 plan:Plan
 state:Int
 tasks:List Task
deriving DecidableEq,Inhabited
@[go_sem] abbrev Ey (x:Run) (s:Sl×Sl):Value:=.agg #[.int .i64 x.id,.int .i64 x.plan.prio,.int .i64 x.plan.most,.int .i64 x.plan.wait,.int .i64 x.plan.tasks,.slice s.1.a s.1.n s.1.c,.int .i64 x.state,.slice s.2.a s.2.n s.2.c]
abbrev Am:Dt Run:=Dt.two Ag (Dt.list Cv) (·.plan) (·.tasks) (fun q=>[.int .i64 q.1.id,.int .i64 q.1.plan.prio,.int .i64 q.1.plan.most,.int .i64 q.1.plan.wait,.int .i64 q.1.plan.tasks,.slice q.2.1.a q.2.1.n q.2.1.c,.int .i64 q.1.state,.slice q.2.2.a q.2.2.n q.2.2.c]) 8 (fun _=>rfl) (fun q u hu=>by simp at hu;rcases hu with rfl | rfl | rfl | rfl | rfl | rfl | rfl | rfl<;>rfl)
def Bg (x:Run):Nat:=C8 x.plan+Gd Fc x.tasks
theorem RdL.run {w:World} {B:Nat} {A:Option Addr} {n c:Nat} {l:List (Run)} (h:RdL Am w B (.slice A n c) l) {k:Nat} (hk:k<l.length) :
  ∃ b o,∃ s:Sl×Sl,A=some ⟨b,o,none⟩/\b<B/\Am.rd w B l[k] s/\w.cell? ⟨b,o+k * 8,none⟩=some (.int .i64 l[k].id)/\w.cell? ⟨b,o+k * 8+1,none⟩=some (.int .i64 l[k].plan.prio)/\w.cell? ⟨b,o+k * 8+2,none⟩=some (.int .i64 l[k].plan.most)/\w.cell? ⟨b,o+k * 8+3,none⟩=some (.int .i64 l[k].plan.wait)/\w.cell? ⟨b,o+k * 8+4,none⟩=some (.int .i64 l[k].plan.tasks)/\w.cell? ⟨b,o+k * 8+5,none⟩=some (.slice s.1.a s.1.n s.1.c)/\w.cell? ⟨b,o+k * 8+6,none⟩=some (.int .i64 l[k].state)/\w.cell? ⟨b,o+k * 8+7,none⟩=some (.slice s.2.a s.2.n s.2.c):=by
 obtain ⟨b,o,s,rfl,hb,hc,hr⟩:=h.at_ k hk
 exact ⟨b,o,s,rfl,hb,hr,hc 0 _ rfl,hc 1 _ rfl,hc 2 _ rfl,hc 3 _ rfl,hc 4 _ rfl,hc 5 _ rfl,hc 6 _ rfl,hc 7 _ rfl⟩
theorem Foc.run {w:World} {b o n c j:Nat} {rs:List ((Run)×Sl×Sl)} {G1 Fx G2:List Nat} {x:Run} {s:Sl×Sl} (h:Foc Am w b o n c rs j G1 Fx G2 x s) :
  w.cell? ⟨b,o+j * 8,none⟩=some (.int .i64 x.id)/\w.cell? ⟨b,o+j * 8+1,none⟩=some (.int .i64 x.plan.prio)/\w.cell? ⟨b,o+j * 8+2,none⟩=some (.int .i64 x.plan.most)/\w.cell? ⟨b,o+j * 8+3,none⟩=some (.int .i64 x.plan.wait)/\w.cell? ⟨b,o+j * 8+4,none⟩=some (.int .i64 x.plan.tasks)/\w.cell? ⟨b,o+j * 8+5,none⟩=some (.slice s.1.a s.1.n s.1.c)/\w.cell? ⟨b,o+j * 8+6,none⟩=some (.int .i64 x.state)/\w.cell? ⟨b,o+j * 8+7,none⟩=some (.slice s.2.a s.2.n s.2.c):=⟨h.cells 0 _ rfl,h.cells 1 _ rfl,h.cells 2 _ rfl,h.cells 3 _ rfl,h.cells 4 _ rfl,h.cells 5 _ rfl,h.cells 6 _ rfl,h.cells 7 _ rfl⟩
theorem Jc:(Tryz.prog.info? 89).map (fun i=>(i.zero,i.size,i.bytes))=some (some (.agg #[.int .i64 0,.int .i64 0,.int .i64 0,.int .i64 0,.int .i64 0,.slice none 0 0,.int .i64 0,.slice none 0 0]),8,96):=by kernel_rfl
structure Deed where
 kind:Int
 run:Int
 plan:Plan
 task:Int
 try_:Int
 worker:Int
 draw:Int
deriving DecidableEq,Inhabited
@[go_sem] abbrev Bm (x:Deed) (s:Sl):Value:=.agg #[.int .i64 x.kind,.int .i64 x.run,.int .i64 x.plan.prio,.int .i64 x.plan.most,.int .i64 x.plan.wait,.int .i64 x.plan.tasks,.slice s.a s.n s.c,.int .i64 x.task,.int .i64 x.try_,.int .i64 x.worker,.int .i64 x.draw]
abbrev Be:Dt Deed:=Dt.via Ag (·.plan) (fun q=>[.int .i64 q.1.kind,.int .i64 q.1.run,.int .i64 q.1.plan.prio,.int .i64 q.1.plan.most,.int .i64 q.1.plan.wait,.int .i64 q.1.plan.tasks,.slice q.2.a q.2.n q.2.c,.int .i64 q.1.task,.int .i64 q.1.try_,.int .i64 q.1.worker,.int .i64 q.1.draw]) 11 (fun _=>rfl) (fun q u hu=>by simp at hu;rcases hu with rfl | rfl | rfl | rfl | rfl | rfl | rfl | rfl | rfl | rfl | rfl<;>rfl)
def Ce (x:Deed):Nat:=C8 x.plan
def Lg (x:Deed):Prop:=Wf x.kind/\Wf x.run/\Yf x.plan/\Wf x.task/\Wf x.try_/\Wf x.worker/\Wf x.draw
theorem Yj (x:Deed) (s:Sl) (w:World) (hl:Ce x<=2000000) (h:Be.rd w w.heap.size x s) :
  Calls Tryz.prog 81 #[Bm x s] w (Cj Be Bm x w):=by
 have cX:∀ W,Below w.heap.size w W->Be.rd W W.heap.size x s:=fun W hW=>Be.rd_more (Be.rd_below h hW) hW.size
 go_enter Tryz.func81,Tryz.ntmps81
 go_wp2_with fail
 refine (Yg x.plan s _ (by unfold Ce at hl;omega) ((cX _ (by repeat (first | exact Below.refl _ _ | refine Below.alloc ?_ (by simp<;>omega) _))))).mono ?_
 rintro e w0 ⟨s0,F0,rfl,o0,n0,bU⟩
 obtain ⟨q0,p0⟩:=K0 bU
 have z0:=bU.size
 simp only [World.size_alloc,World.size_setCell] at z0 n0
 have B0:Below w.heap.size w w0:=Aa (by repeat (first | exact Below.refl _ _ | refine Below.alloc ?_ (by simp<;>omega) _)) bU
 go_wp2
 refine bodyPost_ret (v:=Bm x s0) ?_ rfl ?_
 ·simp [Bm,results,Tryz.results81,go_sem,q0]
 ·refine ⟨s0,F0,rfl,?_,?_,?_⟩
  ·repeat (first | (with_reducible exact o0) | refine Dt.ow_set _ ?_ (by intro hm;have:=n0 _ hm;(try simp only [World.size_alloc,World.size_setCell] at this);omega) _)
  ·intro b hb
   have:=n0 b hb
   omega
  ·repeat (first | (with_reducible exact B0) | (with_reducible exact Below.refl _ _) | refine Below.setCell ?_ (by simp<;>omega) _ | refine Below.alloc ?_ (by simp<;>omega) _)
theorem Yk (x y:Deed) (s r:Sl) (w:World) (hl:Ce x<=2000000) (hl':Ce y<=2000000) (h:Be.rd w w.heap.size x s) (h':Be.rd w w.heap.size y r) :
  Calls Tryz.prog 82 #[Bm x s,Bm y r] w fun e w'=>e = .returned (.bool (decide (x=y)))/\Below w.heap.size w w':=by
 have cX:∀ W,Below w.heap.size w W->Be.rd W W.heap.size x s:=fun W hW=>Be.rd_more (Be.rd_below h hW) hW.size
 have cK:∀ W,Below w.heap.size w W->Be.rd W W.heap.size y r:=fun W hW=>Be.rd_more (Be.rd_below h' hW) hW.size
 by_cases h0:x.kind=y.kind
 case neg =>
  have t0:(x.kind != y.kind)=true:=by rw [bne_iff_ne];exact h0
  have H:=Lib.hid (show decide (x=y)=false by simp only [decide_eq_false_iff_not];intro e;exact h0 (by rw [e]))
  clear h0
  go_enter Tryz.func82,Tryz.ntmps82
  go_wp2
  go_ret
  exact ⟨Ac (by first | exact H.out.symm | rfl),by repeat (first | exact Below.refl _ _ | refine Below.alloc ?_ (by simp<;>omega) _)⟩
 have t0:(x.kind != y.kind)=false:=by simp [h0]
 have H0:=Lib.hid h0
 clear h0
 by_cases h1:x.run=y.run
 case neg =>
  have t1:(x.run != y.run)=true:=by rw [bne_iff_ne];exact h1
  have H:=Lib.hid (show decide (x=y)=false by simp only [decide_eq_false_iff_not];intro e;exact h1 (by rw [e]))
  clear h1
  go_enter Tryz.func82,Tryz.ntmps82
  go_wp2
  go_ret
  exact ⟨Ac (by first | exact H.out.symm | rfl),by repeat (first | exact Below.refl _ _ | refine Below.alloc ?_ (by simp<;>omega) _)⟩
 have t1:(x.run != y.run)=false:=by simp [h1]
 have H1:=Lib.hid h1
 clear h1
 go_enter Tryz.func82,Tryz.ntmps82
 go_wp2_with fail
 refine (Yh x.plan y.plan s r _ (by unfold Ce at hl;omega) (by unfold Ce at hl';omega) ((cX _ (by repeat (first | exact Below.refl _ _ | refine Below.alloc ?_ (by simp<;>omega) _)))) ((cK _ (by repeat (first | exact Below.refl _ _ | refine Below.alloc ?_ (by simp<;>omega) _))))).mono ?_
 rintro e w2 ⟨rfl,aF⟩
 have B2:Below w.heap.size w w2:=Aa (by repeat (first | exact Below.refl _ _ | refine Below.alloc ?_ (by simp<;>omega) _)) aF
 obtain ⟨q2,p2⟩:=K0 aF
 by_cases h2:x.plan=y.plan
 case neg =>
  have H:=Lib.hid (show decide (x=y)=false by simp only [decide_eq_false_iff_not];intro e;exact h2 (by rw [e]))
  rw [decide_eq_false h2]
  clear h2
  go_wp2
  go_ret
  exact ⟨Ac (by first | exact H.out.symm | rfl),by exact B2⟩
 rw [decide_eq_true h2]
 have H2:=Lib.hid h2
 clear h2
 by_cases h3:x.task=y.task
 case neg =>
  have t3:(x.task != y.task)=true:=by rw [bne_iff_ne];exact h3
  have H:=Lib.hid (show decide (x=y)=false by simp only [decide_eq_false_iff_not];intro e;exact h3 (by rw [e]))
  clear h3
  go_wp2
  go_ret
  exact ⟨Ac (by first | exact H.out.symm | rfl),by exact B2⟩
 have t3:(x.task != y.task)=false:=by simp [h3]
 have H3:=Lib.hid h3
 clear h3
 by_cases h4:x.try_=y.try_
 case neg =>
  have t4:(x.try_ != y.try_)=true:=by rw [bne_iff_ne];exact h4
  have H:=Lib.hid (show decide (x=y)=false by simp only [decide_eq_false_iff_not];intro e;exact h4 (by rw [e]))
  clear h4
  go_wp2
  go_ret
  exact ⟨Ac (by first | exact H.out.symm | rfl),by exact B2⟩
 have t4:(x.try_ != y.try_)=false:=by simp [h4]
 have H4:=Lib.hid h4
 clear h4
 by_cases h5:x.worker=y.worker
 case neg =>
  have t5:(x.worker != y.worker)=true:=by rw [bne_iff_ne];exact h5
  have H:=Lib.hid (show decide (x=y)=false by simp only [decide_eq_false_iff_not];intro e;exact h5 (by rw [e]))
  clear h5
  go_wp2
  go_ret
  exact ⟨Ac (by first | exact H.out.symm | rfl),by exact B2⟩
 have t5:(x.worker != y.worker)=false:=by simp [h5]
 have H5:=Lib.hid h5
 clear h5
 by_cases h6:x.draw=y.draw
 case neg =>
  have t6:(x.draw != y.draw)=true:=by rw [bne_iff_ne];exact h6
  have H:=Lib.hid (show decide (x=y)=false by simp only [decide_eq_false_iff_not];intro e;exact h6 (by rw [e]))
  clear h6
  go_wp2
  go_ret
  exact ⟨Ac (by first | exact H.out.symm | rfl),by exact B2⟩
 have t6:(x.draw != y.draw)=false:=by simp [h6]
 have H6:=Lib.hid h6
 clear h6
 have H:=Lib.hid (show decide (x=y)=true by
  simp only [decide_eq_true_eq]
  have hh:=And.intro H0.out (And.intro H1.out (And.intro H2.out (And.intro H3.out (And.intro H4.out (And.intro H5.out H6.out)))))
  obtain ⟨e0,e1,e2,e3,e4,e5,e6⟩:=hh
  cases x
  cases y
  simp only at e0 e1 e2 e3 e4 e5 e6
  subst e0 e1 e2 e3 e4 e5 e6
  rfl)
 go_wp2
 go_ret
 exact ⟨Ac (by first | exact H.out.symm | rfl),by exact B2⟩
theorem Yl (x:Deed) (s:Sl) (left:Int) (w:World) (h0:0<=left) (h1:left<=2000000) (hw:Lg x) (h:Be.rd w w.heap.size x s) :
  Calls Tryz.prog 77 #[Bm x s,.int .i64 left] w (Um left (Ce x) w):=by
 have cX:∀ W,Below w.heap.size w W->Be.rd W W.heap.size x s:=fun W hW=>Be.rd_more (Be.rd_below h hW) hW.size
 go_enter Tryz.func77,Tryz.ntmps77
 go_wp2_with fail
 refine (Yi x.plan s left _ (by omega) (by omega) hw.2.2.1 ((cX _ (by repeat (first | exact Below.refl _ _ | refine Below.alloc ?_ (by simp<;>omega) _))))).mono ?_
 rintro e w0 ⟨r0,rfl,mU,bU⟩
 have B0:Below w.heap.size w w0:=Aa (by repeat (first | exact Below.refl _ _ | refine Below.alloc ?_ (by simp<;>omega) _)) bU
 obtain ⟨q0,p0⟩:=K0 bU
 rcases mU with rfl | ⟨y0,z0⟩
 ·go_wp2
  go_ret
  exact ⟨-1,rfl,.inl rfl,B0⟩
 go_wp2
 go_ret
 exact ⟨_,rfl,.inr ⟨by omega,by unfold Ce;omega⟩,B0⟩
theorem RdL.deed {w:World} {B:Nat} {A:Option Addr} {n c:Nat} {l:List (Deed)} (h:RdL Be w B (.slice A n c) l) {k:Nat} (hk:k<l.length) :
  ∃ b o,∃ s:Sl,A=some ⟨b,o,none⟩/\b<B/\Be.rd w B l[k] s/\w.cell? ⟨b,o+k * 11,none⟩=some (.int .i64 l[k].kind)/\w.cell? ⟨b,o+k * 11+1,none⟩=some (.int .i64 l[k].run)/\w.cell? ⟨b,o+k * 11+2,none⟩=some (.int .i64 l[k].plan.prio)/\w.cell? ⟨b,o+k * 11+3,none⟩=some (.int .i64 l[k].plan.most)/\w.cell? ⟨b,o+k * 11+4,none⟩=some (.int .i64 l[k].plan.wait)/\w.cell? ⟨b,o+k * 11+5,none⟩=some (.int .i64 l[k].plan.tasks)/\w.cell? ⟨b,o+k * 11+6,none⟩=some (.slice s.a s.n s.c)/\w.cell? ⟨b,o+k * 11+7,none⟩=some (.int .i64 l[k].task)/\w.cell? ⟨b,o+k * 11+8,none⟩=some (.int .i64 l[k].try_)/\w.cell? ⟨b,o+k * 11+9,none⟩=some (.int .i64 l[k].worker)/\w.cell? ⟨b,o+k * 11+10,none⟩=some (.int .i64 l[k].draw):=by
 obtain ⟨b,o,s,rfl,hb,hc,hr⟩:=h.at_ k hk
 exact ⟨b,o,s,rfl,hb,hr,hc 0 _ rfl,hc 1 _ rfl,hc 2 _ rfl,hc 3 _ rfl,hc 4 _ rfl,hc 5 _ rfl,hc 6 _ rfl,hc 7 _ rfl,hc 8 _ rfl,hc 9 _ rfl,hc 10 _ rfl⟩
theorem Ow.c_deed {E:TypeId} {w:World} {base g n cap:Nat} {l:List ((Deed)×Sl)} (h:Ow Be.enc E w base (.slice (some ⟨g,0,none⟩) n cap) l) {k:Nat} (hk:k<l.length) :
  w.cell? ⟨g,k * 11,none⟩=some (.int .i64 l[k].1.kind)/\w.cell? ⟨g,k * 11+1,none⟩=some (.int .i64 l[k].1.run)/\w.cell? ⟨g,k * 11+2,none⟩=some (.int .i64 l[k].1.plan.prio)/\w.cell? ⟨g,k * 11+3,none⟩=some (.int .i64 l[k].1.plan.most)/\w.cell? ⟨g,k * 11+4,none⟩=some (.int .i64 l[k].1.plan.wait)/\w.cell? ⟨g,k * 11+5,none⟩=some (.int .i64 l[k].1.plan.tasks)/\w.cell? ⟨g,k * 11+6,none⟩=some (.slice l[k].2.a l[k].2.n l[k].2.c)/\w.cell? ⟨g,k * 11+7,none⟩=some (.int .i64 l[k].1.task)/\w.cell? ⟨g,k * 11+8,none⟩=some (.int .i64 l[k].1.try_)/\w.cell? ⟨g,k * 11+9,none⟩=some (.int .i64 l[k].1.worker)/\w.cell? ⟨g,k * 11+10,none⟩=some (.int .i64 l[k].1.draw):=by
 rcases h.form with ⟨h1,_⟩ | ⟨g',cap',hv,_,_,_,_,_,hc⟩
 ·simp at h1
 ·simp only [Value.slice.injEq,Option.some.injEq,Addr.mk.injEq,and_true] at hv
  obtain ⟨rfl,_,_⟩:=hv
  exact ⟨hc k hk 0 _ rfl,hc k hk 1 _ rfl,hc k hk 2 _ rfl,hc k hk 3 _ rfl,hc k hk 4 _ rfl,hc k hk 5 _ rfl,hc k hk 6 _ rfl,hc k hk 7 _ rfl,hc k hk 8 _ rfl,hc k hk 9 _ rfl,hc k hk 10 _ rfl⟩
theorem Wb (l:List (Deed)) (s:Sl) (left:Int) (w:World) (h0:0<=left) (h1:left<=2000000) (hw:wfL Lg l) (h:RdL Be w w.heap.size s.v l) :
  Calls Tryz.prog 28 #[.slice s.a s.n s.c,.int .i64 left] w (Um left (Gd Ce l) w):=by
 obtain ⟨A,n,c⟩:=s
 obtain ⟨A',c',hv,-⟩:=h.form
 simp only [Sl.v,Value.slice.injEq] at hv
 obtain ⟨rfl,rfl,rfl⟩:=hv
 have dI:=hw.1
 by_cases aA:left<l.length
 ·go_enter Tryz.func28,Tryz.ntmps28
  go_wp2
  go_ret
  exact ⟨-1,rfl,.inl rfl,Below.refl _ _⟩
 have Hw:=Lib.hid hw
 clear hw
 go_enter Tryz.func28,Tryz.ntmps28
 go_wp2
 go_loopw [1,5] (fun t i wr=>∃ k:Nat,∃ m:Int,k<=l.length/\i = .int .i64 k/\t = .int .i64 m/\0<=m/\m+l.length+(((l.take k).map Ce).sum:Nat)<=left/\Below w.heap.size w wr) (fun _ i _=>l.length - (intOf i).toNat)
 case atStart=>exact ⟨0,_,Nat.zero_le _,rfl,rfl,by omega,by simp<;>omega,Below.refl _ _⟩
 case round =>
  obtain ⟨k,m,hk,rfl,rfl,m0,m1,hb⟩:=hrel
  by_cases aA:k<l.length
  ·obtain ⟨b,o,s,rfl,aH,hr,c0,c1,c2,c3,c4,c5,c6,c7,c8,c9,c10⟩:=(h.below hb).deed aA
   have hx:∀ W,Below wr.heap.size wr W->Be.rd W W.heap.size l[k] s:=fun W hW=>Be.rd_more (Be.rd_below (Be.rd_more hr hb.size) hW) hW.size
   have hwk:Lg l[k]:=Hw.out.2 _ (List.getElem_mem aA)
   have M1:=Lib.hid m1
   have m2:m<=2000000:=by omega
   clear m1
   go_wp2_with fail
   refine (Yl l[k] s m _ m0 m2 hwk (hx _ (by first | exact Below.refl _ _ | exact (Below.refl _ _).drew))).mono ?_
   rintro e w1 ⟨r,rfl,hr,aL⟩
   rcases hr with rfl | ⟨r0,r1⟩
   ·go_wp2
    go_ret
    exact ⟨-1,rfl,.inl rfl,Aa hb aL⟩
   ·go_wp2
    refine ⟨⟨k+1,r,by omega,by go_num,rfl,r0,?_,Aa hb aL⟩,by simp [intOf];omega⟩
    have M2:=M1.out
    have r2:r+(Ce l[k]:Nat)<=m:=r1
    rw [Ta _ _ _ aA]
    push_cast
    omega
  ·go_wp2
   go_ret
   refine ⟨_,rfl,.inr ⟨by omega,?_⟩,hb⟩
   rw [List.take_of_length_le (by omega)] at m1
   unfold Gd
   push_cast
   omega
theorem Wc (l l':List (Deed)) (s s':Sl) (w:World) (hl:Gd Ce l<=2000000) (hl':Gd Ce l'<=2000000) (h:RdL Be w w.heap.size s.v l) (h':RdL Be w w.heap.size s'.v l') :
  Calls Tryz.prog 32 #[.slice s.a s.n s.c,.slice s'.a s'.n s'.c] w fun e w'=>e = .returned (.bool (decide (l=l')))/\Below w.heap.size w w':=by
 obtain ⟨A,n,c⟩:=s
 obtain ⟨A0,c0,hv,-⟩:=h.form
 simp only [Sl.v,Value.slice.injEq] at hv
 obtain ⟨rfl,rfl,rfl⟩:=hv
 obtain ⟨A',n',c'⟩:=s'
 obtain ⟨A0,c0,hv,-⟩:=h'.form
 simp only [Sl.v,Value.slice.injEq] at hv
 obtain ⟨rfl,rfl,rfl⟩:=hv
 have dI:l.length<=2000000:=Nat.le_trans (Ar _ _) hl
 have hll':l'.length<=2000000:=Nat.le_trans (Ar _ _) hl'
 have qY:∀ k (hk:k<l.length),Ce l[k]<=2000000:=fun k hk=>by have:=Cq (cnt:=Ce) (List.getElem_mem hk);omega
 have hcc':∀ k (hk:k<l'.length),Ce l'[k]<=2000000:=fun k hk=>by have:=Cq (cnt:=Ce) (List.getElem_mem hk);omega
 clear hl hl'
 by_cases aC:l.length=l'.length
 ·have bU:((l.length:Int) != (l'.length:Int))=false:=by simp [aC]
  have Hne:=Lib.hid aC
  clear aC
  go_enter Tryz.func32,Tryz.ntmps32
  go_wp2
  go_loopw [5] (fun i wr=>∃ k:Nat,k<=l.length/\i = .int .i64 k/\Hid (l.take k=l'.take k)/\Below w.heap.size w wr) (fun i _=>l.length - (intOf i).toNat)
  case atStart=>exact ⟨0,Nat.zero_le _,rfl,rfl,Below.refl _ _⟩
  case round =>
   obtain ⟨k,hk,rfl,jE,hb⟩:=hrel
   by_cases aA:k<l.length
   ·have eJ:k<l'.length:=by rw [<-Hne.out];exact aA
    obtain ⟨b,o,s,rfl,aH,hr,c0,c1,c2,c3,c4,c5,c6,c7,c8,c9,c10⟩:=(h.below hb).deed aA
    obtain ⟨b',o',s',rfl,bI,nN,d0,d1,d2,d3,d4,d5,d6,d7,d8,d9,d10⟩:=(h'.below hb).deed eJ
    have hx:∀ W,Below wr.heap.size wr W->Be.rd W W.heap.size l[k] s:=fun W hW=>Be.rd_more (Be.rd_below (Be.rd_more hr hb.size) hW) hW.size
    have eE:∀ W,Below wr.heap.size wr W->Be.rd W W.heap.size l'[k] s':=fun W hW=>Be.rd_more (Be.rd_below (Be.rd_more nN hb.size) hW) hW.size
    go_wp2
    go_still_tail 8,(by kernel_rfl)
    go_wp2_with (go_at_call 82;refine (Yk l[k] l'[k] s s' _ (qY k aA) (hcc' k eJ) (hx _ (by first | exact Below.refl _ _ | exact (Below.refl _ _).drew)) (eE _ (by first | exact Below.refl _ _ | exact (Below.refl _ _).drew))).mono ?_;rintro e w1 ⟨rfl,aL⟩)
    ·rename_i hd
     go_ret
     refine ⟨Ac ?_,(hb.drew).trans (aL.mono hb.size)⟩
     simp only [Bool.false_eq,decide_eq_false_iff_not]
     intro e
     subst e
     simp at hd
    ·rename_i hd
     refine ⟨⟨k+1,by omega,by go_num,?_,(hb.drew).trans (aL.mono hb.size)⟩,by simp [intOf];omega⟩
     show List.take (k+1) l=List.take (k+1) l'
     rw [Ay l k aA,Ay l' k eJ,jE.out]
     simp at hd
     rw [hd]
   ·go_wp2
    go_ret
    refine ⟨Ac ?_,hb⟩
    have h1:=jE.out
    rw [List.take_of_length_le (by omega),List.take_of_length_le (by rw [<-Hne.out];omega)] at h1
    simp [h1]
 ·have bU:((l.length:Int) != (l'.length:Int))=true:=by simp;omega
  go_enter Tryz.func32,Tryz.ntmps32
  go_wp2
  go_ret
  refine ⟨Ac ?_,Below.refl _ _⟩
  simp only [Bool.false_eq,decide_eq_false_iff_not]
  intro e
  exact aC (by rw [e])
theorem Ym:(Tryz.prog.info? 45).map (fun i=>(i.zero,i.size,i.bytes))=some (some (.agg #[.int .i64 0,.int .i64 0,.int .i64 0,.int .i64 0,.int .i64 0,.int .i64 0,.slice none 0 0,.int .i64 0,.int .i64 0,.int .i64 0,.int .i64 0]),11,104):=by kernel_rfl
theorem Lh (l:List (Deed)) (s:Sl) (w:World) (hl:Gd Ce l<=2000000) (h:RdL Be w w.heap.size s.v l) :
  Calls Tryz.prog 30 #[.slice s.a s.n s.c] w (Cj (Dt.list Be) slV l w):=by
 obtain ⟨A,n,c⟩:=s
 obtain ⟨A',c',hv,-⟩:=h.form
 simp only [Sl.v,Value.slice.injEq] at hv
 obtain ⟨rfl,rfl,rfl⟩:=hv
 have dI:l.length<=2000000:=Nat.le_trans (Ar _ _) hl
 have qY:∀ k (hk:k<l.length),Ce l[k]<=2000000:=fun k hk=>by have:=Cq (cnt:=Ce) (List.getElem_mem hk);omega
 clear hl
 obtain ⟨i0,aP,aX,aV,aQ⟩:=info_parts Ym
 have mH:∀ w:World,(Instr.makeSlice 78 (.int .i64 (l.length:Int)) (.int .i64 (l.length:Int))).run Tryz.prog w = .ok (.slice (some ⟨w.heap.size,0,none⟩) l.length l.length) (w.alloc (.cells (madeCells #[.int .i64 0,.int .i64 0,.int .i64 0,.int .i64 0,.int .i64 0,.int .i64 0,.slice none 0 0,.int .i64 0,.int .i64 0,.int .i64 0,.int .i64 0] (l.length * 11)) 45)):=by
  intro w
  have:=run_make (P:=Tryz.prog) w 78 45 i0 _ Tryz.underlying78 aP aX .i64 .i64 l.length l.length (by omega) (by omega) (by rw [aQ];omega) (by omega)
  rw [aV] at this
  simpa [Value.cells] using this
 go_enter Tryz.func30,Tryz.ntmps30
 go_wp2
 go_loopw [4] (fun i wr=>∃ k:Nat,k<=l.length/\i = .int .i64 k/\Hid (∃ (rs:List ((Deed)×Sl)) (G:List Nat),rs.map (·.1)=l.take k/\Ow Be.enc 45 wr w.heap.size (.slice (some ⟨w.heap.size,0,none⟩) l.length l.length) (rs ++ List.replicate (l.length - k) (⟨0,0,⟨0,0,0,0,[]⟩,0,0,0,0⟩,⟨none,0,0⟩))/\Ows Be wr G rs/\G.Nodup /\ ∀ b∈G,w.heap.size<b)/\Below w.heap.size w wr) (fun i _=>l.length - (intOf i).toNat)
 case atStart=>exact ⟨0,Nat.zero_le _,rfl,⟨[],[],rfl,by rw [List.nil_append,Nat.sub_zero];exact Ow.made Be.enc 45 w (⟨0,0,⟨0,0,0,0,[]⟩,0,0,0,0⟩,⟨none,0,0⟩) l.length (by decide) (by simp [maxLen];omega) rfl rfl,.nil,List.nodup_nil,fun _ h=>by cases h⟩,(Below.refl _ _).alloc (Nat.le_refl _) _⟩
 case round =>
  obtain ⟨k,hk,rfl,⟨rs,G,hm,hown,hG,uG,kM⟩,hb⟩:=hrel
  have bR:rs.length=k:=by have:=congrArg List.length hm;simpa [Nat.min_eq_left hk] using this
  by_cases aA:k<l.length
  ·obtain ⟨b,o,s,rfl,aH,hr,c0,c1,c2,c3,c4,c5,c6,c7,c8,c9,c10⟩:=(h.below hb).deed aA
   have hx:∀ W,Below wr.heap.size wr W->Be.rd W W.heap.size l[k] s:=fun W hW=>Be.rd_more (Be.rd_below (Be.rd_more hr hb.size) hW) hW.size
   have aJ:(rs ++ List.replicate (l.length - k) ((⟨0,0,⟨0,0,0,0,[]⟩,0,0,0,0⟩,⟨none,0,0⟩):(Deed)×Sl)).length=l.length:=by simp;omega
   have Hm:=Lib.hid hm
   have Hrl:=Lib.hid bR
   clear hm bR
   go_wp2_with (go_at_call 81;refine (Yj l[k] s _ (qY k aA) (hx _ (by first | exact Below.refl _ _ | exact (Below.refl _ _).drew))).mono ?_;rintro e w1 ⟨s1,F1,rfl,o1,n1,aL⟩;have eW:=hown.below aL;have hf:=eW.free;obtain ⟨d0,d1,d2,d3,d4,d5,d6,d7,d8,d9,d10⟩:=eW.c_deed (k:=k) (by rw [aJ];exact aA))
   have hp:=Ow.put eW aJ k aA (l[k],s1)
   have Hp:=Bld.lay hG uG kM aL (r:=(l[k],s1)) o1 n1 (Nat.lt_of_lt_of_le (hown.blk).2 (Nat.le_refl _)) hp.2
   rw [V2 rs _ k l.length Hrl.out aA] at hp
   refine ⟨⟨k+1,by omega,by go_num,⟨rs ++ [(l[k],s1)],G ++ F1,?_,hp.1,Hp.1,Hp.2.1,Hp.2.2⟩,(hb.trans (aL.mono hb.size)).grown hp.2 (Nat.le_trans hb.size aL.size) (fun g hg=>by simp at hg;omega)⟩,by simp [intOf];omega⟩
   rw [List.map_append,Hm.out,Ay l k aA]
   rfl
  ·have bH:k=l.length:=by omega
   subst bH
   rw [Nat.sub_self,List.replicate_zero,List.append_nil] at hown
   go_wp2
   go_ret
   rw [List.take_length] at hm
   have hB:Bld Be 45 wr w.heap.size (.slice (some ⟨w.heap.size,0,none⟩) l.length l.length) rs:=⟨G,by rw [<-bR];exact (by rw [bR];exact hown),hG,uG,fun b bG=>⟨Nat.le_of_lt (kM b bG),by simp [Value.ownBlock];have:=kM b bG;omega⟩⟩
   obtain ⟨F,h1,h2⟩:=hB.owl hm
   exact ⟨⟨some ⟨w.heap.size,0,none⟩,l.length,l.length⟩,F,rfl,h1,h2,hb⟩
theorem Ob {α:Type} {p:α->Bool} {l:List α} : (0<=Eo p l) ↔ ∃ x∈l,p x=true:=by
 unfold Eo
 cases h:l.findIdx? p with
 | none =>
  rw [List.findIdx?_eq_none_iff] at h
  simp only
  refine ⟨fun h=>absurd h (by omega),?_⟩
  rintro ⟨x,hx,hp⟩
  have:=h x hx
  rw [hp] at this
  cases this
 | some i =>
  rw [List.findIdx?_eq_some_iff_getElem] at h
  obtain ⟨hi,hp,_⟩:=h
  simp only
  exact ⟨fun _=>⟨_,List.getElem_mem hi,hp⟩,fun _=>by omega⟩
theorem Uw (v:Value) (l:List Nat) (x:Nat) (B:Nat) (w:World) (hl:l.length<=2000000) (h:Rd Cs w B v l) :
  Calls Tryz.prog 182 #[v,.int .i64 (x:Int)] w fun e w'=>e = .returned (.int .i64 (Eo (fun y=>decide (x=y)) l))/\w=w':=by
 obtain ⟨A,c,rfl,-⟩:=id h
 go_enter Tryz.func182,Tryz.ntmps182
 go_wp2
 go_loop [8] (fun i=>∃ k:Nat,k<=l.length/\i = .int .i64 k/\Hid (∀ j (hj:j<k) (hj':j<l.length),decide (x=l[j])=false)) (fun i=>l.length - (intOf i).toNat)
 case atStart=>exact ⟨0,Nat.zero_le _,rfl,fun j hj=>absurd hj (by omega)⟩
 case round =>
  obtain ⟨k,hk,rfl,cI⟩:=hrel
  by_cases aA:k<l.length
  ·obtain ⟨b,o,rfl,aH,c0⟩:=h.nat aA
   have aB:(k:Int)<(l.length:Int):=by omega
   by_cases hx:x=l[k]
   ·have H:=Lib.hid (Gi (p:=fun y=>decide (x=y)) aA (fun j hj=>cI.out j hj (by omega)) (show decide (x=l[k])=true by simp [hx]))
    have eT:((x:Int) == (l[k]:Int))=true:=by simp [hx]
    clear hx
    go_wp2
    go_ret
    exact ⟨Bw (by rw [H.out]),rfl⟩
   ·have eT:((x:Int) == (l[k]:Int))=false:=beq_eq_false_iff_ne.2 (by omega)
    have S:Hid (∀ j (hj:j<k+1) (hj':j<l.length),decide (x=l[j])=false):=by
     intro j hj hj'
     by_cases e:j=k
     ·subst e;simpa using hx
     ·exact cI.out j (by omega) hj'
    clear hx
    go_wp2
    exact ⟨⟨k+1,by omega,by go_num,S⟩,by simp [intOf];omega⟩
  ·have aB:¬ (k:Int)<(l.length:Int):=by omega
   have H:=Lib.hid (Hc (p:=fun y=>decide (x=y)) (l:=l) (fun j hj=>cI.out j (by omega) hj))
   go_wp2
   go_ret
   exact ⟨Bw (by rw [H.out]),rfl⟩
theorem Iy (v:Value) (l:List Nat) (x:Nat) (B:Nat) (w:World) (hl:l.length<=2000000) (h:Rd Cs w B v l) :
  Calls Tryz.prog 118 #[v,.int .i64 (x:Int)] w fun e w'=>e = .returned (.bool (decide (x∈l)))/\w=w':=by
 have H:=Lib.hid (show decide (0<=Eo (fun y=>decide (x=y)) l)=decide (x∈l) from decide_eq_decide.2 (Ob.trans (by simp)))
 go_enter Tryz.func118,Tryz.ntmps118
 go_wp2_with fail
 refine (Uw v l x B _ hl h).mono ?_
 rintro e w1 ⟨rfl,rfl⟩
 go_wp2_with fail
 go_ret
 exact ⟨Ac (by rw [<-H.out]),rfl⟩
def Li:Enc UInt8:={ cells:=fun x=>[.int .u8 (x.toNat:Int)],sz:=1,len:=fun _=>rfl,one:=fun _ u hu=>by simp at hu;subst hu;rfl }
structure Cur where
 i:Nat
 h:Int
abbrev Aba (v:Value) (c:Cur):List Value:=[v,.int .i64 (c.i:Int),.int .i64 c.h]
structure Drw (b:Nat) (v:Value) (code:List UInt8) (c:Cur) (w:World):Prop where
 box:DBox b (Aba v c) w
 rd:Rd Li w b v code
 small:code.length<=1048576
 le:c.i<=code.length
def DrP (b:Nat) (v:Value) (code:List UInt8) (r:Value) (c':Cur) (w:World) (e:Ending) (w':World):Prop:=e = .returned r/\Drw b v code c' w'/\Chg [b] w w'
/-! the cursor at its start -/
/-! a number below another one -/
structure Yard where
 now:Int
 seq:Int
 shelf:List (List Entry)
 runs:List Run
deriving DecidableEq,Inhabited
@[go_sem] abbrev By (x:Yard) (s:Sl×Sl):Value:=.agg #[.int .i64 x.now,.int .i64 x.seq,.slice s.1.a s.1.n s.1.c,.slice s.2.a s.2.n s.2.c]
abbrev Ab:Dt Yard:=Dt.two (Dt.list (Dt.list Af)) (Dt.list Am) (·.shelf) (·.runs) (fun q=>[.int .i64 q.1.now,.int .i64 q.1.seq,.slice q.2.1.a q.2.1.n q.2.1.c,.slice q.2.2.a q.2.2.n q.2.2.c]) 4 (fun _=>rfl) (fun q u hu=>by simp at hu;rcases hu with rfl | rfl | rfl | rfl<;>rfl)
def Ai (x:Yard):Nat:=Gd Bl x.shelf+Gd Bg x.runs
theorem Tt (l:List Nat):l.flatMap Cs.cells=(l.map fun (x:Nat)=>(x:Int)).map (Value.int .i64):=by
 induction l with
 | nil=>rfl
 | cons a l ih=>rw [List.flatMap_cons,ih];rfl
theorem Yn {l l':List Nat} (hp:l'.Perm l) (hs:l'.Pairwise (· <= ·)):((l.map fun (x:Nat)=>(x:Int)).mergeSort fun x y=>decide (x<=y))=l'.map fun (x:Nat)=>(x:Int):=by
 have h1:=List.mergeSort_perm (l.map fun (x:Nat)=>(x:Int)) (fun x y=>decide (x<=y))
 have h2:=List.pairwise_mergeSort (le:=fun x y:Int=>decide (x<=y)) (fun a b c h1 h2=>by simp at *;omega) (fun a b=>by simp;omega) (l.map fun (x:Nat)=>(x:Int))
 have h3:(l'.map fun (x:Nat)=>(x:Int)).Pairwise (fun x y=>decide (x<=y)=true):=by
  rw [List.pairwise_map]
  exact hs.imp (fun h=>by simpa using h)
 refine List.Perm.eq_of_pairwise (le:=fun x y=>decide (x<=y)=true) ?_ h2 h3 (h1.trans (hp.symm.map _))
 intro a b _ _ h h'
 simp at h h'
 omega
theorem Oy (v:Value) (l l':List Nat) (base:Nat) (w:World) (hl:l.length<=2000000) (hp:l'.Perm l) (hs:l'.Pairwise (· <= ·)) (ho:Ow Cs 3 w base v l) :
  Calls Tryz.prog 251 #[v] w fun e w'=>e = .returned (.tuple #[])/\Ow Cs 3 w' base v l'/\w.grownBy w' v.ownBlock:=by
 rcases ho.2 with ⟨rfl,hn⟩ | ⟨g,cap,cur,rfl,hg,hh,hc,hm,bE,ht⟩
 ·have tL:l=[]:=List.eq_nil_of_length_eq_zero hn
  subst tL
  have:l'=[]:=List.Perm.eq_nil hp
  subst this
  refine (Tryz.slices_Sort_int_none none 0 w).mono ?_
  rintro e w' ⟨he,rfl⟩
  exact ⟨he,ho,World.grownBy.refl _ _⟩
 ·have dI:(l.map fun (x:Nat)=>(x:Int)).length=l.length:=List.length_map _
  have jV:cur.toList.take (l.map fun (x:Nat)=>(x:Int)).length=(l.map fun (x:Nat)=>(x:Int)).map (Value.int .i64):=by
   rw [dI,<-Tt,<-ht]
   simp [Cs]
  have hH:=holds_of_blockI hh jV
  have rH:g<w.heap.size:=(Array.getElem?_eq_some_iff.1 hh).1
  have h:=Tryz.slices_Sort_int g 0 cap (l.map fun (x:Nat)=>(x:Int)) w hH rH (by rw [dI];omega)
  rw [dI] at h
  refine h.mono ?_
  rintro e w' ⟨he,n,os,rfl⟩
  rw [Yn hp hs]
  refine ⟨he,?_,grownBy_sortedI _⟩
  have aJ:l'.length=l.length:=hp.length_eq
  have:=ownsRow_sortedI (n:=n) (os:=os) (ss:=l.map fun (x:Nat)=>(x:Int)) (ts:=l'.map fun (x:Nat)=>(x:Int)) (by simp [aJ]) hg hh (by rw [dI];exact hc) hm bE
  unfold Ow
  rw [aJ,Tt]
  rw [dI] at this
  exact this
theorem Q1 (es:List (Nat×Nat)) (T t:Nat):(Cf es T t).Pairwise (· <= ·):=(List.pairwise_lt_range.imp (fun h=>Nat.le_of_lt h)).filter _
theorem Q2 (es:List (Nat×Nat)) (T t:Nat):(Dp es T t).Pairwise (· <= ·):=(List.pairwise_lt_range.imp (fun h=>Nat.le_of_lt h)).filter _
def Gp (es:List (Nat×Nat)) (t:Nat):List Nat:=(es.filter fun e=>decide (e.2=t)).map (·.1)
def Lj (es:List (Nat×Nat)) (t:Nat):List Nat:=(es.filter fun e=>decide (e.1=t)).map (·.2)
theorem Q3 (es:List (Nat×Nat)) (t:Nat):(Gp es t).length<=es.length:=by
 simp only [Gp,List.length_map];exact List.length_filter_le _ _
theorem Wd (es:List (Nat×Nat)) (t:Nat):(Lj es t).length<=es.length:=by
 simp only [Lj,List.length_map];exact List.length_filter_le _ _
theorem Yo {l l':List (Nat×Nat)} {a d:Nat} (h:l'=l ++ [(a,d)]):Gp l' d=Gp l d ++ [a]:=by
 subst h;simp [Gp,List.filter_append]
theorem Abb {l l':List (Nat×Nat)} {a d:Nat} (h:l'=l ++ [(a,d)]):Lj l' a=Lj l a ++ [d]:=by
 subst h;simp [Lj,List.filter_append]
theorem Z8 {l l':List (Nat×Nat)} {a d t:Nat} (h:l'=l ++ [(a,d)]) (hx:¬ d=t):Gp l' t=Gp l t:=by
 subst h;simp [Gp,List.filter_append,hx]
theorem Aby {l l':List (Nat×Nat)} {a d t:Nat} (h:l'=l ++ [(a,d)]) (hx:¬ a=t):Lj l' t=Lj l t:=by
 subst h;simp [Lj,List.filter_append,hx]
theorem Q4 {p:Plan} (he:Eu p) (hn:p.edges.Nodup):(Ca p).Nodup:=by
 unfold Ca esL
 show List.Pairwise _ _
 rw [List.pairwise_map]
 refine List.Pairwise.imp_of_mem ?_ hn
 intro x y hx hy aC e
 have h1:=he x hx
 have h2:=he y hy
 simp only [Gy,Bool.and_eq_true,Bf] at h1 h2
 simp only [Prod.mk.injEq] at e
 apply aC
 cases x;cases y
 simp only [Edge.mk.injEq] at *
 omega
theorem We {p:Plan} (he:Eu p) (hn:p.edges.Nodup) (t:Nat):(Cf (Ca p) p.tasks.toNat t).Perm (Gp (Ca p) t):=by
 refine (List.perm_ext_iff_of_nodup (List.nodup_range.filter _) ?_).2 ?_
 ·unfold Gp
  show List.Pairwise _ _
  rw [List.pairwise_map]
  refine List.Pairwise.imp_of_mem ?_ ((Q4 he hn).filter _)
  intro x y hx hy aC e
  simp only [List.mem_filter,decide_eq_true_eq] at hx hy
  exact aC (Prod.ext e (hx.2.trans hy.2.symm))
 ·intro x
  simp only [Gp,List.mem_filter,List.mem_range,decide_eq_true_eq,List.mem_map,Prod.exists]
  constructor
  ·rintro ⟨_,h⟩;exact ⟨x,t,⟨h,rfl⟩,rfl⟩
  ·rintro ⟨a,b,⟨h,rfl⟩,rfl⟩;exact ⟨(Ju he).1 _ h,h⟩
theorem Z9 {p:Plan} (he:Eu p) (hn:p.edges.Nodup) (t:Nat):(Dp (Ca p) p.tasks.toNat t).Perm (Lj (Ca p) t):=by
 refine (List.perm_ext_iff_of_nodup (List.nodup_range.filter _) ?_).2 ?_
 ·unfold Lj
  show List.Pairwise _ _
  rw [List.pairwise_map]
  refine List.Pairwise.imp_of_mem ?_ ((Q4 he hn).filter _)
  intro x y hx hy aC e
  simp only [List.mem_filter,decide_eq_true_eq] at hx hy
  exact aC (Prod.ext (hx.2.trans hy.2.symm) e)
 ·intro x
  simp only [Lj,List.mem_filter,List.mem_range,decide_eq_true_eq,List.mem_map,Prod.exists]
  constructor
  ·rintro ⟨_,h⟩;exact ⟨t,x,⟨h,rfl⟩,rfl⟩
  ·rintro ⟨a,b,⟨h,rfl⟩,rfl⟩;exact ⟨(Ju he).2 _ h,h⟩
theorem Ll (p:Plan) (ve:Value) (t:Nat) (w:World) (hf:Aq p=0) (h:Rd Ei w w.heap.size ve p.edges) :
  Calls Tryz.prog 226 #[Ee p ve,.int .i64 (t:Int)] w fun e w'=>∃ v,e = .returned v/\Ow Cs 3 w' w.heap.size v (Cf (Ca p) p.tasks.toNat t)/\Below w.heap.size w w':=by
 obtain ⟨A,c,rfl,-⟩:=id h
 have G:=Lib.hid (Bn.1 hf)
 have aJ:=Dh G.out.1
 have hl:p.edges.length<=2000000:=by omega
 have hfb:(Aq p != 0)=false:=by simp [hf]
 clear hf
 obtain ⟨j0,bX,jz0,jz1,jz2⟩:=info_parts Iv
 have bU:=Ir 43 p (.slice A p.edges.length c) w
 have D0:=BoxAt.new 43 p (.slice A p.edges.length c) w
 have rU:=Di 43 p (.slice A p.edges.length c) w
 have Hw0:=Lib.hid rU
 clear rU
 unfold Ee
 go_enter Tryz.func226,Tryz.ntmps226
 go_wp2_with fail
 refine (Ex p _ _ hl ((h.below bU).more bU.size)).mono ?_
 rintro e w1 ⟨rfl,aL⟩
 have D:=D0.below aL
 have hb:=Aa bU aL
 obtain ⟨x0,x1,x2,x3,x4,xs⟩:=D.cells
 go_wp2
 clear x0 x1 x2 x3 x4
 go_loopw [5,14] (fun vl i wr=>∃ k:Nat,k<=p.edges.length/\i = .int .i64 k/\Ow Cs 3 wr (w.heap.size+1) vl (Gp (esL (p.edges.take k)) t)/\Below w.heap.size w wr/\w.heap.size<wr.heap.size) (fun _ i _=>p.edges.length - (intOf i).toNat)
 case atStart=>exact ⟨0,Nat.zero_le _,rfl,by simpa [Gp,esL] using Ow.nil Cs 3 w1 (w.heap.size+1),hb,xs⟩
 case round =>
  clear D hb aL D0 xs
  obtain ⟨k,hk,rfl,ho,hb,bE⟩:=hrel
  by_cases aA:k<p.edges.length
  ·have aB:(k:Int)<(p.edges.length:Int):=by omega
   obtain ⟨b,o,rfl,aH,c0,c1⟩:=(h.below hb).edge aA
   obtain ⟨f1,f2,f3,f4⟩:=Fa G.out.2.1 aA
   have cR:=Lib.hid (show esL (p.edges.take (k+1))=esL (p.edges.take k) ++ [(p.edges[k].fr.toNat,p.edges[k].to.toNat)] by unfold esL;rw [Ay _ k aA,List.map_append];rfl)
   generalize p.edges[k].fr=fx at *
   generalize p.edges[k].to=tx at *
   obtain ⟨a,rfl⟩:=Int.eq_ofNat_of_zero_le f1
   obtain ⟨d,rfl⟩:=Int.eq_ofNat_of_zero_le f3
   simp only [Int.toNat_natCast] at cR
   by_cases hx:d=t
   ·subst hx
    have S:=Lib.hid (Yo (l:=esL (p.edges.take k)) cR.out)
    have Hl:=Lib.hid (show (Gp (esL (p.edges.take k)) d).length<=3000000 by
     have h1:=Q3 (esL (p.edges.take k)) d
     rw [Km,List.length_take] at h1
     omega)
    have kR:((d:Int) == (d:Int))=true:=by simp
    have ha:Hid (∀ w:World,Below w.heap.size w ((w.alloc (.cells #[.int .i64 (a:Int),.int .i64 (d:Int)] 199)).alloc (.cells #[.int .i64 (a:Int)] 3))):=fun w=>((Below.refl _ _).alloc (Nat.le_refl _) _).alloc (by simp) _
    go_wp2_with (at_builtin;refine Ak _ Cs (by decide) rfl (.tmp 22) (.tmp 25) rfl Tryz.underlying26 bX jz0 jz1 jz2 rfl (l:=Gp (esL (p.edges.take k)) d) rfl (ho.below (ha.out wr)) rfl (Rd.one Cs _ _ a (by simp) rfl 1 (Nat.le_refl _) (Nat.lt_succ_self _)) Hl.out (by simp) (by decide) (by simp;omega) ?_;intro v5 w5 o5 g5 _)
    have bG:=Aa hb (ha.out wr)
    have W5:=bG.grown g5 bG.size (fun g hg=>by have:=ho.within _ hg;omega)
    have sK:=g5.size
    simp only [World.size_alloc] at sK
    refine ⟨⟨k+1,by omega,by go_num,?_,W5,by omega⟩,by simp [intOf];omega⟩
    rw [S.out]
    exact o5
   ·have S:=Lib.hid (Z8 (l:=esL (p.edges.take k)) (t:=t) cR.out hx)
    have kR:((d:Int) == (t:Int))=false:=beq_eq_false_iff_ne.2 (by omega)
    have ha:Hid (∀ w:World,Below w.heap.size w (w.alloc (.cells #[.int .i64 (a:Int),.int .i64 (d:Int)] 199))):=fun w=>(Below.refl _ _).alloc (Nat.le_refl _) _
    clear hx
    go_wp2
    refine ⟨⟨k+1,by omega,by go_num,?_,Aa hb (ha.out wr),by simp;omega⟩,by simp [intOf];omega⟩
    rw [S.out]
    exact ho.below (ha.out wr)
  ·have aB:¬ (k:Int)<(p.edges.length:Int):=by omega
   have bH:k=p.edges.length:=by omega
   subst bH
   rw [List.take_length] at ho
   go_wp2_with fail
   have hL:(Gp (Ca p) t).length<=2000000:=by
    have h1:=Q3 (Ca p) t
    unfold Ca at h1 ⊢
    rw [Km] at h1
    omega
   refine (Oy _ (Gp (Ca p) t) (Cf (Ca p) p.tasks.toNat t) _ _ hL (We G.out.2.1 G.out.2.2.1 t) (Q1 _ _ _) ho).mono ?_
   rintro e w2 ⟨rfl,o2,g2⟩
   have aF:=hb.grown g2 hb.size (fun g hg=>by have:=ho.within _ hg;omega)
   go_wp2
   go_ret
   exact ⟨_,rfl,o2.more (by omega),aF⟩
theorem Q5 (p:Plan) (ve:Value) (t:Nat) (w:World) (hf:Aq p=0) (h:Rd Ei w w.heap.size ve p.edges) :
  Calls Tryz.prog 228 #[Ee p ve,.int .i64 (t:Int)] w fun e w'=>∃ v,e = .returned v/\Ow Cs 3 w' w.heap.size v (Dp (Ca p) p.tasks.toNat t)/\Below w.heap.size w w':=by
 obtain ⟨A,c,rfl,-⟩:=id h
 have G:=Lib.hid (Bn.1 hf)
 have aJ:=Dh G.out.1
 have hl:p.edges.length<=2000000:=by omega
 have hfb:(Aq p != 0)=false:=by simp [hf]
 clear hf
 obtain ⟨j0,bX,jz0,jz1,jz2⟩:=info_parts Iv
 have bU:=Ir 43 p (.slice A p.edges.length c) w
 have D0:=BoxAt.new 43 p (.slice A p.edges.length c) w
 have rU:=Di 43 p (.slice A p.edges.length c) w
 have Hw0:=Lib.hid rU
 clear rU
 unfold Ee
 go_enter Tryz.func228,Tryz.ntmps228
 go_wp2_with fail
 refine (Ex p _ _ hl ((h.below bU).more bU.size)).mono ?_
 rintro e w1 ⟨rfl,aL⟩
 have D:=D0.below aL
 have hb:=Aa bU aL
 obtain ⟨x0,x1,x2,x3,x4,xs⟩:=D.cells
 go_wp2
 clear x0 x1 x2 x3 x4
 go_loopw [5,14] (fun vl i wr=>∃ k:Nat,k<=p.edges.length/\i = .int .i64 k/\Ow Cs 3 wr (w.heap.size+1) vl (Lj (esL (p.edges.take k)) t)/\Below w.heap.size w wr/\w.heap.size<wr.heap.size) (fun _ i _=>p.edges.length - (intOf i).toNat)
 case atStart=>exact ⟨0,Nat.zero_le _,rfl,by simpa [Lj,esL] using Ow.nil Cs 3 w1 (w.heap.size+1),hb,xs⟩
 case round =>
  clear D hb aL D0 xs
  obtain ⟨k,hk,rfl,ho,hb,bE⟩:=hrel
  by_cases aA:k<p.edges.length
  ·have aB:(k:Int)<(p.edges.length:Int):=by omega
   obtain ⟨b,o,rfl,aH,c0,c1⟩:=(h.below hb).edge aA
   obtain ⟨f1,f2,f3,f4⟩:=Fa G.out.2.1 aA
   have cR:=Lib.hid (show esL (p.edges.take (k+1))=esL (p.edges.take k) ++ [(p.edges[k].fr.toNat,p.edges[k].to.toNat)] by unfold esL;rw [Ay _ k aA,List.map_append];rfl)
   generalize p.edges[k].fr=fx at *
   generalize p.edges[k].to=tx at *
   obtain ⟨a,rfl⟩:=Int.eq_ofNat_of_zero_le f1
   obtain ⟨d,rfl⟩:=Int.eq_ofNat_of_zero_le f3
   simp only [Int.toNat_natCast] at cR
   by_cases hx:a=t
   ·subst hx
    have S:=Lib.hid (Abb (l:=esL (p.edges.take k)) cR.out)
    have Hl:=Lib.hid (show (Lj (esL (p.edges.take k)) a).length<=3000000 by
     have h1:=Wd (esL (p.edges.take k)) a
     rw [Km,List.length_take] at h1
     omega)
    have kR:((a:Int) == (a:Int))=true:=by simp
    have ha:Hid (∀ w:World,Below w.heap.size w ((w.alloc (.cells #[.int .i64 (a:Int),.int .i64 (d:Int)] 199)).alloc (.cells #[.int .i64 (d:Int)] 3))):=fun w=>((Below.refl _ _).alloc (Nat.le_refl _) _).alloc (by simp) _
    go_wp2_with (at_builtin;refine Ak _ Cs (by decide) rfl (.tmp 22) (.tmp 25) rfl Tryz.underlying26 bX jz0 jz1 jz2 rfl (l:=Lj (esL (p.edges.take k)) a) rfl (ho.below (ha.out wr)) rfl (Rd.one Cs _ _ d (by simp) rfl 1 (Nat.le_refl _) (Nat.lt_succ_self _)) Hl.out (by simp) (by decide) (by simp;omega) ?_;intro v5 w5 o5 g5 _)
    have bG:=Aa hb (ha.out wr)
    have W5:=bG.grown g5 bG.size (fun g hg=>by have:=ho.within _ hg;omega)
    have sK:=g5.size
    simp only [World.size_alloc] at sK
    refine ⟨⟨k+1,by omega,by go_num,?_,W5,by omega⟩,by simp [intOf];omega⟩
    rw [S.out]
    exact o5
   ·have S:=Lib.hid (Aby (l:=esL (p.edges.take k)) (t:=t) cR.out hx)
    have kR:((a:Int) == (t:Int))=false:=beq_eq_false_iff_ne.2 (by omega)
    have ha:Hid (∀ w:World,Below w.heap.size w (w.alloc (.cells #[.int .i64 (a:Int),.int .i64 (d:Int)] 199))):=fun w=>(Below.refl _ _).alloc (Nat.le_refl _) _
    clear hx
    go_wp2
    refine ⟨⟨k+1,by omega,by go_num,?_,Aa hb (ha.out wr),by simp;omega⟩,by simp [intOf];omega⟩
    rw [S.out]
    exact ho.below (ha.out wr)
  ·have aB:¬ (k:Int)<(p.edges.length:Int):=by omega
   have bH:k=p.edges.length:=by omega
   subst bH
   rw [List.take_length] at ho
   go_wp2_with fail
   have hL:(Lj (Ca p) t).length<=2000000:=by
    have h1:=Wd (Ca p) t
    unfold Ca at h1 ⊢
    rw [Km] at h1
    omega
   refine (Oy _ (Lj (Ca p) t) (Dp (Ca p) p.tasks.toNat t) _ _ hL (Z9 G.out.2.1 G.out.2.2.1 t) (Q2 _ _ _) ho).mono ?_
   rintro e w2 ⟨rfl,o2,g2⟩
   have aF:=hb.grown g2 hb.size (fun g hg=>by have:=ho.within _ hg;omega)
   go_wp2
   go_ret
   exact ⟨_,rfl,o2.more (by omega),aF⟩
abbrev Abz (l:List UInt8):Value:=.string ⟨l.toArray⟩
def Kp (n:Nat):List UInt8:=if h:n<128 then [UInt8.ofNat n] else UInt8.ofNat (n % 128+128) :: Kp (n / 128)
termination_by n
decreasing_by omega
def Cl (n:Int):List UInt8:=if inB n 0 1000000000 then Kp n.toNat else []
theorem Abc (n k:Nat) (h:n<128 ^ (k+1)):(Kp n).length<=k+1:=by
 induction k generalizing n with
 | zero=>rw [Kp,dif_pos (by simpa using h)];simp
 | succ k ih =>
  rw [Kp]
  split
  ·simp
  ·rw [List.length_cons]
   have:=ih (n / 128) (by rw [Nat.div_lt_iff_lt_mul (by decide)];rw [Nat.pow_succ] at h;exact h)
   omega
theorem Oz (n:Int):(Cl n).length<=5:=by
 unfold Cl
 split
 ·rename_i h
  refine Abc _ 4 ?_
  simp [inB] at h
  omega
 ·simp
theorem Tu:(Tryz.prog.info? 5).map (fun i=>(i.zero,i.size,i.bytes))=some (some (.int .u8 0),1,1):=by kernel_rfl
def Zj (l:List UInt8) (w:World) (e:Ending) (w':World):Prop:=e = .returned (Abz l)/\Below w.heap.size w w'
theorem Nl {base n c:Nat} {A:Option Addr} {l:List UInt8} {w:World} (h:Ow Li 5 w base (.slice A n c) l) :
  (convert 22 9 (.slice A n c)).run Tryz.prog w = .ok (Abz l) w:=by
 rcases h.form with ⟨h1,rfl⟩ | ⟨g,cap,h1,_,_,_,_,_,hc⟩
 ·simp only [Value.slice.injEq] at h1
  obtain ⟨rfl,rfl,rfl⟩:=h1
  rw [run_convert_bytes_string w _ _ 5 none 0 0 Tryz.underlying22 Tryz.underlying5 Tryz.underlying9]
  rfl
 ·simp only [Value.slice.injEq] at h1
  obtain ⟨rfl,rfl,rfl⟩:=h1
  exact run_convert_bytes_back (P:=Tryz.prog) w 22 9 5 ⟨g,0,none⟩ c l Tryz.underlying22 Tryz.underlying5 Tryz.underlying9 (fun j hj=>by
   have:=hc j hj 0 _ rfl
   have e:(⟨g,0,none⟩:Addr).add j=⟨g,j,none⟩:=by unfold Addr.add;split<;>simp_all
   rw [e]
   simpa [Li] using this)
theorem Lu (w:World) (n:Int) (x:UInt8) (h:(x.toNat:Int)=n) (T:TypeId):∀ (j:Nat) (u:Value),(Li.cells x)[j]? = some u->(w.alloc (.cells #[.int .u8 n] T)).cell? ((⟨w.heap.size,0,none⟩:Addr).add j)=some u:=by
 subst h
 exact Nd _ #[_] _ (by simp)
theorem Pr (n:Int) (w:World) :
  Calls Tryz.prog 99 #[.int .i64 n] w (Zj (Cl n) w):=by
 by_cases hi:inB n 0 1000000000=true
 case neg =>
  have hif:inB n 0 1000000000=false:=by simpa using hi
  have H:=Lib.hid (show Cl n=[] by unfold Cl;rw [if_neg hi])
  go_enter Tryz.func99,Tryz.ntmps99
  go_wp2_with (go_at_call 58;refine (Ap _ _ _ _).mono ?_;rintro e w3 ⟨rfl,rfl⟩)
  go_ret
  exact ⟨by rw [H.out];rfl,Below.refl _ _⟩
 obtain ⟨i0,aP,aX,aV,aQ⟩:=info_parts Tu
 have hV:=Lib.hid (show Cl n=Kp n.toNat by unfold Cl;rw [if_pos hi])
 have tU:0<=n/\n<=1000000000:=by simpa [inB] using hi
 go_enter Tryz.func99,Tryz.ntmps99
 go_wp2_with (go_at_call 58;refine (Ap _ _ _ _).mono ?_;rintro e w3 ⟨rfl,rfl⟩)
 go_loopw [0,3] (fun q x wr=>∃ (m:Nat) (l:List UInt8) (v:Value),Hid (l ++ Kp m=Kp n.toNat)/\Hid (∃ k,m<128 ^ k/\l.length+k=5)/\m<=1000000000/\q = .int .i64 m/\v=x/\Hid (Ow Li 5 wr w.heap.size v l)/\Below w.heap.size w wr) (fun q _ _=>(intOf q).toNat)
 case atStart=>exact ⟨n.toNat,[],_,rfl,⟨5,by omega,rfl⟩,by omega,by rw [Int.toNat_of_nonneg (by omega)],rfl,Ow.nil _ _ _ _,Below.refl _ _⟩
 case round =>
  obtain ⟨m,l,v,hl,aJ,hm,rfl,rfl,hO,hb⟩:=hrel
  have dI:l.length<=5:=by obtain ⟨k,_,hk⟩:=aJ.out;omega
  by_cases h8:m<128
  ·have h8':¬ (128:Int)<=(m:Int):=by omega
   have hv:((UInt8.ofNat m).toNat:Int)=(m:Int):=by simp;omega
   have H:=Lib.hid (show Cl n=l ++ [UInt8.ofNat m] by rw [hV.out,<-hl.out,Kp,dif_pos h8])
   go_wp2_with (at_builtin;refine Iu (v:=v) Li (by decide) rfl (.tmp 18) (.tmp 21) rfl Tryz.underlying22 aP aX aV aQ rfl (UInt8.ofNat m) rfl (hO.out.below ((Below.refl wr.heap.size wr).alloc (by simp) _)) ⟨wr.heap.size,0,none⟩ 1 rfl (Lu _ _ _ hv _) (by omega) (by decide) (by have:=hb.size;simp;omega) ?_;intro v5 w5 o5 g5;obtain ⟨A9,c9,rfl,-⟩:=id (Rd.of_own o5);simp only [List.length_append,List.length_singleton] at o5;have cv:=Nl o5;have eH:=(hb.alloc hb.size (.cells #[.int .u8 ((m:Int))] 5)).grown g5 (by have:=hb.size;simp;omega) (fun g hg=>(hO.out.within g hg).1))
   go_ret
   exact ⟨by rw [H.out];rfl,eH⟩
  ·have h8':(128:Int)<=(m:Int):=by omega
   have eV:=Lib.hid (show ∃ k,m / 128<128 ^ k/\(l ++ [UInt8.ofNat (m % 128+128)]).length+k=5 by
    obtain ⟨k,hk,bH⟩:=aJ.out
    obtain ⟨k,rfl⟩:∃ k',k=k'+1:=by
     cases k with
     | zero=>simp at hk;omega
     | succ k=>exact ⟨k,rfl⟩
    refine ⟨k,?_,?_⟩
    ·rw [Nat.div_lt_iff_lt_mul (by decide),<-Nat.pow_succ];exact hk
    ·rw [List.length_append,List.length_singleton];omega)
   have hv:((UInt8.ofNat (m % 128+128)).toNat:Int)=(m:Int) % 128+128:=by simp;omega
   have S:Hid ((l ++ [UInt8.ofNat (m % 128+128)]) ++ Kp (m / 128)=Kp n.toNat):=by
    show _=_
    rw [<-hl.out,List.append_assoc]
    conv=>rhs;rw [Kp,dif_neg h8]
    rfl
   go_wp2_with (at_builtin;refine Iu (v:=v) Li (by decide) rfl (.tmp 9) (.tmp 14) rfl Tryz.underlying22 aP aX aV aQ rfl (UInt8.ofNat (m % 128+128)) rfl (hO.out.below ((Below.refl wr.heap.size wr).alloc (by simp) _)) ⟨wr.heap.size,0,none⟩ 1 rfl (Lu _ _ _ hv _) (by omega) (by decide) (by have:=hb.size;simp;omega) ?_;intro v5 w5 o5 g5;obtain ⟨A9,c9,rfl,-⟩:=id (Rd.of_own o5);simp only [List.length_append,List.length_singleton] at o5;have cv:=Nl o5;have eH:=(hb.alloc hb.size (.cells #[.int .u8 ((m:Int) % 128+128)] 5)).grown g5 (by have:=hb.size;simp;omega) (fun g hg=>(hO.out.within g hg).1))
   exact ⟨⟨m / 128,_,_,S,eV,by omega,by go_num,rfl,o5,eH⟩,by simp [intOf];omega⟩
theorem Ps (n:Int) (w:World) :
  Calls Tryz.prog 253 #[.int .i64 n] w (Zj (Cl n) w):=by
 by_cases hi:inB n 0 1000000000=true
 case neg =>
  have hif:inB n 0 1000000000=false:=by simpa using hi
  have H:=Lib.hid (show Cl n=[] by unfold Cl;rw [if_neg hi])
  go_enter Tryz.func253,Tryz.ntmps253
  go_wp2_with (go_at_call 155;refine (Aj _ _ _ _).mono ?_;rintro e w3 ⟨rfl,rfl⟩)
  go_ret
  exact ⟨by rw [H.out];rfl,Below.refl _ _⟩
 obtain ⟨i0,aP,aX,aV,aQ⟩:=info_parts Tu
 have hV:=Lib.hid (show Cl n=Kp n.toNat by unfold Cl;rw [if_pos hi])
 have tU:0<=n/\n<=1000000000:=by simpa [inB] using hi
 go_enter Tryz.func253,Tryz.ntmps253
 go_wp2_with (go_at_call 155;refine (Aj _ _ _ _).mono ?_;rintro e w3 ⟨rfl,rfl⟩)
 go_loopw [0,3] (fun q x wr=>∃ (m:Nat) (l:List UInt8) (v:Value),Hid (l ++ Kp m=Kp n.toNat)/\Hid (∃ k,m<128 ^ k/\l.length+k=5)/\m<=1000000000/\q = .int .i64 m/\v=x/\Hid (Ow Li 5 wr w.heap.size v l)/\Below w.heap.size w wr) (fun q _ _=>(intOf q).toNat)
 case atStart=>exact ⟨n.toNat,[],_,rfl,⟨5,by omega,rfl⟩,by omega,by rw [Int.toNat_of_nonneg (by omega)],rfl,Ow.empty Li 5 w (g:=w.heap.size) (by simp),(Below.refl _ _).alloc (Nat.le_refl _) _⟩
 case round =>
  obtain ⟨m,l,v,hl,aJ,hm,rfl,rfl,hO,hb⟩:=hrel
  have dI:l.length<=5:=by obtain ⟨k,_,hk⟩:=aJ.out;omega
  by_cases h8:m<128
  ·have h8':¬ (127:Int)<(m:Int):=by omega
   have hv:((UInt8.ofNat m).toNat:Int)=(m:Int):=by simp;omega
   have H:=Lib.hid (show Cl n=l ++ [UInt8.ofNat m] by rw [hV.out,<-hl.out,Kp,dif_pos h8])
   go_wp2_with (at_builtin;refine Iu (v:=v) Li (by decide) rfl (.tmp 19) (.tmp 22) rfl Tryz.underlying22 aP aX aV aQ rfl (UInt8.ofNat m) rfl (hO.out.below ((Below.refl wr.heap.size wr).alloc (by simp) _)) ⟨wr.heap.size,0,none⟩ 1 rfl (Lu _ _ _ hv _) (by omega) (by decide) (by have:=hb.size;simp;omega) ?_;intro v5 w5 o5 g5;obtain ⟨A9,c9,rfl,-⟩:=id (Rd.of_own o5);simp only [List.length_append,List.length_singleton] at o5;have cv:=Nl o5;have eH:=(hb.alloc hb.size (.cells #[.int .u8 ((m:Int))] 5)).grown g5 (by have:=hb.size;simp;omega) (fun g hg=>(hO.out.within g hg).1))
   go_ret
   exact ⟨by rw [H.out];rfl,eH⟩
  ·have h8':(127:Int)<(m:Int):=by omega
   have eV:=Lib.hid (show ∃ k,m / 128<128 ^ k/\(l ++ [UInt8.ofNat (m % 128+128)]).length+k=5 by
    obtain ⟨k,hk,bH⟩:=aJ.out
    obtain ⟨k,rfl⟩:∃ k',k=k'+1:=by
     cases k with
     | zero=>simp at hk;omega
     | succ k=>exact ⟨k,rfl⟩
    refine ⟨k,?_,?_⟩
    ·rw [Nat.div_lt_iff_lt_mul (by decide),<-Nat.pow_succ];exact hk
    ·rw [List.length_append,List.length_singleton];omega)
   have hv:((UInt8.ofNat (m % 128+128)).toNat:Int)=128+(m:Int) % 128:=by simp;omega
   have S:Hid ((l ++ [UInt8.ofNat (m % 128+128)]) ++ Kp (m / 128)=Kp n.toNat):=by
    show _=_
    rw [<-hl.out,List.append_assoc]
    conv=>rhs;rw [Kp,dif_neg h8]
    rfl
   go_wp2_with (at_builtin;refine Iu (v:=v) Li (by decide) rfl (.tmp 10) (.tmp 15) rfl Tryz.underlying22 aP aX aV aQ rfl (UInt8.ofNat (m % 128+128)) rfl (hO.out.below ((Below.refl wr.heap.size wr).alloc (by simp) _)) ⟨wr.heap.size,0,none⟩ 1 rfl (Lu _ _ _ hv _) (by omega) (by decide) (by have:=hb.size;simp;omega) ?_;intro v5 w5 o5 g5;obtain ⟨A9,c9,rfl,-⟩:=id (Rd.of_own o5);simp only [List.length_append,List.length_singleton] at o5;have cv:=Nl o5;have eH:=(hb.alloc hb.size (.cells #[.int .u8 (128+(m:Int) % 128)] 5)).grown g5 (by have:=hb.size;simp;omega) (fun g hg=>(hO.out.within g hg).1))
   exact ⟨⟨m / 128,_,_,S,eV,by omega,by go_num,rfl,o5,eH⟩,by simp [intOf];omega⟩
theorem Chg.toGrown {b:Nat} {w w':World} (h:Chg [b] w w'):w.grownBy w' (some b) :=
 ⟨h.os,h.tape,h.output,h.size,fun k hk hn=>h.block k hk (fun hm=>hn (by simp only [List.mem_singleton] at hm;rw [hm]))⟩
theorem Ow.setLow {α:Type} {e:Enc α} {E:TypeId} {w:World} {base:Nat} {v:Value} {l:List α} (h:Ow e E w base v l) {a:Addr} (ha:a.block<base) (u:Value):Ow e E (w.setCell a u) base v l :=
 h.setOther (fun e'=>by have:=h.within _ e';omega) u
end Go.Proofs.YtonlnjdempbfoaaGreat
