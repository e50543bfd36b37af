/-
  Data of the type Entry: how it lies in memory, and the walks of the laws' helpers on it. Written by program (deep.py). Data of the type Edge: how it lies in mem
-/
import Derived.Test.YtecnbnbopcblgaaGreatZAk1
import Derived.Lib.Hide
namespace Go.Proofs.YtecnbnbopcblgaaGreat
open Go.RowKit
set_option maxRecDepth 100000
set_option maxHeartbeats 4000000
set_option linter.unusedVariables false
set_option linter.unusedSimpArgs false
open Value renaming int->J,slice->Aa
open IntKind renaming i64->U
open Option renaming none->Ab,some->Ac
open Below renaming setCell->Ad,alloc->Ae
open Nat renaming zero_le->Ag,le_trans->Ah,lt_of_lt_of_le->Ai
open Go renaming bodyPost_ret->Aj
open Go.Proofs.Tryz renaming prog->Am
open Int renaming toNat_natCast->Ao,eq_ofNat_of_zero_le->Ap
open List renaming getElem_mem->Aw,length_append->Bd,take_of_length_le->Bg
open Go.Proofs.Tryz
theorem Ail {p:Prop} (h:p:=by rename_i hd;refine ⟨⟨k+1,Bl,by go_num,?_,(hb.drew).trans (aG.mono hb.size)⟩,clM⟩;show List.take (k+1) l=List.take (k+1) l';rw [Cp l k aA,Cp l' k bY,fJ.out];simp at hd;rw [hd]):p:=h
theorem Aiq {p:Prop} (h:p:=by have hj':j=l.length:=Bl;subst hj';rw [List.take_length,List.drop_length,List.append_nil] at ho;go_wp2;go_ret;refine ⟨Cy ?_,ho,hc⟩;rw [hm.out,List.take_length]):p:=h
theorem Air {p:Prop} (h:p:=by rename_i hd;go_ret;refine ⟨Bx ?_,(hb.drew).trans (aG.mono hb.size)⟩;simp only [Bool.false_eq,decide_eq_false_iff_not];intro e;subst e;simp at hd):p:=h
theorem Aiw {p:Prop} (h:p:=by go_wp2;go_ret;refine ⟨Bx ?_,hb⟩;have h1:=fJ.out;rw [Bg Bl,Bg (by rw [<-Hne.out];omega)] at h1;simp [h1]):p:=h
theorem Ai5 {p:Prop} (h:p:=by
 first | rw [Jt _ _ _ _ _ hj,<-hm] at h3 h4 | rw [Jt _ _ _ _ _ hj,<-hm] at h3
 exact ⟨b,o,s,h1,h2,h3,h4⟩):p:=h
theorem Ai8 {p:Prop} (h:p:=by have hj':j=l.length:=Bl;subst hj';go_wp2;go_ret;refine ⟨Cy ?_,hb⟩;rw [hm.out,List.take_length]):p:=h
theorem Ajf {p:Prop} (h:p:=by exact ⟨(),[],rfl,rfl,(fun _ h=>by cases h),by repeat (first | (with_reducible exact Bs _ _) | refine Ad ?_ Bp _ | refine Ae ?_ Bp _)⟩):p:=h
theorem Ajs {p:Prop} (h:p:=by
 rcases h.form with ⟨h1,_⟩ | ⟨g',cap',hv,_,_,_,_,_,hc⟩
 ·simp at h1
 ·simp only [Value.slice.injEq,Option.some.injEq,Addr.mk.injEq,and_true] at hv;obtain ⟨rfl,_,_⟩:=hv;exact ⟨hc k hk 0 _ rfl,hc k hk 1 _ rfl,hc k hk 2 _ rfl,hc k hk 3 _ rfl⟩):p:=h
theorem Aj2 {p:Prop} (h:p:=by
 have D:=BoxAt.new 43 p (Aa A p.edges.length c) w;refine ⟨0,Ag _,rfl,?_,D.below (Bu),?_⟩
 ·exact (Ow.empty E0 3 (Es 43 p (Aa A p.edges.length c) w) (g:=w+1) (by rw [Fz]))
 ·repeat (first | exact Bs _ _ | refine Ae ?_ Bp _)):p:=h
theorem Akg {p:Prop} (h:p:=by go_wp2;go_ret;exact ⟨-1,rfl,.inl rfl,Bs _ _⟩):p:=h
theorem Akm {p:Prop} (h:p:=by rw [aS] at this;simpa [Value.cells] using this):p:=h
theorem Aky {p:Prop} (h:p:=by clear hfa hxy;go_wp2;exact ⟨Hout.out _ (Bs _ _),clM⟩):p:=h
theorem Ak3 {p:Prop} (h:p:=by
 have aB:¬ (k:Int)<p.tasks:=by rw [HT.out];omega
 have aZ:k=T:=Bl;subst aZ;go_wp2;go_ret;refine ⟨_,rfl,?_,hb⟩;rw [HTn.out];exact ho.more Bl):p:=h
theorem Aln {p:Prop} (h:p:=by obtain ⟨b,o,s,rfl,hb,hc,hr⟩:=h.at_ k hk;exact ⟨b,o,s,rfl,hb,hr,hc 0 _ rfl,hc 1 _ rfl,hc 2 _ rfl,hc 3 _ rfl⟩):p:=h
theorem Al2 {p:Prop} (h:p:=by go_wp2;go_ret;refine ⟨_,rfl,.inr ⟨Bl,?_⟩,hb⟩;rw [Bg Bl] at m1;unfold Ek;push_cast;omega):p:=h
theorem Am1 {p:Prop} (h:p:=by go_wp2;exact ⟨⟨k+1,Bl,by go_num,by rw [S.out];exact ho,D,hb⟩,clM⟩):p:=h
theorem Ane {p:Prop} (h:p:=by have h1:=Gd De l j;have h2:=Et (num:=De) (cnt:=D4) (K:=13) K5 l;omega):p:=h
theorem Anf {p:Prop} (h:p:=by have h1:=Gd Db l j;have h2:=Et (num:=Db) (cnt:=Cn) (K:=13) Ka l;omega):p:=h
theorem Ang {p:Prop} (h:p:=by have h1:=Gd C6 l j;have h2:=Et (num:=C6) (cnt:=Ei) (K:=13) Jv l;omega):p:=h
theorem Anh {p:Prop} (h:p:=by have h1:=Gd Dw l j;have h2:=Et (num:=Dw) (cnt:=D7) (K:=13) Lz l;omega):p:=h
structure Entry where
 prio:Int
 seq:Int
 run:Int
 task:Int
deriving DecidableEq,Inhabited
@[go_sem] abbrev G6 (x:Entry) (_s:Unit):Value:=.agg #[.int .i64 x.prio,.int .i64 x.seq,.int .i64 x.run,.int .i64 x.task]
abbrev By:Dt Entry:=Dt.flat (fun q=>[.int .i64 q.1.prio,.int .i64 q.1.seq,.int .i64 q.1.run,.int .i64 q.1.task]) 4 (fun _=>rfl) (fun q u hu=>by simp at hu;rcases hu with rfl | rfl | rfl | rfl<;>rfl)
def D4 (_:Entry):Nat:=0
def Qy (x:Entry):Prop:=Wf x.prio/\Wf x.seq/\Wf x.run/\Wf x.task
def De (_:Entry):Nat:=4
def J9 (k:Int) (_:Entry):Entry:=⟨k,k+1,k+1+1,k+1+1+1⟩
theorem K5 (x:Entry):De x<=13 * (D4 x+1):=by
 unfold De D4;omega
theorem Aay (x:Entry) (s:Unit) (w:World) (hl:D4 x<=2000000) (h:By.rd w w x s) :
  Calls Am 297 #[G6 x s] w (Dv By G6 x w):=by
 have bG:∀ W,Below w w W->By.rd W W x s:=fun W hW=>By.rd_more (By.rd_below h hW) hW.size;go_enter func297,ntmps297;go_wp2;refine Aj (v:=G6 x ()) ?_ rfl ?_
 ·simp [G6,results,results297,go_sem]
 ·exact Ajf
theorem Aaz (x y:Entry) (s r:Unit) (w:World) (hl:D4 x<=2000000) (hl':D4 y<=2000000) (h:By.rd w w x s) (h':By.rd w w y r) :
  Calls Am 299 #[G6 x s,G6 y r] w fun e w'=>e = .returned (.bool (decide (x=y)))/\Below w w w':=by
 have bG:∀ W,Below w w W->By.rd W W x s:=fun W hW=>By.rd_more (By.rd_below h hW) hW.size;have cC:∀ W,Below w w W->By.rd W W y r:=fun W hW=>By.rd_more (By.rd_below h' hW) hW.size;by_cases h0:x.prio=y.prio;case neg =>
  have t0:(x.prio != y.prio)=true:=by rw [bne_iff_ne];exact h0
  have H:=Br (show decide (x=y)=false by simp only [decide_eq_false_iff_not];intro e;exact h0 (by rw [e]));clear h0;go_enter func299,ntmps299;go_wp2;go_ret;exact ⟨Bx (by first | exact H.out.symm | rfl),by repeat (first | exact Bs _ _ | refine Ae ?_ Bp _)⟩
 have t0:(x.prio != y.prio)=false:=by simp [h0]
 have H0:=Br h0;clear h0;by_cases h1:x.seq=y.seq;case neg =>
  have t1:(x.seq != y.seq)=true:=by rw [bne_iff_ne];exact h1
  have H:=Br (show decide (x=y)=false by simp only [decide_eq_false_iff_not];intro e;exact h1 (by rw [e]));clear h1;go_enter func299,ntmps299;go_wp2;go_ret;exact ⟨Bx (by first | exact H.out.symm | rfl),by repeat (first | exact Bs _ _ | refine Ae ?_ Bp _)⟩
 have t1:(x.seq != y.seq)=false:=by simp [h1]
 have H1:=Br h1;clear h1;by_cases h2:x.run=y.run;case neg =>
  have t2:(x.run != y.run)=true:=by rw [bne_iff_ne];exact h2
  have H:=Br (show decide (x=y)=false by simp only [decide_eq_false_iff_not];intro e;exact h2 (by rw [e]));clear h2;go_enter func299,ntmps299;go_wp2;go_ret;exact ⟨Bx (by first | exact H.out.symm | rfl),by repeat (first | exact Bs _ _ | refine Ae ?_ Bp _)⟩
 have t2:(x.run != y.run)=false:=by simp [h2]
 have H2:=Br h2;clear h2;by_cases h3:x.task=y.task;case neg =>
  have t3:(x.task != y.task)=true:=by rw [bne_iff_ne];exact h3
  have H:=Br (show decide (x=y)=false by simp only [decide_eq_false_iff_not];intro e;exact h3 (by rw [e]));clear h3;go_enter func299,ntmps299;go_wp2;go_ret;exact ⟨Bx (by first | exact H.out.symm | rfl),by repeat (first | exact Bs _ _ | refine Ae ?_ Bp _)⟩
 have t3:(x.task != y.task)=false:=by simp [h3]
 have H3:=Br h3;clear h3;have H:=Br (show decide (x=y)=true by
  simp only [decide_eq_true_eq];have hh:=And.intro H0.out (And.intro H1.out (And.intro H2.out H3.out));obtain ⟨e0,e1,e2,e3⟩:=hh;cases x;cases y;simp only at e0 e1 e2 e3;subst e0 e1 e2 e3;rfl)
 go_enter func299,ntmps299;go_wp2;go_ret;exact ⟨Bx (by first | exact H.out.symm | rfl),by repeat (first | exact Bs _ _ | refine Ae ?_ Bp _)⟩
theorem RdL.entry {w:World} {B:Nat} {A:Option Addr} {n c:Nat} {l:List (Entry)} (h:RdL By w B (Aa A n c) l) {k:Nat} (hk:k<l.length) :
  ∃ b o,∃ _s:Unit,A=Ac ⟨b,o,Ab⟩/\b<B/\By.rd w B l[k] _s/\w.cell? ⟨b,o+k * 4,Ab⟩=Ac (J U l[k].prio)/\w.cell? ⟨b,o+k * 4+1,Ab⟩=Ac (J U l[k].seq)/\w.cell? ⟨b,o+k * 4+2,Ab⟩=Ac (J U l[k].run)/\w.cell? ⟨b,o+k * 4+3,Ab⟩=Ac (J U l[k].task):=Aln
theorem Ow.c_entry {E:TypeId} {w:World} {base g n cap:Nat} {l:List ((Entry)×Unit)} (h:Ow By.enc E w base (Aa (Ac ⟨g,0,Ab⟩) n cap) l) {k:Nat} (hk:k<l.length) :
  w.cell? ⟨g,k * 4,Ab⟩=Ac (J U l[k].1.prio)/\w.cell? ⟨g,k * 4+1,Ab⟩=Ac (J U l[k].1.seq)/\w.cell? ⟨g,k * 4+2,Ab⟩=Ac (J U l[k].1.run)/\w.cell? ⟨g,k * 4+3,Ab⟩=Ac (J U l[k].1.task):=Ajs
theorem Foc.entry {w:World} {b o n c j:Nat} {rs:List ((Entry)×Unit)} {G1 Fx G2:List Nat} {x:Entry} {s:Unit} (h:Foc By w b o n c rs j G1 Fx G2 x s) :
  w.cell? ⟨b,o+j * 4,Ab⟩=Ac (J U x.prio)/\w.cell? ⟨b,o+j * 4+1,Ab⟩=Ac (J U x.seq)/\w.cell? ⟨b,o+j * 4+2,Ab⟩=Ac (J U x.run)/\w.cell? ⟨b,o+j * 4+3,Ab⟩=Ac (J U x.task):=⟨h.cells 0 _ rfl,h.cells 1 _ rfl,h.cells 2 _ rfl,h.cells 3 _ rfl⟩
theorem Yx (l:List (Entry)) (s:Sl) (left:Int) (w:World) (h0:0<=left) (h1:left<=2000000) (hw:wfL Qy l) (h:RdL By w w s.v l) :
  Calls Am 255 #[Aa s.a s.n s.c,J U left] w (Lv left (Ek D4 l) w):=by
 obtain ⟨A,n,c⟩:=s;obtain ⟨A',c',hv,-⟩:=h.form;simp only [Sl.v,Value.slice.injEq] at hv;obtain ⟨rfl,rfl,rfl⟩:=hv;have bS:=hw.1;by_cases aA:left<l.length
 ·go_enter func255,ntmps255;exact Akg
 go_enter func255,ntmps255;go_wp2;go_ret;exact ⟨_,rfl,.inr ⟨Bl,by rw [Fh (cnt:=D4) (fun _=>rfl) l];omega⟩,Bs _ _⟩
theorem Yy (l l':List (Entry)) (s s':Sl) (w:World) (hl:Ek D4 l<=2000000) (hl':Ek D4 l'<=2000000) (h:RdL By w w s.v l) (h':RdL By w w s'.v l') :
  Calls Am 261 #[Aa s.a s.n s.c,Aa s'.a s'.n s'.c] w fun e w'=>e = .returned (.bool (decide (l=l')))/\Below w w w':=by
 obtain ⟨A,n,c⟩:=s;obtain ⟨A0,c0,hv,-⟩:=h.form;simp only [Sl.v,Value.slice.injEq] at hv;obtain ⟨rfl,rfl,rfl⟩:=hv;obtain ⟨A',n',c'⟩:=s';obtain ⟨A0,c0,hv,-⟩:=h'.form;simp only [Sl.v,Value.slice.injEq] at hv;obtain ⟨rfl,rfl,rfl⟩:=hv;have bS:l.length<=2000000:=Ah (Ck _ _) hl;have hll':l'.length<=2000000:=Ah (Ck _ _) hl';have dV:∀ k (hk:k<l.length),D4 l[k]<=2000000:=fun k hk=>by have:=Dm (cnt:=D4) (Aw hk);omega
 have hcc':∀ k (hk:k<l'.length),D4 l'[k]<=2000000:=fun k hk=>by have:=Dm (cnt:=D4) (Aw hk);omega
 clear hl hl';by_cases aC:l.length=l'.length
 ·have aN:((l.length:Int) != (l'.length:Int))=false:=by simp [aC]
  have Hne:=Br aC;clear aC;go_enter func261,ntmps261;go_wp2;go_loopw [5] (fun i wr=>∃ k:Nat,k<=l.length/\i = J U k/\Hid (l.take k=l'.take k)/\Below w w wr) (fun i _=>l.length - (intOf i).toNat);case atStart=>exact ⟨0,Ag _,rfl,rfl,Bs _ _⟩
  case round =>
   obtain ⟨k,hk,rfl,fJ,hb⟩:=hrel;by_cases aA:k<l.length
   ·have bY:k<l'.length:=by rw [<-Hne.out];exact aA
    obtain ⟨b,o,s,rfl,aJ,hr,c0,c1,c2,c3⟩:=(h.below hb).entry aA;obtain ⟨b',o',s',rfl,bF,gK,d0,d1,d2,d3⟩:=(h'.below hb).entry bY;have hx:∀ W,Below wr wr W->By.rd W W l[k] s:=fun W hW=>By.rd_more (By.rd_below (By.rd_more hr hb.size) hW) hW.size;have dR:∀ W,Below wr wr W->By.rd W W l'[k] s':=fun W hW=>By.rd_more (By.rd_below (By.rd_more gK hb.size) hW) hW.size;go_wp2;go_still_tail 8,Bm;go_wp2_with (go_at_call 299;refine (Aaz l[k] l'[k] s s' _ (dV k aA) (hcc' k bY) (hx _ (by first | exact Bs _ _ | exact (Bs _ _).drew)) (dR _ (by first | exact Bs _ _ | exact (Bs _ _).drew))).mono ?_;rintro e w1 ⟨rfl,aG⟩)
    ·exact Air
    ·exact Ail
   ·exact Aiw
 ·have aN:((l.length:Int) != (l'.length:Int))=true:=by simp;omega
  go_enter func261,ntmps261;go_wp2;go_ret;refine ⟨Bx ?_,Bs _ _⟩;simp only [Bool.false_eq,decide_eq_false_iff_not];intro e;exact aC (by rw [e])
theorem Aa0:(Am.info? 71).map (fun i=>(i.zero,i.size,i.bytes))=Ac (Ac (.agg #[J U 0,J U 0,J U 0,J U 0]),4,32):=Bm
theorem Yz (l:List (Entry)) (s:Sl) (w:World) (hl:Ek D4 l<=2000000) (h:RdL By w w s.v l) :
  Calls Am 257 #[.slice s.a s.n s.c] w (Dv (Dt.list By) slV l w):=by
 obtain ⟨A,n,c⟩:=s;obtain ⟨A',c',hv,-⟩:=h.form;simp only [Sl.v,Value.slice.injEq] at hv;obtain ⟨rfl,rfl,rfl⟩:=hv;have bS:l.length<=2000000:=Ah (Ck _ _) hl;have dV:∀ k (hk:k<l.length),D4 l[k]<=2000000:=fun k hk=>by have:=Dm (cnt:=D4) (Aw hk);omega
 clear hl;obtain ⟨i0,aQ,aU,aS,aR⟩:=info_parts Aa0;have kN:∀ w:World,(Instr.makeSlice 74 (.int .i64 (l.length:Int)) (.int .i64 (l.length:Int))).run Am w = .ok (.slice (Ac ⟨w,0,Ab⟩) l.length l.length) (w.alloc (.cells (madeCells #[.int .i64 0,.int .i64 0,.int .i64 0,.int .i64 0] (l.length * 4)) 71)):=by
  intro w
  have:=run_make (P:=Am) w 74 71 i0 _ underlying74 aQ aU .i64 .i64 l.length l.length Bl Bl (by rw [aR];omega) Bl
  exact Akm
 go_enter func257,ntmps257;go_wp2;go_loopw [4] (fun i wr=>∃ k:Nat,k<=l.length/\i = .int .i64 k/\Hid (∃ (rs:List ((Entry)×Unit)) (G:List Nat),rs.map (·.1)=l.take k/\Ow By.enc 71 wr w (.slice (Ac ⟨w,0,Ab⟩) l.length l.length) (rs ++ List.replicate (l.length - k) (⟨0,0,0,0⟩,()))/\Ows By wr G rs/\G.Nodup /\ ∀ b∈G,w<b)/\Below w w wr) (fun i _=>l.length - (intOf i).toNat);case atStart=>exact ⟨0,Ag _,rfl,⟨[],[],rfl,by rw [List.nil_append,Nat.sub_zero];exact Ow.made By.enc 71 w (⟨0,0,0,0⟩,()) l.length Bq (by simp [maxLen];omega) rfl rfl,.nil,List.nodup_nil,fun _ h=>by cases h⟩,Bu⟩
 case round =>
  obtain ⟨k,hk,rfl,⟨rs,G,hm,hown,hG,jH,eI⟩,hb⟩:=hrel;have bK:rs.length=k:=by have:=congrArg List.length hm;simpa [Nat.min_eq_left hk] using this
  by_cases aA:k<l.length
  ·obtain ⟨b,o,s,rfl,aJ,hr,c0,c1,c2,c3⟩:=(h.below hb).entry aA;have hx:∀ W,Below wr wr W->By.rd W W l[k] s:=fun W hW=>By.rd_more (By.rd_below (By.rd_more hr hb.size) hW) hW.size;have aE:(rs ++ List.replicate (l.length - k) ((⟨0,0,0,0⟩,()):(Entry)×Unit)).length=l.length:=by simp;omega
   have Hm:=Br hm;have Hrl:=Br bK;clear hm bK;go_wp2_with (go_at_call 297;refine (Aay l[k] s _ (dV k aA) (hx _ (by first | exact Bs _ _ | exact (Bs _ _).drew))).mono ?_;rintro e w1 ⟨s1,F1,rfl,o1,n1,aG⟩;have bM:=hown.below aG;have hf:=bM.free;obtain ⟨d0,d1,d2,d3⟩:=bM.c_entry (k:=k) (by rw [aE];exact aA))
   have hp:=Ow.put bM aE k aA (l[k],s1);have Hp:=Bld.lay hG jH eI aG (r:=(l[k],s1)) o1 n1 (Ai (hown.blk).2 (Bt _)) hp.2;rw [M9 rs _ k l.length Hrl.out aA] at hp;refine ⟨⟨k+1,Bl,by go_num,⟨rs ++ [(l[k],s1)],G ++ F1,?_,hp.1,Hp.1,Hp.2.1,Hp.2.2⟩,(hb.trans (aG.mono hb.size)).grown hp.2 (Ah hb.size aG.size) (fun g hg=>by simp at hg;omega)⟩,clM⟩;rw [List.map_append,Hm.out,Cp l k aA];rfl
  ·have aZ:k=l.length:=Bl;subst aZ;rw [Nat.sub_self,List.replicate_zero,List.append_nil] at hown;go_wp2;go_ret;rw [List.take_length] at hm;have hB:Bld By 71 wr w (.slice (Ac ⟨w,0,Ab⟩) l.length l.length) rs:=⟨G,by rw [<-bK];exact (by rw [bK];exact hown),hG,jH,fun b aX=>⟨Nat.le_of_lt (eI b aX),by simp [Value.ownBlock];have:=eI b aX;omega⟩⟩
   obtain ⟨F,h1,h2⟩:=hB.owl hm;exact ⟨⟨Ac ⟨w,0,Ab⟩,l.length,l.length⟩,F,rfl,h1,h2,hb⟩
theorem Uv (l:List (Entry)) (s:Sl) (F:List Nat) (k:Int) (w:World) (hl:Ek D4 l<=2000000) (cE:0<=k) (fC:k<=1000000000) (h:OwL By w F s.v l) :
  Calls Am 264 #[Aa s.a s.n s.c,J U k] w (Mu (Dt.list By) F (mkL J9 De k l) s (k+(C9 De l:Nat)) w):=by
 obtain ⟨A,n,c⟩:=s;obtain ⟨A',c',hv,-⟩:=h.form;simp only [Sl.v,Value.slice.injEq] at hv;obtain ⟨rfl,rfl,rfl⟩:=hv;have bS:l.length<=2000000:=Ah (Ck _ _) hl;have cG:∀ j,C9 De (l.take j)<=26000000:=fun j=>by
  exact Ane
 have Hnl:=Br cG;clear cG hl;go_enter func264,ntmps264;go_wp2;go_loopw [1,5] (fun q i wr=>∃ (j:Nat) (m:Int),j<=l.length/\i = J U j/\q = J U m/\Hid (m=k+(C9 De (l.take j):Nat))/\OwL By wr F (Aa A l.length c) (mkL J9 De k (l.take j) ++ l.drop j)/\Chg F w wr) (fun _ i _=>l.length - (intOf i).toNat);case atStart=>exact ⟨0,k,Ag _,rfl,rfl,by show k=_;simp [C9],h,Chg.refl _ _⟩
 case round =>
  obtain ⟨j,m,hj,rfl,rfl,hm,ho,hc⟩:=hrel;have hm':=hm.out;have fQ:=Hnl.out j;have cL:0<=m:=Bl;have bZ:m<=1026000000:=Bl;clear hm' fQ;by_cases aA:j<l.length
  ·have aB:(j:Int)<(l.length:Int):=Bl;have aE:(mkL J9 De k (l.take j) ++ l.drop j).length=l.length:=by simp [Em];omega
   obtain ⟨b,o,rs,s,G1,Fx,G2,rfl,hF,cV,f0⟩:=ho.foc (j:=j) (by rw [aE];exact aA);rw [Na J9 De k l j aA] at f0;subst hF;have Hrm:=Br cV;clear cV ho;obtain ⟨c0,c1,c2,c3⟩:=f0.entry;have fr0:=f0.free;go_wp2;obtain ⟨f1,g1⟩:=f0.put ⟨m,m+1,m+1+1,m+1+1+1⟩ 0 [J U (m),J U (m+1),J U (m+1+1),J U (m+1+1+1)] (by show 0+4<=4;omega) (fun i hi=>match i,hi with | 0,_=>rfl | 1,_=>rfl | 2,_=>rfl | 3,_=>rfl | i+4,hi=>absurd hi Bo) (fun i hi hx=>match i,hi,hx with | 0,_,hx=>absurd hx Bo | 1,_,hx=>absurd hx Bo | 2,_,hx=>absurd hx Bo | 3,_,hx=>absurd hx Bo | i+4,hi,_=>absurd hi (by show ¬ (i+4<4);omega)) (fun _ hh=>hh);have pL:=hm.out;have hown:=f1.owl Hrm.out;have dU:⟨m,m+1,m+1+1,m+1+1+1⟩=J9 m l[j]:=rfl;have bW:=O8 J9 De k l j aA;rw [<-hm.out] at bW;rw [dU,bW] at hown;have cN:(C9 De (l.take (j+1)):Nat)=C9 De (l.take j)+De l[j]:=Ew _ _ _ aA;refine ⟨⟨j+1,m+1+1+1+1,Bl,by go_num,rfl,?_,hown,(hc).trans (g1.mono (fun _ hh=>O7 hh))⟩,clM⟩;have eW:De l[j]=4:=rfl;show m+1+1+1+1=_;rw [cN,eW];push_cast;omega
  ·exact Aiq
theorem Uw (l:List (Entry)) (s:Sl) (k:Int) (w:World) (hl:Ek D4 l<=2000000) (cE:0<=k) (fC:k<=1000000000) (h:RdL By w w s.v (mkL J9 De k l)) :
  Calls Am 266 #[Aa s.a s.n s.c,J U k] w fun e w'=>e = .returned (J U (k+(C9 De l:Nat)))/\Below w w w':=by
 obtain ⟨A,n,c⟩:=s;obtain ⟨A',c',hv,-⟩:=h.form;simp only [Sl.v,Value.slice.injEq,Em] at hv;obtain ⟨rfl,rfl,rfl⟩:=hv;have bS:l.length<=2000000:=Ah (Ck _ _) hl;have cG:∀ j,C9 De (l.take j)<=26000000:=fun j=>by
  exact Ane
 have aL:∀ (wr:World) (j:Nat) (hj:j<l.length) (m:Int),Below w w wr->m=k+(C9 De (l.take j):Nat) -> ∃ b o,∃ s:Unit,A=Ac ⟨b,o,Ab⟩/\b<w.heap.size/\By.rd wr w (J9 m l[j]) s/\wr.cell? ⟨b,o+j * 4,Ab⟩=Ac (J U (m))/\wr.cell? ⟨b,o+j * 4+1,Ab⟩=Ac (J U (m+1))/\wr.cell? ⟨b,o+j * 4+2,Ab⟩=Ac (J U (m+1+1))/\wr.cell? ⟨b,o+j * 4+3,Ab⟩=Ac (J U (m+1+1+1)):=by
  intro wr j hj m hb hm;obtain ⟨b,o,s,h1,h2,h3,h4⟩:=(h.below hb).entry (k:=j) (by rw [Em];exact hj);exact Ai5
 have Hc:=Br aL;have Hnl:=Br cG;clear aL cG hl;go_enter func266,ntmps266;go_wp2;go_loopw [1,5] (fun q i wr=>∃ (j:Nat) (m:Int),j<=l.length/\i = J U j/\q = J U m/\Hid (m=k+(C9 De (l.take j):Nat))/\Below w w wr) (fun _ i _=>l.length - (intOf i).toNat);case atStart=>exact ⟨0,k,Ag _,rfl,rfl,by show k=_;simp [C9],Bs _ _⟩
 case round =>
  obtain ⟨j,m,hj,rfl,rfl,hm,hb⟩:=hrel;have hm':=hm.out;have fQ:=Hnl.out j;have cL:0<=m:=Bl;have bZ:m<=1026000000:=Bl;clear hm' fQ;by_cases aA:j<l.length
  ·have aB:(j:Int)<(l.length:Int):=Bl;obtain ⟨b,o,s,rfl,aJ,nC,c0,c1,c2,c3⟩:=Hc.out wr j aA m hb hm.out;go_wp2;have cN:(C9 De (l.take (j+1)):Nat)=C9 De (l.take j)+De l[j]:=Ew _ _ _ aA;refine ⟨⟨j+1,m+1+1+1+1,Bl,by go_num,rfl,?_,hb⟩,clM⟩;have eW:De l[j]=4:=rfl;have pL:=hm.out;show m+1+1+1+1=_;rw [cN,eW];push_cast;omega
  ·exact Ai8
def Cn (x:List Entry):Nat:=Ek D4 x
def Ok (x:List Entry):Prop:=wfL Qy x
def Db (x:List Entry):Nat:=C9 De x
def Jn (k:Int) (x:List Entry):List Entry:=mkL J9 De k x
theorem Ka (x:List Entry):Db x<=13 * (Cn x+1):=by
 have h:=Et (num:=De) (cnt:=D4) (K:=13) K5 x;unfold Db Cn;omega
theorem RdL.entryS {w:World} {B:Nat} {A:Option Addr} {n c:Nat} {l:List (List Entry)} (h:RdL (Dt.list By) w B (Aa A n c) l) {k:Nat} (hk:k<l.length) :
  ∃ b o,∃ s:Sl,A=Ac ⟨b,o,Ab⟩/\b<B/\(Dt.list By).rd w B l[k] s/\w.cell? ⟨b,o+k,Ab⟩=Ac (Aa s.a s.n s.c):=by
 obtain ⟨b,o,s,rfl,hb,hc,hr⟩:=h.at_ k hk;exact ⟨b,o,s,rfl,hb,hr,(by have hh:=hc 0 _ rfl;rw [show k * (Dt.list By).enc.sz=k from Nat.mul_one k] at hh;exact hh)⟩
theorem Ow.c_entryS {E:TypeId} {w:World} {base g n cap:Nat} {l:List ((List Entry)×Sl)} (h:Ow (Dt.list By).enc E w base (Aa (Ac ⟨g,0,Ab⟩) n cap) l) {k:Nat} (hk:k<l.length) :
  w.cell? ⟨g,k,Ab⟩=Ac (Aa l[k].2.a l[k].2.n l[k].2.c):=by
 rcases h.form with ⟨h1,_⟩ | ⟨g',cap',hv,_,_,_,_,_,hc⟩
 ·simp at h1
 ·simp only [Value.slice.injEq,Option.some.injEq,Addr.mk.injEq,and_true] at hv;obtain ⟨rfl,_,_⟩:=hv;exact (by have hh:=hc k hk 0 _ rfl;rw [show k * (Dt.list By).enc.sz=k from Nat.mul_one k] at hh;exact hh)
theorem Foc.entryS {w:World} {b o n c j:Nat} {rs:List ((List Entry)×Sl)} {G1 Fx G2:List Nat} {x:List Entry} {s:Sl} (h:Foc (Dt.list By) w b o n c rs j G1 Fx G2 x s) :
  w.cell? ⟨b,o+j,Ab⟩=Ac (Aa s.a s.n s.c):=(by have hh:=h.cells 0 _ rfl;rw [show j * (Dt.list By).enc.sz=j from Nat.mul_one j] at hh;exact hh)
theorem Wx (l:List (List Entry)) (s:Sl) (left:Int) (w:World) (h0:0<=left) (h1:left<=2000000) (hw:wfL Ok l) (h:RdL (Dt.list By) w w s.v l) :
  Calls Am 180 #[Aa s.a s.n s.c,J U left] w (Lv left (Ek Cn l) w):=by
 obtain ⟨A,n,c⟩:=s;obtain ⟨A',c',hv,-⟩:=h.form;simp only [Sl.v,Value.slice.injEq] at hv;obtain ⟨rfl,rfl,rfl⟩:=hv;have bS:=hw.1;by_cases aA:left<l.length
 ·go_enter func180,ntmps180;exact Akg
 have Hw:=Br hw;clear hw;go_enter func180,ntmps180;go_wp2;go_loopw [1,5] (fun t i wr=>∃ k:Nat,∃ m:Int,k<=l.length/\i = J U k/\t = J U m/\0<=m/\m+l.length+(((l.take k).map Cn).sum:Nat)<=left/\Below w w wr) (fun _ i _=>l.length - (intOf i).toNat);case atStart=>exact ⟨0,_,Ag _,rfl,rfl,Bl,Bp,Bs _ _⟩
 case round =>
  obtain ⟨k,m,hk,rfl,rfl,m0,m1,hb⟩:=hrel;by_cases aA:k<l.length
  ·obtain ⟨b,o,s,rfl,aJ,hr,c0⟩:=(h.below hb).entryS aA;have hx:∀ W,Below wr wr W->(Dt.list By).rd W W.heap.size l[k] s:=fun W hW=>(Dt.list By).rd_more ((Dt.list By).rd_below ((Dt.list By).rd_more hr hb.size) hW) hW.size;have hwk:Ok l[k]:=Hw.out.2 _ (Aw aA);have M1:=Br m1;have m2:m<=2000000:=Bl;clear m1;go_wp2_with fail
   refine (Yx l[k] s m _ m0 m2 hwk (hx _ (by first | exact Bs _ _ | exact (Bs _ _).drew))).mono ?_;rintro e w1 ⟨r,rfl,hr,aG⟩;rcases hr with rfl | ⟨r0,r1⟩
   ·go_wp2;go_ret;exact ⟨-1,rfl,.inl rfl,Bv hb aG⟩
   ·go_wp2;refine ⟨⟨k+1,r,Bl,by go_num,rfl,r0,?_,Bv hb aG⟩,clM⟩;have M2:=M1.out;have r2:r+(Cn l[k]:Nat)<=m:=r1;rw [Ew _ _ _ aA];push_cast;omega
  ·exact Al2
theorem Wy (l l':List (List Entry)) (s s':Sl) (w:World) (hl:Ek Cn l<=2000000) (hl':Ek Cn l'<=2000000) (h:RdL (Dt.list By) w w s.v l) (h':RdL (Dt.list By) w w s'.v l') :
  Calls Am 187 #[Aa s.a s.n s.c,Aa s'.a s'.n s'.c] w fun e w'=>e = .returned (.bool (decide (l=l')))/\Below w w w':=by
 obtain ⟨A,n,c⟩:=s;obtain ⟨A0,c0,hv,-⟩:=h.form;simp only [Sl.v,Value.slice.injEq] at hv;obtain ⟨rfl,rfl,rfl⟩:=hv;obtain ⟨A',n',c'⟩:=s';obtain ⟨A0,c0,hv,-⟩:=h'.form;simp only [Sl.v,Value.slice.injEq] at hv;obtain ⟨rfl,rfl,rfl⟩:=hv;have bS:l.length<=2000000:=Ah (Ck _ _) hl;have hll':l'.length<=2000000:=Ah (Ck _ _) hl';have dV:∀ k (hk:k<l.length),Cn l[k]<=2000000:=fun k hk=>by have:=Dm (cnt:=Cn) (Aw hk);omega
 have hcc':∀ k (hk:k<l'.length),Cn l'[k]<=2000000:=fun k hk=>by have:=Dm (cnt:=Cn) (Aw hk);omega
 clear hl hl';by_cases aC:l.length=l'.length
 ·have aN:((l.length:Int) != (l'.length:Int))=false:=by simp [aC]
  have Hne:=Br aC;clear aC;go_enter func187,ntmps187;go_wp2;go_loopw [5] (fun i wr=>∃ k:Nat,k<=l.length/\i = J U k/\Hid (l.take k=l'.take k)/\Below w w wr) (fun i _=>l.length - (intOf i).toNat);case atStart=>exact ⟨0,Ag _,rfl,rfl,Bs _ _⟩
  case round =>
   obtain ⟨k,hk,rfl,fJ,hb⟩:=hrel;by_cases aA:k<l.length
   ·have bY:k<l'.length:=by rw [<-Hne.out];exact aA
    obtain ⟨b,o,s,rfl,aJ,hr,c0⟩:=(h.below hb).entryS aA;obtain ⟨b',o',s',rfl,bF,gK,d0⟩:=(h'.below hb).entryS bY;have hx:∀ W,Below wr wr W->(Dt.list By).rd W W.heap.size l[k] s:=fun W hW=>(Dt.list By).rd_more ((Dt.list By).rd_below ((Dt.list By).rd_more hr hb.size) hW) hW.size;have dR:∀ W,Below wr wr W->(Dt.list By).rd W W.heap.size l'[k] s':=fun W hW=>(Dt.list By).rd_more ((Dt.list By).rd_below ((Dt.list By).rd_more gK hb.size) hW) hW.size;go_wp2;go_still_tail 8,Bm;go_wp2_with (go_at_call 261;refine (Yy l[k] l'[k] s s' _ (dV k aA) (hcc' k bY) (hx _ (by first | exact Bs _ _ | exact (Bs _ _).drew)) (dR _ (by first | exact Bs _ _ | exact (Bs _ _).drew))).mono ?_;rintro e w1 ⟨rfl,aG⟩)
    ·exact Air
    ·exact Ail
   ·exact Aiw
 ·have aN:((l.length:Int) != (l'.length:Int))=true:=by simp;omega
  go_enter func187,ntmps187;go_wp2;go_ret;refine ⟨Bx ?_,Bs _ _⟩;simp only [Bool.false_eq,decide_eq_false_iff_not];intro e;exact aC (by rw [e])
theorem Nr:(Am.info? 74).map (fun i=>(i.zero,i.size,i.bytes))=Ac (Ac (Aa Ab 0 0),1,24):=Bm
theorem Wz (l:List (List Entry)) (s:Sl) (w:World) (hl:Ek Cn l<=2000000) (h:RdL (Dt.list By) w w s.v l) :
  Calls Am 183 #[.slice s.a s.n s.c] w (Dv (Dt.list (Dt.list By)) slV l w):=by
 obtain ⟨A,n,c⟩:=s;obtain ⟨A',c',hv,-⟩:=h.form;simp only [Sl.v,Value.slice.injEq] at hv;obtain ⟨rfl,rfl,rfl⟩:=hv;have bS:l.length<=2000000:=Ah (Ck _ _) hl;have dV:∀ k (hk:k<l.length),Cn l[k]<=2000000:=fun k hk=>by have:=Dm (cnt:=Cn) (Aw hk);omega
 clear hl;obtain ⟨i0,aQ,aU,aS,aR⟩:=info_parts Nr;have kN:∀ w:World,(Instr.makeSlice 28 (.int .i64 (l.length:Int)) (.int .i64 (l.length:Int))).run Am w = .ok (.slice (Ac ⟨w,0,Ab⟩) l.length l.length) (w.alloc (.cells (madeCells #[.slice Ab 0 0] l.length) 74)):=by
  intro w
  have:=run_make (P:=Am) w 28 74 i0 _ underlying28 aQ aU .i64 .i64 l.length l.length Bl Bl (by rw [aR];omega) Bl
  exact Akm
 go_enter func183,ntmps183;go_wp2;go_loopw [4] (fun i wr=>∃ k:Nat,k<=l.length/\i = .int .i64 k/\Hid (∃ (rs:List ((List Entry)×Sl)) (G:List Nat),rs.map (·.1)=l.take k/\Ow (Dt.list By).enc 74 wr w.heap.size (.slice (Ac ⟨w,0,Ab⟩) l.length l.length) (rs ++ List.replicate (l.length - k) ([],⟨Ab,0,0⟩))/\Ows (Dt.list By) wr G rs/\G.Nodup /\ ∀ b∈G,w<b)/\Below w w wr) (fun i _=>l.length - (intOf i).toNat);case atStart=>exact ⟨0,Ag _,rfl,⟨[],[],rfl,by rw [List.nil_append,Nat.sub_zero];exact Ow.made (Dt.list By).enc 74 w ([],⟨Ab,0,0⟩) l.length Bq (by simp [maxLen];omega) rfl (Nat.mul_one _).symm,.nil,List.nodup_nil,fun _ h=>by cases h⟩,Bu⟩
 case round =>
  obtain ⟨k,hk,rfl,⟨rs,G,hm,hown,hG,jH,eI⟩,hb⟩:=hrel;have bK:rs.length=k:=by have:=congrArg List.length hm;simpa [Nat.min_eq_left hk] using this
  by_cases aA:k<l.length
  ·obtain ⟨b,o,s,rfl,aJ,hr,c0⟩:=(h.below hb).entryS aA;have hx:∀ W,Below wr wr W->(Dt.list By).rd W W.heap.size l[k] s:=fun W hW=>(Dt.list By).rd_more ((Dt.list By).rd_below ((Dt.list By).rd_more hr hb.size) hW) hW.size;have aE:(rs ++ List.replicate (l.length - k) (([],⟨Ab,0,0⟩):(List Entry)×Sl)).length=l.length:=by simp;omega
   have Hm:=Br hm;have Hrl:=Br bK;clear hm bK;go_wp2_with (go_at_call 257;refine (Yz l[k] s _ (dV k aA) (hx _ (by first | exact Bs _ _ | exact (Bs _ _).drew))).mono ?_;rintro e w1 ⟨s1,F1,rfl,o1,n1,aG⟩;have bM:=hown.below aG;have hf:=bM.free;have d0:=bM.c_entryS (k:=k) (by rw [aE];exact aA))
   have hp:=Ow.put bM aE k aA (l[k],s1);rw [show k * (Dt.list By).enc.sz=k from Nat.mul_one k] at hp;have Hp:=Bld.lay hG jH eI aG (r:=(l[k],s1)) o1 n1 (Ai (hown.blk).2 (Bt _)) hp.2;rw [M9 rs _ k l.length Hrl.out aA] at hp;refine ⟨⟨k+1,Bl,by go_num,⟨rs ++ [(l[k],s1)],G ++ F1,?_,hp.1,Hp.1,Hp.2.1,Hp.2.2⟩,(hb.trans (aG.mono hb.size)).grown hp.2 (Ah hb.size aG.size) (fun g hg=>by simp at hg;omega)⟩,clM⟩;rw [List.map_append,Hm.out,Cp l k aA];rfl
  ·have aZ:k=l.length:=Bl;subst aZ;rw [Nat.sub_self,List.replicate_zero,List.append_nil] at hown;go_wp2;go_ret;rw [List.take_length] at hm;have hB:Bld (Dt.list By) 74 wr w (.slice (Ac ⟨w,0,Ab⟩) l.length l.length) rs:=⟨G,by rw [<-bK];exact (by rw [bK];exact hown),hG,jH,fun b aX=>⟨Nat.le_of_lt (eI b aX),by simp [Value.ownBlock];have:=eI b aX;omega⟩⟩
   obtain ⟨F,h1,h2⟩:=hB.owl hm;exact ⟨⟨Ac ⟨w,0,Ab⟩,l.length,l.length⟩,F,rfl,h1,h2,hb⟩
theorem Tj (l:List (List Entry)) (s:Sl) (F:List Nat) (k:Int) (w:World) (hl:Ek Cn l<=2000000) (cE:0<=k) (fC:k<=900000000) (h:OwL (Dt.list By) w F s.v l) :
  Calls Am 191 #[Aa s.a s.n s.c,J U k] w (Mu (Dt.list (Dt.list By)) F (mkL Jn Db k l) s (k+(C9 Db l:Nat)) w):=by
 obtain ⟨A,n,c⟩:=s;obtain ⟨A',c',hv,-⟩:=h.form;simp only [Sl.v,Value.slice.injEq] at hv;obtain ⟨rfl,rfl,rfl⟩:=hv;have bS:l.length<=2000000:=Ah (Ck _ _) hl;have cG:∀ j,C9 Db (l.take j)<=26000000:=fun j=>by
  exact Anf
 have dV:∀ k (hk:k<l.length),Cn l[k]<=2000000:=fun k hk=>by have:=Dm (cnt:=Cn) (Aw hk);omega
 have Hnl:=Br cG;clear cG hl;go_enter func191,ntmps191;go_wp2;go_loopw [1,5] (fun q i wr=>∃ (j:Nat) (m:Int),j<=l.length/\i = J U j/\q = J U m/\Hid (m=k+(C9 Db (l.take j):Nat))/\OwL (Dt.list By) wr F (Aa A l.length c) (mkL Jn Db k (l.take j) ++ l.drop j)/\Chg F w wr) (fun _ i _=>l.length - (intOf i).toNat);case atStart=>exact ⟨0,k,Ag _,rfl,rfl,by show k=_;simp [C9],h,Chg.refl _ _⟩
 case round =>
  obtain ⟨j,m,hj,rfl,rfl,hm,ho,hc⟩:=hrel;have hm':=hm.out;have fQ:=Hnl.out j;have cL:0<=m:=Bl;have bZ:m<=926000000:=Bl;clear hm' fQ;by_cases aA:j<l.length
  ·have aB:(j:Int)<(l.length:Int):=Bl;have aE:(mkL Jn Db k (l.take j) ++ l.drop j).length=l.length:=by simp [Em];omega
   obtain ⟨b,o,rs,s,G1,Fx,G2,rfl,hF,cV,f0⟩:=ho.foc (j:=j) (by rw [aE];exact aA);rw [Na Jn Db k l j aA] at f0;subst hF;have Hrm:=Br cV;clear cV ho;have c0:=f0.entryS;have fr0:=f0.free;have kM:Ek D4 l[j]<=2000000:=by
    have:=dV j aA
    unfold Cn at this;omega
   have hne0:C9 De l[j]<=26000000:=by
    have h2:=Et (num:=De) (cnt:=D4) (K:=13) K5 l[j];omega
   go_wp2_with fail
   refine (Uv l[j] s Fx _ _ kM Bl Bl f0.here).mono ?_;rintro e w1 ⟨rfl,o1,g1⟩;have f1:=f0.sub (y:=mkL J9 De (m) l[j]) g1 o1 rfl;have c1_0:=f1.entryS;have fr1:=f1.free;go_wp2;have pL:=hm.out;have hown:=f1.owl Hrm.out;have dU:mkL J9 De (m) l[j]=Jn m l[j]:=rfl;have bW:=O8 Jn Db k l j aA;rw [<-hm.out] at bW;rw [dU,bW] at hown;have cN:(C9 Db (l.take (j+1)):Nat)=C9 Db (l.take j)+Db l[j]:=Ew _ _ _ aA;refine ⟨⟨j+1,m+(C9 De l[j]:Nat),Bl,by go_num,rfl,?_,hown,(hc).trans (g1.mono (fun _ hh=>Uq hh))⟩,clM⟩;have eW:Db l[j]=C9 De l[j]:=rfl;show m+(C9 De l[j]:Nat)=_;rw [cN,eW];push_cast;omega
  ·exact Aiq
theorem Tk (l:List (List Entry)) (s:Sl) (k:Int) (w:World) (hl:Ek Cn l<=2000000) (cE:0<=k) (fC:k<=900000000) (h:RdL (Dt.list By) w w s.v (mkL Jn Db k l)) :
  Calls Am 194 #[Aa s.a s.n s.c,J U k] w fun e w'=>e = .returned (J U (k+(C9 Db l:Nat)))/\Below w w w':=by
 obtain ⟨A,n,c⟩:=s;obtain ⟨A',c',hv,-⟩:=h.form;simp only [Sl.v,Value.slice.injEq,Em] at hv;obtain ⟨rfl,rfl,rfl⟩:=hv;have bS:l.length<=2000000:=Ah (Ck _ _) hl;have cG:∀ j,C9 Db (l.take j)<=26000000:=fun j=>by
  exact Anf
 have dV:∀ k (hk:k<l.length),Cn l[k]<=2000000:=fun k hk=>by have:=Dm (cnt:=Cn) (Aw hk);omega
 have aL:∀ (wr:World) (j:Nat) (hj:j<l.length) (m:Int),Below w w wr->m=k+(C9 Db (l.take j):Nat) -> ∃ b o,∃ s:Sl,A=Ac ⟨b,o,Ab⟩/\b<w.heap.size/\(Dt.list By).rd wr w.heap.size (Jn m l[j]) s/\wr.cell? ⟨b,o+j,Ab⟩=Ac (Aa s.a s.n s.c):=by
  intro wr j hj m hb hm;obtain ⟨b,o,s,h1,h2,h3,h4⟩:=(h.below hb).entryS (k:=j) (by rw [Em];exact hj);exact Ai5
 have Hc:=Br aL;have Hnl:=Br cG;clear aL cG hl;go_enter func194,ntmps194;go_wp2;go_loopw [1,5] (fun q i wr=>∃ (j:Nat) (m:Int),j<=l.length/\i = J U j/\q = J U m/\Hid (m=k+(C9 Db (l.take j):Nat))/\Below w w wr) (fun _ i _=>l.length - (intOf i).toNat);case atStart=>exact ⟨0,k,Ag _,rfl,rfl,by show k=_;simp [C9],Bs _ _⟩
 case round =>
  obtain ⟨j,m,hj,rfl,rfl,hm,hb⟩:=hrel;have hm':=hm.out;have fQ:=Hnl.out j;have cL:0<=m:=Bl;have bZ:m<=926000000:=Bl;clear hm' fQ;by_cases aA:j<l.length
  ·have aB:(j:Int)<(l.length:Int):=Bl;obtain ⟨b,o,s,rfl,aJ,nC,c0⟩:=Hc.out wr j aA m hb hm.out;have hx:∀ W,Below wr wr W->(Dt.list By).rd W W.heap.size (Jn m l[j]) s:=fun W hW=>(Dt.list By).rd_more ((Dt.list By).rd_below ((Dt.list By).rd_more nC hb.size) hW) hW.size;have kM:Ek D4 l[j]<=2000000:=by
    have:=dV j aA
    unfold Cn at this;omega
   have hne0:C9 De l[j]<=26000000:=by
    have h2:=Et (num:=De) (cnt:=D4) (K:=13) K5 l[j];omega
   go_wp2_with fail
   refine (Uw l[j] s _ _ kM Bl Bl (hx _ (by first | exact Bs _ _ | exact (Bs _ _).drew))).mono ?_;rintro e v0 ⟨rfl,aN⟩;have B0:Below wr wr v0:=Bv (by first | exact Bs _ _ | exact (Bs _ _).drew) aN;obtain ⟨q0,p0⟩:=Gf B0;have hbr0:=Ai aJ hb.size;go_wp2;have cN:(C9 Db (l.take (j+1)):Nat)=C9 Db (l.take j)+Db l[j]:=Ew _ _ _ aA;refine ⟨⟨j+1,m+(C9 De l[j]:Nat),Bl,by go_num,rfl,?_,Bv hb B0⟩,clM⟩;have eW:Db l[j]=C9 De l[j]:=rfl;have pL:=hm.out;show m+(C9 De l[j]:Nat)=_;rw [cN,eW];push_cast;omega
  ·exact Ai8
@[go_sem] abbrev Xo (x:Edge) (_s:Unit):Value:=.agg #[.int .i64 x.fr,.int .i64 x.to]
abbrev Ep:Dt Edge:=Dt.flat (fun q=>[.int .i64 q.1.fr,.int .i64 q.1.to]) 2 (fun _=>rfl) (fun q u hu=>by simp at hu;rcases hu with rfl | rfl<;>rfl)
def Ei (_:Edge):Nat:=0
def Ux (x:Edge):Prop:=Wf x.fr/\Wf x.to
def C6 (_:Edge):Nat:=2
def Kb (k:Int) (_:Edge):Edge:=⟨k,k+1⟩
theorem Jv (x:Edge):C6 x<=13 * (Ei x+1):=by
 unfold C6 Ei;omega
theorem Ac2 (x:Edge) (s:Unit) (w:World) (hl:Ei x<=2000000) (h:Ep.rd w w x s) :
  Calls Am 260 #[Xo x s] w (Dv Ep Xo x w):=by
 have bG:∀ W,Below w w W->Ep.rd W W x s:=fun W hW=>Ep.rd_more (Ep.rd_below h hW) hW.size;go_enter func260,ntmps260;go_wp2;refine Aj (v:=Xo x ()) ?_ rfl ?_
 ·simp [Xo,results,results260,go_sem]
 ·exact Ajf
theorem Ac3 (x y:Edge) (s r:Unit) (w:World) (hl:Ei x<=2000000) (hl':Ei y<=2000000) (h:Ep.rd w w x s) (h':Ep.rd w w y r) :
  Calls Am 263 #[Xo x s,Xo y r] w fun e w'=>e = .returned (.bool (decide (x=y)))/\Below w w w':=by
 have bG:∀ W,Below w w W->Ep.rd W W x s:=fun W hW=>Ep.rd_more (Ep.rd_below h hW) hW.size;have cC:∀ W,Below w w W->Ep.rd W W y r:=fun W hW=>Ep.rd_more (Ep.rd_below h' hW) hW.size;by_cases h0:x.fr=y.fr;case neg =>
  have t0:(x.fr != y.fr)=true:=by rw [bne_iff_ne];exact h0
  have H:=Br (show decide (x=y)=false by simp only [decide_eq_false_iff_not];intro e;exact h0 (by rw [e]));clear h0;go_enter func263,ntmps263;go_wp2;go_ret;exact ⟨Bx (by first | exact H.out.symm | rfl),by repeat (first | exact Bs _ _ | refine Ae ?_ Bp _)⟩
 have t0:(x.fr != y.fr)=false:=by simp [h0]
 have H0:=Br h0;clear h0;by_cases h1:x.to=y.to;case neg =>
  have t1:(x.to != y.to)=true:=by rw [bne_iff_ne];exact h1
  have H:=Br (show decide (x=y)=false by simp only [decide_eq_false_iff_not];intro e;exact h1 (by rw [e]));clear h1;go_enter func263,ntmps263;go_wp2;go_ret;exact ⟨Bx (by first | exact H.out.symm | rfl),by repeat (first | exact Bs _ _ | refine Ae ?_ Bp _)⟩
 have t1:(x.to != y.to)=false:=by simp [h1]
 have H1:=Br h1;clear h1;have H:=Br (show decide (x=y)=true by
  simp only [decide_eq_true_eq];have hh:=And.intro H0.out H1.out;obtain ⟨e0,e1⟩:=hh;cases x;cases y;simp only at e0 e1;subst e0 e1;rfl)
 go_enter func263,ntmps263;go_wp2;go_ret;exact ⟨Bx (by first | exact H.out.symm | rfl),by repeat (first | exact Bs _ _ | refine Ae ?_ Bp _)⟩
theorem RdL.edge {w:World} {B:Nat} {A:Option Addr} {n c:Nat} {l:List (Edge)} (h:RdL Ep w B (Aa A n c) l) {k:Nat} (hk:k<l.length) :
  ∃ b o,∃ _s:Unit,A=Ac ⟨b,o,Ab⟩/\b<B/\Ep.rd w B l[k] _s/\w.cell? ⟨b,o+k * 2,Ab⟩=Ac (J U l[k].fr)/\w.cell? ⟨b,o+k * 2+1,Ab⟩=Ac (J U l[k].to):=by
 obtain ⟨b,o,s,rfl,hb,hc,hr⟩:=h.at_ k hk;exact ⟨b,o,s,rfl,hb,hr,hc 0 _ rfl,hc 1 _ rfl⟩
theorem Ow.c_edge {E:TypeId} {w:World} {base g n cap:Nat} {l:List ((Edge)×Unit)} (h:Ow Ep.enc E w base (Aa (Ac ⟨g,0,Ab⟩) n cap) l) {k:Nat} (hk:k<l.length) :
  w.cell? ⟨g,k * 2,Ab⟩=Ac (J U l[k].1.fr)/\w.cell? ⟨g,k * 2+1,Ab⟩=Ac (J U l[k].1.to):=by
 rcases h.form with ⟨h1,_⟩ | ⟨g',cap',hv,_,_,_,_,_,hc⟩
 ·simp at h1
 ·simp only [Value.slice.injEq,Option.some.injEq,Addr.mk.injEq,and_true] at hv;obtain ⟨rfl,_,_⟩:=hv;exact ⟨hc k hk 0 _ rfl,hc k hk 1 _ rfl⟩
theorem Foc.edge {w:World} {b o n c j:Nat} {rs:List ((Edge)×Unit)} {G1 Fx G2:List Nat} {x:Edge} {s:Unit} (h:Foc Ep w b o n c rs j G1 Fx G2 x s) :
  w.cell? ⟨b,o+j * 2,Ab⟩=Ac (J U x.fr)/\w.cell? ⟨b,o+j * 2+1,Ab⟩=Ac (J U x.to):=⟨h.cells 0 _ rfl,h.cells 1 _ rfl⟩
theorem Aa1 (l:List (Edge)) (s:Sl) (left:Int) (w:World) (h0:0<=left) (h1:left<=2000000) (hw:wfL Ux l) (h:RdL Ep w w s.v l) :
  Calls Am 182 #[Aa s.a s.n s.c,J U left] w (Lv left (Ek Ei l) w):=by
 obtain ⟨A,n,c⟩:=s;obtain ⟨A',c',hv,-⟩:=h.form;simp only [Sl.v,Value.slice.injEq] at hv;obtain ⟨rfl,rfl,rfl⟩:=hv;have bS:=hw.1;by_cases aA:left<l.length
 ·go_enter func182,ntmps182;exact Akg
 go_enter func182,ntmps182;go_wp2;go_ret;exact ⟨_,rfl,.inr ⟨Bl,by rw [Fh (cnt:=Ei) (fun _=>rfl) l];omega⟩,Bs _ _⟩
theorem Aa2 (l l':List (Edge)) (s s':Sl) (w:World) (hl:Ek Ei l<=2000000) (hl':Ek Ei l'<=2000000) (h:RdL Ep w w s.v l) (h':RdL Ep w w s'.v l') :
  Calls Am 190 #[Aa s.a s.n s.c,Aa s'.a s'.n s'.c] w fun e w'=>e = .returned (.bool (decide (l=l')))/\Below w w w':=by
 obtain ⟨A,n,c⟩:=s;obtain ⟨A0,c0,hv,-⟩:=h.form;simp only [Sl.v,Value.slice.injEq] at hv;obtain ⟨rfl,rfl,rfl⟩:=hv;obtain ⟨A',n',c'⟩:=s';obtain ⟨A0,c0,hv,-⟩:=h'.form;simp only [Sl.v,Value.slice.injEq] at hv;obtain ⟨rfl,rfl,rfl⟩:=hv;have bS:l.length<=2000000:=Ah (Ck _ _) hl;have hll':l'.length<=2000000:=Ah (Ck _ _) hl';have dV:∀ k (hk:k<l.length),Ei l[k]<=2000000:=fun k hk=>by have:=Dm (cnt:=Ei) (Aw hk);omega
 have hcc':∀ k (hk:k<l'.length),Ei l'[k]<=2000000:=fun k hk=>by have:=Dm (cnt:=Ei) (Aw hk);omega
 clear hl hl';by_cases aC:l.length=l'.length
 ·have aN:((l.length:Int) != (l'.length:Int))=false:=by simp [aC]
  have Hne:=Br aC;clear aC;go_enter func190,ntmps190;go_wp2;go_loopw [5] (fun i wr=>∃ k:Nat,k<=l.length/\i = J U k/\Hid (l.take k=l'.take k)/\Below w w wr) (fun i _=>l.length - (intOf i).toNat);case atStart=>exact ⟨0,Ag _,rfl,rfl,Bs _ _⟩
  case round =>
   obtain ⟨k,hk,rfl,fJ,hb⟩:=hrel;by_cases aA:k<l.length
   ·have bY:k<l'.length:=by rw [<-Hne.out];exact aA
    obtain ⟨b,o,s,rfl,aJ,hr,c0,c1⟩:=(h.below hb).edge aA;obtain ⟨b',o',s',rfl,bF,gK,d0,d1⟩:=(h'.below hb).edge bY;have hx:∀ W,Below wr wr W->Ep.rd W W l[k] s:=fun W hW=>Ep.rd_more (Ep.rd_below (Ep.rd_more hr hb.size) hW) hW.size;have dR:∀ W,Below wr wr W->Ep.rd W W l'[k] s':=fun W hW=>Ep.rd_more (Ep.rd_below (Ep.rd_more gK hb.size) hW) hW.size;go_wp2;go_still_tail 8,Bm;go_wp2_with (go_at_call 263;refine (Ac3 l[k] l'[k] s s' _ (dV k aA) (hcc' k bY) (hx _ (by first | exact Bs _ _ | exact (Bs _ _).drew)) (dR _ (by first | exact Bs _ _ | exact (Bs _ _).drew))).mono ?_;rintro e w1 ⟨rfl,aG⟩)
    ·exact Air
    ·exact Ail
   ·exact Aiw
 ·have aN:((l.length:Int) != (l'.length:Int))=true:=by simp;omega
  go_enter func190,ntmps190;go_wp2;go_ret;refine ⟨Bx ?_,Bs _ _⟩;simp only [Bool.false_eq,decide_eq_false_iff_not];intro e;exact aC (by rw [e])
theorem Ac4:(Am.info? 206).map (fun i=>(i.zero,i.size,i.bytes))=Ac (Ac (.agg #[J U 0,J U 0]),2,16):=Bm
theorem Aa3 (l:List (Edge)) (s:Sl) (w:World) (hl:Ek Ei l<=2000000) (h:RdL Ep w w s.v l) :
  Calls Am 186 #[.slice s.a s.n s.c] w (Dv (Dt.list Ep) slV l w):=by
 obtain ⟨A,n,c⟩:=s;obtain ⟨A',c',hv,-⟩:=h.form;simp only [Sl.v,Value.slice.injEq] at hv;obtain ⟨rfl,rfl,rfl⟩:=hv;have bS:l.length<=2000000:=Ah (Ck _ _) hl;have dV:∀ k (hk:k<l.length),Ei l[k]<=2000000:=fun k hk=>by have:=Dm (cnt:=Ei) (Aw hk);omega
 clear hl;obtain ⟨i0,aQ,aU,aS,aR⟩:=info_parts Ac4;have kN:∀ w:World,(Instr.makeSlice 41 (.int .i64 (l.length:Int)) (.int .i64 (l.length:Int))).run Am w = .ok (.slice (Ac ⟨w,0,Ab⟩) l.length l.length) (w.alloc (.cells (madeCells #[.int .i64 0,.int .i64 0] (l.length * 2)) 206)):=by
  intro w
  have:=run_make (P:=Am) w 41 206 i0 _ underlying41 aQ aU .i64 .i64 l.length l.length Bl Bl (by rw [aR];omega) Bl
  exact Akm
 go_enter func186,ntmps186;go_wp2;go_loopw [4] (fun i wr=>∃ k:Nat,k<=l.length/\i = .int .i64 k/\Hid (∃ (rs:List ((Edge)×Unit)) (G:List Nat),rs.map (·.1)=l.take k/\Ow Ep.enc 206 wr w (.slice (Ac ⟨w,0,Ab⟩) l.length l.length) (rs ++ List.replicate (l.length - k) (⟨0,0⟩,()))/\Ows Ep wr G rs/\G.Nodup /\ ∀ b∈G,w<b)/\Below w w wr) (fun i _=>l.length - (intOf i).toNat);case atStart=>exact ⟨0,Ag _,rfl,⟨[],[],rfl,by rw [List.nil_append,Nat.sub_zero];exact Ow.made Ep.enc 206 w (⟨0,0⟩,()) l.length Bq (by simp [maxLen];omega) rfl rfl,.nil,List.nodup_nil,fun _ h=>by cases h⟩,Bu⟩
 case round =>
  obtain ⟨k,hk,rfl,⟨rs,G,hm,hown,hG,jH,eI⟩,hb⟩:=hrel;have bK:rs.length=k:=by have:=congrArg List.length hm;simpa [Nat.min_eq_left hk] using this
  by_cases aA:k<l.length
  ·obtain ⟨b,o,s,rfl,aJ,hr,c0,c1⟩:=(h.below hb).edge aA;have hx:∀ W,Below wr wr W->Ep.rd W W l[k] s:=fun W hW=>Ep.rd_more (Ep.rd_below (Ep.rd_more hr hb.size) hW) hW.size;have aE:(rs ++ List.replicate (l.length - k) ((⟨0,0⟩,()):(Edge)×Unit)).length=l.length:=by simp;omega
   have Hm:=Br hm;have Hrl:=Br bK;clear hm bK;go_wp2_with (go_at_call 260;refine (Ac2 l[k] s _ (dV k aA) (hx _ (by first | exact Bs _ _ | exact (Bs _ _).drew))).mono ?_;rintro e w1 ⟨s1,F1,rfl,o1,n1,aG⟩;have bM:=hown.below aG;have hf:=bM.free;obtain ⟨d0,d1⟩:=bM.c_edge (k:=k) (by rw [aE];exact aA))
   have hp:=Ow.put bM aE k aA (l[k],s1);have Hp:=Bld.lay hG jH eI aG (r:=(l[k],s1)) o1 n1 (Ai (hown.blk).2 (Bt _)) hp.2;rw [M9 rs _ k l.length Hrl.out aA] at hp;refine ⟨⟨k+1,Bl,by go_num,⟨rs ++ [(l[k],s1)],G ++ F1,?_,hp.1,Hp.1,Hp.2.1,Hp.2.2⟩,(hb.trans (aG.mono hb.size)).grown hp.2 (Ah hb.size aG.size) (fun g hg=>by simp at hg;omega)⟩,clM⟩;rw [List.map_append,Hm.out,Cp l k aA];rfl
  ·have aZ:k=l.length:=Bl;subst aZ;rw [Nat.sub_self,List.replicate_zero,List.append_nil] at hown;go_wp2;go_ret;rw [List.take_length] at hm;have hB:Bld Ep 206 wr w (.slice (Ac ⟨w,0,Ab⟩) l.length l.length) rs:=⟨G,by rw [<-bK];exact (by rw [bK];exact hown),hG,jH,fun b aX=>⟨Nat.le_of_lt (eI b aX),by simp [Value.ownBlock];have:=eI b aX;omega⟩⟩
   obtain ⟨F,h1,h2⟩:=hB.owl hm;exact ⟨⟨Ac ⟨w,0,Ab⟩,l.length,l.length⟩,F,rfl,h1,h2,hb⟩
theorem Ps (l:List (Edge)) (s:Sl) (F:List Nat) (k:Int) (w:World) (hl:Ek Ei l<=2000000) (cE:0<=k) (fC:k<=1000000000) (h:OwL Ep w F s.v l) :
  Calls Am 193 #[Aa s.a s.n s.c,J U k] w (Mu (Dt.list Ep) F (mkL Kb C6 k l) s (k+(C9 C6 l:Nat)) w):=by
 obtain ⟨A,n,c⟩:=s;obtain ⟨A',c',hv,-⟩:=h.form;simp only [Sl.v,Value.slice.injEq] at hv;obtain ⟨rfl,rfl,rfl⟩:=hv;have bS:l.length<=2000000:=Ah (Ck _ _) hl;have cG:∀ j,C9 C6 (l.take j)<=26000000:=fun j=>by
  exact Ang
 have Hnl:=Br cG;clear cG hl;go_enter func193,ntmps193;go_wp2;go_loopw [1,5] (fun q i wr=>∃ (j:Nat) (m:Int),j<=l.length/\i = J U j/\q = J U m/\Hid (m=k+(C9 C6 (l.take j):Nat))/\OwL Ep wr F (Aa A l.length c) (mkL Kb C6 k (l.take j) ++ l.drop j)/\Chg F w wr) (fun _ i _=>l.length - (intOf i).toNat);case atStart=>exact ⟨0,k,Ag _,rfl,rfl,by show k=_;simp [C9],h,Chg.refl _ _⟩
 case round =>
  obtain ⟨j,m,hj,rfl,rfl,hm,ho,hc⟩:=hrel;have hm':=hm.out;have fQ:=Hnl.out j;have cL:0<=m:=Bl;have bZ:m<=1026000000:=Bl;clear hm' fQ;by_cases aA:j<l.length
  ·have aB:(j:Int)<(l.length:Int):=Bl;have aE:(mkL Kb C6 k (l.take j) ++ l.drop j).length=l.length:=by simp [Em];omega
   obtain ⟨b,o,rs,s,G1,Fx,G2,rfl,hF,cV,f0⟩:=ho.foc (j:=j) (by rw [aE];exact aA);rw [Na Kb C6 k l j aA] at f0;subst hF;have Hrm:=Br cV;clear cV ho;obtain ⟨c0,c1⟩:=f0.edge;have fr0:=f0.free;go_wp2;obtain ⟨f1,g1⟩:=f0.put ⟨m,m+1⟩ 0 [J U (m),J U (m+1)] (by show 0+2<=2;omega) (fun i hi=>match i,hi with | 0,_=>rfl | 1,_=>rfl | i+2,hi=>absurd hi Bo) (fun i hi hx=>match i,hi,hx with | 0,_,hx=>absurd hx Bo | 1,_,hx=>absurd hx Bo | i+2,hi,_=>absurd hi (by show ¬ (i+2<2);omega)) (fun _ hh=>hh);have pL:=hm.out;have hown:=f1.owl Hrm.out;have dU:⟨m,m+1⟩=Kb m l[j]:=rfl;have bW:=O8 Kb C6 k l j aA;rw [<-hm.out] at bW;rw [dU,bW] at hown;have cN:(C9 C6 (l.take (j+1)):Nat)=C9 C6 (l.take j)+C6 l[j]:=Ew _ _ _ aA;refine ⟨⟨j+1,m+1+1,Bl,by go_num,rfl,?_,hown,(hc).trans (g1.mono (fun _ hh=>O7 hh))⟩,clM⟩;have eW:C6 l[j]=2:=rfl;show m+1+1=_;rw [cN,eW];push_cast;omega
  ·exact Aiq
theorem W0 (l:List (Edge)) (s:Sl) (k:Int) (w:World) (hl:Ek Ei l<=2000000) (cE:0<=k) (fC:k<=1000000000) (h:RdL Ep w w s.v (mkL Kb C6 k l)) :
  Calls Am 267 #[Aa s.a s.n s.c,J U k] w fun e w'=>e = .returned (J U (k+(C9 C6 l:Nat)))/\Below w w w':=by
 obtain ⟨A,n,c⟩:=s;obtain ⟨A',c',hv,-⟩:=h.form;simp only [Sl.v,Value.slice.injEq,Em] at hv;obtain ⟨rfl,rfl,rfl⟩:=hv;have bS:l.length<=2000000:=Ah (Ck _ _) hl;have cG:∀ j,C9 C6 (l.take j)<=26000000:=fun j=>by
  exact Ang
 have aL:∀ (wr:World) (j:Nat) (hj:j<l.length) (m:Int),Below w w wr->m=k+(C9 C6 (l.take j):Nat) -> ∃ b o,∃ s:Unit,A=Ac ⟨b,o,Ab⟩/\b<w.heap.size/\Ep.rd wr w (Kb m l[j]) s/\wr.cell? ⟨b,o+j * 2,Ab⟩=Ac (J U (m))/\wr.cell? ⟨b,o+j * 2+1,Ab⟩=Ac (J U (m+1)):=by
  intro wr j hj m hb hm;obtain ⟨b,o,s,h1,h2,h3,h4⟩:=(h.below hb).edge (k:=j) (by rw [Em];exact hj);exact Ai5
 have Hc:=Br aL;have Hnl:=Br cG;clear aL cG hl;go_enter func267,ntmps267;go_wp2;go_loopw [1,5] (fun q i wr=>∃ (j:Nat) (m:Int),j<=l.length/\i = J U j/\q = J U m/\Hid (m=k+(C9 C6 (l.take j):Nat))/\Below w w wr) (fun _ i _=>l.length - (intOf i).toNat);case atStart=>exact ⟨0,k,Ag _,rfl,rfl,by show k=_;simp [C9],Bs _ _⟩
 case round =>
  obtain ⟨j,m,hj,rfl,rfl,hm,hb⟩:=hrel;have hm':=hm.out;have fQ:=Hnl.out j;have cL:0<=m:=Bl;have bZ:m<=1026000000:=Bl;clear hm' fQ;by_cases aA:j<l.length
  ·have aB:(j:Int)<(l.length:Int):=Bl;obtain ⟨b,o,s,rfl,aJ,nC,c0,c1⟩:=Hc.out wr j aA m hb hm.out;go_wp2;have cN:(C9 C6 (l.take (j+1)):Nat)=C9 C6 (l.take j)+C6 l[j]:=Ew _ _ _ aA;refine ⟨⟨j+1,m+1+1,Bl,by go_num,rfl,?_,hb⟩,clM⟩;have eW:C6 l[j]=2:=rfl;have pL:=hm.out;show m+1+1=_;rw [cN,eW];push_cast;omega
  ·exact Ai8
structure Task where
 state:Int
 need:Int
 try_:Int
 until_:Int
deriving DecidableEq,Inhabited
@[go_sem] abbrev Xp (x:Task) (_s:Unit):Value:=.agg #[.int .i64 x.state,.int .i64 x.need,.int .i64 x.try_,.int .i64 x.until_]
abbrev C8:Dt Task:=Dt.flat (fun q=>[.int .i64 q.1.state,.int .i64 q.1.need,.int .i64 q.1.try_,.int .i64 q.1.until_]) 4 (fun _=>rfl) (fun q u hu=>by simp at hu;rcases hu with rfl | rfl | rfl | rfl<;>rfl)
def D7 (_:Task):Nat:=0
def Uy (x:Task):Prop:=Wf x.state/\Wf x.need/\Wf x.try_/\Wf x.until_
def Dw (_:Task):Nat:=4
def Ly (k:Int) (_:Task):Task:=⟨k,k+1,k+1+1,k+1+1+1⟩
theorem Lz (x:Task):Dw x<=13 * (D7 x+1):=by
 unfold Dw D7;omega
theorem Ac5 (x:Task) (s:Unit) (w:World) (hl:D7 x<=2000000) (h:C8.rd w w x s) :
  Calls Am 308 #[Xp x s] w (Dv C8 Xp x w):=by
 have bG:∀ W,Below w w W->C8.rd W W x s:=fun W hW=>C8.rd_more (C8.rd_below h hW) hW.size;go_enter func308,ntmps308;go_wp2;refine Aj (v:=Xp x ()) ?_ rfl ?_
 ·simp [Xp,results,results308,go_sem]
 ·exact Ajf
theorem Ac6 (x y:Task) (s r:Unit) (w:World) (hl:D7 x<=2000000) (hl':D7 y<=2000000) (h:C8.rd w w x s) (h':C8.rd w w y r) :
  Calls Am 309 #[Xp x s,Xp y r] w fun e w'=>e = .returned (.bool (decide (x=y)))/\Below w w w':=by
 have bG:∀ W,Below w w W->C8.rd W W x s:=fun W hW=>C8.rd_more (C8.rd_below h hW) hW.size;have cC:∀ W,Below w w W->C8.rd W W y r:=fun W hW=>C8.rd_more (C8.rd_below h' hW) hW.size;by_cases h0:x.state=y.state;case neg =>
  have t0:(x.state != y.state)=true:=by rw [bne_iff_ne];exact h0
  have H:=Br (show decide (x=y)=false by simp only [decide_eq_false_iff_not];intro e;exact h0 (by rw [e]));clear h0;go_enter func309,ntmps309;go_wp2;go_ret;exact ⟨Bx (by first | exact H.out.symm | rfl),by repeat (first | exact Bs _ _ | refine Ae ?_ Bp _)⟩
 have t0:(x.state != y.state)=false:=by simp [h0]
 have H0:=Br h0;clear h0;by_cases h1:x.need=y.need;case neg =>
  have t1:(x.need != y.need)=true:=by rw [bne_iff_ne];exact h1
  have H:=Br (show decide (x=y)=false by simp only [decide_eq_false_iff_not];intro e;exact h1 (by rw [e]));clear h1;go_enter func309,ntmps309;go_wp2;go_ret;exact ⟨Bx (by first | exact H.out.symm | rfl),by repeat (first | exact Bs _ _ | refine Ae ?_ Bp _)⟩
 have t1:(x.need != y.need)=false:=by simp [h1]
 have H1:=Br h1;clear h1;by_cases h2:x.try_=y.try_;case neg =>
  have t2:(x.try_ != y.try_)=true:=by rw [bne_iff_ne];exact h2
  have H:=Br (show decide (x=y)=false by simp only [decide_eq_false_iff_not];intro e;exact h2 (by rw [e]));clear h2;go_enter func309,ntmps309;go_wp2;go_ret;exact ⟨Bx (by first | exact H.out.symm | rfl),by repeat (first | exact Bs _ _ | refine Ae ?_ Bp _)⟩
 have t2:(x.try_ != y.try_)=false:=by simp [h2]
 have H2:=Br h2;clear h2;by_cases h3:x.until_=y.until_;case neg =>
  have t3:(x.until_ != y.until_)=true:=by rw [bne_iff_ne];exact h3
  have H:=Br (show decide (x=y)=false by simp only [decide_eq_false_iff_not];intro e;exact h3 (by rw [e]));clear h3;go_enter func309,ntmps309;go_wp2;go_ret;exact ⟨Bx (by first | exact H.out.symm | rfl),by repeat (first | exact Bs _ _ | refine Ae ?_ Bp _)⟩
 have t3:(x.until_ != y.until_)=false:=by simp [h3]
 have H3:=Br h3;clear h3;have H:=Br (show decide (x=y)=true by
  simp only [decide_eq_true_eq];have hh:=And.intro H0.out (And.intro H1.out (And.intro H2.out H3.out));obtain ⟨e0,e1,e2,e3⟩:=hh;cases x;cases y;simp only at e0 e1 e2 e3;subst e0 e1 e2 e3;rfl)
 go_enter func309,ntmps309;go_wp2;go_ret;exact ⟨Bx (by first | exact H.out.symm | rfl),by repeat (first | exact Bs _ _ | refine Ae ?_ Bp _)⟩
theorem RdL.task {w:World} {B:Nat} {A:Option Addr} {n c:Nat} {l:List (Task)} (h:RdL C8 w B (Aa A n c) l) {k:Nat} (hk:k<l.length) :
  ∃ b o,∃ _s:Unit,A=Ac ⟨b,o,Ab⟩/\b<B/\C8.rd w B l[k] _s/\w.cell? ⟨b,o+k * 4,Ab⟩=Ac (J U l[k].state)/\w.cell? ⟨b,o+k * 4+1,Ab⟩=Ac (J U l[k].need)/\w.cell? ⟨b,o+k * 4+2,Ab⟩=Ac (J U l[k].try_)/\w.cell? ⟨b,o+k * 4+3,Ab⟩=Ac (J U l[k].until_):=Aln
theorem Ow.c_task {E:TypeId} {w:World} {base g n cap:Nat} {l:List ((Task)×Unit)} (h:Ow C8.enc E w base (Aa (Ac ⟨g,0,Ab⟩) n cap) l) {k:Nat} (hk:k<l.length) :
  w.cell? ⟨g,k * 4,Ab⟩=Ac (J U l[k].1.state)/\w.cell? ⟨g,k * 4+1,Ab⟩=Ac (J U l[k].1.need)/\w.cell? ⟨g,k * 4+2,Ab⟩=Ac (J U l[k].1.try_)/\w.cell? ⟨g,k * 4+3,Ab⟩=Ac (J U l[k].1.until_):=Ajs
theorem Foc.task {w:World} {b o n c j:Nat} {rs:List ((Task)×Unit)} {G1 Fx G2:List Nat} {x:Task} {s:Unit} (h:Foc C8 w b o n c rs j G1 Fx G2 x s) :
  w.cell? ⟨b,o+j * 4,Ab⟩=Ac (J U x.state)/\w.cell? ⟨b,o+j * 4+1,Ab⟩=Ac (J U x.need)/\w.cell? ⟨b,o+j * 4+2,Ab⟩=Ac (J U x.try_)/\w.cell? ⟨b,o+j * 4+3,Ab⟩=Ac (J U x.until_):=⟨h.cells 0 _ rfl,h.cells 1 _ rfl,h.cells 2 _ rfl,h.cells 3 _ rfl⟩
theorem Aa4 (l:List (Task)) (s:Sl) (left:Int) (w:World) (h0:0<=left) (h1:left<=2000000) (hw:wfL Uy l) (h:RdL C8 w w s.v l) :
  Calls Am 296 #[Aa s.a s.n s.c,J U left] w (Lv left (Ek D7 l) w):=by
 obtain ⟨A,n,c⟩:=s;obtain ⟨A',c',hv,-⟩:=h.form;simp only [Sl.v,Value.slice.injEq] at hv;obtain ⟨rfl,rfl,rfl⟩:=hv;have bS:=hw.1;by_cases aA:left<l.length
 ·go_enter func296,ntmps296;exact Akg
 go_enter func296,ntmps296;go_wp2;go_ret;exact ⟨_,rfl,.inr ⟨Bl,by rw [Fh (cnt:=D7) (fun _=>rfl) l];omega⟩,Bs _ _⟩
theorem Aa5 (l l':List (Task)) (s s':Sl) (w:World) (hl:Ek D7 l<=2000000) (hl':Ek D7 l'<=2000000) (h:RdL C8 w w s.v l) (h':RdL C8 w w s'.v l') :
  Calls Am 300 #[Aa s.a s.n s.c,Aa s'.a s'.n s'.c] w fun e w'=>e = .returned (.bool (decide (l=l')))/\Below w w w':=by
 obtain ⟨A,n,c⟩:=s;obtain ⟨A0,c0,hv,-⟩:=h.form;simp only [Sl.v,Value.slice.injEq] at hv;obtain ⟨rfl,rfl,rfl⟩:=hv;obtain ⟨A',n',c'⟩:=s';obtain ⟨A0,c0,hv,-⟩:=h'.form;simp only [Sl.v,Value.slice.injEq] at hv;obtain ⟨rfl,rfl,rfl⟩:=hv;have bS:l.length<=2000000:=Ah (Ck _ _) hl;have hll':l'.length<=2000000:=Ah (Ck _ _) hl';have dV:∀ k (hk:k<l.length),D7 l[k]<=2000000:=fun k hk=>by have:=Dm (cnt:=D7) (Aw hk);omega
 have hcc':∀ k (hk:k<l'.length),D7 l'[k]<=2000000:=fun k hk=>by have:=Dm (cnt:=D7) (Aw hk);omega
 clear hl hl';by_cases aC:l.length=l'.length
 ·have aN:((l.length:Int) != (l'.length:Int))=false:=by simp [aC]
  have Hne:=Br aC;clear aC;go_enter func300,ntmps300;go_wp2;go_loopw [5] (fun i wr=>∃ k:Nat,k<=l.length/\i = J U k/\Hid (l.take k=l'.take k)/\Below w w wr) (fun i _=>l.length - (intOf i).toNat);case atStart=>exact ⟨0,Ag _,rfl,rfl,Bs _ _⟩
  case round =>
   obtain ⟨k,hk,rfl,fJ,hb⟩:=hrel;by_cases aA:k<l.length
   ·have bY:k<l'.length:=by rw [<-Hne.out];exact aA
    obtain ⟨b,o,s,rfl,aJ,hr,c0,c1,c2,c3⟩:=(h.below hb).task aA;obtain ⟨b',o',s',rfl,bF,gK,d0,d1,d2,d3⟩:=(h'.below hb).task bY;have hx:∀ W,Below wr wr W->C8.rd W W l[k] s:=fun W hW=>C8.rd_more (C8.rd_below (C8.rd_more hr hb.size) hW) hW.size;have dR:∀ W,Below wr wr W->C8.rd W W l'[k] s':=fun W hW=>C8.rd_more (C8.rd_below (C8.rd_more gK hb.size) hW) hW.size;go_wp2;go_still_tail 8,Bm;go_wp2_with (go_at_call 309;refine (Ac6 l[k] l'[k] s s' _ (dV k aA) (hcc' k bY) (hx _ (by first | exact Bs _ _ | exact (Bs _ _).drew)) (dR _ (by first | exact Bs _ _ | exact (Bs _ _).drew))).mono ?_;rintro e w1 ⟨rfl,aG⟩)
    ·exact Air
    ·exact Ail
   ·exact Aiw
 ·have aN:((l.length:Int) != (l'.length:Int))=true:=by simp;omega
  go_enter func300,ntmps300;go_wp2;go_ret;refine ⟨Bx ?_,Bs _ _⟩;simp only [Bool.false_eq,decide_eq_false_iff_not];intro e;exact aC (by rw [e])
theorem Ac7:(Am.info? 203).map (fun i=>(i.zero,i.size,i.bytes))=Ac (Ac (.agg #[J U 0,J U 0,J U 0,J U 0]),4,32):=Bm
theorem Aa6 (l:List (Task)) (s:Sl) (w:World) (hl:Ek D7 l<=2000000) (h:RdL C8 w w s.v l) :
  Calls Am 298 #[.slice s.a s.n s.c] w (Dv (Dt.list C8) slV l w):=by
 obtain ⟨A,n,c⟩:=s;obtain ⟨A',c',hv,-⟩:=h.form;simp only [Sl.v,Value.slice.injEq] at hv;obtain ⟨rfl,rfl,rfl⟩:=hv;have bS:l.length<=2000000:=Ah (Ck _ _) hl;have dV:∀ k (hk:k<l.length),D7 l[k]<=2000000:=fun k hk=>by have:=Dm (cnt:=D7) (Aw hk);omega
 clear hl;obtain ⟨i0,aQ,aU,aS,aR⟩:=info_parts Ac7;have kN:∀ w:World,(Instr.makeSlice 65 (.int .i64 (l.length:Int)) (.int .i64 (l.length:Int))).run Am w = .ok (.slice (Ac ⟨w,0,Ab⟩) l.length l.length) (w.alloc (.cells (madeCells #[.int .i64 0,.int .i64 0,.int .i64 0,.int .i64 0] (l.length * 4)) 203)):=by
  intro w
  have:=run_make (P:=Am) w 65 203 i0 _ underlying65 aQ aU .i64 .i64 l.length l.length Bl Bl (by rw [aR];omega) Bl
  exact Akm
 go_enter func298,ntmps298;go_wp2;go_loopw [4] (fun i wr=>∃ k:Nat,k<=l.length/\i = .int .i64 k/\Hid (∃ (rs:List ((Task)×Unit)) (G:List Nat),rs.map (·.1)=l.take k/\Ow C8.enc 203 wr w (.slice (Ac ⟨w,0,Ab⟩) l.length l.length) (rs ++ List.replicate (l.length - k) (⟨0,0,0,0⟩,()))/\Ows C8 wr G rs/\G.Nodup /\ ∀ b∈G,w<b)/\Below w w wr) (fun i _=>l.length - (intOf i).toNat);case atStart=>exact ⟨0,Ag _,rfl,⟨[],[],rfl,by rw [List.nil_append,Nat.sub_zero];exact Ow.made C8.enc 203 w (⟨0,0,0,0⟩,()) l.length Bq (by simp [maxLen];omega) rfl rfl,.nil,List.nodup_nil,fun _ h=>by cases h⟩,Bu⟩
 case round =>
  obtain ⟨k,hk,rfl,⟨rs,G,hm,hown,hG,jH,eI⟩,hb⟩:=hrel;have bK:rs.length=k:=by have:=congrArg List.length hm;simpa [Nat.min_eq_left hk] using this
  by_cases aA:k<l.length
  ·obtain ⟨b,o,s,rfl,aJ,hr,c0,c1,c2,c3⟩:=(h.below hb).task aA;have hx:∀ W,Below wr wr W->C8.rd W W l[k] s:=fun W hW=>C8.rd_more (C8.rd_below (C8.rd_more hr hb.size) hW) hW.size;have aE:(rs ++ List.replicate (l.length - k) ((⟨0,0,0,0⟩,()):(Task)×Unit)).length=l.length:=by simp;omega
   have Hm:=Br hm;have Hrl:=Br bK;clear hm bK;go_wp2_with (go_at_call 308;refine (Ac5 l[k] s _ (dV k aA) (hx _ (by first | exact Bs _ _ | exact (Bs _ _).drew))).mono ?_;rintro e w1 ⟨s1,F1,rfl,o1,n1,aG⟩;have bM:=hown.below aG;have hf:=bM.free;obtain ⟨d0,d1,d2,d3⟩:=bM.c_task (k:=k) (by rw [aE];exact aA))
   have hp:=Ow.put bM aE k aA (l[k],s1);have Hp:=Bld.lay hG jH eI aG (r:=(l[k],s1)) o1 n1 (Ai (hown.blk).2 (Bt _)) hp.2;rw [M9 rs _ k l.length Hrl.out aA] at hp;refine ⟨⟨k+1,Bl,by go_num,⟨rs ++ [(l[k],s1)],G ++ F1,?_,hp.1,Hp.1,Hp.2.1,Hp.2.2⟩,(hb.trans (aG.mono hb.size)).grown hp.2 (Ah hb.size aG.size) (fun g hg=>by simp at hg;omega)⟩,clM⟩;rw [List.map_append,Hm.out,Cp l k aA];rfl
  ·have aZ:k=l.length:=Bl;subst aZ;rw [Nat.sub_self,List.replicate_zero,List.append_nil] at hown;go_wp2;go_ret;rw [List.take_length] at hm;have hB:Bld C8 203 wr w (.slice (Ac ⟨w,0,Ab⟩) l.length l.length) rs:=⟨G,by rw [<-bK];exact (by rw [bK];exact hown),hG,jH,fun b aX=>⟨Nat.le_of_lt (eI b aX),by simp [Value.ownBlock];have:=eI b aX;omega⟩⟩
   obtain ⟨F,h1,h2⟩:=hB.owl hm;exact ⟨⟨Ac ⟨w,0,Ab⟩,l.length,l.length⟩,F,rfl,h1,h2,hb⟩
theorem W6 (l:List (Task)) (s:Sl) (F:List Nat) (k:Int) (w:World) (hl:Ek D7 l<=2000000) (cE:0<=k) (fC:k<=1000000000) (h:OwL C8 w F s.v l) :
  Calls Am 265 #[Aa s.a s.n s.c,J U k] w (Mu (Dt.list C8) F (mkL Ly Dw k l) s (k+(C9 Dw l:Nat)) w):=by
 obtain ⟨A,n,c⟩:=s;obtain ⟨A',c',hv,-⟩:=h.form;simp only [Sl.v,Value.slice.injEq] at hv;obtain ⟨rfl,rfl,rfl⟩:=hv;have bS:l.length<=2000000:=Ah (Ck _ _) hl;have cG:∀ j,C9 Dw (l.take j)<=26000000:=fun j=>by
  exact Anh
 have Hnl:=Br cG;clear cG hl;go_enter func265,ntmps265;go_wp2;go_loopw [1,5] (fun q i wr=>∃ (j:Nat) (m:Int),j<=l.length/\i = J U j/\q = J U m/\Hid (m=k+(C9 Dw (l.take j):Nat))/\OwL C8 wr F (Aa A l.length c) (mkL Ly Dw k (l.take j) ++ l.drop j)/\Chg F w wr) (fun _ i _=>l.length - (intOf i).toNat);case atStart=>exact ⟨0,k,Ag _,rfl,rfl,by show k=_;simp [C9],h,Chg.refl _ _⟩
 case round =>
  obtain ⟨j,m,hj,rfl,rfl,hm,ho,hc⟩:=hrel;have hm':=hm.out;have fQ:=Hnl.out j;have cL:0<=m:=Bl;have bZ:m<=1026000000:=Bl;clear hm' fQ;by_cases aA:j<l.length
  ·have aB:(j:Int)<(l.length:Int):=Bl;have aE:(mkL Ly Dw k (l.take j) ++ l.drop j).length=l.length:=by simp [Em];omega
   obtain ⟨b,o,rs,s,G1,Fx,G2,rfl,hF,cV,f0⟩:=ho.foc (j:=j) (by rw [aE];exact aA);rw [Na Ly Dw k l j aA] at f0;subst hF;have Hrm:=Br cV;clear cV ho;obtain ⟨c0,c1,c2,c3⟩:=f0.task;have fr0:=f0.free;go_wp2;obtain ⟨f1,g1⟩:=f0.put ⟨m,m+1,m+1+1,m+1+1+1⟩ 0 [J U (m),J U (m+1),J U (m+1+1),J U (m+1+1+1)] (by show 0+4<=4;omega) (fun i hi=>match i,hi with | 0,_=>rfl | 1,_=>rfl | 2,_=>rfl | 3,_=>rfl | i+4,hi=>absurd hi Bo) (fun i hi hx=>match i,hi,hx with | 0,_,hx=>absurd hx Bo | 1,_,hx=>absurd hx Bo | 2,_,hx=>absurd hx Bo | 3,_,hx=>absurd hx Bo | i+4,hi,_=>absurd hi (by show ¬ (i+4<4);omega)) (fun _ hh=>hh);have pL:=hm.out;have hown:=f1.owl Hrm.out;have dU:⟨m,m+1,m+1+1,m+1+1+1⟩=Ly m l[j]:=rfl;have bW:=O8 Ly Dw k l j aA;rw [<-hm.out] at bW;rw [dU,bW] at hown;have cN:(C9 Dw (l.take (j+1)):Nat)=C9 Dw (l.take j)+Dw l[j]:=Ew _ _ _ aA;refine ⟨⟨j+1,m+1+1+1+1,Bl,by go_num,rfl,?_,hown,(hc).trans (g1.mono (fun _ hh=>O7 hh))⟩,clM⟩;have eW:Dw l[j]=4:=rfl;show m+1+1+1+1=_;rw [cN,eW];push_cast;omega
  ·exact Aiq
theorem W7 (l:List (Task)) (s:Sl) (k:Int) (w:World) (hl:Ek D7 l<=2000000) (cE:0<=k) (fC:k<=1000000000) (h:RdL C8 w w s.v (mkL Ly Dw k l)) :
  Calls Am 268 #[Aa s.a s.n s.c,J U k] w fun e w'=>e = .returned (J U (k+(C9 Dw l:Nat)))/\Below w w w':=by
 obtain ⟨A,n,c⟩:=s;obtain ⟨A',c',hv,-⟩:=h.form;simp only [Sl.v,Value.slice.injEq,Em] at hv;obtain ⟨rfl,rfl,rfl⟩:=hv;have bS:l.length<=2000000:=Ah (Ck _ _) hl;have cG:∀ j,C9 Dw (l.take j)<=26000000:=fun j=>by
  exact Anh
 have aL:∀ (wr:World) (j:Nat) (hj:j<l.length) (m:Int),Below w w wr->m=k+(C9 Dw (l.take j):Nat) -> ∃ b o,∃ s:Unit,A=Ac ⟨b,o,Ab⟩/\b<w.heap.size/\C8.rd wr w (Ly m l[j]) s/\wr.cell? ⟨b,o+j * 4,Ab⟩=Ac (J U (m))/\wr.cell? ⟨b,o+j * 4+1,Ab⟩=Ac (J U (m+1))/\wr.cell? ⟨b,o+j * 4+2,Ab⟩=Ac (J U (m+1+1))/\wr.cell? ⟨b,o+j * 4+3,Ab⟩=Ac (J U (m+1+1+1)):=by
  intro wr j hj m hb hm;obtain ⟨b,o,s,h1,h2,h3,h4⟩:=(h.below hb).task (k:=j) (by rw [Em];exact hj);exact Ai5
 have Hc:=Br aL;have Hnl:=Br cG;clear aL cG hl;go_enter func268,ntmps268;go_wp2;go_loopw [1,5] (fun q i wr=>∃ (j:Nat) (m:Int),j<=l.length/\i = J U j/\q = J U m/\Hid (m=k+(C9 Dw (l.take j):Nat))/\Below w w wr) (fun _ i _=>l.length - (intOf i).toNat);case atStart=>exact ⟨0,k,Ag _,rfl,rfl,by show k=_;simp [C9],Bs _ _⟩
 case round =>
  obtain ⟨j,m,hj,rfl,rfl,hm,hb⟩:=hrel;have hm':=hm.out;have fQ:=Hnl.out j;have cL:0<=m:=Bl;have bZ:m<=1026000000:=Bl;clear hm' fQ;by_cases aA:j<l.length
  ·have aB:(j:Int)<(l.length:Int):=Bl;obtain ⟨b,o,s,rfl,aJ,nC,c0,c1,c2,c3⟩:=Hc.out wr j aA m hb hm.out;go_wp2;have cN:(C9 Dw (l.take (j+1)):Nat)=C9 Dw (l.take j)+Dw l[j]:=Ew _ _ _ aA;refine ⟨⟨j+1,m+1+1+1+1,Bl,by go_num,rfl,?_,hb⟩,clM⟩;have eW:Dw l[j]=4:=rfl;have pL:=hm.out;show m+1+1+1+1=_;rw [cN,eW];push_cast;omega
  ·exact Ai8
structure DBox (b:Nat) (cs:List Value) (w:World):Prop where
 cell:∀ (j:Nat) (u:Value),cs[j]? = some u->w.cell? ⟨b,j,none⟩=some u
 free:∀ j,w.frozen? ⟨b,j,none⟩=false
 lt:b<w
theorem DBox.new (T:TypeId) (cs:List Value) (w:World) {b:Nat} (hb:b=w):DBox b cs (w.alloc (.cells cs.toArray T)):=by
 subst hb;refine ⟨fun j u hu=>?_,fun j=>by simp [go_sem],Bo⟩
 have:=Qt w cs.toArray T rfl j u (by simpa using hu)
 have e:((⟨w,0,Ab⟩:Addr).add j)=⟨w,j,Ab⟩:=Amu
 rw [e] at this;exact this
theorem DBox.keep {b:Nat} {cs:List Value} {w w':World} (h:DBox b cs w) (hs:w.heap.size<=w'.heap.size) (hk:∀ j,w'.cell? ⟨b,j,Ab⟩=w.cell? ⟨b,j,Ab⟩) (hf:∀ j,w'.frozen? ⟨b,j,Ab⟩=w.frozen? ⟨b,j,Ab⟩):DBox b cs w' :=
 ⟨fun j u hu=>(hk j).trans (h.cell j u hu),fun j=>(hf j).trans (h.free j),Ai h.lt hs⟩
theorem DBox.below {b:Nat} {cs:List Value} {w w':World} (h:DBox b cs w) (hb:Below w w w'):DBox b cs w' :=
 h.keep hb.size (fun j=>hb.cell (p:=⟨b,j,Ab⟩) h.lt) (fun j=>hb.frozen (p:=⟨b,j,Ab⟩) h.lt)
theorem DBox.chg {F:List Nat} {b:Nat} {cs:List Value} {w w':World} (h:DBox b cs w) (hc:Chg F w w') (hn:b∉F):DBox b cs w' :=
 h.keep hc.size (fun j=>hc.cell (p:=⟨b,j,Ab⟩) h.lt hn) (fun j=>hc.frozen (p:=⟨b,j,Ab⟩) h.lt hn)
theorem bx1 (w:World) (T1:TypeId) (c1:List Value):∃ W,Hid (W=(w.alloc (.cells c1.toArray T1)))/\DBox (w.heap.size) c1 W/\Below w w W :=
 ⟨_,Br rfl,DBox.new T1 c1 w Bo,by repeat (first | exact Bs _ _ | refine Ae ?_ Bp _)⟩
theorem bx2 (w:World) (T1:TypeId) (c1:List Value) (T2:TypeId) (c2:List Value):∃ W,Hid (W=((w.alloc (.cells c1.toArray T1)).alloc (.cells c2.toArray T2)))/\DBox (w.heap.size) c1 W/\DBox (w+1) c2 W/\Below w w W :=
 ⟨_,Br rfl,(DBox.new T1 c1 w Bo).below (Bu),DBox.new T2 c2 (w.alloc (.cells c1.toArray T1)) Bo,by repeat (first | exact Bs _ _ | refine Ae ?_ Bp _)⟩
theorem bx3 (w:World) (T1:TypeId) (c1:List Value) (T2:TypeId) (c2:List Value) (T3:TypeId) (c3:List Value):∃ W,Hid (W=(((w.alloc (.cells c1.toArray T1)).alloc (.cells c2.toArray T2)).alloc (.cells c3.toArray T3)))/\DBox (w.heap.size) c1 W/\DBox (w+1) c2 W/\DBox (w+1+1) c3 W/\Below w w W :=
 ⟨_,Br rfl,((DBox.new T1 c1 w Bo).below (Bu)).below (Bu),(DBox.new T2 c2 (w.alloc (.cells c1.toArray T1)) Bo).below (Bu),DBox.new T3 c3 ((w.alloc (.cells c1.toArray T1)).alloc (.cells c2.toArray T2)) Bo,by repeat (first | exact Bs _ _ | refine Ae ?_ Bp _)⟩
theorem bx4 (w:World) (T1:TypeId) (c1:List Value) (T2:TypeId) (c2:List Value) (T3:TypeId) (c3:List Value) (T4:TypeId) (c4:List Value):∃ W,Hid (W=((((w.alloc (.cells c1.toArray T1)).alloc (.cells c2.toArray T2)).alloc (.cells c3.toArray T3)).alloc (.cells c4.toArray T4)))/\DBox (w.heap.size) c1 W/\DBox (w+1) c2 W/\DBox (w+1+1) c3 W/\DBox (w+1+1+1) c4 W/\Below w w W :=
 ⟨_,Br rfl,(((DBox.new T1 c1 w Bo).below (Bu)).below (Bu)).below (Bu),((DBox.new T2 c2 (w.alloc (.cells c1.toArray T1)) Bo).below (Bu)).below (Bu),(DBox.new T3 c3 ((w.alloc (.cells c1.toArray T1)).alloc (.cells c2.toArray T2)) Bo).below (Bu),DBox.new T4 c4 (((w.alloc (.cells c1.toArray T1)).alloc (.cells c2.toArray T2)).alloc (.cells c3.toArray T3)) Bo,by repeat (first | exact Bs _ _ | refine Ae ?_ Bp _)⟩
theorem bx5 (w:World) (T1:TypeId) (c1:List Value) (T2:TypeId) (c2:List Value) (T3:TypeId) (c3:List Value) (T4:TypeId) (c4:List Value) (T5:TypeId) (c5:List Value):∃ W,Hid (W=(((((w.alloc (.cells c1.toArray T1)).alloc (.cells c2.toArray T2)).alloc (.cells c3.toArray T3)).alloc (.cells c4.toArray T4)).alloc (.cells c5.toArray T5)))/\DBox (w.heap.size) c1 W/\DBox (w+1) c2 W/\DBox (w+1+1) c3 W/\DBox (w+1+1+1) c4 W/\DBox (w+1+1+1+1) c5 W/\Below w w W :=
 ⟨_,Br rfl,((((DBox.new T1 c1 w Bo).below (Bu)).below (Bu)).below (Bu)).below (Bu),(((DBox.new T2 c2 (w.alloc (.cells c1.toArray T1)) Bo).below (Bu)).below (Bu)).below (Bu),((DBox.new T3 c3 ((w.alloc (.cells c1.toArray T1)).alloc (.cells c2.toArray T2)) Bo).below (Bu)).below (Bu),(DBox.new T4 c4 (((w.alloc (.cells c1.toArray T1)).alloc (.cells c2.toArray T2)).alloc (.cells c3.toArray T3)) Bo).below (Bu),DBox.new T5 c5 ((((w.alloc (.cells c1.toArray T1)).alloc (.cells c2.toArray T2)).alloc (.cells c3.toArray T3)).alloc (.cells c4.toArray T4)) Bo,by repeat (first | exact Bs _ _ | refine Ae ?_ Bp _)⟩
theorem DBox.g1 {b:Nat} {w:World} {u0:Value} (h:DBox b [u0] w):w.cell? ⟨b,0,Ab⟩=Ac u0/\b<w :=
 ⟨h.cell 0 _ rfl,h.lt⟩
theorem DBox.g4 {b:Nat} {w:World} {u0 u1 u2 u3:Value} (h:DBox b [u0,u1,u2,u3] w):w.cell? ⟨b,0,Ab⟩=Ac u0/\w.cell? ⟨b,1,Ab⟩=Ac u1/\w.cell? ⟨b,2,Ab⟩=Ac u2/\w.cell? ⟨b,3,Ab⟩=Ac u3/\b<w :=
 ⟨h.cell 0 _ rfl,h.cell 1 _ rfl,h.cell 2 _ rfl,h.cell 3 _ rfl,h.lt⟩
theorem DBox.g5 {b:Nat} {w:World} {u0 u1 u2 u3 u4:Value} (h:DBox b [u0,u1,u2,u3,u4] w):w.cell? ⟨b,0,Ab⟩=Ac u0/\w.cell? ⟨b,1,Ab⟩=Ac u1/\w.cell? ⟨b,2,Ab⟩=Ac u2/\w.cell? ⟨b,3,Ab⟩=Ac u3/\w.cell? ⟨b,4,Ab⟩=Ac u4/\b<w :=
 ⟨h.cell 0 _ rfl,h.cell 1 _ rfl,h.cell 2 _ rfl,h.cell 3 _ rfl,h.cell 4 _ rfl,h.lt⟩
theorem DBox.g6 {b:Nat} {w:World} {u0 u1 u2 u3 u4 u5:Value} (h:DBox b [u0,u1,u2,u3,u4,u5] w):w.cell? ⟨b,0,Ab⟩=Ac u0/\w.cell? ⟨b,1,Ab⟩=Ac u1/\w.cell? ⟨b,2,Ab⟩=Ac u2/\w.cell? ⟨b,3,Ab⟩=Ac u3/\w.cell? ⟨b,4,Ab⟩=Ac u4/\w.cell? ⟨b,5,Ab⟩=Ac u5/\b<w :=
 ⟨h.cell 0 _ rfl,h.cell 1 _ rfl,h.cell 2 _ rfl,h.cell 3 _ rfl,h.cell 4 _ rfl,h.cell 5 _ rfl,h.lt⟩
theorem DBox.g7 {b:Nat} {w:World} {u0 u1 u2 u3 u4 u5 u6:Value} (h:DBox b [u0,u1,u2,u3,u4,u5,u6] w):w.cell? ⟨b,0,Ab⟩=Ac u0/\w.cell? ⟨b,1,Ab⟩=Ac u1/\w.cell? ⟨b,2,Ab⟩=Ac u2/\w.cell? ⟨b,3,Ab⟩=Ac u3/\w.cell? ⟨b,4,Ab⟩=Ac u4/\w.cell? ⟨b,5,Ab⟩=Ac u5/\w.cell? ⟨b,6,Ab⟩=Ac u6/\b<w :=
 ⟨h.cell 0 _ rfl,h.cell 1 _ rfl,h.cell 2 _ rfl,h.cell 3 _ rfl,h.cell 4 _ rfl,h.cell 5 _ rfl,h.cell 6 _ rfl,h.lt⟩
theorem DBox.g8 {b:Nat} {w:World} {u0 u1 u2 u3 u4 u5 u6 u7:Value} (h:DBox b [u0,u1,u2,u3,u4,u5,u6,u7] w):w.cell? ⟨b,0,Ab⟩=Ac u0/\w.cell? ⟨b,1,Ab⟩=Ac u1/\w.cell? ⟨b,2,Ab⟩=Ac u2/\w.cell? ⟨b,3,Ab⟩=Ac u3/\w.cell? ⟨b,4,Ab⟩=Ac u4/\w.cell? ⟨b,5,Ab⟩=Ac u5/\w.cell? ⟨b,6,Ab⟩=Ac u6/\w.cell? ⟨b,7,Ab⟩=Ac u7/\b<w :=
 ⟨h.cell 0 _ rfl,h.cell 1 _ rfl,h.cell 2 _ rfl,h.cell 3 _ rfl,h.cell 4 _ rfl,h.cell 5 _ rfl,h.cell 6 _ rfl,h.cell 7 _ rfl,h.lt⟩
theorem DBox.g11 {b:Nat} {w:World} {u0 u1 u2 u3 u4 u5 u6 u7 u8 u9 u10:Value} (h:DBox b [u0,u1,u2,u3,u4,u5,u6,u7,u8,u9,u10] w):w.cell? ⟨b,0,Ab⟩=Ac u0/\w.cell? ⟨b,1,Ab⟩=Ac u1/\w.cell? ⟨b,2,Ab⟩=Ac u2/\w.cell? ⟨b,3,Ab⟩=Ac u3/\w.cell? ⟨b,4,Ab⟩=Ac u4/\w.cell? ⟨b,5,Ab⟩=Ac u5/\w.cell? ⟨b,6,Ab⟩=Ac u6/\w.cell? ⟨b,7,Ab⟩=Ac u7/\w.cell? ⟨b,8,Ab⟩=Ac u8/\w.cell? ⟨b,9,Ab⟩=Ac u9/\w.cell? ⟨b,10,Ab⟩=Ac u10/\b<w :=
 ⟨h.cell 0 _ rfl,h.cell 1 _ rfl,h.cell 2 _ rfl,h.cell 3 _ rfl,h.cell 4 _ rfl,h.cell 5 _ rfl,h.cell 6 _ rfl,h.cell 7 _ rfl,h.cell 8 _ rfl,h.cell 9 _ rfl,h.cell 10 _ rfl,h.lt⟩
theorem Dt.set4 {α:Type} (d:Dt α) {w:World} {F:List Nat} {x:α} {s:d.S} {b o0 o1 o2 o3:Nat} {u0 u1 u2 u3:Value} (h:d.ow w F x s) (hb:b∉F) :
  d.ow ((((w.setCell ⟨b,o0,Ab⟩ u0).setCell ⟨b,o1,Ab⟩ u1).setCell ⟨b,o2,Ab⟩ u2).setCell ⟨b,o3,Ab⟩ u3) F x s :=
 d.ow_set (d.ow_set (d.ow_set (d.ow_set h (a:=⟨b,o0,Ab⟩) hb u0) (a:=⟨b,o1,Ab⟩) hb u1) (a:=⟨b,o2,Ab⟩) hb u2) (a:=⟨b,o3,Ab⟩) hb u3
def Eg (es:List (Nat×Nat)) (T t:Nat):List Nat:=(List.range T).filter fun s=>decide ((s,t)∈es)
def Gj (es:List (Nat×Nat)) (T t:Nat):List Nat:=(List.range T).filter fun s=>decide ((t,s)∈es)
def I8 (l:List (Nat×Nat)) (q:Nat×Nat) (x:Nat):List Nat:=if q∈l then [x] else []
theorem Y0 (es:List (Nat×Nat)) (k t:Nat):Eg es (k+1) t=Eg es k t ++ I8 es (k,t) k:=by
 unfold Eg I8;rw [List.range_succ,List.filter_append];by_cases h:(k,t)∈es<;>simp [h]
theorem Qz (es:List (Nat×Nat)) (k t:Nat):Gj es (k+1) t=Gj es k t ++ I8 es (t,k) k:=by
 unfold Gj I8;rw [List.range_succ,List.filter_append];by_cases h:(t,k)∈es<;>simp [h]
theorem I9 (es:List (Nat×Nat)) (T t:Nat):(Eg es T t).length<=T:=by
 have:=List.length_filter_le (fun s=>decide ((s,t)∈es)) (List.range T)
 simpa [Eg] using this
theorem Mo (es:List (Nat×Nat)) (T t:Nat):(Gj es T t).length<=T:=by
 have:=List.length_filter_le (fun s=>decide ((t,s)∈es)) (List.range T)
 simpa [Gj] using this
theorem Xq (l:List (Nat×Nat)) (q:Nat×Nat) (x:Nat):(I8 l q x).length<=1:=by
 unfold I8;split<;>simp
theorem Xr {l l':List (Nat×Nat)} {q:Nat×Nat} {x:Nat} (h:l'=l ++ [q]) (hq:q∉l):I8 l' q x=I8 l q x ++ [x]:=by
 subst h;simp [I8,hq]
theorem Aa7 {l l':List (Nat×Nat)} {q e:Nat×Nat} {x:Nat} (h:l'=l ++ [e]) (hq:e≠q):I8 l' q x=I8 l q x:=by
 subst h;simp [I8,Ne.symm hq]
theorem Aen {p:Plan} (he:Hu p) (hn:p.edges.Nodup) {j:Nat} (hj:j<p.edges.length):(p.edges[j].fr.toNat,p.edges[j].to.toNat)∉esL (p.edges.take j):=by
 intro hm;simp only [esL,List.mem_map] at hm;obtain ⟨e,qX,hee⟩:=hm;obtain ⟨i,hi,rfl⟩:=List.getElem_of_mem qX;have vJ:i<j:=by
  rw [List.length_take] at hi;omega
 rw [List.getElem_take] at hee;have h1:=Ig he (k:=i) Bl;have h2:=Ig he hj;simp only [Prod.mk.injEq] at hee;have e1:p.edges[i].fr=p.edges[j].fr:=Bl;have e2:p.edges[i].to=p.edges[j].to:=Bl;have:p.edges[i]=p.edges[j]:=by
  cases hx:p.edges[i];cases hy:p.edges[j];rw [hx,hy] at e1 e2;simp only at e1 e2;rw [e1,e2]
 exact List.pairwise_iff_getElem.1 hn i j Bl hj vJ this
theorem Ol (p:Plan) (ve:Value) (t:Nat) (w:World) (hm:E5 p=true) (he:Hu p) (hn:p.edges.Nodup) (h:Rd He w w ve p.edges) :
  Calls Am 289 #[G9 p ve,J U (t:Int)] w fun e w'=>∃ v,e = .returned v/\Ow E0 3 w' w v (Eg (Ea p) p.tasks.toNat t)/\Below w w w':=by
 obtain ⟨A,c,rfl,-⟩:=id h;obtain ⟨t1,t2⟩:=Er hm;have aE:=Fw hm;obtain ⟨T,hT⟩:=Ap (show 0<=p.tasks by omega);have HT:=Br hT;have HTn:=Br (show p.tasks.toNat=T by omega);have fR:T<=12:=Bl;clear hT;obtain ⟨j0,bX,jz0,jz1,jz2⟩:=info_parts K4;unfold G9;go_enter func289,ntmps289;go_wp2;go_loopw [5,6] (fun vl i wr=>∃ k:Nat,k<=T/\i = J U k/\Ow E0 3 wr (w+1) vl (Eg (Ea p) k t)/\BoxAt w p (Aa A p.edges.length c) wr/\Below w w wr) (fun _ i _=>T - (intOf i).toNat);case atStart =>
  exact Aj2
 case round =>
  obtain ⟨k,hk,rfl,ho,D,hb⟩:=hrel;obtain ⟨x0,x1,x2,x3,x4,xs⟩:=D.cells;by_cases aA:k<T
  ·have aB:(k:Int)<p.tasks:=by rw [HT.out];omega
   obtain ⟨wo,rfl⟩:∃ wo:World,wo=wr:=⟨_,rfl⟩
   go_wp2;clear x0 x1 x2 x3 x4 xs;go_loopw [5,7] (fun vl i wr=>∃ j:Nat,j<=p.edges.length/\i = J U j/\Ow E0 3 wr (w+1) vl (Eg (Ea p) k t ++ I8 (esL (p.edges.take j)) (k,t) k)/\BoxAt w p (Aa A p.edges.length c) wr/\Below w w wr) (fun _ i _=>p.edges.length - (intOf i).toNat);case atStart=>exact ⟨0,Ag _,rfl,by simpa [I8,esL] using ho,D,hb⟩
   case round =>
    clear ho D hb;obtain ⟨j,hj,rfl,ho,D,hb⟩:=hrel;obtain ⟨x0,x1,x2,x3,x4,xs⟩:=D.cells;by_cases dK:j<p.edges.length
    ·have jF:(j:Int)<(p.edges.length:Int):=Bl;obtain ⟨b,o,rfl,aJ,c0,c1⟩:=(h.below hb).edge dK;obtain ⟨f1,f2,f3,f4⟩:=Ig he dK;have dE:=Br (show esL (p.edges.take (j+1))=esL (p.edges.take j) ++ [(p.edges[j].fr.toNat,p.edges[j].to.toNat)] by unfold esL;rw [Cp _ j dK,List.map_append];rfl);have jE:=Br (Aen he hn dK);generalize p.edges[j].fr=fx at *
     generalize p.edges[j].to=tx at *
     obtain ⟨a,rfl⟩:=Ap f1;obtain ⟨d,rfl⟩:=Ap f3;simp only [Ao] at dE jE;by_cases hxy:a=k/\d=t
     ·obtain ⟨e1,e2⟩:=hxy;subst e1;subst e2;have S:=Br (Xr (l:=esL (p.edges.take j)) (l':=esL (p.edges.take (j+1))) (q:=(a,d)) (x:=a) dE.out jE.out);have Hl:=Br (show (Eg (Ea p) a d ++ I8 (esL (p.edges.take j)) (a,d) a).length<=3000000 by
       have h1:=I9 (Ea p) a d;have h2:=Xq (esL (p.edges.take j)) (a,d) a;rw [Bd];omega)
      have mL:((a:Int) == (a:Int))=true:=Bo;have hab2:((d:Int) == (d:Int))=true:=Bo;have ha:Hid (∀ w:World,Below w w (w.alloc (.cells #[J U (a:Int)] 3))):=fun w=>Bu;go_wp2_with (at_builtin;refine Ci _ E0 Bq rfl (.tmp 40) (.tmp 42) rfl underlying26 bX jz0 jz1 jz2 rfl (l:=Eg (Ea p) a d ++ I8 (esL (p.edges.take j)) (a,d) a) rfl (ho.below (ha.out wr)) rfl (Rd.one E0 _ _ a rfl rfl 1 (Bt _) (Nat.lt_succ_self _)) Hl.out Bo Bq (by simp;omega) ?_;intro v5 w5 o5 g5 _)
      have D5:=(D.below (ha.out wr)).far g5 (fun e=>by have:=ho.within _ e.symm;omega);have aX:=Bv hb (ha.out wr);have W5:=aX.grown g5 aX.size (fun g hg=>by have:=ho.within _ hg;omega);refine ⟨⟨j+1,Bl,by go_num,?_,D5,W5⟩,clM⟩;rw [S.out,<-List.append_assoc];exact o5
     ·have S:=Br (Aa7 (l:=esL (p.edges.take j)) (l':=esL (p.edges.take (j+1))) (q:=(k,t)) (e:=(a,d)) (x:=k) dE.out (fun e=>hxy (by simp only [Prod.mk.injEq] at e;omega)));have fS:∀ w',Below wr wr w'->(∃ j_1:Nat,j_1<=p.edges.length/\Value.int .i64 ((j:Int)+1)=Value.int .i64 (j_1:Int)/\Ow E0 3 w' (w+1) u5 (Eg (Ea p) k t ++ I8 (esL (p.edges.take j_1)) (k,t) k)/\BoxAt w p (Aa (Ac ⟨b,o,Ab⟩) p.edges.length c) w'/\Below w w w'):=fun w' nQ=>⟨j+1,Bl,by go_num,by rw [S.out];exact ho.below nQ,D.below nQ,Bv hb nQ⟩
      have Hout:=Br fS;clear fS;by_cases hfa:a=k
      ·have mL:((a:Int) == ((k:Nat):Int))=true:=by simp [hfa]
       have hdb:((d:Int) == ((t:Nat):Int))=false:=beq_eq_false_iff_ne.2 Bl;exact Aky
      ·have mL:((a:Int) == ((k:Nat):Int))=false:=beq_eq_false_iff_ne.2 Bl;exact Aky
    ·have jF:¬ (j:Int)<(p.edges.length:Int):=Bl;have hj':j=p.edges.length:=Bl;subst hj';rw [List.take_length] at ho;have S:=Br (Y0 (Ea p) k t);exact Am1
  ·exact Ak3
theorem Uz (p:Plan) (ve:Value) (t:Nat) (w:World) (hm:E5 p=true) (he:Hu p) (hn:p.edges.Nodup) (h:Rd He w w ve p.edges) :
  Calls Am 294 #[G9 p ve,J U (t:Int)] w fun e w'=>∃ v,e = .returned v/\Ow E0 3 w' w v (Gj (Ea p) p.tasks.toNat t)/\Below w w w':=by
 obtain ⟨A,c,rfl,-⟩:=id h;obtain ⟨t1,t2⟩:=Er hm;have aE:=Fw hm;obtain ⟨T,hT⟩:=Ap (show 0<=p.tasks by omega);have HT:=Br hT;have HTn:=Br (show p.tasks.toNat=T by omega);have fR:T<=12:=Bl;clear hT;obtain ⟨j0,bX,jz0,jz1,jz2⟩:=info_parts K4;unfold G9;go_enter func294,ntmps294;go_wp2;go_loopw [5,6] (fun vl i wr=>∃ k:Nat,k<=T/\i = J U k/\Ow E0 3 wr (w+1) vl (Gj (Ea p) k t)/\BoxAt w p (Aa A p.edges.length c) wr/\Below w w wr) (fun _ i _=>T - (intOf i).toNat);case atStart =>
  exact Aj2
 case round =>
  obtain ⟨k,hk,rfl,ho,D,hb⟩:=hrel;obtain ⟨x0,x1,x2,x3,x4,xs⟩:=D.cells;by_cases aA:k<T
  ·have aB:(k:Int)<p.tasks:=by rw [HT.out];omega
   obtain ⟨wo,rfl⟩:∃ wo:World,wo=wr:=⟨_,rfl⟩
   go_wp2;clear x0 x1 x2 x3 x4 xs;go_loopw [5,7] (fun vl i wr=>∃ j:Nat,j<=p.edges.length/\i = J U j/\Ow E0 3 wr (w+1) vl (Gj (Ea p) k t ++ I8 (esL (p.edges.take j)) (t,k) k)/\BoxAt w p (Aa A p.edges.length c) wr/\Below w w wr) (fun _ i _=>p.edges.length - (intOf i).toNat);case atStart=>exact ⟨0,Ag _,rfl,by simpa [I8,esL] using ho,D,hb⟩
   case round =>
    clear ho D hb;obtain ⟨j,hj,rfl,ho,D,hb⟩:=hrel;obtain ⟨x0,x1,x2,x3,x4,xs⟩:=D.cells;by_cases dK:j<p.edges.length
    ·have jF:(j:Int)<(p.edges.length:Int):=Bl;obtain ⟨b,o,rfl,aJ,c0,c1⟩:=(h.below hb).edge dK;obtain ⟨f1,f2,f3,f4⟩:=Ig he dK;have dE:=Br (show esL (p.edges.take (j+1))=esL (p.edges.take j) ++ [(p.edges[j].fr.toNat,p.edges[j].to.toNat)] by unfold esL;rw [Cp _ j dK,List.map_append];rfl);have jE:=Br (Aen he hn dK);generalize p.edges[j].fr=fx at *
     generalize p.edges[j].to=tx at *
     obtain ⟨a,rfl⟩:=Ap f1;obtain ⟨d,rfl⟩:=Ap f3;simp only [Ao] at dE jE;by_cases hxy:d=k/\a=t
     ·obtain ⟨e1,e2⟩:=hxy;subst e1;subst e2;have S:=Br (Xr (l:=esL (p.edges.take j)) (l':=esL (p.edges.take (j+1))) (q:=(a,d)) (x:=d) dE.out jE.out);have Hl:=Br (show (Gj (Ea p) d a ++ I8 (esL (p.edges.take j)) (a,d) d).length<=3000000 by
       have h1:=Mo (Ea p) d a;have h2:=Xq (esL (p.edges.take j)) (a,d) d;rw [Bd];omega)
      have mL:((d:Int) == (d:Int))=true:=Bo;have hab2:((a:Int) == (a:Int))=true:=Bo;have ha:Hid (∀ w:World,Below w w (w.alloc (.cells #[J U (d:Int)] 3))):=fun w=>Bu;go_wp2_with (at_builtin;refine Ci _ E0 Bq rfl (.tmp 40) (.tmp 42) rfl underlying26 bX jz0 jz1 jz2 rfl (l:=Gj (Ea p) d a ++ I8 (esL (p.edges.take j)) (a,d) d) rfl (ho.below (ha.out wr)) rfl (Rd.one E0 _ _ d rfl rfl 1 (Bt _) (Nat.lt_succ_self _)) Hl.out Bo Bq (by simp;omega) ?_;intro v5 w5 o5 g5 _)
      have D5:=(D.below (ha.out wr)).far g5 (fun e=>by have:=ho.within _ e.symm;omega);have aX:=Bv hb (ha.out wr);have W5:=aX.grown g5 aX.size (fun g hg=>by have:=ho.within _ hg;omega);refine ⟨⟨j+1,Bl,by go_num,?_,D5,W5⟩,clM⟩;rw [S.out,<-List.append_assoc];exact o5
     ·have S:=Br (Aa7 (l:=esL (p.edges.take j)) (l':=esL (p.edges.take (j+1))) (q:=(t,k)) (e:=(a,d)) (x:=k) dE.out (fun e=>hxy (by simp only [Prod.mk.injEq] at e;omega)));have fS:∀ w',Below wr wr w'->(∃ j_1:Nat,j_1<=p.edges.length/\Value.int .i64 ((j:Int)+1)=Value.int .i64 (j_1:Int)/\Ow E0 3 w' (w+1) u5 (Gj (Ea p) k t ++ I8 (esL (p.edges.take j_1)) (t,k) k)/\BoxAt w p (Aa (Ac ⟨b,o,Ab⟩) p.edges.length c) w'/\Below w w w'):=fun w' nQ=>⟨j+1,Bl,by go_num,by rw [S.out];exact ho.below nQ,D.below nQ,Bv hb nQ⟩
      have Hout:=Br fS;clear fS;by_cases hfa:a=t
      ·have mL:((a:Int) == ((t:Nat):Int))=true:=by simp [hfa]
       have hdb:((d:Int) == ((k:Nat):Int))=false:=beq_eq_false_iff_ne.2 Bl;exact Aky
      ·have mL:((a:Int) == ((t:Nat):Int))=false:=beq_eq_false_iff_ne.2 Bl;exact Aky
    ·have jF:¬ (j:Int)<(p.edges.length:Int):=Bl;have hj':j=p.edges.length:=Bl;subst hj';rw [List.take_length] at ho;have S:=Br (Qz (Ea p) k t);exact Am1
  ·exact Ak3
theorem RdL.at1 {α:Type} {d:Dt α} {w:World} {B:Nat} {s:Sl} {l:List α} (h:RdL d w B s.v l):s.n=l.length:=by
 obtain ⟨A,c,hv,-⟩:=h.form;simp only [Sl.v,Value.slice.injEq] at hv;exact hv.2.1
structure Reply where
 code:Int
 run:Int
 task:Int
 try_:Int
deriving DecidableEq,Inhabited
@[go_sem] abbrev I0 (x:Reply) (_s:Unit):Value:=.agg #[.int .i64 x.code,.int .i64 x.run,.int .i64 x.task,.int .i64 x.try_]
abbrev Ib:Dt Reply:=Dt.flat (fun q=>[.int .i64 q.1.code,.int .i64 q.1.run,.int .i64 q.1.task,.int .i64 q.1.try_]) 4 (fun _=>rfl) (fun q u hu=>by simp at hu;rcases hu with rfl | rfl | rfl | rfl<;>rfl)
def Io (_:Reply):Nat:=0
def Aeo (x:Reply):Prop:=Wf x.code/\Wf x.run/\Wf x.task/\Wf x.try_
theorem Aa8 (x:Reply) (s:Unit) (w:World) (hl:Io x<=2000000) (h:Ib.rd w w x s) :
  Calls Am 259 #[I0 x s] w (Dv Ib I0 x w):=by
 have bG:∀ W,Below w w W->Ib.rd W W x s:=fun W hW=>Ib.rd_more (Ib.rd_below h hW) hW.size;go_enter func259,ntmps259;go_wp2;refine Aj (v:=I0 x ()) ?_ rfl ?_
 ·simp [I0,results,results259,go_sem]
 ·exact Ajf
theorem Mp (x y:Reply) (s r:Unit) (w:World) (hl:Io x<=2000000) (hl':Io y<=2000000) (h:Ib.rd w w x s) (h':Ib.rd w w y r) :
  Calls Am 54 #[I0 x s,I0 y r] w fun e w'=>e = .returned (.bool (decide (x=y)))/\Below w w w':=by
 have bG:∀ W,Below w w W->Ib.rd W W x s:=fun W hW=>Ib.rd_more (Ib.rd_below h hW) hW.size;have cC:∀ W,Below w w W->Ib.rd W W y r:=fun W hW=>Ib.rd_more (Ib.rd_below h' hW) hW.size;by_cases h0:x.code=y.code;case neg =>
  have t0:(x.code != y.code)=true:=by rw [bne_iff_ne];exact h0
  have H:=Br (show decide (x=y)=false by simp only [decide_eq_false_iff_not];intro e;exact h0 (by rw [e]));clear h0;go_enter func54,ntmps54;go_wp2;go_ret;exact ⟨Bx (by first | exact H.out.symm | rfl),by repeat (first | exact Bs _ _ | refine Ae ?_ Bp _)⟩
 have t0:(x.code != y.code)=false:=by simp [h0]
 have H0:=Br h0;clear h0;by_cases h1:x.run=y.run;case neg =>
  have t1:(x.run != y.run)=true:=by rw [bne_iff_ne];exact h1
  have H:=Br (show decide (x=y)=false by simp only [decide_eq_false_iff_not];intro e;exact h1 (by rw [e]));clear h1;go_enter func54,ntmps54;go_wp2;go_ret;exact ⟨Bx (by first | exact H.out.symm | rfl),by repeat (first | exact Bs _ _ | refine Ae ?_ Bp _)⟩
 have t1:(x.run != y.run)=false:=by simp [h1]
 have H1:=Br h1;clear h1;by_cases h2:x.task=y.task;case neg =>
  have t2:(x.task != y.task)=true:=by rw [bne_iff_ne];exact h2
  have H:=Br (show decide (x=y)=false by simp only [decide_eq_false_iff_not];intro e;exact h2 (by rw [e]));clear h2;go_enter func54,ntmps54;go_wp2;go_ret;exact ⟨Bx (by first | exact H.out.symm | rfl),by repeat (first | exact Bs _ _ | refine Ae ?_ Bp _)⟩
 have t2:(x.task != y.task)=false:=by simp [h2]
 have H2:=Br h2;clear h2;by_cases h3:x.try_=y.try_;case neg =>
  have t3:(x.try_ != y.try_)=true:=by rw [bne_iff_ne];exact h3
  have H:=Br (show decide (x=y)=false by simp only [decide_eq_false_iff_not];intro e;exact h3 (by rw [e]));clear h3;go_enter func54,ntmps54;go_wp2;go_ret;exact ⟨Bx (by first | exact H.out.symm | rfl),by repeat (first | exact Bs _ _ | refine Ae ?_ Bp _)⟩
 have t3:(x.try_ != y.try_)=false:=by simp [h3]
 have H3:=Br h3;clear h3;have H:=Br (show decide (x=y)=true by
  simp only [decide_eq_true_eq];have hh:=And.intro H0.out (And.intro H1.out (And.intro H2.out H3.out));obtain ⟨e0,e1,e2,e3⟩:=hh;cases x;cases y;simp only at e0 e1 e2 e3;subst e0 e1 e2 e3;rfl)
 go_enter func54,ntmps54;go_wp2;go_ret;exact ⟨Bx (by first | exact H.out.symm | rfl),by repeat (first | exact Bs _ _ | refine Ae ?_ Bp _)⟩
end Go.Proofs.YtecnbnbopcblgaaGreat
