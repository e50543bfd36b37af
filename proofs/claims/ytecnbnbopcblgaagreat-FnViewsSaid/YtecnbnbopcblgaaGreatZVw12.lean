/-
  The runs that are busy, the runs that are stuck (none, in a right yard), and the oldest entry that stands ready: BusyOf, StuckOf, OldestOf of the program. Tasks
-/
import Derived.Test.YtecnbnbopcblgaaGreatZVw0
import Derived.Test.YtecnbnbopcblgaaGreatZVw3
import Derived.Test.YtecnbnbopcblgaaGreatZVw5
import Derived.Test.YtecnbnbopcblgaaGreatZVw6
import Derived.Test.YtecnbnbopcblgaaGreatZVw8
import Derived.Test.YtecnbnbopcblgaaGreatZVw9
import Derived.Test.YtecnbnbopcblgaaGreatZVw10
import Derived.Test.YtecnbnbopcblgaaGreatZVw11
namespace Go.Proofs.YtecnbnbopcblgaaGreat
open Go.RowKit
set_option maxRecDepth 100000
set_option maxHeartbeats 4000000
set_option linter.unusedVariables false
set_option linter.unusedSimpArgs false
open Value renaming int->J,slice->Aa
open IntKind renaming i64->Ab
open Option renaming none->Ac,some->Ad
open Below renaming setCell->Ae
open Nat renaming zero_le->Ah,le_trans->Ai
open Go renaming bodyPost_ret->Ak
open Go.Proofs.Tryz renaming prog->An
open List renaming length_map->Au,mem_singleton->Aw,getElem_mem->Ax,nodup_append->Ay,length_append->Bd,mem_append->Bi
open World renaming size_alloc->Bj
open Go.Proofs.Tryz
def Ada (r:Run):Bool:=decide (0<Cp r.tasks 3)
def My (l:List Run):List Int:=(l.filter Ada).map (·.id)
theorem Agr {l:List Run} {k:Nat} (hk:k<l.length) (h:0<Cp l[k].tasks 3):My (l.take (k+1))=My (l.take k) ++ [l[k].id]:=by
 unfold My;rw [H7 hk (by simpa [Ada] using h),List.map_append];rfl
theorem Ahy {l:List Run} {k:Nat} (hk:k<l.length) (h:¬ 0<Cp l[k].tasks 3):My (l.take (k+1))=My (l.take k):=by
 unfold My;rw [Iq hk (by simpa [Ada] using h)]
theorem Adb (l:List Run):(My l).length<=l.length:=by
 unfold My;rw [Au];exact List.length_filter_le _ _
theorem Abe (y:Yard) (s:Sl×Sl) (w:World) (hl:Cf y<=2000000) (h:Bu.rd w w y s) :
  Calls An 23 #[Dh y s] w fun e w'=>∃ v,e = .returned v/\Ow Ii 3 w' w v (My y.runs)/\Below w w w':=by
 obtain ⟨⟨A1,n1,c1⟩,⟨A2,n2,c2⟩⟩:=s;obtain rfl:n2=y.runs.length:=RdL.at1 (s:=⟨A2,n2,c2⟩) h.2;have h2:RdL Cn w w (Aa A2 y.runs.length c2) y.runs:=h.2;have eJ:y.runs.length<=2000000:=Ai (Cv Dc _) (by unfold Cf at hl;omega);have HT:=Bq (fun k hk=>Fc (k:=k) hl hk);obtain ⟨j0,bZ,jz0,jz1,jz2⟩:=info_parts Kg;clear h hl;obtain ⟨W,aG,X,B0⟩:=bx1 w 31 [J Ab y.now,J Ab y.seq,Aa A1 n1 c1,Aa A2 y.runs.length c2];go_enter func23,ntmps23;go_wp2;rw [<-aG.out];clear aG;go_loopw [3,9] (fun vl i wr=>∃ k:Nat,k<=y.runs.length/\i = J Ab k/\Hid (Ow Ii 3 wr (w+1) vl (My (y.runs.take k)))/\Below w w wr/\w.heap.size<wr.heap.size) (fun _ i _=>y.runs.length - (intOf i).toNat);case atStart=>exact ⟨0,Ah _,rfl,Ow.nil Ii 3 W (w+1),B0,X.lt⟩
 case round =>
  clear X B0;obtain ⟨k,hk,rfl,hO,hb,bJ⟩:=hrel;by_cases aB:k<y.runs.length
  ·have aC:(k:Int)<(y.runs.length:Int):=Bl;obtain ⟨b,o,⟨⟨B1,m1,e1⟩,⟨B2,m2,e2⟩⟩,rfl,aH,bP,c0_,c1_,c2_,c3_,c4_,c5_,c6_,c7_⟩:=(h2.below hb).run aB;have pC:=HT.out k aB;have hYS:=Bq (Agr aB);have hNO:=Bq (Ahy aB);have Hl:=Bq (show (My (y.runs.take k)).length<=3000000 by have:=Adb (y.runs.take k);rw [List.length_take] at this;omega);have ha:Below wr wr (wr.alloc (.cells (Lh y.runs[k] (⟨B1,m1,e1⟩,⟨B2,m2,e2⟩)).toArray 67)):=Bt;have V:=Bq (Hn y.runs[k] (⟨B1,m1,e1⟩,⟨B2,m2,e2⟩) 3 _ pC (Cn.rd_more (Cn.rd_below (Cn.rd_more bP hb.size) ha) ha.size));have RB:DBox wr (Lh y.runs[k] (⟨B1,m1,e1⟩,⟨B2,m2,e2⟩)) _:=DBox.new 67 _ wr (b:=wr) rfl;generalize y.runs[k]=r at *
   go_wp2_with fail
   refine V.out.mono ?_;rintro e w4 ⟨A,c,rfl,b4⟩;replace RB:=RB.below b4;have cL:=Bv hb (Bv ha b4);have hO4:=hO.out.below (Bv ha b4);have kH:=b4.size;have mK:=ha.size;clear c0_ c1_ c2_ c3_ c4_ c5_ c6_ c7_ V ha b4 hO;generalize wr.heap.size=rb at *
   have RB_:=RB.g8;by_cases q:0<Cp r.tasks 3
   ·have S:=Bq (hYS.out q);generalize Cp r.tasks 3=n at *
    have ha:Hid (∀ w:World,Below w w (w.alloc (.cells #[J Ab r.id] 3))):=fun w=>Bt;go_wp2_with (at_builtin;refine Cj _ Ii Bp rfl (.tmp 17) (.tmp 20) rfl underlying26 bZ jz0 jz1 jz2 rfl (l:=My (y.runs.take k)) rfl (hO4.below (ha.out w4)) rfl (Rd.one Ii _ _ r.id rfl rfl 1 (Bs _) (Nat.lt_succ_self _)) Hl.out Bn Bp (by simp;omega) ?_;intro v5 w5 o5 g5 _)
    have bH:=Bv cL (ha.out w4);have W5:=bH.grown g5 bH.size (fun g hg=>by have:=hO4.within _ hg;omega);have pR:=g5.size;simp only [Bj] at pR;first
     | exact ⟨⟨k+1,Bl,by go_num,by rw [S.out];exact o5,W5,Bl⟩,clM⟩
     | (refine ⟨?_,clM⟩;(repeat apply Exists.intro);refine ⟨?_,clR⟩;exact ⟨k+1,Bl,by go_num,by rw [S.out];exact o5,W5,Bl⟩)
   ·have S:=Bq (hNO.out q);have q0:Cp r.tasks 3=0:=Bl;clear q;rw [q0];go_wp2;first
     | exact ⟨⟨k+1,Bl,by go_num,by rw [S.out];exact hO4,cL,Bl⟩,clM⟩
     | (refine ⟨?_,clM⟩;(repeat apply Exists.intro);refine ⟨?_,clR⟩;exact ⟨k+1,Bl,by go_num,by rw [S.out];exact hO4,cL,Bl⟩)
  ·have aC:¬ (k:Int)<(y.runs.length:Int):=Bl;have cE:=hO.out;rw [List.take_of_length_le Bl] at cE;go_wp2;go_ret;exact ⟨_,rfl,cE.more Bl,hb⟩
theorem Y5 (y:Yard) (s:Sl×Sl) (w:World) (hl:Cf y<=2000000) (bY:∀ r∈y.runs,r.state=1->0<Cp r.tasks 3\/0<Cp r.tasks 2) (h:Bu.rd w w y s) :
  Calls An 27 #[Dh y s] w fun e w'=>e = .returned (Aa Ac 0 0)/\Below w w w':=by
 obtain ⟨⟨A1,n1,c1⟩,⟨A2,n2,c2⟩⟩:=s;obtain rfl:n2=y.runs.length:=RdL.at1 (s:=⟨A2,n2,c2⟩) h.2;have h2:RdL Cn w w (Aa A2 y.runs.length c2) y.runs:=h.2;have eJ:y.runs.length<=2000000:=Ai (Cv Dc _) (by unfold Cf at hl;omega);have HT:=Bq (fun k hk=>Fc (k:=k) hl hk);have HN:=Bq bY;clear h hl bY;obtain ⟨W,aG,X,B0⟩:=bx1 w 31 [J Ab y.now,J Ab y.seq,Aa A1 n1 c1,Aa A2 y.runs.length c2];go_enter func27,ntmps27;go_wp2;rw [<-aG.out];clear aG;go_loopw [3,9] (fun v i wr=>∃ k:Nat,k<=y.runs.length/\i = J Ab k/\v = Aa Ac 0 0/\Below w w wr) (fun _ i _=>y.runs.length - (intOf i).toNat);case atStart=>exact ⟨0,Ah _,rfl,rfl,B0⟩
 case round =>
  clear X B0;obtain ⟨k,hk,rfl,rfl,hb⟩:=hrel;by_cases aB:k<y.runs.length
  ·have aC:(k:Int)<(y.runs.length:Int):=Bl;obtain ⟨b,o,⟨⟨B1,m1,e1⟩,⟨B2,m2,e2⟩⟩,rfl,aH,bP,c0_,c1_,c2_,c3_,c4_,c5_,c6_,c7_⟩:=(h2.below hb).run aB;have pC:=HT.out k aB;have hn:=HN.out _ (Ax aB);have ha:Below wr wr (wr.alloc (.cells (Lh y.runs[k] (⟨B1,m1,e1⟩,⟨B2,m2,e2⟩)).toArray 67)):=Bt;have qD:=Cn.rd_more (Cn.rd_below (Cn.rd_more bP hb.size) ha) ha.size;have V:=Bq (fun W (hW:Below (wr.alloc (.cells (Lh y.runs[k] (⟨B1,m1,e1⟩,⟨B2,m2,e2⟩)).toArray 67)) (wr.alloc (.cells (Lh y.runs[k] (⟨B1,m1,e1⟩,⟨B2,m2,e2⟩)).toArray 67)) W) st=>Hn y.runs[k] (⟨B1,m1,e1⟩,⟨B2,m2,e2⟩) st W pC (Cn.rd_more (Cn.rd_below qD hW) hW.size));have RB:DBox wr (Lh y.runs[k] (⟨B1,m1,e1⟩,⟨B2,m2,e2⟩)) _:=DBox.new 67 _ wr (b:=wr) rfl;generalize y.runs[k]=r at *
   by_cases hs:r.state=1;case neg =>
    have qs:(r.state == 1)=false:=beq_eq_false_iff_ne.2 hs;clear hs hn;go_wp2_with fail
    first
     | exact ⟨⟨k+1,Bl,by go_num,rfl,Bv hb ha⟩,clM⟩
     | (refine ⟨?_,clM⟩;(repeat apply Exists.intro);refine ⟨?_,clR⟩;exact ⟨k+1,Bl,by go_num,rfl,Bv hb ha⟩)
   have qs:(r.state == 1)=true:=beq_iff_eq.2 hs;replace hn:=hn hs;clear hs;go_wp2_with fail
   refine (V.out _ (Br _ _) 3).mono ?_;rintro e w4 ⟨A,c,rfl,b4⟩;by_cases q:0<Cp r.tasks 3
   ·generalize Cp r.tasks 3=n at *
    have qn:((n:Int) == 0)=false:=by simp;omega
    go_wp2_with fail
    first
     | exact ⟨⟨k+1,Bl,by go_num,rfl,Bv (Bv hb ha) b4⟩,clM⟩
     | (refine ⟨?_,clM⟩;(repeat apply Exists.intro);refine ⟨?_,clR⟩;exact ⟨k+1,Bl,by go_num,rfl,Bv (Bv hb ha) b4⟩)
   ·have q2:0<Cp r.tasks 2:=hn.resolve_left q;have q0:Cp r.tasks 3=0:=Bl;clear q;rw [q0];replace RB:=RB.below b4;have RB_:=RB.g8;go_wp2_with fail
    refine (V.out _ b4 2).mono ?_;rintro e w5 ⟨A,c,rfl,b5⟩;generalize Cp r.tasks 2=n at *
    have qn:((n:Int) == 0)=false:=by simp;omega
    go_wp2_with fail
    first
     | exact ⟨⟨k+1,Bl,by go_num,rfl,Bv (Bv (Bv hb ha) b4) b5⟩,clM⟩
     | (refine ⟨?_,clM⟩;(repeat apply Exists.intro);refine ⟨?_,clR⟩;exact ⟨k+1,Bl,by go_num,rfl,Bv (Bv (Bv hb ha) b4) b5⟩)
  ·have aC:¬ (k:Int)<(y.runs.length:Int):=Bl;go_wp2;go_ret;exact ⟨rfl,hb⟩
def Abf (b e:Entry):Entry:=if e.seq<b.seq then e else b
def Mt (L:List Entry) (k:Nat):Entry:=(L.take k).foldl Abf (L.getD 0 ⟨0,0,0,0⟩)
theorem Zz {L:List Entry} {k:Nat} (hk:k<L.length):Mt L (k+1)=Abf (Mt L k) L[k]:=by
 unfold Mt;rw [Cy L k hk,List.foldl_append];rfl
theorem Afq {L:List Entry} : ∀ k,k<=L.length -> ∀ j (h:j<L.length),j<k->(Mt L k).seq<=L[j].seq
 | 0,_,_,_,h=>absurd h Bl
 | k+1,hk,j,hj,h=>by
  have ih:=Afq k Bl j hj;rw [Zz Bl];unfold Abf;by_cases e:j=k
  ·subst e;split<;>omega
  ·have:=ih Bl
   split<;>omega
theorem Xe {b:Nat} {w:World} {u0 u1 u2 u3:Value} (X:DBox b [u0,u1,u2,u3] w) {v0 v1:Value} {q:Bool} {rest:List Value} :
  (results Tryz.f24 (v0 :: v1 :: .pointer (Ad ⟨b,0,Ac⟩) :: .bool q :: rest).toArray).run An w = .ok (.tuple #[.agg #[u0,u1,u2,u3],.bool q]) w:=by
 obtain ⟨c0,c1,c2,c3,-⟩:=X.g4;simp [results,results24,go_sem,c0,c1,c2,c3]
theorem Xf (y:Yard) (s:Sl×Sl) (w:World) (hl:Cf y<=2000000) (h:Bu.rd w w y s) :
  Calls An 24 #[Dh y s] w fun e w'=>e = .returned (.tuple #[Io (Mt (Jt y) (Jt y).length) (),.bool (decide (0<(Jt y).length))])/\Below w w w':=by
 have C:=Bq (fun W (hW:Below w w W)=>Y1 y s W hl (Bu.rd_more (Bu.rd_below h hW) hW.size));obtain ⟨⟨A1,n1,c1⟩,⟨A2,n2,c2⟩⟩:=s;have HL:(Jt y).length<=2000000:=Ai (List.length_filter_le _ _) (N8 hl);clear h hl;obtain ⟨W,aG,X,RES,B0⟩:=bx2 w 31 [J Ab y.now,J Ab y.seq,Aa A1 n1 c1,Aa A2 n2 c2] 71 [J Ab 0,J Ab 0,J Ab 0,J Ab 0];go_enter func24,ntmps24;go_wp2_with fail
 rw [<-aG.out];clear aG;have dL:=RES.lt;refine (C.out _ B0).mono ?_;rintro e w1 ⟨v,rfl,o1,b1⟩;replace RES:=RES.below b1;replace B0:=Bv B0 b1;clear C;generalize hL:Jt y=L at *
 have HE:=Bq hL;clear hL;obtain ⟨A3,c3,rfl,-⟩:=id (Rd.of_own o1);by_cases q:L.length=0
 ·have qI:((L.length:Int) == 0)=true:=by simp [q]
  have H:=Bq (show Mt L L.length=⟨0,0,0,0⟩ by rw [List.eq_nil_of_length_eq_zero q];rfl);have H2:=Bq (show decide (0<L.length)=false by simp [q]);have HF:Hid (∀ W,W=(((w1.setCell ⟨w+1,0,Ac⟩ (J Ab 0)).setCell ⟨w+1,1,Ac⟩ (J Ab 0)).setCell ⟨w+1,2,Ac⟩ (J Ab 0)).setCell ⟨w+1,3,Ac⟩ (J Ab 0)->DBox (w+1) [J Ab 0,J Ab 0,J Ab 0,J Ab 0] W/\Below w w W):=by
   rintro W rfl;exact ⟨(((RES.put 0 Bn _).put 1 Bn _).put 2 Bn _).put 3 Bn _,(((B0.setCell Bn _).setCell Bn _).setCell Bn _).setCell Bn _⟩
  have RES_:=RES.g4;have rf:=RES.free;clear q;go_wp2;have HG:=HF.out _ rfl;exact Ak (Xe HG.1) rfl ⟨by rw [HE.out,H.out,H2.out],HG.2⟩
 have qI:((L.length:Int) == 0)=false:=by simpa using q
 have q0:0<L.length:=Bl;have q0I:(0:Int)<(L.length:Int):=Bl;have H2:=Bq (show decide (0<L.length)=true by simp [q0]);clear q;have ho:=Js (Rd.of_own o1);obtain ⟨b,o,_,fC,aH,_,d0,d1,d2,d3⟩:=RdL.entry ho q0;subst fC;rw [Nat.zero_mul,Nat.add_zero] at d0 d1 d2 d3;have h0:Hid (Mt L 0=L[0]):=by
  show Mt L 0=_;unfold Mt;rw [List.getD_eq_getElem?_getD,List.getElem?_eq_getElem q0];rfl
 have BB:=DBox.new 71 [J Ab L[0].prio,J Ab L[0].seq,J Ab L[0].run,J Ab L[0].task] w1 (b:=w1) rfl;have b2:Below w1 w1 (w1.alloc (.cells #[J Ab L[0].prio,J Ab L[0].seq,J Ab L[0].run,J Ab L[0].task] 71)):=Bt;have bG:=b1.size;go_upto_region 5 with fail
 replace RES:=RES.below b2;replace B0:=Bv B0 b2;have mI:=BB.lt;rw [<-h0.out] at *
 generalize w1.alloc (.cells #[J Ab (Mt L 0).prio,J Ab (Mt L 0).seq,J Ab (Mt L 0).run,J Ab (Mt L 0).task] 71)=w2 at *
 generalize hbbd:w1.heap.size=bb at *
 clear d0 d1 d2 d3 h0;go_wp2;go_loopw [19] (fun i wr=>∃ k:Nat,k<=L.length/\i = J Ab k/\DBox bb [J Ab (Mt L k).prio,J Ab (Mt L k).seq,J Ab (Mt L k).run,J Ab (Mt L k).task] wr/\Chg [bb] w2 wr) (fun i _=>L.length - (intOf i).toNat);case atStart=>exact ⟨0,Ah _,rfl,BB,Chg.refl [bb] w2⟩
 case round =>
  clear BB;obtain ⟨k,hk,rfl,BB,hc⟩:=hrel;have mW:=hc.size;have hB:Below w w wr:=B0.trans (hc.below B0.size (fun x hx=>by rw [Aw.1 hx];omega));by_cases aB:k<L.length
  ·have aC:(k:Int)<(L.length:Int):=Bl;obtain ⟨_,_,_,fC,_,_,d0,d1,d2,d3⟩:=RdL.entry ho aB;simp only [Option.some.injEq,Addr.mk.injEq,and_true] at fC;obtain ⟨rfl,rfl⟩:=fC;have dP:b∉[bb]:=fun hx=>by have:=Aw.1 hx;omega
   have aJ:b<w2:=by have:=b2.size;omega
   have e0:=(hc.cell (p:=⟨b,_,Ac⟩) aJ dP).trans ((b2.cell (p:=⟨b,_,Ac⟩) aH).trans d0);have e1:=(hc.cell (p:=⟨b,_,Ac⟩) aJ dP).trans ((b2.cell (p:=⟨b,_,Ac⟩) aH).trans d1);have e2:=(hc.cell (p:=⟨b,_,Ac⟩) aJ dP).trans ((b2.cell (p:=⟨b,_,Ac⟩) aH).trans d2);have e3:=(hc.cell (p:=⟨b,_,Ac⟩) aJ dP).trans ((b2.cell (p:=⟨b,_,Ac⟩) aH).trans d3);have bN:b<wr:=Bl;have S:=Bq (Zz aB);unfold Abf at S;have ha:Below wr wr (wr.alloc (.cells #[J Ab L[k].prio,J Ab L[k].seq,J Ab L[k].run,J Ab L[k].task] 71)):=Bt;have EB:=DBox.new 71 [J Ab L[k].prio,J Ab L[k].seq,J Ab L[k].run,J Ab L[k].task] wr (b:=wr) rfl;have BL:=BB.lt;generalize L[k]=e9 at *
   generalize Mt L k=m at *
   go_upto_region 8 with fail
   replace BB:=BB.below ha;replace hc:=hc.trans (Chg.of_below [bb] ha);generalize wr.alloc (.cells #[J Ab e9.prio,J Ab e9.seq,J Ab e9.run,J Ab e9.task] 71)=w3 at *
   clear e0 e1 e2 e3;by_cases q:e9.seq<m.seq
   ·have S2:=Bq (show Mt L (k+1)=e9 by rw [S.out,if_pos q]);have HF:Hid (∀ W,W=(((w3.setCell ⟨bb,0,Ac⟩ (J Ab e9.prio)).setCell ⟨bb,1,Ac⟩ (J Ab e9.seq)).setCell ⟨bb,2,Ac⟩ (J Ab e9.run)).setCell ⟨bb,3,Ac⟩ (J Ab e9.task)->DBox bb [J Ab e9.prio,J Ab e9.seq,J Ab e9.run,J Ab e9.task] W/\Chg [bb] w2 W):=by
     rintro W rfl;exact ⟨(((BB.put 0 Bn _).put 1 Bn _).put 2 Bn _).put 3 Bn _,hc.setOwn.setOwn.setOwn.setOwn⟩
    have bf:=BB.free;have EB_:=EB.g4;have BB_:=BB.g4;go_wp2;have HG:=HF.out _ rfl;first
     | exact ⟨⟨k+1,Bl,by go_num,by rw [S2.out];exact HG.1,HG.2⟩,clM⟩
     | (refine ⟨?_,clM⟩;(repeat apply Exists.intro);refine ⟨?_,clR⟩;exact ⟨k+1,Bl,by go_num,by rw [S2.out];exact HG.1,HG.2⟩)
   ·have S2:=Bq (show Mt L (k+1)=m by rw [S.out,if_neg q]);have EB_:=EB.g4;have BB_:=BB.g4;go_wp2;first
     | exact ⟨⟨k+1,Bl,by go_num,by rw [S2.out];exact BB,hc⟩,clM⟩
     | (refine ⟨?_,clM⟩;(repeat apply Exists.intro);refine ⟨?_,clR⟩;exact ⟨k+1,Bl,by go_num,by rw [S2.out];exact BB,hc⟩)
  ·have aC:¬ (k:Int)<(L.length:Int):=Bl;obtain rfl:k=L.length:=Bl;replace RES:=RES.chg hc (fun hx=>by have:=Aw.1 hx;omega);generalize hm:Mt L L.length=m at *
   have HM:=Bq hm;clear hm;have HF:Hid (∀ W,W=(((wr.setCell ⟨w+1,0,Ac⟩ (J Ab m.prio)).setCell ⟨w+1,1,Ac⟩ (J Ab m.seq)).setCell ⟨w+1,2,Ac⟩ (J Ab m.run)).setCell ⟨w+1,3,Ac⟩ (J Ab m.task)->DBox (w+1) [J Ab m.prio,J Ab m.seq,J Ab m.run,J Ab m.task] W/\Below w w W):=by
    rintro W rfl;exact ⟨(((RES.put 0 Bn _).put 1 Bn _).put 2 Bn _).put 3 Bn _,(((hB.setCell Bn _).setCell Bn _).setCell Bn _).setCell Bn _⟩
   have rf:=RES.free;have BB_:=BB.g4;have RES_:=RES.g4;go_wp2;have HG:=HF.out _ rfl;exact Ak (Xe HG.1) rfl ⟨by rw [HE.out,H2.out,HM.out],HG.2⟩
theorem Vg (r:Run) (s:Sl×Sl) (st:Int) (w:World) (hl:r.tasks.length<=2000000) (h:Cn.rd w w r s) :
  Calls An 282 #[Hx r s,J Ab st] w fun e w'=>∃ v,e = .returned v/\Ow En 3 w' w v (Dd r.tasks st)/\Below w w w':=by
 obtain ⟨⟨A1,n1,c1⟩,⟨A2,n2,c2⟩⟩:=s;obtain rfl:n2=r.tasks.length:=RdL.at1 (s:=⟨A2,n2,c2⟩) h.2;have h2:RdL Eu w w (Aa A2 r.tasks.length c2) r.tasks:=h.2;obtain ⟨W,aG,X,B0⟩:=bx1 w 67 [J Ab r.id,J Ab r.plan.prio,J Ab r.plan.most,J Ab r.plan.wait,J Ab r.plan.tasks,Aa A1 n1 c1,J Ab r.state,Aa A2 r.tasks.length c2];obtain ⟨j0,bZ,jz0,jz1,jz2⟩:=info_parts Qb;go_enter func282,ntmps282;go_upto_region 1 with fail
 rw [<-aG.out];clear aG;have uV:w.heap.size+1=W.heap.size\/w.heap.size+1<=W.heap.size:=.inr X.lt;have o0:=Ow.empty En 3 W rfl;have b0:Below W W (W.alloc (.cells #[] 3)):=Bt;have jY:=X.lt;replace X:=X.below b0;replace B0:=Bv B0 b0;go_wp2;go_loopw [5,6] (fun vl i wr=>∃ k:Nat,k<=r.tasks.length/\i = J Ab k/\Hid (Ow En 3 wr W vl (Ff r.tasks st k))/\DBox w [J Ab r.id,J Ab r.plan.prio,J Ab r.plan.most,J Ab r.plan.wait,J Ab r.plan.tasks,Aa A1 n1 c1,J Ab r.state,Aa A2 r.tasks.length c2] wr/\Below w w wr/\W.heap.size<=wr.heap.size) (fun _ i _=>r.tasks.length - (intOf i).toNat);case atStart=>exact ⟨0,Ah _,rfl,(by show Ow En 3 _ _ _ (Ff r.tasks st 0);simpa [Ff] using o0),X,B0,b0.size⟩
 case round =>
  clear X B0 o0 b0;obtain ⟨k,hk,rfl,ho,X,hb,bJ⟩:=hrel;have X_:=X.g8;by_cases aB:k<r.tasks.length
  ·have aC:(k:Int)<(r.tasks.length:Int):=Bl;have dF:(0:Int)<=(k:Int):=Bl;obtain ⟨b,o,_,rfl,aH,_,d0,d1,d2,d3⟩:=(h2.below hb).task aB;have hS:=Mj r.tasks st k aB;have Hl:=Bq (show (Ff r.tasks st k).length<=3000000 by have:=Jr r.tasks st k;omega);by_cases hx:r.tasks[k].state=st
   ·rw [if_pos hx] at hS;have S:=Bq hS;have t1:(r.tasks[k].state == st)=true:=beq_iff_eq.2 hx;have sP:=ho.out;clear hS hx;have ha:Hid (∀ w:World,Below w w (w.alloc (.cells #[J Ab (k:Int)] 3))):=fun w=>Bt;go_wp2_with (at_builtin;refine Cj _ En Bp rfl (.tmp 23) (.tmp 25) rfl underlying26 bZ jz0 jz1 jz2 rfl (base:=W) (l:=Ff r.tasks st k) rfl (sP.below (ha.out wr)) rfl (Rd.one En _ _ k rfl rfl 1 (Bs _) (Nat.lt_succ_self _)) Hl.out Bn Bp (by simp;omega) ?_;intro v5 w5 o5 g5 _)
    have bH:=Bv hb (ha.out wr);have W5:=bH.grown g5 bH.size (fun g hg=>by have:=sP.within _ hg;omega);have X5:=(X.below (ha.out wr)).off g5 (fun e=>by have:=(sP.within _ e.symm).1;omega);have pR:=g5.size;simp only [Bj] at pR;refine ⟨⟨k+1,Bl,by go_num,?_,X5,W5,Bl⟩,clM⟩;rw [S.out];exact o5
   ·rw [if_neg hx,List.append_nil] at hS;have S:=Bq hS;have t1:(r.tasks[k].state == st)=false:=beq_eq_false_iff_ne.2 hx;clear hS hx;go_wp2;refine ⟨⟨k+1,Bl,by go_num,?_,X,hb,bJ⟩,clM⟩;rw [S.out];exact ho
  ·have aC:¬ (k:Int)<(r.tasks.length:Int):=Bl;have bE:k=r.tasks.length:=Bl;subst bE;go_wp2;go_ret;exact ⟨_,rfl,ho.out.more Bl,hb⟩
section
open Classical in
noncomputable def Jc (y:Yard) (id:Int) (p:Plan):Int :=
 if ¬ Dn y then 8 else if inB id 1 9999=false then 5 else if 0<=Db y id then 6 else if ¬ Cr p=0 then Cr p else if Kr y p=false then 7 else 0
noncomputable def I8 (y:Yard) (id:Int) (p:Plan):Yard:=if Jc y id p=0 then Ly ⟨y.now,y.seq,y.shelf,y.runs ++ [Ce id p]⟩ Eh (Ce id p) else y
theorem K9 {b:Nat} {w:World} {u0 u1 u2 u3:Value} (X:DBox b [u0,u1,u2,u3] w) {v0 v1 v2 v3 v4 v5 v7:Value} {rest:List Value} :
  (results Tryz.f164 (v0 :: v1 :: v2 :: v3 :: v4 :: v5 :: .pointer (Ad ⟨b,0,Ac⟩) :: v7 :: rest).toArray).run An w = .ok (.tuple #[.agg #[u0,u1,u2,u3],v7]) w:=by
 have c0:=X.cell 0 _ rfl;have c1:=X.cell 1 _ rfl;have c2:=X.cell 2 _ rfl;have c3:=X.cell 3 _ rfl;simp [results,results164,go_sem,c0,c1,c2,c3]
theorem Aix {α:Type} (d:Dt α) (w:World) (B c:Nat):RdL d w B (Aa Ac 0 c) []:=⟨[],rfl,Rd.nil _ _ _ _,fun _ h=>by cases h⟩
def BldG {α:Type} (d:Dt α) (E:TypeId) (w:World) (base:Nat) (v:Value) (rs:List (α×d.S)) (G:List Nat):Prop :=
 Ow d.enc E w base v rs/\Ows d w G rs/\G.Nodup /\ ∀ b∈G,base<=b/\v.ownBlock≠Ad b
theorem BldG.below {α:Type} {d:Dt α} {E:TypeId} {w w':World} {base:Nat} {v:Value} {rs:List (α×d.S)} {G:List Nat} (h:BldG d E w base v rs G) (hb:Below w w w'):BldG d E w' base v rs G :=
 ⟨h.1.below hb,h.2.1.bel hb,h.2.2.1,h.2.2.2⟩
theorem BldG.push1 {α:Type} {d:Dt α} {E:TypeId} {w w1 w2 w5:World} {base:Nat} {v v5:Value} {rs:List (α×d.S)} {G:List Nat} {x:α} {s:d.S} {F:List Nat} (h:BldG d E w base v rs G) (hb:Below w w w1) (o1:d.ow w1 F x s) (n1:∀ b∈F,w<=b)
  (aS:base<=w.heap.size) (aJ:Below w1 w1 w2) (o5:Ow d.enc E w5 base v5 (rs ++ [(x,s)])) (g5:w2.grownBy w5 v.ownBlock) (f5:v5.ownBlock=v.ownBlock\/v5.ownBlock=Ad w2.heap.size):BldG d E w5 base v5 (rs ++ [(x,s)]) (G ++ F):=by
 obtain ⟨h1,h2,h3,h4⟩:=h;have hG:∀ b∈G,b<w:=h2.lt;have cI:∀ b∈F,b<w1:=d.ow_lt o1;have rQ:∀ b∈F,v.ownBlock≠Ad b:=fun b hb he=>by
  have h5:=(h1.within b he).2;have h6:=n1 b hb;omega
 have hs:=hb.size;have cN:=aJ.size;have ht:Ows d w2 F [(x,s)]:=Ows.one (r:=(x,s)) (d.ow_below o1 aJ);refine ⟨o5,?_,?_,?_⟩
 ·refine Ows.append ((h2.bel (Bv hb aJ)).keep g5.size fun b hbG=>g5.block b (by have:=hG b hbG;omega) ?_) (ht.keep g5.size fun b bT=>g5.block b (by have:=cI b bT;omega) ?_)
  ·exact fun e=>(h4 b hbG).2 e.symm
  ·exact fun e=>rQ b bT e.symm
 ·rw [Ay];refine ⟨h3,d.ow_nodup o1,fun a ha b bH e=>?_⟩
  have:=hG a ha
  have:=n1 b bH
  omega
 ·intro b aV;rcases Bi.1 aV with aV | aV
  ·refine ⟨(h4 b aV).1,?_⟩;rcases f5 with hv | hv
   ·rw [hv];exact (h4 b aV).2
   ·rw [hv];intro e
    have:=hG b aV
    injection e with e
    omega
  ·refine ⟨by have:=n1 b aV;omega,?_⟩;rcases f5 with hv | hv
   ·rw [hv];exact rQ b aV
   ·rw [hv];intro e
    have:=cI b aV
    injection e with e
    omega
theorem BldG.owl {α:Type} {d:Dt α} {E:TypeId} {w:World} {base:Nat} {v:Value} {rs:List (α×d.S)} {G:List Nat} (h:BldG d E w base v rs G) {l:List α} (hl:rs.map (·.1)=l):OwL d w (Ei v rs.length ++ G) v l:=by
 obtain ⟨h1,h2,h3,h4⟩:=h;obtain ⟨h5,h6⟩:=Hw.of_ow h1;refine ⟨rs,_,G,hl,h5,h2,rfl,?_⟩;rw [Ay];refine ⟨Kh _ _,h3,fun a ha b hb e=>?_⟩;subst e;exact (h4 a hb).2 (Ho _ _ _ ha)
theorem Xg (y:Yard) (s:Sl×Sl) (id:Int) (p:Plan) (sp:Sl) (w:World) (hl:Cf y<=2000000) (hp:p.edges.length<=2000000) (h:Bu.rd w w y s) (hpr:Ck.rd w w p sp) :
  Calls An 164 #[Dh y s,J Ab id,Ni p sp] w (I7 (I8 y id p) (Jc y id p) w):=by
 have HR:=Bq (show ∀ W,Below w w W->Bu.rd W W y s from fun W hW=>Bu.rd_more (Bu.rd_below h hW) hW.size);obtain ⟨⟨A1,n1,c1⟩,⟨A2,n2,c2⟩⟩:=s;obtain ⟨A3,n3,c3⟩:=sp;obtain rfl:n3=p.edges.length:=RdL.at1 (s:=⟨A3,n3,c3⟩) hpr;have CC:=Bq (fun W hW=>Nl y (⟨A1,n1,c1⟩,⟨A2,n2,c2⟩) W hl (HR.out W hW));have CY:=Bq (fun W hW=>G9 y (⟨A1,n1,c1⟩,⟨A2,n2,c2⟩) W hl (HR.out W hW));have CA:=Bq (fun W hW=>Fo y (⟨A1,n1,c1⟩,⟨A2,n2,c2⟩) id W hl (HR.out W hW));have CF:=Bq (fun W (hW:Below w w W)=>Ki p (Aa A3 p.edges.length c3) W hp (((Ja hpr).below hW).more hW.size));have CR:=Bq (fun W hW hS hq=>Aa5 y (⟨A1,n1,c1⟩,⟨A2,n2,c2⟩) p (Aa A3 p.edges.length c3) W hl hS hq (HR.out W hW));have CN:=Bq (fun W (hW:Below w w W) hid hf=>Xc id p ⟨A3,p.edges.length,c3⟩ W hid hf (Ck.rd_more (Ck.rd_below hpr hW) hW.size));obtain ⟨j0,bZ,jz0,jz1,jz2⟩:=info_parts L9;clear h hpr HR;obtain ⟨W,aG,X,P,RES,B0⟩:=bx3 w 31 [J Ab y.now,J Ab y.seq,Aa A1 n1 c1,Aa A2 n2 c2] 43 [J Ab p.prio,J Ab p.most,J Ab p.wait,J Ab p.tasks,Aa A3 p.edges.length c3] 31 [J Ab 0,J Ab 0,Aa Ac 0 0,Aa Ac 0 0];go_enter func164,ntmps164;go_wp2_with fail
 rw [<-aG.out];clear aG;have dL:w.heap.size+1+1<W.heap.size:=RES.lt;refine (CC.out _ B0).mono ?_;rintro e1 w1 ⟨⟨B1,m1,e1⟩,⟨B2,m2,e2⟩,F1,base,rfl,oS,eL,aS,cJ,oR,b1⟩;have bG:=b1.size;replace X:=X.below b1;replace P:=P.below b1;replace RES:=RES.below b1;replace B0:=Bv B0 b1;clear b1;obtain ⟨rs,cS,G0,oR⟩:=oR;have hm:=Bq cS;clear cS;replace oR:BldG Cn 67 w1 base (Aa B2 m2 e2) rs G0:=oR;have uA:=oR.2.1.lt;have qB:∀ g,(Value.slice B2 m2 e2).ownBlock=Ad g->g≠w1.heap.size:=fun g hg h=>by
  have:=(oR.1.within g hg).2
  omega
 obtain ⟨F,oy,nF⟩:∃ F,Bu.ow w1 F y (⟨B1,m1,e1⟩,⟨B2,m2,e2⟩) /\ ∀ x∈F,W<=x:=by
  have hB:Bld Cn 67 w1 base (Aa B2 m2 e2) rs:=⟨G0,oR⟩
  replace hm:=hm.out;obtain ⟨F2,h5,h6⟩:=hB.owl hm;refine ⟨F1 ++ F2,⟨F1,F2,rfl,?_,oS,h5⟩,fun b hb=>?_⟩
  ·rw [Ay];refine ⟨oS.nodup,h5.nodup,fun u hu u' hu' e=>?_⟩
   have:=eL u hu
   have:=h6 u' hu'
   omega
  ·rcases Bi.1 hb with hb | hb
   ·exact (eL b hb).1
   ·have:=h6 b hb;omega
 go_upto_region 2 with fail
 have OB:=DBox.new 31 [J Ab y.now,J Ab y.seq,Aa B1 m1 e1,Aa B2 m2 e2] w1 (b:=w1) rfl;have b2:Below w1 w1 (w1.alloc (.cells #[J Ab y.now,J Ab y.seq,Aa B1 m1 e1,Aa B2 m2 e2] 31)):=Bt;replace X:=X.below b2;replace P:=P.below b2;replace RES:=RES.below b2;replace oy:=Bu.ow_below (F:=F) (x:=y) (s:=(⟨B1,m1,e1⟩,⟨B2,m2,e2⟩)) oy b2;replace oS:=oS.below b2;replace oR:=oR.below b2;replace B0:=Bv B0 b2;have ow1:=OB.lt;have hbob:base<=w1.heap.size:=cJ;replace cJ:=Ai cJ b2.size;clear b2;generalize w1.alloc (.cells #[J Ab y.now,J Ab y.seq,Aa B1 m1 e1,Aa B2 m2 e2] 31)=w2 at *
 generalize cR:w1.heap.size=ob at *
 have X_:=X.g4;have P_:=P.g5;have OB_:=OB.g4;go_wp2_with fail
 refine (CY.out _ B0).mono ?_;rintro e1 w3 ⟨rfl,b3⟩;clear X_;clear P_;clear OB_;replace X:=X.below b3;replace P:=P.below b3;replace OB:=OB.below b3;replace RES:=RES.below b3;replace oy:Bu.ow w3 F y (⟨B1,m1,e1⟩,⟨B2,m2,e2⟩):=owB oy b3;replace oS:=oS.below b3;replace oR:=oR.below b3;replace B0:=Bv B0 b3;replace cJ:=Ai cJ b3.size;clear b3;have X_:=X.g4;have P_:=P.g5;have OB_:=OB.g4;by_cases p0:Dn y;case neg =>
  rw [Cm p0];have H:=Bq (show Jc y id p=8 by unfold Jc;rw [if_pos p0]);have H2:=Bq (show I8 y id p=y by unfold I8;rw [H.out,if_neg Bp]);have RES_:=RES.g4;have rf:=RES.free;go_wp2;have en1:w.heap.size+1+1∉F:=fun hx=>by have:=nF _ hx;omega
  refine Ak (K9 (DBox.row4 RES rfl _ _ _ _)) rfl ⟨(⟨B1,m1,e1⟩,⟨B2,m2,e2⟩),F,by rw [H.out,H2.out],by rw [H2.out];exact (by (repeat (refine Dt.ow_set Bu ?_ en1 _));exact (show Bu.ow _ F y (⟨B1,m1,e1⟩,⟨B2,m2,e2⟩) from oy)),fun x hx=>by have:=nF x hx;omega,?_⟩;repeat (first | (with_reducible exact B0) | refine Ae ?_ Bo _)
 rw [Ds p0];have rI:=p0.2.2.2.2.2.2.2.2.2;have hsq:=p0.2.1;have h4:=Bq p0.2.2.1;have cW:=Bq p0.2.2.2.1;have P0:=Bq p0;clear p0;cases p1:inB id 1 9999;case false =>
  have H:=Bq (show Jc y id p=5 by unfold Jc;rw [if_neg (fun h=>h P0.out),if_pos p1]);have H2:=Bq (show I8 y id p=y by unfold I8;rw [H.out,if_neg Bp]);have RES_:=RES.g4;have rf:=RES.free;go_wp2_with (go_at_call 90;refine (Cl _ _ _ _).mono ?_;rintro e w9 ⟨rfl,rfl⟩;rw [p1])
  have en1:w.heap.size+1+1∉F:=fun hx=>by have:=nF _ hx;omega
  refine Ak (K9 (DBox.row4 RES rfl _ _ _ _)) rfl ⟨(⟨B1,m1,e1⟩,⟨B2,m2,e2⟩),F,by rw [H.out,H2.out],by rw [H2.out];exact (by (repeat (refine Dt.ow_set Bu ?_ en1 _));exact (show Bu.ow _ F y (⟨B1,m1,e1⟩,⟨B2,m2,e2⟩) from oy)),fun x hx=>by have:=nF x hx;omega,?_⟩;repeat (first | (with_reducible exact B0) | refine Ae ?_ Bo _)
 have P1:=Bq p1;go_wp2_with (go_at_call 90;refine (Cl _ _ _ _).mono ?_;rintro e w9 ⟨rfl,rfl⟩;rw [p1])
 refine (CA.out _ B0).mono ?_;rintro e1 w4 ⟨rfl,b4⟩;clear X_;clear P_;clear OB_;replace X:=X.below b4;replace P:=P.below b4;replace OB:=OB.below b4;replace RES:=RES.below b4;replace oy:Bu.ow w4 F y (⟨B1,m1,e1⟩,⟨B2,m2,e2⟩):=owB oy b4;replace oS:=oS.below b4;replace oR:=oR.below b4;replace B0:=Bv B0 b4;replace cJ:=Ai cJ b4.size;clear b4;have X_:=X.g4;have P_:=P.g5;have OB_:=OB.g4;by_cases p2:0<=Db y id;case pos =>
  have H:=Bq (show Jc y id p=6 by unfold Jc;rw [if_neg (fun h=>h P0.out),if_neg (by rw [P1.out];simp),if_pos p2]);have H2:=Bq (show I8 y id p=y by unfold I8;rw [H.out,if_neg Bp]);have RES_:=RES.g4;have rf:=RES.free;go_wp2;have en1:w.heap.size+1+1∉F:=fun hx=>by have:=nF _ hx;omega
  refine Ak (K9 (DBox.row4 RES rfl _ _ _ _)) rfl ⟨(⟨B1,m1,e1⟩,⟨B2,m2,e2⟩),F,by rw [H.out,H2.out],by rw [H2.out];exact (by (repeat (refine Dt.ow_set Bu ?_ en1 _));exact (show Bu.ow _ F y (⟨B1,m1,e1⟩,⟨B2,m2,e2⟩) from oy)),fun x hx=>by have:=nF x hx;omega,?_⟩;repeat (first | (with_reducible exact B0) | refine Ae ?_ Bo _)
 have P2:=Bq p2;go_wp2_with fail
 refine (CF.out _ B0).mono ?_;rintro e1 w5 ⟨rfl,b5⟩;clear p1 p2;clear X_;clear P_;clear OB_;replace X:=X.below b5;replace P:=P.below b5;replace OB:=OB.below b5;replace RES:=RES.below b5;replace oy:Bu.ow w5 F y (⟨B1,m1,e1⟩,⟨B2,m2,e2⟩):=owB oy b5;replace oS:=oS.below b5;replace oR:=oR.below b5;replace B0:=Bv B0 b5;replace cJ:=Ai cJ b5.size;clear b5;have X_:=X.g4;have P_:=P.g5;have OB_:=OB.g4;by_cases p3:Cr p=0;case neg =>
  have q3:(Cr p != 0)=true:=by simp [p3]
  have H:=Bq (show Jc y id p=Cr p by unfold Jc;rw [if_neg (fun h=>h P0.out),if_neg (by rw [P1.out];simp),if_neg (by have:=P2.out;omega),if_pos p3]);have H2:=Bq (show I8 y id p=y by unfold I8;rw [H.out,if_neg p3]);clear p3;have en1:w.heap.size+1+1∉F:=fun hx=>by have:=nF _ hx;omega
  have RES_:=RES.g4;have rf:=RES.free;have hpb:w.heap.size+1<w5.heap.size:=P.lt;have hobl:ob<w5:=OB.lt;have CF5:=Bq (CF.out _ B0.drew);go_wp2;refine Go.wp_region_noPanic ?_;refine wp_region_held_drew (S:=(fun w'=>DBox ob [J Ab y.now,J Ab y.seq,Aa B1 m1 e1,Aa B2 m2 e2] w'/\DBox (w+1) [J Ab p.prio,J Ab p.most,J Ab p.wait,J Ab p.tasks,Aa A3 p.edges.length c3] w')) Bm ⟨DBox.drew4 OB,DBox.drew4 P⟩ (fun aA=>?_);replace oy:Bu.ow w5.drew F y (⟨B1,m1,e1⟩,⟨B2,m2,e2⟩):=owB oy (Br _ _).drew;clear RES_;clear rf;replace RES:DBox _ _ w5.drew:=DBox.drew4 RES;replace B0:=B0.drew;clear X_;clear P_;clear OB_;clear OB X P;generalize w5.drew=w5d at *
  refine tV 0 ?_
  (try simp only [pS])
  refine tV 1 ?_
  (try simp only [pS])
  refine rC 2 (fun K_ hK=>?_);go_simp;refine CF5.out.mono ?_;rintro e1 w6 ⟨rfl,b6⟩;replace oy:Bu.ow w6 F y (⟨B1,m1,e1⟩,⟨B2,m2,e2⟩):=owB oy b6;replace RES:=RES.below b6;replace B0:=Bv B0 b6;refine hK.out _ _ ⟨aA.1.below b6,aA.2.below b6⟩ (fun aA=>?_);clear hK K_
  (try simp only [pS])
  have RES_:=RES.g4;have rf:=RES.free;refine rC 3 (fun K_ hK=>?_);go_simp;refine hK.out _ _ ⟨(((aA.1.setOther (a:=⟨w+1+1,0,Ac⟩) (by show ob≠w.heap.size+1+1;omega) _).setOther (a:=⟨w+1+1,1,Ac⟩) (by show ob≠w.heap.size+1+1;omega) _).setOther (a:=⟨w+1+1,2,Ac⟩) (by show ob≠w.heap.size+1+1;omega) _).setOther (a:=⟨w+1+1,3,Ac⟩) (by show ob≠w.heap.size+1+1;omega) _,(((aA.2.setOther (a:=⟨w+1+1,0,Ac⟩) (by show w.heap.size+1≠w.heap.size+1+1;omega) _).setOther (a:=⟨w+1+1,1,Ac⟩) (by show w.heap.size+1≠w.heap.size+1+1;omega) _).setOther (a:=⟨w+1+1,2,Ac⟩) (by show w.heap.size+1≠w.heap.size+1+1;omega) _).setOther (a:=⟨w+1+1,3,Ac⟩) (by show w.heap.size+1≠w.heap.size+1+1;omega) _⟩ (fun aA=>?_);clear hK K_
  (try simp only [pS])
  refine tV 4 ?_
  (try simp only [pS])
  refine wpAnyH_done Bm ?_ _;refine NoPanic.normal ?_;clear aA;clear RES_;clear rf;go_wp2;refine Ak (K9 (DBox.row4 RES rfl _ _ _ _)) rfl ⟨(⟨B1,m1,e1⟩,⟨B2,m2,e2⟩),F,by rw [H.out,H2.out],by rw [H2.out];exact (by (repeat (refine Dt.ow_set Bu ?_ en1 _));exact (show Bu.ow _ F y (⟨B1,m1,e1⟩,⟨B2,m2,e2⟩) from oy)),fun x hx=>by have:=nF x hx;omega,?_⟩;repeat (first | (with_reducible exact B0) | refine Ae ?_ Bo _)
 have q3:(Cr p != 0)=false:=by simp [p3]
 have P3:=Bq p3;clear p3;go_wp2_with fail
 refine (CR.out _ B0 rI Bl).mono ?_;rintro e1 w6 ⟨rfl,b6⟩;clear X_;clear P_;clear OB_;replace X:=X.below b6;replace P:=P.below b6;replace OB:=OB.below b6;replace RES:=RES.below b6;replace oy:Bu.ow w6 F y (⟨B1,m1,e1⟩,⟨B2,m2,e2⟩):=owB oy b6;replace oS:=oS.below b6;replace oR:=oR.below b6;replace B0:=Bv B0 b6;replace cJ:=Ai cJ b6.size;clear b6;have X_:=X.g4;have P_:=P.g5;have OB_:=OB.g4;cases p4:Kr y p;case false =>
  have H:=Bq (show Jc y id p=7 by unfold Jc;rw [if_neg (fun h=>h P0.out),if_neg (by rw [P1.out];simp),if_neg (by have:=P2.out;omega),if_neg (fun h=>h P3.out),if_pos p4]);have H2:=Bq (show I8 y id p=y by unfold I8;rw [H.out,if_neg Bp]);have RES_:=RES.g4;have rf:=RES.free;go_wp2;have en1:w.heap.size+1+1∉F:=fun hx=>by have:=nF _ hx;omega
  refine Ak (K9 (DBox.row4 RES rfl _ _ _ _)) rfl ⟨(⟨B1,m1,e1⟩,⟨B2,m2,e2⟩),F,by rw [H.out,H2.out],by rw [H2.out];exact (by (repeat (refine Dt.ow_set Bu ?_ en1 _));exact (show Bu.ow _ F y (⟨B1,m1,e1⟩,⟨B2,m2,e2⟩) from oy)),fun x hx=>by have:=nF x hx;omega,?_⟩;repeat (first | (with_reducible exact B0) | refine Ae ?_ Bo _)
 have H:=Bq (show Jc y id p=0 by unfold Jc;rw [if_neg (fun h=>h P0.out),if_neg (by rw [P1.out];simp),if_neg (by have:=P2.out;omega),if_neg (fun h=>h P3.out),if_neg (by rw [p4];simp)]);have H2:=Bq (show I8 y id p=Ly ⟨y.now,y.seq,y.shelf,y.runs ++ [Ce id p]⟩ Eh (Ce id p) by unfold I8;rw [if_pos H.out]);have rE:=Bq (show y.runs.length<8 by
  unfold Kr at p4;simp only [Bool.and_eq_true,decide_eq_true_eq] at p4;exact p4.1)
 clear rI;go_wp2_with fail
 refine (CN.out _ B0 P1.out P3.out).mono ?_;rintro e1 w7 ⟨sr,Fr,rfl,orn,nr,b7⟩;have mQ:=Bq (show (Ce id p).tasks.length<=12 by have h1:=Hs id p;have h2:=Dx (Cs.1 P3.out).1;omega);have nY:=B0.size;have hobw6:=OB.lt;have eX:∀ x∈Fr,w6<=x:=nr;clear nr;clear X_;clear P_;clear OB_;clear X P;replace OB:=OB.below b7;replace RES:=RES.below b7;replace oS:=oS.below b7;have B7:=Bv B0 b7;have b7s:=b7.size;have XB:=DBox.new 67 [J Ab (Ce id p).id,J Ab (Ce id p).plan.prio,J Ab (Ce id p).plan.most,J Ab (Ce id p).plan.wait,J Ab (Ce id p).plan.tasks,Aa sr.1.a sr.1.n sr.1.c,J Ab (Ce id p).state,Aa sr.2.a sr.2.n sr.2.c] w7 (b:=w7) rfl;have b8:Below w7 w7 (w7.alloc (.cells #[J Ab (Ce id p).id,J Ab (Ce id p).plan.prio,J Ab (Ce id p).plan.most,J Ab (Ce id p).plan.wait,J Ab (Ce id p).plan.tasks,Aa sr.1.a sr.1.n sr.1.c,J Ab (Ce id p).state,Aa sr.2.a sr.2.n sr.2.c] 67)):=Bt;go_upto_region 13 with fail
 replace OB:=OB.below b8;replace RES:=RES.below b8;replace oS:=oS.below b8;replace B7:=Bv B7 b8;have b78:=Bv b7 b8;have orn8:=Cn.ow_below (F:=Fr) (x:=Ce id p) (s:=sr) orn b8;have gH:=XB.lt;generalize w7.alloc (.cells #[J Ab (Ce id p).id,J Ab (Ce id p).plan.prio,J Ab (Ce id p).plan.most,J Ab (Ce id p).plan.wait,J Ab (Ce id p).plan.tasks,Aa sr.1.a sr.1.n sr.1.c,J Ab (Ce id p).state,Aa sr.2.a sr.2.n sr.2.c] 67)=w8 at *
 generalize fA:w7.heap.size=xb at *
 have cK:=Bq (show rs.length=y.runs.length by have:=congrArg List.length hm.out;simpa using this);have nW:=Bq (show rs.length<=3000000 by have:=rE.out;have:=cK.out;omega);have hO:=oR.1;have tL:=hO.below b78;obtain ⟨A5_,c5_,jK,-⟩:=_root_.id (Rd.of_own hO);have tM:=jK;simp only [Sl.v,Value.slice.injEq] at tM;obtain ⟨rfl,rfl,rfl⟩:=tM;clear jK;have OB_:=OB.g4;have XB_:=XB.g8;have obf:=OB.free;have uC:∀ g,(Value.slice B2 rs.length e2).ownBlock=Ad g->base<=g/\g<w6.heap.size:=fun g hg=>hO.within _ hg;have nJ:∀ g,(Value.slice B2 rs.length e2).ownBlock=Ad g->g≠ob:=fun g hg=>qB g hg;have ha:=Bq (show ∀ w:World,Below w w (w.alloc (.cells #[J Ab (Ce id p).id,J Ab (Ce id p).plan.prio,J Ab (Ce id p).plan.most,J Ab (Ce id p).plan.wait,J Ab (Ce id p).plan.tasks,Aa sr.1.a sr.1.n sr.1.c,J Ab (Ce id p).state,Aa sr.2.a sr.2.n sr.2.c] 67)) from fun w=>Bt);have mU:=Bq nJ;have fG:=Bq uC;clear nJ uC qB;have fN:base<=w8.heap.size:=Bl;go_upto_region 14 with (at_builtin;go_loud (refine Cj _ Cn.enc Bp rfl (.tmp 49) (.tmp 51) rfl underlying29 bZ jz0 jz1 jz2 rfl (base:=base) (v:=Aa B2 rs.length e2) (l:=rs) rfl (tL.below (ha.out w8)) rfl (Rd.one Cn.enc _ _ (Ce id p,sr) rfl rfl 1 (Bs _) (Nat.lt_succ_self _)) nW.out Bn Bp (by simp;omega) ?_);intro v9 w9 o9 g9 f9;obtain ⟨A9,c9,rfl,-⟩:=_root_.id (Rd.of_own o9);simp only [Bd,List.length_singleton] at o9 f9;have OB9:=(OB.below (ha.out w8)).off g9 (fun e=>(mU.out _ e.symm) rfl);have q3:=OB9.cell 3 _ rfl;have qf:=OB9.free;have ql:=OB9.lt)
 have hP:=oR.push1 b78 orn8 eX cJ (ha.out w8) o9 g9 f9;have tT:=hP.owl (l:=y.runs ++ [Ce id p]) (by rw [List.map_append,hm.out];rfl);have g9s:=g9.size;simp only [Bj] at g9s;have gC:∀ x∈Ei (Aa A9 (rs.length+1) c9) (rs ++ [(Ce id p,sr)]).length ++ (G0 ++ Fr),x≠ob/\base<=x:=fun x hx=>by
  rcases Bi.1 hx with hx | hx
  ·have h1:=Ho _ _ _ hx;refine ⟨?_,(o9.within x h1).1⟩;rcases f9 with h2 | h2
   ·rw [h2] at h1;exact mU.out _ h1
   ·rw [h2] at h1
    have:=Option.some.inj h1
    simp only [Bj] at this;omega
  ·rcases Bi.1 hx with hx | hx
   ·exact ⟨by have:=uA x hx;omega,(oR.2.2.2 x hx).1⟩
   ·exact ⟨by have:=eX x hx;omega,by have:=eX x hx;omega⟩
 generalize Ei (Aa A9 (rs.length+1) c9) (rs ++ [(Ce id p,sr)]).length ++ (G0 ++ Fr)=F2 at *
 have XB9:=(XB.below (ha.out w8)).off g9 (fun e=>by have h1:=(fG.out _ e.symm).2;omega);have RES9:=(RES.below (ha.out w8)).off g9 (fun e=>by have h1:base<=w.heap.size+1+1:=(fG.out _ e.symm).1;omega);have oS9:=(oS.below (ha.out w8)).grown g9 (fun b hb e=>by have h1:=(fG.out b e).1;have h2:=(eL b hb).2;omega);have orn9:=Cn.ow_keep (Cn.ow_below (F:=Fr) (x:=Ce id p) (s:=sr) orn8 (ha.out w8)) g9.size (fun b bT=>g9.block b (Cn.ow_lt (F:=Fr) (x:=Ce id p) (s:=sr) (Cn.ow_below (F:=Fr) (x:=Ce id p) (s:=sr) orn8 (ha.out w8)) b bT) (fun e=>by have h1:=(fG.out _ e.symm).2;have h2:=eX b bT;omega));have B9:Below w w w9:=(Bv B7 (ha.out w8)).grown g9 (Bv B7 (ha.out w8)).size (fun g hg=>by have h1:=(fG.out g hg).1;omega);have nU:w<=ob:=Bl;have OB10:DBox ob [J Ab y.now,J Ab y.seq,Aa B1 m1 e1,Aa A9 (rs.length+1) c9] (w9.setCell ⟨ob,3,Ac⟩ (Aa A9 (rs.length+1) c9)):=OB9.set 3 Bn _;have XB10:=XB9.setOther (a:=⟨ob,3,Ac⟩) (by show xb≠ob;omega) (Aa A9 (rs.length+1) c9);have RES10:=RES9.setOther (a:=⟨ob,3,Ac⟩) (by show w.heap.size+1+1≠ob;omega) (Aa A9 (rs.length+1) c9);have oS10:=oS9.set (a:=⟨ob,3,Ac⟩) (fun hx=>by have h1:_/\ob<base:=eL _ hx;omega) (Aa A9 (rs.length+1) c9);have oR10:=tT.set (a:=⟨ob,3,Ac⟩) (fun hx=>(gC _ hx).1 rfl) (Aa A9 (rs.length+1) c9);have orn10:=Cn.ow_set (F:=Fr) (x:=Ce id p) (s:=sr) orn9 (a:=⟨ob,3,Ac⟩) (fun hx=>by have h1:w6<=ob:=eX _ hx;omega) (Aa A9 (rs.length+1) c9);have B10:Below w w (w9.setCell ⟨ob,3,Ac⟩ (Aa A9 (rs.length+1) c9)):=Ae B9 (by show w.heap.size<=ob;omega) _;clear OB9 XB9 RES9 oS9 orn9 B9 tT hP XB RES oS B7 OB o9 g9 f9 q3 qf ql orn8 hO tL oR obf mU;clear OB_;clear XB_;generalize w9.setCell ⟨ob,3,Ac⟩ (Aa A9 (rs.length+1) c9)=w10 at *
 have OB10_:=OB10.g4;have XB10_:=XB10.g8;obtain rfl:m1=y.shelf.length:=RdL.at1 (s:=⟨B1,m1,e1⟩) oS10.rd;obtain ⟨g,o,_,rfl,fZ,_,_⟩:=RdL.entryS (show RdL (Dt.list Ch) w10 w10.heap.size (Aa B1 y.shelf.length e1) y.shelf from oS10.rd) (k:=0) (by have:=h4.out;omega);have eP:g∈F1:=OwL.block_mem (show OwL (Dt.list Ch) w10 F1 (Aa (Ad ⟨g,o,Ac⟩) y.shelf.length e1) y.shelf from oS10) (by have:=h4.out;omega);have rB:=eL g eP;have hRlt:=oR10.lt;have bQ:=Bq (show ∀ x,x∈[g]->x=g from fun x hx=>by simpa using hx);have CL:=Bq (Uc ⟨y.now,y.seq,y.shelf,y.runs ++ [Ce id p]⟩ g o e1 ⟨A9,rs.length+1,c9⟩ Eh (⟨Ac,0,0⟩,⟨Ac,0,0⟩) (Ce id p) sr w10 F1 h4.out (fun s hs=>by have:=(cW.out s hs).1;omega) (by dsimp only;omega) (by have:=mQ.out;omega) (by show ([]:List Task).length<=1000;simp) oS10 (Bq fun W hW=>(Cn.ow_rd (Cn.ow_chg (F:=Fr) (x:=Ce id p) (s:=sr) orn10 hW (fun x hx h=>by have h1:=bQ.out x h;have h2:=eX x hx;omega))).2) (Bq fun W hW=>Aix _ _ _ _));have fB:=Bq (show (Ly ⟨y.now,y.seq,y.shelf,y.runs ++ [Ce id p]⟩ Eh (Ce id p)).runs=y.runs ++ [Ce id p] from (Rf (y:=⟨y.now,y.seq,y.shelf,y.runs ++ [Ce id p]⟩) (was:=Eh) (r:=Ce id p) (M:=80) (fun s hs=>(cW.out s hs).1) (Ce id p).tasks.length).runs);generalize Ly ⟨y.now,y.seq,y.shelf,y.runs ++ [Ce id p]⟩ Eh (Ce id p)=Z at *
 go_wp2_with fail
 refine CL.out.mono ?_;rintro e w11 ⟨F1',rfl,q1,q2,q3⟩;have hs11:=q3.size;have RES11:=RES10.chg q3 (fun hx=>by have:=bQ.out _ hx;omega);have oR11:=oR10.chg q3 (fun x hx h=>by have h1:=bQ.out x h;have h2:=(gC x hx).2;omega);have B11:=B10.trans (q3.below (by have:=B10.size;omega) (fun x hx=>by have:=bQ.out _ hx;omega));clear OB10_;clear XB10_;clear OB10 XB10 RES10;obtain ⟨RES11_0,RES11_1,RES11_2,RES11_3,RES11_l⟩:=RES11.g4;have rf:=RES11.free;go_wp2;have en1:w.heap.size+1+1∉F1':=fun hx=>by
  rcases q2 _ hx with h | h
  ·have:=(eL _ h).1;omega
  ·have:=RES11_l;have:=B10.size;omega
 have en2:w.heap.size+1+1∉F2:=fun hx=>by have:=(gC _ hx).2;omega
 refine Ak (K9 (DBox.row4 RES11 rfl _ _ _ _)) rfl ⟨(⟨Ad ⟨g,o,Ac⟩,y.shelf.length,e1⟩,⟨A9,rs.length+1,c9⟩),F1' ++ F2,by rw [H.out,H2.out],⟨F1',F2,rfl,?_,?_,?_⟩,fun x hx=>?_,?_⟩
 ·rw [Ay];refine ⟨q1.nodup,oR11.nodup,fun a ha b hb e=>?_⟩;subst e;have h3:=gC a hb;have h4:=hRlt a hb;rcases q2 a ha with h | h
  ·have:=(eL a h).2;omega
  ·omega
 ·rw [H2.out];show OwL (Dt.list Ch) _ F1' (Aa (Ad ⟨g,o,Ac⟩) y.shelf.length e1) Z.shelf;exact ((((q1.set (a:=⟨_,_,Ac⟩) en1 _).set (a:=⟨_,_,Ac⟩) en1 _).set (a:=⟨_,_,Ac⟩) en1 _).set (a:=⟨_,_,Ac⟩) en1 _)
 ·rw [H2.out];show OwL Cn _ F2 (Aa A9 (rs.length+1) c9) Z.runs;rw [fB.out];exact ((((oR11.set (a:=⟨_,_,Ac⟩) en2 _).set (a:=⟨_,_,Ac⟩) en2 _).set (a:=⟨_,_,Ac⟩) en2 _).set (a:=⟨_,_,Ac⟩) en2 _)
 ·rcases Bi.1 hx with hx | hx
  ·rcases q2 x hx with h | h
   ·have:=(eL x h).1;omega
   ·have:=B10.size;omega
  ·have:=(gC x hx).2;omega
 ·repeat (first | (with_reducible exact B11) | refine Ae ?_ Bo _)
end
section
open Classical in
noncomputable def Il (y:Yard) (id:Int):Int :=
 if ¬ Dn y then 8 else if Db y id<0 then 10 else if ¬ (Ij y id).state=1 then 12 else 0
noncomputable def Hy (y:Yard) (id:Int):Yard:=if Il y id=0 then ⟨y.now,y.seq,y.shelf,y.runs.set (Db y id).toNat (C8 (Ij y id) 4)⟩ else y
theorem Oe {b:Nat} {w:World} {u0 u1 u2 u3:Value} (X:DBox b [u0,u1,u2,u3] w) {v0 v1 v2 v3 v5:Value} {rest:List Value} :
  (results Tryz.f169 (v0 :: v1 :: v2 :: v3 :: .pointer (Ad ⟨b,0,Ac⟩) :: v5 :: rest).toArray).run An w = .ok (.tuple #[.agg #[u0,u1,u2,u3],v5]) w:=by
 have c0:=X.cell 0 _ rfl;have c1:=X.cell 1 _ rfl;have c2:=X.cell 2 _ rfl;have c3:=X.cell 3 _ rfl;simp [results,results169,go_sem,c0,c1,c2,c3]
theorem Xh (y:Yard) (s:Sl×Sl) (id:Int) (w:World) (hl:Cf y<=2000000) (h:Bu.rd w w y s) :
  Calls An 169 #[Dh y s,J Ab id] w (I7 (Hy y id) (Il y id) w):=by
 have HR:=Bq (show ∀ W,Below w w W->Bu.rd W W y s from fun W hW=>Bu.rd_more (Bu.rd_below h hW) hW.size);obtain ⟨⟨A1,n1,c1⟩,⟨A2,n2,c2⟩⟩:=s;have CC:=Bq (fun W hW=>Fh y (⟨A1,n1,c1⟩,⟨A2,n2,c2⟩) W hl (HR.out W hW));have CY:=Bq (fun W hW=>G9 y (⟨A1,n1,c1⟩,⟨A2,n2,c2⟩) W hl (HR.out W hW));have CA:=Bq (fun W hW=>Fo y (⟨A1,n1,c1⟩,⟨A2,n2,c2⟩) id W hl (HR.out W hW));have CX:=Bq (fun W hW=>show RdL Cn W W.heap.size (Aa A2 n2 c2) y.runs from (HR.out W hW).2);clear h HR;obtain ⟨W,aG,X,RES,B0⟩:=bx2 w 31 [J Ab y.now,J Ab y.seq,Aa A1 n1 c1,Aa A2 n2 c2] 31 [J Ab 0,J Ab 0,Aa Ac 0 0,Aa Ac 0 0];go_enter func169,ntmps169;go_wp2_with fail
 rw [<-aG.out];clear aG;have dL:w.heap.size+1<W.heap.size:=RES.lt;refine (CC.out _ B0).mono ?_;rintro e1 w1 ⟨⟨⟨B1,m1,e1⟩,⟨B2,m2,e2⟩⟩,F,rfl,oy,nF,b1⟩;have bG:=b1.size;have cI:=Bu.ow_lt (F:=F) (x:=y) (s:=(⟨B1,m1,e1⟩,⟨B2,m2,e2⟩)) oy;replace X:=X.below b1;replace RES:=RES.below b1;replace B0:=Bv B0 b1;clear b1;go_upto_region 2 with fail
 have OB:=DBox.new 31 [J Ab y.now,J Ab y.seq,Aa B1 m1 e1,Aa B2 m2 e2] w1 (b:=w1) rfl;have b2:Below w1 w1 (w1.alloc (.cells #[J Ab y.now,J Ab y.seq,Aa B1 m1 e1,Aa B2 m2 e2] 31)):=Bt;replace X:=X.below b2;replace RES:=RES.below b2;replace oy:=Bu.ow_below (F:=F) (x:=y) (s:=(⟨B1,m1,e1⟩,⟨B2,m2,e2⟩)) oy b2;replace B0:=Bv B0 b2;have ow1:=OB.lt;clear b2;generalize w1.alloc (.cells #[J Ab y.now,J Ab y.seq,Aa B1 m1 e1,Aa B2 m2 e2] 31)=w2 at *
 generalize cR:w1.heap.size=ob at *
 have X_:=X.g4;obtain ⟨OB_0,OB_1,OB_2,OB_3,OB_l⟩:=OB.g4;go_wp2_with fail
 refine (CA.out _ B0).mono ?_;rintro e1 w3 ⟨rfl,b3⟩;clear X_;clear OB_0 OB_1 OB_2 OB_3 OB_l;replace X:=X.below b3;replace OB:=OB.below b3;replace RES:=RES.below b3;replace oy:Bu.ow w3 F y (⟨B1,m1,e1⟩,⟨B2,m2,e2⟩):=owB oy b3;replace B0:=Bv B0 b3;clear b3;have X_:=X.g4;obtain ⟨OB_0,OB_1,OB_2,OB_3,OB_l⟩:=OB.g4;go_wp2_with fail
 refine (CY.out _ B0).mono ?_;rintro e1 w4 ⟨rfl,b4⟩;clear X_;clear OB_0 OB_1 OB_2 OB_3 OB_l;replace X:=X.below b4;replace OB:=OB.below b4;replace RES:=RES.below b4;replace oy:Bu.ow w4 F y (⟨B1,m1,e1⟩,⟨B2,m2,e2⟩):=owB oy b4;replace B0:=Bv B0 b4;clear b4;have X_:=X.g4;obtain ⟨OB_0,OB_1,OB_2,OB_3,OB_l⟩:=OB.g4;by_cases p0:Dn y;case neg =>
  rw [Cm p0];have H:=Bq (show Il y id=8 by unfold Il;rw [if_pos p0]);have H2:=Bq (show Hy y id=y by unfold Hy;rw [H.out,if_neg Bp]);have RES_:=RES.g4;have rf:=RES.free;go_wp2;have en1:w.heap.size+1∉F:=fun hx=>by have:=nF _ hx;omega
  refine Ak (Oe (DBox.row4 RES rfl _ _ _ _)) rfl ⟨(⟨B1,m1,e1⟩,⟨B2,m2,e2⟩),F,by rw [H.out,H2.out],by rw [H2.out];exact (by (repeat (refine Dt.ow_set Bu ?_ en1 _));exact (show Bu.ow _ F y (⟨B1,m1,e1⟩,⟨B2,m2,e2⟩) from oy)),fun x hx=>by have:=nF x hx;omega,?_⟩;repeat (first | (with_reducible exact B0) | refine Ae ?_ Bo _)
 rw [Ds p0];have P0:=Bq p0;clear p0;by_cases p1:Db y id<0;case pos =>
  have H:=Bq (show Il y id=10 by unfold Il;rw [if_neg (fun h=>h P0.out),if_pos p1]);have H2:=Bq (show Hy y id=y by unfold Hy;rw [H.out,if_neg Bp]);have RES_:=RES.g4;have rf:=RES.free;go_wp2;have en1:w.heap.size+1∉F:=fun hx=>by have:=nF _ hx;omega
  refine Ak (Oe (DBox.row4 RES rfl _ _ _ _)) rfl ⟨(⟨B1,m1,e1⟩,⟨B2,m2,e2⟩),F,by rw [H.out,H2.out],by rw [H2.out];exact (by (repeat (refine Dt.ow_set Bu ?_ en1 _));exact (show Bu.ow _ F y (⟨B1,m1,e1⟩,⟨B2,m2,e2⟩) from oy)),fun x hx=>by have:=nF x hx;omega,?_⟩;repeat (first | (with_reducible exact B0) | refine Ae ?_ Bo _)
 rcases Ek y id with hr | ⟨k,hk,hr⟩
 ·exact absurd hr Bl
 have HK:=Bq (Ey hk hr);have HR2:=Bq hr;rw [hr];clear hr p1;have P1:=Bq (show ¬ Db y id<0 by have:=HR2.out;omega);have gJ:(k:Int)<(n2:Int):=by have:=RdL.at1 (s:=⟨A2,n2,c2⟩) (CX.out _ B0);dsimp only at this;omega
 have dF:(0:Int)<=(k:Int):=Bl;have hkn:¬ (k:Int)<0:=Bl;have bK:=Bq (Er P0.out hk);obtain ⟨gx,ox,_,rfl,kK,_,c0,c1_,c2_,c3_,c4_,c5_,c6,c7_⟩:=(CX.out _ B0).run hk;clear c0 c1_ c2_ c3_ c4_ c5_ c7_;by_cases p2:y.runs[k].state=1;case neg =>
  have q2:(y.runs[k].state != 1)=true:=by simp [p2]
  have H:=Bq (show Il y id=12 by unfold Il;rw [if_neg (fun h=>h P0.out),if_neg P1.out,if_pos (by rw [HK.out];exact p2)]);clear p2;have H2:=Bq (show Hy y id=y by unfold Hy;rw [H.out,if_neg Bp]);have RES_:=RES.g4;have rf:=RES.free;go_wp2;have en1:w.heap.size+1∉F:=fun hx=>by have:=nF _ hx;omega
  refine Ak (Oe (DBox.row4 RES rfl _ _ _ _)) rfl ⟨(⟨B1,m1,e1⟩,⟨B2,m2,e2⟩),F,by rw [H.out,H2.out],by rw [H2.out];exact (by (repeat (refine Dt.ow_set Bu ?_ en1 _));exact (show Bu.ow _ F y (⟨B1,m1,e1⟩,⟨B2,m2,e2⟩) from oy)),fun x hx=>by have:=nF x hx;omega,?_⟩;repeat (first | (with_reducible exact B0) | refine Ae ?_ Bo _)
 have q2:(y.runs[k].state != 1)=false:=by simp [p2]
 have H:=Bq (show Il y id=0 by unfold Il;rw [if_neg (fun h=>h P0.out),if_neg P1.out,if_neg (by rw [HK.out];exact fun h=>h p2)]);have H2:=Bq (show Hy y id=⟨y.now,y.seq,y.shelf,y.runs.set k (C8 y.runs[k] 4)⟩ by unfold Hy;rw [if_pos H.out,HK.out,HR2.out,Int.toNat_natCast]);have P2:=Bq p2;clear p2;go_upto_region 9 with fail
 have oyr:=(Bu.ow_rd (F:=F) (x:=y) (s:=(⟨B1,m1,e1⟩,⟨B2,m2,e2⟩)) oy).2;have dW:=Bq (show m2=y.runs.length from RdL.at1 (s:=⟨B2,m2,e2⟩) oyr);have gL:(k:Int)<(m2:Int):=by have:=dW.out;omega
 obtain ⟨gr,orr,sk,rfl,cQ,bR,d0,d1,d2,d3,d4,d5,d6,d7⟩:=RdL.run (show RdL Cn w4 w4.heap.size (Aa B2 m2 e2) y.runs from oyr) hk;have gM:∀ i,w4.frozen? ⟨gr,i,Ac⟩=false:=by
  obtain ⟨G1,G2,_,_,_,os⟩:=oy;exact OwL.free0 (show OwL Cn w4 G2 (Aa (Ad ⟨gr,orr,Ac⟩) m2 e2) y.runs from os) Bl
 clear X_;clear X c6 q2;generalize mP:y.runs[k]=r at *
 have CSt:=Bq (Aa3 r sk w4.drew (by have:=K7 bK.out;omega) bK.out P2.out (by have:=D4 bK.out;omega) (Cn.rd_below bR (Br _ _).drew));have hobw5:ob<w4:=OB.lt;clear bR oyr mP;go_wp2;refine Dl (fun w'=>w'.cell? ⟨ob,3,Ac⟩=Ad (Aa (Ad ⟨gr,orr,Ac⟩) m2 e2)/\w'.cell? ⟨gr,orr+k * 8,Ac⟩=Ad (J Ab r.id)/\w'.cell? ⟨gr,orr+k * 8+1,Ac⟩=Ad (J Ab r.plan.prio)/\w'.cell? ⟨gr,orr+k * 8+2,Ac⟩=Ad (J Ab r.plan.most)/\w'.cell? ⟨gr,orr+k * 8+3,Ac⟩=Ad (J Ab r.plan.wait)/\w'.cell? ⟨gr,orr+k * 8+4,Ac⟩=Ad (J Ab r.plan.tasks)/\w'.cell? ⟨gr,orr+k * 8+5,Ac⟩=Ad (Aa sk.1.a sk.1.n sk.1.c)/\w'.cell? ⟨gr,orr+k * 8+6,Ac⟩=Ad (J Ab r.state)/\w'.cell? ⟨gr,orr+k * 8+7,Ac⟩=Ad (Aa sk.2.a sk.2.n sk.2.c)) 10 Bm ?_ (fun aA=>?_)
 ·exact ⟨OB_3,d0,d1,d2,d3,d4,d5,d6,d7⟩
 refine aT 0 aA ?_;try simp only [pS]
 refine aT 1 aA ?_;try simp only [pS]
 refine aT 2 aA ?_;try simp only [pS]
 refine aT 3 aA ?_;try simp only [pS]
 refine aT 4 aA ?_;try simp only [pS]
 refine aT 5 aA ?_;try simp only [pS]
 refine aT 6 aA ?_;try simp only [pS]
 refine aT 7 aA ?_;try simp only [pS]
 refine oT 8 (fun K hK=>?_)
 (go_simp;refine CSt.out.mono ?_;rintro e9 w6 ⟨sr,Fr,rfl,orn,nr,b6⟩;have q0:w6.cell? ⟨gr,orr+k * 8,Ac⟩=Ad (J Ab r.id):=(b6.cell (p:=⟨_,_,Ac⟩) (by show gr<w4;omega)).trans d0;have q1:w6.cell? ⟨gr,orr+k * 8+1,Ac⟩=Ad (J Ab r.plan.prio):=(b6.cell (p:=⟨_,_,Ac⟩) (by show gr<w4;omega)).trans d1;have q2:w6.cell? ⟨gr,orr+k * 8+2,Ac⟩=Ad (J Ab r.plan.most):=(b6.cell (p:=⟨_,_,Ac⟩) (by show gr<w4;omega)).trans d2;have q3:w6.cell? ⟨gr,orr+k * 8+3,Ac⟩=Ad (J Ab r.plan.wait):=(b6.cell (p:=⟨_,_,Ac⟩) (by show gr<w4;omega)).trans d3;have q4:w6.cell? ⟨gr,orr+k * 8+4,Ac⟩=Ad (J Ab r.plan.tasks):=(b6.cell (p:=⟨_,_,Ac⟩) (by show gr<w4;omega)).trans d4;have q5:w6.cell? ⟨gr,orr+k * 8+5,Ac⟩=Ad (Aa sk.1.a sk.1.n sk.1.c):=(b6.cell (p:=⟨_,_,Ac⟩) (by show gr<w4;omega)).trans d5;have q6:w6.cell? ⟨gr,orr+k * 8+6,Ac⟩=Ad (J Ab r.state):=(b6.cell (p:=⟨_,_,Ac⟩) (by show gr<w4;omega)).trans d6;have q7:w6.cell? ⟨gr,orr+k * 8+7,Ac⟩=Ad (Aa sk.2.a sk.2.n sk.2.c):=(b6.cell (p:=⟨_,_,Ac⟩) (by show gr<w4;omega)).trans d7;have qf:∀ j,w6.frozen? ⟨gr,j,Ac⟩=false:=fun j=>(b6.frozen (p:=⟨_,_,Ac⟩) (by show gr<w4;omega)).trans (gM j))
 refine hK.out _ _ (fun _=>?_) ?_
 ·exact ⟨(b6.cell (p:=⟨_,_,Ac⟩) (by show ob<w4;omega)).trans OB_3,(b6.cell (p:=⟨_,_,Ac⟩) (by show gr<w4;omega)).trans d0,(b6.cell (p:=⟨_,_,Ac⟩) (by show gr<w4;omega)).trans d1,(b6.cell (p:=⟨_,_,Ac⟩) (by show gr<w4;omega)).trans d2,(b6.cell (p:=⟨_,_,Ac⟩) (by show gr<w4;omega)).trans d3,(b6.cell (p:=⟨_,_,Ac⟩) (by show gr<w4;omega)).trans d4,(b6.cell (p:=⟨_,_,Ac⟩) (by show gr<w4;omega)).trans d5,(b6.cell (p:=⟨_,_,Ac⟩) (by show gr<w4;omega)).trans d6,(b6.cell (p:=⟨_,_,Ac⟩) (by show gr<w4;omega)).trans d7⟩
 clear hK K;try simp only [pS]
 refine oT 9 (fun K hK=>?_);go_simp;refine hK.out _ _ (fun _=>?_) ?_
 ·exact ⟨(b6.cell (p:=⟨_,_,Ac⟩) (by show ob<w4;omega)).trans OB_3,(b6.cell (p:=⟨_,_,Ac⟩) (by show gr<w4;omega)).trans d0,(b6.cell (p:=⟨_,_,Ac⟩) (by show gr<w4;omega)).trans d1,(b6.cell (p:=⟨_,_,Ac⟩) (by show gr<w4;omega)).trans d2,(b6.cell (p:=⟨_,_,Ac⟩) (by show gr<w4;omega)).trans d3,(b6.cell (p:=⟨_,_,Ac⟩) (by show gr<w4;omega)).trans d4,(b6.cell (p:=⟨_,_,Ac⟩) (by show gr<w4;omega)).trans d5,(b6.cell (p:=⟨_,_,Ac⟩) (by show gr<w4;omega)).trans d6,(b6.cell (p:=⟨_,_,Ac⟩) (by show gr<w4;omega)).trans d7⟩
 clear hK K;try simp only [pS]
 refine oT 10 (fun K hK=>?_);go_simp;refine hK.out _ _ (fun aE=>absurd rfl aE) ?_;clear hK K;try simp only [pS]
 refine Eb Bm ?_ _;have b6':Below w4 w4 w6:=Bv (Br _ _).drew b6;have nY:=b6'.size;have kH:=B0.size;have nH:∀ x∈Fr,w4<=x:=nr;have jA:∀ x∈F,x<w4:=Bu.ow_lt (F:=F) (x:=y) (s:=(⟨B1,m1,e1⟩,⟨Ad ⟨gr,orr,Ac⟩,m2,e2⟩)) oy;have oy6:Bu.ow w6 F y (⟨B1,m1,e1⟩,⟨Ad ⟨gr,orr,Ac⟩,m2,e2⟩):=owB oy b6';obtain ⟨F8,oy8,kF,fH⟩:=Pe oy6 (k:=k) hk (r:=C8 r 4) (sr:=sr) orn (fun x hx bF=>by have h1:=nH x hx;have h2:=jA x bF;omega);have jF:Chg [gr] w6 ((((((((w6.setCell ⟨gr,orr+k * 8,Ac⟩ (J Ab (C8 r 4).id)).setCell ⟨gr,orr+k * 8+1,Ac⟩ (J Ab (C8 r 4).plan.prio)).setCell ⟨gr,orr+k * 8+2,Ac⟩ (J Ab (C8 r 4).plan.most)).setCell ⟨gr,orr+k * 8+3,Ac⟩ (J Ab (C8 r 4).plan.wait)).setCell ⟨gr,orr+k * 8+4,Ac⟩ (J Ab (C8 r 4).plan.tasks)).setCell ⟨gr,orr+k * 8+5,Ac⟩ (Aa sr.1.a sr.1.n sr.1.c)).setCell ⟨gr,orr+k * 8+6,Ac⟩ (J Ab (C8 r 4).state)).setCell ⟨gr,orr+k * 8+7,Ac⟩ (Aa sr.2.a sr.2.n sr.2.c)):=Fn (Cn.enc.cells (C8 r 4,sr)) w6 gr (orr+k * 8);have eU:=Bq (show ∀ x,x∈[gr]->x=gr from fun x hx=>by simpa using hx);have mY:=nF gr fH;have hgrl:=cI gr fH;clear OB_0 OB_1 OB_2 OB_3 OB_l;replace OB:=(OB.below b6').chg jF (fun hx=>by have:=eU.out _ hx;omega);replace RES:=(RES.below b6').chg jF (fun hx=>by have:=eU.out _ hx;omega);replace B0:=(Bv B0 b6').trans (jF.below (by have:=(Bv B0 b6').size;omega) (fun x hx=>by have:=eU.out _ hx;omega));have en1:w.heap.size+1∉F8:=fun hx=>by
  rcases kF _ hx with h | h
  ·have:=nF _ h;omega
  ·have:=nH _ h;omega
 have mE:∀ x∈F8,w<=x:=fun x hx=>by
  rcases kF _ hx with h | h
  ·have:=nF _ h;omega
  ·have:=nH _ h;omega
 clear aA oy oy6 b6 b6' nr orn jF CSt d0 d1 d2 d3 d4 d5 d6 d7 gM q0 q1 q2 q3 q4 q5 q6 q7 qf;generalize ((((((((w6.setCell ⟨gr,orr+k * 8,Ac⟩ (J Ab (C8 r 4).id)).setCell ⟨gr,orr+k * 8+1,Ac⟩ (J Ab (C8 r 4).plan.prio)).setCell ⟨gr,orr+k * 8+2,Ac⟩ (J Ab (C8 r 4).plan.most)).setCell ⟨gr,orr+k * 8+3,Ac⟩ (J Ab (C8 r 4).plan.wait)).setCell ⟨gr,orr+k * 8+4,Ac⟩ (J Ab (C8 r 4).plan.tasks)).setCell ⟨gr,orr+k * 8+5,Ac⟩ (Aa sr.1.a sr.1.n sr.1.c)).setCell ⟨gr,orr+k * 8+6,Ac⟩ (J Ab (C8 r 4).state)).setCell ⟨gr,orr+k * 8+7,Ac⟩ (Aa sr.2.a sr.2.n sr.2.c))=w8 at *
 obtain ⟨OB_0,OB_1,OB_2,OB_3,OB_l⟩:=OB.g4;have RES_:=RES.g4;have rf:=RES.free;go_wp2;refine Ak (Oe (DBox.row4 RES rfl _ _ _ _)) rfl ⟨(⟨B1,m1,e1⟩,⟨Ad ⟨gr,orr,Ac⟩,m2,e2⟩),F8,by rw [H.out,H2.out],by rw [H2.out];exact (by (repeat (refine Dt.ow_set Bu ?_ en1 _));exact (show Bu.ow _ F8 ⟨y.now,y.seq,y.shelf,y.runs.set k (C8 r 4)⟩ (⟨B1,m1,e1⟩,⟨Ad ⟨gr,orr,Ac⟩,m2,e2⟩) from oy8)),mE,?_⟩;repeat (first | (with_reducible exact B0) | refine Ae ?_ Bo _)
end
theorem Aeu (l:List Int):l.flatMap Ii.cells=l.map (Value.int .i64):=by
 induction l with
 | nil=>rfl
 | cons a l ih=>rw [List.flatMap_cons,ih];rfl
theorem Ow.intsK (w:World) (E:TypeId) (l:List Int) {cs:Array Value} (mW:cs=(l.map (Value.int .i64)).toArray) {n g base:Nat} (hn:n=l.length) (hg:g=w) (hb:base<=w.heap.size) (hl:l.length<=1000) :
  Ow Ii E (w.alloc (.cells cs E)) base (Aa (Ad ⟨g,0,Ac⟩) n n) l:=by
 subst hn hg mW
 have:=World.ownsRow_lit (base:=base) (e:=E) (size:=Ii.sz) w (l.map (Value.int .i64)).toArray l.length hb (by simp [maxLen];omega) (by simp [Ii])
 unfold Ow;rw [Aeu];exact this
theorem Z3:(An.info? 26).map (fun i=>(i.zero,i.size,i.bytes))=Ad (Ad (Aa Ac 0 0),1,24):=Bm
def Ph (y:Yard) (x:Task):Bool:=(x.state == 3) && decide (x.until_ - 1<=y.now)
def Gg (y:Yard) (k:Nat):Run:=y.runs.getD k Eh
theorem Ee {y:Yard} {k:Nat} (h:k<y.runs.length):Gg y k=y.runs[k]:=by unfold Gg;rw [List.getD_eq_getElem?_getD,List.getElem?_eq_getElem h];rfl
def Jl (y:Yard) (k n:Nat):List (Nat×Nat):=((List.range n).filter fun t=>Ph y (By (Gg y k) t)).map fun t=>(k,t)
def E7 (y:Yard) (k:Nat):List (Nat×Nat):=(List.range k).flatMap fun j=>Jl y j (Gg y j).tasks.length
def Jb (y:Yard) (p:Nat×Nat):List Int:=[(Gg y p.1).id,p.2,(By (Gg y p.1) p.2).try_]
theorem Xi (y:Yard) (k:Nat):Jl y k 0=[]:=rfl
theorem Z6 {y:Yard} {k n:Nat} (h:Ph y (By (Gg y k) n)=true):Jl y k (n+1)=Jl y k n ++ [(k,n)]:=by
 unfold Jl;rw [List.range_succ,List.filter_append,List.map_append];simp [h]
theorem So {y:Yard} {k n:Nat} (h:Ph y (By (Gg y k) n)=false):Jl y k (n+1)=Jl y k n:=by
 unfold Jl;rw [List.range_succ,List.filter_append,List.map_append];simp [h]
theorem Rg (y:Yard) (k:Nat):E7 y (k+1)=E7 y k ++ Jl y k (Gg y k).tasks.length:=by
 unfold E7;rw [List.range_succ,List.flatMap_append];simp
theorem Ti (y:Yard) (k n:Nat):(Jl y k n).length<=n:=by
 unfold Jl;rw [Au];exact Ai (List.length_filter_le _ _) Bn
theorem La {y:Yard} (h:∀ j,(Gg y j).tasks.length<=12):∀ k,(E7 y k).length<=12 * k
 | 0=>by simp [E7]
 | k+1=>by
  rw [Rg,Bd];have h1:=La h k;have h2:=Ti y k (Gg y k).tasks.length;have h3:=h k;omega
theorem Nt {y:Yard} (h:Dn y) (j:Nat):(Gg y j).tasks.length<=12:=by
 by_cases q:j<y.runs.length
 ·rw [Ee q];exact (D4 (Er h q)).2
 ·unfold Gg;rw [List.getD_eq_getElem?_getD,List.getElem?_eq_none Bl];simp [Eh]
theorem Xj {y:Yard} (h:Dn y) {k t:Nat} (hk:k<y.runs.length) (ht:t<y.runs[k].tasks.length) (hs:y.runs[k].tasks[t].state=3):y.now+1<=y.runs[k].tasks[t].until_/\y.runs[k].tasks[t].until_<=1000000000:=by
 have h1:=h.2.2.2.2.2.2.2.2.1 y.runs[k] (Ax hk) t ht;unfold Qk at h1;rw [Co ht] at h1;have h2:=h1.2 hs;have h3:=(Er h hk).2.2.2.1 t ht;unfold Gz Ls at h3;rw [Co ht] at h3;have h4:=h3.2.2.2.1 hs;omega
theorem Abg (y:Yard) (s:Sl×Sl) (w:World) (hl:Cf y<=2000000) (hY:Dn y) (h:Bu.rd w w y s) :
  Calls An 251 #[Dh y s] w (Fa (Dt.list (Dt.flats Ii)) slV ((E7 y y.runs.length).map (Jb y)) w):=by
 obtain ⟨⟨A1,n1,c1⟩,⟨A2,n2,c2⟩⟩:=s;obtain rfl:n2=y.runs.length:=RdL.at1 (s:=⟨A2,n2,c2⟩) h.2;have CX:=Bq (fun W (hW:Below w w W)=>show RdL Cn W w.heap.size (Aa A2 y.runs.length c2) y.runs from (Bu.rd_below (x:=y) (s:=(⟨A1,n1,c1⟩,⟨A2,y.runs.length,c2⟩)) h hW).2);have nW:y.runs.length<=8:=hY.2.2.2.2.2.2.1;have HP:=Bq hY;clear h hY;obtain ⟨it,i0,z0,z1,z2⟩:=info_parts Z3;have X:=DBox.new 31 [J Ab y.now,J Ab y.seq,Aa A1 n1 c1,Aa A2 y.runs.length c2] w (b:=w) rfl;have B0:Below w w (w.alloc (.cells #[J Ab y.now,J Ab y.seq,Aa A1 n1 c1,Aa A2 y.runs.length c2] 31)):=by repeat (first | exact Br _ _ | refine Below.alloc ?_ Bo _)
 go_enter func251,ntmps251;go_wp2;have uV:w.heap.size+1=(w.alloc (.cells #[J Ab y.now,J Ab y.seq,Aa A1 n1 c1,Aa A2 y.runs.length c2] 31)).heap.size:=Bn;have o0:=Ow.empty (Dt.flats Ii).enc 26 (w.alloc (.cells #[J Ab y.now,J Ab y.seq,Aa A1 n1 c1,Aa A2 y.runs.length c2] 31)) rfl;have b0:Below (w.alloc (.cells #[J Ab y.now,J Ab y.seq,Aa A1 n1 c1,Aa A2 y.runs.length c2] 31)) (w.alloc (.cells #[J Ab y.now,J Ab y.seq,Aa A1 n1 c1,Aa A2 y.runs.length c2] 31)) ((w.alloc (.cells #[J Ab y.now,J Ab y.seq,Aa A1 n1 c1,Aa A2 y.runs.length c2] 31)).alloc (.cells #[] 26)):=Bt;replace X:=X.below b0;replace B0:=Bv B0 b0;rw [<-uV] at o0;go_loopw [3,4] (fun v i wr=>∃ k:Nat,k<=y.runs.length/\i = J Ab k/\Hid (Bls (Dt.flats Ii) 26 wr (w+1) v ((E7 y k).map (Jb y)))/\DBox w [J Ab y.now,J Ab y.seq,Aa A1 n1 c1,Aa A2 y.runs.length c2] wr/\Below w w wr) (fun _ i _=>y.runs.length - (intOf i).toNat);case atStart=>exact ⟨0,Ah _,rfl,⟨[],rfl,Bld.of_empty o0⟩,X,B0⟩
 case round =>
  clear X B0 o0 b0 uV;obtain ⟨k,hk,rfl,hB,X,hb⟩:=hrel;have X_:=X.g4;by_cases aB:k<y.runs.length
  ·have aC:(k:Int)<(y.runs.length:Int):=Bl;have dF:(0:Int)<=(k:Int):=Bl;go_wp2;go_loopw [3,5,6] (fun vv i u wr=>∃ (n:Nat) (v:Value),n<=y.runs[k].tasks.length/\i = J Ab n/\v=vv/\Hid (Bls (Dt.flats Ii) 26 wr (w+1) v ((E7 y k ++ Jl y k n).map (Jb y)))/\DBox w [J Ab y.now,J Ab y.seq,Aa A1 n1 c1,Aa A2 y.runs.length c2] wr/\Below w w wr) (fun _ i _ _=>y.runs[k].tasks.length - (intOf i).toNat);case atStart=>exact ⟨0,_,Ah _,rfl,rfl,by rw [Xi,List.append_nil];exact hB,X,hb⟩
   case round =>
    clear X_;clear X hb hB;obtain ⟨n,v,hn,rfl,rfl,hB,X,hb⟩:=hrel;obtain ⟨b,o,⟨s1,⟨At,nt,ct⟩⟩,rfl,aH,bP,c0,c1_,c2_,c3_,c4_,c5_,c6_,c7⟩:=(CX.out wr hb).run aB;obtain rfl:nt=y.runs[k].tasks.length:=RdL.at1 (s:=⟨At,nt,ct⟩) bP.2;have h3:RdL Eu wr w (Aa At y.runs[k].tasks.length ct) y.runs[k].tasks:=bP.2;clear c1_ c2_ c3_ c4_ c5_ c6_ bP;have X_:=X.g4;have hwrs:=hb.size;by_cases eY:n<y.runs[k].tasks.length
    ·have fK:=(D4 (Er HP.out aB)).2;have pA:(n:Int)<(y.runs[k].tasks.length:Int):=Bl;have uS:(0:Int)<=(n:Int):=Bl;obtain ⟨b',o',_,rfl,bS,_,d0,d1,d2,d3⟩:=h3.task eY;have hU:=Bq (fun hs=>Xj HP.out aB eY hs);have hJ:=Bq (show By (Gg y k) n=y.runs[k].tasks[n] by rw [Ee aB,Co eY]);have hRow:Hid (Jb y (k,n)=[y.runs[k].id,(n:Int),y.runs[k].tasks[n].try_]):=by
      show Jb y (k,n)=_;unfold Jb;rw [hJ.out,Ee aB]
     have aK:=Bq (show (E7 y k ++ Jl y k n).length<=3000000 by
      have h1:=La (Nt HP.out) k;have h2:=Ti y k n;have h5:=(D4 (Er HP.out aB)).2;rw [Bd];omega)
     generalize y.runs[k].tasks[n]=x at *
     generalize y.runs[k].id=rid at *
     have TB:=DBox.new 203 [J Ab x.state,J Ab x.need,J Ab x.try_,J Ab x.until_] wr (b:=wr) rfl;have b2:Below wr wr (wr.alloc (.cells #[J Ab x.state,J Ab x.need,J Ab x.try_,J Ab x.until_] 203)):=Bt;go_upto_region 9 with fail
     clear X_;replace X:=X.below b2;have aJ:=Bv hb b2;have jH:=hB.out.below b2;have dN:=TB.lt;have jY:=X.lt;replace c0:=(b2.cell (p:=⟨b,_,Ac⟩) (by show b<wr;omega)).trans c0;have hvb:=Bq (show ∀ z,v.ownBlock=Ad z->w.heap.size+1<=z/\z≠wr.heap.size/\z≠b from fun z hz=>by
      obtain ⟨rs,hm,mI⟩:=hB.out;have h1:=mI.ow.within z hz;omega)
     have bN:b<(wr.alloc (.cells #[J Ab x.state,J Ab x.need,J Ab x.try_,J Ab x.until_] 203)):=by simp;omega
     clear b2 c7 d0 d1 d2 d3 hb hB;generalize wr.alloc (.cells #[J Ab x.state,J Ab x.need,J Ab x.try_,J Ab x.until_] 203)=w2 at *
     generalize htb:wr.heap.size=tb at *
     have X_:=X.g4;obtain ⟨TB_0,TB_1,TB_2,TB_3,TB_l⟩:=TB.g4;by_cases q:x.state=3;case neg =>
      have q1:(x.state == 3)=false:=by simp [q]
      have S:=Bq (So (y:=y) (k:=k) (n:=n) (by rw [hJ.out];unfold Ph;rw [q1];rfl));clear q;go_wp2;exact ⟨⟨n+1,v,eY,by go_num,rfl,by rw [S.out];exact jH,X,aJ⟩,clM⟩
     have q1:(x.state == 3)=true:=by simp [q]
     have hu:=hU.out q;have wr1:Ab.wrap (x.until_ - 1)=x.until_ - 1:=IntWalk.i64_in _ (by have:=HP.out.1;omega);have q2:¬ x.until_<=y.now:=Bl;by_cases q3:x.until_ - 1<=y.now;case neg =>
      have S:=Bq (So (y:=y) (k:=k) (n:=n) (by rw [hJ.out];unfold Ph;rw [q1,decide_eq_false q3];rfl));clear q hu;go_wp2;exact ⟨⟨n+1,v,eY,by go_num,rfl,by rw [S.out];exact jH,X,aJ⟩,clM⟩
     have S:=Bq (Z6 (y:=y) (k:=k) (n:=n) (by rw [hJ.out];unfold Ph;rw [q1,decide_eq_true q3];rfl));clear q hu;go_wp2;clear TB_0 TB_1 TB_2 TB_3 TB_l;refine Go.wp_region_noPanic ?_;refine wp_region_held_drew (S:=(fun w'=>DBox w [J Ab y.now,J Ab y.seq,Aa A1 n1 c1,Aa (Ad ⟨b,o,Ac⟩) y.runs.length c2] w'/\w'.cell? ⟨b,o+k * 8,Ac⟩=Ad (J Ab rid)/\DBox tb [J Ab x.state,J Ab x.need,J Ab x.try_,J Ab x.until_] w')) Bm ⟨DBox.drew4 X,c0,DBox.drew4 TB⟩ (fun aA=>?_);have rH:=aJ.drew;have jR:=jH.below (Br _ _).drew;have hsd:w2.drew.heap.size=w2.heap.size:=rfl;clear X_;clear X c0 TB aJ jH;rw [<-hsd] at bN dN jY;clear hsd;generalize w2.drew=w3 at *
     refine tV 0 ?_
     (try simp only [pS])
     refine tV 1 ?_
     (try simp only [pS])
     refine tV 2 ?_
     (try simp only [pS])
     refine tV 3 ?_
     (try simp only [pS])
     refine tV 4 ?_
     (try simp only [pS])
     refine tV 5 ?_
     (try simp only [pS])
     refine tV 6 ?_
     (try simp only [pS])
     refine tV 7 ?_
     (try simp only [pS])
     refine tV 8 ?_
     (try simp only [pS])
     refine tV 9 ?_
     (try simp only [pS])
     refine rC 10 (fun K_ hK=>?_);go_simp;have o9:=Ow.intsK w3 3 [rid,(n:Int),x.try_] (cs:=#[J Ab rid,J Ab (n:Int),J Ab x.try_]) rfl (n:=3) (g:=w3) (base:=w3) rfl rfl (Bs _) Bn;have b4:Below w3 w3 (w3.alloc (.cells #[J Ab rid,J Ab (n:Int),J Ab x.try_] 3)):=Bt;have kH:=b4.size;obtain ⟨hw9,uH⟩:=Hw.of_ow o9;refine hK.out _ _ ⟨aA.1.below b4,(b4.cell (p:=⟨b,_,Ac⟩) bN).trans aA.2.1,aA.2.2.below b4⟩ (fun aA=>?_);clear hK K_
     (try simp only [pS])
     generalize gX:w3.heap.size=g9 at *
     generalize w3.alloc (.cells #[J Ab rid,J Ab (n:Int),J Ab x.try_] 3)=w4 at *
     refine rC 11 (fun K_ hK=>?_);go_simp;have b5:Below w4 w4 (w4.alloc (.cells #[Aa (Ad ⟨g9,0,Ac⟩) 3 3] 26)):=Bt;have hbw4:b<w4:=Bl;refine hK.out _ _ ⟨aA.1.below b5,(b5.cell (p:=⟨b,_,Ac⟩) hbw4).trans aA.2.1,aA.2.2.below b5⟩ (fun aA=>?_);clear hK K_
     (try simp only [pS])
     obtain ⟨rs,hm,jN⟩:=jR;have cK:rs.length<=3000000:=by
      have h1:=congrArg List.length hm;rw [Au,Au] at h1;rw [h1];exact aK.out
     have tS:=Bq cK;clear cK;have b45:=Bv (by rw [gX];exact b4) b5;refine rC 12 (fun K_ hK=>?_);refine Fe _ (Dt.flats Ii).enc Bp (.tmp 53) (.tmp 64) 254 rfl (w.heap.size+1) 26 _ _ _ underlying254 i0 z0 z1 z2 rfl v rs rfl (jN.ow.below b45) _ _ _ _ [([rid,(n:Int),x.try_],(⟨Ad ⟨g9,0,Ac⟩,3,3⟩:Sl))] rfl (Rd.one (Dt.flats Ii).enc _ _ ([rid,(n:Int),x.try_],(⟨Ad ⟨g9,0,Ac⟩,3,3⟩:Sl)) rfl rfl 1 (Bs _) (Nat.lt_succ_self _)) tS.out Bn Bp (by have:=b45.size;omega) ?_;intro v6 w6 o6 gg f6;have hP:=Bld.push1 (d:=Dt.flats Ii) (x:=[rid,(n:Int),x.try_]) (s:=(⟨Ad ⟨g9,0,Ac⟩,3,3⟩:Sl)) jN (by rw [gX];exact b4) hw9 (fun y hy=>by rw [gX];exact uH y hy) Bl b5 o6 gg f6;have pI:∀ z,v.ownBlock=Ad z->w.heap.size+1<=z/\z≠tb/\z≠b:=fun z hz=>hvb.out z hz;have X6:=aA.1.off gg (fun e=>by have:=(pI _ e.symm).1;omega);have T6:=aA.2.2.off gg (fun e=>(pI _ e.symm).2.1 rfl);have hbw5:b<(w4.alloc (.cells #[Aa (Ad ⟨g9,0,Ac⟩) 3 3] 26)):=by have:=b5.size;omega
     have c6:=(gg.cell_far ⟨b,o+k * 8,Ac⟩ hbw5 (fun e=>(pI _ e.symm).2.2 rfl)).trans aA.2.1;have rF:Below w w w6:=(Bv rH b45).grown gg (Bv rH b45).size (fun g hg=>by have:=(pI g hg).1;omega);have kE:(rs ++ [([rid,(n:Int),x.try_],(⟨Ad ⟨g9,0,Ac⟩,3,3⟩:Sl))]).map (·.1)=(E7 y k ++ Jl y k (n+1)).map (Jb y):=by
      simp only [List.map_append,List.map_cons,List.map_nil,hm,S.out,hRow.out,List.append_assoc]
     have hB6:Bls (Dt.flats Ii) 26 w6 (w+1) v6 ((E7 y k ++ Jl y k (n+1)).map (Jb y)):=⟨_,kE,hP⟩
     refine hK.out _ _ ⟨X6,c6,T6⟩ (fun aA=>?_);clear hK K_
     (try simp only [pS])
     refine tV 13 ?_
     (try simp only [pS])
     refine wpAnyH_done Bm ?_ _;refine NoPanic.normal ?_;have hB7:=Bq hB6;clear aA hP kE hB6 hm jN gg o6 f6 T6 c6;go_wp2;refine ⟨⟨n+1,eY,by go_num,?_⟩,clM⟩;rw [<-List.map_append];exact hB7
    ·have pA:¬ (n:Int)<(y.runs[k].tasks.length:Int):=Bl;have S:=Bq (show E7 y (k+1)=E7 y k ++ Jl y k n by
      rw [Rg,show (Gg y k).tasks.length=n by rw [Ee aB];omega])
     go_wp2;exact ⟨⟨k+1,Bl,by go_num,by rw [S.out];exact hB,X,hb⟩,clM⟩
  ·have aC:¬ (k:Int)<(y.runs.length:Int):=Bl;obtain rfl:k=y.runs.length:=Bl;obtain ⟨rs,hm,mI⟩:=hB.out;obtain ⟨F,h1,h2⟩:=mI.owl hm;obtain ⟨A,c,hv,_⟩:=h1.form;rw [Au] at hv;subst hv;have dK:Fa (Dt.list (Dt.flats Ii)) slV ((E7 y y.runs.length).map (Jb y)) w (.returned (Aa A (E7 y y.runs.length).length c)) wr:=⟨⟨A,_,c⟩,F,rfl,h1,fun x hx=>by have:=h2 x hx;omega,hb⟩
   clear hB mI h1;go_wp2;go_ret;exact dK
end Go.Proofs.YtecnbnbopcblgaaGreat
