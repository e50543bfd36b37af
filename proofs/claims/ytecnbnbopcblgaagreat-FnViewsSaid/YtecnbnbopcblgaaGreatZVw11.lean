/-
  The entries of a yard that stand ready (ReadyOf of both packages). Poll of the reference. Written by program (kv.py). RunNew of the reference.  VictimsOf of the
-/
import Derived.Test.YtecnbnbopcblgaaGreatZVw0
import Derived.Test.YtecnbnbopcblgaaGreatZVw4
import Derived.Test.YtecnbnbopcblgaaGreatZVw7
import Derived.Test.YtecnbnbopcblgaaGreatZVw9
import Derived.Test.YtecnbnbopcblgaaGreatZVw10
namespace Go.Proofs.YtecnbnbopcblgaaGreat
open Go.RowKit
set_option maxRecDepth 100000
set_option maxHeartbeats 4000000
set_option linter.unusedVariables false
set_option linter.unusedSimpArgs false
open Value renaming int->J,slice->Aa
open IntKind renaming i64->Ab
open Option renaming none->Ac,some->Ad
open Below renaming setCell->Ae
open Nat renaming zero_le->Ah
open Go renaming bodyPost_ret->Ak
open Go.Proofs.Tryz renaming prog->An
open Int renaming toNat_natCast->Ap,eq_ofNat_of_zero_le->Aq
open IntWalk renaming i64_in->Ar
open List renaming mem_singleton->Aw,getElem_mem->Ax,nodup_append->Ay,length_take->A0,mem_append_right->Be,take_of_length_le->Bg,length_set->Bh
open Go.Proofs.Tryz
noncomputable def Jt (y:Yard):List Entry:=(Ci y).filter fun e=>Di y e
theorem N8 {y:Yard} (hl:Cf y<=2000000):(Ci y).length<=2000000:=by
 have:=(Kn hl 0).2
 omega
theorem Chg.grownMix {F:List Nat} {a w w':World} {row:Option Nat} (h:Chg F a w) (hg:w.grownBy w' row) (hr:∀ g,row=Ad g->g∈F\/a.heap.size<=g):Chg F a w' :=
 ⟨hg.os.trans h.os,hg.tape.trans h.tape,hg.output.trans h.output,Nat.le_trans h.size hg.size,fun i hi hn=>(hg.block i (Nat.lt_of_lt_of_le hi h.size) (fun e=>by
  rcases hr i e.symm with h1 | h1
  ·exact hn h1
  ·omega)).trans (h.block i hi hn)⟩
theorem Y1 (y:Yard) (s:Sl×Sl) (w:World) (hl:Cf y<=2000000) (h:Bu.rd w w y s) :
  Calls An 80 #[Dh y s] w fun e w'=>∃ v,e = .returned v/\Ow Cw 71 w' w v (Jt y)/\Below w w w':=by
 have CE:=Bq (fun W (hW:Below w w W)=>Lm y s W hl (Bu.rd_more (Bu.rd_below h hW) hW.size));have CF:=Bq (fun W (hW:Below w w W) e=>M3 y s e W hl (Bu.rd_more (Bu.rd_below h hW) hW.size));obtain ⟨⟨A1,n1,c1⟩,⟨A2,n2,c2⟩⟩:=s;have HL:=N8 hl;have HD:Hid (Jt y=(Ci y).filter fun e=>Di y e):=rfl;obtain ⟨i0,aQ,aW,aU,aR⟩:=info_parts Gi;clear h hl;obtain ⟨W,aG,X,B0⟩:=bx1 w 31 [J Ab y.now,J Ab y.seq,Aa A1 n1 c1,Aa A2 n2 c2];go_enter func80,ntmps80;go_wp2_with fail
 rw [<-aG.out];clear aG;refine (CE.out _ B0).mono ?_;rintro e w2 ⟨v,rfl,o2,b2⟩;generalize Ci y=L at *
 obtain ⟨A3,c3,rfl,-⟩:=id (Rd.of_own o2);replace X:=X.below b2;replace B0:=Bv B0 b2;have jY:=X.lt;have cN:=B0.size;go_wp2;go_loopw [3,9] (fun v i wr=>∃ k:Nat,k<=L.length/\i = J Ab k/\Hid (Ow Cw 71 wr w2 v ((L.take k).filter fun e=>Di y e))/\Below w2 w2 wr) (fun _ i _=>L.length - (intOf i).toNat);case atStart=>exact ⟨0,Ah _,rfl,Ow.nil Cw 71 w2 w2,Br _ _⟩
 case round =>
  obtain ⟨k,hk,rfl,hO,hb⟩:=hrel;replace X:=X.below hb;have X_:=X.g4;by_cases aB:k<L.length
  ·have aC:(k:Int)<(L.length:Int):=Bl;obtain ⟨b,o,_,fC,aH,_,d0,d1,d2,d3⟩:=RdL.entry (Js (Rd.of_own (o2.below hb))) aB;subst fC;have Hl:=Bq (show ((L.take k).filter fun e=>Di y e).length<=3000000 by have h1:=List.length_filter_le (fun e=>Di y e) (L.take k);rw [A0] at h1;omega);have HY:=Bq (H7 (p:=fun e=>Di y e) aB);have HN:=Bq (Iq (p:=fun e=>Di y e) aB);have qd:Hid (Di y L[k]=Di y L[k]):=rfl;have ha:Below wr wr (wr.alloc (.cells #[J Ab L[k].prio,J Ab L[k].seq,J Ab L[k].run,J Ab L[k].task] 71)):=Bt;have C:=Bq (CF.out _ (Bv (Bv B0 hb) ha) L[k]);have E:=DBox.new 71 [J Ab L[k].prio,J Ab L[k].seq,J Ab L[k].run,J Ab L[k].task] wr (b:=wr) rfl;generalize L[k]=e9 at *
   have bU:=Bv hb ha;have eD:=hO.out.below ha;go_wp2_with fail
   clear X_;replace X:=X.below ha;generalize wr.alloc (.cells #[J Ab e9.prio,J Ab e9.seq,J Ab e9.run,J Ab e9.task] 71)=w3 at *
   refine C.out.mono ?_;rintro e w4 ⟨rfl,b4⟩;replace E:=E.below b4;replace bU:=Bv bU b4;replace eD:=eD.below b4;have E_:=E.g4;have cJ:=hb.size;have hbs3:=bU.size;clear C HD CE CF;cases qf:Di y e9
   ·have S:=Bq (HN.out qf);clear qf;go_wp2;exact ⟨⟨k+1,Bl,by go_num,by rw [S.out];exact eD,bU⟩,clM⟩
   ·have S:=Bq (HY.out qf);clear qf;have ha:Hid (∀ w:World,Below w w (w.alloc (.cells #[J Ab e9.prio,J Ab e9.seq,J Ab e9.run,J Ab e9.task] 71))):=fun w=>Bt;go_wp2_with (at_builtin;go_loud (refine Cj _ Cw Bp rfl (.tmp 16) (.tmp 18) rfl underlying74 aQ aW aU aR rfl (base:=w2) (l:=(L.take k).filter fun e=>Di y e) rfl (eD.below (ha.out w4)) rfl (Rd.one Cw _ _ e9 rfl rfl 1 (Bs _) (Nat.lt_succ_self _)) Hl.out Bn Bp (by simp;omega) ?_);intro v5 w5 o5 g5 _)
    have dM:Below w2 w2 w5:=(Bv bU (ha.out w4)).grown g5 (Bv bU (ha.out w4)).size (fun g hg=>by have:=eD.within _ hg;omega);exact ⟨⟨k+1,Bl,by go_num,by rw [S.out];exact o5,dM⟩,clM⟩
  ·have aC:¬ (k:Int)<(L.length:Int):=Bl;have cE:=hO.out;rw [Bg Bl] at cE;go_wp2;go_ret;exact ⟨_,rfl,by rw [HD.out];exact cE.more Bl,Bv B0 hb⟩
theorem Y2 (y:Yard) (s:Sl×Sl) (w:World) (hl:Cf y<=2000000) (h:Bu.rd w w y s) :
  Calls An 25 #[Dh y s] w fun e w'=>∃ v,e = .returned v/\Ow Cw 71 w' w v (Jt y)/\Below w w w':=by
 have CE:=Bq (fun W (hW:Below w w W)=>Ln y s W hl (Bu.rd_more (Bu.rd_below h hW) hW.size));have CF:=Bq (fun W (hW:Below w w W) e=>M4 y s e W hl (Bu.rd_more (Bu.rd_below h hW) hW.size));obtain ⟨⟨A1,n1,c1⟩,⟨A2,n2,c2⟩⟩:=s;have HL:=N8 hl;have HD:Hid (Jt y=(Ci y).filter fun e=>Di y e):=rfl;obtain ⟨i0,aQ,aW,aU,aR⟩:=info_parts Gi;clear h hl;obtain ⟨W,aG,X,B0⟩:=bx1 w 31 [J Ab y.now,J Ab y.seq,Aa A1 n1 c1,Aa A2 n2 c2];have q0:Hid (∀ W:World,Below W W (W.alloc (.cells #[] 71))):=fun W=>Bt;go_enter func25,ntmps25;go_upto_region 2 with fail
 have hz:W.heap.size=w.heap.size+1:=by rw [aG.out];simp
 rw [<-aG.out];clear aG;have o0:=Ow.empty Cw 71 W hz.symm;have hXl0:=X.lt;replace X:=X.below (q0.out W);replace B0:=Bv B0 (q0.out W);generalize W.alloc (.cells #[] 71)=w1 at *
 have X_:=X.g4;go_wp2_with fail
 refine (CE.out _ B0).mono ?_;rintro e w2 ⟨v,rfl,o2,b2⟩;generalize Ci y=L at *
 obtain ⟨A3,c3,rfl,-⟩:=id (Rd.of_own o2);clear X_;have bG:w.heap.size+1<w1.heap.size:=by have:=o0.within _ rfl;have h3:=(o0.form.resolve_left (fun h=>by simp at h));obtain ⟨_,_,e,_,h4,_⟩:=h3;simp only [Value.slice.injEq,Option.some.injEq,Addr.mk.injEq] at e;omega
 have cN:=b2.size;replace X:=X.below b2;replace B0:=Bv B0 b2;replace o0:=o0.below b2;have jY:=X.lt;have ho:=Js (Rd.of_own o2);have hL3:Hid (∀ g o c,A3=Ad ⟨g,o,c⟩->g≠w.heap.size+1):=fun g o c e=>by
  subst e
  have:=o2.within g rfl
  omega
 go_wp2;go_loopw [3,5] (fun v i wr=>∃ k:Nat,k<=L.length/\i = J Ab k/\Hid (Ow Cw 71 wr (w+1) v ((L.take k).filter fun e=>Di y e))/\Hid (∀ g,v.ownBlock=Ad g->g∈[w.heap.size+1]\/w2.heap.size<=g)/\Chg [w.heap.size+1] w2 wr) (fun _ i _=>L.length - (intOf i).toNat);case atStart=>exact ⟨0,Ah _,rfl,o0,fun g hg=>.inl (by cases hg;simp),Chg.refl _ _⟩
 case round =>
  obtain ⟨k,hk,rfl,hO,hV,hc⟩:=hrel;have hb:=hc.below (base:=w+1) Bl (fun x hx=>by rw [Aw.1 hx];exact Bs _);replace X:=X.chg hc (fun hx=>by have:=Aw.1 hx;omega);have X_:=X.g4;have cJ:=hc.size;by_cases aB:k<L.length
  ·have aC:(k:Int)<(L.length:Int):=Bl;have dF:(0:Int)<=(k:Int):=Bl;obtain ⟨b,o,_,fC,aH,_,d0,d1,d2,d3⟩:=RdL.entry ho aB;have dP:b∉[w.heap.size+1]:=fun hx=>hL3.out _ _ _ fC (Aw.1 hx);subst fC;replace d0:=(hc.cell (p:=⟨b,_,Ac⟩) aH dP).trans d0;replace d1:=(hc.cell (p:=⟨b,_,Ac⟩) aH dP).trans d1;replace d2:=(hc.cell (p:=⟨b,_,Ac⟩) aH dP).trans d2;replace d3:=(hc.cell (p:=⟨b,_,Ac⟩) aH dP).trans d3;replace aH:b<wr:=Bl;have Hl:=Bq (show ((L.take k).filter fun e=>Di y e).length<=3000000 by have h1:=List.length_filter_le (fun e=>Di y e) (L.take k);rw [A0] at h1;omega);have HY:=Bq (H7 (p:=fun e=>Di y e) aB);have HN:=Bq (Iq (p:=fun e=>Di y e) aB);have hB:=B0.trans (hb.mono (by have:=B0.size;omega));have C:=Bq (fun (u:J7 wr)=>CF.out u.1 (Bv hB u.2) L[k]);have aN:=Df wr;generalize L[k]=e9 at *
   cases qf:Di y e9;all_goals
    have qF:=Bq qf;clear qf;rw [qF.out] at C;go_wp2;refine Bz Bm Bm ?_;repeat (go_big_quiet_step ((go_at_call 82;rename_i x;have h1:=C.out x;exact Fk h1)))
    refine wpQuiet_nil ?_;rintro w3 ⟨⟨_,b3⟩,rfl⟩;clear aN;have bU:=hc.trans (Chg.of_below _ b3);have eD:=hO.out.below b3;have hbs3:=bU.size
   ·have S:=Bq (HN.out qF.out);go_wp2;exact ⟨⟨k+1,Bl,by go_num,by rw [S.out];exact eD,hV,bU⟩,clM⟩
   ·have S:=Bq (HY.out qF.out);replace d0:=(b3.cell (p:=⟨b,_,Ac⟩) aH).trans d0;replace d1:=(b3.cell (p:=⟨b,_,Ac⟩) aH).trans d1;replace d2:=(b3.cell (p:=⟨b,_,Ac⟩) aH).trans d2;replace d3:=(b3.cell (p:=⟨b,_,Ac⟩) aH).trans d3;have hbb3:b<w3:=by have:=b3.size;omega
    have ha:Hid (∀ w:World,Below w w (w.alloc (.cells #[J Ab e9.prio,J Ab e9.seq,J Ab e9.run,J Ab e9.task] 71))):=fun w=>Bt;go_wp2_with (at_builtin;go_loud (refine Cj _ Cw Bp rfl (.tmp 21) (.tmp 26) rfl underlying74 aQ aW aU aR rfl (base:=w+1) (l:=(L.take k).filter fun e=>Di y e) rfl (eD.below (ha.out w3)) rfl (Rd.one Cw _ _ e9 rfl rfl 1 (Bs _) (Nat.lt_succ_self _)) Hl.out Bn Bp (by simp;omega) ?_);intro v5 w5 o5 g5 g6)
    have dM:Chg [w.heap.size+1] w2 w5:=(bU.trans (Chg.of_below _ (ha.out w3))).grownMix g5 hV.out;have fS:=bU.size;exact ⟨⟨k+1,Bl,by go_num,by rw [S.out];exact o5,fun g hg=>by
     rcases g6 with h | h
     ·exact hV.out g (h.symm.trans hg)
     ·rw [h] at hg;cases hg;exact .inr (by simp;omega),dM⟩,clM⟩
  ·have aC:¬ (k:Int)<(L.length:Int):=Bl;have cE:=hO.out;rw [Bg Bl] at cE;go_wp2;go_ret;exact ⟨_,rfl,by rw [HD.out];exact cE.more Bl,B0.trans (hb.mono (by have:=B0.size;omega))⟩
theorem N9 (r:Run) (t:Nat) (now:Int):(De r t now).tasks.length=r.tasks.length:=by
 simp [De,Ic]
theorem Aes (r:Run) (t:Nat) (now:Int) (h:t<r.tasks.length):((De r t now).tasks[t]'(by rw [N9];exact h)).try_=r.tasks[t].try_+1:=by
 unfold De;simp only [Ig h,List.getElem_set_self]
def Vp (o:Yard×Reply) (w:World) (e:Ending) (w':World):Prop :=
 ∃ (s:Sl×Sl) (F:List Nat),e = .returned (.tuple #[Dh o.1 s,Ajc o.2 ()])/\Bu.ow w' F o.1 s/\(∀ b∈F,w<=b)/\Below w w w'
theorem Sn {b c:Nat} {w:World} {u0 u1 u2 u3 v0 v1 v2 v3:Value} (X:DBox b [u0,u1,u2,u3] w) (Y:DBox c [v0,v1,v2,v3] w) {x0 x1 x2 x3 x4 x5:Value} {rest:List Value} :
  (results Tryz.f165 (x0 :: x1 :: x2 :: x3 :: x4 :: x5 :: .pointer (Ad ⟨b,0,Ac⟩) :: .pointer (Ad ⟨c,0,Ac⟩) :: rest).toArray).run An w = .ok (.tuple #[.agg #[u0,u1,u2,u3],.agg #[v0,v1,v2,v3]]) w:=by
 have c0:=X.cell 0 _ rfl;have c1:=X.cell 1 _ rfl;have c2:=X.cell 2 _ rfl;have c3:=X.cell 3 _ rfl;have d0:=Y.cell 0 _ rfl;have d1:=Y.cell 1 _ rfl;have d2:=Y.cell 2 _ rfl;have d3:=Y.cell 3 _ rfl;simp [results,results165,go_sem,c0,c1,c2,c3,d0,d1,d2,d3]
theorem Chg.cells4 (w:World) (b i j k l:Nat) (u0 u1 u2 u3:Value):Chg [b] w ((((w.setCell ⟨b,i,Ac⟩ u0).setCell ⟨b,j,Ac⟩ u1).setCell ⟨b,k,Ac⟩ u2).setCell ⟨b,l,Ac⟩ u3) :=
 (((Chg.setCell w b i u0).trans (Chg.setCell _ b j u1)).trans (Chg.setCell _ b k u2)).trans (Chg.setCell _ b l u3)
theorem OwL.block_mem {α:Type} {d:Dt α} {w:World} {F:List Nat} {b o n c:Nat} {l:List α} (h:OwL d w F (Aa (Ad ⟨b,o,Ac⟩) n c) l) (hp:0<l.length):b∈F:=by
 obtain ⟨_,_,_,_,_,hb,_⟩:=h.elem hp;exact hb
abbrev Ev (y:Yard) (s:Sl×Sl):List Value:=[.int .i64 y.now,.int .i64 y.seq,.slice s.1.a s.1.n s.1.c,.slice s.2.a s.2.n s.2.c]
theorem Abb (y:Yard) (s:Sl×Sl) (worker:Int) (d:Nat) (w:World) (hl:Cf y<=2000000) (hd:d<=1000000000) (h:Bu.rd w w y s) :
  Calls An 165 #[Dh y s,J Ab worker,J Ab (d:Int)] w (Vp (Ih y worker d) w):=by
 have HR:=Bq (show ∀ W,Below w w W->Bu.rd W W y s from fun W hW=>Bu.rd_more (Bu.rd_below h hW) hW.size);obtain ⟨⟨A1,n1,c1⟩,⟨A2,n2,c2⟩⟩:=s;have CC:=Bq (fun W hW=>Fh y (⟨A1,n1,c1⟩,⟨A2,n2,c2⟩) W hl (HR.out W hW));have CY:=Bq (fun W hW=>G9 y (⟨A1,n1,c1⟩,⟨A2,n2,c2⟩) W hl (HR.out W hW));clear h;obtain ⟨W,aG,X,RES,RP,B0⟩:=bx3 w 31 [J Ab y.now,J Ab y.seq,Aa A1 n1 c1,Aa A2 n2 c2] 31 [J Ab 0,J Ab 0,Aa Ac 0 0,Aa Ac 0 0] 84 [J Ab 0,J Ab 0,J Ab 0,J Ab 0];go_enter func165,ntmps165;go_wp2_with fail
 rw [<-aG.out];clear aG;have hPl:w.heap.size+1+1<W.heap.size:=RP.lt;refine (CY.out _ B0).mono ?_;rintro e1 w1 ⟨rfl,b1⟩;replace X:=X.below b1;replace RES:=RES.below b1;replace RP:=RP.below b1;have X_:=X.g4;obtain ⟨RES_0,RES_1,RES_2,RES_3,RES_l⟩:=RES.g4;obtain ⟨RP_0,RP_1,RP_2,RP_3,RP_l⟩:=RP.g4;have aZ:=Bv B0 b1;have hBs:=B0.size;have jY:=b1.size;clear B0 b1 CY;by_cases p0:Dn y;case neg =>
  have H:=Bq (show Ih y worker d=(y,⟨8,0,0,0⟩) from if_pos p0);rw [Cm p0];clear p0;clear RES_0 RES_1 RES_2 RES_3 RES_l;clear RP_0 RP_1 RP_2 RP_3 RP_l;go_wp2_with fail
  refine (CC.out _ aZ).mono ?_;rintro e1 w2 ⟨⟨⟨B1,m1,e1⟩,⟨B2,m2,e2⟩⟩,F,rfl,oy,nF,b2⟩;replace RES:=RES.below b2;replace RP:=RP.below b2;obtain ⟨RES_0,RES_1,RES_2,RES_3,RES_l⟩:=RES.g4;obtain ⟨RP_0,RP_1,RP_2,RP_3,RP_l⟩:=RP.g4;have rf:=RES.free;have pf:=RP.free;have aJ:=Bv aZ b2;go_wp2;have en1:w.heap.size+1∉F:=fun hx=>by have:=nF _ hx;omega
  have en2:w.heap.size+1+1∉F:=fun hx=>by have:=nF _ hx;omega
  have aE:w.heap.size+1+1≠w.heap.size+1:=Bl;have RES2:=DBox.row4 RES rfl (J Ab y.now) (J Ab y.seq) (Aa B1 m1 e1) (Aa B2 m2 e2);have RP2:=DBox.row4 ((((RP.setOther (a:=⟨w+1,0,Ac⟩) aE (J Ab y.now)).setOther (a:=⟨w+1,1,Ac⟩) aE (J Ab y.seq)).setOther (a:=⟨w+1,2,Ac⟩) aE (Aa B1 m1 e1)).setOther (a:=⟨w+1,3,Ac⟩) aE (Aa B2 m2 e2)) rfl (J Ab 8) (J Ab 0) (J Ab 0) (J Ab 0);have RES3:=(((RES2.setOther (a:=⟨w+1+1,0,Ac⟩) aE.symm (J Ab 8)).setOther (a:=⟨w+1+1,1,Ac⟩) aE.symm (J Ab 0)).setOther (a:=⟨w+1+1,2,Ac⟩) aE.symm (J Ab 0)).setOther (a:=⟨w+1+1,3,Ac⟩) aE.symm (J Ab 0);refine Ak (Sn RES3 RP2) rfl ⟨(⟨B1,m1,e1⟩,⟨B2,m2,e2⟩),F,by rw [H.out],by rw [H.out];exact (by (repeat (refine Dt.ow_set Bu ?_ (by first | exact en1 | exact en2) _));exact (show Bu.ow _ F y (⟨B1,m1,e1⟩,⟨B2,m2,e2⟩) from oy)),fun x hx=>by have:=nF x hx;omega,?_⟩;repeat (first | (with_reducible exact aJ) | refine Ae ?_ Bo _)
 rw [Ds p0];cases p1:inB worker 0 99;case false =>
  have H:=Bq (show Ih y worker d=(y,⟨5,0,0,0⟩) by unfold Ih;rw [if_neg (fun h=>h p0),if_pos p1]);clear p0;clear RES_0 RES_1 RES_2 RES_3 RES_l;clear RP_0 RP_1 RP_2 RP_3 RP_l;go_wp2_with (go_at_call 90;refine (Cl _ _ _ _).mono ?_;rintro e w9 ⟨rfl,rfl⟩;rw [p1])
  refine (CC.out _ aZ).mono ?_;rintro e1 w2 ⟨⟨⟨B1,m1,e1⟩,⟨B2,m2,e2⟩⟩,F,rfl,oy,nF,b2⟩;replace RES:=RES.below b2;replace RP:=RP.below b2;obtain ⟨RES_0,RES_1,RES_2,RES_3,RES_l⟩:=RES.g4;obtain ⟨RP_0,RP_1,RP_2,RP_3,RP_l⟩:=RP.g4;have rf:=RES.free;have pf:=RP.free;have aJ:=Bv aZ b2;go_wp2;have en1:w.heap.size+1∉F:=fun hx=>by have:=nF _ hx;omega
  have en2:w.heap.size+1+1∉F:=fun hx=>by have:=nF _ hx;omega
  have aE:w.heap.size+1+1≠w.heap.size+1:=Bl;have RES2:=DBox.row4 RES rfl (J Ab y.now) (J Ab y.seq) (Aa B1 m1 e1) (Aa B2 m2 e2);have RP2:=DBox.row4 ((((RP.setOther (a:=⟨w+1,0,Ac⟩) aE (J Ab y.now)).setOther (a:=⟨w+1,1,Ac⟩) aE (J Ab y.seq)).setOther (a:=⟨w+1,2,Ac⟩) aE (Aa B1 m1 e1)).setOther (a:=⟨w+1,3,Ac⟩) aE (Aa B2 m2 e2)) rfl (J Ab 5) (J Ab 0) (J Ab 0) (J Ab 0);have RES3:=(((RES2.setOther (a:=⟨w+1+1,0,Ac⟩) aE.symm (J Ab 5)).setOther (a:=⟨w+1+1,1,Ac⟩) aE.symm (J Ab 0)).setOther (a:=⟨w+1+1,2,Ac⟩) aE.symm (J Ab 0)).setOther (a:=⟨w+1+1,3,Ac⟩) aE.symm (J Ab 0);refine Ak (Sn RES3 RP2) rfl ⟨(⟨B1,m1,e1⟩,⟨B2,m2,e2⟩),F,by rw [H.out],by rw [H.out];exact (by (repeat (refine Dt.ow_set Bu ?_ (by first | exact en1 | exact en2) _));exact (show Bu.ow _ F y (⟨B1,m1,e1⟩,⟨B2,m2,e2⟩) from oy)),fun x hx=>by have:=nF x hx;omega,?_⟩;repeat (first | (with_reducible exact aJ) | refine Ae ?_ Bo _)
 have pp:=Ct.1 p1;have HP:=Bq p0;obtain ⟨wk,rfl⟩:=Aq pp.1;have hm:((wk:Int).tmod 4)=((wk % 4:Nat):Int):=by rw [Int.tmod_eq_emod_of_nonneg Bl];omega
 have hmw:Ab.wrap ((wk % 4:Nat):Int)=((wk % 4:Nat):Int):=Ar _ Bl;have mL:(wk:Int) % 4=((wk % 4:Nat):Int):=Bl;have hh:=Nat.mod_lt wk (show 0<4 by decide);have H:=Bq (show Ih y wk d=Mx (J5 y ((wk % 4:Nat):Int) d) (wk % 4) by unfold Ih;rw [if_neg (fun h=>h p0),if_neg (by rw [p1];simp),mL,Ap]);have aP:=Pol.start p0 hh;have h4:=p0.2.2.1;clear p0 pp mL;generalize wk % 4=home at *
 have CS:=Bq (fun W hW=>Qv y (⟨A1,n1,c1⟩,⟨A2,n2,c2⟩) home W Bl hl (HR.out W hW));have CV:=Bq (fun W=>Vd home d W hh hd);have HG:Hid (J5 y (home:Int) d=(Em home d).foldl (Ed home) (Cg y home)):=by
  show J5 y (home:Int) d=_;unfold J5;rw [Ap]
 clear RES_0 RES_1 RES_2 RES_3 RES_l;clear RP_0 RP_1 RP_2 RP_3 RP_l;go_wp2_with (go_at_call 90;refine (Cl _ _ _ _).mono ?_;rintro e w9 ⟨rfl,rfl⟩;rw [p1])
 refine (CS.out _ aZ).mono ?_;rintro e1 w2 ⟨s2,F,rfl,oy,nF,b2⟩;clear X_;clear X CC HR CS;replace RES:=RES.below b2;replace RP:=RP.below b2;have aJ:=Bv aZ b2;have hb2s:=b2.size;clear aZ b2 hm hmw;have cI:=Bu.ow_lt oy;have kS:Hid (Cg y home=Cg y home):=rfl;go_upto_region 7 with fail
 have OB:=DBox.new 31 (Ev (Cg y home) s2) w2 (b:=w2) rfl;have b3:Below w2 w2 (w2.alloc (.cells (Ev (Cg y home) s2).toArray 31)):=Bt;replace RES:=RES.below b3;replace RP:=RP.below b3;replace oy:=Bu.ow_below oy b3;have bU:=Bv aJ b3;have hb3s:=b3.size;have gG:=OB.lt;have hPl2:w.heap.size+1+1<w2.heap.size:=Bl;generalize w2.alloc (.cells (Ev (Cg y home) s2).toArray 31)=w3 at *
 go_wp2_with fail
 refine (CV.out _).mono ?_;rintro e1 w4 ⟨v,rfl,ov,b4⟩;replace RES:=RES.below b4;replace RP:=RP.below b4;replace OB:=OB.below b4;replace oy:=Bu.ow_below oy b4;have cL:=Bv bU b4;obtain ⟨fQ,sC⟩:=Hw.of_ow ov;obtain ⟨A9,c9,rfl,-⟩:=id (Rd.of_own ov);have rV:=Uf home d;have fF:=Bq (N6 (home:=(home:Int)) (draw:=d));have gY:=Bq (show ∀ v∈Em home d,v≠home from fun v hv=>by have:=N7 (home:=(home:Int)) (draw:=d) Bl Bl v hv;omega);have cR:w2.heap.size<w3.heap.size:=gG;have aE:∀ x∈Ei (Aa A9 (Em home d).length c9) (Em home d).length,x∉F/\w2<x:=fun x hx=>⟨fun hF=>by have h1:=sC x hx;have h2:=cI x hF;omega,by have:=sC x hx;omega⟩
 have fY:(∀ x∈F,w+1+1<x)/\w2.heap.size∉F:=⟨fun x hx=>by have:=nF x hx;omega,fun hx=>by have:=cI _ hx;omega⟩
 generalize Ei (Aa A9 (Em home d).length c9) (Em home d).length=Fv at *
 generalize Em home d=L at *
 rw [rV] at fQ;rw [rV];generalize Cg y home=Z0 at *
 have tF:w.heap.size+1+1<w2.heap.size:=hPl2;generalize w2.heap.size=ob at *
 clear cI nF sC;go_wp2;go_loopw [11,12,13] (fun i u1 u2 wr=>∃ (k:Nat) (s:Sl×Sl) (F:List Nat),k<=3/\i = J Ab k/\Hid (Pol y home ((L.take k).foldl (Ed home) Z0))/\Hid (Bu.ow wr F ((L.take k).foldl (Ed home) Z0) s)/\Hid ((∀ x∈F,w+1+1<x)/\ob∉F /\ ∀ x∈Fv,x∉F)/\Hid (Hw En wr Fv (Aa A9 3 c9) L)/\DBox ob (Ev ((L.take k).foldl (Ed home) Z0) s) wr/\DBox (w+1) [J Ab 0,J Ab 0,Aa Ac 0 0,Aa Ac 0 0] wr/\DBox (w+1+1) [J Ab 0,J Ab 0,J Ab 0,J Ab 0] wr/\Below w w wr) (fun i _ _ _=>3 - (intOf i).toNat);case atStart=>exact ⟨0,s2,F,Ah _,rfl,aP,oy,⟨fY.1,fY.2,fun x hx=>(aE x hx).1⟩,fQ,OB,RES,RP,cL⟩
 case round =>
  have rW:∀ x∈Fv,ob<x:=fun x hx=>(aE x hx).2;clear aP oy fY fQ OB RES RP cL aE ov b4;obtain ⟨k,s,F,hk,rfl,aP,oy,hF,fQ,OB,RES,RP,hb⟩:=hrel;have aF:Hid (∀ h:k<L.length,(L.take (k+1)).foldl (Ed home) Z0=Ed home ((L.take k).foldl (Ed home) Z0) L[k]):=fun h=>K5 (Ed home) Z0 L k h;have dA:Hid ((k=3 \/ ¬ (((L.take k).foldl (Ed home) Z0).shelf.getD home []).length=0)->L.foldl (Ed home) Z0=(L.take k).foldl (Ed home) Z0):=by
   intro h;rcases h with h | h
   ·rw [Bg Bl]
   ·have e:L.foldl (Ed home) Z0=(L.drop k).foldl (Ed home) ((L.take k).foldl (Ed home) Z0):=by
     rw [<-List.foldl_append,List.take_append_drop]
    rw [e];exact M9 _ _ h
  generalize (L.take k).foldl (Ed home) Z0=Zk at *
  obtain ⟨⟨B1,m1,e1⟩,⟨B2,m2,e2⟩⟩:=s;have rS:=aP.out.four;have oyr:=Bu.ow_rd oy.out;have gZ:home<Zk.shelf.length:=Bl;obtain rfl:m1=4:=(RdL.at1 (s:=⟨B1,m1,e1⟩) oyr.1).trans rS;obtain ⟨g,o,⟨xa,xn,xc⟩,rfl,fZ,eW,ch⟩:=RdL.entryS (show RdL (Dt.list Ch) wr wr.heap.size (Aa B1 4 e1) Zk.shelf from oyr.1) gZ;obtain rfl:xn=Zk.shelf[home].length:=RdL.at1 (s:=⟨xa,xn,xc⟩) eW;have hhI:(home:Int)<4:=Bl;have hh0:(0:Int)<=(home:Int):=Bl;have qU:=aP.out.all _ (Ax gZ);obtain ⟨OB_0,OB_1,OB_2,OB_3,OB_l⟩:=OB.g4;have dC:=Bq (Gf gZ);have hwrs:=hb.size;have hRPl:=RP.lt;have hobl:=OB.lt;rcases (show (k<3/\Zk.shelf[home].length=0)\/(k<3 /\ ¬ Zk.shelf[home].length=0) \/ ¬ k<3 by by_cases k<3<;>by_cases Zk.shelf[home].length=0<;>simp [*]) with ⟨aB,hq⟩ | ⟨aB,hq⟩ | aB
  ·have aC:(k:Int)<3:=Bl
   ·have qP:((Zk.shelf[home].length:Int) == 0)=true:=by simp [hq]
    have nI:k<L.length:=Bl;have hv4:L[k]<4:=fF.out _ (Ax nI);have gT:L[k]≠home:=gY.out _ (Ax nI);obtain ⟨gv,ov,rfl,hgv,cv⟩:=fQ.out.rd.nat nI;replace aF:=Bq (aF.out nI);have bF:=fQ.out.block Bl;generalize L[k]=v at *
    have hP1:Hid (Pol y home (K8 home Zk v)):=by
     have h1:=aP.out.step hh hv4 gT;rw [Nr (by rw [dC.out];exact hq) gT] at h1;exact h1
    replace aF:=Bq (aF.out.trans (Nr (by rw [dC.out];exact hq) gT));have hE0:=Bq (show (Cg Zk v).shelf.getD home []=[] by rw [Tg gT,dC.out];exact List.eq_nil_of_length_eq_zero hq);have rZ:=fQ.out.lt;have hvI:(v:Int)<4:=Bl;have hv0:(0:Int)<=(v:Int):=Bl;have dF:(0:Int)<=(k:Int):=Bl;have hzc:=aP.out.cnt HP.out;have CS:=Bq (Qv Zk (⟨Ad ⟨g,o,Ac⟩,4,e1⟩,⟨B2,m2,e2⟩) v wr.drew Bl hzc (Bu.rd_below oyr (Br _ _).drew));clear hq;go_wp2;refine Dl (fun w'=>w'.cell? ⟨ob,0,Ac⟩=Ad (J Ab Zk.now)/\w'.cell? ⟨ob,1,Ac⟩=Ad (J Ab Zk.seq)/\w'.cell? ⟨ob,2,Ac⟩=Ad (Aa (Ad ⟨g,o,Ac⟩) 4 e1)/\w'.cell? ⟨ob,3,Ac⟩=Ad (Aa B2 m2 e2)/\w'.cell? ⟨gv,ov+k,Ac⟩=Ad (J Ab (v:Int))) 6 Bm ?_ (fun aA=>?_)
    ·exact ⟨OB_0,OB_1,OB_2,OB_3,cv⟩
    refine aT 0 aA ?_;try simp only [pS]
    refine aT 1 aA ?_;try simp only [pS]
    refine aT 2 aA ?_;try simp only [pS]
    refine aT 3 aA ?_;try simp only [pS]
    refine aT 4 aA ?_;try simp only [pS]
    refine oT 5 (fun K hK=>?_)
    (go_simp;refine CS.out.mono ?_;rintro e w2 ⟨⟨⟨C1,p1,f1⟩,⟨C2,p2,f2⟩⟩,F2,rfl,oy2,n2,b2⟩;have OB2:=OB.below (Bv (Br _ _).drew b2);have k0:=OB2.cell 0 _ rfl;have k1:=OB2.cell 1 _ rfl;have k2:=OB2.cell 2 _ rfl;have k3:=OB2.cell 3 _ rfl;have kf:=OB2.free;have kl:=OB2.lt)
    refine hK.out _ _ (fun _=>?_) ?_
    ·exact ⟨(b2.cell (p:=⟨_,_,Ac⟩) (by show ob<wr;omega)).trans OB_0,(b2.cell (p:=⟨_,_,Ac⟩) (by show ob<wr;omega)).trans OB_1,(b2.cell (p:=⟨_,_,Ac⟩) (by show ob<wr;omega)).trans OB_2,(b2.cell (p:=⟨_,_,Ac⟩) (by show ob<wr;omega)).trans OB_3,(b2.cell (p:=⟨_,_,Ac⟩) (by show gv<wr;omega)).trans cv⟩
    clear hK K;try simp only [pS]
    refine oT 6 (fun K hK=>?_);go_simp;refine hK.out _ _ (fun aE=>absurd rfl aE) ?_;clear hK K;try simp only [pS]
    refine Eb Bm ?_ _;have b2':Below wr wr w2:=Bv (Br _ _).drew b2;clear k0 k1 k2 k3 kf kl aA;have OB3:=DBox.row4 OB2 rfl (J Ab (Cg Zk v).now) (J Ab (Cg Zk v).seq) (Aa C1 p1 f1) (Aa C2 p2 f2);have dU:=Chg.cells4 w2 ob 0 1 2 3 (J Ab (Cg Zk v).now) (J Ab (Cg Zk v).seq) (Aa C1 p1 f1) (Aa C2 p2 f2);have eM:=Bq (show ∀ x,x∈[ob]->x=ob from fun x hx=>by simpa using hx);have RES3:=(RES.below b2').chg dU (fun hx=>by have:=eM.out _ hx;omega);have RP3:=(RP.below b2').chg dU (fun hx=>by have:=eM.out _ hx;omega);have dR:=(fQ.out.below b2').chg dU (fun x hx hx2=>by have h1:=eM.out _ hx2;have h2:=rW x hx;omega);have eQ:ob∉F2:=fun hx=>by have h1:=n2 _ hx;have h2:wr.drew.heap.size=wr.heap.size:=rfl;have h3:=OB_l;omega
    have oy3:=Bu.ow_chg oy2 dU (fun x hx hx2=>by have:=eM.out _ hx2;subst this;exact eQ hx);have bU:Below w w _:=(Bv hb b2').trans (dU.below (by have:=b2'.size;omega) (fun x hx=>by have:=eM.out _ hx;omega));have fP:∀ x∈F2,wr<=x:=n2;have cN:=b2'.size;have fS:=dU.size;replace cv:=(dU.cell (p:=⟨gv,_,Ac⟩) (by show gv<w2;omega) (fun hx=>by have h1:gv=ob:=eM.out _ hx;have h2:=rW gv (by rw [bF.1];simp);omega)).trans ((b2'.cell (p:=⟨gv,_,Ac⟩) (by show gv<wr;omega)).trans cv);have nD:∀ x∈F2,w+1+1<x:=fun x hx=>by have h1:=fP x hx;have h2:=RP.lt;omega
    clear OB_0 OB_1 OB_2 OB_3 OB_l;clear OB RES RP fQ oy oy2 n2 b2 b2' hb OB2 oyr eW ch hF CS;generalize (((w2.setCell ⟨ob,0,Ac⟩ (J Ab (Cg Zk v).now)).setCell ⟨ob,1,Ac⟩ (J Ab (Cg Zk v).seq)).setCell ⟨ob,2,Ac⟩ (Aa C1 p1 f1)).setCell ⟨ob,3,Ac⟩ (Aa C2 p2 f2)=w3 at *
    have OB:=OB3;clear OB3;obtain ⟨OB_0,OB_1,OB_2,OB_3,OB_l⟩:=OB.g4;have h41:(Cg Zk v).shelf.length=4:=by rw [Nq];exact rS
    have oyr3:=Bu.ow_rd (F:=F2) (x:=Cg Zk v) oy3;obtain rfl:p1=4:=(RdL.at1 (s:=⟨C1,p1,f1⟩) oyr3.1).trans h41;have gR:v<(Cg Zk v).shelf.length:=Bl;obtain ⟨g2,o2,⟨va,vn,vc⟩,rfl,kI,uM,cv2⟩:=RdL.entryS (show RdL (Dt.list Ch) w3 w3.heap.size (Aa C1 4 f1) (Cg Zk v).shelf from oyr3.1) gR;have gF:=Qa (i:=v) aP.out.all;have gU:=gF _ (Ax gR);have CH:=Bq (Aaw (Cg Zk v).shelf[v] ⟨va,vn,vc⟩ w3.drew Bl (RdL.below uM (Br _ _).drew));have hgvw:gv<w3:=Bl;go_wp2;refine Go.wp_region_noPanic ?_;refine wp_region_held_drew (S:=(fun w'=>w'.cell? ⟨ob,2,Ac⟩=Ad (Aa (Ad ⟨g2,o2,Ac⟩) 4 f1)/\w'.cell? ⟨gv,ov+k,Ac⟩=Ad (J Ab (v:Int))/\w'.cell? ⟨g2,o2+v,Ac⟩=Ad (Aa va vn vc))) Bm ⟨OB_2,cv,cv2⟩ (fun aA=>?_);refine tY 0 ?_
    (try simp only [pS])
    refine tY 1 ?_
    (try simp only [pS])
    refine tY 2 ?_
    (try simp only [pS])
    refine tY 3 ?_
    (try simp only [pS])
    refine tY 4 ?_
    (try simp only [pS])
    refine tY 5 ?_
    (try simp only [pS])
    refine tY 6 ?_
    (try simp only [pS])
    refine tY 7 ?_
    (try simp only [pS])
    refine rC 8 (fun K_ hK=>?_);go_simp;refine CH.out.mono ?_;rintro e w4 ⟨⟨qa1,qn1,qc1⟩,Fh1,⟨qa2,qn2,qc2⟩,Fh2,rfl,oh1,oh2,nh1,nh2,dh,b4⟩;refine hK.out _ _ ⟨(b4.cell (p:=⟨_,_,Ac⟩) (by show ob<w3;omega)).trans OB_2,(b4.cell (p:=⟨_,_,Ac⟩) (by show gv<w3;omega)).trans cv,(b4.cell (p:=⟨_,_,Ac⟩) (by show g2<w3;omega)).trans cv2⟩ (fun aA=>?_);clear hK K_
    (try simp only [pS])
    refine tY 9 ?_
    (try simp only [pS])
    refine tY 10 ?_
    (try simp only [pS])
    refine tY 11 ?_
    (try simp only [pS])
    refine tY 12 ?_
    (try simp only [pS])
    refine tY 13 ?_
    (try simp only [pS])
    refine wpAnyH_done Bm ?_ _;refine NoPanic.normal ?_;have b4':Below w3 w3 w4:=Bv (Br _ _).drew b4;have kH:=b4'.size;have hnh1:∀ x∈Fh1,w3<=x:=nh1;have kX:∀ x∈Fh2,w3<=x:=nh2;replace oy3:Bu.ow w3 F2 (Cg Zk v) (⟨Ad ⟨g2,o2,Ac⟩,4,f1⟩,⟨C2,p2,f2⟩):=oy3;have hfl2:=Bu.ow_lt (F:=F2) (x:=Cg Zk v) (s:=(⟨Ad ⟨g2,o2,Ac⟩,4,f1⟩,⟨C2,p2,f2⟩)) oy3;clear OB_0 OB_1 OB_2 OB_3 OB_l;replace OB:=OB.below b4';replace RES3:=RES3.below b4';replace RP3:=RP3.below b4';replace dR:=dR.below b4';replace oy3:Bu.ow w4 F2 (Cg Zk v) (⟨Ad ⟨g2,o2,Ac⟩,4,f1⟩,⟨C2,p2,f2⟩):=owB oy3 b4';replace bU:=Bv bU b4';replace cv:=(b4'.cell (p:=⟨gv,_,Ac⟩) (by show gv<w3;omega)).trans cv;replace cv2:=(b4'.cell (p:=⟨g2,_,Ac⟩) (by show g2<w3;omega)).trans cv2;clear nh1 nh2 b4 b4' aA CH oyr3 uM;obtain ⟨OB_0,OB_1,OB_2,OB_3,OB_l⟩:=OB.g4;have kA:∀ j,w4.frozen? ⟨g2,j,Ac⟩=false:=by
     obtain ⟨G1,G2,_,_,os,_⟩:=oy3;exact OwL.free0 (show OwL (Dt.list Ch) w4 G1 (Aa (Ad ⟨g2,o2,Ac⟩) 4 f1) (Cg Zk v).shelf from os) Bl
    have kZ:g2<w4:=Bl;have hgvw4:gv<w4:=Bl;go_wp2;refine Dl (fun w'=>w'.cell? ⟨ob,2,Ac⟩=Ad (Aa (Ad ⟨g2,o2,Ac⟩) 4 f1)/\w'.cell? ⟨gv,ov+k,Ac⟩=Ad (J Ab (v:Int))) 8 Bm ?_ (fun aA=>?_)
    ·exact ⟨OB_2,cv⟩
    refine aT 0 aA ?_;try simp only [pS]
    refine aT 1 aA ?_;try simp only [pS]
    refine aT 2 aA ?_;try simp only [pS]
    refine aT 3 aA ?_;try simp only [pS]
    refine aT 4 aA ?_;try simp only [pS]
    refine aT 5 aA ?_;try simp only [pS]
    refine aT 6 aA ?_;try simp only [pS]
    refine aT 7 aA ?_;try simp only [pS]
    refine oT 8 (fun K hK=>?_);go_simp;refine hK.out _ _ (fun aE=>absurd rfl aE) ?_;clear hK K;try simp only [pS]
    refine Eb Bm ?_ _;obtain ⟨F5,oy5,hF5,jQ⟩:=G7 oy3 gR (l:=(Cg Zk v).shelf[v].drop (C9 (Cg Zk v).shelf[v])) (t:=⟨qa2,qn2,qc2⟩) oh2 (fun x hx bF=>by have h1:=kX x hx;have h2:=hfl2 x bF;omega);replace oy5:Bu.ow (w4.setCell ⟨g2,o2+v,Ac⟩ (Aa qa2 qn2 qc2)).drew F5 ⟨(Cg Zk v).now,(Cg Zk v).seq,(Cg Zk v).shelf.set v ((Cg Zk v).shelf[v].drop (C9 (Cg Zk v).shelf[v])),(Cg Zk v).runs⟩ (⟨Ad ⟨g2,o2,Ac⟩,4,f1⟩,⟨C2,p2,f2⟩):=owB oy5 (Br _ _).drew;have cX:Chg [g2] w4 (w4.setCell ⟨g2,o2+v,Ac⟩ (Aa qa2 qn2 qc2)).drew:=(Chg.setCell w4 g2 _ _).drew;have bQ:=Bq (show ∀ x,x∈[g2]->x=g2 from fun x hx=>by simpa using hx);have hg2gt:=nD _ jQ;have hg2n:=fP _ jQ;have dY:ob≠g2:=fun h=>eQ (by rw [h];exact jQ);clear OB_0 OB_1 OB_2 OB_3 OB_l;replace OB:=OB.chg cX (fun hx=>dY (bQ.out _ hx));replace RES3:=RES3.chg cX (fun hx=>by have:=bQ.out _ hx;omega);replace RP3:=RP3.chg cX (fun hx=>by have:=bQ.out _ hx;omega);replace dR:=dR.chg cX (fun x hx hx2=>by have h1:=bQ.out _ hx2;have h2:=rZ x hx;omega);have oh1':=oh1.chg cX (fun x hx hx2=>by have h1:=bQ.out _ hx2;have h2:=hnh1 x hx;omega);replace bU:=bU.trans (cX.below (by have:=bU.size;omega) (fun x hx=>by have:=bQ.out _ hx;omega));have hfg5:∀ j,(w4.setCell ⟨g2,o2+v,Ac⟩ (Aa qa2 qn2 qc2)).drew.frozen? ⟨g2,j,Ac⟩=false:=fun j=>(Je w4 _ _ _).trans (kA j);have mK:=cX.size;clear cX aA oy3 oh1 oh2 kA cv cv2;generalize (w4.setCell ⟨g2,o2+v,Ac⟩ (Aa qa2 qn2 qc2)).drew=w5 at *
    obtain ⟨OB_0,OB_1,OB_2,OB_3,OB_l⟩:=OB.g4;have h42:((Cg Zk v).shelf.set v ((Cg Zk v).shelf[v].drop (C9 (Cg Zk v).shelf[v]))).length=4:=by rw [Bh];exact h41
    have vG:((Cg Zk v).shelf.set v ((Cg Zk v).shelf[v].drop (C9 (Cg Zk v).shelf[v])))[home]' Bl=[]:=by
     have h1:=hE0.out;rw [Gf Bl] at h1;rw [List.getElem_set_ne gT];exact h1
    have uI:=Bq (show K8 home Zk v=⟨(Cg Zk v).now,(Cg Zk v).seq,((Cg Zk v).shelf.set v ((Cg Zk v).shelf[v].drop (C9 (Cg Zk v).shelf[v]))).set home (Gp [] ((Cg Zk v).shelf[v].take (C9 (Cg Zk v).shelf[v]))),(Cg Zk v).runs⟩ by
     unfold K8;rw [Gf gR];rfl)
    obtain ⟨_,_,⟨xa2,xn2,xc2⟩,cG,_,jI,cx⟩:=RdL.entryS (show RdL (Dt.list Ch) w5 w5.heap.size (Aa (Ad ⟨g2,o2,Ac⟩) 4 f1) _ from (Bu.ow_rd oy5).1) (k:=home) (by show home<(List.set _ _ _).length;omega);simp only [Option.some.injEq,Addr.mk.injEq,and_true] at cG;obtain ⟨rfl,rfl⟩:=cG;replace jI:RdL Ch w5 w5 (Aa xa2 xn2 xc2) (((Cg Zk v).shelf.set v ((Cg Zk v).shelf[v].drop (C9 (Cg Zk v).shelf[v])))[home]' Bl):=jI;rw [vG] at jI;obtain rfl:xn2=0:=RdL.at1 (s:=⟨xa2,xn2,xc2⟩) jI;have dN:((Cg Zk v).shelf[v].take (C9 (Cg Zk v).shelf[v])).length<=80:=M8 _ gU;have CM:=Bq (Wx [] ((Cg Zk v).shelf[v].take (C9 (Cg Zk v).shelf[v])) ⟨xa2,0,xc2⟩ ⟨qa1,qn1,qc1⟩ w5.drew Bn Bl (RdL.below jI (Br _ _).drew) (RdL.below oh1'.rd (Br _ _).drew));have hobw5:ob<w5:=OB_l;have hg2w5:g2<w5:=Bl;clear vG jI gU;generalize (Cg Zk v).shelf[v].take (C9 (Cg Zk v).shelf[v])=lt_ at *
    go_wp2;refine Dl (fun w'=>w'.cell? ⟨ob,2,Ac⟩=Ad (Aa (Ad ⟨g2,o2,Ac⟩) 4 f1)/\w'.cell? ⟨g2,o2+home,Ac⟩=Ad (Aa xa2 0 xc2)) 11 Bm ?_ (fun aA=>?_)
    ·exact ⟨OB_2,cx⟩
    refine aT 0 aA ?_;try simp only [pS]
    refine aT 1 aA ?_;try simp only [pS]
    refine aT 2 aA ?_;try simp only [pS]
    refine aT 3 aA ?_;try simp only [pS]
    refine aT 4 aA ?_;try simp only [pS]
    refine aT 5 aA ?_;try simp only [pS]
    refine aT 6 aA ?_;try simp only [pS]
    refine aT 7 aA ?_;try simp only [pS]
    refine aT 8 aA ?_;try simp only [pS]
    refine oT 9 (fun K hK=>?_)
    (go_simp;refine CM.out.mono ?_;rintro e w6 ⟨⟨ma,mn,mc⟩,Fm,rfl,om,nm,b6⟩;have hgc:w6.cell? ⟨g2,o2+home,Ac⟩=Ad (Aa xa2 0 xc2):=(b6.cell (p:=⟨_,_,Ac⟩) (by show g2<w5;omega)).trans cx;have pL:∀ j,w6.frozen? ⟨g2,j,Ac⟩=false:=fun j=>(b6.frozen (p:=⟨_,_,Ac⟩) (by show g2<w5;omega)).trans (hfg5 j))
    refine hK.out _ _ (fun _=>?_) ?_
    ·exact ⟨(b6.cell (p:=⟨_,_,Ac⟩) (by show ob<w5;omega)).trans OB_2,(b6.cell (p:=⟨_,_,Ac⟩) (by show g2<w5;omega)).trans cx⟩
    clear hK K;try simp only [pS]
    refine oT 10 (fun K hK=>?_);go_simp;refine hK.out _ _ (fun _=>?_) ?_
    ·exact ⟨(b6.cell (p:=⟨_,_,Ac⟩) (by show ob<w5;omega)).trans OB_2,(b6.cell (p:=⟨_,_,Ac⟩) (by show g2<w5;omega)).trans cx⟩
    clear hK K;try simp only [pS]
    refine oT 11 (fun K hK=>?_);go_simp;refine hK.out _ _ (fun aE=>absurd rfl aE) ?_;clear hK K;try simp only [pS]
    refine Eb Bm ?_ _;have b6':Below w5 w5 w6:=Bv (Br _ _).drew b6;have nY:=b6'.size;have tG:∀ x∈Fm,w5<=x:=nm;replace oy5:Bu.ow w5 F5 ⟨(Cg Zk v).now,(Cg Zk v).seq,(Cg Zk v).shelf.set v ((Cg Zk v).shelf[v].drop (C9 (Cg Zk v).shelf[v])),(Cg Zk v).runs⟩ (⟨Ad ⟨g2,o2,Ac⟩,4,f1⟩,⟨C2,p2,f2⟩):=oy5;have hfl5:=Bu.ow_lt (F:=F5) (x:=⟨(Cg Zk v).now,(Cg Zk v).seq,(Cg Zk v).shelf.set v ((Cg Zk v).shelf[v].drop (C9 (Cg Zk v).shelf[v])),(Cg Zk v).runs⟩) (s:=(⟨Ad ⟨g2,o2,Ac⟩,4,f1⟩,⟨C2,p2,f2⟩)) oy5;have oy6:=Bu.ow_below (F:=F5) (x:=⟨(Cg Zk v).now,(Cg Zk v).seq,(Cg Zk v).shelf.set v ((Cg Zk v).shelf[v].drop (C9 (Cg Zk v).shelf[v])),(Cg Zk v).runs⟩) (s:=(⟨Ad ⟨g2,o2,Ac⟩,4,f1⟩,⟨C2,p2,f2⟩)) oy5 b6';obtain ⟨F7,oy7,kW,hg2F5⟩:=G7 oy6 (i:=home) (by show home<(List.set _ _ _).length;omega) (l:=Gp [] lt_) (t:=⟨ma,mn,mc⟩) om (fun x hx bF=>by have h1:=tG x hx;have h2:=hfl5 x bF;omega);have fL:Chg [g2] w6 (w6.setCell ⟨g2,o2+home,Ac⟩ (Aa ma mn mc)):=Chg.setCell w6 g2 _ _;clear OB_0 OB_1 OB_2 OB_3 OB_l;replace OB:=(OB.below b6').chg fL (fun hx=>dY (bQ.out _ hx));replace RES3:=(RES3.below b6').chg fL (fun hx=>by have:=bQ.out _ hx;omega);replace RP3:=(RP3.below b6').chg fL (fun hx=>by have:=bQ.out _ hx;omega);replace dR:=(dR.below b6').chg fL (fun x hx hx2=>by have h1:=bQ.out _ hx2;have h2:=rZ x hx;omega);replace bU:=(Bv bU b6').trans (fL.below (by have:=(Bv bU b6').size;omega) (fun x hx=>by have:=bQ.out _ hx;omega));have jV:∀ x∈F7,x∈F2\/w3<=x:=fun x hx=>by
     rcases kW x hx with h | h
     ·rcases hF5 x h with h' | h'
      ·exact .inl h'
      ·exact .inr (kX x h')
     ·right;have:=tG x h;omega
    clear aA oy5 oy6 b6 b6' nm om fL CM cx;generalize w6.setCell ⟨g2,o2+home,Ac⟩ (Aa ma mn mc)=w7 at *
    go_wp2;exact ⟨⟨k+1,(⟨Ad ⟨g2,o2,Ac⟩,4,f1⟩,⟨C2,p2,f2⟩),F7,Bl,by go_num,by rw [aF.out];exact hP1,by rw [aF.out,uI.out];exact oy7,⟨fun x hx=>by (rcases jV x hx with h | h);exact nD x h;omega,fun hx=>by (rcases jV _ hx with h | h);exact eQ h;omega,fun x hx bF=>by have h1:=rZ x hx;(rcases jV x bF with h | h);have:=fP x h;omega;omega⟩,dR,by rw [aF.out,uI.out];exact OB,RES3,RP3,bU⟩,clM⟩
  have aC:(k:Int)<3:=Bl;have qP:((Zk.shelf[home].length:Int) == 0)=false:=by simp [hq]
  replace dA:=Bq (dA.out (.inr (by rw [dC.out];exact hq)));clear hq;rotate_left;have aC:¬ (k:Int)<3:=Bl;have qP:True:=trivial;replace dA:=Bq (dA.out (.inl Bl));all_goals
   have HZ:=Bq (show Ih y (wk:Int) d=Mx Zk home by rw [H.out,HG.out,dA.out]);have jS:∀ e∈Zk.shelf[home],Q4 Zk e:=fun e he=>by
    have h1:=aP.out.fresh e (by rw [dC.out];exact he);rw [<-Mw aP.out.runs] at h1;exact Ll.1 h1
   replace eW:RdL Ch wr wr (Aa xa Zk.shelf[home].length xc) Zk.shelf[home]:=eW;have nR:=aP.out.all _ (Ax gZ);have qR:Hid (Mx Zk home=Ug Zk home Zk.shelf[home]):=by
    show Mx Zk home=_;unfold Mx;rw [dC.out]
   have CT:=Bq (Sb Zk.shelf[home] ⟨xa,Zk.shelf[home].length,xc⟩ wr Bl eW);clear aF dC fQ fF gY kS rW H HG dA;generalize Zk.shelf[home]=SH at *
   go_wp2_with fail
   refine CT.out.mono ?_;rintro e9 w2 ⟨⟨ta,tn,tc⟩,Ft,rfl,ot,nt,b2⟩;replace oy:Bu.ow wr F Zk (⟨Ad ⟨g,o,Ac⟩,4,e1⟩,⟨B2,m2,e2⟩):=oy.out;have mR:=Bu.ow_lt (F:=F) (x:=Zk) (s:=(⟨Ad ⟨g,o,Ac⟩,4,e1⟩,⟨B2,m2,e2⟩)) oy;replace oy:Bu.ow w2 F Zk (⟨Ad ⟨g,o,Ac⟩,4,e1⟩,⟨B2,m2,e2⟩):=owB oy b2;clear OB_0 OB_1 OB_2 OB_3 OB_l;replace OB:=OB.below b2;replace RES:=RES.below b2;replace RP:=RP.below b2;have aJ:=Bv hb b2;have cN:=b2.size;clear b2 CT ch eW hb oyr;have aE:w.heap.size+1+1≠w.heap.size+1:=Bl;cases SH with
   | nil =>
    have HF:=Bq (HZ.out.trans qR.out);clear HZ qR jS ot;have EB0:Below w2 w2 (w2.alloc (.cells #[J Ab 0,J Ab 0,J Ab 0,J Ab 0] 71)):=Bt;go_upto_region 16 with fail
    replace oy:Bu.ow _ F Zk (⟨Ad ⟨g,o,Ac⟩,4,e1⟩,⟨B2,m2,e2⟩):=owB oy EB0;replace OB:=OB.below EB0;replace RES:=RES.below EB0;replace RP:=RP.below EB0;replace aJ:=Bv aJ EB0;clear EB0;generalize w2.alloc (.cells #[J Ab 0,J Ab 0,J Ab 0,J Ab 0] 71)=w3 at *
    obtain ⟨OB_0,OB_1,OB_2,OB_3,OB_l⟩:=OB.g4;obtain ⟨RES_0,RES_1,RES_2,RES_3,RES_l⟩:=RES.g4;obtain ⟨RP_0,RP_1,RP_2,RP_3,RP_l⟩:=RP.g4;have rf:=RES.free;have pf:=RP.free;go_wp2;have en1:w.heap.size+1∉F:=fun hx=>by have:=hF.out.1 _ hx;omega
    have en2:w.heap.size+1+1∉F:=fun hx=>by have:=hF.out.1 _ hx;omega
    have RES2:=DBox.row4 RES rfl (J Ab Zk.now) (J Ab Zk.seq) (Aa (Ad ⟨g,o,Ac⟩) 4 e1) (Aa B2 m2 e2);have RP2:=DBox.row4 ((((RP.setOther (a:=⟨w+1,0,Ac⟩) aE (J Ab Zk.now)).setOther (a:=⟨w+1,1,Ac⟩) aE (J Ab Zk.seq)).setOther (a:=⟨w+1,2,Ac⟩) aE (Aa (Ad ⟨g,o,Ac⟩) 4 e1)).setOther (a:=⟨w+1,3,Ac⟩) aE (Aa B2 m2 e2)) rfl (J Ab 9) (J Ab 0) (J Ab 0) (J Ab 0);have RES3:=(((RES2.setOther (a:=⟨w+1+1,0,Ac⟩) aE.symm (J Ab 9)).setOther (a:=⟨w+1+1,1,Ac⟩) aE.symm (J Ab 0)).setOther (a:=⟨w+1+1,2,Ac⟩) aE.symm (J Ab 0)).setOther (a:=⟨w+1+1,3,Ac⟩) aE.symm (J Ab 0);refine Ak (Sn RES3 RP2) rfl ⟨(⟨Ad ⟨g,o,Ac⟩,4,e1⟩,⟨B2,m2,e2⟩),F,by rw [HF.out];rfl,by rw [HF.out];exact (by (repeat (refine Dt.ow_set Bu ?_ (by first | exact en1 | exact en2) _));exact (show Bu.ow _ F Zk (⟨Ad ⟨g,o,Ac⟩,4,e1⟩,⟨B2,m2,e2⟩) from oy)),fun x hx=>by have:=hF.out.1 x hx;omega,?_⟩;repeat (first | (with_reducible exact aJ) | refine Ae ?_ Bo _)
   | cons e rest =>
    obtain ⟨qD,⟨gK,qT⟩,bL⟩:=jS e (List.mem_cons_self ..);obtain ⟨pr,sq,rn,tk⟩:=e;dsimp only at qD gK qT bL;obtain ⟨t,rfl⟩:=Aq gK;rcases Ek Zk rn with eB | ⟨j,hj,eB⟩
    ·exact absurd qD Bl
    have bR:=Ey hj eB;rw [bR] at qT bL;have uD:j<y.runs.length:=by rw [<-aP.out.runs];exact hj
    have sJ:Hid (Gr Zk.runs[j]):=by
     have e:Zk.runs[j]=y.runs[j]:=by simp only [aP.out.runs]
     show Gr Zk.runs[j];rw [e];exact Er HP.out uD
    have HF:=Bq (HZ.out.trans (qR.out.trans (show _=((⟨Zk.now,Zk.seq,Zk.shelf.set home rest,Zk.runs.set j (De Zk.runs[j] t Zk.now)⟩:Yard),(⟨0,rn,t,(By Zk.runs[j] t).try_+1⟩:Reply)) by show Ug _ _ (_ :: _)=_;unfold Ug;dsimp only;rw [eB,bR,Ap,Ap])));have gI:=Bq (show 0<=Zk.now/\Zk.now<=999999980 by rw [aP.out.now];exact HP.out.1);have hrun8:Zk.runs.length<=8:=by rw [aP.out.runs];exact HP.out.2.2.2.2.2.2.1
    have dN:t<Zk.runs[j].tasks.length:=Bl;have sG:=Co dN;have nP:=Bq (show Db ⟨Zk.now,Zk.seq,Zk.shelf.set home rest,Zk.runs⟩ rn=j from (N5 (y:=Zk) rfl rn).trans eB);have qW:=Bq (show Cf ⟨Zk.now,Zk.seq,Zk.shelf.set home rest,Zk.runs⟩<=2000000 by
     have:=P9 (y:=⟨Zk.now,Zk.seq,Zk.shelf.set home rest,Zk.runs⟩) (M:=80) (by simpa using rS) (fun s hs=>by
      rcases List.mem_or_eq_of_mem_set hs with h | h
      ·exact aP.out.all s h
      ·subst h;simp at nR;omega) hrun8 (fun k hk=>by
       have bE:k<y.runs.length:=by rw [<-aP.out.runs];exact hk
       have e:Zk.runs[k]=y.runs[k]:=by simp only [aP.out.runs]
       show Gr Zk.runs[k];rw [e];exact Er HP.out bE)
     omega)
    clear HZ qR jS eB bR qD gK qT bL uD qU qP;replace ot:OwL Ch w2 Ft (Aa ta tn tc) rest:=ot;have eY:∀ x∈Ft,wr<=x/\x<w2:=fun x hx=>⟨nt x hx,ot.lt x hx⟩
    have EB:=DBox.new 71 [J Ab pr,J Ab sq,J Ab rn,J Ab (t:Int)] w2 (b:=w2) rfl;have EB0:Below w2 w2 (w2.alloc (.cells #[J Ab pr,J Ab sq,J Ab rn,J Ab (t:Int)] 71)):=Bt;go_upto_region 16 with fail
    replace oy:Bu.ow _ F Zk (⟨Ad ⟨g,o,Ac⟩,4,e1⟩,⟨B2,m2,e2⟩):=owB oy EB0;replace ot:=ot.below EB0;replace OB:=OB.below EB0;replace RES:=RES.below EB0;replace RP:=RP.below EB0;replace aJ:=Bv aJ EB0;clear nt EB0;generalize w2.alloc (.cells #[J Ab pr,J Ab sq,J Ab rn,J Ab (t:Int)] 71)=w3 at *
    have hebl:=EB.lt;generalize w2.heap.size=eb at *
    obtain ⟨OB_0,OB_1,OB_2,OB_3,OB_l⟩:=OB.g4;obtain ⟨EB_0,EB_1,EB_2,EB_3,EB_l⟩:=EB.g4;replace oy:Bu.ow w3 F Zk (⟨Ad ⟨g,o,Ac⟩,4,e1⟩,⟨B2,m2,e2⟩):=oy;have kA:∀ j,w3.frozen? ⟨g,j,Ac⟩=false:=by
     obtain ⟨G1,G2,_,_,os,_⟩:=oy;exact OwL.free0 (show OwL (Dt.list Ch) w3 G1 (Aa (Ad ⟨g,o,Ac⟩) 4 e1) Zk.shelf from os) Bl
    obtain ⟨_,_,⟨xa3,xn3,xc3⟩,cG,sM,_,ch⟩:=RdL.entryS (show RdL (Dt.list Ch) w3 w3.heap.size (Aa (Ad ⟨g,o,Ac⟩) 4 e1) Zk.shelf from (Bu.ow_rd (F:=F) (x:=Zk) oy).1) gZ;simp only [Option.some.injEq,Addr.mk.injEq,and_true] at cG;obtain ⟨rfl,rfl⟩:=cG;obtain ⟨F4,oy4,uU,eP⟩:=G7 oy gZ (l:=rest) (t:=⟨ta,tn,tc⟩) ot (fun x hx bF=>by have h1:=(eY x hx).1;have h2:=mR x bF;omega);go_upto_region 19 with fail
    have eK:Chg [g] w3 (w3.setCell ⟨g,o+home,Ac⟩ (Aa ta tn tc)):=Chg.setCell w3 g _ _;have bQ:=Bq (show ∀ x,x∈[g]->x=g from fun x hx=>by simpa using hx);have hgF2:=hF.out.1 g eP;have dY:ob≠g:=fun h=>hF.out.2.1 (by rw [h];exact eP);clear OB_0 OB_1 OB_2 OB_3 OB_l;clear EB_0 EB_1 EB_2 EB_3 EB_l;replace OB:=OB.chg eK (fun hx=>dY (bQ.out _ hx));replace EB:=EB.chg eK (fun hx=>by have:=bQ.out _ hx;omega);replace RES:=RES.chg eK (fun hx=>by have:=bQ.out _ hx;omega);replace RP:=RP.chg eK (fun hx=>by have:=bQ.out _ hx;omega);have kH:=eK.size;replace aJ:=aJ.trans (eK.below (by have:=aJ.size;omega) (fun x hx=>by have:=bQ.out _ hx;omega));clear eK oy kA ch ot;generalize w3.setCell ⟨g,o+home,Ac⟩ (Aa ta tn tc)=w4 at *
    replace oy4:Bu.ow w4 F4 ⟨Zk.now,Zk.seq,Zk.shelf.set home rest,Zk.runs⟩ (⟨Ad ⟨g,o,Ac⟩,4,e1⟩,⟨B2,m2,e2⟩):=oy4;have gQ:∀ x∈F4,(x∈F\/(wr<=x/\x<eb)):=fun x hx=>(uU x hx).imp id (fun h=>eY x h);have CA:=Bq (Fo ⟨Zk.now,Zk.seq,Zk.shelf.set home rest,Zk.runs⟩ (⟨Ad ⟨g,o,Ac⟩,4,e1⟩,⟨B2,m2,e2⟩) rn w4 qW.out (Bu.ow_rd (F:=F4) (x:=⟨Zk.now,Zk.seq,Zk.shelf.set home rest,Zk.runs⟩) oy4));obtain ⟨OB_0,OB_1,OB_2,OB_3,OB_l⟩:=OB.g4;obtain ⟨EB_0,EB_1,EB_2,EB_3,EB_l⟩:=EB.g4;go_wp2_with fail
    refine CA.out.mono ?_;rintro e9 w5 ⟨rfl,b5⟩;rw [nP.out];clear OB_0 OB_1 OB_2 OB_3 OB_l;clear EB_0 EB_1 EB_2 EB_3 EB_l;replace OB:=OB.below b5;replace EB:=EB.below b5;replace RES:=RES.below b5;replace RP:=RP.below b5;replace aJ:=Bv aJ b5;replace oy4:Bu.ow w5 F4 ⟨Zk.now,Zk.seq,Zk.shelf.set home rest,Zk.runs⟩ (⟨Ad ⟨g,o,Ac⟩,4,e1⟩,⟨B2,m2,e2⟩):=owB oy4 b5;have mK:=b5.size;clear b5 CA nP qW;have oyr:=(Bu.ow_rd (F:=F4) (x:=⟨Zk.now,Zk.seq,Zk.shelf.set home rest,Zk.runs⟩) oy4).2;have dW:=Bq (show m2=Zk.runs.length from RdL.at1 (s:=⟨B2,m2,e2⟩) oyr);have gL:(j:Int)<(m2:Int):=by have:=dW.out;omega
    have bZ:(0:Int)<=(j:Int):=Bl;obtain ⟨gr,orr,sk,rfl,cQ,bR,c0,c1,c2,c3,c4,c5,c6,c7⟩:=RdL.run (show RdL Cn w5 w5.heap.size (Aa B2 m2 e2) Zk.runs from oyr) hj;have gM:∀ i,w5.frozen? ⟨gr,i,Ac⟩=false:=by
     obtain ⟨G1,G2,_,_,_,os⟩:=oy4;exact OwL.free0 (show OwL Cn w5 G2 (Aa (Ad ⟨gr,orr,Ac⟩) m2 e2) Zk.runs from os) Bl
    generalize mP:Zk.runs[j]=r at *
    have pK:-1000000<=r.tasks[t].try_/\r.tasks[t].try_<=2000000000/\0<=r.plan.wait/\r.plan.wait<=2000000000:=by
     have h1:=sJ.out.2.2.2.1 t dN;have h2:=(Cs.1 sJ.out.2.1).1;simp only [Eg,Bool.and_eq_true] at h2;have h3:=Ct.1 h2.1.2;have h4:=Ct.1 h2.2;unfold Gz Ls at h1;rw [sG] at h1;omega
    have CSt:=Bq (Vc r sk t Zk.now w5.drew (by have:=K7 sJ.out;omega) dN ⟨pK.1,pK.2.1⟩ (by have:=gI.out;omega) pK.2.2 (Cn.rd_below bR (Br _ _).drew));have hobw5:ob<w5:=Bl;have hebw5:eb<w5:=Bl;clear bR oyr pK sJ hrun8;obtain ⟨OB_0,OB_1,OB_2,OB_3,OB_l⟩:=OB.g4;obtain ⟨EB_0,EB_1,EB_2,EB_3,EB_l⟩:=EB.g4;go_wp2;refine Dl (fun w'=>w'.cell? ⟨ob,3,Ac⟩=Ad (Aa (Ad ⟨gr,orr,Ac⟩) m2 e2)/\w'.cell? ⟨ob,0,Ac⟩=Ad (J Ab Zk.now)/\w'.cell? ⟨eb,3,Ac⟩=Ad (J Ab (t:Int))/\w'.cell? ⟨gr,orr+j * 8,Ac⟩=Ad (J Ab r.id)/\w'.cell? ⟨gr,orr+j * 8+1,Ac⟩=Ad (J Ab r.plan.prio)/\w'.cell? ⟨gr,orr+j * 8+2,Ac⟩=Ad (J Ab r.plan.most)/\w'.cell? ⟨gr,orr+j * 8+3,Ac⟩=Ad (J Ab r.plan.wait)/\w'.cell? ⟨gr,orr+j * 8+4,Ac⟩=Ad (J Ab r.plan.tasks)/\w'.cell? ⟨gr,orr+j * 8+5,Ac⟩=Ad (Aa sk.1.a sk.1.n sk.1.c)/\w'.cell? ⟨gr,orr+j * 8+6,Ac⟩=Ad (J Ab r.state)/\w'.cell? ⟨gr,orr+j * 8+7,Ac⟩=Ad (Aa sk.2.a sk.2.n sk.2.c)) 14 Bm ?_ (fun aA=>?_)
    ·exact ⟨OB_3,OB_0,EB_3,c0,c1,c2,c3,c4,c5,c6,c7⟩
    refine aT 0 aA ?_;try simp only [pS]
    refine aT 1 aA ?_;try simp only [pS]
    refine aT 2 aA ?_;try simp only [pS]
    refine aT 3 aA ?_;try simp only [pS]
    refine aT 4 aA ?_;try simp only [pS]
    refine aT 5 aA ?_;try simp only [pS]
    refine aT 6 aA ?_;try simp only [pS]
    refine aT 7 aA ?_;try simp only [pS]
    refine aT 8 aA ?_;try simp only [pS]
    refine aT 9 aA ?_;try simp only [pS]
    refine aT 10 aA ?_;try simp only [pS]
    refine aT 11 aA ?_;try simp only [pS]
    refine oT 12 (fun K hK=>?_)
    (go_simp;refine CSt.out.mono ?_;rintro e9 w6 ⟨sr,Fr,rfl,orn,nr,b6⟩;have q0:w6.cell? ⟨gr,orr+j * 8,Ac⟩=Ad (J Ab r.id):=(b6.cell (p:=⟨_,_,Ac⟩) (by show gr<w5;omega)).trans c0;have q1:w6.cell? ⟨gr,orr+j * 8+1,Ac⟩=Ad (J Ab r.plan.prio):=(b6.cell (p:=⟨_,_,Ac⟩) (by show gr<w5;omega)).trans c1;have q2:w6.cell? ⟨gr,orr+j * 8+2,Ac⟩=Ad (J Ab r.plan.most):=(b6.cell (p:=⟨_,_,Ac⟩) (by show gr<w5;omega)).trans c2;have q3:w6.cell? ⟨gr,orr+j * 8+3,Ac⟩=Ad (J Ab r.plan.wait):=(b6.cell (p:=⟨_,_,Ac⟩) (by show gr<w5;omega)).trans c3;have q4:w6.cell? ⟨gr,orr+j * 8+4,Ac⟩=Ad (J Ab r.plan.tasks):=(b6.cell (p:=⟨_,_,Ac⟩) (by show gr<w5;omega)).trans c4;have q5:w6.cell? ⟨gr,orr+j * 8+5,Ac⟩=Ad (Aa sk.1.a sk.1.n sk.1.c):=(b6.cell (p:=⟨_,_,Ac⟩) (by show gr<w5;omega)).trans c5;have q6:w6.cell? ⟨gr,orr+j * 8+6,Ac⟩=Ad (J Ab r.state):=(b6.cell (p:=⟨_,_,Ac⟩) (by show gr<w5;omega)).trans c6;have q7:w6.cell? ⟨gr,orr+j * 8+7,Ac⟩=Ad (Aa sk.2.a sk.2.n sk.2.c):=(b6.cell (p:=⟨_,_,Ac⟩) (by show gr<w5;omega)).trans c7;have qf:∀ j,w6.frozen? ⟨gr,j,Ac⟩=false:=fun j=>(b6.frozen (p:=⟨_,_,Ac⟩) (by show gr<w5;omega)).trans (gM j))
    refine hK.out _ _ (fun _=>?_) ?_
    ·exact ⟨(b6.cell (p:=⟨_,_,Ac⟩) (by show ob<w5;omega)).trans OB_3,(b6.cell (p:=⟨_,_,Ac⟩) (by show ob<w5;omega)).trans OB_0,(b6.cell (p:=⟨_,_,Ac⟩) (by show eb<w5;omega)).trans EB_3,(b6.cell (p:=⟨_,_,Ac⟩) (by show gr<w5;omega)).trans c0,(b6.cell (p:=⟨_,_,Ac⟩) (by show gr<w5;omega)).trans c1,(b6.cell (p:=⟨_,_,Ac⟩) (by show gr<w5;omega)).trans c2,(b6.cell (p:=⟨_,_,Ac⟩) (by show gr<w5;omega)).trans c3,(b6.cell (p:=⟨_,_,Ac⟩) (by show gr<w5;omega)).trans c4,(b6.cell (p:=⟨_,_,Ac⟩) (by show gr<w5;omega)).trans c5,(b6.cell (p:=⟨_,_,Ac⟩) (by show gr<w5;omega)).trans c6,(b6.cell (p:=⟨_,_,Ac⟩) (by show gr<w5;omega)).trans c7⟩
    clear hK K;try simp only [pS]
    refine oT 13 (fun K hK=>?_);go_simp;refine hK.out _ _ (fun _=>?_) ?_
    ·exact ⟨(b6.cell (p:=⟨_,_,Ac⟩) (by show ob<w5;omega)).trans OB_3,(b6.cell (p:=⟨_,_,Ac⟩) (by show ob<w5;omega)).trans OB_0,(b6.cell (p:=⟨_,_,Ac⟩) (by show eb<w5;omega)).trans EB_3,(b6.cell (p:=⟨_,_,Ac⟩) (by show gr<w5;omega)).trans c0,(b6.cell (p:=⟨_,_,Ac⟩) (by show gr<w5;omega)).trans c1,(b6.cell (p:=⟨_,_,Ac⟩) (by show gr<w5;omega)).trans c2,(b6.cell (p:=⟨_,_,Ac⟩) (by show gr<w5;omega)).trans c3,(b6.cell (p:=⟨_,_,Ac⟩) (by show gr<w5;omega)).trans c4,(b6.cell (p:=⟨_,_,Ac⟩) (by show gr<w5;omega)).trans c5,(b6.cell (p:=⟨_,_,Ac⟩) (by show gr<w5;omega)).trans c6,(b6.cell (p:=⟨_,_,Ac⟩) (by show gr<w5;omega)).trans c7⟩
    clear hK K;try simp only [pS]
    refine oT 14 (fun K hK=>?_);go_simp;refine hK.out _ _ (fun aE=>absurd rfl aE) ?_;clear hK K;try simp only [pS]
    refine Eb Bm ?_ _;have b6':Below w5 w5 w6:=Bv (Br _ _).drew b6;have nY:=b6'.size;have nH:∀ x∈Fr,w5<=x:=nr;have jA:∀ x∈F4,x<w5:=Bu.ow_lt (F:=F4) (x:=⟨Zk.now,Zk.seq,Zk.shelf.set home rest,Zk.runs⟩) (s:=(⟨Ad ⟨g,o,Ac⟩,4,e1⟩,⟨Ad ⟨gr,orr,Ac⟩,m2,e2⟩)) oy4;have oy6:Bu.ow w6 F4 ⟨Zk.now,Zk.seq,Zk.shelf.set home rest,Zk.runs⟩ (⟨Ad ⟨g,o,Ac⟩,4,e1⟩,⟨Ad ⟨gr,orr,Ac⟩,m2,e2⟩):=owB oy4 b6';obtain ⟨F8,oy8,kF,fH⟩:=Pe oy6 (k:=j) hj (r:=De r t Zk.now) (sr:=sr) orn (fun x hx bF=>by have h1:=nH x hx;have h2:=jA x bF;omega);have jF:Chg [gr] w6 ((((((((w6.setCell ⟨gr,orr+j * 8,Ac⟩ (J Ab (De r t Zk.now).id)).setCell ⟨gr,orr+j * 8+1,Ac⟩ (J Ab (De r t Zk.now).plan.prio)).setCell ⟨gr,orr+j * 8+2,Ac⟩ (J Ab (De r t Zk.now).plan.most)).setCell ⟨gr,orr+j * 8+3,Ac⟩ (J Ab (De r t Zk.now).plan.wait)).setCell ⟨gr,orr+j * 8+4,Ac⟩ (J Ab (De r t Zk.now).plan.tasks)).setCell ⟨gr,orr+j * 8+5,Ac⟩ (Aa sr.1.a sr.1.n sr.1.c)).setCell ⟨gr,orr+j * 8+6,Ac⟩ (J Ab (De r t Zk.now).state)).setCell ⟨gr,orr+j * 8+7,Ac⟩ (Aa sr.2.a sr.2.n sr.2.c)):=Fn (Cn.enc.cells ((De r t Zk.now),sr)) w6 gr (orr+j * 8);have eU:=Bq (show ∀ x,x∈[gr]->x=gr from fun x hx=>by simpa using hx);have mY:=gQ gr fH;have hobgr:ob≠gr:=fun h=>by
     rcases mY with h1 | h1
     ·exact hF.out.2.1 (by rw [h];exact h1)
     ·omega
    have hebgr:eb≠gr:=fun h=>by
     rcases mY with h1 | h1
     ·have:=mR _ h1;omega
     ·omega
    have gS:w+1+1<gr:=by
     rcases mY with h1 | h1
     ·exact hF.out.1 _ h1
     ·omega
    clear OB_0 OB_1 OB_2 OB_3 OB_l;clear EB_0 EB_1 EB_2 EB_3 EB_l;replace OB:=(OB.below b6').chg jF (fun hx=>hobgr (eU.out _ hx));replace EB:=(EB.below b6').chg jF (fun hx=>hebgr (eU.out _ hx));replace RES:=(RES.below b6').chg jF (fun hx=>by have:=eU.out _ hx;omega);replace RP:=(RP.below b6').chg jF (fun hx=>by have:=eU.out _ hx;omega);replace aJ:=(Bv aJ b6').trans (jF.below (by have:=(Bv aJ b6').size;omega) (fun x hx=>by have:=eU.out _ hx;omega));have eT:∀ x∈F8,x∈F4\/w5<=x:=fun x hx=>(kF x hx).imp id (fun h=>nH x h);clear aA oy4 oy6 b6 b6' nr orn jF CSt c0 c1 c2 c3 c4 c5 c6 c7 gM q0 q1 q2 q3 q4 q5 q6 q7 qf;generalize ((((((((w6.setCell ⟨gr,orr+j * 8,Ac⟩ (J Ab (De r t Zk.now).id)).setCell ⟨gr,orr+j * 8+1,Ac⟩ (J Ab (De r t Zk.now).plan.prio)).setCell ⟨gr,orr+j * 8+2,Ac⟩ (J Ab (De r t Zk.now).plan.most)).setCell ⟨gr,orr+j * 8+3,Ac⟩ (J Ab (De r t Zk.now).plan.wait)).setCell ⟨gr,orr+j * 8+4,Ac⟩ (J Ab (De r t Zk.now).plan.tasks)).setCell ⟨gr,orr+j * 8+5,Ac⟩ (Aa sr.1.a sr.1.n sr.1.c)).setCell ⟨gr,orr+j * 8+6,Ac⟩ (J Ab (De r t Zk.now).state)).setCell ⟨gr,orr+j * 8+7,Ac⟩ (Aa sr.2.a sr.2.n sr.2.c))=w8 at *
    replace oy8:Bu.ow w8 F8 ⟨Zk.now,Zk.seq,Zk.shelf.set home rest,Zk.runs.set j (De r t Zk.now)⟩ (⟨Ad ⟨g,o,Ac⟩,4,e1⟩,⟨Ad ⟨gr,orr,Ac⟩,m2,e2⟩):=oy8;have hjs:j<(Zk.runs.set j (De r t Zk.now)).length:=by rw [Bh];exact hj
    have oyk:=oy8;obtain ⟨G1,G2,sA,_,_,os8⟩:=oyk;obtain ⟨⟨sx1,⟨tva,tn2,tc2⟩⟩,Fx,hxo,bF,_,_,_,nZ⟩:=OwL.elem (show OwL Cn w8 G2 (Aa (Ad ⟨gr,orr,Ac⟩) m2 e2) (Zk.runs.set j (De r t Zk.now)) from os8) hjs;have cT:w8.cell? ⟨gr,orr+j * 8+7,Ac⟩=Ad (Aa tva tn2 tc2):=nZ 7 _ rfl;rw [List.getElem_set_self] at hxo;obtain ⟨H1,H2,hHH,_,_,ot8⟩:=hxo;have oh8:=N2 (show OwL Eu w8 H2 (Aa tva tn2 tc2) (De r t Zk.now).tasks from ot8);have hgr8:gr<w8:=by have:=Bu.ow_lt (F:=F8) (x:=⟨Zk.now,Zk.seq,Zk.shelf.set home rest,Zk.runs.set j (De r t Zk.now)⟩) (s:=(⟨Ad ⟨g,o,Ac⟩,4,e1⟩,⟨Ad ⟨gr,orr,Ac⟩,m2,e2⟩)) oy8 gr (by rw [sA];exact Be _ (OwL.block_mem (show OwL Cn w8 G2 (Aa (Ad ⟨gr,orr,Ac⟩) m2 e2) _ from os8) (Nat.lt_of_le_of_lt (Ah _) hjs)));exact this
    have htn2:tn2=r.tasks.length:=(RdL.at1 (s:=⟨tva,tn2,tc2⟩) (show OwL Eu w8 H2 (Aa tva tn2 tc2) (De r t Zk.now).tasks from ot8).rd).trans (N9 _ _ _);have jX:(t:Int)<(tn2:Int):=Bl;have gK:(0:Int)<=(t:Int):=Bl;have hts:t<(De r t Zk.now).tasks.length:=by rw [N9];exact dN
    obtain ⟨gt,ot2,rfl,tP,-,-,cY,-⟩:=oh8.rd.tsk hts;have hgtF:gt∈F8:=by
     have h1:=(oh8.block Bl).1;rw [sA];refine Be _ (bF _ ?_);rw [hHH,h1];exact Be _ (Aw.2 rfl)
    have hty:=Aes r t Zk.now dN;rw [hty] at cY;have hobw8:ob<w8:=OB.lt;have hebw8:eb<w8:=EB.lt;have en1:w.heap.size+1∉F8:=fun hx=>by
     rcases eT _ hx with h | h
     ·rcases gQ _ h with h1 | h1
      ·have:=hF.out.1 _ h1;omega
      ·omega
     ·omega
    have en2:w.heap.size+1+1∉F8:=fun hx=>by
     rcases eT _ hx with h | h
     ·rcases gQ _ h with h1 | h1
      ·have:=hF.out.1 _ h1;omega
      ·omega
     ·omega
    have mE:∀ x∈F8,w<=x:=fun x hx=>by
     rcases eT _ hx with h | h
     ·rcases gQ _ h with h1 | h1
      ·have:=hF.out.1 _ h1;omega
      ·omega
     ·omega
    have HFF:=Bq (show Ih y (wk:Int) d=((⟨Zk.now,Zk.seq,Zk.shelf.set home rest,Zk.runs.set j (De r t Zk.now)⟩:Yard),(⟨0,rn,t,r.tasks[t].try_+1⟩:Reply)) by rw [HF.out,sG]);have gn1:gt≠w.heap.size+1:=fun h=>en1 (by rw [<-h];exact hgtF);have gn2:gt≠w.heap.size+1+1:=fun h=>en2 (by rw [<-h];exact hgtF);clear HF hty gQ eT kF nH jA eY uU mR sG;go_wp2;refine Go.wp_region_noPanic ?_;refine wp_region_held_drew (S:=(fun w'=>DBox ob [J Ab Zk.now,J Ab Zk.seq,Aa (Ad ⟨g,o,Ac⟩) 4 e1,Aa (Ad ⟨gr,orr,Ac⟩) m2 e2] w'/\DBox eb [J Ab pr,J Ab sq,J Ab rn,J Ab (t:Int)] w'/\w'.cell? ⟨gr,orr+j * 8+7,Ac⟩=Ad (Aa (Ad ⟨gt,ot2,Ac⟩) tn2 tc2)/\w'.cell? ⟨gt,ot2+t * 4+2,Ac⟩=Ad (J Ab (r.tasks[t].try_+1)))) Bm ⟨DBox.drew4 OB,DBox.drew4 EB,cT,cY⟩ (fun aA=>?_);replace oy8:Bu.ow w8.drew F8 ⟨Zk.now,Zk.seq,Zk.shelf.set home rest,Zk.runs.set j (De r t Zk.now)⟩ (⟨Ad ⟨g,o,Ac⟩,4,e1⟩,⟨Ad ⟨gr,orr,Ac⟩,m2,e2⟩):=owB oy8 (Br _ _).drew;replace RES:DBox _ _ w8.drew:=DBox.drew4 RES;replace RP:DBox _ _ w8.drew:=DBox.drew4 RP;replace aJ:=aJ.drew;have nC:w8.drew.heap.size=w8.heap.size:=rfl;rw [<-nC] at hgr8 tP;clear OB EB cT cY nC oh8 ot8 nZ bF os8 hobw8 hebw8 hgtF;generalize w8.drew=w8d at *
    refine tV 0 ?_
    (try simp only [pS])
    refine tV 1 ?_
    (try simp only [pS])
    refine tV 2 ?_
    (try simp only [pS])
    refine tV 3 ?_
    (try simp only [pS])
    refine tV 4 ?_
    (try simp only [pS])
    refine tV 5 ?_
    (try simp only [pS])
    refine tV 6 ?_
    (try simp only [pS])
    refine tV 7 ?_
    (try simp only [pS])
    refine tV 8 ?_
    (try simp only [pS])
    refine tV 9 ?_
    (try simp only [pS])
    refine tV 10 ?_
    (try simp only [pS])
    refine tV 11 ?_
    (try simp only [pS])
    refine tV 12 ?_
    (try simp only [pS])
    refine tV 13 ?_
    (try simp only [pS])
    refine tV 14 ?_
    (try simp only [pS])
    refine tV 15 ?_
    (try simp only [pS])
    refine tV 16 ?_
    (try simp only [pS])
    have RES_0:=RES.cell 0 _ rfl;have RES_1:=RES.cell 1 _ rfl;have RES_2:=RES.cell 2 _ rfl;have RES_3:=RES.cell 3 _ rfl;have RP_0:=RP.cell 0 _ rfl;have RP_1:=RP.cell 1 _ rfl;have RP_2:=RP.cell 2 _ rfl;have RP_3:=RP.cell 3 _ rfl;have rf:=RES.free;have pf:=RP.free;have cS:=Bq (show ∀ x,x∈[w.heap.size+1]->x=w.heap.size+1 from fun x hx=>by simpa using hx);have hm2':=Bq (show ∀ x,x∈[w.heap.size+1+1]->x=w.heap.size+1+1 from fun x hx=>by simpa using hx);have eR:=Chg.cells4 w8d (w+1) 0 1 2 3 (J Ab Zk.now) (J Ab Zk.seq) (Aa (Ad ⟨g,o,Ac⟩) 4 e1) (Aa (Ad ⟨gr,orr,Ac⟩) m2 e2);refine rC 17 (fun K_ hK=>?_);go_simp;have vD:=eR.size;have RES2:=DBox.row4 RES rfl (J Ab Zk.now) (J Ab Zk.seq) (Aa (Ad ⟨g,o,Ac⟩) 4 e1) (Aa (Ad ⟨gr,orr,Ac⟩) m2 e2);have RP2:=RP.chg eR (fun hx=>by have:=cS.out _ hx;omega);replace oy8:Bu.ow _ F8 ⟨Zk.now,Zk.seq,Zk.shelf.set home rest,Zk.runs.set j (De r t Zk.now)⟩ (⟨Ad ⟨g,o,Ac⟩,4,e1⟩,⟨Ad ⟨gr,orr,Ac⟩,m2,e2⟩):=owC oy8 eR (fun x hx hx2=>by have h1:=cS.out _ hx2;subst h1;exact en1 hx);replace aJ:=aJ.trans (eR.below (by have:=aJ.size;omega) (fun x hx=>by have:=cS.out _ hx;omega));refine hK.out _ _ ⟨aA.1.chg eR (fun hx=>by have:=cS.out _ hx;omega),aA.2.1.chg eR (fun hx=>by have:=cS.out _ hx;omega),(eR.cell (p:=⟨gr,_,Ac⟩) (by show gr<w8d;omega) (fun hx=>by have:gr=w.heap.size+1:=cS.out _ hx;omega)).trans aA.2.2.1,(eR.cell (p:=⟨gt,_,Ac⟩) (by show gt<w8d;omega) (fun hx=>by have:gt=w.heap.size+1:=cS.out _ hx;omega)).trans aA.2.2.2⟩ (fun aA=>?_);clear hK K_ rf pf RES_0 RES_1 RES_2 RES_3 RP_0 RP_1 RP_2 RP_3 eR
    (try simp only [pS])
    generalize (((w8d.setCell ⟨w+1,0,Ac⟩ (J Ab Zk.now)).setCell ⟨w+1,1,Ac⟩ (J Ab Zk.seq)).setCell ⟨w+1,2,Ac⟩ (Aa (Ad ⟨g,o,Ac⟩) 4 e1)).setCell ⟨w+1,3,Ac⟩ (Aa (Ad ⟨gr,orr,Ac⟩) m2 e2)=w9 at *
    have RP_0:=RP2.cell 0 _ rfl;have RP_1:=RP2.cell 1 _ rfl;have RP_2:=RP2.cell 2 _ rfl;have RP_3:=RP2.cell 3 _ rfl;have pf:=RP2.free;have gB:=Chg.cells4 w9 (w+1+1) 0 1 2 3 (J Ab 0) (J Ab rn) (J Ab (t:Int)) (J Ab (r.tasks[t].try_+1));refine rC 18 (fun K_ hK=>?_);go_simp;refine hK.out _ _ ⟨aA.1.chg gB (fun hx=>by have:=hm2'.out _ hx;omega),aA.2.1.chg gB (fun hx=>by have:=hm2'.out _ hx;omega),(gB.cell (p:=⟨gr,_,Ac⟩) (by show gr<w9;have:=vD;omega) (fun hx=>by have:gr=w.heap.size+1+1:=hm2'.out _ hx;omega)).trans aA.2.2.1,(gB.cell (p:=⟨gt,_,Ac⟩) (by show gt<w9;have:=vD;omega) (fun hx=>by have:gt=w.heap.size+1+1:=hm2'.out _ hx;omega)).trans aA.2.2.2⟩ (fun aA=>?_);clear hK K_ aA
    (try simp only [pS])
    refine wpAnyH_done Bm ?_ _;refine NoPanic.normal ?_;have RES3:=RES2.chg gB (fun hx=>by have:=hm2'.out _ hx;omega);have RP3:=DBox.row4 RP2 rfl (J Ab 0) (J Ab rn) (J Ab (t:Int)) (J Ab (r.tasks[t].try_+1));replace oy8:Bu.ow _ F8 ⟨Zk.now,Zk.seq,Zk.shelf.set home rest,Zk.runs.set j (De r t Zk.now)⟩ (⟨Ad ⟨g,o,Ac⟩,4,e1⟩,⟨Ad ⟨gr,orr,Ac⟩,m2,e2⟩):=owC oy8 gB (fun x hx hx2=>by have h1:=hm2'.out _ hx2;subst h1;exact en2 hx);replace aJ:=aJ.trans (gB.below (by have:=aJ.size;omega) (fun x hx=>by have:=hm2'.out _ hx;omega));clear RP_0 RP_1 RP_2 RP_3 pf;go_wp2;exact Ak (Sn RES3 RP3) rfl ⟨(⟨Ad ⟨g,o,Ac⟩,4,e1⟩,⟨Ad ⟨gr,orr,Ac⟩,m2,e2⟩),F8,by rw [HFF.out],by rw [HFF.out];exact oy8,mE,aJ⟩
theorem Aet {b:Nat} {w:World} {u0 u1 u2 u3 u4 u5 u6 u7 v5:Value} (X:DBox b [u0,u1,u2,u3,u4,u5,u6,u7] w) {v0 v1 v2 v3:Value} {rest:List Value} :
  (results Tryz.f239 (v0 :: v1 :: v2 :: v3 :: .pointer (Ad ⟨b,0,Ac⟩) :: v5 :: rest).toArray).run An w = .ok (.tuple #[.agg #[u0,u1,u2,u3,u4,u5,u6,u7],v5]) w:=by
 have c0:=X.cell 0 _ rfl;have c1:=X.cell 1 _ rfl;have c2:=X.cell 2 _ rfl;have c3:=X.cell 3 _ rfl;have c4:=X.cell 4 _ rfl;have c5:=X.cell 5 _ rfl;have c6:=X.cell 6 _ rfl;have c7:=X.cell 7 _ rfl;simp [results,results239,go_sem,c0,c1,c2,c3,c4,c5,c6,c7]
theorem Pf {α:Type} (f:Nat->α) (k:Nat):(List.range (k+1)).map f=(List.range k).map f ++ [f k]:=by rw [List.range_succ,List.map_append];rfl
def Afp (r:Run) (w:World) (e:Ending) (w':World):Prop :=
 ∃ s F,e = .returned (.tuple #[Hx r s,.bool true])/\Cn.ow w' F r s/\(∀ b∈F,w<=b)/\Below w w w'
theorem Xc (id:Int) (p:Plan) (s:Sl) (w:World) (hid:inB id 1 9999=true) (hf:Cr p=0) (h:Ck.rd w w p s) :
  Calls An 239 #[J Ab id,Ni p s] w (Afp (Ce id p) w):=by
 have fW:=Cs.1 hf;have hT:=Dx fW.1;have hE:=Es fW.1;obtain ⟨A,n,c⟩:=s;obtain rfl:n=p.edges.length:=RdL.at1 (s:=⟨A,n,c⟩) h;have rP:=Bq (fun W (hW:Below w w W)=>((Ja h).below hW).more hW.size);have CP:=Bq (fun W (hW:Below w w W)=>Nk p ⟨A,p.edges.length,c⟩ W (by unfold Hi;rw [Hz (cnt:=Nx) (fun _=>rfl)];omega) (Ck.rd_more (Ck.rd_below h hW) hW.size));have CF:=Bq (fun W (hW:Below w w W)=>Ki p (Aa A p.edges.length c) W Bl (rP.out W hW));have CB:=Bq (fun W (hW:Below w w W) t=>O3 p (Aa A p.edges.length c) t W fW.1 fW.2.1 fW.2.2.1 (rP.out W hW));rw [hf] at CF;obtain ⟨i0,aQ,aW,aU,aR⟩:=info_parts P4;clear h fW hE hf;have X:=(DBox.new 43 [J Ab p.prio,J Ab p.most,J Ab p.wait,J Ab p.tasks,Aa A p.edges.length c] w (b:=w) rfl).below ((Br _ _).alloc (Bs _) (.cells #[J Ab 0,J Ab 0,J Ab 0,J Ab 0,J Ab 0,Aa Ac 0 0,J Ab 0,Aa Ac 0 0] 67));have RES:=DBox.new 67 [J Ab 0,J Ab 0,J Ab 0,J Ab 0,J Ab 0,Aa Ac 0 0,J Ab 0,Aa Ac 0 0] (w.alloc (.cells #[J Ab p.prio,J Ab p.most,J Ab p.wait,J Ab p.tasks,Aa A p.edges.length c] 43)) (b:=w+1) Bn;have B0:Below w w ((w.alloc (.cells #[J Ab p.prio,J Ab p.most,J Ab p.wait,J Ab p.tasks,Aa A p.edges.length c] 43)).alloc (.cells #[J Ab 0,J Ab 0,J Ab 0,J Ab 0,J Ab 0,Aa Ac 0 0,J Ab 0,Aa Ac 0 0] 67)):=by repeat (first | exact Br _ _ | refine Below.alloc ?_ Bo _)
 go_enter func239,ntmps239;go_wp2_with (go_at_call 90;refine (Cl _ _ _ _).mono ?_;rintro e w9 ⟨rfl,rfl⟩;rw [hid])
 generalize ((w.alloc (.cells #[J Ab p.prio,J Ab p.most,J Ab p.wait,J Ab p.tasks,Aa A p.edges.length c] 43)).alloc (.cells #[J Ab 0,J Ab 0,J Ab 0,J Ab 0,J Ab 0,Aa Ac 0 0,J Ab 0,Aa Ac 0 0] 67))=W at *
 refine (CF.out _ B0).mono ?_;rintro e1 w1 ⟨rfl,b1⟩;have dL:=RES.lt;replace X:=X.below b1;replace RES:=RES.below b1;obtain ⟨X_0,X_1,X_2,X_3,X_4,X_l⟩:=X.g5;have B1:=Bv B0 b1;have bG:=b1.size;clear B0 b1;go_wp2_with fail
 refine (CP.out _ B1).mono ?_;rintro e1 w2 ⟨⟨A3,n3,c3⟩,F,rfl,op,nF,b2⟩;clear X_0 X_1 X_2 X_3 X_4 X_l;replace X:=X.below b2;replace RES:=RES.below b2;have B2:=Bv B1 b2;have cN:=b2.size;have cI:=Ck.ow_lt op;clear B1 b2 CP CF;obtain ⟨X_0,X_1,X_2,X_3,X_4,X_l⟩:=X.g5;go_upto_region 4 with fail
 have RB:=DBox.new 67 [J Ab id,J Ab p.prio,J Ab p.most,J Ab p.wait,J Ab p.tasks,Aa A3 n3 c3,J Ab 1,Aa Ac 0 0] w2 (b:=w2) rfl;have b3:Below w2 w2 (w2.alloc (.cells #[J Ab id,J Ab p.prio,J Ab p.most,J Ab p.wait,J Ab p.tasks,Aa A3 n3 c3,J Ab 1,Aa Ac 0 0] 67)):=Bt;clear X_0 X_1 X_2 X_3 X_4 X_l;replace X:=X.below b3;replace RES:=RES.below b3;replace op:=Ck.ow_below op b3;have B3:=Bv B2 b3;have fS:=b3.size;have hRB:=RB.lt;generalize w2.alloc (.cells #[J Ab id,J Ab p.prio,J Ab p.most,J Ab p.wait,J Ab p.tasks,Aa A3 n3 c3,J Ab 1,Aa Ac 0 0] 67)=w3 at *
 generalize pM:w2.heap.size=rb at *
 have cB:∀ x∈F,w+1<x/\x<rb:=fun x hx=>⟨by have:=nF x hx;omega,cI x hx⟩
 clear cI nF B2 b3;obtain ⟨T,sI⟩:∃ T:Nat,p.tasks=T:=⟨p.tasks.toNat,Bl⟩
 have mM:=Bq sI;have mV:=Bq (show p.tasks.toNat=T by omega);have fK:T<=12:=Bl;clear sI;have hH:Hid (Ce id p=⟨id,p,1,(List.range T).map (D8 p)⟩):=by
  show Ce id p=_;unfold Ce;rw [mV.out]
 go_wp2;go_loopw [7] (fun i wr=>∃ (k:Nat) (vt:Value),k<=T/\i = J Ab k/\Hid (Ow Fz 203 wr (rb+1) vt ((List.range k).map (D8 p)))/\DBox w [J Ab p.prio,J Ab p.most,J Ab p.wait,J Ab p.tasks,Aa A p.edges.length c] wr/\DBox (w+1) [J Ab 0,J Ab 0,J Ab 0,J Ab 0,J Ab 0,Aa Ac 0 0,J Ab 0,Aa Ac 0 0] wr/\DBox rb [J Ab id,J Ab p.prio,J Ab p.most,J Ab p.wait,J Ab p.tasks,Aa A3 n3 c3,J Ab 1,vt] wr/\Hid (Ck.ow wr F p ⟨A3,n3,c3⟩)/\Below w w wr/\rb<wr) (fun i _=>T - (intOf i).toNat);case atStart=>exact ⟨0,_,Ah _,rfl,Ow.nil Fz 203 w3 (rb+1),X,RES,RB,op,B3,hRB⟩
 case round =>
  clear X RES RB op B3;obtain ⟨k,vt,hk,rfl,ho,X,RES,RB,op,hb,cK⟩:=hrel;obtain ⟨X_0,X_1,X_2,X_3,X_4,X_l⟩:=X.g5;obtain ⟨RB_0,RB_1,RB_2,RB_3,RB_4,RB_5,RB_6,RB_7,RB_l⟩:=RB.g8;by_cases aB:k<T
  ·have aC:(k:Int)<p.tasks:=by have:=mM.out;omega
   have hS:=Bq (Pf (D8 p) k);go_wp2_with fail
   refine (CB.out _ hb k).mono ?_;rintro e1 w4 ⟨vb,rfl,ob,b4⟩;obtain ⟨A9,c9,rfl,-⟩:=_root_.id (Rd.of_own ob);have mQ:(Dv (Dr p) p.tasks.toNat k).length<=12:=by have h1:=Jh (Dr p) p.tasks.toNat k;have h2:=mV.out;omega
   have hN:Hid (D8 p k=⟨if (Dv (Dr p) p.tasks.toNat k).length=0 then 2 else 1,(Dv (Dr p) p.tasks.toNat k).length,0,0⟩):=rfl;have uW:=Bq (show ((List.range k).map (D8 p)).length<=3000000 by simp;omega);generalize (Dv (Dr p) p.tasks.toNat k).length=N at *
   clear X_0 X_1 X_2 X_3 X_4 X_l;clear RB_0 RB_1 RB_2 RB_3 RB_4 RB_5 RB_6 RB_7 RB_l;have hb4s:=b4.size;have bN:=hb.size;replace X:=X.below b4;replace RES:=RES.below b4;replace RB:=RB.below b4;replace op:=Ck.ow_below op.out b4;have dH:=ho.out.below b4;have cL:=Bv hb b4;clear ho b4 ob hb;obtain ⟨RB_0,RB_1,RB_2,RB_3,RB_4,RB_5,RB_6,RB_7,RB_l⟩:=RB.g8;have rbf:=RB.free;by_cases hz:N=0
   ·subst hz;have rY:Hid (D8 p k=⟨2,0,0,0⟩):=by rw [if_pos rfl] at hN;exact hN
    clear hN;have b5:Below w4 w4 (w4.alloc (.cells #[J Ab 2,J Ab 0,J Ab 0,J Ab 0] 203)):=Bt;have XB:=DBox.new 203 [J Ab 2,J Ab 0,J Ab 0,J Ab 0] w4 (b:=w4) rfl;go_upto_region 10 with fail
    clear RB_0 RB_1 RB_2 RB_3 RB_4 RB_5 RB_6 RB_7 RB_l;clear rbf;replace X:=X.below b5;replace RES:=RES.below b5;replace RB:=RB.below b5;replace op:=Ck.ow_below op b5;replace dH:=dH.below b5;replace cL:=Bv cL b5;have hb5s:=b5.size;clear b5;generalize w4.alloc (.cells #[J Ab 2,J Ab 0,J Ab 0,J Ab 0] 203)=w5 at *
    obtain ⟨RB_0,RB_1,RB_2,RB_3,RB_4,RB_5,RB_6,RB_7,RB_l⟩:=RB.g8;obtain ⟨XB_0,XB_1,XB_2,XB_3,XB_l⟩:=XB.g4;have rbf:=RB.free;have ha:Hid (∀ w:World,Below w w (w.alloc (.cells #[J Ab 2,J Ab 0,J Ab 0,J Ab 0] 203))):=fun w=>Bt;have HL:Hid (((List.range k).map (D8 p)).length=k):=by
     show ((List.range k).map (D8 p)).length=k;simp
    go_wp2_with (at_builtin;refine Cj _ Fz Bp rfl (.tmp 38) (.tmp 40) rfl underlying65 aQ aW aU aR rfl (base:=rb+1) (l:=(List.range k).map (D8 p)) rfl (dH.below (ha.out w5)) rfl (Rd.one Fz _ _ ⟨2,0,0,0⟩ rfl rfl 1 (Bs _) (Nat.lt_succ_self _)) uW.out Bn Bp (by simp;omega) ?_;intro v5 w6 o6 g6 _;obtain ⟨⟨va,vn,vc⟩,rfl⟩:∃ s:Sl,v5 = Aa s.a s.n s.c:=(by obtain ⟨A7,c7,rfl,_⟩:=Rd.of_own o6;exact ⟨⟨A7,_,c7⟩,rfl⟩);have RB6:=(RB.below (ha.out w5)).off g6 (fun e=>by have:=dH.within _ e.symm;omega);have q7:=RB6.cell 7 _ rfl;have qf:=RB6.free;have ql:=RB6.lt)
    have aH:Below w w w6:=(Bv cL (ha.out w5)).grown g6 (Bv cL (ha.out w5)).size (fun g hg=>by have:=dH.within _ hg;omega);have X6:=(X.below (ha.out w5)).off g6 (fun e=>by have:=dH.within _ e.symm;omega);have RES6:=(RES.below (ha.out w5)).off g6 (fun e=>by have:=dH.within _ e.symm;omega);have op6:=(Ck.ow_keep (Ck.ow_below op (ha.out w5)) g6.size (fun b bT=>g6.block b (Ck.ow_lt (Ck.ow_below op (ha.out w5)) b bT) (fun e=>by have h1:=dH.within _ e.symm;have h2:=cB b bT;omega)))
    have dK:Ow Fz 203 (w6.setCell ⟨rb,7,Ac⟩ (Aa va vn vc)) (rb+1) (Aa va vn vc) ((List.range (k+1)).map (D8 p)):=by
     rw [hS.out,rY.out];exact o6.setOther (fun e=>by have h1:rb+1<=rb:=(o6.within _ e).1;omega) _
    exact ⟨⟨k+1,_,Bl,by go_num,dK,X6.setOther (by show w.heap.size≠rb;omega) _,RES6.setOther (by show w.heap.size+1≠rb;omega) _,RB6.set 7 Bn _,Ck.ow_set op6 (a:=⟨rb,7,Ac⟩) (fun hx=>by have h1:w+1<rb/\rb<rb:=cB _ hx;omega) _,aH.setCell (by show w.heap.size<=rb;omega) _,by simp [World.setCell];omega⟩,clM⟩
   ·have rY:Hid (D8 p k=⟨1,N,0,0⟩):=by rw [if_neg hz] at hN;exact hN
    have hNI:(0:Int)<(N:Int):=Bl;clear hN hz;have b5:Below w4 w4 (w4.alloc (.cells #[J Ab 1,J Ab (N:Int),J Ab 0,J Ab 0] 203)):=Bt;have XB:=DBox.new 203 [J Ab 1,J Ab (N:Int),J Ab 0,J Ab 0] w4 (b:=w4) rfl;go_upto_region 10 with fail
    clear RB_0 RB_1 RB_2 RB_3 RB_4 RB_5 RB_6 RB_7 RB_l;clear rbf;replace X:=X.below b5;replace RES:=RES.below b5;replace RB:=RB.below b5;replace op:=Ck.ow_below op b5;replace dH:=dH.below b5;replace cL:=Bv cL b5;have hb5s:=b5.size;clear b5;generalize w4.alloc (.cells #[J Ab 1,J Ab (N:Int),J Ab 0,J Ab 0] 203)=w5 at *
    obtain ⟨RB_0,RB_1,RB_2,RB_3,RB_4,RB_5,RB_6,RB_7,RB_l⟩:=RB.g8;obtain ⟨XB_0,XB_1,XB_2,XB_3,XB_l⟩:=XB.g4;have rbf:=RB.free;have ha:Hid (∀ w:World,Below w w (w.alloc (.cells #[J Ab 1,J Ab (N:Int),J Ab 0,J Ab 0] 203))):=fun w=>Bt;have HL:Hid (((List.range k).map (D8 p)).length=k):=by
     show ((List.range k).map (D8 p)).length=k;simp
    go_wp2_with (at_builtin;refine Cj _ Fz Bp rfl (.tmp 38) (.tmp 40) rfl underlying65 aQ aW aU aR rfl (base:=rb+1) (l:=(List.range k).map (D8 p)) rfl (dH.below (ha.out w5)) rfl (Rd.one Fz _ _ ⟨1,(N:Int),0,0⟩ rfl rfl 1 (Bs _) (Nat.lt_succ_self _)) uW.out Bn Bp (by simp;omega) ?_;intro v5 w6 o6 g6 _;obtain ⟨⟨va,vn,vc⟩,rfl⟩:∃ s:Sl,v5 = Aa s.a s.n s.c:=(by obtain ⟨A7,c7,rfl,_⟩:=Rd.of_own o6;exact ⟨⟨A7,_,c7⟩,rfl⟩);have RB6:=(RB.below (ha.out w5)).off g6 (fun e=>by have:=dH.within _ e.symm;omega);have q7:=RB6.cell 7 _ rfl;have qf:=RB6.free;have ql:=RB6.lt)
    have aH:Below w w w6:=(Bv cL (ha.out w5)).grown g6 (Bv cL (ha.out w5)).size (fun g hg=>by have:=dH.within _ hg;omega);have X6:=(X.below (ha.out w5)).off g6 (fun e=>by have:=dH.within _ e.symm;omega);have RES6:=(RES.below (ha.out w5)).off g6 (fun e=>by have:=dH.within _ e.symm;omega);have op6:=(Ck.ow_keep (Ck.ow_below op (ha.out w5)) g6.size (fun b bT=>g6.block b (Ck.ow_lt (Ck.ow_below op (ha.out w5)) b bT) (fun e=>by have h1:=dH.within _ e.symm;have h2:=cB b bT;omega)))
    have dK:Ow Fz 203 (w6.setCell ⟨rb,7,Ac⟩ (Aa va vn vc)) (rb+1) (Aa va vn vc) ((List.range (k+1)).map (D8 p)):=by
     rw [hS.out,rY.out];exact o6.setOther (fun e=>by have h1:rb+1<=rb:=(o6.within _ e).1;omega) _
    exact ⟨⟨k+1,_,Bl,by go_num,dK,X6.setOther (by show w.heap.size≠rb;omega) _,RES6.setOther (by show w.heap.size+1≠rb;omega) _,RB6.set 7 Bn _,Ck.ow_set op6 (a:=⟨rb,7,Ac⟩) (fun hx=>by have h1:w+1<rb/\rb<rb:=cB _ hx;omega) _,aH.setCell (by show w.heap.size<=rb;omega) _,by simp [World.setCell];omega⟩,clM⟩
  ·have aC:¬ (k:Int)<p.tasks:=by have:=mM.out;omega
   have hkT:k=T:=Bl;subst hkT;have rf:=RES.free;have RES_0:=RES.cell 0 _ rfl;have RES_1:=RES.cell 1 _ rfl;have RES_2:=RES.cell 2 _ rfl;have RES_3:=RES.cell 3 _ rfl;have RES_4:=RES.cell 4 _ rfl;have RES_5:=RES.cell 5 _ rfl;have RES_6:=RES.cell 6 _ rfl;have RES_7:=RES.cell 7 _ rfl;have sP:=ho.out;obtain ⟨⟨ta,tn,tc⟩,Ft,rfl,ot,nt⟩:=Vn sP;go_wp2;have e1:w.heap.size+1∉F:=fun hx=>by have:=cB _ hx;omega
   have e2:w.heap.size+1∉Ft:=fun hx=>by have:=nt _ hx;omega
   refine Ak (Aet (DBox.row8 RES rfl _ _ _ _ _ _ _ _)) rfl ⟨(⟨A3,n3,c3⟩,⟨ta,tn,tc⟩),F ++ Ft,by rw [hH.out],⟨F,Ft,rfl,?_,?_,?_⟩,?_,?_⟩
   ·rw [Ay];refine ⟨Ck.ow_nodup op.out,ot.nodup,fun u hu u' hu' e=>?_⟩
    have:=cB u hu
    have:=nt u' hu'
    omega
   ·rw [hH.out];show Ck.ow _ F p _;exact (by (repeat (refine Dt.ow_set Ck ?_ e1 _));exact op.out)
   ·rw [hH.out];show OwL Eu _ Ft _ ((List.range k).map (D8 p));exact ((((((((ot.set (a:=⟨w+1,_,Ac⟩) e2 _).set (a:=⟨w+1,_,Ac⟩) e2 _).set (a:=⟨w+1,_,Ac⟩) e2 _).set (a:=⟨w+1,_,Ac⟩) e2 _).set (a:=⟨w+1,_,Ac⟩) e2 _).set (a:=⟨w+1,_,Ac⟩) e2 _).set (a:=⟨w+1,_,Ac⟩) e2 _).set (a:=⟨w+1,_,Ac⟩) e2 _)
   ·intro x hx;rcases List.mem_append.1 hx with hx | hx
    ·have:=cB x hx;omega
    ·have:=nt x hx;have:=bG;omega
   ·repeat (first | (with_reducible exact hb) | refine Ae ?_ Bo _)
theorem Abc {home d k:Nat} (h:k<3):(Em home d).take (k+1)=(Em home d).take k ++ [(home+1+(d % 3+k) % 3) % 4]:=by
 have h1:(max (d:Int) 0 % 3).toNat=d % 3:=Bl;unfold Em;rw [h1,Ap];rcases (show k=0\/k=1\/k=2 by omega) with rfl | rfl | rfl<;>rfl
theorem Ve (n lo hi:Int) (w:World) (h:lo<=n/\n<=hi):Calls An 276 #[J Ab n,J Ab lo,J Ab hi] w fun e w'=>e = .returned (J Ab n)/\w=w':=by
 have h1:max lo (min n hi)=n:=Bl;have h2:min (max n lo) hi=n:=Bl;have h3:min hi (max n lo)=n:=Bl;have h4:max (min n hi) lo=n:=Bl;go_enter func276,ntmps276;go_wp2;go_ret;exact ⟨D6 (show min n hi=n by omega),rfl⟩
theorem Vf (home d:Nat) (w:World) (hh:home<4) (hd:d<=1000000000) :
  Calls An 205 #[J Ab (home:Int),J Ab (d:Int)] w fun e w'=>∃ v,e = .returned v/\Ow En 3 w' w v (Em home d)/\Below w w w':=by
 obtain ⟨j0,bZ,jz0,jz1,jz2⟩:=info_parts Qb;have CB:=Bq (fun W=>Ve (home:Int) 0 3 W Bl);have hmx:max (d:Int) 0=d:=Bl;have rD:(d:Int).tmod 3=((d % 3:Nat):Int):=by
  rw [Int.tmod_eq_emod_of_nonneg Bl];omega
 have hm3:=Nat.mod_lt d (show 0<3 by decide);have hT:=Bq (fun k h=>Abc (home:=home) (d:=d) (k:=k) h);have wD:Ab.wrap ((d % 3:Nat):Int)=((d % 3:Nat):Int):=Ar _ Bl;have wH:Ab.wrap ((home:Int)+1)=(home:Int)+1:=Ar _ Bl;have hV:=Bq (show (Em home d).length=3 by unfold Em;simp);generalize Em home d=V at *
 generalize d % 3=m at *
 go_enter func205,ntmps205;go_wp2_with (go_at_call 276;refine (CB.out _).mono ?_;rintro e w1 ⟨rfl,rfl⟩)
 go_loopw [5,6] (fun v j wr=>∃ k:Nat,k<=3/\j = J Ab (k:Int)/\Hid (Ow En 3 wr w v (V.take k))/\Below w w wr) (fun _ j _=>3 - (intOf j).toNat);case atStart=>exact ⟨0,Ah _,rfl,Ow.nil _ _ _ _,Br _ _⟩
 case round =>
  obtain ⟨k,hk,rfl,hO,hb⟩:=hrel;by_cases aB:k<3
  ·have aC:(k:Int)<3:=Bl;have S:=Bq (hT.out k aB);have wA:Ab.wrap ((m:Int)+(k:Int))=(m:Int)+(k:Int):=Ar _ Bl;have rA:((m:Int)+(k:Int)).tmod 3=(((m+k) % 3:Nat):Int):=by
    rw [Int.tmod_eq_emod_of_nonneg Bl];omega
   have hq3:=Nat.mod_lt (m+k) (show 0<3 by decide);have wB:Ab.wrap (((m+k) % 3:Nat):Int)=(((m+k) % 3:Nat):Int):=Ar _ Bl;generalize (m+k) % 3=q at *
   have wC:Ab.wrap ((home:Int)+1+(q:Int))=(home:Int)+1+(q:Int):=Ar _ Bl;have rC:((home:Int)+1+(q:Int)).tmod 4=(((home+1+q) % 4:Nat):Int):=by
    rw [Int.tmod_eq_emod_of_nonneg Bl];omega
   have wE:Ab.wrap (((home+1+q) % 4:Nat):Int)=(((home+1+q) % 4:Nat):Int):=Ar _ Bl;have Hl:=Bq (show (V.take k).length<=3000000 by rw [A0];omega);generalize (home+1+q) % 4=x at *
   have ha:Hid (∀ w:World,Below w w (w.alloc (.cells #[J Ab (x:Int)] 3))):=fun w=>Bt;have cE:=hO.out;have cJ:=hb.size;go_wp2_with (at_builtin;refine Cj _ En Bp rfl (.tmp 13) (.tmp 24) rfl underlying26 bZ jz0 jz1 jz2 rfl (base:=w) (l:=V.take k) rfl (cE.below (ha.out wr)) rfl (Rd.one En _ _ x rfl rfl 1 (Bs _) (Nat.lt_succ_self _)) Hl.out Bn Bp (by simp;omega) ?_;intro v5 w5 o5 g5 _)
   have dM:Below w w w5:=(Bv hb (ha.out wr)).grown g5 (Bv hb (ha.out wr)).size (fun g hg=>by have:=cE.within _ hg;omega);exact ⟨⟨k+1,Bl,by go_num,by rw [S.out];exact o5,dM⟩,clM⟩
  ·have aC:¬ (k:Int)<3:=Bl;have cE:=hO.out;rw [Bg (by have:=hV.out;omega)] at cE;clear hO;go_wp2;go_ret;exact ⟨_,rfl,cE,hb⟩
theorem Ahx {r:Run} (h:Gr r) (hS:r.state=1):∀ k (hk:k<r.tasks.length),r.tasks[k].state≠5:=by
 have h1:=h.2.2.2.2.1;rw [hS] at h1;unfold stL at h1;have h0:Cp r.tasks 5=0:=by
  split at h1
  ·omega
  split at h1
  ·omega
  split at h1
  ·omega
  split at h1
  ·next h=>exact h.1
  ·omega
 exact fun k hk=>Zy.1 h0 _ (Ax hk)
theorem Agq {b:Nat} {w:World} {u0 u1 u2 u3 u4 u5 u6 u7:Value} (X:DBox b [u0,u1,u2,u3,u4,u5,u6,u7] w) {v0 v1:Value} {rest:List Value} :
  (results Tryz.f218 (v0 :: v1 :: .pointer (Ad ⟨b,0,Ac⟩) :: rest).toArray).run An w = .ok (.agg #[u0,u1,u2,u3,u4,u5,u6,u7]) w:=by
 obtain ⟨c0,c1,c2,c3,c4,c5,c6,c7,-⟩:=X.g8;simp [results,results218,go_sem,c0,c1,c2,c3,c4,c5,c6,c7]
theorem Abd (r:Run) (s:Sl×Sl) (w:World) (hl:Dc r<=2000000) (hR:Gr r) (hS:r.state=1) (h:Cn.rd w w r s) :
  Calls An 218 #[Hx r s] w (Fa Cn Hx (C8 r 4) w):=by
 have CP:=Bq (fun W (hW:Below w w W)=>Ol r s W hl (Cn.rd_more (Cn.rd_below h hW) hW.size));have CR:=Bq (fun W (hW:Below w w W)=>Qo r s W hl (Cn.rd_more (Cn.rd_below h hW) hW.size));rw [Ds hR] at CR;have aK:=D4 hR;have hp:0<r.tasks.length:=Bl;have h5:=Bq (Ahx hR hS);obtain ⟨⟨A1,n1,c1⟩,⟨A2,n2,c2⟩⟩:=s;obtain rfl:n2=r.tasks.length:=RdL.at1 (s:=⟨A2,n2,c2⟩) h.2;clear h hl hR;have bG:(r.state == 1)=true:=by simp [hS]
 clear hS;obtain ⟨W,aG,X,RES,B0⟩:=bx2 w 67 [J Ab r.id,J Ab r.plan.prio,J Ab r.plan.most,J Ab r.plan.wait,J Ab r.plan.tasks,Aa A1 n1 c1,J Ab r.state,Aa A2 r.tasks.length c2] 67 [J Ab 0,J Ab 0,J Ab 0,J Ab 0,J Ab 0,Aa Ac 0 0,J Ab 0,Aa Ac 0 0];go_enter func218,ntmps218;go_wp2_with fail
 rw [<-aG.out];clear aG;refine (CP.out _ B0).mono ?_;rintro e w1 ⟨⟨⟨A3,n3,c3⟩,⟨A4,n4,c4⟩⟩,F,rfl,o1,nF,b1⟩;obtain ⟨F1,F2,rfl,bI,op,ot⟩:=o1;replace ot:OwL Eu w1 F2 (Aa A4 n4 c4) r.tasks:=ot;obtain rfl:n4=r.tasks.length:=RdL.at1 (s:=⟨A4,n4,c4⟩) ot.rd;have oh:=N2 ot;clear ot CP;obtain ⟨b,o,rfl,aH,d0,d1,d2,d3⟩:=oh.rd.tsk hp;clear d0 d1 d2 d3;obtain ⟨rfl,bN,pJ⟩:=oh.block hp;have dL:=RES.lt;have b2:Below w1 w1 (w1.alloc (.cells #[J Ab r.id,J Ab r.plan.prio,J Ab r.plan.most,J Ab r.plan.wait,J Ab r.plan.tasks,Aa A3 n3 c3,J Ab r.state,Aa (Ad ⟨b,o,Ac⟩) r.tasks.length c4] 67)):=Bt;have OB:=DBox.new 67 [J Ab r.id,J Ab r.plan.prio,J Ab r.plan.most,J Ab r.plan.wait,J Ab r.plan.tasks,Aa A3 n3 c3,J Ab r.state,Aa (Ad ⟨b,o,Ac⟩) r.tasks.length c4] w1 (b:=w1) rfl;have cM:=Bq (show ∀ x∈F1 ++ [b],w.heap.size+1<x from fun x hx=>by have:=nF x hx;omega);have eL:=Bq (show ∀ x∈F1,x<w1 from fun x hx=>(Ck.ow_lt op) x hx);have eV:b∉F1:=fun hx=>(Ay.1 bI).2.2 b hx b Bn rfl;have b12:=Bv b1 b2;replace X:=X.below b12;replace RES:=RES.below b12;replace B0:=Bv B0 b12;replace oh:=oh.below b2;replace op:=Ck.ow_below op b2;have hs1w:=b1.size;clear b1 b2 b12 nF aH pJ;go_upto_region 2 with fail
 have cR:w.heap.size+1<w1.heap.size:=Bl;have hoF:w1.heap.size∉F1:=fun hx=>by have:=eL.out _ hx;omega
 have hob2:w1≠b:=Bl;clear eL bN hs1w;generalize w1.heap.size=ob at *
 generalize w1.alloc (.cells #[J Ab r.id,J Ab r.plan.prio,J Ab r.plan.most,J Ab r.plan.wait,J Ab r.plan.tasks,Aa A3 n3 c3,J Ab r.state,Aa (Ad ⟨b,o,Ac⟩) r.tasks.length c4] 67)=w2 at *
 have X_:=X.g8;go_wp2_with fail
 refine (CR.out _ B0).mono ?_;rintro e w3 ⟨rfl,b3⟩;clear X_;replace X:=X.below b3;replace RES:=RES.below b3;replace OB:=OB.below b3;replace B0:=Bv B0 b3;replace oh:=oh.below b3;replace op:=Ck.ow_below op b3;clear b3 CR;have CL:=Bq (Qu ob 0 b o c4 r.tasks (-1) w3 (OB.cell 7 _ rfl) OB.lt hob2 Bl hp oh (fun k hk=>⟨fun h=>absurd h (h5.out k hk),fun h=>Bl⟩));have X_:=X.g8;go_wp2_with fail
 refine CL.out.mono ?_;rintro e w4 ⟨rfl,oh4,hc⟩;clear X_;clear X CL oh h5;have bJ:=B0.size;have hbA:=cM.out b Bn;have kE:=Bq (show ∀ x,x∈[b]->x=b from fun x hx=>by simpa using hx);have op4:=Ck.ow_chg op hc (fun x hx h=>by have:=kE.out x h;subst this;exact eV hx);replace B0:=B0.trans (hc.below (base:=w) bJ (fun x hx=>by have:=kE.out x hx;omega));replace RES:=RES.chg hc (fun hx=>by have:=kE.out _ hx;omega);replace OB:=OB.chg hc (fun hx=>hob2 (kE.out _ hx));clear hc op;have OB_:=OB.g8;have obf:=OB.free;go_upto_region 5 with fail
 clear OB_;clear obf;replace OB:DBox ob [J Ab r.id,J Ab r.plan.prio,J Ab r.plan.most,J Ab r.plan.wait,J Ab r.plan.tasks,Aa A3 n3 c3,J Ab r.state,Aa (Ad ⟨b,o,Ac⟩) r.tasks.length c4] w4:=OB;have qB:ob∉[b]:=fun hx=>hob2 (kE.out _ hx);replace OB:=OB.set 6 Bn (J Ab 4);replace RES:=RES.setOther (a:=⟨ob,6,Ac⟩) (by show w.heap.size+1≠ob;omega) (J Ab 4);have oh5:=oh4.set (a:=⟨ob,6,Ac⟩) qB (J Ab 4);have op5:=Ck.ow_set op4 (a:=⟨ob,6,Ac⟩) hoF (J Ab 4);replace B0:Below w w (w4.setCell ⟨ob,6,Ac⟩ (J Ab 4)):=Ae B0 (by show w.heap.size<=ob;omega) _;clear oh4 op4;generalize w4.setCell ⟨ob,6,Ac⟩ (J Ab 4)=w5 at *
 replace OB:DBox ob [J Ab r.id,J Ab r.plan.prio,J Ab r.plan.most,J Ab r.plan.wait,J Ab r.plan.tasks,Aa A3 n3 c3,J Ab 4,Aa (Ad ⟨b,o,Ac⟩) r.tasks.length c4] w5:=OB;have OB_:=OB.g8;have RES_:=RES.g8;have rf:=RES.free;go_wp2;refine Ak (Agq (DBox.row8 RES rfl _ _ _ _ _ _ _ _)) rfl ⟨(⟨A3,n3,c3⟩,⟨Ad ⟨b,o,Ac⟩,r.tasks.length,c4⟩),F1 ++ [b],rfl,⟨F1,[b],rfl,bI,?_,?_⟩,?_,?_⟩
 ·have e2:w.heap.size+1∉F1:=fun hx=>by have:=cM.out _ (List.mem_append_left _ hx);omega
  show Ck.ow _ F1 r.plan _;exact (by (repeat (refine Dt.ow_set Ck ?_ e2 _));exact op5)
 ·have e1:w.heap.size+1∉[b]:=fun hx=>by have:=kE.out _ hx;omega
  show OwL Eu _ [b] _ (r.tasks.map Dj);have hL:r.tasks.length=(r.tasks.map Dj).length:=by rw [List.length_map]
  show OwL Eu _ [b] (Aa (Ad ⟨b,o,Ac⟩) r.tasks.length c4) (r.tasks.map Dj);exact Hf (by (repeat (refine Hw.set ?_ e1 _));exact oh5)
 ·intro x hx
  have:=cM.out x hx
  omega
 ·repeat (first | (with_reducible exact B0) | refine Ae ?_ Bo _)
end Go.Proofs.YtecnbnbopcblgaaGreat
