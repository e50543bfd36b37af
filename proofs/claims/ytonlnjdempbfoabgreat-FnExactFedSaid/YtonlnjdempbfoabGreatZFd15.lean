/-
  Tick of the reference. Written by program (kza.py). Submit of the program. Written by program (isu.py). Swept of the program. Restart of the reference. Written 
-/
import Derived.Test.YtonlnjdempbfoabGreatZFd0
import Derived.Test.YtonlnjdempbfoabGreatZFd8
import Derived.Test.YtonlnjdempbfoabGreatZFd10
import Derived.Test.YtonlnjdempbfoabGreatZFd11
import Derived.Test.YtonlnjdempbfoabGreatZFd13
import Derived.Test.YtonlnjdempbfoabGreatZFd14
namespace Go.Proofs.YtonlnjdempbfoabGreat
open Go.RowKit
set_option maxRecDepth 100000
set_option maxHeartbeats 4000000
set_option linter.unusedVariables false
set_option linter.unusedSimpArgs false
open Value renaming int->J,slice->Aa
open IntKind renaming i64->U
open Option renaming none->Ab,some->Ac
open Below renaming setCell->Ad
open Nat renaming zero_le->Ag,le_trans->Ah
open Go renaming bodyPost_ret->Aj,wpQuiet_nil->Ak
open Go.Proofs.Tryz renaming prog->Am
open Int renaming toNat_natCast->Ao
open IntWalk renaming i64_in->Aq
open List renaming length_map->Ar,getElem_mem->Aw,nodup_append->Ax,mem_append_left->Bf,mem_append->Bi
open World renaming size_alloc->Bj
open Go.Proofs.Tryz
section
open Classical in
noncomputable def Gi (z:Yard) (k t:Nat):Yard:=if (Cv (Ha z k) t).state=3 then Gd z k (Dn (Ha z k) t) else z
noncomputable def Fe (y:Yard) (l:List (Nat×Nat)):Yard:=l.foldl (fun z p=>Gi z p.1 p.2) y
theorem Ln {z:Yard} {k t:Nat} (h:¬ (Cv (Ha z k) t).state=3):Gi z k t=z:=if_neg h
theorem Ku {z:Yard} {k t:Nat} (h:(Cv (Ha z k) t).state=3):Gi z k t=Gd z k (Dn (Ha z k) t):=if_pos h
theorem Trn.fail {y z:Yard} {m:Nat} (h:Trn y m z) {k t:Nat} (hk:k<z.runs.length) (ht:t<z.runs[k].tasks.length):Trn y (m+1) (Gi z k t):=by
 by_cases q:(Cv (Ha z k) t).state=3
 ·rw [Ku q,Ex hk];rw [Ex hk] at q;exact h.step hk ⟨(h.run k hk (by rw [<-h.len];exact hk)).1,⟨Bl,Bl⟩,q⟩
 ·rw [Ln q];exact h.mono Bl
open Classical in
noncomputable def Jj (y:Yard):Int:=if ¬ Dh y then 8 else if 999999980<y.now+1 then 7 else 0
noncomputable def Aef (y:Yard):Yard:=Fe y (Fk y y.runs.length)
noncomputable def I6 (y:Yard):Yard:=if Jj y=0 then ⟨(Aef y).now+1,(Aef y).seq,(Aef y).shelf,(Aef y).runs⟩ else y
theorem Rx {y:Yard} {n:Nat} {p:Nat×Nat} (h:p∈Fk y n):p.1<n/\p.2<(Ha y p.1).tasks.length:=by
 unfold Fk at h;obtain ⟨j,hj,hp⟩:=List.mem_flatMap.1 h;unfold Ja at hp;obtain ⟨t,ht,rfl⟩:=List.mem_map.1 hp;exact ⟨List.mem_range.1 hj,List.mem_range.1 (List.mem_filter.1 ht).1⟩
theorem Ns {w:World} {F:List Nat} {b o n c:Nat} {rows:List (List Int)} (h:OwL (Dt.flats Ip) w F (Aa (Ac ⟨b,o,Ab⟩) n c) rows) {i:Nat} (hi:i<rows.length) {x y z:Int} (hr:rows[i]=[x,y,z]) :
  ∃ g p cc,b∈F/\g∈F/\w.cell? ⟨b,o+i,Ab⟩=Ac (Aa (Ac ⟨g,p,Ab⟩) 3 cc)/\w.cell? ⟨g,p,Ab⟩=Ac (J U x)/\w.cell? ⟨g,p+1,Ab⟩=Ac (J U y)/\w.cell? ⟨g,p+2,Ab⟩=Ac (J U z):=by
 obtain ⟨s,Fx,hx,bJ,_,hb,_,hc⟩:=h.elem hi;rw [hr] at hx;have dV:Hw Ip w Fx (Aa s.a s.n s.c) [x,y,z]:=hx;obtain ⟨g,p,sZ,jN,_,_⟩:=dV.at_ Bn;obtain ⟨A',c',hv,_,hA⟩:=dV.rd;simp only [Value.slice.injEq] at hv;obtain ⟨h1,h2,h3⟩:=hv;obtain ⟨g',p',cC,_,aN⟩:=hA Bn;rw [<-h1,sZ] at cC;simp only [Option.some.injEq,Addr.mk.injEq,and_true] at cC;obtain ⟨rfl,rfl⟩:=cC;refine ⟨g,p,s.c,hb,bJ _ (by rw [jN];simp),?_,?_,?_,?_⟩
 ·have:=hc 0 (Aa s.a s.n s.c) rfl
  rw [show o+i * (Dt.flats Ip).enc.sz+0=o+i from by show o+i * 1+0=o+i;omega,sZ,h2] at this;exact this
 ·exact aN 0 Bn 0 _ rfl
 ·exact aN 1 Bn 0 _ rfl
 ·exact aN 2 Bn 0 _ rfl
theorem V0 {b:Nat} {w:World} {u0 u1 u2 u3:Value} (X:DBox b [u0,u1,u2,u3] w) {v0 v1 v3:Value} {rest:List Value} :
  (results Tryz.f127 (v0 :: v1 :: .pointer (Ac ⟨b,0,Ab⟩) :: v3 :: rest).toArray).run Am w = .ok (.tuple #[.agg #[u0,u1,u2,u3],v3]) w:=by
 have c0:=X.cell 0 _ rfl;have c1:=X.cell 1 _ rfl;have c2:=X.cell 2 _ rfl;have c3:=X.cell 3 _ rfl;simp [results,results127,go_sem,c0,c1,c2,c3]
theorem Zq (y:Yard) (s:Sl×Sl) (w:World) (hl:Ca y<=2000000) (h:Bv.rd w w y s) :
  Calls Am 127 #[Dm y s] w (Ij (I6 y) (Jj y) w):=by
 have HR:=Bq (show ∀ W,Below w w W->Bv.rd W W y s from fun W hW=>Bv.rd_more (Bv.rd_below h hW) hW.size);obtain ⟨⟨A1,n1,c1⟩,⟨A2,n2,c2⟩⟩:=s;have CC:=Bq (fun W hW=>El y (⟨A1,n1,c1⟩,⟨A2,n2,c2⟩) W hl (HR.out W hW));have CY:=Bq (fun W hW=>Fz y (⟨A1,n1,c1⟩,⟨A2,n2,c2⟩) W hl (HR.out W hW));clear h;obtain ⟨W,aH,X,RES,B0⟩:=bx2 w 27 [J U y.now,J U y.seq,Aa A1 n1 c1,Aa A2 n2 c2] 27 [J U 0,J U 0,Aa Ab 0 0,Aa Ab 0 0];go_enter func127,ntmps127;go_wp2_with fail
 rw [<-aH.out];clear aH;have dP:w.heap.size+1<W.heap.size:=RES.lt;refine (CC.out _ B0).mono ?_;rintro e1 w1 ⟨⟨⟨B1,m1,e1⟩,⟨B2,m2,e2⟩⟩,F,rfl,oy,nF,b1⟩;have bS:=b1.size;have cE:=Bv.ow_lt (F:=F) (x:=y) (s:=(⟨B1,m1,e1⟩,⟨B2,m2,e2⟩)) oy;replace X:=X.below b1;replace RES:=RES.below b1;replace B0:=Bu B0 b1;clear b1;go_upto_region 2 with fail
 have OB:=DBox.new 27 [J U y.now,J U y.seq,Aa B1 m1 e1,Aa B2 m2 e2] w1 (b:=w1) rfl;have b2:Below w1 w1 (w1.alloc (.cells #[J U y.now,J U y.seq,Aa B1 m1 e1,Aa B2 m2 e2] 27)):=Bt;replace X:=X.below b2;replace RES:=RES.below b2;replace oy:=Bv.ow_below (F:=F) (x:=y) (s:=(⟨B1,m1,e1⟩,⟨B2,m2,e2⟩)) oy b2;replace B0:=Bu B0 b2;have ow1:=OB.lt;clear b2;generalize w1.alloc (.cells #[J U y.now,J U y.seq,Aa B1 m1 e1,Aa B2 m2 e2] 27)=w2 at *
 generalize cW:w1.heap.size=ob at *
 have X_:=X.g4;obtain ⟨OB_0,OB_1,OB_2,OB_3,OB_l⟩:=OB.g4;go_wp2_with fail
 refine (CY.out _ B0).mono ?_;rintro e1 w3 ⟨rfl,b3⟩;clear X_;clear OB_0 OB_1 OB_2 OB_3 OB_l;replace X:=X.below b3;replace OB:=OB.below b3;replace RES:=RES.below b3;replace oy:Bv.ow w3 F y (⟨B1,m1,e1⟩,⟨B2,m2,e2⟩):=owB oy b3;replace B0:=Bu B0 b3;clear b3;have X_:=X.g4;obtain ⟨OB_0,OB_1,OB_2,OB_3,OB_l⟩:=OB.g4;by_cases p0:Dh y;case neg =>
  rw [Ci p0];have H:=Bq (show Jj y=8 by unfold Jj;rw [if_pos p0]);have H2:=Bq (show I6 y=y by unfold I6;rw [H.out,if_neg Bp]);have RES_:=RES.g4;have rf:=RES.free;go_wp2;have en1:w.heap.size+1∉F:=fun hx=>by have:=nF _ hx;omega
  refine Aj (V0 (DBox.row4 RES rfl _ _ _ _)) rfl ⟨(⟨B1,m1,e1⟩,⟨B2,m2,e2⟩),F,by rw [H.out,H2.out],by rw [H2.out];exact (by (repeat (refine Dt.ow_set Bv ?_ en1 _));exact (show Bv.ow _ F y (⟨B1,m1,e1⟩,⟨B2,m2,e2⟩) from oy)),fun x hx=>by have:=nF x hx;omega,?_⟩;repeat (first | (with_reducible exact B0) | refine Ad ?_ Bo _)
 rw [Dp p0];have P0:=Bq p0;have gF:=p0.1;clear p0;have wr1:U.wrap (y.now+1)=y.now+1:=Aq _ Bl;by_cases p1:999999980<y.now+1;case pos =>
  have H:=Bq (show Jj y=7 by unfold Jj;rw [if_neg (fun h=>h P0.out),if_pos p1]);have H2:=Bq (show I6 y=y by unfold I6;rw [H.out,if_neg Bp]);have RES_:=RES.g4;have rf:=RES.free;go_wp2;have en1:w.heap.size+1∉F:=fun hx=>by have:=nF _ hx;omega
  refine Aj (V0 (DBox.row4 RES rfl _ _ _ _)) rfl ⟨(⟨B1,m1,e1⟩,⟨B2,m2,e2⟩),F,by rw [H.out,H2.out],by rw [H2.out];exact (by (repeat (refine Dt.ow_set Bv ?_ en1 _));exact (show Bv.ow _ F y (⟨B1,m1,e1⟩,⟨B2,m2,e2⟩) from oy)),fun x hx=>by have:=nF x hx;omega,?_⟩;repeat (first | (with_reducible exact B0) | refine Ad ?_ Bo _)
 have H:=Bq (show Jj y=0 by unfold Jj;rw [if_neg (fun h=>h P0.out),if_neg p1]);have H2:=Bq (show I6 y=⟨(Fe y (Fk y y.runs.length)).now+1,(Fe y (Fk y y.runs.length)).seq,(Fe y (Fk y y.runs.length)).shelf,(Fe y (Fk y y.runs.length)).runs⟩ by unfold I6;rw [if_pos H.out];rfl);have CL:=Bq (fun W hW=>Zn y (⟨A1,n1,c1⟩,⟨A2,n2,c2⟩) W hl P0.out (HR.out W hW));clear HR CC CY;go_wp2_with fail
 refine (CL.out _ B0).mono ?_;rintro e1 w4 ⟨⟨A9,n9,c9⟩,Fl,he,ol,nl,b4⟩;replace he:e1 = .returned (Aa A9 n9 c9):=he;subst he;clear X_;clear OB_0 OB_1 OB_2 OB_3 OB_l;clear X CL;have hB3:=B0.size;have jW:ob<w3:=OB.lt;have nK:=ol.lt;replace OB:=OB.below b4;replace RES:=RES.below b4;replace oy:Bv.ow w4 F y (⟨B1,m1,e1⟩,⟨B2,m2,e2⟩):=owB oy b4;replace B0:=Bu B0 b4;have gB:Hid ((∀ x∈F,w+1<x)/\ob∉F /\ ∀ x∈Fl,x∉F):=⟨fun x hx=>by have:=nF x hx;omega,fun hx=>by have:=cE _ hx;omega,fun x hx bJ=>by have h1:w3<=x:=nl x hx;have h2:=cE x bJ;omega⟩
 have hFln:∀ x∈Fl,w3<=x:=nl;have hmemL:=Bq (fun p (hp:p∈Fk y y.runs.length)=>Rx hp);have fP:w.heap.size+1<w3.heap.size:=Bl;have hw34:w3.heap.size<=w4.heap.size:=b4.size;clear nF nl b4;have hLs:=Bq (show (Fk y y.runs.length).length<=96 by have h1:=Lm (M8 P0.out) y.runs.length;have h2:=P0.out.2.2.2.2.2.2.1;omega);generalize Fk y y.runs.length=L at *
 obtain rfl:n9=L.length:=by have:=RdL.at1 (s:=⟨A9,n9,c9⟩) ol.rd;rw [Ar] at this;exact this
 go_wp2;go_loopw [6,7] (fun iv u wr=>∃ (i:Nat) (Z:Yard) (s:Sl×Sl) (F:List Nat),i<=L.length/\iv = J U i/\Hid (Trn y i Z)/\Hid (Fe y (L.take i)=Z)/\Hid (Bv.ow wr F Z s)/\Hid ((∀ x∈F,w+1<x)/\ob∉F /\ ∀ x∈Fl,x∉F)/\Hid (OwL (Dt.flats Ip) wr Fl (Aa A9 L.length c9) (L.map (It y)))/\DBox ob (Gv Z s) wr/\DBox (w+1) [J U 0,J U 0,Aa Ab 0 0,Aa Ab 0 0] wr/\Below w w wr/\w4.heap.size<=wr.heap.size) (fun i _ _=>L.length - (intOf i).toNat);case atStart=>exact ⟨0,y,(⟨B1,m1,e1⟩,⟨B2,m2,e2⟩),F,Ag _,rfl,Trn.start P0.out,rfl,oy,gB,ol,OB,RES,B0,Bs _⟩
 case round =>
  clear oy gB ol OB RES B0 cE nK;obtain ⟨i,Z,s,F,hi,rfl,hT,hZ,oy,hF,ol,OB,RES,hb,mD⟩:=hrel;obtain ⟨⟨B1,m1,e1⟩,⟨B2,m2,e2⟩⟩:=s;replace oy:Bv.ow wr F Z (⟨B1,m1,e1⟩,⟨B2,m2,e2⟩):=oy.out;have bV:∀ x∈F,x<wr:=Bv.ow_lt (F:=F) (x:=Z) (s:=(⟨B1,m1,e1⟩,⟨B2,m2,e2⟩)) oy;have bZ:=hLs.out;obtain ⟨OB_0,OB_1,OB_2,OB_3,OB_l⟩:=OB.g4;by_cases aA:i<L.length
  ·have aB:(i:Int)<(L.length:Int):=Bl;have aR:(0:Int)<=(i:Int):=Bl;have hp:=hmemL.out _ (Aw aA);have aE:Hid (Fe y (L.take (i+1))=Gi Z L[i].1 L[i].2):=by
    show Fe y (L.take (i+1))=_;unfold Fe;rw [Kq (fun z p=>Gi z p.1 p.2) y L i aA,<-hZ.out];rfl
   have dE:(L.map (It y))[i]'(by rw [Ar];exact aA)=[(Ha y L[i].1).id,(L[i].2:Int),(Cv (Ha y L[i].1) L[i].2).try_]:=by
    rw [List.getElem_map];rfl
   generalize L[i]=p at *
   obtain ⟨k,t⟩:=p;dsimp only at hp aE dE;have qW:k<y.runs.length:=hp.1;have eE:k<Z.runs.length:=by rw [hT.out.len];exact qW
   rw [Ex qW] at hp dE;have fT:=hT.out.run k eE qW;have kA:t<Z.runs[k].tasks.length:=by rw [fT.2.2];exact hp.2
   have gJ:=Bq (show Dk Z y.runs[k].id=k from (hT.out.runAt _).trans (P0.out.2.2.2.2.2.2.2.1 k qW).2);have pW:=hT.out.cnt Bl;have hN:=hT.out.fail eE kA;replace dE:=Bq dE;have hbln:∀ z∈Fl,z∉F:=hF.out.2.2;obtain ⟨bl,lo,rfl⟩:∃ b o,A9=Ac ⟨b,o,Ab⟩:=by
    obtain ⟨b,o,_,hA,_⟩:=RdL.at_ ol.out.rd i (by rw [Ar];exact aA);exact ⟨b,o,hA⟩
   obtain ⟨gl,pl,cl,gV,fU,l0,l1,l2,-⟩:=Ns ol.out (i:=i) (by rw [Ar];exact aA) dE.out;have mH:=ol.out.lt _ gV;have cG:=ol.out.lt _ fU;have oyr:=(Bv.ow_rd (F:=F) (x:=Z) (s:=(⟨B1,m1,e1⟩,⟨B2,m2,e2⟩)) oy)
   have CA:=Bq (fun W (hW:Below wr wr W)=>E8 Z (⟨B1,m1,e1⟩,⟨B2,m2,e2⟩) y.runs[k].id W pW (Bv.rd_more (Bv.rd_below (x:=Z) (s:=(⟨B1,m1,e1⟩,⟨B2,m2,e2⟩)) oyr hW) hW.size));clear oyr;have aQ:=Di wr;go_wp2;refine Bz Bm Bm ?_;repeat (go_big_quiet_step ((go_at_call 153;rename_i x;have h1:=CA.out x.1 x.2;rw [gJ.out] at h1;exact Fg h1)))
   refine Ak ?_;rintro w5 ⟨⟨_,b5⟩,rfl⟩;clear aQ CA l0 l1 l2 mH cG;clear OB_0 OB_1 OB_2 OB_3 OB_l;replace OB:=OB.below b5;replace RES:=RES.below b5;replace oy:Bv.ow w5 F Z (⟨B1,m1,e1⟩,⟨B2,m2,e2⟩):=owB oy b5;replace ol:=Bq (ol.out.below b5);replace hb:=Bu hb b5;replace mD:=Ah mD b5.size;replace bV:∀ x∈F,x<w5:=Bv.ow_lt (F:=F) (x:=Z) (s:=(⟨B1,m1,e1⟩,⟨B2,m2,e2⟩)) oy;obtain ⟨gl,pl,cl,gV,fU,l0,l1,l2,-⟩:=Ns ol.out (i:=i) (by rw [Ar];exact aA) dE.out;have mH:=ol.out.lt _ gV;have cG:=ol.out.lt _ fU;obtain ⟨OB_0,OB_1,OB_2,OB_3,OB_l⟩:=OB.g4;have oyr:=(Bv.ow_rd (F:=F) (x:=Z) (s:=(⟨B1,m1,e1⟩,⟨B2,m2,e2⟩)) oy).2;have eQ:=Bq (show m2=Z.runs.length from RdL.at1 (s:=⟨B2,m2,e2⟩) oyr);have gL:(k:Int)<(m2:Int):=by have:=eQ.out;omega
   have cL:(0:Int)<=(k:Int):=Bl;obtain ⟨gr,orr,⟨sk1,⟨tka,tkn,tkc⟩⟩,rfl,dQ,dF,c0,c1,c2,c3,c4,c5,c6,c7⟩:=RdL.run (show RdL Ce w5 w5.heap.size (Aa B2 m2 e2) Z.runs from oyr) eE;have nV:tkn=Z.runs[k].tasks.length:=RdL.at1 (s:=⟨tka,tkn,tkc⟩) dF.2;have jR:(t:Int)<(tkn:Int):=Bl;have gM:(0:Int)<=(t:Int):=Bl;obtain ⟨gt,ot,_,rfl,hgt,_,d0,d1,d2,d3⟩:=RdL.task (show RdL C7 w5 w5.heap.size (Aa tka tkn tkc) Z.runs[k].tasks from dF.2) kA;have bQ:=Bq fT.1;replace nV:=Bq nV;have aQ:=Di w5;clear fT oyr d1 d2 d3;have hJ:=Bq (show Cv (Ha Z k) t=Z.runs[k].tasks[t] by rw [Ex eE,Cu kA]);have hJ2:=Bq (Ex eE);generalize mJ:Z.runs[k]=r at *
   by_cases q:r.tasks[t].state=3;case neg =>
    have q1:(r.tasks[t].state == 3)=false:=by simp [q]
    have bK:=Bq (show Gi Z k t=Z from Ln (by rw [hJ.out];exact q));clear q;go_wp2;refine Bz Bm Bm ?_;repeat (go_big_quiet_step (fail))
    refine Ak ?_;rintro w6 ⟨⟨_,b6⟩,rfl⟩;clear aQ;go_wp2;exact ⟨⟨i+1,Z,(⟨B1,m1,e1⟩,⟨Ac ⟨gr,orr,Ab⟩,m2,e2⟩),F,Bl,by go_num,hT.out.mono Bl,aE.out.trans bK.out,Bv.ow_below (F:=F) (x:=Z) (s:=(⟨B1,m1,e1⟩,⟨Ac ⟨gr,orr,Ab⟩,m2,e2⟩)) oy b6,hF,ol.out.below b6,OB.below b6,RES.below b6,Bu hb b6,Ah mD b6.size⟩,by simp [intOf];omega⟩
   have q1:(r.tasks[t].state == 3)=true:=by simp [q]
   have aP:Hid (Is r t):=⟨bQ.out,⟨Bl,Bl⟩,by rw [Ao,Cu kA];exact q⟩
   have bK:=Bq (show Gi Z k t=Gd Z k (Dn r t) by rw [Ku (by rw [hJ.out];exact q),hJ2.out]);replace hN:Hid (Trn y (i+1) (Gi Z k t)):=hN;clear q;go_wp2;refine Bz Bm Bm ?_;repeat (go_big_quiet_step (fail))
   refine Ak ?_;rintro w6 ⟨⟨_,b6⟩,rfl⟩;clear aQ l0 l1 l2 mH cG c0 c1 c2 c3 c4 c5 c6 c7 d0 hgt;clear OB_0 OB_1 OB_2 OB_3 OB_l;replace OB:=OB.below b6;replace RES:=RES.below b6;replace oy:Bv.ow w6 F Z (⟨B1,m1,e1⟩,⟨Ac ⟨gr,orr,Ab⟩,m2,e2⟩):=owB oy b6;replace ol:=Bq (ol.out.below b6);replace hb:=Bu hb b6;replace mD:=Ah mD b6.size;replace bV:∀ x∈F,x<w6:=Bv.ow_lt (F:=F) (x:=Z) (s:=(⟨B1,m1,e1⟩,⟨Ac ⟨gr,orr,Ab⟩,m2,e2⟩)) oy;obtain ⟨gl,pl,cl,gV,fU,l0,l1,l2,-⟩:=Ns ol.out (i:=i) (by rw [Ar];exact aA) dE.out;have mH:=ol.out.lt _ gV;have cG:=ol.out.lt _ fU;obtain ⟨OB_0,OB_1,OB_2,OB_3,OB_l⟩:=OB.g4;obtain ⟨_,_,sk,dB,hgrw6,dF,c0,c1,c2,c3,c4,c5,c6,c7⟩:=RdL.run (show RdL Ce w6 w6.heap.size (Aa (Ac ⟨gr,orr,Ab⟩) m2 e2) Z.runs from (Bv.ow_rd (F:=F) (x:=Z) (s:=(⟨B1,m1,e1⟩,⟨Ac ⟨gr,orr,Ab⟩,m2,e2⟩)) oy).2) eE;simp only [Option.some.injEq,Addr.mk.injEq,and_true] at dB;obtain ⟨rfl,rfl⟩:=dB;rw [mJ] at dF c0 c1 c2 c3 c4 c6;have CF:=Bq (Mm r sk t w6.drew (by have:=Kr bQ.out;omega) aP.out (Ce.rd_below dF (Br _ _).drew));have gD:=OB.lt;clear dF;go_wp2;refine Db (fun w'=>w'.cell? ⟨ob,0,Ab⟩=Ac (J U Z.now)/\w'.cell? ⟨ob,1,Ab⟩=Ac (J U Z.seq)/\w'.cell? ⟨ob,2,Ab⟩=Ac (Aa B1 m1 e1)/\w'.cell? ⟨ob,3,Ab⟩=Ac (Aa (Ac ⟨gr,orr,Ab⟩) m2 e2)/\w'.cell? ⟨bl,lo+i,Ab⟩=Ac (Aa (Ac ⟨gl,pl,Ab⟩) 3 cl)/\w'.cell? ⟨gl,pl,Ab⟩=Ac (J U y.runs[k].id)/\w'.cell? ⟨gl,pl+1,Ab⟩=Ac (J U (t:Int))) 15 Bm ?_ (fun hHeld=>?_)
   ·exact ⟨OB_0,OB_1,OB_2,OB_3,l0,l1,l2⟩
   refine aT 0 hHeld ?_;try simp only [pS]
   refine aT 1 hHeld ?_;try simp only [pS]
   refine aT 2 hHeld ?_;try simp only [pS]
   refine aT 3 hHeld ?_;try simp only [pS]
   refine aT 4 hHeld ?_;try simp only [pS]
   refine aT 5 hHeld ?_;try simp only [pS]
   refine aT 7 hHeld ?_;try simp only [pS]
   refine aT 8 hHeld ?_;try simp only [pS]
   refine aT 9 hHeld ?_;try simp only [pS]
   refine aT 10 hHeld ?_;try simp only [pS]
   refine aT 11 hHeld ?_;try simp only [pS]
   refine aT 12 hHeld ?_;try simp only [pS]
   refine oT 6 (fun K hK=>?_);go_simp;refine hK.out _ _ (fun _=>?_) ?_
   ·exact ⟨OB_0,OB_1,OB_2,OB_3,l0,l1,l2⟩
   clear hK K;try simp only [pS]
   refine oT 13 (fun K hK=>?_)
   (go_simp;refine CF.out.mono ?_;rintro e5 wa ⟨sr,Fr,rfl,orn,nFr,ba⟩;have nW:∀ x∈Fr,w6<=x:=nFr;have oya:Bv.ow wa F Z (⟨B1,m1,e1⟩,⟨Ac ⟨gr,orr,Ab⟩,m2,e2⟩):=owB oy (Bu (Br _ _).drew ba);have CT:=Bq (Le Z (⟨B1,m1,e1⟩,⟨Ac ⟨gr,orr,Ab⟩,m2,e2⟩) k (Dn r t) sr wa F Fr hT.out.four (fun s hs=>by have:=hT.out.all s hs;omega) (by have:=hT.out.seq;omega) eE (by rw [Ic];have:=D7 bQ.out;omega) (by rw [mJ];have:=D7 bQ.out;omega) oya orn (fun x hx bJ=>by have h1:=nW x hx;have h2:=bV x bJ;omega)))
   refine hK.out _ _ (fun _=>?_) ?_
   ·exact ⟨(ba.cell (p:=⟨_,_,Ab⟩) (by show ob<w6;omega)).trans OB_0,(ba.cell (p:=⟨_,_,Ab⟩) (by show ob<w6;omega)).trans OB_1,(ba.cell (p:=⟨_,_,Ab⟩) (by show ob<w6;omega)).trans OB_2,(ba.cell (p:=⟨_,_,Ab⟩) (by show ob<w6;omega)).trans OB_3,(ba.cell (p:=⟨_,_,Ab⟩) (by show bl<w6;omega)).trans l0,(ba.cell (p:=⟨_,_,Ab⟩) (by show gl<w6;omega)).trans l1,(ba.cell (p:=⟨_,_,Ab⟩) (by show gl<w6;omega)).trans l2⟩
   clear hK K;try simp only [pS]
   refine oT 14 (fun K hK=>?_)
   (go_simp;refine CT.out.mono ?_;rintro e6 wb ⟨s6,F6,rfl,oy6,n6,cb⟩;have OB6:=(OB.below (Bu (Br _ _).drew ba)).chg cb hF.out.2.1;have q0:=OB6.cell 0 _ rfl;have q1:=OB6.cell 1 _ rfl;have q2:=OB6.cell 2 _ rfl;have q3:=OB6.cell 3 _ rfl;have qf:=OB6.free;have ql:=OB6.lt;have u0:=(cb.cell (p:=⟨bl,_,Ab⟩) (by show bl<wa;have:=ba.size;have:w6.drew.heap.size=w6.heap.size:=rfl;omega) (hF.out.2.2 _ gV)).trans ((ba.cell (p:=⟨bl,_,Ab⟩) (by show bl<w6;omega)).trans l0);have u1:=(cb.cell (p:=⟨gl,_,Ab⟩) (by show gl<wa;have:=ba.size;have:w6.drew.heap.size=w6.heap.size:=rfl;omega) (hF.out.2.2 _ fU)).trans ((ba.cell (p:=⟨gl,_,Ab⟩) (by show gl<w6;omega)).trans l1);have u2:=(cb.cell (p:=⟨gl,_,Ab⟩) (by show gl<wa;have:=ba.size;have:w6.drew.heap.size=w6.heap.size:=rfl;omega) (hF.out.2.2 _ fU)).trans ((ba.cell (p:=⟨gl,_,Ab⟩) (by show gl<w6;omega)).trans l2);generalize Gd Z k (Dn r t)=Z1 at *)
   refine hK.out _ _ (fun _=>?_) ?_
   ·exact ⟨q0,q1,q2,q3,u0,u1,u2⟩
   clear hK K;try simp only [pS]
   refine oT 15 (fun K hK=>?_);go_simp;refine hK.out _ _ (fun aC=>absurd rfl aC) ?_;clear hK K;try simp only [pS]
   refine D6 Bm ?_ _;have ba':Below w6 w6 wa:=Bu (Br _ _).drew ba;have hbas:=ba'.size;have hcbs:=cb.size;have kB:=OB.lt;have hRl7:=RES.lt;have cK:=Chg.cells4 wb ob 0 1 2 3 (J U Z1.now) (J U Z1.seq) (Aa s6.1.a s6.1.n s6.1.c) (Aa s6.2.a s6.2.n s6.2.c);have dY:=Bq (show ∀ x,x∈[ob]->x=ob from fun x hx=>by simpa using hx);have OB7:=DBox.row4 OB6 rfl (J U Z1.now) (J U Z1.seq) (Aa s6.1.a s6.1.n s6.1.c) (Aa s6.2.a s6.2.n s6.2.c);have RES7:=((RES.below ba').chg cb (fun hx=>by have:=hF.out.1 _ hx;omega)).chg cK (fun hx=>by have:=dY.out _ hx;omega);have sS:=ol.out.lt;have ol7:=((ol.out.below ba').chg cb (fun x hx=>hF.out.2.2 x hx)).chg cK (fun x hx h2=>by have h3:=dY.out x h2;have h4:=hFln x hx;omega);have sF:=((Bu hb ba').trans (cb.below (by have:=(Bu hb ba').size;omega) (fun x hx=>by have:=hF.out.1 x hx;omega))).trans (cK.below (by have:=hb.size;omega) (fun x hx=>by have:=dY.out x hx;omega));have mU:∀ x∈F6,x∈F\/w6<=x:=fun x hx=>by
    rcases n6 x hx with h | h | h
    ·exact .inl h
    ·exact .inr (nW x h)
    ·exact .inr Bl
   have nM:ob∉F6:=fun hx=>by
    rcases mU _ hx with h | h
    ·exact hF.out.2.1 h
    ·omega
   have oy7:=Bv.ow_chg (F:=F6) (x:=Z1) (s:=s6) oy6 cK (fun x hx h=>by have:=dY.out x h;subst this;exact nM hx);have mE:Hid ((∀ x∈F6,w+1<x)/\ob∉F6 /\ ∀ x∈Fl,x∉F6):=⟨fun x hx=>by
    rcases mU x hx with h | h
    ·exact hF.out.1 x h
    ·have:=hRl7;omega,nM,fun x hx hx6=>by
    rcases mU x hx6 with h | h
    ·exact hF.out.2.2 x hx h
    ·have:=sS x hx;omega⟩
   have hw7:=Ah mD (Ah (Ah hbas hcbs) cK.size);clear hHeld q0 q1 q2 q3 qf ql OB6 oy6 CT CF oya orn nFr n6 ba cb;clear OB_0 OB_1 OB_2 OB_3 OB_l;clear OB;generalize (((wb.setCell ⟨ob,0,Ab⟩ (J U Z1.now)).setCell ⟨ob,1,Ab⟩ (J U Z1.seq)).setCell ⟨ob,2,Ab⟩ (Aa s6.1.a s6.1.n s6.1.c)).setCell ⟨ob,3,Ab⟩ (Aa s6.2.a s6.2.n s6.2.c)=w7 at *
   go_wp2;exact ⟨⟨i+1,Z1,s6,F6,Bl,by go_num,by rw [<-bK.out];exact hN.out,aE.out.trans bK.out,oy7,mE,ol7,OB7,RES7,sF,hw7⟩,by simp [intOf];omega⟩
  ·have aB:¬ (i:Int)<(L.length:Int):=Bl;have hzn:=Bq hT.out.now;have hZ1:=Bq (show Fe y L=Z by have:=hZ.out;rw [List.take_of_length_le Bl] at this;exact this);have wr2:U.wrap (Z.now+1)=Z.now+1:=Aq _ (by have:=hzn.out;omega);have H3:=Bq (show I6 y=⟨Z.now+1,Z.seq,Z.shelf,Z.runs⟩ by rw [H2.out,hZ1.out]);have obf:=OB.free;go_upto_region 14 with fail
   clear OB_0 OB_1 OB_2 OB_3 OB_l;clear obf;have hRl3:=RES.lt;replace OB:DBox ob [J U (Z.now+1),J U Z.seq,Aa B1 m1 e1,Aa B2 m2 e2] (wr.setCell ⟨ob,0,Ab⟩ (J U (Z.now+1))):=OB.set 0 Bn _;replace RES:=RES.setOther (a:=⟨ob,0,Ab⟩) (by show w.heap.size+1≠ob;omega) (J U (Z.now+1));have nY:=hF.out.2.1;have oy8:Bv.ow (wr.setCell ⟨ob,0,Ab⟩ (J U (Z.now+1))) F ⟨Z.now+1,Z.seq,Z.shelf,Z.runs⟩ (⟨B1,m1,e1⟩,⟨B2,m2,e2⟩):=Bv.ow_set (F:=F) (x:=Z) (s:=(⟨B1,m1,e1⟩,⟨B2,m2,e2⟩)) oy (a:=⟨ob,0,Ab⟩) nY _;have hb8:Below w w (wr.setCell ⟨ob,0,Ab⟩ (J U (Z.now+1))):=Ad hb (by show w.heap.size<=ob;omega) _;generalize wr.setCell ⟨ob,0,Ab⟩ (J U (Z.now+1))=w8 at *
   obtain ⟨OB_0,OB_1,OB_2,OB_3,OB_l⟩:=OB.g4;have RES_:=RES.g4;have rf:=RES.free;go_wp2;have en1:w.heap.size+1∉F:=fun hx=>by have:=hF.out.1 _ hx;omega
   refine Aj (V0 (DBox.row4 RES rfl _ _ _ _)) rfl ⟨(⟨B1,m1,e1⟩,⟨B2,m2,e2⟩),F,by rw [H.out,H3.out],by rw [H3.out];exact (by (repeat (refine Dt.ow_set Bv ?_ en1 _));exact (show Bv.ow _ F ⟨Z.now+1,Z.seq,Z.shelf,Z.runs⟩ (⟨B1,m1,e1⟩,⟨B2,m2,e2⟩) from oy8)),fun x hx=>by have:=hF.out.1 x hx;omega,?_⟩;repeat (first | (with_reducible exact hb8) | refine Ad ?_ Bo _)
end
theorem Afo (y:Yard) (r:Run):Nj y G4 r=J6 y r (Hv r.tasks 2):=by
 have h:N0 G4 r r.tasks.length=Hv r.tasks 2:=by
  rw [Q4,List.filter_eq_self.2];intro t _;have e:Hv G4.tasks 2=[]:=rfl;rw [e];simp
 unfold Nj J6;rw [h]
theorem Jt {b:Nat} {w:World} {u0 u1 u2 u3:Value} (X:DBox b [u0,u1,u2,u3] w) {v0 v1 v2 v3 v4 v5 v7:Value} {rest:List Value} :
  (results Tryz.f111 (v0 :: v1 :: v2 :: v3 :: v4 :: v5 :: .pointer (Ac ⟨b,0,Ab⟩) :: v7 :: rest).toArray).run Am w = .ok (.tuple #[.agg #[u0,u1,u2,u3],v7]) w:=by
 have c0:=X.cell 0 _ rfl;have c1:=X.cell 1 _ rfl;have c2:=X.cell 2 _ rfl;have c3:=X.cell 3 _ rfl;simp [results,results111,go_sem,c0,c1,c2,c3]
theorem V1 (y:Yard) (s:Sl×Sl) (id:Int) (p:Plan) (sp:Sl) (w:World) (hl:Ca y<=2000000) (hp:p.edges.length<=2000000) (h:Bv.rd w w y s) (hpr:Cd.rd w w p sp) :
  Calls Am 111 #[Dm y s,J U id,Jr p sp] w (Ij (Jf y id p) (Je y id p) w):=by
 have HR:=Bq (show ∀ W,Below w w W->Bv.rd W W y s from fun W hW=>Bv.rd_more (Bv.rd_below h hW) hW.size);obtain ⟨⟨A1,n1,c1⟩,⟨A2,n2,c2⟩⟩:=s;obtain ⟨A3,n3,c3⟩:=sp;obtain rfl:n3=p.edges.length:=RdL.at1 (s:=⟨A3,n3,c3⟩) hpr;have CC:=Bq (fun W hW=>Kn y (⟨A1,n1,c1⟩,⟨A2,n2,c2⟩) W hl (HR.out W hW));have CY:=Bq (fun W hW=>Fw y (⟨A1,n1,c1⟩,⟨A2,n2,c2⟩) W hl (HR.out W hW));have CA:=Bq (fun W hW=>E9 y (⟨A1,n1,c1⟩,⟨A2,n2,c2⟩) id W hl (HR.out W hW));have CF:=Bq (fun W (hW:Below w w W)=>Ho p (Aa A3 p.edges.length c3) W hp (((Ir hpr).below hW).more hW.size));have CR:=Bq (fun W hW hS hq=>Ze y (⟨A1,n1,c1⟩,⟨A2,n2,c2⟩) p (Aa A3 p.edges.length c3) W hl hS hq (HR.out W hW));have CN:=Bq (fun W (hW:Below w w W) hid hf=>Vt id p ⟨A3,p.edges.length,c3⟩ W hid hf (Cd.rd_more (Cd.rd_below hpr hW) hW.size));obtain ⟨j0,cJ,jz0,jz1,jz2⟩:=info_parts Kf;clear h hpr HR;obtain ⟨W,aH,X,P,RES,B0⟩:=bx3 w 27 [J U y.now,J U y.seq,Aa A1 n1 c1,Aa A2 n2 c2] 36 [J U p.prio,J U p.most,J U p.wait,J U p.tasks,Aa A3 p.edges.length c3] 27 [J U 0,J U 0,Aa Ab 0 0,Aa Ab 0 0];go_enter func111,ntmps111;go_wp2_with fail
 rw [<-aH.out];clear aH;have dP:w.heap.size+1+1<W.heap.size:=RES.lt;refine (CC.out _ B0).mono ?_;rintro e1 w1 ⟨⟨B1,m1,e1⟩,⟨B2,m2,e2⟩,F1,base,rfl,oS,eR,bE,cQ,oR,b1⟩;have bS:=b1.size;replace X:=X.below b1;replace P:=P.below b1;replace RES:=RES.below b1;replace B0:=Bu B0 b1;clear b1;obtain ⟨rs,bU,G0,oR⟩:=oR;have hm:=Bq bU;clear bU;replace oR:BldG Ce 167 w1 base (Aa B2 m2 e2) rs G0:=oR;have uS:=oR.2.1.lt;have qL:∀ g,(Value.slice B2 m2 e2).ownBlock=Ac g->g≠w1.heap.size:=fun g hg h=>by
  have:=(oR.1.within g hg).2
  omega
 obtain ⟨F,oy,nF⟩:∃ F,Bv.ow w1 F y (⟨B1,m1,e1⟩,⟨B2,m2,e2⟩) /\ ∀ x∈F,W<=x:=by
  have hB:Bld Ce 167 w1 base (Aa B2 m2 e2) rs:=⟨G0,oR⟩
  replace hm:=hm.out;obtain ⟨F2,h5,h6⟩:=hB.owl hm;refine ⟨F1 ++ F2,⟨F1,F2,rfl,?_,oS,h5⟩,fun b hb=>?_⟩
  ·rw [Ax];refine ⟨oS.nodup,h5.nodup,fun u hu u' hu' e=>?_⟩
   have:=eR u hu
   have:=h6 u' hu'
   omega
  ·rcases Bi.1 hb with hb | hb
   ·exact (eR b hb).1
   ·have:=h6 b hb;omega
 go_upto_region 2 with fail
 have OB:=DBox.new 27 [J U y.now,J U y.seq,Aa B1 m1 e1,Aa B2 m2 e2] w1 (b:=w1) rfl;have b2:Below w1 w1 (w1.alloc (.cells #[J U y.now,J U y.seq,Aa B1 m1 e1,Aa B2 m2 e2] 27)):=Bt;replace X:=X.below b2;replace P:=P.below b2;replace RES:=RES.below b2;replace oy:=Bv.ow_below (F:=F) (x:=y) (s:=(⟨B1,m1,e1⟩,⟨B2,m2,e2⟩)) oy b2;replace oS:=oS.below b2;replace oR:=oR.below b2;replace B0:=Bu B0 b2;have ow1:=OB.lt;have hbob:base<=w1.heap.size:=cQ;replace cQ:=Ah cQ b2.size;clear b2;generalize w1.alloc (.cells #[J U y.now,J U y.seq,Aa B1 m1 e1,Aa B2 m2 e2] 27)=w2 at *
 generalize cW:w1.heap.size=ob at *
 have X_:=X.g4;have P_:=P.g5;have OB_:=OB.g4;go_wp2_with fail
 refine (CY.out _ B0).mono ?_;rintro e1 w3 ⟨rfl,b3⟩;clear X_;clear P_;clear OB_;replace X:=X.below b3;replace P:=P.below b3;replace OB:=OB.below b3;replace RES:=RES.below b3;replace oy:Bv.ow w3 F y (⟨B1,m1,e1⟩,⟨B2,m2,e2⟩):=owB oy b3;replace oS:=oS.below b3;replace oR:=oR.below b3;replace B0:=Bu B0 b3;replace cQ:=Ah cQ b3.size;clear b3;have X_:=X.g4;have P_:=P.g5;have OB_:=OB.g4;by_cases p0:Dh y;case neg =>
  rw [Ci p0];have H:=Bq (show Je y id p=8 by unfold Je;rw [if_pos p0]);have H2:=Bq (show Jf y id p=y by unfold Jf;rw [H.out,if_neg Bp]);have RES_:=RES.g4;have rf:=RES.free;go_wp2;have en1:w.heap.size+1+1∉F:=fun hx=>by have:=nF _ hx;omega
  refine Aj (Jt (DBox.row4 RES rfl _ _ _ _)) rfl ⟨(⟨B1,m1,e1⟩,⟨B2,m2,e2⟩),F,by rw [H.out,H2.out],by rw [H2.out];exact (by (repeat (refine Dt.ow_set Bv ?_ en1 _));exact (show Bv.ow _ F y (⟨B1,m1,e1⟩,⟨B2,m2,e2⟩) from oy)),fun x hx=>by have:=nF x hx;omega,?_⟩;repeat (first | (with_reducible exact B0) | refine Ad ?_ Bo _)
 rw [Dp p0];have rL:=p0.2.2.2.2.2.2.2.2.2;have hsq:=p0.2.1;have h4:=Bq p0.2.2.1;have dK:=Bq p0.2.2.2.1;have P0:=Bq p0;clear p0;cases p1:inB id 1 9999;case false =>
  have H:=Bq (show Je y id p=5 by unfold Je;rw [if_neg (fun h=>h P0.out),if_pos p1]);have H2:=Bq (show Jf y id p=y by unfold Jf;rw [H.out,if_neg Bp]);have RES_:=RES.g4;have rf:=RES.free;go_wp2_with (go_at_call 56;refine (Co _ _ _ _).mono ?_;rintro e w9 ⟨rfl,rfl⟩;rw [p1])
  have en1:w.heap.size+1+1∉F:=fun hx=>by have:=nF _ hx;omega
  refine Aj (Jt (DBox.row4 RES rfl _ _ _ _)) rfl ⟨(⟨B1,m1,e1⟩,⟨B2,m2,e2⟩),F,by rw [H.out,H2.out],by rw [H2.out];exact (by (repeat (refine Dt.ow_set Bv ?_ en1 _));exact (show Bv.ow _ F y (⟨B1,m1,e1⟩,⟨B2,m2,e2⟩) from oy)),fun x hx=>by have:=nF x hx;omega,?_⟩;repeat (first | (with_reducible exact B0) | refine Ad ?_ Bo _)
 have P1:=Bq p1;go_wp2_with (go_at_call 56;refine (Co _ _ _ _).mono ?_;rintro e w9 ⟨rfl,rfl⟩;rw [p1])
 refine (CA.out _ B0).mono ?_;rintro e1 w4 ⟨rfl,b4⟩;clear X_;clear P_;clear OB_;replace X:=X.below b4;replace P:=P.below b4;replace OB:=OB.below b4;replace RES:=RES.below b4;replace oy:Bv.ow w4 F y (⟨B1,m1,e1⟩,⟨B2,m2,e2⟩):=owB oy b4;replace oS:=oS.below b4;replace oR:=oR.below b4;replace B0:=Bu B0 b4;replace cQ:=Ah cQ b4.size;clear b4;have X_:=X.g4;have P_:=P.g5;have OB_:=OB.g4;by_cases p2:0<=Dk y id;case pos =>
  have H:=Bq (show Je y id p=6 by unfold Je;rw [if_neg (fun h=>h P0.out),if_neg (by rw [P1.out];simp),if_pos p2]);have H2:=Bq (show Jf y id p=y by unfold Jf;rw [H.out,if_neg Bp]);have RES_:=RES.g4;have rf:=RES.free;go_wp2;have en1:w.heap.size+1+1∉F:=fun hx=>by have:=nF _ hx;omega
  refine Aj (Jt (DBox.row4 RES rfl _ _ _ _)) rfl ⟨(⟨B1,m1,e1⟩,⟨B2,m2,e2⟩),F,by rw [H.out,H2.out],by rw [H2.out];exact (by (repeat (refine Dt.ow_set Bv ?_ en1 _));exact (show Bv.ow _ F y (⟨B1,m1,e1⟩,⟨B2,m2,e2⟩) from oy)),fun x hx=>by have:=nF x hx;omega,?_⟩;repeat (first | (with_reducible exact B0) | refine Ad ?_ Bo _)
 have P2:=Bq p2;go_wp2_with fail
 refine (CF.out _ B0).mono ?_;rintro e1 w5 ⟨rfl,b5⟩;clear p1 p2;clear X_;clear P_;clear OB_;replace X:=X.below b5;replace P:=P.below b5;replace OB:=OB.below b5;replace RES:=RES.below b5;replace oy:Bv.ow w5 F y (⟨B1,m1,e1⟩,⟨B2,m2,e2⟩):=owB oy b5;replace oS:=oS.below b5;replace oR:=oR.below b5;replace B0:=Bu B0 b5;replace cQ:=Ah cQ b5.size;clear b5;have X_:=X.g4;have P_:=P.g5;have OB_:=OB.g4;by_cases p3:Cs p=0;case neg =>
  have q3:(Cs p != 0)=true:=by simp [p3]
  have H:=Bq (show Je y id p=Cs p by unfold Je;rw [if_neg (fun h=>h P0.out),if_neg (by rw [P1.out];simp),if_neg (by have:=P2.out;omega),if_pos p3]);have H2:=Bq (show Jf y id p=y by unfold Jf;rw [H.out,if_neg p3]);clear p3;have en1:w.heap.size+1+1∉F:=fun hx=>by have:=nF _ hx;omega
  have RES_:=RES.g4;have rf:=RES.free;have hpb:w.heap.size+1<w5.heap.size:=P.lt;have hobl:ob<w5:=OB.lt;have CF5:=Bq (CF.out _ B0.drew);go_wp2;refine Go.wp_region_noPanic ?_;refine wp_region_held_drew (S:=(fun w'=>DBox ob [J U y.now,J U y.seq,Aa B1 m1 e1,Aa B2 m2 e2] w'/\DBox (w+1) [J U p.prio,J U p.most,J U p.wait,J U p.tasks,Aa A3 p.edges.length c3] w')) Bm ⟨DBox.drew4 OB,DBox.drew4 P⟩ (fun hHeld=>?_);replace oy:Bv.ow w5.drew F y (⟨B1,m1,e1⟩,⟨B2,m2,e2⟩):=owB oy (Br _ _).drew;clear RES_;clear rf;replace RES:DBox _ _ w5.drew:=DBox.drew4 RES;replace B0:=B0.drew;clear X_;clear P_;clear OB_;clear OB X P;generalize w5.drew=w5d at *
  refine tV 0 ?_
  (try simp only [pS])
  refine tV 1 ?_
  (try simp only [pS])
  refine rC 2 (fun K_ hK=>?_);go_simp;refine CF5.out.mono ?_;rintro e1 w6 ⟨rfl,b6⟩;replace oy:Bv.ow w6 F y (⟨B1,m1,e1⟩,⟨B2,m2,e2⟩):=owB oy b6;replace RES:=RES.below b6;replace B0:=Bu B0 b6;refine hK.out _ _ ⟨hHeld.1.below b6,hHeld.2.below b6⟩ (fun hHeld=>?_);clear hK K_
  (try simp only [pS])
  have RES_:=RES.g4;have rf:=RES.free;refine rC 3 (fun K_ hK=>?_);go_simp;refine hK.out _ _ ⟨(((hHeld.1.setOther (a:=⟨w+1+1,0,Ab⟩) (by show ob≠w.heap.size+1+1;omega) _).setOther (a:=⟨w+1+1,1,Ab⟩) (by show ob≠w.heap.size+1+1;omega) _).setOther (a:=⟨w+1+1,2,Ab⟩) (by show ob≠w.heap.size+1+1;omega) _).setOther (a:=⟨w+1+1,3,Ab⟩) (by show ob≠w.heap.size+1+1;omega) _,(((hHeld.2.setOther (a:=⟨w+1+1,0,Ab⟩) (by show w.heap.size+1≠w.heap.size+1+1;omega) _).setOther (a:=⟨w+1+1,1,Ab⟩) (by show w.heap.size+1≠w.heap.size+1+1;omega) _).setOther (a:=⟨w+1+1,2,Ab⟩) (by show w.heap.size+1≠w.heap.size+1+1;omega) _).setOther (a:=⟨w+1+1,3,Ab⟩) (by show w.heap.size+1≠w.heap.size+1+1;omega) _⟩ (fun hHeld=>?_);clear hK K_
  (try simp only [pS])
  refine tV 4 ?_
  (try simp only [pS])
  refine wpAnyH_done Bm ?_ _;refine NoPanic.normal ?_;clear hHeld;clear RES_;clear rf;go_wp2;refine Aj (Jt (DBox.row4 RES rfl _ _ _ _)) rfl ⟨(⟨B1,m1,e1⟩,⟨B2,m2,e2⟩),F,by rw [H.out,H2.out],by rw [H2.out];exact (by (repeat (refine Dt.ow_set Bv ?_ en1 _));exact (show Bv.ow _ F y (⟨B1,m1,e1⟩,⟨B2,m2,e2⟩) from oy)),fun x hx=>by have:=nF x hx;omega,?_⟩;repeat (first | (with_reducible exact B0) | refine Ad ?_ Bo _)
 have q3:(Cs p != 0)=false:=by simp [p3]
 have P3:=Bq p3;clear p3;go_wp2_with fail
 refine (CR.out _ B0 rL Bl).mono ?_;rintro e1 w6 ⟨rfl,b6⟩;clear X_;clear P_;clear OB_;replace X:=X.below b6;replace P:=P.below b6;replace OB:=OB.below b6;replace RES:=RES.below b6;replace oy:Bv.ow w6 F y (⟨B1,m1,e1⟩,⟨B2,m2,e2⟩):=owB oy b6;replace oS:=oS.below b6;replace oR:=oR.below b6;replace B0:=Bu B0 b6;replace cQ:=Ah cQ b6.size;clear b6;have X_:=X.g4;have P_:=P.g5;have OB_:=OB.g4;cases p4:Mf y p;case false =>
  have H:=Bq (show Je y id p=7 by unfold Je;rw [if_neg (fun h=>h P0.out),if_neg (by rw [P1.out];simp),if_neg (by have:=P2.out;omega),if_neg (fun h=>h P3.out),if_pos p4]);have H2:=Bq (show Jf y id p=y by unfold Jf;rw [H.out,if_neg Bp]);have RES_:=RES.g4;have rf:=RES.free;go_wp2;have en1:w.heap.size+1+1∉F:=fun hx=>by have:=nF _ hx;omega
  refine Aj (Jt (DBox.row4 RES rfl _ _ _ _)) rfl ⟨(⟨B1,m1,e1⟩,⟨B2,m2,e2⟩),F,by rw [H.out,H2.out],by rw [H2.out];exact (by (repeat (refine Dt.ow_set Bv ?_ en1 _));exact (show Bv.ow _ F y (⟨B1,m1,e1⟩,⟨B2,m2,e2⟩) from oy)),fun x hx=>by have:=nF x hx;omega,?_⟩;repeat (first | (with_reducible exact B0) | refine Ad ?_ Bo _)
 have H:=Bq (show Je y id p=0 by unfold Je;rw [if_neg (fun h=>h P0.out),if_neg (by rw [P1.out];simp),if_neg (by have:=P2.out;omega),if_neg (fun h=>h P3.out),if_neg (by rw [p4];simp)]);have H2:=Bq (show Jf y id p=Nj ⟨y.now,y.seq,y.shelf,y.runs ++ [Ck id p]⟩ G4 (Ck id p) by unfold Jf;rw [if_pos H.out]);have rE:=Bq (show y.runs.length<8 by
  unfold Mf at p4;simp only [Bool.and_eq_true,decide_eq_true_eq] at p4;exact p4.1)
 clear rL;go_wp2_with fail
 refine (CN.out _ B0 P1.out P3.out).mono ?_;rintro e1 w7 ⟨sr,Fr,rfl,orn,nr,b7⟩;have cS:=Bq (show (Ck id p).tasks.length<=12 by have h1:=P8 id p;have h2:=Eh (Dj.1 P3.out).1;omega);have pP:=B0.size;have hobw6:=OB.lt;have fC:∀ x∈Fr,w6<=x:=nr;clear nr;clear X_;clear P_;clear OB_;clear X P;replace OB:=OB.below b7;replace RES:=RES.below b7;replace oS:=oS.below b7;have B7:=Bu B0 b7;have b7s:=b7.size;have XB:=DBox.new 167 [J U (Ck id p).id,J U (Ck id p).plan.prio,J U (Ck id p).plan.most,J U (Ck id p).plan.wait,J U (Ck id p).plan.tasks,Aa sr.1.a sr.1.n sr.1.c,J U (Ck id p).state,Aa sr.2.a sr.2.n sr.2.c] w7 (b:=w7) rfl;have b8:Below w7 w7 (w7.alloc (.cells #[J U (Ck id p).id,J U (Ck id p).plan.prio,J U (Ck id p).plan.most,J U (Ck id p).plan.wait,J U (Ck id p).plan.tasks,Aa sr.1.a sr.1.n sr.1.c,J U (Ck id p).state,Aa sr.2.a sr.2.n sr.2.c] 167)):=Bt;go_upto_region 13 with fail
 replace OB:=OB.below b8;replace RES:=RES.below b8;replace oS:=oS.below b8;replace B7:=Bu B7 b8;have b78:=Bu b7 b8;have orn8:=Ce.ow_below (F:=Fr) (x:=Ck id p) (s:=sr) orn b8;have dW:=XB.lt;generalize w7.alloc (.cells #[J U (Ck id p).id,J U (Ck id p).plan.prio,J U (Ck id p).plan.most,J U (Ck id p).plan.wait,J U (Ck id p).plan.tasks,Aa sr.1.a sr.1.n sr.1.c,J U (Ck id p).state,Aa sr.2.a sr.2.n sr.2.c] 167)=w8 at *
 generalize fG:w7.heap.size=xb at *
 have bG:=Bq (show rs.length=y.runs.length by have:=congrArg List.length hm.out;simpa using this);have nD:=Bq (show rs.length<=3000000 by have:=rE.out;have:=bG.out;omega);have hO:=oR.1;have uK:=hO.below b78;obtain ⟨A5_,c5_,rQ,-⟩:=_root_.id (Rd.of_own hO);have tN:=rQ;simp only [Sl.v,Value.slice.injEq] at tN;obtain ⟨rfl,rfl,rfl⟩:=tN;clear rQ;have OB_:=OB.g4;have XB_:=XB.g8;have obf:=OB.free;have tR:∀ g,(Value.slice B2 rs.length e2).ownBlock=Ac g->base<=g/\g<w6.heap.size:=fun g hg=>hO.within _ hg;have pK:∀ g,(Value.slice B2 rs.length e2).ownBlock=Ac g->g≠ob:=fun g hg=>qL g hg;have ha:=Bq (show ∀ w:World,Below w w (w.alloc (.cells #[J U (Ck id p).id,J U (Ck id p).plan.prio,J U (Ck id p).plan.most,J U (Ck id p).plan.wait,J U (Ck id p).plan.tasks,Aa sr.1.a sr.1.n sr.1.c,J U (Ck id p).state,Aa sr.2.a sr.2.n sr.2.c] 167)) from fun w=>Bt);have qC:=Bq pK;have fQ:=Bq tR;clear pK tR qL;have aY:base<=w8.heap.size:=Bl;go_upto_region 14 with (at_builtin;go_loud (refine Ch _ Ce.enc Bp rfl (.tmp 49) (.tmp 51) rfl underlying25 cJ jz0 jz1 jz2 rfl (base:=base) (v:=Aa B2 rs.length e2) (l:=rs) rfl (uK.below (ha.out w8)) rfl (Rd.one Ce.enc _ _ (Ck id p,sr) rfl rfl 1 (Bs _) (Nat.lt_succ_self _)) nD.out Bn Bp (by simp;omega) ?_);intro v9 w9 o9 g9 f9;obtain ⟨A9,c9,rfl,-⟩:=_root_.id (Rd.of_own o9);simp only [List.length_append,List.length_singleton] at o9 f9;have OB9:=(OB.below (ha.out w8)).off g9 (fun e=>(qC.out _ e.symm) rfl);have q3:=OB9.cell 3 _ rfl;have qf:=OB9.free;have ql:=OB9.lt)
 have hP:=oR.push1 b78 orn8 fC cQ (ha.out w8) o9 g9 f9;have tP:=hP.owl (l:=y.runs ++ [Ck id p]) (by rw [List.map_append,hm.out];rfl);have g9s:=g9.size;simp only [Bj] at g9s;have gI:∀ x∈Ek (Aa A9 (rs.length+1) c9) (rs ++ [(Ck id p,sr)]).length ++ (G0 ++ Fr),x≠ob/\base<=x:=fun x hx=>by
  rcases Bi.1 hx with hx | hx
  ·have h1:=Ht _ _ _ hx;refine ⟨?_,(o9.within x h1).1⟩;rcases f9 with h2 | h2
   ·rw [h2] at h1;exact qC.out _ h1
   ·rw [h2] at h1
    have:=Option.some.inj h1
    simp only [Bj] at this;omega
  ·rcases Bi.1 hx with hx | hx
   ·exact ⟨by have:=uS x hx;omega,(oR.2.2.2 x hx).1⟩
   ·exact ⟨by have:=fC x hx;omega,by have:=fC x hx;omega⟩
 generalize Ek (Aa A9 (rs.length+1) c9) (rs ++ [(Ck id p,sr)]).length ++ (G0 ++ Fr)=F2 at *
 have XB9:=(XB.below (ha.out w8)).off g9 (fun e=>by have h1:=(fQ.out _ e.symm).2;omega);have RES9:=(RES.below (ha.out w8)).off g9 (fun e=>by have h1:base<=w.heap.size+1+1:=(fQ.out _ e.symm).1;omega);have oS9:=(oS.below (ha.out w8)).grown g9 (fun b hb e=>by have h1:=(fQ.out b e).1;have h2:=(eR b hb).2;omega);have orn9:=Ce.ow_keep (Ce.ow_below (F:=Fr) (x:=Ck id p) (s:=sr) orn8 (ha.out w8)) g9.size (fun b dA=>g9.block b (Ce.ow_lt (F:=Fr) (x:=Ck id p) (s:=sr) (Ce.ow_below (F:=Fr) (x:=Ck id p) (s:=sr) orn8 (ha.out w8)) b dA) (fun e=>by have h1:=(fQ.out _ e.symm).2;have h2:=fC b dA;omega));have B9:Below w w w9:=(Bu B7 (ha.out w8)).grown g9 (Bu B7 (ha.out w8)).size (fun g hg=>by have h1:=(fQ.out g hg).1;omega);have nY:w<=ob:=Bl;have OB10:DBox ob [J U y.now,J U y.seq,Aa B1 m1 e1,Aa A9 (rs.length+1) c9] (w9.setCell ⟨ob,3,Ab⟩ (Aa A9 (rs.length+1) c9)):=OB9.set 3 Bn _;have XB10:=XB9.setOther (a:=⟨ob,3,Ab⟩) (by show xb≠ob;omega) (Aa A9 (rs.length+1) c9);have RES10:=RES9.setOther (a:=⟨ob,3,Ab⟩) (by show w.heap.size+1+1≠ob;omega) (Aa A9 (rs.length+1) c9);have oS10:=oS9.set (a:=⟨ob,3,Ab⟩) (fun hx=>by have h1:_/\ob<base:=eR _ hx;omega) (Aa A9 (rs.length+1) c9);have oR10:=tP.set (a:=⟨ob,3,Ab⟩) (fun hx=>(gI _ hx).1 rfl) (Aa A9 (rs.length+1) c9);have orn10:=Ce.ow_set (F:=Fr) (x:=Ck id p) (s:=sr) orn9 (a:=⟨ob,3,Ab⟩) (fun hx=>by have h1:w6<=ob:=fC _ hx;omega) (Aa A9 (rs.length+1) c9);have B10:Below w w (w9.setCell ⟨ob,3,Ab⟩ (Aa A9 (rs.length+1) c9)):=Ad B9 (by show w.heap.size<=ob;omega) _;clear OB9 XB9 RES9 oS9 orn9 B9 tP hP XB RES oS B7 OB o9 g9 f9 q3 qf ql orn8 hO uK oR obf qC;clear OB_;clear XB_;generalize w9.setCell ⟨ob,3,Ab⟩ (Aa A9 (rs.length+1) c9)=w10 at *
 have OB10_:=OB10.g4;have XB10_:=XB10.g8;obtain rfl:m1=y.shelf.length:=RdL.at1 (s:=⟨B1,m1,e1⟩) oS10.rd;obtain ⟨g,o,_,rfl,fX,_,_⟩:=RdL.entryS (show RdL (Dt.list Bx) w10 w10.heap.size (Aa B1 y.shelf.length e1) y.shelf from oS10.rd) (k:=0) (by have:=h4.out;omega);have eY:g∈F1:=OwL.block_mem (show OwL (Dt.list Bx) w10 F1 (Aa (Ac ⟨g,o,Ab⟩) y.shelf.length e1) y.shelf from oS10) (by have:=h4.out;omega);have rM:=eR g eY;have hRlt:=oR10.lt;have aS:=Bq (show ∀ x,x∈[g]->x=g from fun x hx=>by simpa using hx);refine Go.wp_region_noPanic ?_;refine wp_region_held_drew (S:=(fun w'=>DBox xb [J U id,J U p.prio,J U p.most,J U p.wait,J U p.tasks,Aa sr.1.a sr.1.n sr.1.c,J U (Ck id p).state,Aa sr.2.a sr.2.n sr.2.c] w')) Bm (show DBox xb _ w10.drew from XB10.below (Br _ _).drew) (fun hHeld=>?_);clear XB10_;refine tY 0 ?_
 (try simp only [pS])
 refine tY 1 ?_
 (try simp only [pS])
 have bd:Below w10 w10 w10.drew:=(Br _ _).drew;have rH:Hid ((Ck id p).tasks.length<=2000000):=by
  have h1:(Ck id p).tasks.length=p.tasks.toNat:=by unfold Ck;simp
  have h2:=Eh (Dj.1 P3.out).1;have h3:(Ck id p).tasks.length<=2000000:=Bl;exact Bq h3
 have CT:=Bq (Ig (Ck id p) sr 2 w10.drew rH.out (Ce.ow_rd (F:=Fr) (x:=Ck id p) (s:=sr) (Ce.ow_below (F:=Fr) (x:=Ck id p) (s:=sr) orn10 bd)));refine rC 2 (fun K_ hK=>?_);go_simp;refine CT.out.mono ?_;rintro e7 wa ⟨v7,rfl,o7,b7⟩;refine hK.out _ _ (hHeld.below b7) (fun hHeld=>?_);clear hK K_
 (try simp only [pS])
 have qA:w10.drew.heap.size=w10.heap.size:=rfl;have ba:Below w10 w10 wa:=Bu bd b7;clear bd b7 CT;replace OB10:=OB10.below ba;replace RES10:=RES10.below ba;replace oS10:=oS10.below ba;replace oR10:=oR10.below ba;replace B10:=Bu B10 ba;have sZ:=ba.size;have hRlt:=oR10.lt;obtain ⟨A7,c7,rfl,-⟩:=_root_.id (Rd.of_own o7);have hobF:ob∉F1:=fun hx=>by have h1:_/\ob<base:=eR _ hx;omega
 have fL:=Bq (show ∀ x,x∈[ob,g]->x=ob\/x=g from fun x hx=>by simpa using hx);have CS:=Bq (Ps ⟨y.now,y.seq,y.shelf,y.runs ++ [Ck id p]⟩ ob g o e1 ⟨A9,rs.length+1,c9⟩ (Ck id p) sr (Hv (Ck id p).tasks 2) A7 _ c7 wa F1 h4.out (fun s hs=>by have:=(dK.out s hs).1;omega) (by dsimp only;omega) (Ah (Lb _ _ _) (by have:=cS.out;omega)) OB10 oS10 hobF (Bq fun W hW=>o7.rdHi hW (fun x hx=>by rcases fL.out x hx with h | h<;>(left;omega))));rw [<-Afo] at CS;unfold Ox at CS;dsimp only at CS;have fZ:=Bq (show (Nj ⟨y.now,y.seq,y.shelf,y.runs ++ [Ck id p]⟩ G4 (Ck id p)).runs=y.runs ++ [Ck id p] from (Qb (y:=⟨y.now,y.seq,y.shelf,y.runs ++ [Ck id p]⟩) (was:=G4) (r:=Ck id p) (M:=80) (fun s hs=>(dK.out s hs).1) (Ck id p).tasks.length).runs);generalize Nj ⟨y.now,y.seq,y.shelf,y.runs ++ [Ck id p]⟩ G4 (Ck id p)=Z at *
 refine rC 3 (fun K_ hK=>?_);go_simp;refine CS.out.mono ?_;rintro e8 w11 ⟨rfl,F1',q1,Y6,q2,q3⟩;refine hK.out _ _ (hHeld.chg q3 (fun hx=>by rcases fL.out _ hx with h | h<;>omega)) (fun hHeld=>?_);clear hK K_
 (try simp only [pS])
 refine wpAnyH_done Bm ?_ _;refine NoPanic.normal ?_;clear hHeld CS o7 OB10;have hs11:=q3.size;have RES11:=RES10.chg q3 (fun hx=>by rcases fL.out _ hx with h | h<;>omega);have oR11:=oR10.chg q3 (fun x hx h=>by
  have h2:=gI x hx;rcases fL.out x h with h1 | h1
  ·exact h2.1 h1
  ·omega)
 have B11:=B10.trans (q3.below (by have:=B10.size;omega) (fun x hx=>by rcases fL.out _ hx with h | h<;>omega));clear RES10;have RES11_:=RES11.g4;have Y6_:=Y6.g4;have rf:=RES11.free;go_wp2;have en1:w.heap.size+1+1∉F1':=fun hx=>by
  rcases q2 _ hx with h | h
  ·have:=(eR _ h).1;omega
  ·have:=B10.size;omega
 have en2:w.heap.size+1+1∉F2:=fun hx=>by have:=(gI _ hx).2;omega
 refine Aj (Jt (DBox.row4 RES11 rfl _ _ _ _)) rfl ⟨(⟨Ac ⟨g,o,Ab⟩,y.shelf.length,e1⟩,⟨A9,rs.length+1,c9⟩),F1' ++ F2,by rw [H.out,H2.out],⟨F1',F2,rfl,?_,?_,?_⟩,fun x hx=>?_,?_⟩
 ·rw [Ax];refine ⟨q1.nodup,oR11.nodup,fun a ha b hb e=>?_⟩;subst e;have h3:=gI a hb;have h4:=hRlt a hb;rcases q2 a ha with h | h
  ·have:=(eR a h).2;omega
  ·omega
 ·rw [H2.out];show OwL (Dt.list Bx) _ F1' (Aa (Ac ⟨g,o,Ab⟩) y.shelf.length e1) Z.shelf;exact ((((q1.set (a:=⟨_,_,Ab⟩) en1 _).set (a:=⟨_,_,Ab⟩) en1 _).set (a:=⟨_,_,Ab⟩) en1 _).set (a:=⟨_,_,Ab⟩) en1 _)
 ·rw [H2.out];show OwL Ce _ F2 (Aa A9 (rs.length+1) c9) Z.runs;rw [fZ.out];exact ((((oR11.set (a:=⟨_,_,Ab⟩) en2 _).set (a:=⟨_,_,Ab⟩) en2 _).set (a:=⟨_,_,Ab⟩) en2 _).set (a:=⟨_,_,Ab⟩) en2 _)
 ·rcases Bi.1 hx with hx | hx
  ·rcases q2 x hx with h | h
   ·have:=(eR x h).1;omega
   ·have:=B10.size;omega
  ·have:=(gI x hx).2;omega
 ·repeat (first | (with_reducible exact B11) | refine Ad ?_ Bo _)
theorem Adt (y:Yard) (s:Sl×Sl) (p:Nat) (e:Entry) (w:World) (hl:Ca y<=2000000) (X:DBox p (Gv y s) w) (h:Bv.rd w w y s) :
  Calls Am 252 #[Gs e (),.pointer (Ac ⟨p,0,Ab⟩)] w fun e' w'=>e' = .returned (.bool (!E0 y e))/\Below w w w':=by
 have CF:=Bq (fun W (hW:Below w w W)=>Pj y s e W hl (Bv.rd_more (Bv.rd_below h hW) hW.size));obtain ⟨⟨A1,n1,c1⟩,⟨A2,n2,c2⟩⟩:=s;have B0:Below w w (w.alloc (.cells #[J U e.prio,J U e.seq,J U e.run,J U e.task] 163)):=Bt;have E:=DBox.new 163 [J U e.prio,J U e.seq,J U e.run,J U e.task] w (b:=w) rfl;have CF:=Bq (CF.out _ B0);replace X:=X.below B0;clear h hl;have X_:=X.g4;have E_:=E.g4;go_enter func252,ntmps252;go_wp2_with fail
 refine CF.out.mono ?_;rintro e1 w1 ⟨rfl,b1⟩;go_wp2;go_ret;exact ⟨rfl,Bu B0 b1⟩
theorem Adu {b:Nat} {w:World} {u0 u1 u2 u3:Value} (X:DBox b [u0,u1,u2,u3] w) {v0 v1 v2 v3:Value} {rest:List Value} :
  (results Tryz.f181 (v0 :: v1 :: v2 :: v3 :: .pointer (Ac ⟨b,0,Ab⟩) :: rest).toArray).run Am w = .ok (.agg #[u0,u1,u2,u3]) w:=by
 obtain ⟨c0,c1,c2,c3,-⟩:=X.g4;simp [results,results181,go_sem,c0,c1,c2,c3]
theorem Pw (y:Yard) (s:Sl×Sl) (i:Nat) (w:World) (hi:i<y.shelf.length) (hl:Ca y<=2000000) (h:Bv.rd w w y s) :
  Calls Am 181 #[Dm y s,J U i] w (Df Bv Dm (Cb y i) w):=by
 have HR:=Bq (show ∀ W,Below w w W->Bv.rd W W y s from fun W hW=>Bv.rd_more (Bv.rd_below h hW) hW.size);obtain ⟨⟨A1,n1,c1⟩,⟨A2,n2,c2⟩⟩:=s;obtain rfl:n1=y.shelf.length:=RdL.at1 (s:=⟨A1,n1,c1⟩) h.1;have CC:=Bq (fun W hW=>Ev y (⟨A1,y.shelf.length,c1⟩,⟨A2,n2,c2⟩) W hl (HR.out W hW));have kR:y.shelf[i].length<=2000000:=by
  have h1:=C9 (cnt:=Cl) (Aw hi);have h2:y.shelf[i].length<=Cl y.shelf[i]:=Cj _ _;unfold Ca at hl;omega
 have hshl:y.shelf.length<=2000000:=Ah (Cj Cl _) (by unfold Ca at hl;omega);clear h;have hiI:(i:Int)<(y.shelf.length:Int):=Bl;have hi00:(0:Int)<=(i:Int):=Bl;obtain ⟨W,aH,X,RES,B0⟩:=bx2 w 27 [J U y.now,J U y.seq,Aa A1 y.shelf.length c1,Aa A2 n2 c2] 27 [J U 0,J U 0,Aa Ab 0 0,Aa Ab 0 0];go_enter func181,ntmps181;go_wp2_with fail
 rw [<-aH.out];clear aH;refine (CC.out _ B0).mono ?_;rintro e1 w1 ⟨⟨⟨B1,m1,e1⟩,⟨B2,m2,e2⟩⟩,F,rfl,oy,nF,b1⟩;have dP:=RES.lt;have b2:Below w1 w1 (w1.alloc (.cells #[J U y.now,J U y.seq,Aa B1 m1 e1,Aa B2 m2 e2] 27)):=Bt;have OB:DBox w1 (Gv y (⟨B1,m1,e1⟩,⟨B2,m2,e2⟩)) _:=DBox.new 27 [J U y.now,J U y.seq,Aa B1 m1 e1,Aa B2 m2 e2] w1 (b:=w1) rfl;have bV:=Bq (Bv.ow_lt (F:=F) (x:=y) (s:=(⟨B1,m1,e1⟩,⟨B2,m2,e2⟩)) oy);have cZ:=Bq (show ∀ x∈F,w.heap.size+1<x from fun x hx=>by have:=nF x hx;omega);replace oy:Bv.ow _ F y (⟨B1,m1,e1⟩,⟨B2,m2,e2⟩):=owB oy b2;have b12:=Bu b1 b2;replace X:=X.below b12;replace RES:=RES.below b12;replace B0:=Bu B0 b12;have bS:=b1.size;clear b1 b2 b12 CC nF;go_upto_region 2 with fail
 have cW:w1.heap.size∉F:=fun h=>by have:=bV.out _ h;omega
 have hobR:w.heap.size+1<w1.heap.size:=Bl;generalize w1.heap.size=ob at *
 generalize w1.alloc (.cells #[J U y.now,J U y.seq,Aa B1 m1 e1,Aa B2 m2 e2] 27)=w2 at *
 have wr1:U.wrap ((y.shelf.length:Int) - 1)=(y.shelf.length:Int) - 1:=Aq _ Bl;have q:inB (i:Int) 0 ((y.shelf.length:Int) - 1)=true:=Cw.2 Bl;have X_:=X.g4;go_wp2_with (go_at_call 56;refine (Co _ _ _ _).mono ?_;rintro e w9 ⟨rfl,rfl⟩;rw [q])
 clear X_;have fH:=Bq hl;have bd:Below w2 w2 w2.drew:=(Br _ _).drew;obtain ⟨F1,F2,rfl,bT,os,orr⟩:=oy;replace os:OwL (Dt.list Bx) w2 F1 (Aa B1 m1 e1) y.shelf:=os;replace orr:OwL Ce w2 F2 (Aa B2 m2 e2) y.runs:=orr;obtain rfl:m1=y.shelf.length:=RdL.at1 (s:=⟨B1,m1,e1⟩) os.rd;obtain ⟨g,o,_,rfl,hg,_,_⟩:=os.rd.entryS hi;obtain ⟨OB_0,OB_1,OB_2,OB_3,OB_l⟩:=OB.g4;obtain ⟨⟨A9,n9,c9⟩,Fx,kS,bJ,kJ,eY,fZ,aN,cR⟩:=OwL.trade (os.below bd) hi;replace kS:OwL Bx w2.drew Fx (Aa A9 n9 c9) y.shelf[i]:=kS;obtain rfl:n9=y.shelf[i].length:=RdL.at1 (s:=⟨A9,n9,c9⟩) kS.rd;have ck:w2.drew.cell? ⟨g,o+i,Ab⟩=Ac (Aa A9 y.shelf[i].length c9):=by
  have:=aN 0 _ rfl
  rw [show o+i * (Dt.list Bx).enc.sz+0=o+i from by show o+i * 1+0=o+i;omega] at this;exact this
 have hXn:w.heap.size∉Fx:=fun hx=>by have:=cZ.out _ (Bf _ (bJ _ hx));omega
 have kC:=Bu B0 bd;have Xd:=X.below bd;have kH:∀ (W:World) (x:Entry),Below w w W->DBox w [J U y.now,J U y.seq,Aa A1 y.shelf.length c1,Aa A2 n2 c2] W->Calls Am 252 #[Gs x (),.pointer (Ac ⟨w,0,Ab⟩)] W fun e w'=>e = .returned (.bool (!E0 y x))/\Below W W w' :=
  fun W x hW hX=>Adt y (⟨A1,y.shelf.length,c1⟩,⟨A2,n2,c2⟩) w x W fH.out hX (HR.out W hW)
 have CD:=Bq (Sg y.shelf[i] A9 y.shelf[i].length c9 Fx 252 w.heap.size (fun e=>!E0 y e) (Nk func252 Bm Bm) w2.drew kR
  (fun W x hW=>kH W x (kC.trans (hW.below kC.size (fun z hz=>by have:=cZ.out _ (Bf _ (bJ _ hz));omega))) (Xd.chg hW hXn))
  (P9 252 w (fun e=>!E0 y e) (Nk func252 Bm Bm) y.shelf[i] A9 y.shelf[i].length c9 w2.drew kR (Qv kS).rd (fun W x hW=>kH W x (kC.trans (hW.mono kC.size)) (Xd.below hW)))
  (Qv kS))
 clear kH fH;refine Db (fun w'=>w'.cell? ⟨ob,2,Ab⟩=Ac (Aa (Ac ⟨g,o,Ab⟩) y.shelf.length e1)/\w'.cell? ⟨g,o+i,Ab⟩=Ac (Aa A9 y.shelf[i].length c9)) 11 Bm ?_ (fun hHeld=>?_)
 ·exact ⟨OB_2,ck⟩
 refine aT 0 hHeld ?_;try simp only [pS]
 refine aT 1 hHeld ?_;try simp only [pS]
 refine aT 2 hHeld ?_;try simp only [pS]
 refine aT 3 hHeld ?_;try simp only [pS]
 refine aT 4 hHeld ?_;try simp only [pS]
 refine aT 5 hHeld ?_;try simp only [pS]
 refine aT 6 hHeld ?_;try simp only [pS]
 refine aT 7 hHeld ?_;try simp only [pS]
 refine aT 8 hHeld ?_;try simp only [pS]
 refine oT 9 (fun K hK=>?_)
 (go_simp;refine CD.out.mono ?_;rintro e7 wa ⟨k9,F',rfl,hH,eM,hC⟩)
 have fX:g<w2.drew:=os.lt g eY;have gD:ob<w2.drew:=OB.lt;have pA:ob∉Fx:=fun hx=>cW (Bf _ (bJ _ hx));have eH:ob≠g:=fun e=>cW (by rw [e];exact Bf _ eY);have hgn:=cZ.out g (Bf _ eY);have sD:=(hC.cell (p:=⟨ob,2,Ab⟩) gD pA).trans hHeld.1;have ck2:=(hC.cell (p:=⟨g,_,Ab⟩) fX kJ).trans ck;have hgf2:∀ j,wa.frozen? ⟨g,j,Ab⟩=false:=fun j=>(hC.frozen (p:=⟨g,_,Ab⟩) fX kJ).trans (fZ j);refine hK.out _ _ (fun _=>⟨sD,ck2⟩) ?_;clear hK K;try simp only [pS]
 refine oT 10 (fun K hK=>?_);go_simp;refine hK.out _ _ (fun _=>⟨sD,ck2⟩) ?_;clear hK K;try simp only [pS]
 have hga:=hC.size;refine oT 11 (fun K hK=>?_);go_simp;refine hK.out _ _ (fun aC=>absurd rfl aC) ?_;clear hK K hHeld;try simp only [pS]
 refine D6 Bm ?_ _;obtain ⟨F3,o3,tE,rV⟩:=cR wa (y.shelf[i].filter fun x=>!!E0 y x) ⟨A9,k9,c9⟩ F' hC (Xt hH) eM;have fP:Hz wa g (o+i * (Dt.list Bx).enc.sz) ((Dt.list Bx).enc.cells ((y.shelf[i].filter fun x=>!!E0 y x),(⟨A9,k9,c9⟩:Sl)))=wa.setCell ⟨g,o+i,Ab⟩ (Aa A9 k9 c9):=by
  show Hz wa g (o+i * 1) [Aa A9 k9 c9]=_;rw [Nat.mul_one];rfl
 rw [fP] at o3;have hd12:∀ x∈F1,x∉F2:=fun x hx hx2=>(Ax.1 bT).2.2 x hx x hx2 rfl;have hS:=Chg.setCell wa g (o+i) (Aa A9 k9 c9);have aS:=Bq (show ∀ x,x∈[g]->x=g from fun x hx=>by simpa using hx);have orr3:=((orr.below bd).chg hC (fun x hx hx2=>hd12 x (bJ x hx2) hx)).chg hS (fun x hx hx2=>by have:=aS.out x hx2;subst this;exact hd12 x eY hx);have hX3:w.heap.size+1∉Fx:=fun hx=>by have:=cZ.out _ (Bf _ (bJ _ hx));omega
 have RES3:=((RES.below bd).chg hC hX3).chg hS (fun hx=>by have:=aS.out _ hx;omega);have OB3:=((OB.below bd).chg hC pA).chg hS (fun hx=>eH (aS.out _ hx));have B3:=(kC.trans (hC.below kC.size (fun z hz=>by have:=cZ.out _ (Bf _ (bJ _ hz));omega))).trans (hS.below (base:=w) (by have:=kC.size;omega) (fun x hx=>by have:=aS.out x hx;omega));have oyF:Bv.ow (wa.setCell ⟨g,o+i,Ab⟩ (Aa A9 k9 c9)) (F3 ++ F2) (Cb y i) (⟨Ac ⟨g,o,Ab⟩,y.shelf.length,e1⟩,⟨B2,m2,e2⟩):=by
  refine ⟨F3,F2,rfl,?_,?_,orr3⟩
  ·rw [Ax] at bT ⊢;exact ⟨o3.nodup,bT.2.1,fun a ha b hb e=>hd12 a (tE a ha) (by rw [e];exact hb)⟩
  ·have hE:(Cb y i).shelf=y.shelf.set i (y.shelf[i].filter fun x=>!!E0 y x):=by
    show y.shelf.set i ((y.shelf.getD i []).filter fun e=>E0 y e)=_;rw [List.getD_eq_getElem?_getD,List.getElem?_eq_getElem hi];simp
   show OwL (Dt.list Bx) _ F3 (Aa (Ac ⟨g,o,Ab⟩) y.shelf.length e1) (Cb y i).shelf;rw [hE];exact o3
 have mK:∀ x∈F3 ++ F2,w+1<x:=fun x hx=>by
  rcases Bi.1 hx with hx | hx
  ·exact cZ.out x (Bf _ (tE x hx))
  ·exact cZ.out x (List.mem_append_right _ hx)
 have mK:=Bq mK;clear o3 tE rV cR hC hH eM CD os orr orr3 kS aN ck ck2 sD hgf2 fZ hd12 bJ cZ hX3 hS RES X Xd B0 kC bd;clear OB_0 OB_1 OB_2 OB_3 OB_l;clear OB;generalize wa.setCell ⟨g,o+i,Ab⟩ (Aa A9 k9 c9)=w6 at *
 have OB:=OB3;have RES:=RES3;obtain ⟨OB_0,OB_1,OB_2,OB_3,OB_l⟩:=OB.g4;have RES_:=RES.g4;have rf:=RES.free;go_wp2;have en1:w.heap.size+1∉F3 ++ F2:=fun hx=>by have:=mK.out _ hx;omega
 refine Aj (Adu (DBox.row4 RES rfl _ _ _ _)) rfl ⟨(⟨Ac ⟨g,o,Ab⟩,y.shelf.length,e1⟩,⟨B2,m2,e2⟩),F3 ++ F2,rfl,Bv.set4 (F:=F3 ++ F2) (x:=Cb y i) (s:=(⟨Ac ⟨g,o,Ab⟩,y.shelf.length,e1⟩,⟨B2,m2,e2⟩)) oyF en1,fun x hx=>by have:=mK.out x hx;omega,?_⟩;repeat (first | (with_reducible exact B3) | refine Ad ?_ Bo _)
section
def Jn (k n:Nat):List (Nat×Nat):=(List.range n).map fun t=>(k,t)
def Hx (y:Yard) (k:Nat):List (Nat×Nat):=(List.range k).flatMap fun j=>Jn j (Ha y j).tasks.length
theorem Sm (k n:Nat):Jn k (n+1)=Jn k n ++ [(k,n)]:=by
 unfold Jn;rw [List.range_succ,List.map_append];rfl
theorem Ok (y:Yard) (k:Nat):Hx y (k+1)=Hx y k ++ Jn k (Ha y k).tasks.length:=by
 unfold Hx;rw [List.range_succ,List.flatMap_append];simp
open Classical in
noncomputable def L9 (y:Yard):Yard:=if Dh y then Fe y (Hx y y.runs.length) else y
theorem Sn {b:Nat} {w:World} {u0 u1 u2 u3:Value} (X:DBox b [u0,u1,u2,u3] w) {v0 v1:Value} {rest:List Value} :
  (results Tryz.f130 (v0 :: v1 :: .pointer (Ac ⟨b,0,Ab⟩) :: rest).toArray).run Am w = .ok (.agg #[u0,u1,u2,u3]) w:=by
 have c0:=X.cell 0 _ rfl;have c1:=X.cell 1 _ rfl;have c2:=X.cell 2 _ rfl;have c3:=X.cell 3 _ rfl;simp [results,results130,go_sem,c0,c1,c2,c3]
theorem Tk (y:Yard) (s:Sl×Sl) (w:World) (hl:Ca y<=2000000) (h:Bv.rd w w y s) :
  Calls Am 130 #[Dm y s] w (Df Bv Dm (L9 y) w):=by
 have HR:=Bq (show ∀ W,Below w w W->Bv.rd W W y s from fun W hW=>Bv.rd_more (Bv.rd_below h hW) hW.size);obtain ⟨⟨A1,n1,c1⟩,⟨A2,n2,c2⟩⟩:=s;have CC:=Bq (fun W hW=>El y (⟨A1,n1,c1⟩,⟨A2,n2,c2⟩) W hl (HR.out W hW));have CY:=Bq (fun W hW=>Fz y (⟨A1,n1,c1⟩,⟨A2,n2,c2⟩) W hl (HR.out W hW));clear h;obtain ⟨W,aH,X,RES,B0⟩:=bx2 w 27 [J U y.now,J U y.seq,Aa A1 n1 c1,Aa A2 n2 c2] 27 [J U 0,J U 0,Aa Ab 0 0,Aa Ab 0 0];go_enter func130,ntmps130;go_wp2_with fail
 rw [<-aH.out];clear aH;have dP:w.heap.size+1<W.heap.size:=RES.lt;refine (CC.out _ B0).mono ?_;rintro e1 w1 ⟨⟨⟨B1,m1,e1⟩,⟨B2,m2,e2⟩⟩,F,rfl,oy,nF,b1⟩;have bS:=b1.size;have cE:=Bv.ow_lt (F:=F) (x:=y) (s:=(⟨B1,m1,e1⟩,⟨B2,m2,e2⟩)) oy;replace X:=X.below b1;replace RES:=RES.below b1;replace B0:=Bu B0 b1;clear b1;go_upto_region 2 with fail
 have OB:=DBox.new 27 [J U y.now,J U y.seq,Aa B1 m1 e1,Aa B2 m2 e2] w1 (b:=w1) rfl;have b2:Below w1 w1 (w1.alloc (.cells #[J U y.now,J U y.seq,Aa B1 m1 e1,Aa B2 m2 e2] 27)):=Bt;replace X:=X.below b2;replace RES:=RES.below b2;replace oy:=Bv.ow_below (F:=F) (x:=y) (s:=(⟨B1,m1,e1⟩,⟨B2,m2,e2⟩)) oy b2;replace B0:=Bu B0 b2;have ow1:=OB.lt;clear b2;generalize w1.alloc (.cells #[J U y.now,J U y.seq,Aa B1 m1 e1,Aa B2 m2 e2] 27)=w2 at *
 generalize cW:w1.heap.size=ob at *
 have X_:=X.g4;obtain ⟨OB_0,OB_1,OB_2,OB_3,OB_l⟩:=OB.g4;go_wp2_with fail
 refine (CY.out _ B0).mono ?_;rintro e1 w3 ⟨rfl,b3⟩;clear X_;clear OB_0 OB_1 OB_2 OB_3 OB_l;replace X:=X.below b3;replace OB:=OB.below b3;replace RES:=RES.below b3;replace oy:Bv.ow w3 F y (⟨B1,m1,e1⟩,⟨B2,m2,e2⟩):=owB oy b3;replace B0:=Bu B0 b3;clear b3;have X_:=X.g4;obtain ⟨OB_0,OB_1,OB_2,OB_3,OB_l⟩:=OB.g4;by_cases p0:Dh y;case neg =>
  rw [Ci p0];have H2:=Bq (show L9 y=y from if_neg p0);clear p0;have RES_:=RES.g4;have rf:=RES.free;go_wp2;have en1:w.heap.size+1∉F:=fun hx=>by have:=nF _ hx;omega
  refine Aj (Sn (DBox.row4 RES rfl _ _ _ _)) rfl ⟨(⟨B1,m1,e1⟩,⟨B2,m2,e2⟩),F,by rw [H2.out],by rw [H2.out];exact (by (repeat (refine Dt.ow_set Bv ?_ en1 _));exact (show Bv.ow _ F y (⟨B1,m1,e1⟩,⟨B2,m2,e2⟩) from oy)),fun x hx=>by have:=nF x hx;omega,?_⟩;repeat (first | (with_reducible exact B0) | refine Ad ?_ Bo _)
 rw [Dp p0];have P0:=Bq p0;have H2:=Bq (show L9 y=Fe y (Hx y y.runs.length) from if_pos p0);clear p0;have jW:ob<w3:=OB.lt;have hB3:=B0.size;have fP:w.heap.size+1<w3.heap.size:=Bl;have rE:y.runs.length<=8:=P0.out.2.2.2.2.2.2.1;have gB:Hid ((∀ x∈F,w+1<x)/\ob∉F/\True):=⟨fun x hx=>by have:=nF x hx;omega,fun hx=>by have:=cE _ hx;omega,trivial⟩
 clear X_;clear OB_0 OB_1 OB_2 OB_3 OB_l;clear X HR CC CY nF cE;go_wp2;go_loopw [4] (fun iv wr=>∃ (k:Nat) (Z:Yard) (s:Sl×Sl) (F:List Nat),k<=y.runs.length/\iv = J U k/\Hid (Trn y (12 * k) Z)/\Hid (Fe y (Hx y k)=Z)/\Hid (Bv.ow wr F Z s)/\Hid ((∀ x∈F,w+1<x)/\ob∉F/\True)/\DBox ob (Gv Z s) wr/\DBox (w+1) [J U 0,J U 0,Aa Ab 0 0,Aa Ab 0 0] wr/\Below w w wr/\w3.heap.size<=wr.heap.size) (fun i _=>y.runs.length - (intOf i).toNat);case atStart=>exact ⟨0,y,(⟨B1,m1,e1⟩,⟨B2,m2,e2⟩),F,Ag _,rfl,Trn.start P0.out,rfl,oy,gB,OB,RES,B0,Bs _⟩
 case round =>
  clear oy gB OB RES B0;obtain ⟨k,Z,s,F,hk,rfl,hT,hZ,oy,hF,OB,RES,hb,mD⟩:=hrel;obtain ⟨⟨B1,m1,e1⟩,⟨B2,m2,e2⟩⟩:=s;have eQ:=Bq (show m2=y.runs.length from (RdL.at1 (s:=⟨B2,m2,e2⟩) (Bv.ow_rd oy.out).2).trans hT.out.len);obtain ⟨OB_0,OB_1,OB_2,OB_3,OB_l⟩:=OB.g4;by_cases aA:k<y.runs.length
  ·have aB:(k:Int)<(m2:Int):=by have:=eQ.out;omega
   have cL:(0:Int)<=(k:Int):=Bl;go_wp2;go_loopw [5] (fun iv wr=>∃ (t:Nat) (Z:Yard) (s:Sl×Sl) (F:List Nat),t<=y.runs[k].tasks.length/\iv = J U t/\Hid (Trn y (12 * k+t) Z)/\Hid (Fe y (Hx y k ++ Jn k t)=Z)/\Hid (Bv.ow wr F Z s)/\Hid ((∀ x∈F,w+1<x)/\ob∉F/\True)/\DBox ob (Gv Z s) wr/\DBox (w+1) [J U 0,J U 0,Aa Ab 0 0,Aa Ab 0 0] wr/\Below w w wr/\w3.heap.size<=wr.heap.size) (fun i _=>y.runs[k].tasks.length - (intOf i).toNat);case atStart=>exact ⟨0,Z,(⟨B1,m1,e1⟩,⟨B2,m2,e2⟩),F,Ag _,rfl,hT,by rw [show Jn k 0=[] from rfl,List.append_nil];exact hZ,oy,hF,OB,RES,hb,mD⟩
   case round =>
    clear OB_0 OB_1 OB_2 OB_3 OB_l;clear oy hF OB RES hb mD hT hZ eQ aB;obtain ⟨t,Z,s,F,ht,rfl,hT,hZ,oy,hF,OB,RES,hb,mD⟩:=hrel;obtain ⟨⟨B1,m1,e1⟩,⟨B2,m2,e2⟩⟩:=s;replace oy:Bv.ow wr F Z (⟨B1,m1,e1⟩,⟨B2,m2,e2⟩):=oy.out;have bV:∀ x∈F,x<wr:=Bv.ow_lt (F:=F) (x:=Z) (s:=(⟨B1,m1,e1⟩,⟨B2,m2,e2⟩)) oy;have fI:=(D7 (Eo P0.out aA)).2;have eE:k<Z.runs.length:=by rw [hT.out.len];exact aA
    have fT:=hT.out.run k eE aA;have oyr:=(Bv.ow_rd (F:=F) (x:=Z) (s:=(⟨B1,m1,e1⟩,⟨B2,m2,e2⟩)) oy).2;have eQ:=Bq (show m2=Z.runs.length from RdL.at1 (s:=⟨B2,m2,e2⟩) oyr);have gL:(k:Int)<(m2:Int):=by have:=eQ.out;omega
    obtain ⟨gr,orr,⟨sk1,⟨tka,tkn,tkc⟩⟩,rfl,dQ,dF,c0,c1,c2,c3,c4,c5,c6,c7⟩:=RdL.run (show RdL Ce wr wr.heap.size (Aa B2 m2 e2) Z.runs from oyr) eE;have nV:=Bq (show tkn=Z.runs[k].tasks.length from RdL.at1 (s:=⟨tka,tkn,tkc⟩) dF.2);have bG:=Bq fT.2.2;have bQ:=Bq fT.1;clear fT oyr;obtain ⟨OB_0,OB_1,OB_2,OB_3,OB_l⟩:=OB.g4;by_cases aZ:t<y.runs[k].tasks.length
    ·have jR:(t:Int)<(tkn:Int):=by have:=nV.out;have:=bG.out;omega
     have gM:(0:Int)<=(t:Int):=Bl;have kA:t<Z.runs[k].tasks.length:=by have:=bG.out;omega
     have hN:=Bq (hT.out.fail eE kA);have aE:Hid (Fe y (Hx y k ++ Jn k (t+1))=Gi Z k t):=by
      show Fe y (Hx y k ++ Jn k (t+1))=_;rw [Sm,<-List.append_assoc];unfold Fe;rw [List.foldl_append,<-hZ.out];rfl
     obtain ⟨gt,ot,_,rfl,hgt,_,d0,d1,d2,d3⟩:=RdL.task (show RdL C7 wr wr.heap.size (Aa tka tkn tkc) Z.runs[k].tasks from dF.2) kA;have hJ:=Bq (show Cv (Ha Z k) t=Z.runs[k].tasks[t] by rw [Ex eE,Cu kA]);have hJ2:=Bq (Ex eE);clear d1 d2 d3;generalize mJ:Z.runs[k]=r at *
     replace mJ:=Bq mJ;by_cases q:r.tasks[t].state=3;case neg =>
      have q1:(r.tasks[t].state == 3)=false:=by simp [q]
      have bK:=Bq (show Gi Z k t=Z from Ln (by rw [hJ.out];exact q));clear q;go_wp2;exact ⟨⟨t+1,Z,(⟨B1,m1,e1⟩,⟨Ac ⟨gr,orr,Ab⟩,m2,e2⟩),F,aZ,by go_num,by rw [bK.out] at hN;exact hN,aE.out.trans bK.out,oy,hF,OB,RES,hb,mD⟩,by simp [intOf];omega⟩
     have q1:(r.tasks[t].state == 3)=true:=by simp [q]
     have aP:Hid (Is r t):=⟨bQ.out,⟨Bl,Bl⟩,by rw [Ao,Cu kA];exact q⟩
     have bK:=Bq (show Gi Z k t=Gd Z k (Dn r t) by rw [Ku (by rw [hJ.out];exact q),hJ2.out]);have CF:=Bq (Mm r (sk1,⟨Ac ⟨gt,ot,Ab⟩,tkn,tkc⟩) t wr.drew (by have:=Kr bQ.out;omega) aP.out (Ce.rd_below dF (Br _ _).drew));have gD:=OB.lt;clear q dF;go_wp2;refine Db (fun w'=>w'.cell? ⟨ob,0,Ab⟩=Ac (J U Z.now)/\w'.cell? ⟨ob,1,Ab⟩=Ac (J U Z.seq)/\w'.cell? ⟨ob,2,Ab⟩=Ac (Aa B1 m1 e1)/\w'.cell? ⟨ob,3,Ab⟩=Ac (Aa (Ac ⟨gr,orr,Ab⟩) m2 e2)) 10 Bm ?_ (fun hHeld=>?_)
     ·exact ⟨OB_0,OB_1,OB_2,OB_3⟩
     refine aT 0 hHeld ?_;try simp only [pS]
     refine aT 1 hHeld ?_;try simp only [pS]
     refine aT 2 hHeld ?_;try simp only [pS]
     refine aT 3 hHeld ?_;try simp only [pS]
     refine aT 4 hHeld ?_;try simp only [pS]
     refine aT 5 hHeld ?_;try simp only [pS]
     refine aT 7 hHeld ?_;try simp only [pS]
     refine oT 6 (fun K hK=>?_);go_simp;refine hK.out _ _ (fun _=>?_) ?_
     ·exact ⟨OB_0,OB_1,OB_2,OB_3⟩
     clear hK K;try simp only [pS]
     refine oT 8 (fun K hK=>?_)
     (go_simp;refine CF.out.mono ?_;rintro e5 wa ⟨sr,Fr,rfl,orn,nFr,ba⟩;have nW:∀ x∈Fr,wr<=x:=nFr;have oya:Bv.ow wa F Z (⟨B1,m1,e1⟩,⟨Ac ⟨gr,orr,Ab⟩,m2,e2⟩):=owB oy (Bu (Br _ _).drew ba);have CT:=Bq (Le Z (⟨B1,m1,e1⟩,⟨Ac ⟨gr,orr,Ab⟩,m2,e2⟩) k (Dn r t) sr wa F Fr hT.out.four (fun s hs=>by have:=hT.out.all s hs;omega) (by have:=hT.out.seq;omega) eE (by rw [Ic];have:=D7 bQ.out;omega) (by rw [mJ.out];have:=D7 bQ.out;omega) oya orn (fun x hx bJ=>by have h1:=nW x hx;have h2:=bV x bJ;omega)))
     refine hK.out _ _ (fun _=>?_) ?_
     ·exact ⟨(ba.cell (p:=⟨_,_,Ab⟩) (by show ob<wr;omega)).trans OB_0,(ba.cell (p:=⟨_,_,Ab⟩) (by show ob<wr;omega)).trans OB_1,(ba.cell (p:=⟨_,_,Ab⟩) (by show ob<wr;omega)).trans OB_2,(ba.cell (p:=⟨_,_,Ab⟩) (by show ob<wr;omega)).trans OB_3⟩
     clear hK K;try simp only [pS]
     refine oT 9 (fun K hK=>?_)
     (go_simp;refine CT.out.mono ?_;rintro e6 wb ⟨s6,F6,rfl,oy6,n6,cb⟩;have OB6:=(OB.below (Bu (Br _ _).drew ba)).chg cb hF.out.2.1;have q0:=OB6.cell 0 _ rfl;have q1:=OB6.cell 1 _ rfl;have q2:=OB6.cell 2 _ rfl;have q3:=OB6.cell 3 _ rfl;have qf:=OB6.free;have ql:=OB6.lt;generalize Gd Z k (Dn r t)=Z1 at *)
     refine hK.out _ _ (fun _=>?_) ?_
     ·exact ⟨q0,q1,q2,q3⟩
     clear hK K;try simp only [pS]
     refine oT 10 (fun K hK=>?_);go_simp;refine hK.out _ _ (fun aC=>absurd rfl aC) ?_;clear hK K;try simp only [pS]
     refine D6 Bm ?_ _;have ba':Below wr wr wa:=Bu (Br _ _).drew ba;have hbas:=ba'.size;have hcbs:=cb.size;have kB:=OB.lt;have hRl7:=RES.lt;have cK:=Chg.cells4 wb ob 0 1 2 3 (J U Z1.now) (J U Z1.seq) (Aa s6.1.a s6.1.n s6.1.c) (Aa s6.2.a s6.2.n s6.2.c);have dY:=Bq (show ∀ x,x∈[ob]->x=ob from fun x hx=>by simpa using hx);have OB7:=DBox.row4 OB6 rfl (J U Z1.now) (J U Z1.seq) (Aa s6.1.a s6.1.n s6.1.c) (Aa s6.2.a s6.2.n s6.2.c);have RES7:=((RES.below ba').chg cb (fun hx=>by have:=hF.out.1 _ hx;omega)).chg cK (fun hx=>by have:=dY.out _ hx;omega);have sF:=((Bu hb ba').trans (cb.below (by have:=(Bu hb ba').size;omega) (fun x hx=>by have:=hF.out.1 x hx;omega))).trans (cK.below (by have:=hb.size;omega) (fun x hx=>by have:=dY.out x hx;omega));have mU:∀ x∈F6,x∈F\/wr<=x:=fun x hx=>by
      rcases n6 x hx with h | h | h
      ·exact .inl h
      ·exact .inr (nW x h)
      ·exact .inr Bl
     have nM:ob∉F6:=fun hx=>by
      rcases mU _ hx with h | h
      ·exact hF.out.2.1 h
      ·omega
     have oy7:=Bv.ow_chg (F:=F6) (x:=Z1) (s:=s6) oy6 cK (fun x hx h=>by have:=dY.out x h;subst this;exact nM hx);have mE:Hid ((∀ x∈F6,w+1<x)/\ob∉F6/\True):=⟨fun x hx=>by
      rcases mU x hx with h | h
      ·exact hF.out.1 x h
      ·have:=hRl7;omega,nM,trivial⟩
     have hw7:=Ah mD (Ah (Ah hbas hcbs) cK.size);clear hHeld q0 q1 q2 q3 qf ql OB6 oy6 CT CF oya orn nFr n6 ba cb;clear OB_0 OB_1 OB_2 OB_3 OB_l;clear OB;generalize (((wb.setCell ⟨ob,0,Ab⟩ (J U Z1.now)).setCell ⟨ob,1,Ab⟩ (J U Z1.seq)).setCell ⟨ob,2,Ab⟩ (Aa s6.1.a s6.1.n s6.1.c)).setCell ⟨ob,3,Ab⟩ (Aa s6.2.a s6.2.n s6.2.c)=w7 at *
     go_wp2;exact ⟨⟨t+1,Z1,s6,F6,aZ,by go_num,by rw [<-bK.out];exact hN,aE.out.trans bK.out,oy7,mE,OB7,RES7,sF,hw7⟩,by simp [intOf];omega⟩
    ·have jR:¬ (t:Int)<(tkn:Int):=by have:=nV.out;have:=bG.out;omega
     have hS:=Bq (show Fe y (Hx y (k+1))=Z by
      rw [Ok,show (Ha y k).tasks.length=t by rw [Ex aA];omega];exact hZ.out)
     have hM:=Bq (show Trn y (12 * (k+1)) Z from hT.out.mono Bl);go_wp2;exact ⟨⟨k+1,Z,(⟨B1,m1,e1⟩,⟨Ac ⟨gr,orr,Ab⟩,m2,e2⟩),F,Bl,by go_num,hM,hS,oy,hF,OB,RES,hb,mD⟩,by simp [intOf];omega⟩
  ·have aB:¬ (k:Int)<(m2:Int):=by have:=eQ.out;omega
   have hkk:k=y.runs.length:=Bl;have H3:=Bq (show L9 y=Z by rw [H2.out,<-hZ.out,hkk]);clear hkk;replace oy:Bv.ow wr F Z (⟨B1,m1,e1⟩,⟨B2,m2,e2⟩):=oy.out;have rf:=RES.free;have RES_:=RES.g4;go_wp2;have en1:w.heap.size+1∉F:=fun hx=>by have:=hF.out.1 _ hx;omega
   refine Aj (Sn (DBox.row4 RES rfl _ _ _ _)) rfl ⟨(⟨B1,m1,e1⟩,⟨B2,m2,e2⟩),F,by rw [H3.out],by rw [H3.out];exact (by (repeat (refine Dt.ow_set Bv ?_ en1 _));exact (show Bv.ow _ F Z (⟨B1,m1,e1⟩,⟨B2,m2,e2⟩) from oy)),fun x hx=>by have:=hF.out.1 x hx;omega,?_⟩;repeat (first | (with_reducible exact hb) | refine Ad ?_ Bo _)
end
theorem Mg {b:Nat} {w:World} {u0 u1 u2 u3:Value} (X:DBox b [u0,u1,u2,u3] w) {v0 v1 v2 v3 v5:Value} {rest:List Value} :
  (results Tryz.f116 (v0 :: v1 :: v2 :: v3 :: .pointer (Ac ⟨b,0,Ab⟩) :: v5 :: rest).toArray).run Am w = .ok (.tuple #[.agg #[u0,u1,u2,u3],v5]) w:=by
 have c0:=X.cell 0 _ rfl;have c1:=X.cell 1 _ rfl;have c2:=X.cell 2 _ rfl;have c3:=X.cell 3 _ rfl;simp [results,results116,go_sem,c0,c1,c2,c3]
theorem V2 (y:Yard) (s:Sl×Sl) (id:Int) (w:World) (hl:Ca y<=2000000) (h:Bv.rd w w y s) :
  Calls Am 116 #[Dm y s,J U id] w (Ij (Io y id) (Im y id) w):=by
 have HR:=Bq (show ∀ W,Below w w W->Bv.rd W W y s from fun W hW=>Bv.rd_more (Bv.rd_below h hW) hW.size);obtain ⟨⟨A1,n1,c1⟩,⟨A2,n2,c2⟩⟩:=s;have CC:=Bq (fun W hW=>Ev y (⟨A1,n1,c1⟩,⟨A2,n2,c2⟩) W hl (HR.out W hW));have CY:=Bq (fun W hW=>Fw y (⟨A1,n1,c1⟩,⟨A2,n2,c2⟩) W hl (HR.out W hW));have CA:=Bq (fun W hW=>E9 y (⟨A1,n1,c1⟩,⟨A2,n2,c2⟩) id W hl (HR.out W hW));have CX:=Bq (fun W hW=>show RdL Ce W W.heap.size (Aa A2 n2 c2) y.runs from (HR.out W hW).2);clear h HR;obtain ⟨W,aH,X,RES,B0⟩:=bx2 w 27 [J U y.now,J U y.seq,Aa A1 n1 c1,Aa A2 n2 c2] 27 [J U 0,J U 0,Aa Ab 0 0,Aa Ab 0 0];go_enter func116,ntmps116;go_wp2_with fail
 rw [<-aH.out];clear aH;have dP:w.heap.size+1<W.heap.size:=RES.lt;refine (CC.out _ B0).mono ?_;rintro e1 w1 ⟨⟨⟨B1,m1,e1⟩,⟨B2,m2,e2⟩⟩,F,rfl,oy,nF,b1⟩;have bS:=b1.size;have cE:=Bv.ow_lt (F:=F) (x:=y) (s:=(⟨B1,m1,e1⟩,⟨B2,m2,e2⟩)) oy;replace X:=X.below b1;replace RES:=RES.below b1;replace B0:=Bu B0 b1;clear b1;go_upto_region 2 with fail
 have OB:=DBox.new 27 [J U y.now,J U y.seq,Aa B1 m1 e1,Aa B2 m2 e2] w1 (b:=w1) rfl;have b2:Below w1 w1 (w1.alloc (.cells #[J U y.now,J U y.seq,Aa B1 m1 e1,Aa B2 m2 e2] 27)):=Bt;replace X:=X.below b2;replace RES:=RES.below b2;replace oy:=Bv.ow_below (F:=F) (x:=y) (s:=(⟨B1,m1,e1⟩,⟨B2,m2,e2⟩)) oy b2;replace B0:=Bu B0 b2;have ow1:=OB.lt;clear b2;generalize w1.alloc (.cells #[J U y.now,J U y.seq,Aa B1 m1 e1,Aa B2 m2 e2] 27)=w2 at *
 generalize cW:w1.heap.size=ob at *
 obtain ⟨X_0,X_1,X_2,X_3,X_l⟩:=X.g4;obtain ⟨OB_0,OB_1,OB_2,OB_3,OB_l⟩:=OB.g4;go_wp2_with fail
 refine (CA.out _ B0).mono ?_;rintro e1 w3 ⟨rfl,b3⟩;clear X_0 X_1 X_2 X_3 X_l;clear OB_0 OB_1 OB_2 OB_3 OB_l;replace X:=X.below b3;replace OB:=OB.below b3;replace RES:=RES.below b3;replace oy:Bv.ow w3 F y (⟨B1,m1,e1⟩,⟨B2,m2,e2⟩):=owB oy b3;replace B0:=Bu B0 b3;clear b3;obtain ⟨X_0,X_1,X_2,X_3,X_l⟩:=X.g4;obtain ⟨OB_0,OB_1,OB_2,OB_3,OB_l⟩:=OB.g4;go_wp2_with fail
 refine (CY.out _ B0).mono ?_;rintro e1 w4 ⟨rfl,b4⟩;clear X_0 X_1 X_2 X_3 X_l;clear OB_0 OB_1 OB_2 OB_3 OB_l;replace X:=X.below b4;replace OB:=OB.below b4;replace RES:=RES.below b4;replace oy:Bv.ow w4 F y (⟨B1,m1,e1⟩,⟨B2,m2,e2⟩):=owB oy b4;replace B0:=Bu B0 b4;clear b4;obtain ⟨X_0,X_1,X_2,X_3,X_l⟩:=X.g4;obtain ⟨OB_0,OB_1,OB_2,OB_3,OB_l⟩:=OB.g4;by_cases p0:Dh y;case neg =>
  rw [Ci p0];have H:=Bq (show Im y id=8 by unfold Im;rw [if_pos p0]);have H2:=Bq (show Io y id=y by unfold Io;rw [H.out,if_neg Bp]);have RES_:=RES.g4;have rf:=RES.free;go_wp2;have en1:w.heap.size+1∉F:=fun hx=>by have:=nF _ hx;omega
  refine Aj (Mg (DBox.row4 RES rfl _ _ _ _)) rfl ⟨(⟨B1,m1,e1⟩,⟨B2,m2,e2⟩),F,by rw [H.out,H2.out],by rw [H2.out];exact (by (repeat (refine Dt.ow_set Bv ?_ en1 _));exact (show Bv.ow _ F y (⟨B1,m1,e1⟩,⟨B2,m2,e2⟩) from oy)),fun x hx=>by have:=nF x hx;omega,?_⟩;repeat (first | (with_reducible exact B0) | refine Ad ?_ Bo _)
 rw [Dp p0];have P0:=Bq p0;clear p0;by_cases p1:Dk y id<0;case pos =>
  have H:=Bq (show Im y id=10 by unfold Im;rw [if_neg (fun h=>h P0.out),if_pos p1]);have H2:=Bq (show Io y id=y by unfold Io;rw [H.out,if_neg Bp]);have RES_:=RES.g4;have rf:=RES.free;go_wp2;have en1:w.heap.size+1∉F:=fun hx=>by have:=nF _ hx;omega
  refine Aj (Mg (DBox.row4 RES rfl _ _ _ _)) rfl ⟨(⟨B1,m1,e1⟩,⟨B2,m2,e2⟩),F,by rw [H.out,H2.out],by rw [H2.out];exact (by (repeat (refine Dt.ow_set Bv ?_ en1 _));exact (show Bv.ow _ F y (⟨B1,m1,e1⟩,⟨B2,m2,e2⟩) from oy)),fun x hx=>by have:=nF x hx;omega,?_⟩;repeat (first | (with_reducible exact B0) | refine Ad ?_ Bo _)
 rcases Ez y id with hr | ⟨k,hk,hr⟩
 ·exact absurd hr Bl
 have HK:=Bq (Gy hk hr);have HR2:=Bq hr;rw [hr];clear hr p1;have P1:=Bq (show ¬ Dk y id<0 by have:=HR2.out;omega);have gL:(k:Int)<(n2:Int):=by have:=RdL.at1 (s:=⟨A2,n2,c2⟩) (CX.out _ B0);dsimp only at this;omega
 have cL:(0:Int)<=(k:Int):=Bl;have hkn:¬ (k:Int)<0:=Bl;have bQ:=Bq (Eo P0.out hk);obtain ⟨gx,ox,sk,rfl,kJ,dF,c0,c1_,c2_,c3_,c4_,c5_,c6,c7_⟩:=(CX.out _ B0).run hk;by_cases p2:y.runs[k].state=1;case neg =>
  have q2:(y.runs[k].state != 1)=true:=by simp [p2]
  have H:=Bq (show Im y id=12 by unfold Im;rw [if_neg (fun h=>h P0.out),if_neg P1.out,if_pos (by rw [HK.out];exact p2)]);clear p2;have H2:=Bq (show Io y id=y by unfold Io;rw [H.out,if_neg Bp]);have RES_:=RES.g4;have rf:=RES.free;go_wp2;have en1:w.heap.size+1∉F:=fun hx=>by have:=nF _ hx;omega
  refine Aj (Mg (DBox.row4 RES rfl _ _ _ _)) rfl ⟨(⟨B1,m1,e1⟩,⟨B2,m2,e2⟩),F,by rw [H.out,H2.out],by rw [H2.out];exact (by (repeat (refine Dt.ow_set Bv ?_ en1 _));exact (show Bv.ow _ F y (⟨B1,m1,e1⟩,⟨B2,m2,e2⟩) from oy)),fun x hx=>by have:=nF x hx;omega,?_⟩;repeat (first | (with_reducible exact B0) | refine Ad ?_ Bo _)
 have q2:(y.runs[k].state != 1)=false:=by simp [p2]
 have H:=Bq (show Im y id=0 by unfold Im;rw [if_neg (fun h=>h P0.out),if_neg P1.out,if_neg (by rw [HK.out];exact fun h=>h p2)]);have H2:=Bq (show Io y id=⟨y.now,y.seq,y.shelf,y.runs.set k (Dx y.runs[k] 4)⟩ by unfold Io;rw [if_pos H.out,HK.out,HR2.out,Ao]);have P2:=Bq p2;clear p2;go_upto_region 9 with fail
 have oyr:=(Bv.ow_rd (F:=F) (x:=y) (s:=(⟨B1,m1,e1⟩,⟨B2,m2,e2⟩)) oy).2;have eQ:=Bq (show m2=y.runs.length from RdL.at1 (s:=⟨B2,m2,e2⟩) oyr);have gS:(k:Int)<(m2:Int):=by have:=eQ.out;omega
 obtain ⟨gr,orr,sk2,rfl,dQ,_,d0,d1,d2,d3,d4,d5,d6,d7⟩:=RdL.run (show RdL Ce w4 w4.heap.size (Aa B2 m2 e2) y.runs from oyr) hk;have gP:∀ i,w4.frozen? ⟨gr,i,Ab⟩=false:=by
  obtain ⟨G1,G2,_,_,_,os⟩:=oy;exact OwL.free0 (show OwL Ce w4 G2 (Aa (Ac ⟨gr,orr,Ab⟩) m2 e2) y.runs from os) Bl
 clear q2;generalize mJ:y.runs[k]=r at *
 have CSt:=Bq (Zm r sk w4.drew (by have:=Kr bQ.out;omega) bQ.out P2.out (Ce.rd_below dF (Br _ _).drew));have hobw5:ob<w4:=OB.lt;clear dF oyr mJ;go_wp2;have hXb5:=X.lt;refine Db (fun w'=>w'.cell? ⟨ob,3,Ab⟩=Ac (Aa (Ac ⟨gr,orr,Ab⟩) m2 e2)/\w'.cell? ⟨w,3,Ab⟩=Ac (Aa (Ac ⟨gx,ox,Ab⟩) n2 c2)/\w'.cell? ⟨gx,ox+k * 8,Ab⟩=Ac (J U r.id)/\w'.cell? ⟨gx,ox+k * 8+1,Ab⟩=Ac (J U r.plan.prio)/\w'.cell? ⟨gx,ox+k * 8+2,Ab⟩=Ac (J U r.plan.most)/\w'.cell? ⟨gx,ox+k * 8+3,Ab⟩=Ac (J U r.plan.wait)/\w'.cell? ⟨gx,ox+k * 8+4,Ab⟩=Ac (J U r.plan.tasks)/\w'.cell? ⟨gx,ox+k * 8+5,Ab⟩=Ac (Aa sk.1.a sk.1.n sk.1.c)/\w'.cell? ⟨gx,ox+k * 8+6,Ab⟩=Ac (J U r.state)/\w'.cell? ⟨gx,ox+k * 8+7,Ab⟩=Ac (Aa sk.2.a sk.2.n sk.2.c)) 10 Bm ?_ (fun hHeld=>?_)
 ·exact ⟨OB_3,X_3,c0,c1_,c2_,c3_,c4_,c5_,c6,c7_⟩
 refine aT 0 hHeld ?_;try simp only [pS]
 refine aT 1 hHeld ?_;try simp only [pS]
 refine aT 2 hHeld ?_;try simp only [pS]
 refine aT 3 hHeld ?_;try simp only [pS]
 refine aT 4 hHeld ?_;try simp only [pS]
 refine aT 5 hHeld ?_;try simp only [pS]
 refine aT 6 hHeld ?_;try simp only [pS]
 refine aT 7 hHeld ?_;try simp only [pS]
 refine oT 8 (fun K hK=>?_)
 (go_simp;refine CSt.out.mono ?_;rintro e9 w6 ⟨sr,Fr,rfl,orn,nr,b6⟩;have q0:w6.cell? ⟨gr,orr+k * 8,Ab⟩=Ac (J U r.id):=(b6.cell (p:=⟨_,_,Ab⟩) (by show gr<w4;omega)).trans d0;have q1:w6.cell? ⟨gr,orr+k * 8+1,Ab⟩=Ac (J U r.plan.prio):=(b6.cell (p:=⟨_,_,Ab⟩) (by show gr<w4;omega)).trans d1;have q2:w6.cell? ⟨gr,orr+k * 8+2,Ab⟩=Ac (J U r.plan.most):=(b6.cell (p:=⟨_,_,Ab⟩) (by show gr<w4;omega)).trans d2;have q3:w6.cell? ⟨gr,orr+k * 8+3,Ab⟩=Ac (J U r.plan.wait):=(b6.cell (p:=⟨_,_,Ab⟩) (by show gr<w4;omega)).trans d3;have q4:w6.cell? ⟨gr,orr+k * 8+4,Ab⟩=Ac (J U r.plan.tasks):=(b6.cell (p:=⟨_,_,Ab⟩) (by show gr<w4;omega)).trans d4;have q5:w6.cell? ⟨gr,orr+k * 8+5,Ab⟩=Ac (Aa sk2.1.a sk2.1.n sk2.1.c):=(b6.cell (p:=⟨_,_,Ab⟩) (by show gr<w4;omega)).trans d5;have q6:w6.cell? ⟨gr,orr+k * 8+6,Ab⟩=Ac (J U r.state):=(b6.cell (p:=⟨_,_,Ab⟩) (by show gr<w4;omega)).trans d6;have q7:w6.cell? ⟨gr,orr+k * 8+7,Ab⟩=Ac (Aa sk2.2.a sk2.2.n sk2.2.c):=(b6.cell (p:=⟨_,_,Ab⟩) (by show gr<w4;omega)).trans d7;have qf:∀ j,w6.frozen? ⟨gr,j,Ab⟩=false:=fun j=>(b6.frozen (p:=⟨_,_,Ab⟩) (by show gr<w4;omega)).trans (gP j))
 refine hK.out _ _ (fun _=>?_) ?_
 ·exact ⟨(b6.cell (p:=⟨_,_,Ab⟩) (by show ob<w4;omega)).trans OB_3,(b6.cell (p:=⟨_,_,Ab⟩) (by show w.heap.size<w4.heap.size;omega)).trans X_3,(b6.cell (p:=⟨_,_,Ab⟩) (by show gx<w4;omega)).trans c0,(b6.cell (p:=⟨_,_,Ab⟩) (by show gx<w4;omega)).trans c1_,(b6.cell (p:=⟨_,_,Ab⟩) (by show gx<w4;omega)).trans c2_,(b6.cell (p:=⟨_,_,Ab⟩) (by show gx<w4;omega)).trans c3_,(b6.cell (p:=⟨_,_,Ab⟩) (by show gx<w4;omega)).trans c4_,(b6.cell (p:=⟨_,_,Ab⟩) (by show gx<w4;omega)).trans c5_,(b6.cell (p:=⟨_,_,Ab⟩) (by show gx<w4;omega)).trans c6,(b6.cell (p:=⟨_,_,Ab⟩) (by show gx<w4;omega)).trans c7_⟩
 clear hK K;try simp only [pS]
 refine oT 9 (fun K hK=>?_);go_simp;refine hK.out _ _ (fun _=>?_) ?_
 ·exact ⟨(b6.cell (p:=⟨_,_,Ab⟩) (by show ob<w4;omega)).trans OB_3,(b6.cell (p:=⟨_,_,Ab⟩) (by show w.heap.size<w4.heap.size;omega)).trans X_3,(b6.cell (p:=⟨_,_,Ab⟩) (by show gx<w4;omega)).trans c0,(b6.cell (p:=⟨_,_,Ab⟩) (by show gx<w4;omega)).trans c1_,(b6.cell (p:=⟨_,_,Ab⟩) (by show gx<w4;omega)).trans c2_,(b6.cell (p:=⟨_,_,Ab⟩) (by show gx<w4;omega)).trans c3_,(b6.cell (p:=⟨_,_,Ab⟩) (by show gx<w4;omega)).trans c4_,(b6.cell (p:=⟨_,_,Ab⟩) (by show gx<w4;omega)).trans c5_,(b6.cell (p:=⟨_,_,Ab⟩) (by show gx<w4;omega)).trans c6,(b6.cell (p:=⟨_,_,Ab⟩) (by show gx<w4;omega)).trans c7_⟩
 clear hK K;try simp only [pS]
 refine oT 10 (fun K hK=>?_);go_simp;refine hK.out _ _ (fun aC=>absurd rfl aC) ?_;clear hK K;try simp only [pS]
 refine D6 Bm ?_ _;have b6':Below w4 w4 w6:=Bu (Br _ _).drew b6;have pP:=b6'.size;have mR:=B0.size;have pH:∀ x∈Fr,w4<=x:=nr;have jG:∀ x∈F,x<w4:=Bv.ow_lt (F:=F) (x:=y) (s:=(⟨B1,m1,e1⟩,⟨Ac ⟨gr,orr,Ab⟩,m2,e2⟩)) oy;have oy6:Bv.ow w6 F y (⟨B1,m1,e1⟩,⟨Ac ⟨gr,orr,Ab⟩,m2,e2⟩):=owB oy b6';obtain ⟨F8,oy8,kL,fK⟩:=Oh oy6 (k:=k) hk (r:=Dx r 4) (sr:=sr) orn (fun x hx bJ=>by have h1:=pH x hx;have h2:=jG x bJ;omega);have jH:Chg [gr] w6 ((((((((w6.setCell ⟨gr,orr+k * 8,Ab⟩ (J U (Dx r 4).id)).setCell ⟨gr,orr+k * 8+1,Ab⟩ (J U (Dx r 4).plan.prio)).setCell ⟨gr,orr+k * 8+2,Ab⟩ (J U (Dx r 4).plan.most)).setCell ⟨gr,orr+k * 8+3,Ab⟩ (J U (Dx r 4).plan.wait)).setCell ⟨gr,orr+k * 8+4,Ab⟩ (J U (Dx r 4).plan.tasks)).setCell ⟨gr,orr+k * 8+5,Ab⟩ (Aa sr.1.a sr.1.n sr.1.c)).setCell ⟨gr,orr+k * 8+6,Ab⟩ (J U (Dx r 4).state)).setCell ⟨gr,orr+k * 8+7,Ab⟩ (Aa sr.2.a sr.2.n sr.2.c)):=Iv (Ce.enc.cells (Dx r 4,sr)) w6 gr (orr+k * 8);have bR:=Bq (show ∀ x,x∈[gr]->x=gr from fun x hx=>by simpa using hx);have pF:=nF gr fK;have hgrl:=cE gr fK;clear OB_0 OB_1 OB_2 OB_3 OB_l;clear X_0 X_1 X_2 X_3 X_l;clear X c0 c1_ c2_ c3_ c4_ c5_ c6 c7_;replace OB:=(OB.below b6').chg jH (fun hx=>by have:=bR.out _ hx;omega);replace RES:=(RES.below b6').chg jH (fun hx=>by have:=bR.out _ hx;omega);replace B0:=(Bu B0 b6').trans (jH.below (by have:=(Bu B0 b6').size;omega) (fun x hx=>by have:=bR.out _ hx;omega));have en1:w.heap.size+1∉F8:=fun hx=>by
  rcases kL _ hx with h | h
  ·have:=nF _ h;omega
  ·have:=pH _ h;omega
 have mK:∀ x∈F8,w<=x:=fun x hx=>by
  rcases kL _ hx with h | h
  ·have:=nF _ h;omega
  ·have:=pH _ h;omega
 clear hHeld oy oy6 b6 b6' nr orn jH CSt d0 d1 d2 d3 d4 d5 d6 d7 gP q0 q1 q2 q3 q4 q5 q6 q7 qf;generalize ((((((((w6.setCell ⟨gr,orr+k * 8,Ab⟩ (J U (Dx r 4).id)).setCell ⟨gr,orr+k * 8+1,Ab⟩ (J U (Dx r 4).plan.prio)).setCell ⟨gr,orr+k * 8+2,Ab⟩ (J U (Dx r 4).plan.most)).setCell ⟨gr,orr+k * 8+3,Ab⟩ (J U (Dx r 4).plan.wait)).setCell ⟨gr,orr+k * 8+4,Ab⟩ (J U (Dx r 4).plan.tasks)).setCell ⟨gr,orr+k * 8+5,Ab⟩ (Aa sr.1.a sr.1.n sr.1.c)).setCell ⟨gr,orr+k * 8+6,Ab⟩ (J U (Dx r 4).state)).setCell ⟨gr,orr+k * 8+7,Ab⟩ (Aa sr.2.a sr.2.n sr.2.c))=w8 at *
 obtain ⟨OB_0,OB_1,OB_2,OB_3,OB_l⟩:=OB.g4;have RES_:=RES.g4;have rf:=RES.free;go_wp2;refine Aj (Mg (DBox.row4 RES rfl _ _ _ _)) rfl ⟨(⟨B1,m1,e1⟩,⟨Ac ⟨gr,orr,Ab⟩,m2,e2⟩),F8,by rw [H.out,H2.out],by rw [H2.out];exact (by (repeat (refine Dt.ow_set Bv ?_ en1 _));exact (show Bv.ow _ F8 ⟨y.now,y.seq,y.shelf,y.runs.set k (Dx r 4)⟩ (⟨B1,m1,e1⟩,⟨Ac ⟨gr,orr,Ab⟩,m2,e2⟩) from oy8)),mK,?_⟩;repeat (first | (with_reducible exact B0) | refine Ad ?_ Bo _)
end Go.Proofs.YtonlnjdempbfoabGreat
