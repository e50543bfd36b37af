/-
  Tick of the reference. Written by program (kza.py). Submit of the program. Written by program (isu.py). Swept of the program. Restart of the reference. Written 
-/
import Derived.Test.YtonlnjdempbfoaaGreatZSl0
import Derived.Test.YtonlnjdempbfoaaGreatZSl7
import Derived.Test.YtonlnjdempbfoaaGreatZSl9
import Derived.Test.YtonlnjdempbfoaaGreatZSl10
import Derived.Test.YtonlnjdempbfoaaGreatZSl12
import Derived.Test.YtonlnjdempbfoaaGreatZSl13
namespace Go.Proofs.YtonlnjdempbfoaaGreat
open Go.RowKit
set_option maxRecDepth 100000
set_option maxHeartbeats 4000000
set_option linter.unusedVariables false
set_option linter.unusedSimpArgs false
open Value renaming int->J,slice->Aa
open IntKind renaming i64->U
open Option renaming none->Ab,some->Ac
open Below renaming setCell->Ad
open Nat renaming zero_le->Ag,le_trans->Ah
open Go renaming bodyPost_ret->Aj,wpQuiet_nil->Ak
open Go.Proofs.Tryz renaming prog->Am
open Int renaming toNat_natCast->Ao
open IntWalk renaming i64_in->Aq
open List renaming length_map->Ar,getElem_mem->Aw,nodup_append->Ax,mem_append_left->Bf,mem_append->Bi
open World renaming size_alloc->Bj
section
open Classical in
noncomputable def Fe (z:Yard) (k t:Nat):Yard:=if (Cs (Gl z k) t).state=3 then Fb z k (De (Gl z k) t) else z
noncomputable def Ew (y:Yard) (l:List (Nat×Nat)):Yard:=l.foldl (fun z p=>Fe z p.1 p.2) y
theorem K0 {z:Yard} {k t:Nat} (h:¬ (Cs (Gl z k) t).state=3):Fe z k t=z:=if_neg h
theorem J6 {z:Yard} {k t:Nat} (h:(Cs (Gl z k) t).state=3):Fe z k t=Fb z k (De (Gl z k) t):=if_pos h
theorem Trn.fail {y z:Yard} {m:Nat} (h:Trn y m z) {k t:Nat} (hk:k<z.runs.length) (ht:t<z.runs[k].tasks.length):Trn y (m+1) (Fe z k t):=by
 by_cases q:(Cs (Gl z k) t).state=3
 ·rw [J6 q,Ei hk];rw [Ei hk] at q;exact h.step hk ⟨(h.run k hk (by rw [<-h.len];exact hk)).1,⟨Bl,Bl⟩,q⟩
 ·rw [K0 q];exact h.mono Bl
open Classical in
noncomputable def I2 (y:Yard):Int:=if ¬ Dd y then 8 else if 999999980<y.now+1 then 7 else 0
noncomputable def Ab4 (y:Yard):Yard:=Ew y (E8 y y.runs.length)
noncomputable def Ip (y:Yard):Yard:=if I2 y=0 then ⟨(Ab4 y).now+1,(Ab4 y).seq,(Ab4 y).shelf,(Ab4 y).runs⟩ else y
theorem Qy {y:Yard} {n:Nat} {p:Nat×Nat} (h:p∈E8 y n):p.1<n/\p.2<(Gl y p.1).tasks.length:=by
 unfold E8 at h;obtain ⟨j,hj,hp⟩:=List.mem_flatMap.1 h;unfold It at hp;obtain ⟨t,ht,rfl⟩:=List.mem_map.1 hp;exact ⟨List.mem_range.1 hj,List.mem_range.1 (List.mem_filter.1 ht).1⟩
theorem Mu {w:World} {F:List Nat} {b o n c:Nat} {rows:List (List Int)} (h:OwL (Dt.flats Hn) w F (Aa (Ac ⟨b,o,Ab⟩) n c) rows) {i:Nat} (hi:i<rows.length) {x y z:Int} (hr:rows[i]=[x,y,z]) :
  ∃ g p cc,b∈F/\g∈F/\w.cell? ⟨b,o+i,Ab⟩=Ac (Aa (Ac ⟨g,p,Ab⟩) 3 cc)/\w.cell? ⟨g,p,Ab⟩=Ac (J U x)/\w.cell? ⟨g,p+1,Ab⟩=Ac (J U y)/\w.cell? ⟨g,p+2,Ab⟩=Ac (J U z):=by
 obtain ⟨s,Fx,hx,bF,_,hb,_,hc⟩:=h.elem hi;rw [hr] at hx;have eH:Hw Hn w Fx (Aa s.a s.n s.c) [x,y,z]:=hx;obtain ⟨g,p,sU,pN,_,_⟩:=eH.at_ Bn;obtain ⟨A',c',hv,_,hA⟩:=eH.rd;simp only [Value.slice.injEq] at hv;obtain ⟨h1,h2,h3⟩:=hv;obtain ⟨g',p',bT,_,aX⟩:=hA Bn;rw [<-h1,sU] at bT;simp only [Option.some.injEq,Addr.mk.injEq,and_true] at bT;obtain ⟨rfl,rfl⟩:=bT;refine ⟨g,p,s.c,hb,bF _ (by rw [pN];simp),?_,?_,?_,?_⟩
 ·have:=hc 0 (Aa s.a s.n s.c) rfl
  rw [show o+i * (Dt.flats Hn).enc.sz+0=o+i from by show o+i * 1+0=o+i;omega,sU,h2] at this;exact this
 ·exact aX 0 Bn 0 _ rfl
 ·exact aX 1 Bn 0 _ rfl
 ·exact aX 2 Bn 0 _ rfl
theorem Ux {b:Nat} {w:World} {u0 u1 u2 u3:Value} (X:DBox b [u0,u1,u2,u3] w) {v0 v1 v3:Value} {rest:List Value} :
  (results Tryz.f147 (v0 :: v1 :: .pointer (Ac ⟨b,0,Ab⟩) :: v3 :: rest).toArray).run Am w = .ok (.tuple #[.agg #[u0,u1,u2,u3],v3]) w:=by
 have c0:=X.cell 0 _ rfl;have c1:=X.cell 1 _ rfl;have c2:=X.cell 2 _ rfl;have c3:=X.cell 3 _ rfl;simp [results,Tryz.results147,go_sem,c0,c1,c2,c3]
theorem Xs (y:Yard) (s:Sl×Sl) (w:World) (hl:Cb y<=2000000) (h:Bu.rd w w y s) :
  Calls Am 147 #[Dg y s] w (Ht (Ip y) (I2 y) w):=by
 have HR:=Bq (show ∀ W,Below w w W->Bu.rd W W y s from fun W hW=>Bu.rd_more (Bu.rd_below h hW) hW.size);obtain ⟨⟨A1,n1,c1⟩,⟨A2,n2,c2⟩⟩:=s;have CC:=Bq (fun W hW=>Ed y (⟨A1,n1,c1⟩,⟨A2,n2,c2⟩) W hl (HR.out W hW));have CY:=Bq (fun W hW=>Fj y (⟨A1,n1,c1⟩,⟨A2,n2,c2⟩) W hl (HR.out W hW));clear h;obtain ⟨W,aG,X,RES,B0⟩:=bx2 w 31 [J U y.now,J U y.seq,Aa A1 n1 c1,Aa A2 n2 c2] 31 [J U 0,J U 0,Aa Ab 0 0,Aa Ab 0 0];go_enter Tryz.func147,Tryz.ntmps147;go_wp2_with fail
 rw [<-aG.out];clear aG;have dK:w.heap.size+1<W.heap.size:=RES.lt;refine (CC.out _ B0).mono ?_;rintro e1 w1 ⟨⟨⟨B1,m1,e1⟩,⟨B2,m2,e2⟩⟩,F,rfl,oy,nF,b1⟩;have bL:=b1.size;have cH:=Bu.ow_lt (F:=F) (x:=y) (s:=(⟨B1,m1,e1⟩,⟨B2,m2,e2⟩)) oy;replace X:=X.below b1;replace RES:=RES.below b1;replace B0:=Bt B0 b1;clear b1;go_upto_region 2 with fail
 have OB:=DBox.new 31 [J U y.now,J U y.seq,Aa B1 m1 e1,Aa B2 m2 e2] w1 (b:=w1.heap.size) rfl;have b2:Below w1 w1 (w1.alloc (.cells #[J U y.now,J U y.seq,Aa B1 m1 e1,Aa B2 m2 e2] 31)):=(Br _ _).alloc (Bs _) _;replace X:=X.below b2;replace RES:=RES.below b2;replace oy:=Bu.ow_below (F:=F) (x:=y) (s:=(⟨B1,m1,e1⟩,⟨B2,m2,e2⟩)) oy b2;replace B0:=Bt B0 b2;have ow1:=OB.lt;clear b2;generalize w1.alloc (.cells #[J U y.now,J U y.seq,Aa B1 m1 e1,Aa B2 m2 e2] 31)=w2 at *
 generalize cJ:w1.heap.size=ob at *
 have X_:=X.g4;obtain ⟨OB_0,OB_1,OB_2,OB_3,OB_l⟩:=OB.g4;go_wp2_with fail
 refine (CY.out _ B0).mono ?_;rintro e1 w3 ⟨rfl,b3⟩;clear X_;clear OB_0 OB_1 OB_2 OB_3 OB_l;replace X:=X.below b3;replace OB:=OB.below b3;replace RES:=RES.below b3;replace oy:Bu.ow w3 F y (⟨B1,m1,e1⟩,⟨B2,m2,e2⟩):=owB oy b3;replace B0:=Bt B0 b3;clear b3;have X_:=X.g4;obtain ⟨OB_0,OB_1,OB_2,OB_3,OB_l⟩:=OB.g4;by_cases p0:Dd y;case neg =>
  rw [Cf p0];have H:=Bq (show I2 y=8 by unfold I2;rw [if_pos p0]);have H2:=Bq (show Ip y=y by unfold Ip;rw [H.out,if_neg Bp]);have RES_:=RES.g4;have rf:=RES.free;go_wp2;have en1:w.heap.size+1∉F:=fun hx=>by have:=nF _ hx;omega
  refine Aj (Ux (DBox.row4 RES rfl _ _ _ _)) rfl ⟨(⟨B1,m1,e1⟩,⟨B2,m2,e2⟩),F,by rw [H.out,H2.out],by rw [H2.out];exact (by (repeat (refine Dt.ow_set Bu ?_ en1 _));exact (show Bu.ow _ F y (⟨B1,m1,e1⟩,⟨B2,m2,e2⟩) from oy)),fun x hx=>by have:=nF x hx;omega,?_⟩;repeat (first | (with_reducible exact B0) | refine Ad ?_ Bo _)
 rw [Dj p0];have P0:=Bq p0;have fY:=p0.1;clear p0;have wr1:U.wrap (y.now+1)=y.now+1:=Aq _ Bl;by_cases p1:999999980<y.now+1;case pos =>
  have H:=Bq (show I2 y=7 by unfold I2;rw [if_neg (fun h=>h P0.out),if_pos p1]);have H2:=Bq (show Ip y=y by unfold Ip;rw [H.out,if_neg Bp]);have RES_:=RES.g4;have rf:=RES.free;go_wp2;have en1:w.heap.size+1∉F:=fun hx=>by have:=nF _ hx;omega
  refine Aj (Ux (DBox.row4 RES rfl _ _ _ _)) rfl ⟨(⟨B1,m1,e1⟩,⟨B2,m2,e2⟩),F,by rw [H.out,H2.out],by rw [H2.out];exact (by (repeat (refine Dt.ow_set Bu ?_ en1 _));exact (show Bu.ow _ F y (⟨B1,m1,e1⟩,⟨B2,m2,e2⟩) from oy)),fun x hx=>by have:=nF x hx;omega,?_⟩;repeat (first | (with_reducible exact B0) | refine Ad ?_ Bo _)
 have H:=Bq (show I2 y=0 by unfold I2;rw [if_neg (fun h=>h P0.out),if_neg p1]);have H2:=Bq (show Ip y=⟨(Ew y (E8 y y.runs.length)).now+1,(Ew y (E8 y y.runs.length)).seq,(Ew y (E8 y y.runs.length)).shelf,(Ew y (E8 y y.runs.length)).runs⟩ by unfold Ip;rw [if_pos H.out];rfl);have CL:=Bq (fun W hW=>Xp y (⟨A1,n1,c1⟩,⟨A2,n2,c2⟩) W hl P0.out (HR.out W hW));clear HR CC CY;go_wp2_with fail
 refine (CL.out _ B0).mono ?_;rintro e1 w4 ⟨⟨A9,n9,c9⟩,Fl,he,ol,nl,b4⟩;replace he:e1 = .returned (Aa A9 n9 c9):=he;subst he;clear X_;clear OB_0 OB_1 OB_2 OB_3 OB_l;clear X CL;have hB3:=B0.size;have jK:ob<w3:=OB.lt;have mV:=ol.lt;replace OB:=OB.below b4;replace RES:=RES.below b4;replace oy:Bu.ow w4 F y (⟨B1,m1,e1⟩,⟨B2,m2,e2⟩):=owB oy b4;replace B0:=Bt B0 b4;have fV:Hid ((∀ x∈F,w.heap.size+1<x)/\ob∉F /\ ∀ x∈Fl,x∉F):=⟨fun x hx=>by have:=nF x hx;omega,fun hx=>by have:=cH _ hx;omega,fun x hx bF=>by have h1:w3<=x:=nl x hx;have h2:=cH x bF;omega⟩
 have hFln:∀ x∈Fl,w3<=x:=nl;have hmemL:=Bq (fun p (hp:p∈E8 y y.runs.length)=>Qy hp);have fB:w.heap.size+1<w3.heap.size:=Bl;have hw34:w3.heap.size<=w4.heap.size:=b4.size;clear nF nl b4;have hLs:=Bq (show (E8 y y.runs.length).length<=96 by have h1:=Kz (Mg P0.out) y.runs.length;have h2:=P0.out.2.2.2.2.2.2.1;omega);generalize E8 y y.runs.length=L at *
 obtain rfl:n9=L.length:=by have:=RdL.at1 (s:=⟨A9,n9,c9⟩) ol.rd;rw [Ar] at this;exact this
 go_wp2;go_loopw [6,7] (fun iv u wr=>∃ (i:Nat) (Z:Yard) (s:Sl×Sl) (F:List Nat),i<=L.length/\iv = J U i/\Hid (Trn y i Z)/\Hid (Ew y (L.take i)=Z)/\Hid (Bu.ow wr F Z s)/\Hid ((∀ x∈F,w.heap.size+1<x)/\ob∉F /\ ∀ x∈Fl,x∉F)/\Hid (OwL (Dt.flats Hn) wr Fl (Aa A9 L.length c9) (L.map (Ia y)))/\DBox ob (Eh Z s) wr/\DBox (w.heap.size+1) [J U 0,J U 0,Aa Ab 0 0,Aa Ab 0 0] wr/\Below w w wr/\w4.heap.size<=wr.heap.size) (fun i _ _=>L.length - (intOf i).toNat);case atStart=>exact ⟨0,y,(⟨B1,m1,e1⟩,⟨B2,m2,e2⟩),F,Ag _,rfl,Trn.start P0.out,rfl,oy,fV,ol,OB,RES,B0,Bs _⟩
 case round =>
  clear oy fV ol OB RES B0 cH mV;obtain ⟨i,Z,s,F,hi,rfl,hT,hZ,oy,hF,ol,OB,RES,hb,mC⟩:=hrel;obtain ⟨⟨B1,m1,e1⟩,⟨B2,m2,e2⟩⟩:=s;replace oy:Bu.ow wr F Z (⟨B1,m1,e1⟩,⟨B2,m2,e2⟩):=oy.out;have bP:∀ x∈F,x<wr:=Bu.ow_lt (F:=F) (x:=Z) (s:=(⟨B1,m1,e1⟩,⟨B2,m2,e2⟩)) oy;have cR:=hLs.out;obtain ⟨OB_0,OB_1,OB_2,OB_3,OB_l⟩:=OB.g4;by_cases aA:i<L.length
  ·have aB:(i:Int)<(L.length:Int):=Bl;have aL:(0:Int)<=(i:Int):=Bl;have hp:=hmemL.out _ (Aw aA);have aE:Hid (Ew y (L.take (i+1))=Fe Z L[i].1 L[i].2):=by
    show Ew y (L.take (i+1))=_;unfold Ew;rw [J2 (fun z p=>Fe z p.1 p.2) y L i aA,<-hZ.out];rfl
   have cS:(L.map (Ia y))[i]'(by rw [Ar];exact aA)=[(Gl y L[i].1).id,(L[i].2:Int),(Cs (Gl y L[i].1) L[i].2).try_]:=by
    rw [List.getElem_map];rfl
   generalize L[i]=p at *
   obtain ⟨k,t⟩:=p;dsimp only at hp aE cS;have qH:k<y.runs.length:=hp.1;have dR:k<Z.runs.length:=by rw [hT.out.len];exact qH
   rw [Ei qH] at hp cS;have fN:=hT.out.run k dR qH;have jN:t<Z.runs[k].tasks.length:=by rw [fN.2.2];exact hp.2
   have gH:=Bq (show Da Z y.runs[k].id=k from (hT.out.runAt _).trans (P0.out.2.2.2.2.2.2.2.1 k qH).2);have pT:=hT.out.cnt Bl;have hN:=hT.out.fail dR jN;replace cS:=Bq cS;have hbln:∀ z∈Fl,z∉F:=hF.out.2.2;obtain ⟨bl,lo,rfl⟩:∃ b o,A9=Ac ⟨b,o,Ab⟩:=by
    obtain ⟨b,o,_,hA,_⟩:=RdL.at_ ol.out.rd i (by rw [Ar];exact aA);exact ⟨b,o,hA⟩
   obtain ⟨gl,pl,cl,gZ,fL,l0,l1,l2,-⟩:=Mu ol.out (i:=i) (by rw [Ar];exact aA) cS.out;have kV:=ol.out.lt _ gZ;have bW:=ol.out.lt _ fL;have oyr:=(Bu.ow_rd (F:=F) (x:=Z) (s:=(⟨B1,m1,e1⟩,⟨B2,m2,e2⟩)) oy)
   have CA:=Bq (fun W (hW:Below wr wr W)=>Es Z (⟨B1,m1,e1⟩,⟨B2,m2,e2⟩) y.runs[k].id W pT (Bu.rd_more (Bu.rd_below (x:=Z) (s:=(⟨B1,m1,e1⟩,⟨B2,m2,e2⟩)) oyr hW) hW.size));clear oyr;have aR:=C7 wr;go_wp2;refine Bw Bm Bm ?_;repeat (go_big_quiet_step ((go_at_call 80;rename_i x;have h1:=CA.out x.1 x.2;rw [gH.out] at h1;exact Ey h1)))
   refine Ak ?_;rintro w5 ⟨⟨_,b5⟩,rfl⟩;clear aR CA l0 l1 l2 kV bW;clear OB_0 OB_1 OB_2 OB_3 OB_l;replace OB:=OB.below b5;replace RES:=RES.below b5;replace oy:Bu.ow w5 F Z (⟨B1,m1,e1⟩,⟨B2,m2,e2⟩):=owB oy b5;replace ol:=Bq (ol.out.below b5);replace hb:=Bt hb b5;replace mC:=Ah mC b5.size;replace bP:∀ x∈F,x<w5:=Bu.ow_lt (F:=F) (x:=Z) (s:=(⟨B1,m1,e1⟩,⟨B2,m2,e2⟩)) oy;obtain ⟨gl,pl,cl,gZ,fL,l0,l1,l2,-⟩:=Mu ol.out (i:=i) (by rw [Ar];exact aA) cS.out;have kV:=ol.out.lt _ gZ;have bW:=ol.out.lt _ fL;obtain ⟨OB_0,OB_1,OB_2,OB_3,OB_l⟩:=OB.g4;have oyr:=(Bu.ow_rd (F:=F) (x:=Z) (s:=(⟨B1,m1,e1⟩,⟨B2,m2,e2⟩)) oy).2;have dJ:=Bq (show m2=Z.runs.length from RdL.at1 (s:=⟨B2,m2,e2⟩) oyr);have gG:(k:Int)<(m2:Int):=by have:=dJ.out;omega
   have dB:(0:Int)<=(k:Int):=Bl;obtain ⟨gr,orr,⟨sk1,⟨tka,tkn,tkc⟩⟩,rfl,dD,cX,c0,c1,c2,c3,c4,c5,c6,c7⟩:=RdL.run (show RdL Ch w5 w5.heap.size (Aa B2 m2 e2) Z.runs from oyr) dR;have nC:tkn=Z.runs[k].tasks.length:=RdL.at1 (s:=⟨tka,tkn,tkc⟩) cX.2;have jS:(t:Int)<(tkn:Int):=Bl;have gD:(0:Int)<=(t:Int):=Bl;obtain ⟨gt,ot,_,rfl,hgt,_,d0,d1,d2,d3⟩:=RdL.task (show RdL Ee w5 w5.heap.size (Aa tka tkn tkc) Z.runs[k].tasks from cX.2) jN;have bH:=Bq fN.1;replace nC:=Bq nC;have aR:=C7 w5;clear fN oyr d1 d2 d3;have hJ:=Bq (show Cs (Gl Z k) t=Z.runs[k].tasks[t] by rw [Ei dR,Cr jN]);have hJ2:=Bq (Ei dR);generalize mM:Z.runs[k]=r at *
   by_cases q:r.tasks[t].state=3;case neg =>
    have q1:(r.tasks[t].state == 3)=false:=by simp [q]
    have bG:=Bq (show Fe Z k t=Z from K0 (by rw [hJ.out];exact q));clear q;go_wp2;refine Bw Bm Bm ?_;repeat (go_big_quiet_step (fail))
    refine Ak ?_;rintro w6 ⟨⟨_,b6⟩,rfl⟩;clear aR;go_wp2;exact ⟨⟨i+1,Z,(⟨B1,m1,e1⟩,⟨Ac ⟨gr,orr,Ab⟩,m2,e2⟩),F,Bl,by go_num,hT.out.mono Bl,aE.out.trans bG.out,Bu.ow_below (F:=F) (x:=Z) (s:=(⟨B1,m1,e1⟩,⟨Ac ⟨gr,orr,Ab⟩,m2,e2⟩)) oy b6,hF,ol.out.below b6,OB.below b6,RES.below b6,Bt hb b6,Ah mC b6.size⟩,by simp [intOf];omega⟩
   have q1:(r.tasks[t].state == 3)=true:=by simp [q]
   have aK:Hid (H9 r t):=⟨bH.out,⟨Bl,Bl⟩,by rw [Ao,Cr jN];exact q⟩
   have bG:=Bq (show Fe Z k t=Fb Z k (De r t) by rw [J6 (by rw [hJ.out];exact q),hJ2.out]);replace hN:Hid (Trn y (i+1) (Fe Z k t)):=hN;clear q;go_wp2;refine Bw Bm Bm ?_;repeat (go_big_quiet_step (fail))
   refine Ak ?_;rintro w6 ⟨⟨_,b6⟩,rfl⟩;clear aR l0 l1 l2 kV bW c0 c1 c2 c3 c4 c5 c6 c7 d0 hgt;clear OB_0 OB_1 OB_2 OB_3 OB_l;replace OB:=OB.below b6;replace RES:=RES.below b6;replace oy:Bu.ow w6 F Z (⟨B1,m1,e1⟩,⟨Ac ⟨gr,orr,Ab⟩,m2,e2⟩):=owB oy b6;replace ol:=Bq (ol.out.below b6);replace hb:=Bt hb b6;replace mC:=Ah mC b6.size;replace bP:∀ x∈F,x<w6:=Bu.ow_lt (F:=F) (x:=Z) (s:=(⟨B1,m1,e1⟩,⟨Ac ⟨gr,orr,Ab⟩,m2,e2⟩)) oy;obtain ⟨gl,pl,cl,gZ,fL,l0,l1,l2,-⟩:=Mu ol.out (i:=i) (by rw [Ar];exact aA) cS.out;have kV:=ol.out.lt _ gZ;have bW:=ol.out.lt _ fL;obtain ⟨OB_0,OB_1,OB_2,OB_3,OB_l⟩:=OB.g4;obtain ⟨_,_,sk,cP,hgrw6,cX,c0,c1,c2,c3,c4,c5,c6,c7⟩:=RdL.run (show RdL Ch w6 w6.heap.size (Aa (Ac ⟨gr,orr,Ab⟩) m2 e2) Z.runs from (Bu.ow_rd (F:=F) (x:=Z) (s:=(⟨B1,m1,e1⟩,⟨Ac ⟨gr,orr,Ab⟩,m2,e2⟩)) oy).2) dR;simp only [Option.some.injEq,Addr.mk.injEq,and_true] at cP;obtain ⟨rfl,rfl⟩:=cP;rw [mM] at cX c0 c1 c2 c3 c4 c6;have CF:=Bq (Lu r sk t w6.drew (by have:=J3 bH.out;omega) aK.out (Ch.rd_below cX (Br _ _).drew));have gC:=OB.lt;clear cX;go_wp2;refine Cz (fun w'=>w'.cell? ⟨ob,0,Ab⟩=Ac (J U Z.now)/\w'.cell? ⟨ob,1,Ab⟩=Ac (J U Z.seq)/\w'.cell? ⟨ob,2,Ab⟩=Ac (Aa B1 m1 e1)/\w'.cell? ⟨ob,3,Ab⟩=Ac (Aa (Ac ⟨gr,orr,Ab⟩) m2 e2)/\w'.cell? ⟨bl,lo+i,Ab⟩=Ac (Aa (Ac ⟨gl,pl,Ab⟩) 3 cl)/\w'.cell? ⟨gl,pl,Ab⟩=Ac (J U y.runs[k].id)/\w'.cell? ⟨gl,pl+1,Ab⟩=Ac (J U (t:Int))) 15 Bm ?_ (fun hHeld=>?_)
   ·exact ⟨OB_0,OB_1,OB_2,OB_3,l0,l1,l2⟩
   refine aT 0 hHeld ?_;try simp only [pS]
   refine aT 1 hHeld ?_;try simp only [pS]
   refine aT 2 hHeld ?_;try simp only [pS]
   refine aT 3 hHeld ?_;try simp only [pS]
   refine aT 4 hHeld ?_;try simp only [pS]
   refine aT 5 hHeld ?_;try simp only [pS]
   refine aT 7 hHeld ?_;try simp only [pS]
   refine aT 8 hHeld ?_;try simp only [pS]
   refine aT 9 hHeld ?_;try simp only [pS]
   refine aT 10 hHeld ?_;try simp only [pS]
   refine aT 11 hHeld ?_;try simp only [pS]
   refine aT 12 hHeld ?_;try simp only [pS]
   refine oT 6 (fun K hK=>?_);go_simp;refine hK.out _ _ (fun _=>?_) ?_
   ·exact ⟨OB_0,OB_1,OB_2,OB_3,l0,l1,l2⟩
   clear hK K;try simp only [pS]
   refine oT 13 (fun K hK=>?_)
   (go_simp;refine CF.out.mono ?_;rintro e5 wa ⟨sr,Fr,rfl,orn,nFr,ba⟩;have nY:∀ x∈Fr,w6<=x:=nFr;have oya:Bu.ow wa F Z (⟨B1,m1,e1⟩,⟨Ac ⟨gr,orr,Ab⟩,m2,e2⟩):=owB oy (Bt (Br _ _).drew ba);have CT:=Bq (Ks Z (⟨B1,m1,e1⟩,⟨Ac ⟨gr,orr,Ab⟩,m2,e2⟩) k (De r t) sr wa F Fr hT.out.four (fun s hs=>by have:=hT.out.all s hs;omega) (by have:=hT.out.seq;omega) dR (by rw [Hj];have:=Dp bH.out;omega) (by rw [mM];have:=Dp bH.out;omega) oya orn (fun x hx bF=>by have h1:=nY x hx;have h2:=bP x bF;omega)))
   refine hK.out _ _ (fun _=>?_) ?_
   ·exact ⟨(ba.cell (p:=⟨_,_,Ab⟩) (by show ob<w6;omega)).trans OB_0,(ba.cell (p:=⟨_,_,Ab⟩) (by show ob<w6;omega)).trans OB_1,(ba.cell (p:=⟨_,_,Ab⟩) (by show ob<w6;omega)).trans OB_2,(ba.cell (p:=⟨_,_,Ab⟩) (by show ob<w6;omega)).trans OB_3,(ba.cell (p:=⟨_,_,Ab⟩) (by show bl<w6;omega)).trans l0,(ba.cell (p:=⟨_,_,Ab⟩) (by show gl<w6;omega)).trans l1,(ba.cell (p:=⟨_,_,Ab⟩) (by show gl<w6;omega)).trans l2⟩
   clear hK K;try simp only [pS]
   refine oT 14 (fun K hK=>?_)
   (go_simp;refine CT.out.mono ?_;rintro e6 wb ⟨s6,F6,rfl,oy6,n6,cb⟩;have OB6:=(OB.below (Bt (Br _ _).drew ba)).chg cb hF.out.2.1;have q0:=OB6.cell 0 _ rfl;have q1:=OB6.cell 1 _ rfl;have q2:=OB6.cell 2 _ rfl;have q3:=OB6.cell 3 _ rfl;have qf:=OB6.free;have ql:=OB6.lt;have u0:=(cb.cell (p:=⟨bl,_,Ab⟩) (by show bl<wa;have:=ba.size;have:w6.drew.heap.size=w6.heap.size:=rfl;omega) (hF.out.2.2 _ gZ)).trans ((ba.cell (p:=⟨bl,_,Ab⟩) (by show bl<w6;omega)).trans l0);have u1:=(cb.cell (p:=⟨gl,_,Ab⟩) (by show gl<wa;have:=ba.size;have:w6.drew.heap.size=w6.heap.size:=rfl;omega) (hF.out.2.2 _ fL)).trans ((ba.cell (p:=⟨gl,_,Ab⟩) (by show gl<w6;omega)).trans l1);have u2:=(cb.cell (p:=⟨gl,_,Ab⟩) (by show gl<wa;have:=ba.size;have:w6.drew.heap.size=w6.heap.size:=rfl;omega) (hF.out.2.2 _ fL)).trans ((ba.cell (p:=⟨gl,_,Ab⟩) (by show gl<w6;omega)).trans l2);generalize Fb Z k (De r t)=Z1 at *)
   refine hK.out _ _ (fun _=>?_) ?_
   ·exact ⟨q0,q1,q2,q3,u0,u1,u2⟩
   clear hK K;try simp only [pS]
   refine oT 15 (fun K hK=>?_);go_simp;refine hK.out _ _ (fun aC=>absurd rfl aC) ?_;clear hK K;try simp only [pS]
   refine Dr Bm ?_ _;have ba':Below w6 w6 wa:=Bt (Br _ _).drew ba;have hbas:=ba'.size;have hcbs:=cb.size;have jU:=OB.lt;have hRl7:=RES.lt;have bU:=Chg.cells4 wb ob 0 1 2 3 (J U Z1.now) (J U Z1.seq) (Aa s6.1.a s6.1.n s6.1.c) (Aa s6.2.a s6.2.n s6.2.c);have dL:=Bq (show ∀ x,x∈[ob]->x=ob from fun x hx=>by simpa using hx);have OB7:=DBox.row4 OB6 rfl (J U Z1.now) (J U Z1.seq) (Aa s6.1.a s6.1.n s6.1.c) (Aa s6.2.a s6.2.n s6.2.c);have RES7:=((RES.below ba').chg cb (fun hx=>by have:=hF.out.1 _ hx;omega)).chg bU (fun hx=>by have:=dL.out _ hx;omega);have rY:=ol.out.lt;have ol7:=((ol.out.below ba').chg cb (fun x hx=>hF.out.2.2 x hx)).chg bU (fun x hx h2=>by have h3:=dL.out x h2;have h4:=hFln x hx;omega);have nW:=((Bt hb ba').trans (cb.below (by have:=(Bt hb ba').size;omega) (fun x hx=>by have:=hF.out.1 x hx;omega))).trans (bU.below (by have:=hb.size;omega) (fun x hx=>by have:=dL.out x hx;omega));have kD:∀ x∈F6,x∈F\/w6<=x:=fun x hx=>by
    rcases n6 x hx with h | h | h
    ·exact .inl h
    ·exact .inr (nY x h)
    ·exact .inr Bl
   have pK:ob∉F6:=fun hx=>by
    rcases kD _ hx with h | h
    ·exact hF.out.2.1 h
    ·omega
   have oy7:=Bu.ow_chg (F:=F6) (x:=Z1) (s:=s6) oy6 bU (fun x hx h=>by have:=dL.out x h;subst this;exact pK hx);have rR:Hid ((∀ x∈F6,w.heap.size+1<x)/\ob∉F6 /\ ∀ x∈Fl,x∉F6):=⟨fun x hx=>by
    rcases kD x hx with h | h
    ·exact hF.out.1 x h
    ·have:=hRl7;omega,pK,fun x hx hx6=>by
    rcases kD x hx6 with h | h
    ·exact hF.out.2.2 x hx h
    ·have:=rY x hx;omega⟩
   have hw7:=Ah mC (Ah (Ah hbas hcbs) bU.size);clear hHeld q0 q1 q2 q3 qf ql OB6 oy6 CT CF oya orn nFr n6 ba cb;clear OB_0 OB_1 OB_2 OB_3 OB_l;clear OB;generalize (((wb.setCell ⟨ob,0,Ab⟩ (J U Z1.now)).setCell ⟨ob,1,Ab⟩ (J U Z1.seq)).setCell ⟨ob,2,Ab⟩ (Aa s6.1.a s6.1.n s6.1.c)).setCell ⟨ob,3,Ab⟩ (Aa s6.2.a s6.2.n s6.2.c)=w7 at *
   go_wp2;exact ⟨⟨i+1,Z1,s6,F6,Bl,by go_num,by rw [<-bG.out];exact hN.out,aE.out.trans bG.out,oy7,rR,ol7,OB7,RES7,nW,hw7⟩,by simp [intOf];omega⟩
  ·have aB:¬ (i:Int)<(L.length:Int):=Bl;have hzn:=Bq hT.out.now;have hZ1:=Bq (show Ew y L=Z by have:=hZ.out;rw [List.take_of_length_le Bl] at this;exact this);have wr2:U.wrap (Z.now+1)=Z.now+1:=Aq _ (by have:=hzn.out;omega);have H3:=Bq (show Ip y=⟨Z.now+1,Z.seq,Z.shelf,Z.runs⟩ by rw [H2.out,hZ1.out]);have obf:=OB.free;go_upto_region 14 with fail
   clear OB_0 OB_1 OB_2 OB_3 OB_l;clear obf;have hRl3:=RES.lt;replace OB:DBox ob [J U (Z.now+1),J U Z.seq,Aa B1 m1 e1,Aa B2 m2 e2] (wr.setCell ⟨ob,0,Ab⟩ (J U (Z.now+1))):=OB.set 0 Bn _;replace RES:=RES.setOther (a:=⟨ob,0,Ab⟩) (by show w.heap.size+1≠ob;omega) (J U (Z.now+1));have nJ:=hF.out.2.1;have oy8:Bu.ow (wr.setCell ⟨ob,0,Ab⟩ (J U (Z.now+1))) F ⟨Z.now+1,Z.seq,Z.shelf,Z.runs⟩ (⟨B1,m1,e1⟩,⟨B2,m2,e2⟩):=Bu.ow_set (F:=F) (x:=Z) (s:=(⟨B1,m1,e1⟩,⟨B2,m2,e2⟩)) oy (a:=⟨ob,0,Ab⟩) nJ _;have mP:Below w w (wr.setCell ⟨ob,0,Ab⟩ (J U (Z.now+1))):=Ad hb (by show w.heap.size<=ob;omega) _;generalize wr.setCell ⟨ob,0,Ab⟩ (J U (Z.now+1))=w8 at *
   obtain ⟨OB_0,OB_1,OB_2,OB_3,OB_l⟩:=OB.g4;have RES_:=RES.g4;have rf:=RES.free;go_wp2;have en1:w.heap.size+1∉F:=fun hx=>by have:=hF.out.1 _ hx;omega
   refine Aj (Ux (DBox.row4 RES rfl _ _ _ _)) rfl ⟨(⟨B1,m1,e1⟩,⟨B2,m2,e2⟩),F,by rw [H.out,H3.out],by rw [H3.out];exact (by (repeat (refine Dt.ow_set Bu ?_ en1 _));exact (show Bu.ow _ F ⟨Z.now+1,Z.seq,Z.shelf,Z.runs⟩ (⟨B1,m1,e1⟩,⟨B2,m2,e2⟩) from oy8)),fun x hx=>by have:=hF.out.1 x hx;omega,?_⟩;repeat (first | (with_reducible exact mP) | refine Ad ?_ Bo _)
end
theorem Ac7 (y:Yard) (r:Run):Mm y Gh r=Jk y r (G7 r.tasks 2):=by
 have h:M5 Gh r r.tasks.length=G7 r.tasks 2:=by
  rw [P5,List.filter_eq_self.2];intro t _;have e:G7 Gh.tasks 2=[]:=rfl;rw [e];simp
 unfold Mm Jk;rw [h]
theorem Jc {b:Nat} {w:World} {u0 u1 u2 u3:Value} (X:DBox b [u0,u1,u2,u3] w) {v0 v1 v2 v3 v4 v5 v7:Value} {rest:List Value} :
  (results Tryz.f109 (v0 :: v1 :: v2 :: v3 :: v4 :: v5 :: .pointer (Ac ⟨b,0,Ab⟩) :: v7 :: rest).toArray).run Am w = .ok (.tuple #[.agg #[u0,u1,u2,u3],v7]) w:=by
 have c0:=X.cell 0 _ rfl;have c1:=X.cell 1 _ rfl;have c2:=X.cell 2 _ rfl;have c3:=X.cell 3 _ rfl;simp [results,Tryz.results109,go_sem,c0,c1,c2,c3]
theorem Uy (y:Yard) (s:Sl×Sl) (id:Int) (p:Plan) (sp:Sl) (w:World) (hl:Cb y<=2000000) (hp:p.edges.length<=2000000) (h:Bu.rd w w y s) (hpr:Ca.rd w w p sp) :
  Calls Am 109 #[Dg y s,.int .i64 id,Ja p sp] w (Ht (Iy y id p) (Ix y id p) w):=by
 have HR:=Bq (show ∀ W,Below w w W->Bu.rd W W y s from fun W hW=>Bu.rd_more (Bu.rd_below h hW) hW.size);obtain ⟨⟨A1,n1,c1⟩,⟨A2,n2,c2⟩⟩:=s;obtain ⟨A3,n3,c3⟩:=sp;obtain rfl:n3=p.edges.length:=RdL.at1 (s:=⟨A3,n3,c3⟩) hpr;have CC:=Bq (fun W hW=>Jz y (⟨A1,n1,c1⟩,⟨A2,n2,c2⟩) W hl (HR.out W hW));have CY:=Bq (fun W hW=>Fi y (⟨A1,n1,c1⟩,⟨A2,n2,c2⟩) W hl (HR.out W hW));have CA:=Bq (fun W hW=>Et y (⟨A1,n1,c1⟩,⟨A2,n2,c2⟩) id W hl (HR.out W hW));have CF:=Bq (fun W (hW:Below w w W)=>Gv p (.slice A3 p.edges.length c3) W hp (((H8 hpr).below hW).more hW.size));have CR:=Bq (fun W hW hS hq=>Xh y (⟨A1,n1,c1⟩,⟨A2,n2,c2⟩) p (.slice A3 p.edges.length c3) W hl hS hq (HR.out W hW));have CN:=Bq (fun W (hW:Below w w W) hid hf=>Uq id p ⟨A3,p.edges.length,c3⟩ W hid hf (Ca.rd_more (Ca.rd_below hpr hW) hW.size));obtain ⟨j0,cB,jz0,jz1,jz2⟩:=info_parts Kv;clear h hpr HR;obtain ⟨W,aG,X,P,RES,B0⟩:=bx3 w 31 [.int .i64 y.now,.int .i64 y.seq,.slice A1 n1 c1,.slice A2 n2 c2] 43 [.int .i64 p.prio,.int .i64 p.most,.int .i64 p.wait,.int .i64 p.tasks,.slice A3 p.edges.length c3] 31 [.int .i64 0,.int .i64 0,.slice Ab 0 0,.slice Ab 0 0];go_enter Tryz.func109,Tryz.ntmps109;go_wp2_with fail
 rw [<-aG.out];clear aG;have dK:w.heap.size+1+1<W.heap.size:=RES.lt;refine (CC.out _ B0).mono ?_;rintro e1 w1 ⟨⟨B1,m1,e1⟩,⟨B2,m2,e2⟩,F1,base,rfl,oS,eD,aY,cC,oR,b1⟩;have bL:=b1.size;replace X:=X.below b1;replace P:=P.below b1;replace RES:=RES.below b1;replace B0:=Bt B0 b1;clear b1;obtain ⟨rs,cG,G0,oR⟩:=oR;have hm:=Bq cG;clear cG;replace oR:BldG Ch 89 w1 base (.slice B2 m2 e2) rs G0:=oR;have tR:=oR.2.1.lt;have qD:∀ g,(Value.slice B2 m2 e2).ownBlock=Ac g->g≠w1.heap.size:=fun g hg h=>by
  have:=(oR.1.within g hg).2
  omega
 obtain ⟨F,oy,nF⟩:∃ F,Bu.ow w1 F y (⟨B1,m1,e1⟩,⟨B2,m2,e2⟩) /\ ∀ x∈F,W<=x:=by
  have hB:Bld Ch 89 w1 base (.slice B2 m2 e2) rs:=⟨G0,oR⟩
  replace hm:=hm.out;obtain ⟨F2,h5,h6⟩:=hB.owl hm;refine ⟨F1 ++ F2,⟨F1,F2,rfl,?_,oS,h5⟩,fun b hb=>?_⟩
  ·rw [Ax];refine ⟨oS.nodup,h5.nodup,fun u hu u' hu' e=>?_⟩
   have:=eD u hu
   have:=h6 u' hu'
   omega
  ·rcases Bi.1 hb with hb | hb
   ·exact (eD b hb).1
   ·have:=h6 b hb;omega
 go_upto_region 2 with fail
 have OB:=DBox.new 31 [.int .i64 y.now,.int .i64 y.seq,.slice B1 m1 e1,.slice B2 m2 e2] w1 (b:=w1.heap.size) rfl;have b2:Below w1 w1 (w1.alloc (.cells #[.int .i64 y.now,.int .i64 y.seq,.slice B1 m1 e1,.slice B2 m2 e2] 31)):=(Br _ _).alloc (Bs _) _;replace X:=X.below b2;replace P:=P.below b2;replace RES:=RES.below b2;replace oy:=Bu.ow_below (F:=F) (x:=y) (s:=(⟨B1,m1,e1⟩,⟨B2,m2,e2⟩)) oy b2;replace oS:=oS.below b2;replace oR:=oR.below b2;replace B0:=Bt B0 b2;have ow1:=OB.lt;have hbob:base<=w1.heap.size:=cC;replace cC:=Ah cC b2.size;clear b2;generalize w1.alloc (.cells #[.int .i64 y.now,.int .i64 y.seq,.slice B1 m1 e1,.slice B2 m2 e2] 31)=w2 at *
 generalize cJ:w1.heap.size=ob at *
 have X_:=X.g4;have P_:=P.g5;have OB_:=OB.g4;go_wp2_with fail
 refine (CY.out _ B0).mono ?_;rintro e1 w3 ⟨rfl,b3⟩;clear X_;clear P_;clear OB_;replace X:=X.below b3;replace P:=P.below b3;replace OB:=OB.below b3;replace RES:=RES.below b3;replace oy:Bu.ow w3 F y (⟨B1,m1,e1⟩,⟨B2,m2,e2⟩):=owB oy b3;replace oS:=oS.below b3;replace oR:=oR.below b3;replace B0:=Bt B0 b3;replace cC:=Ah cC b3.size;clear b3;have X_:=X.g4;have P_:=P.g5;have OB_:=OB.g4;by_cases p0:Dd y;case neg =>
  rw [Cf p0];have H:=Bq (show Ix y id p=8 by unfold Ix;rw [if_pos p0]);have H2:=Bq (show Iy y id p=y by unfold Iy;rw [H.out,if_neg Bp]);have RES_:=RES.g4;have rf:=RES.free;go_wp2;have en1:w.heap.size+1+1∉F:=fun hx=>by have:=nF _ hx;omega
  refine Aj (Jc (DBox.row4 RES rfl _ _ _ _)) rfl ⟨(⟨B1,m1,e1⟩,⟨B2,m2,e2⟩),F,by rw [H.out,H2.out],by rw [H2.out];exact (by (repeat (refine Dt.ow_set Bu ?_ en1 _));exact (show Bu.ow _ F y (⟨B1,m1,e1⟩,⟨B2,m2,e2⟩) from oy)),fun x hx=>by have:=nF x hx;omega,?_⟩;repeat (first | (with_reducible exact B0) | refine Ad ?_ Bo _)
 rw [Dj p0];have rF:=p0.2.2.2.2.2.2.2.2.2;have hsq:=p0.2.1;have h4:=Bq p0.2.2.1;have cV:=Bq p0.2.2.2.1;have P0:=Bq p0;clear p0;cases p1:inB id 1 9999;case false =>
  have H:=Bq (show Ix y id p=5 by unfold Ix;rw [if_neg (fun h=>h P0.out),if_pos p1]);have H2:=Bq (show Iy y id p=y by unfold Iy;rw [H.out,if_neg Bp]);have RES_:=RES.g4;have rf:=RES.free;go_wp2_with (go_at_call 58;refine (Cl _ _ _ _).mono ?_;rintro e w9 ⟨rfl,rfl⟩;rw [p1])
  have en1:w.heap.size+1+1∉F:=fun hx=>by have:=nF _ hx;omega
  refine Aj (Jc (DBox.row4 RES rfl _ _ _ _)) rfl ⟨(⟨B1,m1,e1⟩,⟨B2,m2,e2⟩),F,by rw [H.out,H2.out],by rw [H2.out];exact (by (repeat (refine Dt.ow_set Bu ?_ en1 _));exact (show Bu.ow _ F y (⟨B1,m1,e1⟩,⟨B2,m2,e2⟩) from oy)),fun x hx=>by have:=nF x hx;omega,?_⟩;repeat (first | (with_reducible exact B0) | refine Ad ?_ Bo _)
 have P1:=Bq p1;go_wp2_with (go_at_call 58;refine (Cl _ _ _ _).mono ?_;rintro e w9 ⟨rfl,rfl⟩;rw [p1])
 refine (CA.out _ B0).mono ?_;rintro e1 w4 ⟨rfl,b4⟩;clear X_;clear P_;clear OB_;replace X:=X.below b4;replace P:=P.below b4;replace OB:=OB.below b4;replace RES:=RES.below b4;replace oy:Bu.ow w4 F y (⟨B1,m1,e1⟩,⟨B2,m2,e2⟩):=owB oy b4;replace oS:=oS.below b4;replace oR:=oR.below b4;replace B0:=Bt B0 b4;replace cC:=Ah cC b4.size;clear b4;have X_:=X.g4;have P_:=P.g5;have OB_:=OB.g4;by_cases p2:0<=Da y id;case pos =>
  have H:=Bq (show Ix y id p=6 by unfold Ix;rw [if_neg (fun h=>h P0.out),if_neg (by rw [P1.out];simp),if_pos p2]);have H2:=Bq (show Iy y id p=y by unfold Iy;rw [H.out,if_neg Bp]);have RES_:=RES.g4;have rf:=RES.free;go_wp2;have en1:w.heap.size+1+1∉F:=fun hx=>by have:=nF _ hx;omega
  refine Aj (Jc (DBox.row4 RES rfl _ _ _ _)) rfl ⟨(⟨B1,m1,e1⟩,⟨B2,m2,e2⟩),F,by rw [H.out,H2.out],by rw [H2.out];exact (by (repeat (refine Dt.ow_set Bu ?_ en1 _));exact (show Bu.ow _ F y (⟨B1,m1,e1⟩,⟨B2,m2,e2⟩) from oy)),fun x hx=>by have:=nF x hx;omega,?_⟩;repeat (first | (with_reducible exact B0) | refine Ad ?_ Bo _)
 have P2:=Bq p2;go_wp2_with fail
 refine (CF.out _ B0).mono ?_;rintro e1 w5 ⟨rfl,b5⟩;clear p1 p2;clear X_;clear P_;clear OB_;replace X:=X.below b5;replace P:=P.below b5;replace OB:=OB.below b5;replace RES:=RES.below b5;replace oy:Bu.ow w5 F y (⟨B1,m1,e1⟩,⟨B2,m2,e2⟩):=owB oy b5;replace oS:=oS.below b5;replace oR:=oR.below b5;replace B0:=Bt B0 b5;replace cC:=Ah cC b5.size;clear b5;have X_:=X.g4;have P_:=P.g5;have OB_:=OB.g4;by_cases p3:Co p=0;case neg =>
  have q3:(Co p != 0)=true:=by simp [p3]
  have H:=Bq (show Ix y id p=Co p by unfold Ix;rw [if_neg (fun h=>h P0.out),if_neg (by rw [P1.out];simp),if_neg (by have:=P2.out;omega),if_pos p3]);have H2:=Bq (show Iy y id p=y by unfold Iy;rw [H.out,if_neg p3]);clear p3;have en1:w.heap.size+1+1∉F:=fun hx=>by have:=nF _ hx;omega
  have RES_:=RES.g4;have rf:=RES.free;have hpb:w.heap.size+1<w5.heap.size:=P.lt;have hobl:ob<w5:=OB.lt;have CF5:=Bq (CF.out _ B0.drew);go_wp2;refine Go.wp_region_noPanic ?_;refine wp_region_held_drew (S:=(fun w'=>DBox ob [.int .i64 y.now,.int .i64 y.seq,.slice B1 m1 e1,.slice B2 m2 e2] w'/\DBox (w.heap.size+1) [.int .i64 p.prio,.int .i64 p.most,.int .i64 p.wait,.int .i64 p.tasks,.slice A3 p.edges.length c3] w')) Bm ⟨DBox.drew4 OB,DBox.drew4 P⟩ (fun hHeld=>?_);replace oy:Bu.ow w5.drew F y (⟨B1,m1,e1⟩,⟨B2,m2,e2⟩):=owB oy (Br _ _).drew;clear RES_;clear rf;replace RES:DBox _ _ w5.drew:=DBox.drew4 RES;replace B0:=B0.drew;clear X_;clear P_;clear OB_;clear OB X P;generalize w5.drew=w5d at *
  refine tV 0 ?_
  (try simp only [pS])
  refine tV 1 ?_
  (try simp only [pS])
  refine rC 2 (fun K_ hK=>?_);go_simp;refine CF5.out.mono ?_;rintro e1 w6 ⟨rfl,b6⟩;replace oy:Bu.ow w6 F y (⟨B1,m1,e1⟩,⟨B2,m2,e2⟩):=owB oy b6;replace RES:=RES.below b6;replace B0:=Bt B0 b6;refine hK.out _ _ ⟨hHeld.1.below b6,hHeld.2.below b6⟩ (fun hHeld=>?_);clear hK K_
  (try simp only [pS])
  have RES_:=RES.g4;have rf:=RES.free;refine rC 3 (fun K_ hK=>?_);go_simp;refine hK.out _ _ ⟨(((hHeld.1.setOther (a:=⟨w.heap.size+1+1,0,Ab⟩) (by show ob≠w.heap.size+1+1;omega) _).setOther (a:=⟨w.heap.size+1+1,1,Ab⟩) (by show ob≠w.heap.size+1+1;omega) _).setOther (a:=⟨w.heap.size+1+1,2,Ab⟩) (by show ob≠w.heap.size+1+1;omega) _).setOther (a:=⟨w.heap.size+1+1,3,Ab⟩) (by show ob≠w.heap.size+1+1;omega) _,(((hHeld.2.setOther (a:=⟨w.heap.size+1+1,0,Ab⟩) (by show w.heap.size+1≠w.heap.size+1+1;omega) _).setOther (a:=⟨w.heap.size+1+1,1,Ab⟩) (by show w.heap.size+1≠w.heap.size+1+1;omega) _).setOther (a:=⟨w.heap.size+1+1,2,Ab⟩) (by show w.heap.size+1≠w.heap.size+1+1;omega) _).setOther (a:=⟨w.heap.size+1+1,3,Ab⟩) (by show w.heap.size+1≠w.heap.size+1+1;omega) _⟩ (fun hHeld=>?_);clear hK K_
  (try simp only [pS])
  refine tV 4 ?_
  (try simp only [pS])
  refine wpAnyH_done Bm ?_ _;refine NoPanic.normal ?_;clear hHeld;clear RES_;clear rf;go_wp2;refine Aj (Jc (DBox.row4 RES rfl _ _ _ _)) rfl ⟨(⟨B1,m1,e1⟩,⟨B2,m2,e2⟩),F,by rw [H.out,H2.out],by rw [H2.out];exact (by (repeat (refine Dt.ow_set Bu ?_ en1 _));exact (show Bu.ow _ F y (⟨B1,m1,e1⟩,⟨B2,m2,e2⟩) from oy)),fun x hx=>by have:=nF x hx;omega,?_⟩;repeat (first | (with_reducible exact B0) | refine Ad ?_ Bo _)
 have q3:(Co p != 0)=false:=by simp [p3]
 have P3:=Bq p3;clear p3;go_wp2_with fail
 refine (CR.out _ B0 rF Bl).mono ?_;rintro e1 w6 ⟨rfl,b6⟩;clear X_;clear P_;clear OB_;replace X:=X.below b6;replace P:=P.below b6;replace OB:=OB.below b6;replace RES:=RES.below b6;replace oy:Bu.ow w6 F y (⟨B1,m1,e1⟩,⟨B2,m2,e2⟩):=owB oy b6;replace oS:=oS.below b6;replace oR:=oR.below b6;replace B0:=Bt B0 b6;replace cC:=Ah cC b6.size;clear b6;have X_:=X.g4;have P_:=P.g5;have OB_:=OB.g4;cases p4:Ln y p;case false =>
  have H:=Bq (show Ix y id p=7 by unfold Ix;rw [if_neg (fun h=>h P0.out),if_neg (by rw [P1.out];simp),if_neg (by have:=P2.out;omega),if_neg (fun h=>h P3.out),if_pos p4]);have H2:=Bq (show Iy y id p=y by unfold Iy;rw [H.out,if_neg Bp]);have RES_:=RES.g4;have rf:=RES.free;go_wp2;have en1:w.heap.size+1+1∉F:=fun hx=>by have:=nF _ hx;omega
  refine Aj (Jc (DBox.row4 RES rfl _ _ _ _)) rfl ⟨(⟨B1,m1,e1⟩,⟨B2,m2,e2⟩),F,by rw [H.out,H2.out],by rw [H2.out];exact (by (repeat (refine Dt.ow_set Bu ?_ en1 _));exact (show Bu.ow _ F y (⟨B1,m1,e1⟩,⟨B2,m2,e2⟩) from oy)),fun x hx=>by have:=nF x hx;omega,?_⟩;repeat (first | (with_reducible exact B0) | refine Ad ?_ Bo _)
 have H:=Bq (show Ix y id p=0 by unfold Ix;rw [if_neg (fun h=>h P0.out),if_neg (by rw [P1.out];simp),if_neg (by have:=P2.out;omega),if_neg (fun h=>h P3.out),if_neg (by rw [p4];simp)]);have H2:=Bq (show Iy y id p=Mm ⟨y.now,y.seq,y.shelf,y.runs ++ [Ci id p]⟩ Gh (Ci id p) by unfold Iy;rw [if_pos H.out]);have qZ:=Bq (show y.runs.length<8 by
  unfold Ln at p4;simp only [Bool.and_eq_true,decide_eq_true_eq] at p4;exact p4.1)
 clear rF;go_wp2_with fail
 refine (CN.out _ B0 P1.out P3.out).mono ?_;rintro e1 w7 ⟨sr,Fr,rfl,orn,nr,b7⟩;have eM:=Bq (show (Ci id p).tasks.length<=12 by have h1:=Oy id p;have h2:=Dw (C9.1 P3.out).1;omega);have nP:=B0.size;have hobw6:=OB.lt;have eQ:∀ x∈Fr,w6<=x:=nr;clear nr;clear X_;clear P_;clear OB_;clear X P;replace OB:=OB.below b7;replace RES:=RES.below b7;replace oS:=oS.below b7;have B7:=Bt B0 b7;have b7s:=b7.size;have XB:=DBox.new 89 [.int .i64 (Ci id p).id,.int .i64 (Ci id p).plan.prio,.int .i64 (Ci id p).plan.most,.int .i64 (Ci id p).plan.wait,.int .i64 (Ci id p).plan.tasks,.slice sr.1.a sr.1.n sr.1.c,.int .i64 (Ci id p).state,.slice sr.2.a sr.2.n sr.2.c] w7 (b:=w7.heap.size) rfl;have b8:Below w7 w7 (w7.alloc (.cells #[.int .i64 (Ci id p).id,.int .i64 (Ci id p).plan.prio,.int .i64 (Ci id p).plan.most,.int .i64 (Ci id p).plan.wait,.int .i64 (Ci id p).plan.tasks,.slice sr.1.a sr.1.n sr.1.c,.int .i64 (Ci id p).state,.slice sr.2.a sr.2.n sr.2.c] 89)):=(Br _ _).alloc (Bs _) _;go_upto_region 13 with fail
 replace OB:=OB.below b8;replace RES:=RES.below b8;replace oS:=oS.below b8;replace B7:=Bt B7 b8;have b78:=Bt b7 b8;have orn8:=Ch.ow_below (F:=Fr) (x:=Ci id p) (s:=sr) orn b8;have fJ:=XB.lt;generalize w7.alloc (.cells #[.int .i64 (Ci id p).id,.int .i64 (Ci id p).plan.prio,.int .i64 (Ci id p).plan.most,.int .i64 (Ci id p).plan.wait,.int .i64 (Ci id p).plan.tasks,.slice sr.1.a sr.1.n sr.1.c,.int .i64 (Ci id p).state,.slice sr.2.a sr.2.n sr.2.c] 89)=w8 at *
 generalize eW:w7.heap.size=xb at *
 have bK:=Bq (show rs.length=y.runs.length by have:=congrArg List.length hm.out;simpa using this);have mU:=Bq (show rs.length<=3000000 by have:=qZ.out;have:=bK.out;omega);have hO:=oR.1;have uJ:=hO.below b78;obtain ⟨A5_,c5_,qU,-⟩:=_root_.id (Rd.of_own hO);have tX:=qU;simp only [Sl.v,Value.slice.injEq] at tX;obtain ⟨rfl,rfl,rfl⟩:=tX;clear qU;have OB_:=OB.g4;have XB_:=XB.g8;have obf:=OB.free;have tK:∀ g,(Value.slice B2 rs.length e2).ownBlock=Ac g->base<=g/\g<w6.heap.size:=fun g hg=>hO.within _ hg;have nR:∀ g,(Value.slice B2 rs.length e2).ownBlock=Ac g->g≠ob:=fun g hg=>qD g hg;have ha:=Bq (show ∀ w:World,Below w w (w.alloc (.cells #[.int .i64 (Ci id p).id,.int .i64 (Ci id p).plan.prio,.int .i64 (Ci id p).plan.most,.int .i64 (Ci id p).plan.wait,.int .i64 (Ci id p).plan.tasks,.slice sr.1.a sr.1.n sr.1.c,.int .i64 (Ci id p).state,.slice sr.2.a sr.2.n sr.2.c] 89)) from fun w=>(Br _ _).alloc (Bs _) _);have qJ:=Bq nR;have fC:=Bq tK;clear nR tK qD;have cW:base<=w8.heap.size:=Bl;go_upto_region 14 with (at_builtin;go_loud (refine By _ Ch.enc Bp rfl (.tmp 49) (.tmp 51) rfl Tryz.underlying29 cB jz0 jz1 jz2 rfl (base:=base) (v:=.slice B2 rs.length e2) (l:=rs) rfl (uJ.below (ha.out w8)) rfl (Rd.one Ch.enc _ _ (Ci id p,sr) rfl rfl 1 (Bs _) (Nat.lt_succ_self _)) mU.out Bn Bp (by simp;omega) ?_);intro v9 w9 o9 g9 f9;obtain ⟨A9,c9,rfl,-⟩:=_root_.id (Rd.of_own o9);simp only [List.length_append,List.length_singleton] at o9 f9;have OB9:=(OB.below (ha.out w8)).off g9 (fun e=>(qJ.out _ e.symm) rfl);have q3:=OB9.cell 3 _ rfl;have qf:=OB9.free;have ql:=OB9.lt)
 have hP:=oR.push1 b78 orn8 eQ cC (ha.out w8) o9 g9 f9;have uT:=hP.owl (l:=y.runs ++ [Ci id p]) (by rw [List.map_append,hm.out];rfl);have g9s:=g9.size;simp only [Bj] at g9s;have fZ:∀ x∈Dz (.slice A9 (rs.length+1) c9) (rs ++ [(Ci id p,sr)]).length ++ (G0 ++ Fr),x≠ob/\base<=x:=fun x hx=>by
  rcases Bi.1 hx with hx | hx
  ·have h1:=G4 _ _ _ hx;refine ⟨?_,(o9.within x h1).1⟩;rcases f9 with h2 | h2
   ·rw [h2] at h1;exact qJ.out _ h1
   ·rw [h2] at h1
    have:=Option.some.inj h1
    simp only [Bj] at this;omega
  ·rcases Bi.1 hx with hx | hx
   ·exact ⟨by have:=tR x hx;omega,(oR.2.2.2 x hx).1⟩
   ·exact ⟨by have:=eQ x hx;omega,by have:=eQ x hx;omega⟩
 generalize Dz (.slice A9 (rs.length+1) c9) (rs ++ [(Ci id p,sr)]).length ++ (G0 ++ Fr)=F2 at *
 have XB9:=(XB.below (ha.out w8)).off g9 (fun e=>by have h1:=(fC.out _ e.symm).2;omega);have RES9:=(RES.below (ha.out w8)).off g9 (fun e=>by have h1:base<=w.heap.size+1+1:=(fC.out _ e.symm).1;omega);have oS9:=(oS.below (ha.out w8)).grown g9 (fun b hb e=>by have h1:=(fC.out b e).1;have h2:=(eD b hb).2;omega);have orn9:=Ch.ow_keep (Ch.ow_below (F:=Fr) (x:=Ci id p) (s:=sr) orn8 (ha.out w8)) g9.size (fun b cK=>g9.block b (Ch.ow_lt (F:=Fr) (x:=Ci id p) (s:=sr) (Ch.ow_below (F:=Fr) (x:=Ci id p) (s:=sr) orn8 (ha.out w8)) b cK) (fun e=>by have h1:=(fC.out _ e.symm).2;have h2:=eQ b cK;omega));have B9:Below w w w9:=(Bt B7 (ha.out w8)).grown g9 (Bt B7 (ha.out w8)).size (fun g hg=>by have h1:=(fC.out g hg).1;omega);have nJ:w<=ob:=Bl;have OB10:DBox ob [.int .i64 y.now,.int .i64 y.seq,.slice B1 m1 e1,.slice A9 (rs.length+1) c9] (w9.setCell ⟨ob,3,Ab⟩ (.slice A9 (rs.length+1) c9)):=OB9.set 3 Bn _;have XB10:=XB9.setOther (a:=⟨ob,3,Ab⟩) (by show xb≠ob;omega) (.slice A9 (rs.length+1) c9);have RES10:=RES9.setOther (a:=⟨ob,3,Ab⟩) (by show w.heap.size+1+1≠ob;omega) (.slice A9 (rs.length+1) c9);have oS10:=oS9.set (a:=⟨ob,3,Ab⟩) (fun hx=>by have h1:_/\ob<base:=eD _ hx;omega) (.slice A9 (rs.length+1) c9);have oR10:=uT.set (a:=⟨ob,3,Ab⟩) (fun hx=>(fZ _ hx).1 rfl) (.slice A9 (rs.length+1) c9);have orn10:=Ch.ow_set (F:=Fr) (x:=Ci id p) (s:=sr) orn9 (a:=⟨ob,3,Ab⟩) (fun hx=>by have h1:w6<=ob:=eQ _ hx;omega) (.slice A9 (rs.length+1) c9);have B10:Below w w (w9.setCell ⟨ob,3,Ab⟩ (.slice A9 (rs.length+1) c9)):=Ad B9 (by show w.heap.size<=ob;omega) _;clear OB9 XB9 RES9 oS9 orn9 B9 uT hP XB RES oS B7 OB o9 g9 f9 q3 qf ql orn8 hO uJ oR obf qJ;clear OB_;clear XB_;generalize w9.setCell ⟨ob,3,Ab⟩ (.slice A9 (rs.length+1) c9)=w10 at *
 have OB10_:=OB10.g4;have XB10_:=XB10.g8;obtain rfl:m1=y.shelf.length:=RdL.at1 (s:=⟨B1,m1,e1⟩) oS10.rd;obtain ⟨g,o,_,rfl,fS,_,_⟩:=RdL.entryS (show RdL (Dt.list Bx) w10 w10.heap.size (.slice B1 y.shelf.length e1) y.shelf from oS10.rd) (k:=0) (by have:=h4.out;omega);have eI:g∈F1:=OwL.block_mem (show OwL (Dt.list Bx) w10 F1 (.slice (Ac ⟨g,o,Ab⟩) y.shelf.length e1) y.shelf from oS10) (by have:=h4.out;omega);have rH:=eD g eI;have hRlt:=oR10.lt;have bM:=Bq (show ∀ x,x∈[g]->x=g from fun x hx=>by simpa using hx);refine Go.wp_region_noPanic ?_;refine wp_region_held_drew (S:=(fun w'=>DBox xb [.int .i64 id,.int .i64 p.prio,.int .i64 p.most,.int .i64 p.wait,.int .i64 p.tasks,.slice sr.1.a sr.1.n sr.1.c,.int .i64 (Ci id p).state,.slice sr.2.a sr.2.n sr.2.c] w')) Bm (show DBox xb _ w10.drew from XB10.below (Br _ _).drew) (fun hHeld=>?_);clear XB10_;refine tY 0 ?_
 (try simp only [pS])
 refine tY 1 ?_
 (try simp only [pS])
 have bd:Below w10 w10 w10.drew:=(Br _ _).drew;have rB:Hid ((Ci id p).tasks.length<=2000000):=by
  have h1:(Ci id p).tasks.length=p.tasks.toNat:=by unfold Ci;simp
  have h2:=Dw (C9.1 P3.out).1;have h3:(Ci id p).tasks.length<=2000000:=Bl;exact Bq h3
 have CT:=Bq (Ho (Ci id p) sr 2 w10.drew rB.out (Ch.ow_rd (F:=Fr) (x:=Ci id p) (s:=sr) (Ch.ow_below (F:=Fr) (x:=Ci id p) (s:=sr) orn10 bd)));refine rC 2 (fun K_ hK=>?_);go_simp;refine CT.out.mono ?_;rintro e7 wa ⟨v7,rfl,o7,b7⟩;refine hK.out _ _ (hHeld.below b7) (fun hHeld=>?_);clear hK K_
 (try simp only [pS])
 have pX:w10.drew.heap.size=w10.heap.size:=rfl;have ba:Below w10 w10 wa:=Bt bd b7;clear bd b7 CT;replace OB10:=OB10.below ba;replace RES10:=RES10.below ba;replace oS10:=oS10.below ba;replace oR10:=oR10.below ba;replace B10:=Bt B10 ba;have sU:=ba.size;have hRlt:=oR10.lt;obtain ⟨A7,c7,rfl,-⟩:=_root_.id (Rd.of_own o7);have hobF:ob∉F1:=fun hx=>by have h1:_/\ob<base:=eD _ hx;omega
 have eY:=Bq (show ∀ x,x∈[ob,g]->x=ob\/x=g from fun x hx=>by simpa using hx);have CS:=Bq (Ol ⟨y.now,y.seq,y.shelf,y.runs ++ [Ci id p]⟩ ob g o e1 ⟨A9,rs.length+1,c9⟩ (Ci id p) sr (G7 (Ci id p).tasks 2) A7 _ c7 wa F1 h4.out (fun s hs=>by have:=(cV.out s hs).1;omega) (by dsimp only;omega) (Ah (Kp _ _ _) (by have:=eM.out;omega)) OB10 oS10 hobF (Bq fun W hW=>o7.rdHi hW (fun x hx=>by rcases eY.out x hx with h | h<;>(left;omega))));rw [<-Ac7] at CS;unfold Nz at CS;dsimp only at CS;have fU:=Bq (show (Mm ⟨y.now,y.seq,y.shelf,y.runs ++ [Ci id p]⟩ Gh (Ci id p)).runs=y.runs ++ [Ci id p] from (O4 (y:=⟨y.now,y.seq,y.shelf,y.runs ++ [Ci id p]⟩) (was:=Gh) (r:=Ci id p) (M:=80) (fun s hs=>(cV.out s hs).1) (Ci id p).tasks.length).runs);generalize Mm ⟨y.now,y.seq,y.shelf,y.runs ++ [Ci id p]⟩ Gh (Ci id p)=Z at *
 refine rC 3 (fun K_ hK=>?_);go_simp;refine CS.out.mono ?_;rintro e8 w11 ⟨rfl,F1',q1,Y6,q2,q3⟩;refine hK.out _ _ (hHeld.chg q3 (fun hx=>by rcases eY.out _ hx with h | h<;>omega)) (fun hHeld=>?_);clear hK K_
 (try simp only [pS])
 refine wpAnyH_done Bm ?_ _;refine NoPanic.normal ?_;clear hHeld CS o7 OB10;have hs11:=q3.size;have RES11:=RES10.chg q3 (fun hx=>by rcases eY.out _ hx with h | h<;>omega);have oR11:=oR10.chg q3 (fun x hx h=>by
  have h2:=fZ x hx;rcases eY.out x h with h1 | h1
  ·exact h2.1 h1
  ·omega)
 have B11:=B10.trans (q3.below (by have:=B10.size;omega) (fun x hx=>by rcases eY.out _ hx with h | h<;>omega));clear RES10;have RES11_:=RES11.g4;have Y6_:=Y6.g4;have rf:=RES11.free;go_wp2;have en1:w.heap.size+1+1∉F1':=fun hx=>by
  rcases q2 _ hx with h | h
  ·have:=(eD _ h).1;omega
  ·have:=B10.size;omega
 have en2:w.heap.size+1+1∉F2:=fun hx=>by have:=(fZ _ hx).2;omega
 refine Aj (Jc (DBox.row4 RES11 rfl _ _ _ _)) rfl ⟨(⟨Ac ⟨g,o,Ab⟩,y.shelf.length,e1⟩,⟨A9,rs.length+1,c9⟩),F1' ++ F2,by rw [H.out,H2.out],⟨F1',F2,rfl,?_,?_,?_⟩,fun x hx=>?_,?_⟩
 ·rw [Ax];refine ⟨q1.nodup,oR11.nodup,fun a ha b hb e=>?_⟩;subst e;have h3:=fZ a hb;have h4:=hRlt a hb;rcases q2 a ha with h | h
  ·have:=(eD a h).2;omega
  ·omega
 ·rw [H2.out];show OwL (Dt.list Bx) _ F1' (.slice (Ac ⟨g,o,Ab⟩) y.shelf.length e1) Z.shelf;exact ((((q1.set (a:=⟨_,_,Ab⟩) en1 _).set (a:=⟨_,_,Ab⟩) en1 _).set (a:=⟨_,_,Ab⟩) en1 _).set (a:=⟨_,_,Ab⟩) en1 _)
 ·rw [H2.out];show OwL Ch _ F2 (.slice A9 (rs.length+1) c9) Z.runs;rw [fU.out];exact ((((oR11.set (a:=⟨_,_,Ab⟩) en2 _).set (a:=⟨_,_,Ab⟩) en2 _).set (a:=⟨_,_,Ab⟩) en2 _).set (a:=⟨_,_,Ab⟩) en2 _)
 ·rcases Bi.1 hx with hx | hx
  ·rcases q2 x hx with h | h
   ·have:=(eD x h).1;omega
   ·have:=B10.size;omega
  ·have:=(fZ x hx).2;omega
 ·repeat (first | (with_reducible exact B11) | refine Ad ?_ Bo _)
theorem Abf (y:Yard) (s:Sl×Sl) (p:Nat) (e:Entry) (w:World) (hl:Cb y<=2000000) (X:DBox p (Eh y s) w) (h:Bu.rd w w y s) :
  Calls Am 134 #[Hd e (),.pointer (Ac ⟨p,0,Ab⟩)] w fun e' w'=>e' = .returned (.bool (!El y e))/\Below w w w':=by
 have CF:=Bq (fun W (hW:Below w w W)=>Od y s e W hl (Bu.rd_more (Bu.rd_below h hW) hW.size));obtain ⟨⟨A1,n1,c1⟩,⟨A2,n2,c2⟩⟩:=s;have B0:Below w w (w.alloc (.cells #[J U e.prio,J U e.seq,J U e.run,J U e.task] 93)):=(Br _ _).alloc (Bs _) _;have E:=DBox.new 93 [J U e.prio,J U e.seq,J U e.run,J U e.task] w (b:=w.heap.size) rfl;have CF:=Bq (CF.out _ B0);replace X:=X.below B0;clear h hl;have X_:=X.g4;have E_:=E.g4;go_enter Tryz.func134,Tryz.ntmps134;go_wp2_with fail
 refine CF.out.mono ?_;rintro e1 w1 ⟨rfl,b1⟩;go_wp2;go_ret;exact ⟨rfl,Bt B0 b1⟩
theorem Abg {b:Nat} {w:World} {u0 u1 u2 u3:Value} (X:DBox b [u0,u1,u2,u3] w) {v0 v1 v2 v3:Value} {rest:List Value} :
  (results Tryz.f70 (v0 :: v1 :: v2 :: v3 :: .pointer (Ac ⟨b,0,Ab⟩) :: rest).toArray).run Am w = .ok (.agg #[u0,u1,u2,u3]) w:=by
 obtain ⟨c0,c1,c2,c3,-⟩:=X.g4;simp [results,Tryz.results70,go_sem,c0,c1,c2,c3]
theorem Op (y:Yard) (s:Sl×Sl) (i:Nat) (w:World) (hi:i<y.shelf.length) (hl:Cb y<=2000000) (h:Bu.rd w w y s) :
  Calls Am 70 #[Dg y s,J U i] w (Di Bu Dg (Bz y i) w):=by
 have HR:=Bq (show ∀ W,Below w w W->Bu.rd W W y s from fun W hW=>Bu.rd_more (Bu.rd_below h hW) hW.size);obtain ⟨⟨A1,n1,c1⟩,⟨A2,n2,c2⟩⟩:=s;obtain rfl:n1=y.shelf.length:=RdL.at1 (s:=⟨A1,n1,c1⟩) h.1;have CC:=Bq (fun W hW=>Eo y (⟨A1,y.shelf.length,c1⟩,⟨A2,n2,c2⟩) W hl (HR.out W hW));have pW:y.shelf[i].length<=2000000:=by
  have h1:=Ds (cnt:=C8) (Aw hi);have h2:y.shelf[i].length<=C8 y.shelf[i]:=Ck _ _;unfold Cb at hl;omega
 have hshl:y.shelf.length<=2000000:=Ah (Ck C8 _) (by unfold Cb at hl;omega);clear h;have hiI:(i:Int)<(y.shelf.length:Int):=Bl;have hi00:(0:Int)<=(i:Int):=Bl;obtain ⟨W,aG,X,RES,B0⟩:=bx2 w 31 [J U y.now,J U y.seq,Aa A1 y.shelf.length c1,Aa A2 n2 c2] 31 [J U 0,J U 0,Aa Ab 0 0,Aa Ab 0 0];go_enter Tryz.func70,Tryz.ntmps70;go_wp2_with fail
 rw [<-aG.out];clear aG;refine (CC.out _ B0).mono ?_;rintro e1 w1 ⟨⟨⟨B1,m1,e1⟩,⟨B2,m2,e2⟩⟩,F,rfl,oy,nF,b1⟩;have dK:=RES.lt;have b2:Below w1 w1 (w1.alloc (.cells #[J U y.now,J U y.seq,Aa B1 m1 e1,Aa B2 m2 e2] 31)):=(Br _ _).alloc (Bs _) _;have OB:DBox w1 (Eh y (⟨B1,m1,e1⟩,⟨B2,m2,e2⟩)) _:=DBox.new 31 [J U y.now,J U y.seq,Aa B1 m1 e1,Aa B2 m2 e2] w1 (b:=w1.heap.size) rfl;have bP:=Bq (Bu.ow_lt (F:=F) (x:=y) (s:=(⟨B1,m1,e1⟩,⟨B2,m2,e2⟩)) oy);have cL:=Bq (show ∀ x∈F,w.heap.size+1<x from fun x hx=>by have:=nF x hx;omega);replace oy:Bu.ow _ F y (⟨B1,m1,e1⟩,⟨B2,m2,e2⟩):=owB oy b2;have b12:=Bt b1 b2;replace X:=X.below b12;replace RES:=RES.below b12;replace B0:=Bt B0 b12;have bL:=b1.size;clear b1 b2 b12 CC nF;go_upto_region 2 with fail
 have cJ:w1.heap.size∉F:=fun h=>by have:=bP.out _ h;omega
 have hobR:w.heap.size+1<w1.heap.size:=Bl;generalize w1.heap.size=ob at *
 generalize w1.alloc (.cells #[J U y.now,J U y.seq,Aa B1 m1 e1,Aa B2 m2 e2] 31)=w2 at *
 have wr1:U.wrap ((y.shelf.length:Int) - 1)=(y.shelf.length:Int) - 1:=Aq _ Bl;have q:inB (i:Int) 0 ((y.shelf.length:Int) - 1)=true:=Cv.2 Bl;have X_:=X.g4;go_wp2_with (go_at_call 58;refine (Cl _ _ _ _).mono ?_;rintro e w9 ⟨rfl,rfl⟩;rw [q])
 clear X_;have eZ:=Bq hl;have bd:Below w2 w2 w2.drew:=(Br _ _).drew;obtain ⟨F1,F2,rfl,bN,os,orr⟩:=oy;replace os:OwL (Dt.list Bx) w2 F1 (Aa B1 m1 e1) y.shelf:=os;replace orr:OwL Ch w2 F2 (Aa B2 m2 e2) y.runs:=orr;obtain rfl:m1=y.shelf.length:=RdL.at1 (s:=⟨B1,m1,e1⟩) os.rd;obtain ⟨g,o,_,rfl,hg,_,_⟩:=os.rd.entryS hi;obtain ⟨OB_0,OB_1,OB_2,OB_3,OB_l⟩:=OB.g4;obtain ⟨⟨A9,n9,c9⟩,Fx,kS,bF,kK,eI,fU,aX,cF⟩:=OwL.trade (os.below bd) hi;replace kS:OwL Bx w2.drew Fx (Aa A9 n9 c9) y.shelf[i]:=kS;obtain rfl:n9=y.shelf[i].length:=RdL.at1 (s:=⟨A9,n9,c9⟩) kS.rd;have ck:w2.drew.cell? ⟨g,o+i,Ab⟩=Ac (Aa A9 y.shelf[i].length c9):=by
  have:=aX 0 _ rfl
  rw [show o+i * (Dt.list Bx).enc.sz+0=o+i from by show o+i * 1+0=o+i;omega] at this;exact this
 have hXn:w.heap.size∉Fx:=fun hx=>by have:=cL.out _ (Bf _ (bF _ hx));omega
 have jX:=Bt B0 bd;have Xd:=X.below bd;have jR:∀ (W:World) (x:Entry),Below w w W->DBox w [J U y.now,J U y.seq,Aa A1 y.shelf.length c1,Aa A2 n2 c2] W->Calls Am 134 #[Hd x (),.pointer (Ac ⟨w,0,Ab⟩)] W fun e w'=>e = .returned (.bool (!El y x))/\Below W W w' :=
  fun W x hW hX=>Abf y (⟨A1,y.shelf.length,c1⟩,⟨A2,n2,c2⟩) w x W eZ.out hX (HR.out W hW)
 have CD:=Bq (Rg y.shelf[i] A9 y.shelf[i].length c9 Fx 134 w.heap.size (fun e=>!El y e) (Mn Tryz.func134 Bm Bm) w2.drew pW
  (fun W x hW=>jR W x (jX.trans (hW.below jX.size (fun z hz=>by have:=cL.out _ (Bf _ (bF _ hz));omega))) (Xd.chg hW hXn))
  (Oz 134 w (fun e=>!El y e) (Mn Tryz.func134 Bm Bm) y.shelf[i] A9 y.shelf[i].length c9 w2.drew pW (Ps kS).rd (fun W x hW=>jR W x (jX.trans (hW.mono jX.size)) (Xd.below hW)))
  (Ps kS))
 clear jR eZ;refine Cz (fun w'=>w'.cell? ⟨ob,2,Ab⟩=Ac (Aa (Ac ⟨g,o,Ab⟩) y.shelf.length e1)/\w'.cell? ⟨g,o+i,Ab⟩=Ac (Aa A9 y.shelf[i].length c9)) 11 Bm ?_ (fun hHeld=>?_)
 ·exact ⟨OB_2,ck⟩
 refine aT 0 hHeld ?_;try simp only [pS]
 refine aT 1 hHeld ?_;try simp only [pS]
 refine aT 2 hHeld ?_;try simp only [pS]
 refine aT 3 hHeld ?_;try simp only [pS]
 refine aT 4 hHeld ?_;try simp only [pS]
 refine aT 5 hHeld ?_;try simp only [pS]
 refine aT 6 hHeld ?_;try simp only [pS]
 refine aT 7 hHeld ?_;try simp only [pS]
 refine aT 8 hHeld ?_;try simp only [pS]
 refine oT 9 (fun K hK=>?_)
 (go_simp;refine CD.out.mono ?_;rintro e7 wa ⟨k9,F',rfl,hH,dV,hC⟩)
 have fS:g<w2.drew:=os.lt g eI;have gC:ob<w2.drew:=OB.lt;have nG:ob∉Fx:=fun hx=>cJ (Bf _ (bF _ hx));have eB:ob≠g:=fun e=>cJ (by rw [e];exact Bf _ eI);have hgn:=cL.out g (Bf _ eI);have sK:=(hC.cell (p:=⟨ob,2,Ab⟩) gC nG).trans hHeld.1;have ck2:=(hC.cell (p:=⟨g,_,Ab⟩) fS kK).trans ck;have hgf2:∀ j,wa.frozen? ⟨g,j,Ab⟩=false:=fun j=>(hC.frozen (p:=⟨g,_,Ab⟩) fS kK).trans (fU j);refine hK.out _ _ (fun _=>⟨sK,ck2⟩) ?_;clear hK K;try simp only [pS]
 refine oT 10 (fun K hK=>?_);go_simp;refine hK.out _ _ (fun _=>⟨sK,ck2⟩) ?_;clear hK K;try simp only [pS]
 have hga:=hC.size;refine oT 11 (fun K hK=>?_);go_simp;refine hK.out _ _ (fun aC=>absurd rfl aC) ?_;clear hK K hHeld;try simp only [pS]
 refine Dr Bm ?_ _;obtain ⟨F3,o3,tD,rS⟩:=cF wa (y.shelf[i].filter fun x=>!!El y x) ⟨A9,k9,c9⟩ F' hC (V8 hH) dV;have fB:G9 wa g (o+i * (Dt.list Bx).enc.sz) ((Dt.list Bx).enc.cells ((y.shelf[i].filter fun x=>!!El y x),(⟨A9,k9,c9⟩:Sl)))=wa.setCell ⟨g,o+i,Ab⟩ (Aa A9 k9 c9):=by
  show G9 wa g (o+i * 1) [Aa A9 k9 c9]=_;rw [Nat.mul_one];rfl
 rw [fB] at o3;have hd12:∀ x∈F1,x∉F2:=fun x hx hx2=>(Ax.1 bN).2.2 x hx x hx2 rfl;have hS:=Chg.setCell wa g (o+i) (Aa A9 k9 c9);have bM:=Bq (show ∀ x,x∈[g]->x=g from fun x hx=>by simpa using hx);have orr3:=((orr.below bd).chg hC (fun x hx hx2=>hd12 x (bF x hx2) hx)).chg hS (fun x hx hx2=>by have:=bM.out x hx2;subst this;exact hd12 x eI hx);have hX3:w.heap.size+1∉Fx:=fun hx=>by have:=cL.out _ (Bf _ (bF _ hx));omega
 have RES3:=((RES.below bd).chg hC hX3).chg hS (fun hx=>by have:=bM.out _ hx;omega);have OB3:=((OB.below bd).chg hC nG).chg hS (fun hx=>eB (bM.out _ hx));have B3:=(jX.trans (hC.below jX.size (fun z hz=>by have:=cL.out _ (Bf _ (bF _ hz));omega))).trans (hS.below (base:=w.heap.size) (by have:=jX.size;omega) (fun x hx=>by have:=bM.out x hx;omega));have oyF:Bu.ow (wa.setCell ⟨g,o+i,Ab⟩ (Aa A9 k9 c9)) (F3 ++ F2) (Bz y i) (⟨Ac ⟨g,o,Ab⟩,y.shelf.length,e1⟩,⟨B2,m2,e2⟩):=by
  refine ⟨F3,F2,rfl,?_,?_,orr3⟩
  ·rw [Ax] at bN ⊢;exact ⟨o3.nodup,bN.2.1,fun a ha b hb e=>hd12 a (tD a ha) (by rw [e];exact hb)⟩
  ·have hE:(Bz y i).shelf=y.shelf.set i (y.shelf[i].filter fun x=>!!El y x):=by
    show y.shelf.set i ((y.shelf.getD i []).filter fun e=>El y e)=_;rw [List.getD_eq_getElem?_getD,List.getElem?_eq_getElem hi];simp
   show OwL (Dt.list Bx) _ F3 (Aa (Ac ⟨g,o,Ab⟩) y.shelf.length e1) (Bz y i).shelf;rw [hE];exact o3
 have jD:∀ x∈F3 ++ F2,w.heap.size+1<x:=fun x hx=>by
  rcases Bi.1 hx with hx | hx
  ·exact cL.out x (Bf _ (tD x hx))
  ·exact cL.out x (List.mem_append_right _ hx)
 have jD:=Bq jD;clear o3 tD rS cF hC hH dV CD os orr orr3 kS aX ck ck2 sK hgf2 fU hd12 bF cL hX3 hS RES X Xd B0 jX bd;clear OB_0 OB_1 OB_2 OB_3 OB_l;clear OB;generalize wa.setCell ⟨g,o+i,Ab⟩ (Aa A9 k9 c9)=w6 at *
 have OB:=OB3;have RES:=RES3;obtain ⟨OB_0,OB_1,OB_2,OB_3,OB_l⟩:=OB.g4;have RES_:=RES.g4;have rf:=RES.free;go_wp2;have en1:w.heap.size+1∉F3 ++ F2:=fun hx=>by have:=jD.out _ hx;omega
 refine Aj (Abg (DBox.row4 RES rfl _ _ _ _)) rfl ⟨(⟨Ac ⟨g,o,Ab⟩,y.shelf.length,e1⟩,⟨B2,m2,e2⟩),F3 ++ F2,rfl,Bu.set4 (F:=F3 ++ F2) (x:=Bz y i) (s:=(⟨Ac ⟨g,o,Ab⟩,y.shelf.length,e1⟩,⟨B2,m2,e2⟩)) oyF en1,fun x hx=>by have:=jD.out x hx;omega,?_⟩;repeat (first | (with_reducible exact B3) | refine Ad ?_ Bo _)
section
def I6 (k n:Nat):List (Nat×Nat):=(List.range n).map fun t=>(k,t)
def G8 (y:Yard) (k:Nat):List (Nat×Nat):=(List.range k).flatMap fun j=>I6 j (Gl y j).tasks.length
theorem Rl (k n:Nat):I6 k (n+1)=I6 k n ++ [(k,n)]:=by
 unfold I6;rw [List.range_succ,List.map_append];rfl
theorem Nq (y:Yard) (k:Nat):G8 y (k+1)=G8 y k ++ I6 k (Gl y k).tasks.length:=by
 unfold G8;rw [List.range_succ,List.flatMap_append];simp
open Classical in
noncomputable def Le (y:Yard):Yard:=if Dd y then Ew y (G8 y y.runs.length) else y
theorem Rm {b:Nat} {w:World} {u0 u1 u2 u3:Value} (X:DBox b [u0,u1,u2,u3] w) {v0 v1:Value} {rest:List Value} :
  (results Tryz.f150 (v0 :: v1 :: .pointer (Ac ⟨b,0,Ab⟩) :: rest).toArray).run Am w = .ok (.agg #[u0,u1,u2,u3]) w:=by
 have c0:=X.cell 0 _ rfl;have c1:=X.cell 1 _ rfl;have c2:=X.cell 2 _ rfl;have c3:=X.cell 3 _ rfl;simp [results,Tryz.results150,go_sem,c0,c1,c2,c3]
theorem Sj (y:Yard) (s:Sl×Sl) (w:World) (hl:Cb y<=2000000) (h:Bu.rd w w y s) :
  Calls Am 150 #[Dg y s] w (Di Bu Dg (Le y) w):=by
 have HR:=Bq (show ∀ W,Below w w W->Bu.rd W W y s from fun W hW=>Bu.rd_more (Bu.rd_below h hW) hW.size);obtain ⟨⟨A1,n1,c1⟩,⟨A2,n2,c2⟩⟩:=s;have CC:=Bq (fun W hW=>Ed y (⟨A1,n1,c1⟩,⟨A2,n2,c2⟩) W hl (HR.out W hW));have CY:=Bq (fun W hW=>Fj y (⟨A1,n1,c1⟩,⟨A2,n2,c2⟩) W hl (HR.out W hW));clear h;obtain ⟨W,aG,X,RES,B0⟩:=bx2 w 31 [J U y.now,J U y.seq,Aa A1 n1 c1,Aa A2 n2 c2] 31 [J U 0,J U 0,Aa Ab 0 0,Aa Ab 0 0];go_enter Tryz.func150,Tryz.ntmps150;go_wp2_with fail
 rw [<-aG.out];clear aG;have dK:w.heap.size+1<W.heap.size:=RES.lt;refine (CC.out _ B0).mono ?_;rintro e1 w1 ⟨⟨⟨B1,m1,e1⟩,⟨B2,m2,e2⟩⟩,F,rfl,oy,nF,b1⟩;have bL:=b1.size;have cH:=Bu.ow_lt (F:=F) (x:=y) (s:=(⟨B1,m1,e1⟩,⟨B2,m2,e2⟩)) oy;replace X:=X.below b1;replace RES:=RES.below b1;replace B0:=Bt B0 b1;clear b1;go_upto_region 2 with fail
 have OB:=DBox.new 31 [J U y.now,J U y.seq,Aa B1 m1 e1,Aa B2 m2 e2] w1 (b:=w1.heap.size) rfl;have b2:Below w1 w1 (w1.alloc (.cells #[J U y.now,J U y.seq,Aa B1 m1 e1,Aa B2 m2 e2] 31)):=(Br _ _).alloc (Bs _) _;replace X:=X.below b2;replace RES:=RES.below b2;replace oy:=Bu.ow_below (F:=F) (x:=y) (s:=(⟨B1,m1,e1⟩,⟨B2,m2,e2⟩)) oy b2;replace B0:=Bt B0 b2;have ow1:=OB.lt;clear b2;generalize w1.alloc (.cells #[J U y.now,J U y.seq,Aa B1 m1 e1,Aa B2 m2 e2] 31)=w2 at *
 generalize cJ:w1.heap.size=ob at *
 have X_:=X.g4;obtain ⟨OB_0,OB_1,OB_2,OB_3,OB_l⟩:=OB.g4;go_wp2_with fail
 refine (CY.out _ B0).mono ?_;rintro e1 w3 ⟨rfl,b3⟩;clear X_;clear OB_0 OB_1 OB_2 OB_3 OB_l;replace X:=X.below b3;replace OB:=OB.below b3;replace RES:=RES.below b3;replace oy:Bu.ow w3 F y (⟨B1,m1,e1⟩,⟨B2,m2,e2⟩):=owB oy b3;replace B0:=Bt B0 b3;clear b3;have X_:=X.g4;obtain ⟨OB_0,OB_1,OB_2,OB_3,OB_l⟩:=OB.g4;by_cases p0:Dd y;case neg =>
  rw [Cf p0];have H2:=Bq (show Le y=y from if_neg p0);clear p0;have RES_:=RES.g4;have rf:=RES.free;go_wp2;have en1:w.heap.size+1∉F:=fun hx=>by have:=nF _ hx;omega
  refine Aj (Rm (DBox.row4 RES rfl _ _ _ _)) rfl ⟨(⟨B1,m1,e1⟩,⟨B2,m2,e2⟩),F,by rw [H2.out],by rw [H2.out];exact (by (repeat (refine Dt.ow_set Bu ?_ en1 _));exact (show Bu.ow _ F y (⟨B1,m1,e1⟩,⟨B2,m2,e2⟩) from oy)),fun x hx=>by have:=nF x hx;omega,?_⟩;repeat (first | (with_reducible exact B0) | refine Ad ?_ Bo _)
 rw [Dj p0];have P0:=Bq p0;have H2:=Bq (show Le y=Ew y (G8 y y.runs.length) from if_pos p0);clear p0;have jK:ob<w3:=OB.lt;have hB3:=B0.size;have fB:w.heap.size+1<w3.heap.size:=Bl;have qZ:y.runs.length<=8:=P0.out.2.2.2.2.2.2.1;have fV:Hid ((∀ x∈F,w.heap.size+1<x)/\ob∉F/\True):=⟨fun x hx=>by have:=nF x hx;omega,fun hx=>by have:=cH _ hx;omega,trivial⟩
 clear X_;clear OB_0 OB_1 OB_2 OB_3 OB_l;clear X HR CC CY nF cH;go_wp2;go_loopw [4] (fun iv wr=>∃ (k:Nat) (Z:Yard) (s:Sl×Sl) (F:List Nat),k<=y.runs.length/\iv = J U k/\Hid (Trn y (12 * k) Z)/\Hid (Ew y (G8 y k)=Z)/\Hid (Bu.ow wr F Z s)/\Hid ((∀ x∈F,w.heap.size+1<x)/\ob∉F/\True)/\DBox ob (Eh Z s) wr/\DBox (w.heap.size+1) [J U 0,J U 0,Aa Ab 0 0,Aa Ab 0 0] wr/\Below w w wr/\w3.heap.size<=wr.heap.size) (fun i _=>y.runs.length - (intOf i).toNat);case atStart=>exact ⟨0,y,(⟨B1,m1,e1⟩,⟨B2,m2,e2⟩),F,Ag _,rfl,Trn.start P0.out,rfl,oy,fV,OB,RES,B0,Bs _⟩
 case round =>
  clear oy fV OB RES B0;obtain ⟨k,Z,s,F,hk,rfl,hT,hZ,oy,hF,OB,RES,hb,mC⟩:=hrel;obtain ⟨⟨B1,m1,e1⟩,⟨B2,m2,e2⟩⟩:=s;have dJ:=Bq (show m2=y.runs.length from (RdL.at1 (s:=⟨B2,m2,e2⟩) (Bu.ow_rd oy.out).2).trans hT.out.len);obtain ⟨OB_0,OB_1,OB_2,OB_3,OB_l⟩:=OB.g4;by_cases aA:k<y.runs.length
  ·have aB:(k:Int)<(m2:Int):=by have:=dJ.out;omega
   have dB:(0:Int)<=(k:Int):=Bl;go_wp2;go_loopw [5] (fun iv wr=>∃ (t:Nat) (Z:Yard) (s:Sl×Sl) (F:List Nat),t<=y.runs[k].tasks.length/\iv = J U t/\Hid (Trn y (12 * k+t) Z)/\Hid (Ew y (G8 y k ++ I6 k t)=Z)/\Hid (Bu.ow wr F Z s)/\Hid ((∀ x∈F,w.heap.size+1<x)/\ob∉F/\True)/\DBox ob (Eh Z s) wr/\DBox (w.heap.size+1) [J U 0,J U 0,Aa Ab 0 0,Aa Ab 0 0] wr/\Below w w wr/\w3.heap.size<=wr.heap.size) (fun i _=>y.runs[k].tasks.length - (intOf i).toNat);case atStart=>exact ⟨0,Z,(⟨B1,m1,e1⟩,⟨B2,m2,e2⟩),F,Ag _,rfl,hT,by rw [show I6 k 0=[] from rfl,List.append_nil];exact hZ,oy,hF,OB,RES,hb,mC⟩
   case round =>
    clear OB_0 OB_1 OB_2 OB_3 OB_l;clear oy hF OB RES hb mC hT hZ dJ aB;obtain ⟨t,Z,s,F,ht,rfl,hT,hZ,oy,hF,OB,RES,hb,mC⟩:=hrel;obtain ⟨⟨B1,m1,e1⟩,⟨B2,m2,e2⟩⟩:=s;replace oy:Bu.ow wr F Z (⟨B1,m1,e1⟩,⟨B2,m2,e2⟩):=oy.out;have bP:∀ x∈F,x<wr:=Bu.ow_lt (F:=F) (x:=Z) (s:=(⟨B1,m1,e1⟩,⟨B2,m2,e2⟩)) oy;have fH:=(Dp (D7 P0.out aA)).2;have dR:k<Z.runs.length:=by rw [hT.out.len];exact aA
    have fN:=hT.out.run k dR aA;have oyr:=(Bu.ow_rd (F:=F) (x:=Z) (s:=(⟨B1,m1,e1⟩,⟨B2,m2,e2⟩)) oy).2;have dJ:=Bq (show m2=Z.runs.length from RdL.at1 (s:=⟨B2,m2,e2⟩) oyr);have gG:(k:Int)<(m2:Int):=by have:=dJ.out;omega
    obtain ⟨gr,orr,⟨sk1,⟨tka,tkn,tkc⟩⟩,rfl,dD,cX,c0,c1,c2,c3,c4,c5,c6,c7⟩:=RdL.run (show RdL Ch wr wr.heap.size (Aa B2 m2 e2) Z.runs from oyr) dR;have nC:=Bq (show tkn=Z.runs[k].tasks.length from RdL.at1 (s:=⟨tka,tkn,tkc⟩) cX.2);have bK:=Bq fN.2.2;have bH:=Bq fN.1;clear fN oyr;obtain ⟨OB_0,OB_1,OB_2,OB_3,OB_l⟩:=OB.g4;by_cases aW:t<y.runs[k].tasks.length
    ·have jS:(t:Int)<(tkn:Int):=by have:=nC.out;have:=bK.out;omega
     have gD:(0:Int)<=(t:Int):=Bl;have jN:t<Z.runs[k].tasks.length:=by have:=bK.out;omega
     have hN:=Bq (hT.out.fail dR jN);have aE:Hid (Ew y (G8 y k ++ I6 k (t+1))=Fe Z k t):=by
      show Ew y (G8 y k ++ I6 k (t+1))=_;rw [Rl,<-List.append_assoc];unfold Ew;rw [List.foldl_append,<-hZ.out];rfl
     obtain ⟨gt,ot,_,rfl,hgt,_,d0,d1,d2,d3⟩:=RdL.task (show RdL Ee wr wr.heap.size (Aa tka tkn tkc) Z.runs[k].tasks from cX.2) jN;have hJ:=Bq (show Cs (Gl Z k) t=Z.runs[k].tasks[t] by rw [Ei dR,Cr jN]);have hJ2:=Bq (Ei dR);clear d1 d2 d3;generalize mM:Z.runs[k]=r at *
     replace mM:=Bq mM;by_cases q:r.tasks[t].state=3;case neg =>
      have q1:(r.tasks[t].state == 3)=false:=by simp [q]
      have bG:=Bq (show Fe Z k t=Z from K0 (by rw [hJ.out];exact q));clear q;go_wp2;exact ⟨⟨t+1,Z,(⟨B1,m1,e1⟩,⟨Ac ⟨gr,orr,Ab⟩,m2,e2⟩),F,aW,by go_num,by rw [bG.out] at hN;exact hN,aE.out.trans bG.out,oy,hF,OB,RES,hb,mC⟩,by simp [intOf];omega⟩
     have q1:(r.tasks[t].state == 3)=true:=by simp [q]
     have aK:Hid (H9 r t):=⟨bH.out,⟨Bl,Bl⟩,by rw [Ao,Cr jN];exact q⟩
     have bG:=Bq (show Fe Z k t=Fb Z k (De r t) by rw [J6 (by rw [hJ.out];exact q),hJ2.out]);have CF:=Bq (Lu r (sk1,⟨Ac ⟨gt,ot,Ab⟩,tkn,tkc⟩) t wr.drew (by have:=J3 bH.out;omega) aK.out (Ch.rd_below cX (Br _ _).drew));have gC:=OB.lt;clear q cX;go_wp2;refine Cz (fun w'=>w'.cell? ⟨ob,0,Ab⟩=Ac (J U Z.now)/\w'.cell? ⟨ob,1,Ab⟩=Ac (J U Z.seq)/\w'.cell? ⟨ob,2,Ab⟩=Ac (Aa B1 m1 e1)/\w'.cell? ⟨ob,3,Ab⟩=Ac (Aa (Ac ⟨gr,orr,Ab⟩) m2 e2)) 10 Bm ?_ (fun hHeld=>?_)
     ·exact ⟨OB_0,OB_1,OB_2,OB_3⟩
     refine aT 0 hHeld ?_;try simp only [pS]
     refine aT 1 hHeld ?_;try simp only [pS]
     refine aT 2 hHeld ?_;try simp only [pS]
     refine aT 3 hHeld ?_;try simp only [pS]
     refine aT 4 hHeld ?_;try simp only [pS]
     refine aT 5 hHeld ?_;try simp only [pS]
     refine aT 7 hHeld ?_;try simp only [pS]
     refine oT 6 (fun K hK=>?_);go_simp;refine hK.out _ _ (fun _=>?_) ?_
     ·exact ⟨OB_0,OB_1,OB_2,OB_3⟩
     clear hK K;try simp only [pS]
     refine oT 8 (fun K hK=>?_)
     (go_simp;refine CF.out.mono ?_;rintro e5 wa ⟨sr,Fr,rfl,orn,nFr,ba⟩;have nY:∀ x∈Fr,wr<=x:=nFr;have oya:Bu.ow wa F Z (⟨B1,m1,e1⟩,⟨Ac ⟨gr,orr,Ab⟩,m2,e2⟩):=owB oy (Bt (Br _ _).drew ba);have CT:=Bq (Ks Z (⟨B1,m1,e1⟩,⟨Ac ⟨gr,orr,Ab⟩,m2,e2⟩) k (De r t) sr wa F Fr hT.out.four (fun s hs=>by have:=hT.out.all s hs;omega) (by have:=hT.out.seq;omega) dR (by rw [Hj];have:=Dp bH.out;omega) (by rw [mM.out];have:=Dp bH.out;omega) oya orn (fun x hx bF=>by have h1:=nY x hx;have h2:=bP x bF;omega)))
     refine hK.out _ _ (fun _=>?_) ?_
     ·exact ⟨(ba.cell (p:=⟨_,_,Ab⟩) (by show ob<wr;omega)).trans OB_0,(ba.cell (p:=⟨_,_,Ab⟩) (by show ob<wr;omega)).trans OB_1,(ba.cell (p:=⟨_,_,Ab⟩) (by show ob<wr;omega)).trans OB_2,(ba.cell (p:=⟨_,_,Ab⟩) (by show ob<wr;omega)).trans OB_3⟩
     clear hK K;try simp only [pS]
     refine oT 9 (fun K hK=>?_)
     (go_simp;refine CT.out.mono ?_;rintro e6 wb ⟨s6,F6,rfl,oy6,n6,cb⟩;have OB6:=(OB.below (Bt (Br _ _).drew ba)).chg cb hF.out.2.1;have q0:=OB6.cell 0 _ rfl;have q1:=OB6.cell 1 _ rfl;have q2:=OB6.cell 2 _ rfl;have q3:=OB6.cell 3 _ rfl;have qf:=OB6.free;have ql:=OB6.lt;generalize Fb Z k (De r t)=Z1 at *)
     refine hK.out _ _ (fun _=>?_) ?_
     ·exact ⟨q0,q1,q2,q3⟩
     clear hK K;try simp only [pS]
     refine oT 10 (fun K hK=>?_);go_simp;refine hK.out _ _ (fun aC=>absurd rfl aC) ?_;clear hK K;try simp only [pS]
     refine Dr Bm ?_ _;have ba':Below wr wr wa:=Bt (Br _ _).drew ba;have hbas:=ba'.size;have hcbs:=cb.size;have jU:=OB.lt;have hRl7:=RES.lt;have bU:=Chg.cells4 wb ob 0 1 2 3 (J U Z1.now) (J U Z1.seq) (Aa s6.1.a s6.1.n s6.1.c) (Aa s6.2.a s6.2.n s6.2.c);have dL:=Bq (show ∀ x,x∈[ob]->x=ob from fun x hx=>by simpa using hx);have OB7:=DBox.row4 OB6 rfl (J U Z1.now) (J U Z1.seq) (Aa s6.1.a s6.1.n s6.1.c) (Aa s6.2.a s6.2.n s6.2.c);have RES7:=((RES.below ba').chg cb (fun hx=>by have:=hF.out.1 _ hx;omega)).chg bU (fun hx=>by have:=dL.out _ hx;omega);have nW:=((Bt hb ba').trans (cb.below (by have:=(Bt hb ba').size;omega) (fun x hx=>by have:=hF.out.1 x hx;omega))).trans (bU.below (by have:=hb.size;omega) (fun x hx=>by have:=dL.out x hx;omega));have kD:∀ x∈F6,x∈F\/wr<=x:=fun x hx=>by
      rcases n6 x hx with h | h | h
      ·exact .inl h
      ·exact .inr (nY x h)
      ·exact .inr Bl
     have pK:ob∉F6:=fun hx=>by
      rcases kD _ hx with h | h
      ·exact hF.out.2.1 h
      ·omega
     have oy7:=Bu.ow_chg (F:=F6) (x:=Z1) (s:=s6) oy6 bU (fun x hx h=>by have:=dL.out x h;subst this;exact pK hx);have rR:Hid ((∀ x∈F6,w.heap.size+1<x)/\ob∉F6/\True):=⟨fun x hx=>by
      rcases kD x hx with h | h
      ·exact hF.out.1 x h
      ·have:=hRl7;omega,pK,trivial⟩
     have hw7:=Ah mC (Ah (Ah hbas hcbs) bU.size);clear hHeld q0 q1 q2 q3 qf ql OB6 oy6 CT CF oya orn nFr n6 ba cb;clear OB_0 OB_1 OB_2 OB_3 OB_l;clear OB;generalize (((wb.setCell ⟨ob,0,Ab⟩ (J U Z1.now)).setCell ⟨ob,1,Ab⟩ (J U Z1.seq)).setCell ⟨ob,2,Ab⟩ (Aa s6.1.a s6.1.n s6.1.c)).setCell ⟨ob,3,Ab⟩ (Aa s6.2.a s6.2.n s6.2.c)=w7 at *
     go_wp2;exact ⟨⟨t+1,Z1,s6,F6,aW,by go_num,by rw [<-bG.out];exact hN,aE.out.trans bG.out,oy7,rR,OB7,RES7,nW,hw7⟩,by simp [intOf];omega⟩
    ·have jS:¬ (t:Int)<(tkn:Int):=by have:=nC.out;have:=bK.out;omega
     have hS:=Bq (show Ew y (G8 y (k+1))=Z by
      rw [Nq,show (Gl y k).tasks.length=t by rw [Ei aA];omega];exact hZ.out)
     have hM:=Bq (show Trn y (12 * (k+1)) Z from hT.out.mono Bl);go_wp2;exact ⟨⟨k+1,Z,(⟨B1,m1,e1⟩,⟨Ac ⟨gr,orr,Ab⟩,m2,e2⟩),F,Bl,by go_num,hM,hS,oy,hF,OB,RES,hb,mC⟩,by simp [intOf];omega⟩
  ·have aB:¬ (k:Int)<(m2:Int):=by have:=dJ.out;omega
   have hkk:k=y.runs.length:=Bl;have H3:=Bq (show Le y=Z by rw [H2.out,<-hZ.out,hkk]);clear hkk;replace oy:Bu.ow wr F Z (⟨B1,m1,e1⟩,⟨B2,m2,e2⟩):=oy.out;have rf:=RES.free;have RES_:=RES.g4;go_wp2;have en1:w.heap.size+1∉F:=fun hx=>by have:=hF.out.1 _ hx;omega
   refine Aj (Rm (DBox.row4 RES rfl _ _ _ _)) rfl ⟨(⟨B1,m1,e1⟩,⟨B2,m2,e2⟩),F,by rw [H3.out],by rw [H3.out];exact (by (repeat (refine Dt.ow_set Bu ?_ en1 _));exact (show Bu.ow _ F Z (⟨B1,m1,e1⟩,⟨B2,m2,e2⟩) from oy)),fun x hx=>by have:=hF.out.1 x hx;omega,?_⟩;repeat (first | (with_reducible exact hb) | refine Ad ?_ Bo _)
end
theorem Lo {b:Nat} {w:World} {u0 u1 u2 u3:Value} (X:DBox b [u0,u1,u2,u3] w) {v0 v1 v2 v3 v5:Value} {rest:List Value} :
  (results Tryz.f113 (v0 :: v1 :: v2 :: v3 :: .pointer (Ac ⟨b,0,Ab⟩) :: v5 :: rest).toArray).run Am w = .ok (.tuple #[.agg #[u0,u1,u2,u3],v5]) w:=by
 have c0:=X.cell 0 _ rfl;have c1:=X.cell 1 _ rfl;have c2:=X.cell 2 _ rfl;have c3:=X.cell 3 _ rfl;simp [results,Tryz.results113,go_sem,c0,c1,c2,c3]
theorem Uz (y:Yard) (s:Sl×Sl) (id:Int) (w:World) (hl:Cb y<=2000000) (h:Bu.rd w w y s) :
  Calls Am 113 #[Dg y s,J U id] w (Ht (Hy y id) (Hx y id) w):=by
 have HR:=Bq (show ∀ W,Below w w W->Bu.rd W W y s from fun W hW=>Bu.rd_more (Bu.rd_below h hW) hW.size);obtain ⟨⟨A1,n1,c1⟩,⟨A2,n2,c2⟩⟩:=s;have CC:=Bq (fun W hW=>Eo y (⟨A1,n1,c1⟩,⟨A2,n2,c2⟩) W hl (HR.out W hW));have CY:=Bq (fun W hW=>Fi y (⟨A1,n1,c1⟩,⟨A2,n2,c2⟩) W hl (HR.out W hW));have CA:=Bq (fun W hW=>Et y (⟨A1,n1,c1⟩,⟨A2,n2,c2⟩) id W hl (HR.out W hW));have CX:=Bq (fun W hW=>show RdL Ch W W.heap.size (Aa A2 n2 c2) y.runs from (HR.out W hW).2);clear h HR;obtain ⟨W,aG,X,RES,B0⟩:=bx2 w 31 [J U y.now,J U y.seq,Aa A1 n1 c1,Aa A2 n2 c2] 31 [J U 0,J U 0,Aa Ab 0 0,Aa Ab 0 0];go_enter Tryz.func113,Tryz.ntmps113;go_wp2_with fail
 rw [<-aG.out];clear aG;have dK:w.heap.size+1<W.heap.size:=RES.lt;refine (CC.out _ B0).mono ?_;rintro e1 w1 ⟨⟨⟨B1,m1,e1⟩,⟨B2,m2,e2⟩⟩,F,rfl,oy,nF,b1⟩;have bL:=b1.size;have cH:=Bu.ow_lt (F:=F) (x:=y) (s:=(⟨B1,m1,e1⟩,⟨B2,m2,e2⟩)) oy;replace X:=X.below b1;replace RES:=RES.below b1;replace B0:=Bt B0 b1;clear b1;go_upto_region 2 with fail
 have OB:=DBox.new 31 [J U y.now,J U y.seq,Aa B1 m1 e1,Aa B2 m2 e2] w1 (b:=w1.heap.size) rfl;have b2:Below w1 w1 (w1.alloc (.cells #[J U y.now,J U y.seq,Aa B1 m1 e1,Aa B2 m2 e2] 31)):=(Br _ _).alloc (Bs _) _;replace X:=X.below b2;replace RES:=RES.below b2;replace oy:=Bu.ow_below (F:=F) (x:=y) (s:=(⟨B1,m1,e1⟩,⟨B2,m2,e2⟩)) oy b2;replace B0:=Bt B0 b2;have ow1:=OB.lt;clear b2;generalize w1.alloc (.cells #[J U y.now,J U y.seq,Aa B1 m1 e1,Aa B2 m2 e2] 31)=w2 at *
 generalize cJ:w1.heap.size=ob at *
 obtain ⟨X_0,X_1,X_2,X_3,X_l⟩:=X.g4;obtain ⟨OB_0,OB_1,OB_2,OB_3,OB_l⟩:=OB.g4;go_wp2_with fail
 refine (CA.out _ B0).mono ?_;rintro e1 w3 ⟨rfl,b3⟩;clear X_0 X_1 X_2 X_3 X_l;clear OB_0 OB_1 OB_2 OB_3 OB_l;replace X:=X.below b3;replace OB:=OB.below b3;replace RES:=RES.below b3;replace oy:Bu.ow w3 F y (⟨B1,m1,e1⟩,⟨B2,m2,e2⟩):=owB oy b3;replace B0:=Bt B0 b3;clear b3;obtain ⟨X_0,X_1,X_2,X_3,X_l⟩:=X.g4;obtain ⟨OB_0,OB_1,OB_2,OB_3,OB_l⟩:=OB.g4;go_wp2_with fail
 refine (CY.out _ B0).mono ?_;rintro e1 w4 ⟨rfl,b4⟩;clear X_0 X_1 X_2 X_3 X_l;clear OB_0 OB_1 OB_2 OB_3 OB_l;replace X:=X.below b4;replace OB:=OB.below b4;replace RES:=RES.below b4;replace oy:Bu.ow w4 F y (⟨B1,m1,e1⟩,⟨B2,m2,e2⟩):=owB oy b4;replace B0:=Bt B0 b4;clear b4;obtain ⟨X_0,X_1,X_2,X_3,X_l⟩:=X.g4;obtain ⟨OB_0,OB_1,OB_2,OB_3,OB_l⟩:=OB.g4;by_cases p0:Dd y;case neg =>
  rw [Cf p0];have H:=Bq (show Hx y id=8 by unfold Hx;rw [if_pos p0]);have H2:=Bq (show Hy y id=y by unfold Hy;rw [H.out,if_neg Bp]);have RES_:=RES.g4;have rf:=RES.free;go_wp2;have en1:w.heap.size+1∉F:=fun hx=>by have:=nF _ hx;omega
  refine Aj (Lo (DBox.row4 RES rfl _ _ _ _)) rfl ⟨(⟨B1,m1,e1⟩,⟨B2,m2,e2⟩),F,by rw [H.out,H2.out],by rw [H2.out];exact (by (repeat (refine Dt.ow_set Bu ?_ en1 _));exact (show Bu.ow _ F y (⟨B1,m1,e1⟩,⟨B2,m2,e2⟩) from oy)),fun x hx=>by have:=nF x hx;omega,?_⟩;repeat (first | (with_reducible exact B0) | refine Ad ?_ Bo _)
 rw [Dj p0];have P0:=Bq p0;clear p0;by_cases p1:Da y id<0;case pos =>
  have H:=Bq (show Hx y id=10 by unfold Hx;rw [if_neg (fun h=>h P0.out),if_pos p1]);have H2:=Bq (show Hy y id=y by unfold Hy;rw [H.out,if_neg Bp]);have RES_:=RES.g4;have rf:=RES.free;go_wp2;have en1:w.heap.size+1∉F:=fun hx=>by have:=nF _ hx;omega
  refine Aj (Lo (DBox.row4 RES rfl _ _ _ _)) rfl ⟨(⟨B1,m1,e1⟩,⟨B2,m2,e2⟩),F,by rw [H.out,H2.out],by rw [H2.out];exact (by (repeat (refine Dt.ow_set Bu ?_ en1 _));exact (show Bu.ow _ F y (⟨B1,m1,e1⟩,⟨B2,m2,e2⟩) from oy)),fun x hx=>by have:=nF x hx;omega,?_⟩;repeat (first | (with_reducible exact B0) | refine Ad ?_ Bo _)
 rcases Ek y id with hr | ⟨k,hk,hr⟩
 ·exact absurd hr Bl
 have HK:=Bq (Gf hk hr);have HR2:=Bq hr;rw [hr];clear hr p1;have P1:=Bq (show ¬ Da y id<0 by have:=HR2.out;omega);have gG:(k:Int)<(n2:Int):=by have:=RdL.at1 (s:=⟨A2,n2,c2⟩) (CX.out _ B0);dsimp only at this;omega
 have dB:(0:Int)<=(k:Int):=Bl;have hkn:¬ (k:Int)<0:=Bl;have bH:=Bq (D7 P0.out hk);obtain ⟨gx,ox,sk,rfl,kK,cX,c0,c1_,c2_,c3_,c4_,c5_,c6,c7_⟩:=(CX.out _ B0).run hk;by_cases p2:y.runs[k].state=1;case neg =>
  have q2:(y.runs[k].state != 1)=true:=by simp [p2]
  have H:=Bq (show Hx y id=12 by unfold Hx;rw [if_neg (fun h=>h P0.out),if_neg P1.out,if_pos (by rw [HK.out];exact p2)]);clear p2;have H2:=Bq (show Hy y id=y by unfold Hy;rw [H.out,if_neg Bp]);have RES_:=RES.g4;have rf:=RES.free;go_wp2;have en1:w.heap.size+1∉F:=fun hx=>by have:=nF _ hx;omega
  refine Aj (Lo (DBox.row4 RES rfl _ _ _ _)) rfl ⟨(⟨B1,m1,e1⟩,⟨B2,m2,e2⟩),F,by rw [H.out,H2.out],by rw [H2.out];exact (by (repeat (refine Dt.ow_set Bu ?_ en1 _));exact (show Bu.ow _ F y (⟨B1,m1,e1⟩,⟨B2,m2,e2⟩) from oy)),fun x hx=>by have:=nF x hx;omega,?_⟩;repeat (first | (with_reducible exact B0) | refine Ad ?_ Bo _)
 have q2:(y.runs[k].state != 1)=false:=by simp [p2]
 have H:=Bq (show Hx y id=0 by unfold Hx;rw [if_neg (fun h=>h P0.out),if_neg P1.out,if_neg (by rw [HK.out];exact fun h=>h p2)]);have H2:=Bq (show Hy y id=⟨y.now,y.seq,y.shelf,y.runs.set k (Dm y.runs[k] 4)⟩ by unfold Hy;rw [if_pos H.out,HK.out,HR2.out,Ao]);have P2:=Bq p2;clear p2;go_upto_region 9 with fail
 have oyr:=(Bu.ow_rd (F:=F) (x:=y) (s:=(⟨B1,m1,e1⟩,⟨B2,m2,e2⟩)) oy).2;have dJ:=Bq (show m2=y.runs.length from RdL.at1 (s:=⟨B2,m2,e2⟩) oyr);have gU:(k:Int)<(m2:Int):=by have:=dJ.out;omega
 obtain ⟨gr,orr,sk2,rfl,dD,_,d0,d1,d2,d3,d4,d5,d6,d7⟩:=RdL.run (show RdL Ch w4 w4.heap.size (Aa B2 m2 e2) y.runs from oyr) hk;have gV:∀ i,w4.frozen? ⟨gr,i,Ab⟩=false:=by
  obtain ⟨G1,G2,_,_,_,os⟩:=oy;exact OwL.free0 (show OwL Ch w4 G2 (Aa (Ac ⟨gr,orr,Ab⟩) m2 e2) y.runs from os) Bl
 clear q2;generalize mM:y.runs[k]=r at *
 have CSt:=Bq (Xo r sk w4.drew (by have:=J3 bH.out;omega) bH.out P2.out (Ch.rd_below cX (Br _ _).drew));have hobw5:ob<w4:=OB.lt;clear cX oyr mM;go_wp2;have hXb5:=X.lt;refine Cz (fun w'=>w'.cell? ⟨ob,3,Ab⟩=Ac (Aa (Ac ⟨gr,orr,Ab⟩) m2 e2)/\w'.cell? ⟨w,3,Ab⟩=Ac (Aa (Ac ⟨gx,ox,Ab⟩) n2 c2)/\w'.cell? ⟨gx,ox+k * 8,Ab⟩=Ac (J U r.id)/\w'.cell? ⟨gx,ox+k * 8+1,Ab⟩=Ac (J U r.plan.prio)/\w'.cell? ⟨gx,ox+k * 8+2,Ab⟩=Ac (J U r.plan.most)/\w'.cell? ⟨gx,ox+k * 8+3,Ab⟩=Ac (J U r.plan.wait)/\w'.cell? ⟨gx,ox+k * 8+4,Ab⟩=Ac (J U r.plan.tasks)/\w'.cell? ⟨gx,ox+k * 8+5,Ab⟩=Ac (Aa sk.1.a sk.1.n sk.1.c)/\w'.cell? ⟨gx,ox+k * 8+6,Ab⟩=Ac (J U r.state)/\w'.cell? ⟨gx,ox+k * 8+7,Ab⟩=Ac (Aa sk.2.a sk.2.n sk.2.c)) 10 Bm ?_ (fun hHeld=>?_)
 ·exact ⟨OB_3,X_3,c0,c1_,c2_,c3_,c4_,c5_,c6,c7_⟩
 refine aT 0 hHeld ?_;try simp only [pS]
 refine aT 1 hHeld ?_;try simp only [pS]
 refine aT 2 hHeld ?_;try simp only [pS]
 refine aT 3 hHeld ?_;try simp only [pS]
 refine aT 4 hHeld ?_;try simp only [pS]
 refine aT 5 hHeld ?_;try simp only [pS]
 refine aT 6 hHeld ?_;try simp only [pS]
 refine aT 7 hHeld ?_;try simp only [pS]
 refine oT 8 (fun K hK=>?_)
 (go_simp;refine CSt.out.mono ?_;rintro e9 w6 ⟨sr,Fr,rfl,orn,nr,b6⟩;have q0:w6.cell? ⟨gr,orr+k * 8,Ab⟩=Ac (J U r.id):=(b6.cell (p:=⟨_,_,Ab⟩) (by show gr<w4;omega)).trans d0;have q1:w6.cell? ⟨gr,orr+k * 8+1,Ab⟩=Ac (J U r.plan.prio):=(b6.cell (p:=⟨_,_,Ab⟩) (by show gr<w4;omega)).trans d1;have q2:w6.cell? ⟨gr,orr+k * 8+2,Ab⟩=Ac (J U r.plan.most):=(b6.cell (p:=⟨_,_,Ab⟩) (by show gr<w4;omega)).trans d2;have q3:w6.cell? ⟨gr,orr+k * 8+3,Ab⟩=Ac (J U r.plan.wait):=(b6.cell (p:=⟨_,_,Ab⟩) (by show gr<w4;omega)).trans d3;have q4:w6.cell? ⟨gr,orr+k * 8+4,Ab⟩=Ac (J U r.plan.tasks):=(b6.cell (p:=⟨_,_,Ab⟩) (by show gr<w4;omega)).trans d4;have q5:w6.cell? ⟨gr,orr+k * 8+5,Ab⟩=Ac (Aa sk2.1.a sk2.1.n sk2.1.c):=(b6.cell (p:=⟨_,_,Ab⟩) (by show gr<w4;omega)).trans d5;have q6:w6.cell? ⟨gr,orr+k * 8+6,Ab⟩=Ac (J U r.state):=(b6.cell (p:=⟨_,_,Ab⟩) (by show gr<w4;omega)).trans d6;have q7:w6.cell? ⟨gr,orr+k * 8+7,Ab⟩=Ac (Aa sk2.2.a sk2.2.n sk2.2.c):=(b6.cell (p:=⟨_,_,Ab⟩) (by show gr<w4;omega)).trans d7;have qf:∀ j,w6.frozen? ⟨gr,j,Ab⟩=false:=fun j=>(b6.frozen (p:=⟨_,_,Ab⟩) (by show gr<w4;omega)).trans (gV j))
 refine hK.out _ _ (fun _=>?_) ?_
 ·exact ⟨(b6.cell (p:=⟨_,_,Ab⟩) (by show ob<w4;omega)).trans OB_3,(b6.cell (p:=⟨_,_,Ab⟩) (by show w.heap.size<w4.heap.size;omega)).trans X_3,(b6.cell (p:=⟨_,_,Ab⟩) (by show gx<w4;omega)).trans c0,(b6.cell (p:=⟨_,_,Ab⟩) (by show gx<w4;omega)).trans c1_,(b6.cell (p:=⟨_,_,Ab⟩) (by show gx<w4;omega)).trans c2_,(b6.cell (p:=⟨_,_,Ab⟩) (by show gx<w4;omega)).trans c3_,(b6.cell (p:=⟨_,_,Ab⟩) (by show gx<w4;omega)).trans c4_,(b6.cell (p:=⟨_,_,Ab⟩) (by show gx<w4;omega)).trans c5_,(b6.cell (p:=⟨_,_,Ab⟩) (by show gx<w4;omega)).trans c6,(b6.cell (p:=⟨_,_,Ab⟩) (by show gx<w4;omega)).trans c7_⟩
 clear hK K;try simp only [pS]
 refine oT 9 (fun K hK=>?_);go_simp;refine hK.out _ _ (fun _=>?_) ?_
 ·exact ⟨(b6.cell (p:=⟨_,_,Ab⟩) (by show ob<w4;omega)).trans OB_3,(b6.cell (p:=⟨_,_,Ab⟩) (by show w.heap.size<w4.heap.size;omega)).trans X_3,(b6.cell (p:=⟨_,_,Ab⟩) (by show gx<w4;omega)).trans c0,(b6.cell (p:=⟨_,_,Ab⟩) (by show gx<w4;omega)).trans c1_,(b6.cell (p:=⟨_,_,Ab⟩) (by show gx<w4;omega)).trans c2_,(b6.cell (p:=⟨_,_,Ab⟩) (by show gx<w4;omega)).trans c3_,(b6.cell (p:=⟨_,_,Ab⟩) (by show gx<w4;omega)).trans c4_,(b6.cell (p:=⟨_,_,Ab⟩) (by show gx<w4;omega)).trans c5_,(b6.cell (p:=⟨_,_,Ab⟩) (by show gx<w4;omega)).trans c6,(b6.cell (p:=⟨_,_,Ab⟩) (by show gx<w4;omega)).trans c7_⟩
 clear hK K;try simp only [pS]
 refine oT 10 (fun K hK=>?_);go_simp;refine hK.out _ _ (fun aC=>absurd rfl aC) ?_;clear hK K;try simp only [pS]
 refine Dr Bm ?_ _;have b6':Below w4 w4 w6:=Bt (Br _ _).drew b6;have nP:=b6'.size;have kY:=B0.size;have nK:∀ x∈Fr,w4<=x:=nr;have gR:∀ x∈F,x<w4:=Bu.ow_lt (F:=F) (x:=y) (s:=(⟨B1,m1,e1⟩,⟨Ac ⟨gr,orr,Ab⟩,m2,e2⟩)) oy;have oy6:Bu.ow w6 F y (⟨B1,m1,e1⟩,⟨Ac ⟨gr,orr,Ab⟩,m2,e2⟩):=owB oy b6';obtain ⟨F8,oy8,kI,eX⟩:=Nm oy6 (k:=k) hk (r:=Dm r 4) (sr:=sr) orn (fun x hx bF=>by have h1:=nK x hx;have h2:=gR x bF;omega);have jG:Chg [gr] w6 ((((((((w6.setCell ⟨gr,orr+k * 8,Ab⟩ (J U (Dm r 4).id)).setCell ⟨gr,orr+k * 8+1,Ab⟩ (J U (Dm r 4).plan.prio)).setCell ⟨gr,orr+k * 8+2,Ab⟩ (J U (Dm r 4).plan.most)).setCell ⟨gr,orr+k * 8+3,Ab⟩ (J U (Dm r 4).plan.wait)).setCell ⟨gr,orr+k * 8+4,Ab⟩ (J U (Dm r 4).plan.tasks)).setCell ⟨gr,orr+k * 8+5,Ab⟩ (Aa sr.1.a sr.1.n sr.1.c)).setCell ⟨gr,orr+k * 8+6,Ab⟩ (J U (Dm r 4).state)).setCell ⟨gr,orr+k * 8+7,Ab⟩ (Aa sr.2.a sr.2.n sr.2.c)):=Ie (Ch.enc.cells (Dm r 4,sr)) w6 gr (orr+k * 8);have cI:=Bq (show ∀ x,x∈[gr]->x=gr from fun x hx=>by simpa using hx);have nV:=nF gr eX;have hgrl:=cH gr eX;clear OB_0 OB_1 OB_2 OB_3 OB_l;clear X_0 X_1 X_2 X_3 X_l;clear X c0 c1_ c2_ c3_ c4_ c5_ c6 c7_;replace OB:=(OB.below b6').chg jG (fun hx=>by have:=cI.out _ hx;omega);replace RES:=(RES.below b6').chg jG (fun hx=>by have:=cI.out _ hx;omega);replace B0:=(Bt B0 b6').trans (jG.below (by have:=(Bt B0 b6').size;omega) (fun x hx=>by have:=cI.out _ hx;omega));have en1:w.heap.size+1∉F8:=fun hx=>by
  rcases kI _ hx with h | h
  ·have:=nF _ h;omega
  ·have:=nK _ h;omega
 have jD:∀ x∈F8,w<=x:=fun x hx=>by
  rcases kI _ hx with h | h
  ·have:=nF _ h;omega
  ·have:=nK _ h;omega
 clear hHeld oy oy6 b6 b6' nr orn jG CSt d0 d1 d2 d3 d4 d5 d6 d7 gV q0 q1 q2 q3 q4 q5 q6 q7 qf;generalize ((((((((w6.setCell ⟨gr,orr+k * 8,Ab⟩ (J U (Dm r 4).id)).setCell ⟨gr,orr+k * 8+1,Ab⟩ (J U (Dm r 4).plan.prio)).setCell ⟨gr,orr+k * 8+2,Ab⟩ (J U (Dm r 4).plan.most)).setCell ⟨gr,orr+k * 8+3,Ab⟩ (J U (Dm r 4).plan.wait)).setCell ⟨gr,orr+k * 8+4,Ab⟩ (J U (Dm r 4).plan.tasks)).setCell ⟨gr,orr+k * 8+5,Ab⟩ (Aa sr.1.a sr.1.n sr.1.c)).setCell ⟨gr,orr+k * 8+6,Ab⟩ (J U (Dm r 4).state)).setCell ⟨gr,orr+k * 8+7,Ab⟩ (Aa sr.2.a sr.2.n sr.2.c))=w8 at *
 obtain ⟨OB_0,OB_1,OB_2,OB_3,OB_l⟩:=OB.g4;have RES_:=RES.g4;have rf:=RES.free;go_wp2;refine Aj (Lo (DBox.row4 RES rfl _ _ _ _)) rfl ⟨(⟨B1,m1,e1⟩,⟨Ac ⟨gr,orr,Ab⟩,m2,e2⟩),F8,by rw [H.out,H2.out],by rw [H2.out];exact (by (repeat (refine Dt.ow_set Bu ?_ en1 _));exact (show Bu.ow _ F8 ⟨y.now,y.seq,y.shelf,y.runs.set k (Dm r 4)⟩ (⟨B1,m1,e1⟩,⟨Ac ⟨gr,orr,Ab⟩,m2,e2⟩) from oy8)),jD,?_⟩;repeat (first | (with_reducible exact B0) | refine Ad ?_ Bo _)
end Go.Proofs.YtonlnjdempbfoaaGreat
