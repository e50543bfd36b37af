/-
  Tick of the program. Restart of the program. A yard does not grow without bound by a deed. Plain. Do of the program. Written by program (ido.py). OverAt of the 
-/
import Derived.Test.YtonlnjdempbfoaaGreatZOv0
import Derived.Test.YtonlnjdempbfoaaGreatZOv2
import Derived.Test.YtonlnjdempbfoaaGreatZOv3
import Derived.Test.YtonlnjdempbfoaaGreatZOv7
import Derived.Test.YtonlnjdempbfoaaGreatZOv9
import Derived.Test.YtonlnjdempbfoaaGreatZOv11
import Derived.Test.YtonlnjdempbfoaaGreatZOv12
import Derived.Test.YtonlnjdempbfoaaGreatZOv13
import Derived.Test.YtonlnjdempbfoaaGreatZOv14
import Derived.Deep.RegionHeld3
namespace Go.Proofs.YtonlnjdempbfoaaGreat
open Go.RowKit
set_option maxRecDepth 100000
set_option maxHeartbeats 4000000
set_option linter.unusedVariables false
set_option linter.unusedSimpArgs false
open Value renaming int->J,slice->Zz
open IntKind renaming i64->U
theorem Oo {b:Nat} {w:World} {u0 u1 u2 u3:Value} (X:DBox b [u0,u1,u2,u3] w) {v0 v1 v3:Value} {rest:List Value} :
  (results Tryz.f112 (v0 :: v1 :: .pointer (some ⟨b,0,none⟩) :: v3 :: rest).toArray).run Tryz.prog w = .ok (.tuple #[.agg #[u0,u1,u2,u3],v3]) w:=by
 obtain ⟨c0,c1,c2,c3,-⟩:=X.g4
 simp [results,Tryz.results112,go_sem,c0,c1,c2,c3]
theorem Aa2 (gr o n c:Nat) (rs:List (Run×Am.S)) (k:Nat) (G1 Fx G2:List Nat) (r:Run) (s:Sl×Sl) (u p gl pl cl:Nat) (w:World) (hp:w.cell? ⟨p,0,none⟩=some (Zz (some ⟨gl,pl,none⟩) 3 cl)) (hp':p<w.heap.size) (hq:w.cell? ⟨gl,pl+1,none⟩=some (J U u)) (hq':gl<w.heap.size) (hR:Gg r u) (hF:Foc Am w gr o n c rs k G1 Fx G2 r s) :
  Calls Tryz.prog 176 #[.pointer (some ⟨gr,o+k * 8,none⟩),.pointer (some ⟨p,0,none⟩)] w (Fh gr o n c rs k G1 Fx G2 (Br r u) s w):=by
 have C:=Lib.hid (J7 gr o n c rs k G1 Fx G2 r s u w (by have:=Cb hR.1;omega) hR hF)
 go_enter Tryz.func176,Tryz.ntmps176
 go_wp2_with fail
 refine C.out.mono ?_
 rintro e w1 ⟨rfl,h1,h2⟩
 have HF:=Lib.hid (show Fh gr o n c rs k G1 Fx G2 (Br r u) s w (.returned (.tuple #[])) w1 from ⟨rfl,h1,h2⟩)
 clear h1 h2 C
 go_wp2
 exact bodyPost_ret (v:=.tuple #[]) (by simp [results,Tryz.results176,go_sem]) rfl HF.out
theorem Vr (y:Yard) (s:Sl×Sl) (w:World) (hl:Ai y<=2000000) (h:Ab.rd w w.heap.size y s) :
  Calls Tryz.prog 112 #[By y s] w (Fn (Gt y) (Ha y) w):=by
 have HR:=Lib.hid (show ∀ W,Below w.heap.size w W->Ab.rd W W.heap.size y s from fun W hW=>Ab.rd_more (Ab.rd_below h hW) hW.size)
 obtain ⟨⟨A1,n1,c1⟩,⟨A2,n2,c2⟩⟩:=s
 have CC:=Lib.hid (fun W hW=>Dl y (⟨A1,n1,c1⟩,⟨A2,n2,c2⟩) W hl (HR.out W hW))
 have CY:=Lib.hid (fun W hW=>D6 y (⟨A1,n1,c1⟩,⟨A2,n2,c2⟩) W hl (HR.out W hW))
 clear h
 obtain ⟨W,aG,X,RES,B0⟩:=bx2 w 31 [J U y.now,J U y.seq,Zz A1 n1 c1,Zz A2 n2 c2] 31 [J U 0,J U 0,Zz none 0 0,Zz none 0 0]
 go_enter Tryz.func112,Tryz.ntmps112
 go_wp2_with fail
 rw [<-aG.out]
 clear aG
 refine (CC.out _ B0).mono ?_
 rintro e1 w1 ⟨⟨⟨B1,m1,e1⟩,⟨B2,m2,e2⟩⟩,F,rfl,oy,nF,b1⟩
 have dM:=RES.lt
 have b2:Below w1.heap.size w1 (w1.alloc (.cells #[J U y.now,J U y.seq,Zz B1 m1 e1,Zz B2 m2 e2] 31)):=(Below.refl _ _).alloc (Nat.le_refl _) _
 have OB:DBox w1.heap.size (Dk y (⟨B1,m1,e1⟩,⟨B2,m2,e2⟩)) _:=DBox.new 31 [J U y.now,J U y.seq,Zz B1 m1 e1,Zz B2 m2 e2] w1 (b:=w1.heap.size) rfl
 have bM:=Lib.hid (Ab.ow_lt (F:=F) (x:=y) (s:=(⟨B1,m1,e1⟩,⟨B2,m2,e2⟩)) oy)
 have cN:=Lib.hid (show ∀ x∈F,w.heap.size+1<x from fun x hx=>by have:=nF x hx;omega)
 replace oy:Ab.ow _ F y (⟨B1,m1,e1⟩,⟨B2,m2,e2⟩):=Ab.ow_below (F:=F) (x:=y) (s:=(⟨B1,m1,e1⟩,⟨B2,m2,e2⟩)) oy b2
 have b12:=Aa b1 b2
 replace X:=X.below b12
 replace RES:=RES.below b12
 replace B0:=Aa B0 b12
 have bJ:=b1.size
 clear b1 b2 b12 CC nF
 go_upto_region 2 with fail
 have cJ:w1.heap.size∉F:=fun h=>by have:=bM.out _ h;omega
 have hobR:w.heap.size+1<w1.heap.size:=by omega
 generalize w1.heap.size=ob at *
 generalize w1.alloc (.cells #[J U y.now,J U y.seq,Zz B1 m1 e1,Zz B2 m2 e2] 31)=w2 at *
 obtain ⟨X_0,X_1,X_2,X_3,X_l⟩:=X.g4
 go_wp2_with fail
 refine (CY.out _ B0).mono ?_
 rintro e1' w3 ⟨rfl,b3⟩
 clear X_0 X_1 X_2 X_3 X_l
 replace X:=X.below b3
 replace RES:=RES.below b3
 replace OB:=OB.below b3
 replace B0:=Aa B0 b3
 replace oy:Ab.ow w3 F y (⟨B1,m1,e1⟩,⟨B2,m2,e2⟩):=Ab.ow_below (F:=F) (x:=y) (s:=(⟨B1,m1,e1⟩,⟨B2,m2,e2⟩)) oy b3
 clear b3 CY bM
 by_cases p0:Bq y
 case neg =>
  rw [Al p0]
  have H:=Lib.hid (show Ha y=8 by unfold Ha;rw [if_pos p0])
  have H2:=Lib.hid (show Gt y=y by unfold Gt;rw [H.out,if_neg (by decide)])
  obtain ⟨RES_0,RES_1,RES_2,RES_3,RES_l⟩:=RES.g4
  obtain ⟨OB_0,OB_1,OB_2,OB_3,OB_l⟩:=OB.g4
  have rf:=RES.free
  go_wp2
  have en1:w.heap.size+1∉F:=fun hx=>by have:=cN.out _ hx;omega
  refine bodyPost_ret (Oo (DBox.row4 RES rfl _ _ _ _)) rfl ⟨(⟨B1,m1,e1⟩,⟨B2,m2,e2⟩),F,by rw [H.out,H2.out],by rw [H2.out];exact Ab.set4 (F:=F) (x:=y) (s:=(⟨B1,m1,e1⟩,⟨B2,m2,e2⟩)) oy en1,fun x hx=>by have:=cN.out x hx;omega,?_⟩
  repeat (first | (with_reducible exact B0) | refine Below.setCell ?_ (by simp<;>omega) _)
 rw [Bs p0]
 have P0:=Lib.hid p0
 have fW:=p0.1
 clear p0
 have wr1:IntKind.i64.wrap (y.now+1)=y.now+1:=IntWalk.i64_in _ (by omega)
 obtain ⟨X_0,X_1,X_2,X_3,X_l⟩:=X.g4
 by_cases p1:999999980<y.now+1
 case pos =>
  have H:=Lib.hid (show Ha y=7 by unfold Ha;rw [if_neg (fun h=>h P0.out),if_pos p1])
  have H2:=Lib.hid (show Gt y=y by unfold Gt;rw [H.out,if_neg (by decide)])
  obtain ⟨RES_0,RES_1,RES_2,RES_3,RES_l⟩:=RES.g4
  obtain ⟨OB_0,OB_1,OB_2,OB_3,OB_l⟩:=OB.g4
  have rf:=RES.free
  go_wp2
  have en1:w.heap.size+1∉F:=fun hx=>by have:=cN.out _ hx;omega
  refine bodyPost_ret (Oo (DBox.row4 RES rfl _ _ _ _)) rfl ⟨(⟨B1,m1,e1⟩,⟨B2,m2,e2⟩),F,by rw [H.out,H2.out],by rw [H2.out];exact Ab.set4 (F:=F) (x:=y) (s:=(⟨B1,m1,e1⟩,⟨B2,m2,e2⟩)) oy en1,fun x hx=>by have:=cN.out x hx;omega,?_⟩
  repeat (first | (with_reducible exact B0) | refine Below.setCell ?_ (by simp<;>omega) _)
 have H:=Lib.hid (show Ha y=0 by unfold Ha;rw [if_neg (fun h=>h P0.out),if_neg p1])
 have H2:=Lib.hid (show Gt y=upY (De y (Dm y y.runs.length)) by unfold Gt;rw [if_pos H.out];rfl)
 have CL:=Lib.hid (fun W hW=>Vn y (⟨A1,n1,c1⟩,⟨A2,n2,c2⟩) W hl P0.out (HR.out W hW))
 clear HR
 obtain ⟨OB_0,OB_1,OB_2,OB_3,OB_l⟩:=OB.g4
 have obf:=OB.free
 go_upto_region 7 with fail
 clear X_0 X_1 X_2 X_3 X_l
 clear OB_0 OB_1 OB_2 OB_3 OB_l
 clear obf
 have eZ:=B0.size
 have pB:w.heap.size≠ob:=by omega
 replace X:=X.setOther (a:=⟨ob,0,none⟩) pB (J U (y.now+1))
 replace OB:DBox ob (Dk (upY y) (⟨B1,m1,e1⟩,⟨B2,m2,e2⟩)) (w3.setCell ⟨ob,0,none⟩ (J U (y.now+1))):=OB.set 0 (by simp) _
 replace RES:=RES.setOther (a:=⟨ob,0,none⟩) (by show w.heap.size+1≠ob;omega) (J U (y.now+1))
 replace oy:Ab.ow (w3.setCell ⟨ob,0,none⟩ (J U (y.now+1))) F (upY y) (⟨B1,m1,e1⟩,⟨B2,m2,e2⟩):=Ab.ow_set (F:=F) (x:=y) (s:=(⟨B1,m1,e1⟩,⟨B2,m2,e2⟩)) oy (a:=⟨ob,0,none⟩) cJ _
 replace B0:Below w.heap.size w (w3.setCell ⟨ob,0,none⟩ (J U (y.now+1))):=Below.setCell B0 (by show w.heap.size<=ob;omega) _
 generalize w3.setCell ⟨ob,0,none⟩ (J U (y.now+1))=w3 at *
 have bM:=Ab.ow_lt (F:=F) (x:=upY y) (s:=(⟨B1,m1,e1⟩,⟨B2,m2,e2⟩)) oy
 obtain ⟨X_0,X_1,X_2,X_3,X_l⟩:=X.g4
 go_wp2_with fail
 refine (CL.out _ B0).mono ?_
 rintro e1 w4 ⟨⟨A9,n9,c9⟩,Fl,he,ol,nl,b4⟩
 replace he:e1 = .returned (Zz A9 n9 c9):=he
 subst he
 clear X_0 X_1 X_2 X_3 X_l
 clear X CL
 have jK:ob<w3.heap.size:=OB.lt
 have hRl3:w.heap.size+1<w3.heap.size:=RES.lt
 replace OB:=OB.below b4
 replace RES:=RES.below b4
 replace oy:Ab.ow w4 F (upY y) (⟨B1,m1,e1⟩,⟨B2,m2,e2⟩):=Ab.ow_below (F:=F) (x:=upY y) (s:=(⟨B1,m1,e1⟩,⟨B2,m2,e2⟩)) oy b4
 replace B0:=Aa B0 b4
 have fN:Hid ((∀ x∈F,w.heap.size+1<x)/\ob∉F /\ ∀ x∈Fl,x∉F):=⟨cN.out,cJ,fun x hx aY=>by have h1:w3.heap.size<=x:=nl x hx;have h2:=bM x aY;omega⟩
 have hFln:=Lib.hid (show ∀ x∈Fl,x≠ob/\w.heap.size+1<x from fun x hx=>by have h1:w3.heap.size<=x:=nl x hx;omega)
 have hmemL:=Lib.hid (fun p (hp:p∈Dm y y.runs.length)=>On hp)
 clear nl b4 bM cN cJ jK hRl3 eZ
 have hLs:=Lib.hid (show (Dm y y.runs.length).length<=96 by have h1:=Jg (Kl P0.out) y.runs.length;have h2:=P0.out.2.2.2.2.2.2.1;omega)
 generalize Dm y y.runs.length=L at *
 obtain rfl:n9=L.length:=by have:=RdL.at1 (s:=⟨A9,n9,c9⟩) ol.rd;rw [List.length_map] at this;exact this
 go_wp2
 go_loopw [27] (fun iv wr=>∃ (i:Nat) (Z:Yard) (F:List Nat),i<=L.length/\iv = J U i/\Hid (Trn y i Z/\SameTry y Z)/\Hid (De y (L.take i)=Z)/\Hid (Ab.ow wr F (upY Z) (⟨B1,m1,e1⟩,⟨B2,m2,e2⟩))/\Hid ((∀ x∈F,w.heap.size+1<x)/\ob∉F /\ ∀ x∈Fl,x∉F)/\Hid (OwL (Dt.flats Fz) wr Fl (Zz A9 L.length c9) (L.map (Gh y)))/\DBox ob (Dk (upY Z) (⟨B1,m1,e1⟩,⟨B2,m2,e2⟩)) wr/\DBox (w.heap.size+1) [J U 0,J U 0,Zz none 0 0,Zz none 0 0] wr/\Below w.heap.size w wr) (fun i _=>L.length - (intOf i).toNat)
 case atStart=>exact ⟨0,y,F,Nat.zero_le _,rfl,⟨Trn.start P0.out,fun _ _=>rfl⟩,rfl,oy,fN,ol,OB,RES,B0⟩
 case round =>
  clear oy fN ol OB RES B0
  obtain ⟨i,Z,F,hi,rfl,hT,hZ,oy,hF,ol,OB,RES,hb⟩:=hrel
  replace oy:Ab.ow wr F (upY Z) (⟨B1,m1,e1⟩,⟨B2,m2,e2⟩):=oy.out
  have dI:=hLs.out
  by_cases aA:i<L.length
  ·have aB:(i:Int)<(L.length:Int):=by omega
   have aP:(0:Int)<=(i:Int):=by omega
   have hp:=hmemL.out _ (List.getElem_mem aA)
   have aE:Hid (De y (L.take (i+1))=Dv Z L[i].1 L[i].2):=by
    show De y (L.take (i+1))=_
    unfold De
    rw [Il (fun z p=>Dv z p.1 p.2) y L i aA,<-hZ.out]
    rfl
   have cW:(L.map (Gh y))[i]'(by rw [List.length_map];exact aA)=[(En y L[i].1).id,(L[i].2:Int),(Ax (En y L[i].1) L[i].2).try_]:=by
    rw [List.getElem_map]
    rfl
   generalize L[i]=p at *
   obtain ⟨k,t⟩:=p
   dsimp only at hp aE cW
   have qE:k<y.runs.length:=hp.1
   have dN:k<Z.runs.length:=by rw [hT.out.1.len];exact qE
   have hru:=Cw qE
   rw [hru] at hp cW
   have fH:=hT.out.1.run k dN qE
   have jJ:t<Z.runs[k].tasks.length:=by rw [fH.2.2];exact hp.2
   have dB:=Lib.hid (show Bo Z y.runs[k].id=k from (hT.out.1.runAt _).trans (P0.out.2.2.2.2.2.2.2.1 k qE).2)
   have mD:=hT.out.1.cnt (by omega)
   have hN:=Lib.hid (show Trn y (i+1) (Dv Z k t)/\SameTry y (Dv Z k t) from ⟨hT.out.1.fail dN jJ,hT.out.2.fail dN t⟩)
   have cW:=Lib.hid cW
   have nK:=Lib.hid (Sn hT.out.1 hT.out.2 dN jJ dB.out)
   rw [hru] at nK
   obtain ⟨bl,lo,rfl⟩:∃ b o,A9=some ⟨b,o,none⟩:=by
    obtain ⟨b,o,_,hA,_⟩:=RdL.at_ ol.out.rd i (by rw [List.length_map];exact aA)
    exact ⟨b,o,hA⟩
   obtain ⟨gl,pl,cl,gA,fG,l0,l1,l2,l3⟩:=Kz ol.out (i:=i) (by rw [List.length_map];exact aA) cW.out
   have kP:=ol.out.lt _ gA
   have bV:=ol.out.lt _ fG
   generalize hid:y.runs[k].id=rid at *
   generalize htr:(Ax y.runs[k] t).try_=tr at *
   have TQ:=DBox.new 26 [Zz (some ⟨gl,pl,none⟩) 3 cl] wr (b:=wr.heap.size) rfl
   have bq:Below wr.heap.size wr (wr.alloc (.cells #[Zz (some ⟨gl,pl,none⟩) 3 cl] 26)):=(Below.refl _ _).alloc (Nat.le_refl _) _
   go_upto_region 10 with fail
   have fR:=OB.lt
   replace OB:=OB.below bq
   replace RES:=RES.below bq
   have hqF:wr.heap.size∉F:=fun hx=>by have:=Ab.ow_lt (F:=F) (x:=upY Z) (s:=(⟨B1,m1,e1⟩,⟨B2,m2,e2⟩)) oy _ hx;omega
   have hqo:wr.heap.size≠ob:=by omega
   have hqL:∀ x∈Fl,x≠wr.heap.size:=fun x hx=>by have:=ol.out.lt x hx;omega
   replace l1:=(bq.cell (p:=⟨gl,_,none⟩) bV).trans l1
   replace l2:=(bq.cell (p:=⟨gl,_,none⟩) bV).trans l2
   replace l3:=(bq.cell (p:=⟨gl,_,none⟩) bV).trans l3
   replace bV:=Nat.lt_of_lt_of_le bV bq.size
   replace oy:Ab.ow _ F (upY Z) (⟨B1,m1,e1⟩,⟨B2,m2,e2⟩):=Ab.ow_below (F:=F) (x:=upY Z) (s:=(⟨B1,m1,e1⟩,⟨B2,m2,e2⟩)) oy bq
   replace ol:=Lib.hid (ol.out.below bq)
   replace hb:=Aa hb bq
   clear bq l0 kP
   generalize wr.alloc (.cells #[Zz (some ⟨gl,pl,none⟩) 3 cl] 26)=w5 at *
   generalize wr.heap.size=tq at *
   obtain ⟨OB_0,OB_1,OB_2,OB_3,OB_l⟩:=OB.g4
   obtain ⟨TQ_0,TQ_l⟩:=TQ.g1
   have oyr:=Ab.ow_rd (F:=F) (x:=upY Z) (s:=(⟨B1,m1,e1⟩,⟨B2,m2,e2⟩)) oy
   have CH:=Lib.hid (fun W (hW:Below w5.heap.size w5 W)=>J4 (upY Z) (⟨B1,m1,e1⟩,⟨B2,m2,e2⟩) rid t tr W mD (Ab.rd_more (Ab.rd_below (x:=upY Z) (s:=(⟨B1,m1,e1⟩,⟨B2,m2,e2⟩)) oyr hW) hW.size))
   have CA:=Lib.hid (fun W (hW:Below w5.heap.size w5 W)=>C6 (upY Z) (⟨B1,m1,e1⟩,⟨B2,m2,e2⟩) rid W mD (Ab.rd_more (Ab.rd_below (x:=upY Z) (s:=(⟨B1,m1,e1⟩,⟨B2,m2,e2⟩)) oyr hW) hW.size))
   clear oyr
   have aN:=Bk w5
   go_wp2
   refine Ad (by kernel_rfl) (by kernel_rfl) ?_
   repeat (go_big_quiet_step ((go_at_call 175;rename_i x;exact Dg (CH.out x.1 x.2))))
   refine wpQuiet_nil ?_
   rintro w6 ⟨⟨_,b6⟩,rfl⟩
   clear aN CH
   clear OB_0 OB_1 OB_2 OB_3 OB_l
   clear TQ_0 TQ_l
   replace OB:=OB.below b6
   replace RES:=RES.below b6
   replace TQ:=TQ.below b6
   replace l1:=(b6.cell (p:=⟨gl,_,none⟩) bV).trans l1
   replace l2:=(b6.cell (p:=⟨gl,_,none⟩) bV).trans l2
   replace l3:=(b6.cell (p:=⟨gl,_,none⟩) bV).trans l3
   replace bV:=Nat.lt_of_lt_of_le bV b6.size
   replace oy:Ab.ow _ F (upY Z) (⟨B1,m1,e1⟩,⟨B2,m2,e2⟩):=Ab.ow_below (F:=F) (x:=upY Z) (s:=(⟨B1,m1,e1⟩,⟨B2,m2,e2⟩)) oy b6
   replace ol:=Lib.hid (ol.out.below b6)
   replace hb:=Aa hb b6
   have CA2:=Lib.hid (fun W (hW:Below w6.heap.size w6 W)=>CA.out W (Aa b6 hW))
   clear CA b6
   by_cases q:(Ax (En Z k) t).state=3
   case neg =>
    rw [Al (show ¬ Du (upY Z) rid t tr from fun h=>q (nK.out.1 h))]
    have aZ:=Lib.hid (show Dv Z k t=Z from Jh q)
    clear q nK
    go_wp2
    exact ⟨⟨i+1,Z,F,by omega,by go_num,⟨hT.out.1.mono (by omega),hT.out.2⟩,aE.out.trans aZ.out,oy,hF,ol,OB,RES,hb⟩,by simp [intOf];omega⟩
   rw [Bs (show Du (upY Z) rid t tr from nK.out.2 q)]
   have aK:Hid (Gg Z.runs[k] t):=⟨fH.1,⟨by omega,by omega⟩,by rw [Int.toNat_natCast,<-Cw dN];exact q⟩
   have aZ:=Lib.hid (show Dv Z k t=Dq Z k (Br Z.runs[k] t) by rw [Iq q,Cw dN])
   clear q nK
   have CA:=CA2.out _ (Below.refl _ _).drew
   rw [show Bo (upY Z) rid=k from dB.out] at CA
   have CA:=Lib.hid CA
   obtain ⟨OB_0,OB_1,OB_2,OB_3,OB_l⟩:=OB.g4
   obtain ⟨TQ_0,TQ_l⟩:=TQ.g1
   go_upto_region 11 with fail
   refine Go.wp_region_noPanic ?_
   refine wp_region_held_drew (S:=(fun w'=>w'.cell? ⟨tq,0,none⟩=some (Zz (some ⟨gl,pl,none⟩) 3 cl)/\w'.cell? ⟨gl,pl,none⟩=some (J U rid))) (by kernel_rfl) ⟨TQ_0,l1⟩ (fun hHeld=>?_)
   refine tV 1 ?_
   (try simp only [pS])
   refine tV 2 ?_
   (try simp only [pS])
   refine tV 3 ?_
   (try simp only [pS])
   refine tV 5 ?_
   (try simp only [pS])
   clear OB_0 OB_1 OB_2 OB_3 OB_l
   clear TQ_0 TQ_l
   have bd:Below w6.heap.size w6 w6.drew:=(Below.refl _ _).drew
   replace OB:=OB.below bd
   replace RES:=RES.below bd
   replace TQ:=TQ.below bd
   replace l2:=(bd.cell (p:=⟨gl,_,none⟩) bV).trans l2
   replace bV:gl<w6.drew.heap.size:=bV
   replace oy:Ab.ow _ F (upY Z) (⟨B1,m1,e1⟩,⟨B2,m2,e2⟩):=Ab.ow_below (F:=F) (x:=upY Z) (s:=(⟨B1,m1,e1⟩,⟨B2,m2,e2⟩)) oy bd
   replace ol:=Lib.hid (ol.out.below bd)
   replace hb:=Aa hb bd
   clear bd l1 l3 CA2
   generalize w6.drew=w6 at *
   obtain ⟨OB_0,OB_1,OB_2,OB_3,OB_l⟩:=OB.g4
   refine rC 0 (fun K_ hK=>?_)
   go_simp
   refine hK.out _ _ hHeld (fun hHeld=>?_)
   clear hK K_
   (try simp only [pS])
   have hTq:=TQ.lt
   refine rC 4 (fun K_ hK=>?_)
   go_simp
   refine CA.out.mono ?_
   rintro e5 wa ⟨rfl,ba⟩
   clear OB_0 OB_1 OB_2 OB_3 OB_l
   replace OB:=OB.below ba
   replace RES:=RES.below ba
   replace TQ:=TQ.below ba
   replace l2:=(ba.cell (p:=⟨gl,_,none⟩) bV).trans l2
   have sX:=(ba.cell (p:=⟨tq,_,none⟩) hTq).trans hHeld.1
   have uL:=(ba.cell (p:=⟨gl,_,none⟩) bV).trans hHeld.2
   replace bV:=Nat.lt_of_lt_of_le bV ba.size
   replace oy:Ab.ow _ F (upY Z) (⟨B1,m1,e1⟩,⟨B2,m2,e2⟩):=Ab.ow_below (F:=F) (x:=upY Z) (s:=(⟨B1,m1,e1⟩,⟨B2,m2,e2⟩)) oy ba
   replace ol:=Lib.hid (ol.out.below ba)
   replace hb:=Aa hb ba
   clear ba CA
   refine hK.out _ _ ⟨sX,uL⟩ (fun hHeld=>?_)
   clear hK K_ sX uL
   (try simp only [pS])
   have qS:=TQ.lt
   have CH:=Lib.hid (H7 176 tq (Ks Tryz.func176 (by kernel_rfl) (by kernel_rfl)) (upY Z) ob (⟨B1,m1,e1⟩,⟨B2,m2,e2⟩) F k (Br Z.runs[k] t) wa hT.out.1.four (fun s hs=>by have:=hT.out.1.all s hs;omega) (by have:=hT.out.1.seq;show 0<=Z.seq/\Z.seq<=_;omega) dN (by rw [Fg];have:=Cb aK.out.1;omega) (by have:=Cb aK.out.1;show Z.runs[k].tasks.length<=_;omega) OB oy hF.out.2.1
    (Lib.hid fun W gr o n c rs G1 Fx G2 sr hW hFo=>Aa2 gr o n c rs k G1 Fx G2 Z.runs[k] sr t tq gl pl cl W ((TQ.below hW).cell 0 _ rfl) (TQ.below hW).lt ((hW.cell (p:=⟨gl,_,none⟩) bV).trans l2) (Nat.lt_of_lt_of_le bV hW.size) aK.out hFo))
   rw [Abr,<-aZ.out] at CH
   refine rC 6 (fun K_ hK=>?_)
   go_simp
   refine CH.out.mono ?_
   rintro e6 wb ⟨rfl,F',OB',oy',nF',hc⟩
   have bE:=hb.size
   have dM:=RES.lt
   have hobA:=OB.lt
   have cC:∀ x∈ob :: F,w.heap.size+1<x:=fun x hx=>by
    rcases List.mem_cons.1 hx with rfl | hx
    ·exact hobR
    ·exact hF.out.1 x hx
   have sE:∀ x∈Fl,x∉ob :: F:=fun x hx hx2=>by
    rcases List.mem_cons.1 hx2 with e | hx2
    ·exact (hFln.out x hx).1 e
    ·exact hF.out.2.2 x hx hx2
   have hqn:tq∉ob :: F:=fun hx=>by
    rcases List.mem_cons.1 hx with e | hx
    ·exact hqo e
    ·exact hqF hx
   have sX:=(hc.cell (p:=⟨tq,_,none⟩) qS hqn).trans hHeld.1
   have uL:=(hc.cell (p:=⟨gl,_,none⟩) bV (sE gl fG)).trans hHeld.2
   have rP:=ol.out.lt
   replace RES:=RES.chg hc (fun hx=>by have:=cC _ hx;omega)
   replace hb:=hb.trans (hc.below (base:=w.heap.size) bE (fun x hx=>by have:=cC x hx;omega))
   replace ol:=Lib.hid (ol.out.chg hc sE)
   have qR:Hid ((∀ x∈F',w.heap.size+1<x)/\ob∉F' /\ ∀ x∈Fl,x∉F'):=⟨fun x hx=>by
    rcases nF' x hx with h | h
    ·exact hF.out.1 x h
    ·omega,fun hx=>by
    rcases nF' _ hx with h | h
    ·exact hF.out.2.1 h
    ·omega,fun x hx hx2=>by
    rcases nF' x hx2 with h | h
    ·exact hF.out.2.2 x hx h
    ·have:=rP x hx;omega⟩
   clear CH OB oy hc nF' cC sE rP TQ l2 hqn
   refine hK.out _ _ ⟨sX,uL⟩ (fun hHeld=>?_)
   clear hK K_ sX uL
   (try simp only [pS])
   refine wpAnyH_done (by kernel_rfl) ?_ _
   refine NoPanic.normal ?_
   clear hHeld
   generalize Dv Z k t=Z1 at *
   go_wp2
   exact ⟨⟨i+1,Z1,F',by omega,by go_num,hN,aE,oy',qR,ol,OB',RES,hb⟩,by simp [intOf];omega⟩
  ·have aB:¬ (i:Int)<(L.length:Int):=by omega
   have hZ1:=Lib.hid (show De y L=Z by have:=hZ.out;rw [List.take_of_length_le (by omega)] at this;exact this)
   have H3:=Lib.hid (show Gt y=upY Z by rw [H2.out,hZ1.out])
   obtain ⟨OB_0,OB_1,OB_2,OB_3,OB_l⟩:=OB.g4
   obtain ⟨RES_0,RES_1,RES_2,RES_3,RES_l⟩:=RES.g4
   have rf:=RES.free
   go_wp2
   have en1:w.heap.size+1∉F:=fun hx=>by have:=hF.out.1 _ hx;omega
   refine bodyPost_ret (Oo (DBox.row4 RES rfl _ _ _ _)) rfl ⟨(⟨B1,m1,e1⟩,⟨B2,m2,e2⟩),F,by rw [H.out,H3.out],by rw [H3.out];exact Ab.set4 (F:=F) (x:=upY Z) (s:=(⟨B1,m1,e1⟩,⟨B2,m2,e2⟩)) oy en1,fun x hx=>by have:=hF.out.1 x hx;omega,?_⟩
   repeat (first | (with_reducible exact hb) | refine Below.setCell ?_ (by simp<;>omega) _)
theorem N4 {b:Nat} {w:World} {u0 u1 u2 u3:Value} (X:DBox b [u0,u1,u2,u3] w) {v0 v1:Value} {rest:List Value} :
  (results Tryz.f115 (v0 :: v1 :: .pointer (some ⟨b,0,none⟩) :: rest).toArray).run Tryz.prog w = .ok (.agg #[u0,u1,u2,u3]) w:=by
 obtain ⟨c0,c1,c2,c3,-⟩:=X.g4
 simp [results,Tryz.results115,go_sem,c0,c1,c2,c3]
theorem Vs (gr o n c:Nat) (rs:List (Run×Am.S)) (k:Nat) (G1 Fx G2:List Nat) (r:Run) (s:Sl×Sl) (u p:Nat) (w:World) (hp:w.cell? ⟨p,0,none⟩=some (J U u)) (hp':p<w.heap.size) (hR:Gg r u) (hF:Foc Am w gr o n c rs k G1 Fx G2 r s) :
  Calls Tryz.prog 180 #[.pointer (some ⟨gr,o+k * 8,none⟩),.pointer (some ⟨p,0,none⟩)] w (Fh gr o n c rs k G1 Fx G2 (Br r u) s w):=by
 have C:=Lib.hid (J7 gr o n c rs k G1 Fx G2 r s u w (by have:=Cb hR.1;omega) hR hF)
 go_enter Tryz.func180,Tryz.ntmps180
 go_wp2_with fail
 refine C.out.mono ?_
 rintro e w1 ⟨rfl,h1,h2⟩
 have HF:=Lib.hid (show Fh gr o n c rs k G1 Fx G2 (Br r u) s w (.returned (.tuple #[])) w1 from ⟨rfl,h1,h2⟩)
 clear h1 h2 C
 go_wp2
 exact bodyPost_ret (v:=.tuple #[]) (by simp [results,Tryz.results180,go_sem]) rfl HF.out
theorem Qe (y:Yard) (s:Sl×Sl) (w:World) (hl:Ai y<=2000000) (h:Ab.rd w w.heap.size y s) :
  Calls Tryz.prog 115 #[By y s] w (Cj Ab By (Js y) w):=by
 have HR:=Lib.hid (show ∀ W,Below w.heap.size w W->Ab.rd W W.heap.size y s from fun W hW=>Ab.rd_more (Ab.rd_below h hW) hW.size)
 obtain ⟨⟨A1,n1,c1⟩,⟨A2,n2,c2⟩⟩:=s
 have CC:=Lib.hid (fun W hW=>Dl y (⟨A1,n1,c1⟩,⟨A2,n2,c2⟩) W hl (HR.out W hW))
 have CY:=Lib.hid (fun W hW=>D6 y (⟨A1,n1,c1⟩,⟨A2,n2,c2⟩) W hl (HR.out W hW))
 clear h
 obtain ⟨W,aG,X,RES,B0⟩:=bx2 w 31 [J U y.now,J U y.seq,Zz A1 n1 c1,Zz A2 n2 c2] 31 [J U 0,J U 0,Zz none 0 0,Zz none 0 0]
 go_enter Tryz.func115,Tryz.ntmps115
 go_wp2_with fail
 rw [<-aG.out]
 clear aG
 refine (CC.out _ B0).mono ?_
 rintro e1 w1 ⟨⟨⟨B1,m1,e1⟩,⟨B2,m2,e2⟩⟩,F,rfl,oy,nF,b1⟩
 have dM:=RES.lt
 have b2:Below w1.heap.size w1 (w1.alloc (.cells #[J U y.now,J U y.seq,Zz B1 m1 e1,Zz B2 m2 e2] 31)):=(Below.refl _ _).alloc (Nat.le_refl _) _
 have OB:DBox w1.heap.size (Dk y (⟨B1,m1,e1⟩,⟨B2,m2,e2⟩)) _:=DBox.new 31 [J U y.now,J U y.seq,Zz B1 m1 e1,Zz B2 m2 e2] w1 (b:=w1.heap.size) rfl
 have bM:=Lib.hid (Ab.ow_lt (F:=F) (x:=y) (s:=(⟨B1,m1,e1⟩,⟨B2,m2,e2⟩)) oy)
 have cN:=Lib.hid (show ∀ x∈F,w.heap.size+1<x from fun x hx=>by have:=nF x hx;omega)
 replace oy:Ab.ow _ F y (⟨B1,m1,e1⟩,⟨B2,m2,e2⟩):=Ab.ow_below (F:=F) (x:=y) (s:=(⟨B1,m1,e1⟩,⟨B2,m2,e2⟩)) oy b2
 have b12:=Aa b1 b2
 replace X:=X.below b12
 replace RES:=RES.below b12
 replace B0:=Aa B0 b12
 have bJ:=b1.size
 clear b1 b2 b12 CC nF
 go_upto_region 2 with fail
 have cJ:w1.heap.size∉F:=fun h=>by have:=bM.out _ h;omega
 have hobR:w.heap.size+1<w1.heap.size:=by omega
 generalize w1.heap.size=ob at *
 generalize w1.alloc (.cells #[J U y.now,J U y.seq,Zz B1 m1 e1,Zz B2 m2 e2] 31)=w2 at *
 obtain ⟨X_0,X_1,X_2,X_3,X_l⟩:=X.g4
 go_wp2_with fail
 refine (CY.out _ B0).mono ?_
 rintro e1' w3 ⟨rfl,b3⟩
 clear X_0 X_1 X_2 X_3 X_l
 replace X:=X.below b3
 replace RES:=RES.below b3
 replace OB:=OB.below b3
 replace B0:=Aa B0 b3
 replace oy:Ab.ow w3 F y (⟨B1,m1,e1⟩,⟨B2,m2,e2⟩):=Ab.ow_below (F:=F) (x:=y) (s:=(⟨B1,m1,e1⟩,⟨B2,m2,e2⟩)) oy b3
 clear b3 CY bM
 by_cases p0:Bq y
 case neg =>
  rw [Al p0]
  have H2:=Lib.hid (show Js y=y from if_neg p0)
  clear p0
  obtain ⟨RES_0,RES_1,RES_2,RES_3,RES_l⟩:=RES.g4
  obtain ⟨OB_0,OB_1,OB_2,OB_3,OB_l⟩:=OB.g4
  have rf:=RES.free
  go_wp2
  have en1:w.heap.size+1∉F:=fun hx=>by have:=cN.out _ hx;omega
  refine bodyPost_ret (N4 (DBox.row4 RES rfl _ _ _ _)) rfl ⟨(⟨B1,m1,e1⟩,⟨B2,m2,e2⟩),F,by rw [H2.out],by rw [H2.out];exact Ab.set4 (F:=F) (x:=y) (s:=(⟨B1,m1,e1⟩,⟨B2,m2,e2⟩)) oy en1,fun x hx=>by have:=cN.out x hx;omega,?_⟩
  repeat (first | (with_reducible exact B0) | refine Below.setCell ?_ (by simp<;>omega) _)
 rw [Bs p0]
 have P0:=Lib.hid p0
 have H2:=Lib.hid (show Js y=De y (E8 y y.runs.length) from if_pos p0)
 clear p0
 obtain rfl:n2=y.runs.length:=RdL.at1 (s:=⟨A2,n2,c2⟩) (HR.out w (Below.refl _ _)).2
 have CX:=Lib.hid (fun W (hW:Below w.heap.size w W)=>show RdL Am W W.heap.size (Zz A2 y.runs.length c2) y.runs from (HR.out W hW).2)
 clear HR
 have qH:y.runs.length<=8:=P0.out.2.2.2.2.2.2.1
 have fN:Hid ((∀ x∈F,w.heap.size+1<x)/\ob∉F):=⟨cN.out,cJ⟩
 clear cN cJ
 obtain ⟨X_0,X_1,X_2,X_3,X_l⟩:=X.g4
 go_wp2
 clear X_0 X_1 X_2 X_3 X_l
 go_loopw [17] (fun iv wr=>∃ (k:Nat) (Z:Yard) (F:List Nat),k<=y.runs.length/\iv = J U k/\Hid (Trn y (12 * k) Z/\SameTry y Z)/\Hid (De y (E8 y k)=Z)/\Hid (Ab.ow wr F Z (⟨B1,m1,e1⟩,⟨B2,m2,e2⟩))/\Hid ((∀ x∈F,w.heap.size+1<x)/\ob∉F)/\DBox ob (Dk Z (⟨B1,m1,e1⟩,⟨B2,m2,e2⟩)) wr/\DBox (w.heap.size+1) [J U 0,J U 0,Zz none 0 0,Zz none 0 0] wr/\Below w.heap.size w wr) (fun i _=>y.runs.length - (intOf i).toNat)
 case atStart=>exact ⟨0,y,F,Nat.zero_le _,rfl,⟨Trn.start P0.out,fun _ _=>rfl⟩,rfl,oy,fN,OB,RES,B0⟩
 case round =>
  clear oy fN OB RES B0 X
  obtain ⟨k,Z,F,hk,rfl,hT,hZ,oy,hF,OB,RES,hb⟩:=hrel
  by_cases aA:k<y.runs.length
  ·have aB:(k:Int)<(y.runs.length:Int):=by omega
   have dG:(0:Int)<=(k:Int):=by omega
   obtain ⟨b,o,⟨⟨A8,n8,c8⟩,⟨At,nt,ct⟩⟩,rfl,aH,cB,e0,e1_,e2_,e3,e4,e5,e6,e7⟩:=(CX.out w (Below.refl _ _)).run aA
   obtain rfl:nt=y.runs[k].tasks.length:=RdL.at1 (s:=⟨At,nt,ct⟩) cB.2
   have HT:=Lib.hid (fun W (hW:Below w.heap.size w W)=>show RdL Cv W w.heap.size (Zz At y.runs[k].tasks.length ct) y.runs[k].tasks from RdL.below cB.2 hW)
   clear cB
   replace e0:=(hb.cell (p:=⟨b,_,none⟩) aH).trans e0
   replace e1_:=(hb.cell (p:=⟨b,_,none⟩) aH).trans e1_
   replace e2_:=(hb.cell (p:=⟨b,_,none⟩) aH).trans e2_
   replace e3:=(hb.cell (p:=⟨b,_,none⟩) aH).trans e3
   replace e4:=(hb.cell (p:=⟨b,_,none⟩) aH).trans e4
   replace e5:=(hb.cell (p:=⟨b,_,none⟩) aH).trans e5
   replace e6:=(hb.cell (p:=⟨b,_,none⟩) aH).trans e6
   replace e7:=(hb.cell (p:=⟨b,_,none⟩) aH).trans e7
   have bN:b<wr.heap.size:=Nat.lt_of_lt_of_le aH hb.size
   have R:=DBox.new 89 [J U y.runs[k].id,J U y.runs[k].plan.prio,J U y.runs[k].plan.most,J U y.runs[k].plan.wait,J U y.runs[k].plan.tasks,Zz A8 n8 c8,J U y.runs[k].state,Zz At y.runs[k].tasks.length ct] wr (b:=wr.heap.size) rfl
   have ha:Below wr.heap.size wr (wr.alloc (.cells #[J U y.runs[k].id,J U y.runs[k].plan.prio,J U y.runs[k].plan.most,J U y.runs[k].plan.wait,J U y.runs[k].plan.tasks,Zz A8 n8 c8,J U y.runs[k].state,Zz At y.runs[k].tasks.length ct] 89)):=(Below.refl _ _).alloc (Nat.le_refl _) _
   go_upto_region 7 with fail
   have hobr:=OB.lt
   have hrF:wr.heap.size∉F:=fun hx=>by have:=Ab.ow_lt (F:=F) (x:=Z) (s:=(⟨B1,m1,e1⟩,⟨B2,m2,e2⟩)) oy.out _ hx;omega
   replace OB:=OB.below ha
   replace RES:=RES.below ha
   replace oy:Hid (Ab.ow _ F Z (⟨B1,m1,e1⟩,⟨B2,m2,e2⟩)):=Lib.hid (Ab.ow_below (F:=F) (x:=Z) (s:=(⟨B1,m1,e1⟩,⟨B2,m2,e2⟩)) oy.out ha)
   replace hb:=Aa hb ha
   clear e0 e1_ e2_ e3 e4 e5 e6 e7 aH ha bN
   have hrbn:wr.heap.size≠ob:=by omega
   generalize wr.alloc (.cells #[J U y.runs[k].id,J U y.runs[k].plan.prio,J U y.runs[k].plan.most,J U y.runs[k].plan.wait,J U y.runs[k].plan.tasks,Zz A8 n8 c8,J U y.runs[k].state,Zz At y.runs[k].tasks.length ct] 89)=w1 at *
   generalize wr.heap.size=rb at *
   obtain ⟨R_0,R_1,R_2,R_3,R_4,R_5,R_6,R_7,R_l⟩:=R.g8
   go_wp2
   clear R_0 R_1 R_2 R_3 R_4 R_5 R_6 R_7 R_l
   have qL:Hid ((∀ x∈F,w.heap.size+1<x)/\ob∉F/\rb∉F):=⟨hF.out.1,hF.out.2,hrF⟩
   go_loopw [25] (fun iv wr=>∃ (t:Nat) (Z:Yard) (F:List Nat),t<=y.runs[k].tasks.length/\iv = J U t/\Hid (Trn y (12 * k+t) Z/\SameTry y Z)/\Hid (De y (E8 y k ++ He k t)=Z)/\Hid (Ab.ow wr F Z (⟨B1,m1,e1⟩,⟨B2,m2,e2⟩))/\Hid ((∀ x∈F,w.heap.size+1<x)/\ob∉F/\rb∉F)/\DBox ob (Dk Z (⟨B1,m1,e1⟩,⟨B2,m2,e2⟩)) wr/\DBox (w.heap.size+1) [J U 0,J U 0,Zz none 0 0,Zz none 0 0] wr/\DBox rb [J U y.runs[k].id,J U y.runs[k].plan.prio,J U y.runs[k].plan.most,J U y.runs[k].plan.wait,J U y.runs[k].plan.tasks,Zz A8 n8 c8,J U y.runs[k].state,Zz At y.runs[k].tasks.length ct] wr/\Below w.heap.size w wr) (fun i _=>y.runs[k].tasks.length - (intOf i).toNat)
   case atStart=>exact ⟨0,Z,F,Nat.zero_le _,rfl,hT,by rw [show He k 0=[] from rfl,List.append_nil];exact hZ,oy,qL,OB,RES,R,hb⟩
   case round =>
    clear oy hF OB RES R hb qL hrF hT hZ
    obtain ⟨t,Z,F,ht,rfl,hT,hZ,oy,hF,OB,RES,R,hb⟩:=hrel
    replace oy:Ab.ow wr F Z (⟨B1,m1,e1⟩,⟨B2,m2,e2⟩):=oy.out
    have eU:=(Cb (Co P0.out aA)).2
    by_cases eQ:t<y.runs[k].tasks.length
    ·have nR:(t:Int)<(y.runs[k].tasks.length:Int):=by omega
     have tU:(0:Int)<=(t:Int):=by omega
     obtain ⟨b',o',_,rfl,bI,_,d0,d1,d2,d3⟩:=(HT.out wr hb).task eQ
     have aE:Hid (De y (E8 y k ++ He k (t+1))=Dv Z k t):=by
      show De y _=_
      rw [<-hZ.out,Pe,<-List.append_assoc]
      unfold De
      rw [List.foldl_append]
      rfl
     have dN:k<Z.runs.length:=by rw [hT.out.1.len];exact aA
     have fH:=hT.out.1.run k dN aA
     have jJ:t<Z.runs[k].tasks.length:=by rw [fH.2.2];exact eQ
     have dB:=Lib.hid (show Bo Z y.runs[k].id=k from (hT.out.1.runAt _).trans (P0.out.2.2.2.2.2.2.2.1 k aA).2)
     have mD:=hT.out.1.cnt (by omega)
     have hN:=Lib.hid (show Trn y (12 * k+(t+1)) (Dv Z k t)/\SameTry y (Dv Z k t) from ⟨hT.out.1.fail dN jJ,hT.out.2.fail dN t⟩)
     have nK:=Lib.hid (Sn hT.out.1 hT.out.2 dN jJ dB.out)
     rw [Cw aA,Aw eQ] at nK
     have fR:=OB.lt
     have hRw:=R.lt
     have sE:=Ab.ow_lt (F:=F) (x:=Z) (s:=(⟨B1,m1,e1⟩,⟨B2,m2,e2⟩)) oy
     generalize y.runs[k].tasks[t]=x at *
     have IB:=(DBox.new 3 [J U t] wr (b:=wr.heap.size) rfl).below ((Below.refl _ _).alloc (Nat.le_refl _) (.cells #[J U x.state,J U x.need,J U x.try_,J U x.until_] 138))
     have TB:=DBox.new 138 [J U x.state,J U x.need,J U x.try_,J U x.until_] (wr.alloc (.cells #[J U t] 3)) (b:=wr.heap.size+1) (by simp)
     have bq:Below wr.heap.size wr ((wr.alloc (.cells #[J U t] 3)).alloc (.cells #[J U x.state,J U x.need,J U x.try_,J U x.until_] 138)):=by repeat (first | exact Below.refl _ _ | refine Below.alloc ?_ (by simp<;>omega) _)
     go_upto_region 10 with fail
     replace OB:=OB.below bq
     replace RES:=RES.below bq
     replace R:=R.below bq
     replace oy:Ab.ow _ F Z (⟨B1,m1,e1⟩,⟨B2,m2,e2⟩):=Ab.ow_below (F:=F) (x:=Z) (s:=(⟨B1,m1,e1⟩,⟨B2,m2,e2⟩)) oy bq
     replace hb:=Aa hb bq
     clear bq d0 d1 d2 d3
     have hiF:wr.heap.size∉ob :: F:=fun hx=>by
      rcases List.mem_cons.1 hx with e | hx
      ·omega
      ·have:=sE _ hx;omega
     clear sE
     generalize (wr.alloc (.cells #[J U t] 3)).alloc (.cells #[J U x.state,J U x.need,J U x.try_,J U x.until_] 138)=w5 at *
     generalize wr.heap.size=iq at *
     have CH:=Lib.hid (fun W (hW:Below w5.heap.size w5 W)=>J4 Z (⟨B1,m1,e1⟩,⟨B2,m2,e2⟩) y.runs[k].id t x.try_ W mD (Ab.rd_more (Ab.rd_below (x:=Z) (s:=(⟨B1,m1,e1⟩,⟨B2,m2,e2⟩)) (Ab.ow_rd (F:=F) (x:=Z) (s:=(⟨B1,m1,e1⟩,⟨B2,m2,e2⟩)) oy) hW) hW.size))
     obtain ⟨OB_0,OB_1,OB_2,OB_3,OB_l⟩:=OB.g4
     obtain ⟨R_0,R_1,R_2,R_3,R_4,R_5,R_6,R_7,R_l⟩:=R.g8
     obtain ⟨TB_0,TB_1,TB_2,TB_3,TB_l⟩:=TB.g4
     obtain ⟨IB_0,IB_l⟩:=IB.g1
     go_wp2_with fail
     refine (CH.out _ (Below.refl _ _)).mono ?_
     rintro e5 w6 ⟨rfl,b6⟩
     clear CH
     clear OB_0 OB_1 OB_2 OB_3 OB_l
     clear R_0 R_1 R_2 R_3 R_4 R_5 R_6 R_7 R_l
     clear TB_0 TB_1 TB_2 TB_3 TB_l
     clear IB_0 IB_l
     replace OB:=OB.below b6
     replace RES:=RES.below b6
     replace R:=R.below b6
     replace IB:=IB.below b6
     clear TB
     replace oy:Ab.ow _ F Z (⟨B1,m1,e1⟩,⟨B2,m2,e2⟩):=Ab.ow_below (F:=F) (x:=Z) (s:=(⟨B1,m1,e1⟩,⟨B2,m2,e2⟩)) oy b6
     replace hb:=Aa hb b6
     clear b6
     by_cases q:(Ax (En Z k) t).state=3
     case neg =>
      rw [Al (show ¬ Du Z y.runs[k].id t x.try_ from fun h=>q (nK.out.1 h))]
      have aZ:=Lib.hid (show Dv Z k t=Z from Jh q)
      clear q nK
      go_wp2
      exact ⟨⟨t+1,Z,F,by omega,by go_num,⟨hT.out.1.mono (by omega),hT.out.2⟩,aE.out.trans aZ.out,oy,hF,OB,RES,R,hb⟩,by simp [intOf];omega⟩
     rw [Bs (show Du Z y.runs[k].id t x.try_ from nK.out.2 q)]
     have aK:Hid (Gg Z.runs[k] t):=⟨fH.1,⟨by omega,by omega⟩,by rw [Int.toNat_natCast,<-Cw dN];exact q⟩
     have aZ:=Lib.hid (show Dv Z k t=Dq Z k (Br Z.runs[k] t) by rw [Iq q,Cw dN])
     clear q nK
     have CH:=Lib.hid (H7 180 iq (Ks Tryz.func180 (by kernel_rfl) (by kernel_rfl)) Z ob (⟨B1,m1,e1⟩,⟨B2,m2,e2⟩) F k (Br Z.runs[k] t) w6 hT.out.1.four (fun s hs=>by have:=hT.out.1.all s hs;omega) (by have:=hT.out.1.seq;omega) dN (by rw [Fg];have:=Cb aK.out.1;omega) (by have:=Cb aK.out.1;omega) OB oy hF.out.2.1
      (Lib.hid fun W gr o n c rs G1 Fx G2 sr hW hFo=>Vs gr o n c rs k G1 Fx G2 Z.runs[k] sr t iq W ((IB.below hW).cell 0 _ rfl) (IB.below hW).lt aK.out hFo))
     rw [<-aZ.out] at CH
     go_wp2_with fail
     refine CH.out.mono ?_
     rintro e6 wb ⟨rfl,F',OB',oy',nF',hc⟩
     have bE:=hb.size
     have dM:=RES.lt
     have hobA:=OB.lt
     have hrbA:=R.lt
     have cC:∀ x∈ob :: F,w.heap.size+1<x:=fun x hx=>by
      rcases List.mem_cons.1 hx with rfl | hx
      ·exact hobR
      ·exact hF.out.1 x hx
     have hrn2:rb∉ob :: F:=fun hx=>by
      rcases List.mem_cons.1 hx with e | hx
      ·exact hrbn e
      ·exact hF.out.2.2 hx
     replace RES:=RES.chg hc (fun hx=>by have:=cC _ hx;omega)
     replace R:=R.chg hc hrn2
     replace hb:=hb.trans (hc.below (base:=w.heap.size) bE (fun x hx=>by have:=cC x hx;omega))
     have qR:Hid ((∀ x∈F',w.heap.size+1<x)/\ob∉F'/\rb∉F'):=⟨fun x hx=>by
      rcases nF' x hx with h | h
      ·exact hF.out.1 x h
      ·omega,fun hx=>by
      rcases nF' _ hx with h | h
      ·exact hF.out.2.1 h
      ·omega,fun hx=>by
      rcases nF' _ hx with h | h
      ·exact hF.out.2.2 h
      ·omega⟩
     clear CH OB oy hc nF' cC hrn2 IB
     generalize Dv Z k t=Z1 at *
     go_wp2
     exact ⟨⟨t+1,Z1,F',by omega,by go_num,hN,aE,oy',qR,OB',RES,R,hb⟩,by simp [intOf];omega⟩
    ·have nR:¬ (t:Int)<(y.runs[k].tasks.length:Int):=by omega
     have hZ3:=Lib.hid (show De y (E8 y (k+1))=Z by rw [Lt,Cw aA,show y.runs[k].tasks.length=t by omega];exact hZ.out)
     go_wp2
     exact ⟨⟨k+1,Z,F,by omega,by go_num,⟨hT.out.1.mono (by omega),hT.out.2⟩,hZ3,oy,⟨hF.out.1,hF.out.2.1⟩,OB,RES,hb⟩,by simp [intOf];omega⟩
  ·have aB:¬ (k:Int)<(y.runs.length:Int):=by omega
   have H3:=Lib.hid (show Js y=Z by rw [H2.out,<-hZ.out,show k=y.runs.length by omega])
   have oy:=oy.out
   obtain ⟨OB_0,OB_1,OB_2,OB_3,OB_l⟩:=OB.g4
   obtain ⟨RES_0,RES_1,RES_2,RES_3,RES_l⟩:=RES.g4
   have rf:=RES.free
   go_wp2
   have en1:w.heap.size+1∉F:=fun hx=>by have:=hF.out.1 _ hx;omega
   refine bodyPost_ret (N4 (DBox.row4 RES rfl _ _ _ _)) rfl ⟨(⟨B1,m1,e1⟩,⟨B2,m2,e2⟩),F,by rw [H3.out],by rw [H3.out];exact Ab.set4 (F:=F) (x:=Z) (s:=(⟨B1,m1,e1⟩,⟨B2,m2,e2⟩)) oy en1,fun x hx=>by have:=hF.out.1 x hx;omega,?_⟩
   repeat (first | (with_reducible exact hb) | refine Below.setCell ?_ (by simp<;>omega) _)
theorem Gv (r:Run):Bg r=r.plan.edges.length+r.tasks.length:=by
 have e1:C8 r.plan=r.plan.edges.length:=El (fun _=>rfl) _
 have e2:Gd Fc r.tasks=r.tasks.length:=El (fun _=>rfl) _
 unfold Bg
 omega
theorem Jt {y:Yard} {M:Nat} (h4:y.shelf.length=4) (hM:∀ s∈y.shelf,s.length<=M) (h8:y.runs.length<=8) (hr:∀ r∈y.runs,Bg r<=42):Ai y<=4 * (M+1)+344:=by
 have h1:Gd Bl y.shelf<=y.shelf.length * (M+1):=Ny (fun s hs=>by
  have e:Bl s=s.length:=El (fun _=>rfl) _
  rw [e]
  exact hM s hs)
 have h2:Gd Bg y.runs<=y.runs.length * (42+1):=Ny hr
 rw [h4] at h1
 have h3:y.runs.length * (42+1)<=8 * 43:=Nat.mul_le_mul_right _ h8
 unfold Ai
 omega
theorem Df {y:Yard} (h:Bq y):∀ r∈y.runs,Bg r<=42:=fun r hr=>by
 obtain ⟨k,hk,rfl⟩:=List.getElem_of_mem hr
 exact Im (Co h hk)
theorem Xu {y:Yard} {k:Nat} {r:Run} (hy:Bq y) (hk:k<y.runs.length) (hc:Bg r<=42) (hT:r.tasks.length<=12):Ai (Dq y k r)<=2000000:=by
 rw [Uf _ _ _ hk]
 have hF:=M8 (y:=⟨y.now,y.seq,y.shelf,y.runs.set k r⟩) (was:=y.runs[k]) (r:=r) (M:=80) (fun s hs=>(hy.2.2.2.1 s hs).1) r.tasks.length
 have:=Jt (M:=92) (hF.len.trans hy.2.2.1) (fun s hs=>by have:=hF.all s hs;omega) (by rw [hF.runs];simp;exact hy.2.2.2.2.2.2.1) (fun x hx=>by
  rw [hF.runs] at hx
  rcases List.mem_or_eq_of_mem_set hx with h | h
  ·exact Df hy x h
  ·rw [h];exact hc)
 omega
theorem Trn.folds {y:Yard} (hy:Bq y):∀ (l:List (Nat×Nat)) (z:Yard) (m:Nat),Trn y m z->(∀ p∈l,p.1<y.runs.length/\p.2<(En y p.1).tasks.length)->Trn y (m+l.length) (De z l)
 | [],z,m,h,_=>h
 | p :: l,z,m,h,hl=>by
  have hp:=hl p (List.mem_cons_self ..)
  have hk:p.1<z.runs.length:=by rw [h.len];exact hp.1
  have h1:=h.fail hk (t:=p.2) (by rw [(h.run p.1 hk hp.1).2.2,<-Cw hp.1];exact hp.2)
  have h2:=Trn.folds hy l (Dv z p.1 p.2) (m+1) h1 (fun q hq=>hl q (List.mem_cons_of_mem _ hq))
  rw [List.length_cons,show m+(l.length+1)=m+1+l.length by omega]
  exact h2
theorem Zc {y:Yard} {n:Nat} {p:Nat×Nat} (h:p∈E8 y n):p.1<n/\p.2<(En y p.1).tasks.length:=by
 unfold E8 at h
 obtain ⟨j,hj,hp⟩:=List.mem_flatMap.1 h
 unfold He at hp
 obtain ⟨t,ht,rfl⟩:=List.mem_map.1 hp
 exact ⟨List.mem_range.1 hj,List.mem_range.1 ht⟩
theorem Sq {y:Yard} (h:∀ j,(En y j).tasks.length<=12):∀ k,(E8 y k).length<=12 * k
 | 0=>by simp [E8]
 | k+1=>by
  rw [Lt,List.length_append]
  have h1:=Sq h k
  have h3:=h k
  have h2:(He k (En y k).tasks.length).length=(En y k).tasks.length:=by unfold He;simp
  omega
theorem Abs {y:Yard} {id tk tr:Int} (q:D8 y id tk tr=0):Bq y /\ ∃ k,∃ hk:k<y.runs.length,Bo y id=(k:Int)/\H8 y id=y.runs[k]:=by
 unfold D8 at q
 by_cases p0:Bq y
 ·by_cases p1:Bo y id<0
  ·rw [if_neg (fun h=>h p0),if_pos p1] at q;cases q
  ·rcases Cn y id with hr | ⟨k,hk,hr⟩
   ·omega
   ·exact ⟨p0,k,hk,hr,Dr hk hr⟩
 ·rw [if_pos p0] at q;cases q
theorem Vt {y:Yard} {d:Deed} (h:Ai y<=2000000):Ai (doO y d).1<=2000000:=by
 unfold doO
 split
 ·exact h
 split
 ·show Ai (G7 y d.run d.plan)<=_
  unfold G7
  split
  ·next q =>
   unfold G6 at q
   by_cases p0:Bq y
   ·rw [if_neg (fun h=>h p0)] at q
    split at q
    ·cases q
    split at q
    ·cases q
    split at q
    ·next hf=>exact absurd q hf
    next hf =>
    split at q
    ·cases q
    next hr =>
    have hf0:Aq d.plan=0:=Classical.not_not.1 hf
    have hm:=Bn.1 hf0
    have hT:=Ch hm.1
    have hE:=Dh hm.1
    have kU:=M5 d.run d.plan
    have qH:y.runs.length<8:=by
     have nN:Jx y d.plan=true:=by cases e:Jx y d.plan<;>simp_all
     unfold Jx at nN
     simp only [Bool.and_eq_true,decide_eq_true_eq] at nN
     exact nN.1
    have hF:=M8 (y:=⟨y.now,y.seq,y.shelf,y.runs ++ [An d.run d.plan]⟩) (was:=Eh) (r:=An d.run d.plan) (M:=80) (fun s hs=>(p0.2.2.2.1 s hs).1) (An d.run d.plan).tasks.length
    have:=Jt (y:=Kr ⟨y.now,y.seq,y.shelf,y.runs ++ [An d.run d.plan]⟩ Eh (An d.run d.plan)) (M:=92) (hF.len.trans p0.2.2.1) (fun s hs=>by have:=hF.all s hs;omega) (by
     show (Fk _ _ _ _).runs.length<=8
     rw [hF.runs];simp;omega) (fun x hx=>by
     have eE:x∈(Fk ⟨y.now,y.seq,y.shelf,y.runs ++ [An d.run d.plan]⟩ Eh (An d.run d.plan) (An d.run d.plan).tasks.length).runs:=hx
     rw [hF.runs] at eE
     rcases List.mem_append.1 eE with h1 | h1
     ·exact Df p0 x h1
     ·rw [List.mem_singleton.1 h1,Gv]
      show d.plan.edges.length+_<=42
      omega)
    omega
   ·rw [if_pos p0] at q;cases q
  ·exact h
 ·show Ai (Gs y d.worker d.draw).1<=_
  unfold Gs
  by_cases p0:Bq y
  case neg=>rw [if_pos p0];exact h
  rw [if_neg (fun h=>h p0)]
  split
  ·exact h
  ·next hw =>
   have mV:=Bf.1 (show inB d.worker 0 99=true by cases e:inB d.worker 0 99<;>simp_all)
   have hh:(d.worker % 4).toNat<4:=by omega
   have hP:Pol y (d.worker % 4).toNat (Jp y (d.worker % 4) d.draw):=by
    unfold Jp
    refine Pol.fold hh _ _ (Pol.start p0 hh) (fun v hv=>⟨Na v hv,Nb (by omega) (by omega) v hv⟩)
   have hc:=hP.cnt p0
   unfold K9 Pd
   split
   ·exact hc
   ·next e rest jE =>
    have h80:∀ s∈(Jp y (d.worker % 4) d.draw).shelf.set (d.worker % 4).toNat rest,s.length<=80:=fun s hs=>by
     rcases List.mem_or_eq_of_mem_set hs with h1 | h1
     ·exact hP.all s h1
     ·have h2:=hP.all _ (List.getElem_mem (show (d.worker % 4).toNat<(Jp y (d.worker % 4) d.draw).shelf.length by rw [hP.four];exact hh))
      rw [Ed (by rw [hP.four];exact hh)] at jE
      rw [jE] at h2
      rw [h1]
      simp at h2
      omega
    have:=Jt (y:=⟨(Jp y (d.worker % 4) d.draw).now,(Jp y (d.worker % 4) d.draw).seq,(Jp y (d.worker % 4) d.draw).shelf.set (d.worker % 4).toNat rest,(Jp y (d.worker % 4) d.draw).runs.set (Bo (Jp y (d.worker % 4) d.draw) e.run).toNat (Cd (H8 (Jp y (d.worker % 4) d.draw) e.run) e.task.toNat (Jp y (d.worker % 4) d.draw).now)⟩) (M:=80) (by simpa using hP.four) h80 (by simp;rw [hP.runs];exact p0.2.2.2.2.2.2.1) (fun x hx=>by
     rcases List.mem_or_eq_of_mem_set hx with h1 | h1
     ·rw [hP.runs] at h1;exact Df p0 x h1
     ·rw [h1,Gv,Kx]
      show (H8 (Jp y (d.worker % 4) d.draw) e.run).plan.edges.length+_<=42
      rw [<-Gv]
      unfold H8
      rw [List.getD_eq_getElem?_getD]
      cases q:(Jp y (d.worker % 4) d.draw).runs[(Bo (Jp y (d.worker % 4) d.draw) e.run).toNat]? with
      | none=>decide
      | some r =>
       have h2:=List.mem_of_getElem? q
       rw [hP.runs] at h2
       exact Df p0 r h2)
    dsimp only
    omega
 ·show Ai (Ix y d.run d.task d.try_)<=_
  unfold Ix
  split
  ·next q =>
   obtain ⟨p0,k,hk,e1,e2⟩:=Abs q
   rw [e1,e2,Int.toNat_natCast]
   have hs:=Df p0 _ (List.getElem_mem hk)
   have hl:=Cb (Co p0 hk)
   exact Xu p0 hk (by rw [Gv,Mc];rw [Gv] at hs;exact hs) (by rw [Mc];exact hl.2)
  ·exact h
 ·show Ai (Iw y d.run d.task d.try_)<=_
  unfold Iw
  split
  ·next q =>
   obtain ⟨p0,k,hk,e1,e2⟩:=Abs q
   rw [e1,e2,Int.toNat_natCast]
   have hs:=Df p0 _ (List.getElem_mem hk)
   have hl:=Cb (Co p0 hk)
   exact Xu p0 hk (by rw [Gv,Fg,(Ue _ _).2];rw [Gv] at hs;exact hs) (by rw [Fg];exact hl.2)
  ·exact h
 ·show Ai (Gt y)<=_
  unfold Gt
  split
  ·next q =>
   unfold Ha at q
   by_cases p0:Bq y
   ·have hT:=Trn.folds p0 (Dm y y.runs.length) y 0 (Trn.start p0) (fun p hp=>On hp)
    have hl:=Jg (Kl p0) y.runs.length
    have h8:=p0.2.2.2.2.2.2.1
    exact hT.cnt (by omega)
   ·rw [if_pos p0] at q;cases q
  ·exact h
 ·show Ai (Fw y d.run)<=_
  unfold Fw
  split
  ·next q =>
   unfold Fu at q
   by_cases p0:Bq y
   ·rw [if_neg (fun h=>h p0)] at q
    split at q
    ·cases q
    next hr =>
    rcases Cn y d.run with e | ⟨k,hk,e⟩
    ·omega
    ·have eB:=Dr hk e
     have:=Jt (y:=⟨y.now,y.seq,y.shelf,y.runs.set (Bo y d.run).toNat (Bz (H8 y d.run) 4)⟩) (M:=80) p0.2.2.1 (fun s hs=>(p0.2.2.2.1 s hs).1) (by simp;exact p0.2.2.2.2.2.2.1) (fun x hx=>by
      rcases List.mem_or_eq_of_mem_set hx with h1 | h1
      ·exact Df p0 x h1
      ·have hs:=Df p0 _ (List.getElem_mem hk)
       rw [Gv] at hs
       rw [h1,eB,Gv]
       show y.runs[k].plan.edges.length+(y.runs[k].tasks.map Bt).length<=42
       rw [List.length_map]
       exact hs)
     omega
   ·rw [if_pos p0] at q;cases q
  ·exact h
 ·show Ai (Fq y d.run)<=_
  unfold Fq
  split
  ·next q =>
   unfold Fo at q
   by_cases p0:Bq y
   ·have:=Jt (y:=⟨y.now,y.seq,y.shelf.map (Bi d.run),y.runs.take (Bo y d.run).toNat ++ y.runs.drop ((Bo y d.run).toNat+1)⟩) (M:=80) (by simp;exact p0.2.2.1) (fun s hs=>by
     obtain ⟨l,hl,rfl⟩:=List.mem_map.1 hs
     exact Nat.le_trans (List.length_filter_le _ _) (p0.2.2.2.1 l hl).1) (by have:=p0.2.2.2.2.2.2.1;simp;omega) (fun x hx=>by
     rcases List.mem_append.1 hx with h1 | h1
     ·exact Df p0 x (List.mem_of_mem_take h1)
     ·exact Df p0 x (List.mem_of_mem_drop h1))
    omega
   ·rw [if_pos p0] at q;cases q
  ·exact h
 ·show Ai (Js y)<=_
  unfold Js
  split
  ·next p0 =>
   have hT:=Trn.folds p0 (E8 y y.runs.length) y 0 (Trn.start p0) (fun p hp=>Zc hp)
   have hl:=Sq (Kl p0) y.runs.length
   have h8:=p0.2.2.2.2.2.2.1
   exact hT.cnt (by omega)
  ·exact h
theorem Vu {b c:Nat} {w:World} {u0 u1 u2 u3 v0 v1 v2 v3:Value} (X:DBox b [u0,u1,u2,u3] w) (Y:DBox c [v0,v1,v2,v3] w) {x0 x1 x2 x3:Value} {rest:List Value} :
  (results Tryz.f56 (x0 :: x1 :: x2 :: x3 :: .pointer (some ⟨b,0,none⟩) :: .pointer (some ⟨c,0,none⟩) :: rest).toArray).run Tryz.prog w = .ok (.tuple #[.agg #[u0,u1,u2,u3],.agg #[v0,v1,v2,v3]]) w:=by
 have c0:=X.cell 0 _ rfl
 have c1:=X.cell 1 _ rfl
 have c2:=X.cell 2 _ rfl
 have c3:=X.cell 3 _ rfl
 have d0:=Y.cell 0 _ rfl
 have d1:=Y.cell 1 _ rfl
 have d2:=Y.cell 2 _ rfl
 have d3:=Y.cell 3 _ rfl
 simp [results,Tryz.results56,go_sem,c0,c1,c2,c3,d0,d1,d2,d3]
theorem Zd (y:Yard) (s:Sl×Sl) (d:Deed) (sd:Sl) (w:World) (hl:Ai y<=2000000) (hp:d.plan.edges.length<=2000000) (h:Ab.rd w w.heap.size y s) (pJ:Be.rd w w.heap.size d sd) :
  Calls Tryz.prog 56 #[By y s,Bm d sd] w (Qi (doO y d) w):=by
 obtain ⟨⟨A1,n1,c1⟩,⟨A2,n2,c2⟩⟩:=s
 obtain ⟨A3,n3,c3⟩:=sd
 have qW:Ag.rd w w.heap.size d.plan ⟨A3,n3,c3⟩:=pJ
 obtain rfl:n3=d.plan.edges.length:=RdL.at1 (s:=⟨A3,n3,c3⟩) qW
 have HR:=Lib.hid (show ∀ W,Below w.heap.size w W->Ab.rd W W.heap.size y (⟨A1,n1,c1⟩,⟨A2,n2,c2⟩) from fun W hW=>Ab.rd_more (Ab.rd_below h hW) hW.size)
 have HP:=Lib.hid (show ∀ W,Below w.heap.size w W->Ag.rd W W.heap.size d.plan ⟨A3,d.plan.edges.length,c3⟩ from fun W hW=>Ag.rd_more (Ag.rd_below qW hW) hW.size)
 have CD:=Lib.hid (fun W (hW:Below w.heap.size w W)=>Rv d ⟨A3,d.plan.edges.length,c3⟩ W (by show C8 d.plan<=_;rw [show C8 d.plan=d.plan.edges.length from El (fun _=>rfl) _];exact hp) (Be.rd_more (Be.rd_below pJ hW) hW.size))
 have CC:=Lib.hid (fun W hW=>Dl y (⟨A1,n1,c1⟩,⟨A2,n2,c2⟩) W hl (HR.out W hW))
 have CY:=Lib.hid (fun W hW=>D6 y (⟨A1,n1,c1⟩,⟨A2,n2,c2⟩) W hl (HR.out W hW))
 clear h pJ qW
 obtain ⟨kd,rn,p,tk,ty,wk,dr⟩:=d
 replace hp:p.edges.length<=2000000:=hp
 replace HP:Hid (∀ W,Below w.heap.size w W->Ag.rd W W.heap.size p ⟨A3,p.edges.length,c3⟩):=HP
 obtain ⟨W,aG,X,D,RES,RP,B0⟩:=bx4 w 31 [J U y.now,J U y.seq,Zz A1 n1 c1,Zz A2 n2 c2] 45 [J U kd,J U rn,J U p.prio,J U p.most,J U p.wait,J U p.tasks,Zz A3 p.edges.length c3,J U tk,J U ty,J U wk,J U dr] 31 [J U 0,J U 0,Zz none 0 0,Zz none 0 0] 69 [J U 0,J U 0,J U 0,J U 0]
 go_enter Tryz.func56,Tryz.ntmps56
 go_wp2_with fail
 rw [<-aG.out]
 clear aG
 have hWs:w.heap.size+1+1+1<W.heap.size:=RP.lt
 refine (CD.out _ B0).mono ?_
 rintro e1 w1 ⟨rfl,b1⟩
 replace X:=X.below b1
 replace D:=D.below b1
 replace RES:=RES.below b1
 replace RP:=RP.below b1
 have bJ:=b1.size
 replace B0:=Aa B0 b1
 clear b1 CD
 obtain ⟨X_0,X_1,X_2,X_3,X_l⟩:=X.g4
 obtain ⟨D_0,D_1,D_2,D_3,D_4,D_5,D_6,D_7,D_8,D_9,D_10,D_l⟩:=D.g11
 cases hd:Bp ⟨kd,rn,p,tk,ty,wk,dr⟩
 case false =>
  have H:=Lib.hid (show doO y ⟨kd,rn,p,tk,ty,wk,dr⟩=(y,⟨5,0,0,0⟩) from if_pos hd)
  clear hd
  go_wp2_with fail
  refine (CC.out _ B0).mono ?_
  rintro e2 w2 ⟨s2,F,rfl,oy,nF,b2⟩
  have bT:∀ x∈F,w.heap.size+1+1+1<x:=fun x hx=>by have h1:=nF x hx;omega
  clear X_0 X_1 X_2 X_3 X_l
  clear D_0 D_1 D_2 D_3 D_4 D_5 D_6 D_7 D_8 D_9 D_10 D_l
  clear X D
  replace RES:=RES.below b2
  replace RP:=RP.below b2
  replace B0:=Aa B0 b2
  clear nF b2
  obtain ⟨RES_0,RES_1,RES_2,RES_3,RES_l⟩:=RES.g4
  obtain ⟨RP_0,RP_1,RP_2,RP_3,RP_l⟩:=RP.g4
  have rf:=RES.free
  have pf:=RP.free
  have aC:w.heap.size+1+1+1≠w.heap.size+1+1:=by omega
  go_wp2
  have RES2:=DBox.row4 RES rfl (J U y.now) (J U y.seq) (Zz s2.1.a s2.1.n s2.1.c) (Zz s2.2.a s2.2.n s2.2.c)
  have RP2:=DBox.row4 ((((RP.setOther (a:=⟨w.heap.size+1+1,0,none⟩) aC (J U y.now)).setOther (a:=⟨w.heap.size+1+1,1,none⟩) aC (J U y.seq)).setOther (a:=⟨w.heap.size+1+1,2,none⟩) aC (Zz s2.1.a s2.1.n s2.1.c)).setOther (a:=⟨w.heap.size+1+1,3,none⟩) aC (Zz s2.2.a s2.2.n s2.2.c)) rfl (J U 5) (J U 0) (J U 0) (J U 0)
  have RES3:=((((RES2.setOther (a:=⟨w.heap.size+1+1+1,0,none⟩) aC.symm (J U 5)).setOther (a:=⟨w.heap.size+1+1+1,1,none⟩) aC.symm (J U 0)).setOther (a:=⟨w.heap.size+1+1+1,2,none⟩) aC.symm (J U 0)).setOther (a:=⟨w.heap.size+1+1+1,3,none⟩) aC.symm (J U 0))
  have en1:w.heap.size+1+1∉F:=fun hx=>by have:=bT _ hx;omega
  have en2:w.heap.size+1+1+1∉F:=fun hx=>by have:=bT _ hx;omega
  refine bodyPost_ret (Vu RES3 RP2) rfl ⟨s2,F,by rw [H.out],by rw [H.out];exact (by (repeat (refine Dt.ow_set Ab ?_ (by first | exact en1 | exact en2) _));exact (show Ab.ow _ F y s2 from oy)),fun x hx=>by have:=bT x hx;omega,?_⟩
  repeat (first | (with_reducible exact B0) | refine Below.setCell ?_ (by simp<;>omega) _)
 replace hd:=Lib.hid hd
 have hkd:=Bf.1 (Pi hd.out)
 dsimp only at hkd
 clear CC
 have b2:Below w1.heap.size w1 ((w1.alloc (.cells #[J U 0,J U 0,Zz none 0 0,Zz none 0 0] 31)).alloc (.cells #[J U 0,J U 0,J U 0,J U 0] 69)):=((Below.refl _ _).alloc (Nat.le_refl _) _).alloc (by simp) _
 have OB:=(DBox.new 31 [J U 0,J U 0,Zz none 0 0,Zz none 0 0] w1 (b:=w1.heap.size) rfl).below ((Below.refl _ _).alloc (Nat.le_refl _) (.cells #[J U 0,J U 0,J U 0,J U 0] 69))
 have RR:=DBox.new 69 [J U 0,J U 0,J U 0,J U 0] (w1.alloc (.cells #[J U 0,J U 0,Zz none 0 0,Zz none 0 0] 31)) (b:=w1.heap.size+1) (by simp)
 go_upto_region 5 with fail
 clear X_0 X_1 X_2 X_3 X_l
 clear D_0 D_1 D_2 D_3 D_4 D_5 D_6 D_7 D_8 D_9 D_10 D_l
 replace X:=X.below b2
 replace D:=D.below b2
 replace RES:=RES.below b2
 replace RP:=RP.below b2
 have mW:w.heap.size+1+1+1<w1.heap.size:=by omega
 replace B0:=Aa B0 b2
 clear b2
 replace OB:DBox w1.heap.size [J U 0,J U 0,Zz none 0 0,Zz none 0 0] ((w1.alloc (.cells #[J U 0,J U 0,Zz none 0 0,Zz none 0 0] 31)).alloc (.cells #[J U 0,J U 0,J U 0,J U 0] 69)):=OB
 replace RR:DBox (w1.heap.size+1) [J U 0,J U 0,J U 0,J U 0] ((w1.alloc (.cells #[J U 0,J U 0,Zz none 0 0,Zz none 0 0] 31)).alloc (.cells #[J U 0,J U 0,J U 0,J U 0] 69)):=RR
 generalize ((w1.alloc (.cells #[J U 0,J U 0,Zz none 0 0,Zz none 0 0] 31)).alloc (.cells #[J U 0,J U 0,J U 0,J U 0] 69))=w2 at *
 generalize cJ:w1.heap.size=ob at *
 have bR:=RR.lt
 obtain ⟨X_0,X_1,X_2,X_3,X_l⟩:=X.g4
 obtain ⟨D_0,D_1,D_2,D_3,D_4,D_5,D_6,D_7,D_8,D_9,D_10,D_l⟩:=D.g11
 rcases (show kd=1\/kd=2\/kd=3\/kd=4\/kd=5\/kd=6\/kd=7\/kd=8 by omega) with rfl | rfl | rfl | rfl | rfl | rfl | rfl | rfl
 have H:=Lib.hid (show doO y ⟨1,rn,p,tk,ty,wk,dr⟩=(G7 y rn p,⟨G6 y rn p,0,0,0⟩) by unfold doO;rw [if_neg (by rw [hd.out];simp)];rfl)
 have CS:=Lib.hid (Sk y (⟨A1,n1,c1⟩,⟨A2,n2,c2⟩) rn p ⟨A3,p.edges.length,c3⟩ w2 hl hp (HR.out _ B0) (HP.out _ B0))
 generalize G7 y rn p=z at *
 generalize G6 y rn p=c at *
 rotate_left
 ·have H:Hid (doO y ⟨2,rn,p,tk,ty,wk,dr⟩=Gs y wk dr):=by
   show doO y ⟨2,rn,p,tk,ty,wk,dr⟩=_
   unfold doO
   rw [if_neg (by rw [hd.out];simp)]
   rfl
  have sS:=Lib.hid (Pj hd.out)
  obtain ⟨dn,rfl⟩:=Int.eq_ofNat_of_zero_le sS.out.1
  have CS:=Lib.hid (Vp y (⟨A1,n1,c1⟩,⟨A2,n2,c2⟩) wk dn w2 hl (by have:=sS.out;omega) (HR.out _ B0))
  generalize Gs y wk (dn:Int)=o at *
  obtain ⟨z,⟨o0,o1,o2,o3⟩⟩:=o
  go_wp2_with fail
  refine CS.out.mono ?_
  rintro e2 w3 ⟨s2,F,rfl,oy,nF,b3⟩
  replace oy:Ab.ow w3 F z s2:=oy
  have bT:∀ x∈F,w.heap.size+1+1+1<x:=fun x hx=>by have h1:=nF x hx;omega
  clear X_0 X_1 X_2 X_3 X_l
  clear D_0 D_1 D_2 D_3 D_4 D_5 D_6 D_7 D_8 D_9 D_10 D_l
  clear X D OB RR
  replace RES:=RES.below b3
  replace RP:=RP.below b3
  replace B0:=Aa B0 b3
  clear nF b3
  obtain ⟨RES_0,RES_1,RES_2,RES_3,RES_l⟩:=RES.g4
  obtain ⟨RP_0,RP_1,RP_2,RP_3,RP_l⟩:=RP.g4
  have rf:=RES.free
  have pf:=RP.free
  have aC:w.heap.size+1+1+1≠w.heap.size+1+1:=by omega
  go_wp2
  have RES2:=DBox.row4 RES rfl (J U z.now) (J U z.seq) (Zz s2.1.a s2.1.n s2.1.c) (Zz s2.2.a s2.2.n s2.2.c)
  have RP2:=DBox.row4 ((((RP.setOther (a:=⟨w.heap.size+1+1,0,none⟩) aC (J U z.now)).setOther (a:=⟨w.heap.size+1+1,1,none⟩) aC (J U z.seq)).setOther (a:=⟨w.heap.size+1+1,2,none⟩) aC (Zz s2.1.a s2.1.n s2.1.c)).setOther (a:=⟨w.heap.size+1+1,3,none⟩) aC (Zz s2.2.a s2.2.n s2.2.c)) rfl (J U o0) (J U o1) (J U o2) (J U o3)
  have RES3:=((((RES2.setOther (a:=⟨w.heap.size+1+1+1,0,none⟩) aC.symm (J U o0)).setOther (a:=⟨w.heap.size+1+1+1,1,none⟩) aC.symm (J U o1)).setOther (a:=⟨w.heap.size+1+1+1,2,none⟩) aC.symm (J U o2)).setOther (a:=⟨w.heap.size+1+1+1,3,none⟩) aC.symm (J U o3))
  have en1:w.heap.size+1+1∉F:=fun hx=>by have:=bT _ hx;omega
  have en2:w.heap.size+1+1+1∉F:=fun hx=>by have:=bT _ hx;omega
  refine bodyPost_ret (Vu RES3 RP2) rfl ⟨s2,F,by rw [H.out],by rw [H.out];exact (by (repeat (refine Dt.ow_set Ab ?_ (by first | exact en1 | exact en2) _));exact (show Ab.ow _ F z s2 from oy)),fun x hx=>by have:=bT x hx;omega,?_⟩
  repeat (first | (with_reducible exact B0) | refine Below.setCell ?_ (by simp<;>omega) _)
 have H:=Lib.hid (show doO y ⟨3,rn,p,tk,ty,wk,dr⟩=(Ix y rn tk ty,⟨D8 y rn tk ty,0,0,0⟩) by unfold doO;rw [if_neg (by rw [hd.out];simp)];rfl)
 have CS:=Lib.hid (Om y (⟨A1,n1,c1⟩,⟨A2,n2,c2⟩) rn tk ty w2 hl (HR.out _ B0))
 generalize Ix y rn tk ty=z at *
 generalize D8 y rn tk ty=c at *
 rotate_left
 have H:=Lib.hid (show doO y ⟨4,rn,p,tk,ty,wk,dr⟩=(Iw y rn tk ty,⟨D8 y rn tk ty,0,0,0⟩) by unfold doO;rw [if_neg (by rw [hd.out];simp)];rfl)
 have CS:=Lib.hid (Vm y (⟨A1,n1,c1⟩,⟨A2,n2,c2⟩) rn tk ty w2 hl (HR.out _ B0))
 generalize Iw y rn tk ty=z at *
 generalize D8 y rn tk ty=c at *
 rotate_left
 have H:=Lib.hid (show doO y ⟨5,rn,p,tk,ty,wk,dr⟩=(Gt y,⟨Ha y,0,0,0⟩) by unfold doO;rw [if_neg (by rw [hd.out];simp)];rfl)
 have CS:=Lib.hid (Vr y (⟨A1,n1,c1⟩,⟨A2,n2,c2⟩) w2 hl (HR.out _ B0))
 generalize Gt y=z at *
 generalize Ha y=c at *
 rotate_left
 have H:=Lib.hid (show doO y ⟨6,rn,p,tk,ty,wk,dr⟩=(Fw y rn,⟨Fu y rn,0,0,0⟩) by unfold doO;rw [if_neg (by rw [hd.out];simp)];rfl)
 have CS:=Lib.hid (Sm y (⟨A1,n1,c1⟩,⟨A2,n2,c2⟩) rn w2 hl (HR.out _ B0))
 generalize Fw y rn=z at *
 generalize Fu y rn=c at *
 rotate_left
 have H:=Lib.hid (show doO y ⟨7,rn,p,tk,ty,wk,dr⟩=(Fq y rn,⟨Fo y rn,0,0,0⟩) by unfold doO;rw [if_neg (by rw [hd.out];simp)];rfl)
 have CS:=Lib.hid (Sp y (⟨A1,n1,c1⟩,⟨A2,n2,c2⟩) rn w2 hl (HR.out _ B0))
 generalize Fq y rn=z at *
 generalize Fo y rn=c at *
 rotate_left
 focus
  have H:=Lib.hid (show doO y ⟨8,rn,p,tk,ty,wk,dr⟩=(Js y,⟨Ph y,0,0,0⟩) by unfold doO;rw [if_neg (by rw [hd.out];simp)];rfl)
  have CS:=Lib.hid (Qe y (⟨A1,n1,c1⟩,⟨A2,n2,c2⟩) w2 hl (HR.out _ B0))
  have hrc:=Lib.hid (show (Bq y->Ph y=0)/\(¬ Bq y->Ph y=8) from ⟨fun h=>if_pos h,fun h=>if_neg h⟩)
  generalize Js y=z at *
  generalize Ph y=c at *
  go_wp2_with fail
  refine CS.out.mono ?_
  rintro e2 w3 ⟨s2,F,rfl,oy,nF,b3⟩
  replace oy:Ab.ow w3 F z s2:=oy
  have bT:∀ x∈F,ob+1<x:=fun x hx=>by have h1:=nF x hx;omega
  clear X_0 X_1 X_2 X_3 X_l
  clear D_0 D_1 D_2 D_3 D_4 D_5 D_6 D_7 D_8 D_9 D_10 D_l
  replace X:=X.below b3
  clear D
  replace OB:=OB.below b3
  replace RR:=RR.below b3
  replace RES:=RES.below b3
  replace RP:=RP.below b3
  replace B0:=Aa B0 b3
  have jP:=b3.size
  clear nF b3
  obtain ⟨OB_0,OB_1,OB_2,OB_3,OB_l⟩:=OB.g4
  obtain ⟨RR_0,RR_1,RR_2,RR_3,RR_l⟩:=RR.g4
  have OBf:=OB.free
  have RRf:=RR.free
  go_upto_region 7 with fail
  clear OB_0 OB_1 OB_2 OB_3 OB_l
  clear RR_0 RR_1 RR_2 RR_3 RR_l
  clear OBf RRf
  have cE:=Chg.cells4 w3 ob 0 1 2 3 (J U z.now) (J U z.seq) (Zz s2.1.a s2.1.n s2.1.c) (Zz s2.2.a s2.2.n s2.2.c)
  have dH:=Lib.hid (show ∀ x,x∈[ob]->x=ob from fun x hx=>by simpa using hx)
  replace OB:=DBox.row4 OB rfl (J U z.now) (J U z.seq) (Zz s2.1.a s2.1.n s2.1.c) (Zz s2.2.a s2.2.n s2.2.c)
  replace RR:=RR.chg cE (fun hx=>by have:=dH.out _ hx;omega)
  replace RES:=RES.chg cE (fun hx=>by have:=dH.out _ hx;omega)
  replace RP:=RP.chg cE (fun hx=>by have:=dH.out _ hx;omega)
  replace oy:Ab.ow _ F z s2:=Ab.ow_chg (F:=F) (x:=z) (s:=s2) oy cE (fun x hx h=>by have h1:=dH.out x h;have h2:=bT x hx;omega)
  replace X:=X.chg cE (fun hx=>by have:=dH.out _ hx;omega)
  replace B0:=B0.trans (cE.below (by have:=B0.size;omega) (fun x hx=>by have:=dH.out x hx;omega))
  clear cE
  generalize (((w3.setCell ⟨ob,0,none⟩ (J U z.now)).setCell ⟨ob,1,none⟩ (J U z.seq)).setCell ⟨ob,2,none⟩ (Zz s2.1.a s2.1.n s2.1.c)).setCell ⟨ob,3,none⟩ (Zz s2.2.a s2.2.n s2.2.c)=w4 at *
  obtain ⟨X_0,X_1,X_2,X_3,X_l⟩:=X.g4
  go_wp2_with fail
  refine (CY.out _ B0).mono ?_
  rintro e9 w8 ⟨rfl,b8⟩
  clear X_0 X_1 X_2 X_3 X_l
  clear X
  replace OB:=OB.below b8
  replace RR:=RR.below b8
  replace RES:=RES.below b8
  replace RP:=RP.below b8
  replace oy:Ab.ow w8 F z s2:=Ab.ow_below (F:=F) (x:=z) (s:=s2) oy b8
  replace B0:=Aa B0 b8
  have hs8:=b8.size
  clear b8
  by_cases p0:Bq y
  focus
   rw [Bs p0]
   have hc0:=Lib.hid (hrc.out.1 p0)
   replace RR:DBox (ob+1) [J U c,J U 0,J U 0,J U 0] w8:=by rw [hc0.out];exact RR
   rename World=>w5
   go_upto_region 23 with fail
  rotate_left
  focus
   rw [Al p0]
   have hc8:=Lib.hid (hrc.out.2 p0)
   obtain ⟨RR_0,RR_1,RR_2,RR_3,RR_l⟩:=RR.g4
   have RRf:=RR.free
   go_upto_region 23 with fail
   clear RR_0 RR_1 RR_2 RR_3 RR_l
   clear RRf
   rename World=>w4
   have kN:=Chg.setCell w4 (ob+1) 0 (J U 8)
   have eL:=Lib.hid (show ∀ x,x∈[ob+1]->x=ob+1 from fun x hx=>by simpa using hx)
   replace OB:=OB.chg kN (fun hx=>by have:=eL.out _ hx;omega)
   replace RR:DBox (ob+1) [J U 8,J U 0,J U 0,J U 0] (w4.setCell ⟨ob+1,0,none⟩ (J U 8)):=RR.set 0 (by simp) _
   replace RES:=RES.chg kN (fun hx=>by have:=eL.out _ hx;omega)
   replace RP:=RP.chg kN (fun hx=>by have:=eL.out _ hx;omega)
   replace oy:Ab.ow _ F z s2:=Ab.ow_chg (F:=F) (x:=z) (s:=s2) oy kN (fun x hx h=>by have h1:=eL.out x h;have h2:=bT x hx;omega)
   replace B0:=B0.trans (kN.below (by have:=B0.size;omega) (fun x hx=>by have:=eL.out x hx;omega))
   clear kN
   generalize w4.setCell ⟨ob+1,0,none⟩ (J U 8)=w5 at *
   replace RR:DBox (ob+1) [J U c,J U 0,J U 0,J U 0] w5:=by rw [hc8.out];exact RR
 rotate_left 2
 iterate 6
  focus
   go_wp2_with fail
   refine CS.out.mono ?_
   rintro e2 w3 ⟨s2,F,rfl,oy,nF,b3⟩
   replace oy:Ab.ow w3 F z s2:=oy
   have bT:∀ x∈F,ob+1<x:=fun x hx=>by have h1:=nF x hx;omega
   clear X_0 X_1 X_2 X_3 X_l
   clear D_0 D_1 D_2 D_3 D_4 D_5 D_6 D_7 D_8 D_9 D_10 D_l
   clear X
   clear D
   replace OB:=OB.below b3
   replace RR:=RR.below b3
   replace RES:=RES.below b3
   replace RP:=RP.below b3
   replace B0:=Aa B0 b3
   have jP:=b3.size
   clear nF b3
   obtain ⟨OB_0,OB_1,OB_2,OB_3,OB_l⟩:=OB.g4
   obtain ⟨RR_0,RR_1,RR_2,RR_3,RR_l⟩:=RR.g4
   have OBf:=OB.free
   have RRf:=RR.free
   go_upto_region 23 with fail
   clear OB_0 OB_1 OB_2 OB_3 OB_l
   clear RR_0 RR_1 RR_2 RR_3 RR_l
   clear OBf RRf
   have cE:=Chg.cells4 w3 ob 0 1 2 3 (J U z.now) (J U z.seq) (Zz s2.1.a s2.1.n s2.1.c) (Zz s2.2.a s2.2.n s2.2.c)
   have dH:=Lib.hid (show ∀ x,x∈[ob]->x=ob from fun x hx=>by simpa using hx)
   replace OB:=DBox.row4 OB rfl (J U z.now) (J U z.seq) (Zz s2.1.a s2.1.n s2.1.c) (Zz s2.2.a s2.2.n s2.2.c)
   replace RR:=RR.chg cE (fun hx=>by have:=dH.out _ hx;omega)
   replace RES:=RES.chg cE (fun hx=>by have:=dH.out _ hx;omega)
   replace RP:=RP.chg cE (fun hx=>by have:=dH.out _ hx;omega)
   replace oy:Ab.ow _ F z s2:=Ab.ow_chg (F:=F) (x:=z) (s:=s2) oy cE (fun x hx h=>by have h1:=dH.out x h;have h2:=bT x hx;omega)
   replace B0:=B0.trans (cE.below (by have:=B0.size;omega) (fun x hx=>by have:=dH.out x hx;omega))
   clear cE
   generalize (((w3.setCell ⟨ob,0,none⟩ (J U z.now)).setCell ⟨ob,1,none⟩ (J U z.seq)).setCell ⟨ob,2,none⟩ (Zz s2.1.a s2.1.n s2.1.c)).setCell ⟨ob,3,none⟩ (Zz s2.2.a s2.2.n s2.2.c)=w4 at *
   have kN:=Chg.setCell w4 (ob+1) 0 (J U c)
   have eL:=Lib.hid (show ∀ x,x∈[ob+1]->x=ob+1 from fun x hx=>by simpa using hx)
   replace OB:=OB.chg kN (fun hx=>by have:=eL.out _ hx;omega)
   replace RR:DBox (ob+1) [J U c,J U 0,J U 0,J U 0] (w4.setCell ⟨ob+1,0,none⟩ (J U c)):=RR.set 0 (by simp) _
   replace RES:=RES.chg kN (fun hx=>by have:=eL.out _ hx;omega)
   replace RP:=RP.chg kN (fun hx=>by have:=eL.out _ hx;omega)
   replace oy:Ab.ow _ F z s2:=Ab.ow_chg (F:=F) (x:=z) (s:=s2) oy kN (fun x hx h=>by have h1:=eL.out x h;have h2:=bT x hx;omega)
   replace B0:=B0.trans (kN.below (by have:=B0.size;omega) (fun x hx=>by have:=eL.out x hx;omega))
   clear kN
   generalize w4.setCell ⟨ob+1,0,none⟩ (J U c)=w5 at *
  rotate_left
 all_goals
  refine Go.wp_region_noPanic ?_
  refine wp_region_held_drew (S:=(fun w'=>DBox ob [J U z.now,J U z.seq,Zz s2.1.a s2.1.n s2.1.c,Zz s2.2.a s2.2.n s2.2.c] w'/\DBox (ob+1) [J U c,J U 0,J U 0,J U 0] w')) (by kernel_rfl) ⟨DBox.drew4 OB,DBox.drew4 RR⟩ (fun hHeld=>?_)
  replace oy:Ab.ow w5.drew F z s2:=Ab.ow_below (F:=F) (x:=z) (s:=s2) oy (Below.refl _ _).drew
  replace RES:DBox _ _ w5.drew:=DBox.drew4 RES
  replace RP:DBox _ _ w5.drew:=DBox.drew4 RP
  replace B0:=B0.drew
  clear OB RR
  generalize w5.drew=w6 at *
  refine tV 0 ?_
  (try simp only [pS])
  refine tV 1 ?_
  (try simp only [pS])
  have RES_0:=RES.cell 0 _ rfl
  have RES_1:=RES.cell 1 _ rfl
  have RES_2:=RES.cell 2 _ rfl
  have RES_3:=RES.cell 3 _ rfl
  have rf:=RES.free
  have cM:=Lib.hid (show ∀ x,x∈[w.heap.size+1+1]->x=w.heap.size+1+1 from fun x hx=>by simpa using hx)
  have eA:=Lib.hid (show ∀ x,x∈[w.heap.size+1+1+1]->x=w.heap.size+1+1+1 from fun x hx=>by simpa using hx)
  have eS:=Chg.cells4 w6 (w.heap.size+1+1) 0 1 2 3 (J U z.now) (J U z.seq) (Zz s2.1.a s2.1.n s2.1.c) (Zz s2.2.a s2.2.n s2.2.c)
  refine rC 2 (fun K_ hK=>?_)
  go_simp
  have RES2:=DBox.row4 RES rfl (J U z.now) (J U z.seq) (Zz s2.1.a s2.1.n s2.1.c) (Zz s2.2.a s2.2.n s2.2.c)
  have RP2:=RP.chg eS (fun hx=>by have:=cM.out _ hx;omega)
  replace oy:Ab.ow _ F z s2:=Ab.ow_chg (F:=F) (x:=z) (s:=s2) oy eS (fun x hx h=>by have h1:=cM.out x h;have h2:=bT x hx;omega)
  replace B0:=B0.trans (eS.below (by have:=B0.size;omega) (fun x hx=>by have:=cM.out x hx;omega))
  refine hK.out _ _ ⟨hHeld.1.chg eS (fun hx=>by have:=cM.out _ hx;omega),hHeld.2.chg eS (fun hx=>by have:=cM.out _ hx;omega)⟩ (fun hHeld=>?_)
  clear hK K_ rf RES_0 RES_1 RES_2 RES_3 eS
  (try simp only [pS])
  generalize (((w6.setCell ⟨w.heap.size+1+1,0,none⟩ (J U z.now)).setCell ⟨w.heap.size+1+1,1,none⟩ (J U z.seq)).setCell ⟨w.heap.size+1+1,2,none⟩ (Zz s2.1.a s2.1.n s2.1.c)).setCell ⟨w.heap.size+1+1,3,none⟩ (Zz s2.2.a s2.2.n s2.2.c)=w7 at *
  have RP_0:=RP2.cell 0 _ rfl
  have RP_1:=RP2.cell 1 _ rfl
  have RP_2:=RP2.cell 2 _ rfl
  have RP_3:=RP2.cell 3 _ rfl
  have pf:=RP2.free
  have fQ:=Chg.cells4 w7 (w.heap.size+1+1+1) 0 1 2 3 (J U c) (J U 0) (J U 0) (J U 0)
  refine rC 3 (fun K_ hK=>?_)
  go_simp
  refine hK.out _ _ ⟨hHeld.1.chg fQ (fun hx=>by have:=eA.out _ hx;omega),hHeld.2.chg fQ (fun hx=>by have:=eA.out _ hx;omega)⟩ (fun hHeld=>?_)
  clear hK K_ hHeld
  (try simp only [pS])
  refine wpAnyH_done (by kernel_rfl) ?_ _
  refine NoPanic.normal ?_
  have RES3:=RES2.chg fQ (fun hx=>by have:=eA.out _ hx;omega)
  have RP3:=DBox.row4 RP2 rfl (J U c) (J U 0) (J U 0) (J U 0)
  replace oy:Ab.ow _ F z s2:=Ab.ow_chg (F:=F) (x:=z) (s:=s2) oy fQ (fun x hx h=>by have h1:=eA.out x h;have h2:=bT x hx;omega)
  replace B0:=B0.trans (fQ.below (by have:=B0.size;omega) (fun x hx=>by have:=eA.out x hx;omega))
  clear RP_0 RP_1 RP_2 RP_3 pf
  go_wp2
  exact bodyPost_ret (Vu RES3 RP3) rfl ⟨s2,F,by rw [H.out],by rw [H.out];exact oy,fun x hx=>by have:=bT x hx;omega,B0⟩
theorem Tn:Ai Ea<=2000000:=by decide
noncomputable def Dw (l:List Deed):Yard:=l.foldl (fun y d=>(doO y d).1) Ea
theorem Pk (l:List Deed) (d:Deed):Dw (l ++ [d])=(doO (Dw l) d).1:=by unfold Dw;rw [List.foldl_append];rfl
theorem Ul:∀ (l:List Deed) (y:Yard),Ai y<=2000000->Ai (l.foldl (fun y d=>(doO y d).1) y)<=2000000
 | [],_,h=>h
 | d :: l,y,h=>Ul l _ (Vt h)
theorem Sr (l:List Deed):Ai (Dw l)<=2000000:=Ul l _ Tn
noncomputable def Ib (z:Yard) (id:Int):Bool:=tf (0<=Bo z id /\ ¬ (H8 z id).state=1)
noncomputable def Op (l:List Deed):List Yard:=(List.range l.length).map fun k=>Dw (l.take (k+1))
noncomputable def My (l:List Deed) (id:Int):Int:=if 400<l.length then -1 else Eo (fun z=>Ib z id) (Op l)
theorem Ss (l:List Deed):(Op l).length=l.length:=by unfold Op;simp
theorem Oq (l:List Deed) (k:Nat) (h:k<(Op l).length):(Op l)[k]=Dw (l.take (k+1)):=by simp [Op]
theorem Pm {l:List Deed} {id:Int} {k:Nat} (h4:¬ 400<l.length) (hk:k<l.length) (hn:∀ j,j<k->Ib (Dw (l.take (j+1))) id=false) (hy:Ib (Dw (l.take (k+1))) id=true):My l id=k:=by
 unfold My
 rw [if_neg h4]
 exact Gi (by rw [Ss];exact hk) (fun j hj=>by rw [Oq];exact hn j hj) (by rw [Oq];exact hy)
theorem St {l:List Deed} {id:Int} (h4:¬ 400<l.length) (hn:∀ j,j<l.length->Ib (Dw (l.take (j+1))) id=false):My l id = -1:=by
 unfold My
 rw [if_neg h4]
 exact Hc (fun j hj=>by rw [Oq];exact hn j (by rw [Ss] at hj;exact hj))
theorem Su (l:List Deed) (s:Sl) (id:Int) (w:World) (hl:Gd Ce l<=2000000) (h:RdL Be w w.heap.size s.v l) :
  Calls Tryz.prog 31 #[Zz s.a s.n s.c,J U id] w fun e w'=>e = .returned (J U (My l id))/\Below w.heap.size w w':=by
 obtain ⟨A,n,c⟩:=s
 obtain rfl:n=l.length:=RdL.at1 (s:=⟨A,n,c⟩) h
 have hln:l.length<=2000000:=Nat.le_trans (Ar Ce _) hl
 have hed:=Lib.hid (show ∀ k (hk:k<l.length),l[k].plan.edges.length<=2000000 from fun k hk=>by
  have h1:=Cq (cnt:=Ce) (List.getElem_mem hk)
  have h2:Ce l[k]=l[k].plan.edges.length:=El (fun _=>rfl) _
  omega)
 by_cases q:400<l.length
 ·have qI:(400:Int)<(l.length:Int):=by omega
  have H:=Lib.hid (show My l id = -1 from if_pos q)
  rw [H.out]
  go_enter Tryz.func31,Tryz.ntmps31
  go_wp2
  go_ret
  exact ⟨rfl,Below.refl _ _⟩
 have qI:¬ (400:Int)<(l.length:Int):=by omega
 have h4:=Lib.hid q
 go_enter Tryz.func31,Tryz.ntmps31
 go_wp2_with fail
 refine (Pv w).mono ?_
 rintro e1 w1 ⟨⟨⟨B1,m1,e1⟩,⟨B2,m2,e2⟩⟩,F,rfl,oy,nF,b1⟩
 have bJ:=b1.size
 have cH:=Ab.ow_lt (F:=F) (x:=Ea) (s:=(⟨B1,m1,e1⟩,⟨B2,m2,e2⟩)) oy
 go_upto_region 4 with fail
 have YB:=DBox.new 31 (Dk Ea (⟨B1,m1,e1⟩,⟨B2,m2,e2⟩)) w1 (b:=w1.heap.size) rfl
 have b2:Below w1.heap.size w1 (w1.alloc (.cells (Dk Ea (⟨B1,m1,e1⟩,⟨B2,m2,e2⟩)).toArray 31)):=(Below.refl _ _).alloc (Nat.le_refl _) _
 replace oy:Ab.ow _ F Ea (⟨B1,m1,e1⟩,⟨B2,m2,e2⟩):=Ab.ow_below (F:=F) (x:=Ea) (s:=(⟨B1,m1,e1⟩,⟨B2,m2,e2⟩)) oy b2
 have B0:=Aa b1 b2
 have nY:=YB.lt
 clear b2 b1
 generalize w1.alloc (.cells (Dk Ea (⟨B1,m1,e1⟩,⟨B2,m2,e2⟩)).toArray 31)=w2 at *
 generalize hyb:w1.heap.size=yb at *
 have fI:Hid (∀ x∈F,x≠yb):=fun x hx=>by have:=cH x hx;omega
 clear nF cH
 go_wp2
 go_loopw [15] (fun iv wr=>∃ (k:Nat) (s:Sl×Sl) (F:List Nat),k<=l.length/\iv = J U k/\Hid (∀ j,j<k->Ib (Dw (l.take (j+1))) id=false)/\Hid (Ab.ow wr F (Dw (l.take k)) s /\ ∀ x∈F,x≠yb)/\DBox yb (Dk (Dw (l.take k)) s) wr/\Below w.heap.size w wr) (fun i _=>l.length - (intOf i).toNat)
 case atStart=>exact ⟨0,(⟨B1,m1,e1⟩,⟨B2,m2,e2⟩),F,Nat.zero_le _,rfl,fun j hj=>absurd hj (by omega),⟨oy,fI.out⟩,YB,B0⟩
 case round =>
  clear oy fI YB B0 nY
  obtain ⟨k,s,F,hk,rfl,cI,hO,YB,hb⟩:=hrel
  have nY:=YB.lt
  have cD:=hb.size
  by_cases aA:k<l.length
  ·have aB:(k:Int)<(l.length:Int):=by omega
   have hk400:k<=400:=by have:=h4.out;omega
   have qM:=Lib.hid (Sr (l.take k))
   have aE:=Lib.hid (show Dw (l.take (k+1))=(doO (Dw (l.take k)) l[k]).1 by rw [Ay l k aA,Pk])
   obtain ⟨db,od,sd,rfl,hdb,pI,c0,c1,c2,c3,c4,c5,c6,c7,c8,c9,c10⟩:=(h.below hb).deed aA
   have kW:db<wr.heap.size:=by omega
   have hedk:=hed.out k aA
   have qA:=Lib.hid (fun (hy:Ib (Dw (l.take (k+1))) id=true)=>Pm h4.out aA cI.out hy)
   have hrdW:=Lib.hid (show ∀ W,Below wr.heap.size wr W->Be.rd W W.heap.size l[k] sd from fun W hW=>Be.rd_more (Be.rd_below (Be.rd_more pI cD) hW) hW.size)
   clear pI
   rw [aE.out] at qA
   have oy:=hO.out.1
   have hFy:=hO.out.2
   clear hO
   generalize Dw (l.take k)=Z at *
   generalize l[k]=d at *
   have DB:=DBox.new 45 [J U d.kind,J U d.run,J U d.plan.prio,J U d.plan.most,J U d.plan.wait,J U d.plan.tasks,Zz sd.a sd.n sd.c,J U d.task,J U d.try_,J U d.worker,J U d.draw] wr (b:=wr.heap.size) rfl
   have b4:Below wr.heap.size wr (wr.alloc (.cells #[J U d.kind,J U d.run,J U d.plan.prio,J U d.plan.most,J U d.plan.wait,J U d.plan.tasks,Zz sd.a sd.n sd.c,J U d.task,J U d.try_,J U d.worker,J U d.draw] 45)):=(Below.refl _ _).alloc (Nat.le_refl _) _
   go_upto_region 7 with fail
   replace YB:=YB.below b4
   replace oy:Ab.ow _ F Z s:=Ab.ow_below (F:=F) (x:=Z) (s:=s) oy b4
   have bQ:=Aa hb b4
   have kV:=b4.size
   have CD:=Lib.hid (Zd Z s d sd _ qM.out hedk (Ab.ow_rd (F:=F) (x:=Z) (s:=s) oy) (hrdW.out _ b4))
   clear b4 c0 c1 c2 c3 c4 c5 c6 c7 c8 c9 c10
   generalize wr.alloc (.cells #[J U d.kind,J U d.run,J U d.plan.prio,J U d.plan.most,J U d.plan.wait,J U d.plan.tasks,Zz sd.a sd.n sd.c,J U d.task,J U d.try_,J U d.worker,J U d.draw] 45)=w4 at *
   obtain ⟨YB_0,YB_1,YB_2,YB_3,YB_l⟩:=YB.g4
   obtain ⟨DB_0,DB_1,DB_2,DB_3,DB_4,DB_5,DB_6,DB_7,DB_8,DB_9,DB_10,DB_l⟩:=DB.g11
   have mD:=Lib.hid (Vt (d:=d) qM.out)
   generalize doO Z d=o at *
   obtain ⟨z,rep⟩:=o
   dsimp only at aE mD qA
   go_wp2_with fail
   refine CD.out.mono ?_
   rintro e6 w6 ⟨s6,F6,rfl,oy6,n6,b6⟩
   replace oy6:Ab.ow w6 F6 z s6:=oy6
   clear YB_0 YB_1 YB_2 YB_3 YB_l
   clear DB_0 DB_1 DB_2 DB_3 DB_4 DB_5 DB_6 DB_7 DB_8 DB_9 DB_10 DB_l
   clear DB CD
   replace YB:=YB.below b6
   have mC:=Aa bQ b6
   have mJ:∀ x∈F6,w4.heap.size<=x:=n6
   clear n6 oy b6
   obtain ⟨YB_0,YB_1,YB_2,YB_3,YB_l⟩:=YB.g4
   have ybf:=YB.free
   go_upto_region 8 with fail
   clear YB_0 YB_1 YB_2 YB_3 YB_l
   clear ybf
   have cE:=Chg.cells4 w6 yb 0 1 2 3 (J U z.now) (J U z.seq) (Zz s6.1.a s6.1.n s6.1.c) (Zz s6.2.a s6.2.n s6.2.c)
   have tC:=Lib.hid (show ∀ x,x∈[yb]->x=yb from fun x hx=>by simpa using hx)
   have hyn:w.heap.size<=yb:=by omega
   have jL:Hid (∀ x∈F6,x≠yb):=fun x hx=>by have:=mJ x hx;omega
   have YB7:=DBox.row4 YB rfl (J U z.now) (J U z.seq) (Zz s6.1.a s6.1.n s6.1.c) (Zz s6.2.a s6.2.n s6.2.c)
   have oy7:Ab.ow _ F6 z s6:=Ab.ow_chg (F:=F6) (x:=z) (s:=s6) oy6 cE (fun x hx hx2=>jL.out x hx (tC.out x hx2))
   have jD:=mC.trans (cE.below (by have:=mC.size;omega) (fun x hx=>by have:=tC.out x hx;omega))
   clear YB oy6 cE mJ mC hFy
   generalize (((w6.setCell ⟨yb,0,none⟩ (J U z.now)).setCell ⟨yb,1,none⟩ (J U z.seq)).setCell ⟨yb,2,none⟩ (Zz s6.1.a s6.1.n s6.1.c)).setCell ⟨yb,3,none⟩ (Zz s6.2.a s6.2.n s6.2.c)=w7 at *
   have CA:=Lib.hid (C6 z s6 id w7 mD.out (Ab.ow_rd (F:=F6) (x:=z) (s:=s6) oy7))
   have YB:=YB7
   obtain ⟨YB_0,YB_1,YB_2,YB_3,YB_l⟩:=YB.g4
   go_wp2_with fail
   refine CA.out.mono ?_
   rintro e8 w8 ⟨rfl,b8⟩
   clear YB_0 YB_1 YB_2 YB_3 YB_l
   replace YB7:=YB7.below b8
   replace oy7:Ab.ow w8 F6 z s6:=Ab.ow_below (F:=F6) (x:=z) (s:=s6) oy7 b8
   replace jD:=Aa jD b8
   clear b8 CA YB
   have YB:=YB7
   obtain ⟨YB_0,YB_1,YB_2,YB_3,YB_l⟩:=YB.g4
   rcases Cn z id with dB | ⟨j,hj,dB⟩
   ·have hB:Ib z id=false:=Al (fun hh=>by omega)
    have fJ:=Lib.hid (show ∀ j,j<k+1->Ib (Dw (l.take (j+1))) id=false from fun j hj=>by
     by_cases e:j=k
     ·subst e;rw [aE.out];exact hB
     ·exact cI.out j (by omega))
    rw [dB]
    clear hB dB
    go_wp2
    exact ⟨⟨k+1,s6,F6,by omega,by go_num,fJ.out,by rw [aE.out];exact ⟨oy7,jL.out⟩,by rw [aE.out];exact YB7,jD⟩,by simp [intOf];omega⟩
   ·obtain ⟨s61,⟨ra,rn,rc⟩⟩:=s6
    have orr:=(Ab.ow_rd (F:=F6) (x:=z) (s:=(s61,⟨ra,rn,rc⟩)) oy7).2
    obtain rfl:rn=z.runs.length:=RdL.at1 (s:=⟨ra,rn,rc⟩) orr
    obtain ⟨gr,orr0,-,rfl,mI,-,-,-,-,-,-,-,cst,-⟩:=RdL.run (show RdL Am w8 w8.heap.size (Zz ra z.runs.length rc) z.runs from orr) hj
    have fU:(j:Int)<(z.runs.length:Int):=by omega
    have bX:(0:Int)<=(j:Int):=by omega
    have cA:=Dr hj dB
    by_cases cF:z.runs[j].state=1
    ·have hB:Ib z id=false:=Al (fun hh=>hh.2 (by rw [cA];exact cF))
     have fJ:=Lib.hid (show ∀ j,j<k+1->Ib (Dw (l.take (j+1))) id=false from fun j hj=>by
      by_cases e:j=k
      ·subst e;rw [aE.out];exact hB
      ·exact cI.out j (by omega))
     have hq1:(z.runs[j].state != 1)=false:=by simp [cF]
     rw [dB]
     clear hB dB cA cF
     go_wp2
     exact ⟨⟨k+1,(s61,⟨some ⟨gr,orr0,none⟩,z.runs.length,rc⟩),F6,by omega,by go_num,fJ.out,by rw [aE.out];exact ⟨oy7,jL.out⟩,by rw [aE.out];exact YB7,jD⟩,by simp [intOf];omega⟩
    ·have hB:Ib z id=true:=Bs ⟨by omega,by rw [cA];exact cF⟩
     have hE:=Lib.hid (qA.out hB)
     have hq1:(z.runs[j].state != 1)=true:=by simp [cF]
     rw [dB]
     clear hB dB cA cF qA
     go_wp2
     go_ret
     exact ⟨by rw [hE.out];rfl,jD⟩
  ·have aB:¬ (k:Int)<(l.length:Int):=by omega
   have hE:=Lib.hid (show My l id = -1 from St h4.out (fun j hj=>cI.out j (by omega)))
   go_wp2
   go_ret
   exact ⟨by rw [hE.out];rfl,hb⟩
theorem Sv (l:List Deed) (s:Sl) (id:Int) (w:World) (hl:Gd Ce l<=2000000) (h:RdL Be w w.heap.size s.v l) :
  Calls Tryz.prog 29 #[Zz s.a s.n s.c,J U id] w fun e w'=>e = .returned (J U (My l id))/\Below w.heap.size w w':=by
 obtain ⟨A,n,c⟩:=s
 obtain rfl:n=l.length:=RdL.at1 (s:=⟨A,n,c⟩) h
 have hln:l.length<=2000000:=Nat.le_trans (Ar Ce _) hl
 have hed:=Lib.hid (show ∀ k (hk:k<l.length),l[k].plan.edges.length<=2000000 from fun k hk=>by
  have h1:=Cq (cnt:=Ce) (List.getElem_mem hk)
  have h2:Ce l[k]=l[k].plan.edges.length:=El (fun _=>rfl) _
  omega)
 by_cases q:400<l.length
 ·have qI:(400:Int)<(l.length:Int):=by omega
  have H:=Lib.hid (show My l id = -1 from if_pos q)
  rw [H.out]
  go_enter Tryz.func29,Tryz.ntmps29
  go_wp2
  go_ret
  exact ⟨rfl,Below.refl _ _⟩
 have qI:¬ (400:Int)<(l.length:Int):=by omega
 have h4:=Lib.hid q
 go_enter Tryz.func29,Tryz.ntmps29
 go_wp2_with fail
 refine (Pw w).mono ?_
 rintro e1 w1 ⟨⟨⟨B1,m1,e1⟩,⟨B2,m2,e2⟩⟩,F,rfl,oy,nF,b1⟩
 have bJ:=b1.size
 have cH:=Ab.ow_lt (F:=F) (x:=Ea) (s:=(⟨B1,m1,e1⟩,⟨B2,m2,e2⟩)) oy
 go_upto_region 4 with fail
 have YB:=DBox.new 31 (Dk Ea (⟨B1,m1,e1⟩,⟨B2,m2,e2⟩)) w1 (b:=w1.heap.size) rfl
 have b2:Below w1.heap.size w1 (w1.alloc (.cells (Dk Ea (⟨B1,m1,e1⟩,⟨B2,m2,e2⟩)).toArray 31)):=(Below.refl _ _).alloc (Nat.le_refl _) _
 replace oy:Ab.ow _ F Ea (⟨B1,m1,e1⟩,⟨B2,m2,e2⟩):=Ab.ow_below (F:=F) (x:=Ea) (s:=(⟨B1,m1,e1⟩,⟨B2,m2,e2⟩)) oy b2
 have B0:=Aa b1 b2
 have nY:=YB.lt
 clear b2 b1
 generalize w1.alloc (.cells (Dk Ea (⟨B1,m1,e1⟩,⟨B2,m2,e2⟩)).toArray 31)=w2 at *
 generalize hyb:w1.heap.size=yb at *
 have fI:Hid (∀ x∈F,x≠yb):=fun x hx=>by have:=cH x hx;omega
 clear nF cH
 go_wp2
 go_loopw [6] (fun iv wr=>∃ (k:Nat) (s:Sl×Sl) (F:List Nat),k<=l.length/\iv = J U k/\Hid (∀ j,j<k->Ib (Dw (l.take (j+1))) id=false)/\Hid (Ab.ow wr F (Dw (l.take k)) s /\ ∀ x∈F,x≠yb)/\DBox yb (Dk (Dw (l.take k)) s) wr/\Below w.heap.size w wr) (fun i _=>l.length - (intOf i).toNat)
 case atStart=>exact ⟨0,(⟨B1,m1,e1⟩,⟨B2,m2,e2⟩),F,Nat.zero_le _,rfl,fun j hj=>absurd hj (by omega),⟨oy,fI.out⟩,YB,B0⟩
 case round =>
  clear oy fI YB B0 nY
  obtain ⟨k,s,F,hk,rfl,cI,hO,YB,hb⟩:=hrel
  have nY:=YB.lt
  have cD:=hb.size
  by_cases aA:k<l.length
  ·have aB:(k:Int)<(l.length:Int):=by omega
   have hk400:k<=400:=by have:=h4.out;omega
   have qM:=Lib.hid (Sr (l.take k))
   have aE:=Lib.hid (show Dw (l.take (k+1))=(doO (Dw (l.take k)) l[k]).1 by rw [Ay l k aA,Pk])
   obtain ⟨db,od,sd,rfl,hdb,pI,c0,c1,c2,c3,c4,c5,c6,c7,c8,c9,c10⟩:=(h.below hb).deed aA
   have kW:db<wr.heap.size:=by omega
   have hedk:=hed.out k aA
   have qA:=Lib.hid (fun (hy:Ib (Dw (l.take (k+1))) id=true)=>Pm h4.out aA cI.out hy)
   have hrdW:=Lib.hid (show ∀ W,Below wr.heap.size wr W->Be.rd W W.heap.size l[k] sd from fun W hW=>Be.rd_more (Be.rd_below (Be.rd_more pI cD) hW) hW.size)
   clear pI
   rw [aE.out] at qA
   have oy:=hO.out.1
   have hFy:=hO.out.2
   clear hO
   generalize Dw (l.take k)=Z at *
   generalize l[k]=d at *
   have CD:=Lib.hid (Zb Z s d sd wr.drew qM.out hedk (Ab.ow_rd (w:=wr.drew) (F:=F) (x:=Z) (s:=s) (Ab.ow_below (F:=F) (x:=Z) (s:=s) oy (Below.refl _ _).drew)) (hrdW.out _ (Below.refl _ _).drew))
   have mD:=Lib.hid (Vt (d:=d) qM.out)
   generalize doO Z d=o at *
   obtain ⟨z,rep⟩:=o
   dsimp only at aE mD qA
   obtain ⟨YB_0,YB_1,YB_2,YB_3,YB_l⟩:=YB.g4
   go_upto_region 7 with fail
   refine Pp (fun w'=>w'.cell? ⟨yb,0,none⟩=some (J U Z.now)/\w'.cell? ⟨yb,1,none⟩=some (J U Z.seq)/\w'.cell? ⟨yb,2,none⟩=some (Zz s.1.a s.1.n s.1.c)/\w'.cell? ⟨yb,3,none⟩=some (Zz s.2.a s.2.n s.2.c)/\w'.cell? ⟨db,od+k * 11,none⟩=some (J U d.kind)/\w'.cell? ⟨db,od+k * 11+1,none⟩=some (J U d.run)/\w'.cell? ⟨db,od+k * 11+2,none⟩=some (J U d.plan.prio)/\w'.cell? ⟨db,od+k * 11+3,none⟩=some (J U d.plan.most)/\w'.cell? ⟨db,od+k * 11+4,none⟩=some (J U d.plan.wait)/\w'.cell? ⟨db,od+k * 11+5,none⟩=some (J U d.plan.tasks)/\w'.cell? ⟨db,od+k * 11+6,none⟩=some (Zz sd.a sd.n sd.c)/\w'.cell? ⟨db,od+k * 11+7,none⟩=some (J U d.task)/\w'.cell? ⟨db,od+k * 11+8,none⟩=some (J U d.try_)/\w'.cell? ⟨db,od+k * 11+9,none⟩=some (J U d.worker)/\w'.cell? ⟨db,od+k * 11+10,none⟩=some (J U d.draw)) 9 (by kernel_rfl) ?_ (fun hHeld=>?_)
   ·exact ⟨YB_0,YB_1,YB_2,YB_3,c0,c1,c2,c3,c4,c5,c6,c7,c8,c9,c10⟩
   refine aM 0 hHeld ?_
   try simp only [pS]
   refine aM 1 hHeld ?_
   try simp only [pS]
   refine aM 2 hHeld ?_
   try simp only [pS]
   refine aM 3 hHeld ?_
   try simp only [pS]
   refine aM 4 hHeld ?_
   try simp only [pS]
   refine oM 5 (fun K hK=>?_)
   (go_simp;refine CD.out.mono ?_;rintro e6 w6 ⟨s6,F6,rfl,oy6,n6,b6⟩;replace oy6:Ab.ow w6 F6 z s6:=oy6)
   have b6':Below wr.heap.size wr w6:=Aa (Below.refl _ _).drew b6
   have tA:=(⟨(b6'.cell (p:=⟨_,_,none⟩) nY).trans YB_0,(b6'.cell (p:=⟨_,_,none⟩) nY).trans YB_1,(b6'.cell (p:=⟨_,_,none⟩) nY).trans YB_2,(b6'.cell (p:=⟨_,_,none⟩) nY).trans YB_3,(b6'.cell (p:=⟨_,_,none⟩) kW).trans c0,(b6'.cell (p:=⟨_,_,none⟩) kW).trans c1,(b6'.cell (p:=⟨_,_,none⟩) kW).trans c2,(b6'.cell (p:=⟨_,_,none⟩) kW).trans c3,(b6'.cell (p:=⟨_,_,none⟩) kW).trans c4,(b6'.cell (p:=⟨_,_,none⟩) kW).trans c5,(b6'.cell (p:=⟨_,_,none⟩) kW).trans c6,(b6'.cell (p:=⟨_,_,none⟩) kW).trans c7,(b6'.cell (p:=⟨_,_,none⟩) kW).trans c8,(b6'.cell (p:=⟨_,_,none⟩) kW).trans c9,(b6'.cell (p:=⟨_,_,none⟩) kW).trans c10⟩:w6.cell? ⟨yb,0,none⟩=some (J U Z.now)/\w6.cell? ⟨yb,1,none⟩=some (J U Z.seq)/\w6.cell? ⟨yb,2,none⟩=some (Zz s.1.a s.1.n s.1.c)/\w6.cell? ⟨yb,3,none⟩=some (Zz s.2.a s.2.n s.2.c)/\w6.cell? ⟨db,od+k * 11,none⟩=some (J U d.kind)/\w6.cell? ⟨db,od+k * 11+1,none⟩=some (J U d.run)/\w6.cell? ⟨db,od+k * 11+2,none⟩=some (J U d.plan.prio)/\w6.cell? ⟨db,od+k * 11+3,none⟩=some (J U d.plan.most)/\w6.cell? ⟨db,od+k * 11+4,none⟩=some (J U d.plan.wait)/\w6.cell? ⟨db,od+k * 11+5,none⟩=some (J U d.plan.tasks)/\w6.cell? ⟨db,od+k * 11+6,none⟩=some (Zz sd.a sd.n sd.c)/\w6.cell? ⟨db,od+k * 11+7,none⟩=some (J U d.task)/\w6.cell? ⟨db,od+k * 11+8,none⟩=some (J U d.try_)/\w6.cell? ⟨db,od+k * 11+9,none⟩=some (J U d.worker)/\w6.cell? ⟨db,od+k * 11+10,none⟩=some (J U d.draw))
   refine hK.out _ _ (fun _ _=>tA) ?_
   clear hK K
   try simp only [pS]
   refine aM 6 tA ?_
   try simp only [pS]
   refine aM 7 tA ?_
   try simp only [pS]
   have YB6:=YB.below b6'
   have k0:=YB6.cell 0 _ rfl
   have k1:=YB6.cell 1 _ rfl
   have k2:=YB6.cell 2 _ rfl
   have k3:=YB6.cell 3 _ rfl
   have ybf:=YB6.free
   have ybl:=YB6.lt
   refine oM2 8 9 (fun K hK=>?_) (fun K hK=>?_)
   (go_simp;refine hK.out _ _ (fun _ _=>tA) ?_;clear hK K;try simp only [pS])
   refine oM 9 (fun K hK=>?_)
   (go_simp;refine hK.out _ _ (fun aC=>absurd rfl aC) ?_;clear hK K;try simp only [pS])
   refine Ov (by kernel_rfl) ?_ _
   rotate_left
   (go_simp;refine hK.out _ _ (fun aC=>absurd rfl aC) ?_;clear hK K;try simp only [pS])
   refine oM 8 (fun K hK=>?_)
   (go_simp;refine hK.out _ _ (fun _ h=>Bool.noConfusion (h.symm.trans (show _=true by kernel_rfl))) ?_;clear hK K;try simp only [pS])
   refine Ov (by kernel_rfl) ?_ _
   all_goals
    clear YB_0 YB_1 YB_2 YB_3 YB_l
    clear hHeld tA c0 c1 c2 c3 c4 c5 c6 c7 c8 c9 c10 CD k0 k1 k2 k3 ybf ybl
    replace YB:=YB6
    clear YB6
    have mC:=Aa hb b6'
    have mJ:∀ x∈F6,wr.heap.size<=x:=n6
    clear n6 oy b6 b6'
    have cE:=Chg.cells4 w6 yb 0 1 2 3 (J U z.now) (J U z.seq) (Zz s6.1.a s6.1.n s6.1.c) (Zz s6.2.a s6.2.n s6.2.c)
    have tC:=Lib.hid (show ∀ x,x∈[yb]->x=yb from fun x hx=>by simpa using hx)
    have hyn:w.heap.size<=yb:=by omega
    have jL:Hid (∀ x∈F6,x≠yb):=fun x hx=>by have:=mJ x hx;omega
    have YB7:=DBox.row4 YB rfl (J U z.now) (J U z.seq) (Zz s6.1.a s6.1.n s6.1.c) (Zz s6.2.a s6.2.n s6.2.c)
    have oy7:Ab.ow _ F6 z s6:=Ab.ow_chg (F:=F6) (x:=z) (s:=s6) oy6 cE (fun x hx hx2=>jL.out x hx (tC.out x hx2))
    have jD:=mC.trans (cE.below (by have:=mC.size;omega) (fun x hx=>by have:=tC.out x hx;omega))
    clear YB oy6 cE mJ mC hFy
    generalize (((w6.setCell ⟨yb,0,none⟩ (J U z.now)).setCell ⟨yb,1,none⟩ (J U z.seq)).setCell ⟨yb,2,none⟩ (Zz s6.1.a s6.1.n s6.1.c)).setCell ⟨yb,3,none⟩ (Zz s6.2.a s6.2.n s6.2.c)=w7 at *
    have CA:=Lib.hid (Cz z s6 id w7 mD.out (Ab.ow_rd (F:=F6) (x:=z) (s:=s6) oy7))
    have YB:=YB7
    obtain ⟨YB_0,YB_1,YB_2,YB_3,YB_l⟩:=YB.g4
    go_wp2_with fail
    refine CA.out.mono ?_
    rintro e8 w8 ⟨rfl,b8⟩
    clear YB_0 YB_1 YB_2 YB_3 YB_l
    replace YB7:=YB7.below b8
    replace oy7:Ab.ow w8 F6 z s6:=Ab.ow_below (F:=F6) (x:=z) (s:=s6) oy7 b8
    replace jD:=Aa jD b8
    clear b8 CA YB
    have YB:=YB7
    obtain ⟨YB_0,YB_1,YB_2,YB_3,YB_l⟩:=YB.g4
    rcases Cn z id with dB | ⟨j,hj,dB⟩
    ·have hB:Ib z id=false:=Al (fun hh=>by omega)
     have fJ:=Lib.hid (show ∀ j,j<k+1->Ib (Dw (l.take (j+1))) id=false from fun j hj=>by
      by_cases e:j=k
      ·subst e;rw [aE.out];exact hB
      ·exact cI.out j (by omega))
     rw [dB]
     clear hB dB
     go_wp2
     exact ⟨⟨k+1,s6,F6,by omega,by go_num,fJ.out,by rw [aE.out];exact ⟨oy7,jL.out⟩,by rw [aE.out];exact YB7,jD⟩,by simp [intOf];omega⟩
    ·obtain ⟨s61,⟨ra,rn,rc⟩⟩:=s6
     have orr:=(Ab.ow_rd (F:=F6) (x:=z) (s:=(s61,⟨ra,rn,rc⟩)) oy7).2
     obtain rfl:rn=z.runs.length:=RdL.at1 (s:=⟨ra,rn,rc⟩) orr
     obtain ⟨gr,orr0,-,rfl,mI,-,-,-,-,-,-,-,cst,-⟩:=RdL.run (show RdL Am w8 w8.heap.size (Zz ra z.runs.length rc) z.runs from orr) hj
     have fU:(j:Int)<(z.runs.length:Int):=by omega
     have bX:(0:Int)<=(j:Int):=by omega
     have cA:=Dr hj dB
     by_cases cF:z.runs[j].state=1
     ·have hB:Ib z id=false:=Al (fun hh=>hh.2 (by rw [cA];exact cF))
      have fJ:=Lib.hid (show ∀ j,j<k+1->Ib (Dw (l.take (j+1))) id=false from fun j hj=>by
       by_cases e:j=k
       ·subst e;rw [aE.out];exact hB
       ·exact cI.out j (by omega))
      have hq1:(z.runs[j].state != 1)=false:=by simp [cF]
      rw [dB]
      clear hB dB cA cF
      go_wp2
      exact ⟨⟨k+1,(s61,⟨some ⟨gr,orr0,none⟩,z.runs.length,rc⟩),F6,by omega,by go_num,fJ.out,by rw [aE.out];exact ⟨oy7,jL.out⟩,by rw [aE.out];exact YB7,jD⟩,by simp [intOf];omega⟩
     ·have hB:Ib z id=true:=Bs ⟨by omega,by rw [cA];exact cF⟩
      have hE:=Lib.hid (qA.out hB)
      have hq1:(z.runs[j].state != 1)=true:=by simp [cF]
      rw [dB]
      clear hB dB cA cF qA
      go_wp2
      go_ret
      exact ⟨by rw [hE.out];rfl,jD⟩
  ·have aB:¬ (k:Int)<(l.length:Int):=by omega
   have hE:=Lib.hid (show My l id = -1 from St h4.out (fun j hj=>cI.out j (by omega)))
   go_wp2
   go_ret
   exact ⟨by rw [hE.out];rfl,hb⟩
theorem Sw (x0:List (Deed)) (s0:Sl) (n1:Int) (w:World) (rU:wfL Lg x0) (h0:RdL Be w w.heap.size s0.v x0) (hw1:Wf n1) :
  Calls Tryz.prog 5 #[Zz s0.a s0.n s0.c,J U n1] w fun e w'=>e = .returned (.bool true)/\Below w.heap.size w w':=by
 have b0:=Below.refl w.heap.size w
 go_enter Tryz.func5,Tryz.ntmps5
 go_wp2_with fail
 refine (Wb x0 s0 _ _ (by omega) (by omega) rU ((h0.below b0).more b0.size)).mono ?_
 rintro e w1 ⟨r1,rfl,sL,c1⟩
 have b1:=Aa b0 c1
 have s1_:w.heap.size<=w1.heap.size:=c1.size
 rcases sL with rfl | ⟨q1,z1⟩
 ·go_wp2_with fail
  go_ret
  exact ⟨rfl,b1⟩
 have qb1:decide (r1<0)=false:=by simpa using q1
 have kJ:Gd Ce x0<=2000000:=by omega
 go_wp2_with fail
 refine (Lh x0 s0 _ kJ ((h0.below b1).more b1.size)).mono ?_
 rintro e w2 ⟨rw0s0,Fw0s0,rfl,ow0s0,nw0s0,c2⟩
 have b2:=Aa b1 c2
 have s2_:w1.heap.size<=w2.heap.size:=c2.size
 replace ow0s0:OwL Be w2 Fw0s0 rw0s0.v x0:=ow0s0
 replace nw0s0:∀ b∈Fw0s0,w1.heap.size<=b:=nw0s0
 have tw0s0:∀ b∈Fw0s0,b<w2.heap.size:=(OwL.lt ow0s0)
 go_wp2_with fail
 refine (Sv x0 rw0s0 n1 _ kJ (OwL.rd ow0s0)).mono ?_
 rintro e w3 ⟨rfl,c3⟩
 have b3:=Aa b2 c3
 replace ow0s0:=(OwL.below ow0s0 c3)
 have s3_:w2.heap.size<=w3.heap.size:=c3.size
 clear ow0s0 nw0s0 tw0s0
 go_wp2_with fail
 refine (Lh x0 s0 _ kJ ((h0.below b3).more b3.size)).mono ?_
 rintro e w4 ⟨rx0,Fx0,rfl,ox0,nx0,c4⟩
 have b4:=Aa b3 c4
 have s4_:w3.heap.size<=w4.heap.size:=c4.size
 replace ox0:OwL Be w4 Fx0 rx0.v x0:=ox0
 replace nx0:∀ b∈Fx0,w3.heap.size<=b:=nx0
 have tx0:∀ b∈Fx0,b<w4.heap.size:=(OwL.lt ox0)
 go_wp2_with fail
 refine (Su x0 rx0 n1 _ kJ (OwL.rd ox0)).mono ?_
 rintro e w5 ⟨rfl,c5⟩
 have b5:=Aa b4 c5
 replace ox0:=(OwL.below ox0 c5)
 have s5_:w4.heap.size<=w5.heap.size:=c5.size
 go_wp2_with fail
 refine (Lh x0 s0 _ kJ ((h0.below b5).more b5.size)).mono ?_
 rintro e w6 ⟨ryx0,Fyx0,rfl,oyx0,nyx0,c6⟩
 have b6:=Aa b5 c6
 replace ox0:=(OwL.below ox0 c6)
 have s6_:w5.heap.size<=w6.heap.size:=c6.size
 replace oyx0:OwL Be w6 Fyx0 ryx0.v x0:=oyx0
 replace nyx0:∀ b∈Fyx0,w5.heap.size<=b:=nyx0
 have tyx0:∀ b∈Fyx0,b<w6.heap.size:=(OwL.lt oyx0)
 go_wp2_with fail
 refine (Wc x0 x0 rx0 ryx0 _ kJ kJ (OwL.rd ox0) (OwL.rd oyx0)).mono ?_
 rintro e w7 ⟨rfl,c7⟩
 have b7:=Aa b6 c7
 replace ox0:=(OwL.below ox0 c7)
 replace oyx0:=(OwL.below oyx0 c7)
 have s7_:w6.heap.size<=w7.heap.size:=c7.size
 clear oyx0 nyx0 tyx0
 go_wp2_with fail
 go_ret
 exact ⟨rfl,b7⟩
end Go.Proofs.YtonlnjdempbfoaaGreat
