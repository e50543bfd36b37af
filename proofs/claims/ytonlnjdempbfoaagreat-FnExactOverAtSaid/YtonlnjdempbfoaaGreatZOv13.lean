/-
  Tick of the reference. Written by program (kza.py). Submit of the program. Written by program (isu.py). Swept of the program. Restart of the reference. Written 
-/
import Derived.Test.YtonlnjdempbfoaaGreatZOv0
import Derived.Test.YtonlnjdempbfoaaGreatZOv6
import Derived.Test.YtonlnjdempbfoaaGreatZOv8
import Derived.Test.YtonlnjdempbfoaaGreatZOv9
import Derived.Test.YtonlnjdempbfoaaGreatZOv11
import Derived.Test.YtonlnjdempbfoaaGreatZOv12
namespace Go.Proofs.YtonlnjdempbfoaaGreat
open Go.RowKit
set_option maxRecDepth 100000
set_option maxHeartbeats 4000000
set_option linter.unusedVariables false
set_option linter.unusedSimpArgs false
section
open Classical in
noncomputable def Dv (z:Yard) (k t:Nat):Yard:=if (Ax (En z k) t).state=3 then Dq z k (Br (En z k) t) else z
noncomputable def De (y:Yard) (l:List (Nat×Nat)):Yard:=l.foldl (fun z p=>Dv z p.1 p.2) y
theorem Jh {z:Yard} {k t:Nat} (h:¬ (Ax (En z k) t).state=3):Dv z k t=z:=if_neg h
theorem Iq {z:Yard} {k t:Nat} (h:(Ax (En z k) t).state=3):Dv z k t=Dq z k (Br (En z k) t):=if_pos h
theorem Trn.fail {y z:Yard} {m:Nat} (h:Trn y m z) {k t:Nat} (hk:k<z.runs.length) (ht:t<z.runs[k].tasks.length):Trn y (m+1) (Dv z k t):=by
 by_cases q:(Ax (En z k) t).state=3
 ·rw [Iq q,Cw hk]
  rw [Cw hk] at q
  exact h.step hk ⟨(h.run k hk (by rw [<-h.len];exact hk)).1,⟨by omega,by omega⟩,q⟩
 ·rw [Jh q]
  exact h.mono (by omega)
open Classical in
noncomputable def Ha (y:Yard):Int:=if ¬ Bq y then 8 else if 999999980<y.now+1 then 7 else 0
noncomputable def Zu (y:Yard):Yard:=De y (Dm y y.runs.length)
noncomputable def Gt (y:Yard):Yard:=if Ha y=0 then ⟨(Zu y).now+1,(Zu y).seq,(Zu y).shelf,(Zu y).runs⟩ else y
theorem On {y:Yard} {n:Nat} {p:Nat×Nat} (h:p∈Dm y n):p.1<n/\p.2<(En y p.1).tasks.length:=by
 unfold Dm at h
 obtain ⟨j,hj,hp⟩:=List.mem_flatMap.1 h
 unfold Gw at hp
 obtain ⟨t,ht,rfl⟩:=List.mem_map.1 hp
 exact ⟨List.mem_range.1 hj,List.mem_range.1 (List.mem_filter.1 ht).1⟩
theorem Kz {w:World} {F:List Nat} {b o n c:Nat} {rows:List (List Int)} (h:OwL (Dt.flats Fz) w F (.slice (some ⟨b,o,none⟩) n c) rows) {i:Nat} (hi:i<rows.length) {x y z:Int} (hr:rows[i]=[x,y,z]) :
  ∃ g p cc,b∈F/\g∈F/\w.cell? ⟨b,o+i,none⟩=some (.slice (some ⟨g,p,none⟩) 3 cc)/\w.cell? ⟨g,p,none⟩=some (.int .i64 x)/\w.cell? ⟨g,p+1,none⟩=some (.int .i64 y)/\w.cell? ⟨g,p+2,none⟩=some (.int .i64 z):=by
 obtain ⟨s,Fx,hx,aY,_,hb,_,hc⟩:=h.elem hi
 rw [hr] at hx
 have eE:Hw Fz w Fx (.slice s.a s.n s.c) [x,y,z]:=hx
 obtain ⟨g,p,sA,pD,_,_⟩:=eE.at_ (by simp)
 obtain ⟨A',c',hv,_,hA⟩:=eE.rd
 simp only [Value.slice.injEq] at hv
 obtain ⟨h1,h2,h3⟩:=hv
 obtain ⟨g',p',bS,_,bP⟩:=hA (by simp)
 rw [<-h1,sA] at bS
 simp only [Option.some.injEq,Addr.mk.injEq,and_true] at bS
 obtain ⟨rfl,rfl⟩:=bS
 refine ⟨g,p,s.c,hb,aY _ (by rw [pD];simp),?_,?_,?_,?_⟩
 ·have:=hc 0 (.slice s.a s.n s.c) rfl
  rw [show o+i * (Dt.flats Fz).enc.sz+0=o+i from by show o+i * 1+0=o+i;omega,sA,h2] at this
  exact this
 ·exact bP 0 (by simp) 0 _ rfl
 ·exact bP 1 (by simp) 0 _ rfl
 ·exact bP 2 (by simp) 0 _ rfl
theorem Sj {b:Nat} {w:World} {u0 u1 u2 u3:Value} (X:DBox b [u0,u1,u2,u3] w) {v0 v1 v3:Value} {rest:List Value} :
  (results Tryz.f147 (v0 :: v1 :: .pointer (some ⟨b,0,none⟩) :: v3 :: rest).toArray).run Tryz.prog w = .ok (.tuple #[.agg #[u0,u1,u2,u3],v3]) w:=by
 have c0:=X.cell 0 _ rfl
 have c1:=X.cell 1 _ rfl
 have c2:=X.cell 2 _ rfl
 have c3:=X.cell 3 _ rfl
 simp [results,Tryz.results147,go_sem,c0,c1,c2,c3]
theorem Vo (y:Yard) (s:Sl×Sl) (w:World) (hl:Ai y<=2000000) (h:Ab.rd w w.heap.size y s) :
  Calls Tryz.prog 147 #[By y s] w (Fn (Gt y) (Ha y) w):=by
 have HR:=Lib.hid (show ∀ W,Below w.heap.size w W->Ab.rd W W.heap.size y s from fun W hW=>Ab.rd_more (Ab.rd_below h hW) hW.size)
 obtain ⟨⟨A1,n1,c1⟩,⟨A2,n2,c2⟩⟩:=s
 have CC:=Lib.hid (fun W hW=>C9 y (⟨A1,n1,c1⟩,⟨A2,n2,c2⟩) W hl (HR.out W hW))
 have CY:=Lib.hid (fun W hW=>D7 y (⟨A1,n1,c1⟩,⟨A2,n2,c2⟩) W hl (HR.out W hW))
 clear h
 obtain ⟨W,aG,X,RES,B0⟩:=bx2 w 31 [.int .i64 y.now,.int .i64 y.seq,.slice A1 n1 c1,.slice A2 n2 c2] 31 [.int .i64 0,.int .i64 0,.slice none 0 0,.slice none 0 0]
 go_enter Tryz.func147,Tryz.ntmps147
 go_wp2_with fail
 rw [<-aG.out]
 clear aG
 have dM:w.heap.size+1<W.heap.size:=RES.lt
 refine (CC.out _ B0).mono ?_
 rintro e1 w1 ⟨⟨⟨B1,m1,e1⟩,⟨B2,m2,e2⟩⟩,F,rfl,oy,nF,b1⟩
 have bJ:=b1.size
 have cH:=Ab.ow_lt (F:=F) (x:=y) (s:=(⟨B1,m1,e1⟩,⟨B2,m2,e2⟩)) oy
 replace X:=X.below b1
 replace RES:=RES.below b1
 replace B0:=Aa B0 b1
 clear b1
 go_upto_region 2 with fail
 have OB:=DBox.new 31 [.int .i64 y.now,.int .i64 y.seq,.slice B1 m1 e1,.slice B2 m2 e2] w1 (b:=w1.heap.size) rfl
 have b2:Below w1.heap.size w1 (w1.alloc (.cells #[.int .i64 y.now,.int .i64 y.seq,.slice B1 m1 e1,.slice B2 m2 e2] 31)):=(Below.refl _ _).alloc (Nat.le_refl _) _
 replace X:=X.below b2
 replace RES:=RES.below b2
 replace oy:=Ab.ow_below (F:=F) (x:=y) (s:=(⟨B1,m1,e1⟩,⟨B2,m2,e2⟩)) oy b2
 replace B0:=Aa B0 b2
 have ow1:=OB.lt
 clear b2
 generalize w1.alloc (.cells #[.int .i64 y.now,.int .i64 y.seq,.slice B1 m1 e1,.slice B2 m2 e2] 31)=w2 at *
 generalize cJ:w1.heap.size=ob at *
 obtain ⟨X_0,X_1,X_2,X_3,X_l⟩:=X.g4
 obtain ⟨OB_0,OB_1,OB_2,OB_3,OB_l⟩:=OB.g4
 go_wp2_with fail
 refine (CY.out _ B0).mono ?_
 rintro e1 w3 ⟨rfl,b3⟩
 clear X_0 X_1 X_2 X_3 X_l
 clear OB_0 OB_1 OB_2 OB_3 OB_l
 replace X:=X.below b3
 replace OB:=OB.below b3
 replace RES:=RES.below b3
 replace oy:Ab.ow w3 F y (⟨B1,m1,e1⟩,⟨B2,m2,e2⟩):=Ab.ow_below (F:=F) (x:=y) (s:=(⟨B1,m1,e1⟩,⟨B2,m2,e2⟩)) oy b3
 replace B0:=Aa B0 b3
 clear b3
 obtain ⟨X_0,X_1,X_2,X_3,X_l⟩:=X.g4
 obtain ⟨OB_0,OB_1,OB_2,OB_3,OB_l⟩:=OB.g4
 by_cases p0:Bq y
 case neg =>
  rw [Al p0]
  have H:=Lib.hid (show Ha y=8 by unfold Ha;rw [if_pos p0])
  have H2:=Lib.hid (show Gt y=y by unfold Gt;rw [H.out,if_neg (by decide)])
  obtain ⟨RES_0,RES_1,RES_2,RES_3,RES_l⟩:=RES.g4
  have rf:=RES.free
  go_wp2
  have en1:w.heap.size+1∉F:=fun hx=>by have:=nF _ hx;omega
  refine bodyPost_ret (Sj (DBox.row4 RES rfl _ _ _ _)) rfl ⟨(⟨B1,m1,e1⟩,⟨B2,m2,e2⟩),F,by rw [H.out,H2.out],by rw [H2.out];exact (by (repeat (refine Dt.ow_set Ab ?_ en1 _));exact (show Ab.ow _ F y (⟨B1,m1,e1⟩,⟨B2,m2,e2⟩) from oy)),fun x hx=>by have:=nF x hx;omega,?_⟩
  repeat (first | (with_reducible exact B0) | refine Below.setCell ?_ (by simp<;>omega) _)
 rw [Bs p0]
 have P0:=Lib.hid p0
 have fW:=p0.1
 clear p0
 have wr1:IntKind.i64.wrap (y.now+1)=y.now+1:=IntWalk.i64_in _ (by omega)
 by_cases p1:999999980<y.now+1
 case pos =>
  have H:=Lib.hid (show Ha y=7 by unfold Ha;rw [if_neg (fun h=>h P0.out),if_pos p1])
  have H2:=Lib.hid (show Gt y=y by unfold Gt;rw [H.out,if_neg (by decide)])
  obtain ⟨RES_0,RES_1,RES_2,RES_3,RES_l⟩:=RES.g4
  have rf:=RES.free
  go_wp2
  have en1:w.heap.size+1∉F:=fun hx=>by have:=nF _ hx;omega
  refine bodyPost_ret (Sj (DBox.row4 RES rfl _ _ _ _)) rfl ⟨(⟨B1,m1,e1⟩,⟨B2,m2,e2⟩),F,by rw [H.out,H2.out],by rw [H2.out];exact (by (repeat (refine Dt.ow_set Ab ?_ en1 _));exact (show Ab.ow _ F y (⟨B1,m1,e1⟩,⟨B2,m2,e2⟩) from oy)),fun x hx=>by have:=nF x hx;omega,?_⟩
  repeat (first | (with_reducible exact B0) | refine Below.setCell ?_ (by simp<;>omega) _)
 have H:=Lib.hid (show Ha y=0 by unfold Ha;rw [if_neg (fun h=>h P0.out),if_neg p1])
 have H2:=Lib.hid (show Gt y=⟨(De y (Dm y y.runs.length)).now+1,(De y (Dm y y.runs.length)).seq,(De y (Dm y y.runs.length)).shelf,(De y (Dm y y.runs.length)).runs⟩ by unfold Gt;rw [if_pos H.out];rfl)
 have CL:=Lib.hid (fun W hW=>Vl y (⟨A1,n1,c1⟩,⟨A2,n2,c2⟩) W hl P0.out (HR.out W hW))
 clear HR CC CY
 go_wp2_with fail
 refine (CL.out _ B0).mono ?_
 rintro e1 w4 ⟨⟨A9,n9,c9⟩,Fl,he,ol,nl,b4⟩
 replace he:e1 = .returned (.slice A9 n9 c9):=he
 subst he
 clear X_0 X_1 X_2 X_3 X_l
 clear OB_0 OB_1 OB_2 OB_3 OB_l
 clear X CL
 have hB3:=B0.size
 have jK:ob<w3.heap.size:=OB.lt
 have nQ:=ol.lt
 replace OB:=OB.below b4
 replace RES:=RES.below b4
 replace oy:Ab.ow w4 F y (⟨B1,m1,e1⟩,⟨B2,m2,e2⟩):=Ab.ow_below (F:=F) (x:=y) (s:=(⟨B1,m1,e1⟩,⟨B2,m2,e2⟩)) oy b4
 replace B0:=Aa B0 b4
 have fN:Hid ((∀ x∈F,w.heap.size+1<x)/\ob∉F /\ ∀ x∈Fl,x∉F):=⟨fun x hx=>by have:=nF x hx;omega,fun hx=>by have:=cH _ hx;omega,fun x hx aY=>by have h1:w3.heap.size<=x:=nl x hx;have h2:=cH x aY;omega⟩
 have hFln:∀ x∈Fl,w3.heap.size<=x:=nl
 have hmemL:=Lib.hid (fun p (hp:p∈Dm y y.runs.length)=>On hp)
 have eZ:w.heap.size+1<w3.heap.size:=by omega
 have hw34:w3.heap.size<=w4.heap.size:=b4.size
 clear nF nl b4
 have hLs:=Lib.hid (show (Dm y y.runs.length).length<=96 by have h1:=Jg (Kl P0.out) y.runs.length;have h2:=P0.out.2.2.2.2.2.2.1;omega)
 generalize Dm y y.runs.length=L at *
 obtain rfl:n9=L.length:=by have:=RdL.at1 (s:=⟨A9,n9,c9⟩) ol.rd;rw [List.length_map] at this;exact this
 go_wp2
 go_loopw [6,7] (fun iv u wr=>∃ (i:Nat) (Z:Yard) (s:Sl×Sl) (F:List Nat),i<=L.length/\iv = .int .i64 i/\Hid (Trn y i Z)/\Hid (De y (L.take i)=Z)/\Hid (Ab.ow wr F Z s)/\Hid ((∀ x∈F,w.heap.size+1<x)/\ob∉F /\ ∀ x∈Fl,x∉F)/\Hid (OwL (Dt.flats Fz) wr Fl (.slice A9 L.length c9) (L.map (Gh y)))/\DBox ob (Dk Z s) wr/\DBox (w.heap.size+1) [.int .i64 0,.int .i64 0,.slice none 0 0,.slice none 0 0] wr/\Below w.heap.size w wr/\w4.heap.size<=wr.heap.size) (fun i _ _=>L.length - (intOf i).toNat)
 case atStart=>exact ⟨0,y,(⟨B1,m1,e1⟩,⟨B2,m2,e2⟩),F,Nat.zero_le _,rfl,Trn.start P0.out,rfl,oy,fN,ol,OB,RES,B0,Nat.le_refl _⟩
 case round =>
  clear oy fN ol OB RES B0 cH nQ
  obtain ⟨i,Z,s,F,hi,rfl,hT,hZ,oy,hF,ol,OB,RES,hb,kQ⟩:=hrel
  obtain ⟨⟨B1,m1,e1⟩,⟨B2,m2,e2⟩⟩:=s
  replace oy:Ab.ow wr F Z (⟨B1,m1,e1⟩,⟨B2,m2,e2⟩):=oy.out
  have bM:∀ x∈F,x<wr.heap.size:=Ab.ow_lt (F:=F) (x:=Z) (s:=(⟨B1,m1,e1⟩,⟨B2,m2,e2⟩)) oy
  have dI:=hLs.out
  obtain ⟨OB_0,OB_1,OB_2,OB_3,OB_l⟩:=OB.g4
  by_cases aA:i<L.length
  ·have aB:(i:Int)<(L.length:Int):=by omega
   have aP:(0:Int)<=(i:Int):=by omega
   have hp:=hmemL.out _ (List.getElem_mem aA)
   have aE:Hid (De y (L.take (i+1))=Dv Z L[i].1 L[i].2):=by
    show De y (L.take (i+1))=_
    unfold De
    rw [Il (fun z p=>Dv z p.1 p.2) y L i aA,<-hZ.out]
    rfl
   have cW:(L.map (Gh y))[i]'(by rw [List.length_map];exact aA)=[(En y L[i].1).id,(L[i].2:Int),(Ax (En y L[i].1) L[i].2).try_]:=by
    rw [List.getElem_map]
    rfl
   generalize L[i]=p at *
   obtain ⟨k,t⟩:=p
   dsimp only at hp aE cW
   have qE:k<y.runs.length:=hp.1
   have dN:k<Z.runs.length:=by rw [hT.out.len];exact qE
   rw [Cw qE] at hp cW
   have fH:=hT.out.run k dN qE
   have jJ:t<Z.runs[k].tasks.length:=by rw [fH.2.2];exact hp.2
   have dB:=Lib.hid (show Bo Z y.runs[k].id=k from (hT.out.runAt _).trans (P0.out.2.2.2.2.2.2.2.1 k qE).2)
   have mD:=hT.out.cnt (by omega)
   have hN:=hT.out.fail dN jJ
   replace cW:=Lib.hid cW
   have hbln:∀ z∈Fl,z∉F:=hF.out.2.2
   obtain ⟨bl,lo,rfl⟩:∃ b o,A9=some ⟨b,o,none⟩:=by
    obtain ⟨b,o,_,hA,_⟩:=RdL.at_ ol.out.rd i (by rw [List.length_map];exact aA)
    exact ⟨b,o,hA⟩
   obtain ⟨gl,pl,cl,gA,fG,l0,l1,l2,-⟩:=Kz ol.out (i:=i) (by rw [List.length_map];exact aA) cW.out
   have kP:=ol.out.lt _ gA
   have bV:=ol.out.lt _ fG
   have oyr:=(Ab.ow_rd (F:=F) (x:=Z) (s:=(⟨B1,m1,e1⟩,⟨B2,m2,e2⟩)) oy)
   have CA:=Lib.hid (fun W (hW:Below wr.heap.size wr W)=>Cz Z (⟨B1,m1,e1⟩,⟨B2,m2,e2⟩) y.runs[k].id W mD (Ab.rd_more (Ab.rd_below (x:=Z) (s:=(⟨B1,m1,e1⟩,⟨B2,m2,e2⟩)) oyr hW) hW.size))
   clear oyr
   have aN:=Bk wr
   go_wp2
   refine Ad (by kernel_rfl) (by kernel_rfl) ?_
   repeat (go_big_quiet_step ((go_at_call 80;rename_i x;have h1:=CA.out x.1 x.2;rw [dB.out] at h1;exact Dg h1)))
   refine wpQuiet_nil ?_
   rintro w5 ⟨⟨_,b5⟩,rfl⟩
   clear aN CA l0 l1 l2 kP bV
   clear OB_0 OB_1 OB_2 OB_3 OB_l
   replace OB:=OB.below b5
   replace RES:=RES.below b5
   replace oy:Ab.ow w5 F Z (⟨B1,m1,e1⟩,⟨B2,m2,e2⟩):=Ab.ow_below (F:=F) (x:=Z) (s:=(⟨B1,m1,e1⟩,⟨B2,m2,e2⟩)) oy b5
   replace ol:=Lib.hid (ol.out.below b5)
   replace hb:=Aa hb b5
   replace kQ:=Nat.le_trans kQ b5.size
   replace bM:∀ x∈F,x<w5.heap.size:=Ab.ow_lt (F:=F) (x:=Z) (s:=(⟨B1,m1,e1⟩,⟨B2,m2,e2⟩)) oy
   obtain ⟨gl,pl,cl,gA,fG,l0,l1,l2,-⟩:=Kz ol.out (i:=i) (by rw [List.length_map];exact aA) cW.out
   have kP:=ol.out.lt _ gA
   have bV:=ol.out.lt _ fG
   obtain ⟨OB_0,OB_1,OB_2,OB_3,OB_l⟩:=OB.g4
   have oyr:=(Ab.ow_rd (F:=F) (x:=Z) (s:=(⟨B1,m1,e1⟩,⟨B2,m2,e2⟩)) oy).2
   have eA:=Lib.hid (show m2=Z.runs.length from RdL.at1 (s:=⟨B2,m2,e2⟩) oyr)
   have fY:(k:Int)<(m2:Int):=by have:=eA.out;omega
   have dG:(0:Int)<=(k:Int):=by omega
   obtain ⟨gr,orr,⟨sk1,⟨tka,tkn,tkc⟩⟩,rfl,dD,cA,c0,c1,c2,c3,c4,c5,c6,c7⟩:=RdL.run (show RdL Am w5 w5.heap.size (.slice B2 m2 e2) Z.runs from oyr) dN
   have mM:tkn=Z.runs[k].tasks.length:=RdL.at1 (s:=⟨tka,tkn,tkc⟩) cA.2
   have jR:(t:Int)<(tkn:Int):=by omega
   have fZ:(0:Int)<=(t:Int):=by omega
   obtain ⟨gt,ot,_,rfl,hgt,_,d0,d1,d2,d3⟩:=RdL.task (show RdL Cv w5 w5.heap.size (.slice tka tkn tkc) Z.runs[k].tasks from cA.2) jJ
   have bF:=Lib.hid fH.1
   replace mM:=Lib.hid mM
   have aN:=Bk w5
   clear fH oyr d1 d2 d3
   have hJ:=Lib.hid (show Ax (En Z k) t=Z.runs[k].tasks[t] by rw [Cw dN,Aw jJ])
   have hJ2:=Lib.hid (Cw dN)
   generalize kZ:Z.runs[k]=r at *
   by_cases q:r.tasks[t].state=3
   case neg =>
    have q1:(r.tasks[t].state == 3)=false:=by simp [q]
    have aZ:=Lib.hid (show Dv Z k t=Z from Jh (by rw [hJ.out];exact q))
    clear q
    go_wp2
    refine Ad (by kernel_rfl) (by kernel_rfl) ?_
    repeat (go_big_quiet_step (fail))
    refine wpQuiet_nil ?_
    rintro w6 ⟨⟨_,b6⟩,rfl⟩
    clear aN
    go_wp2
    exact ⟨⟨i+1,Z,(⟨B1,m1,e1⟩,⟨some ⟨gr,orr,none⟩,m2,e2⟩),F,by omega,by go_num,hT.out.mono (by omega),aE.out.trans aZ.out,Ab.ow_below (F:=F) (x:=Z) (s:=(⟨B1,m1,e1⟩,⟨some ⟨gr,orr,none⟩,m2,e2⟩)) oy b6,hF,ol.out.below b6,OB.below b6,RES.below b6,Aa hb b6,Nat.le_trans kQ b6.size⟩,by simp [intOf];omega⟩
   have q1:(r.tasks[t].state == 3)=true:=by simp [q]
   have aK:Hid (Gg r t):=⟨bF.out,⟨by omega,by omega⟩,by rw [Int.toNat_natCast,Aw jJ];exact q⟩
   have aZ:=Lib.hid (show Dv Z k t=Dq Z k (Br r t) by rw [Iq (by rw [hJ.out];exact q),hJ2.out])
   replace hN:Hid (Trn y (i+1) (Dv Z k t)):=hN
   clear q
   go_wp2
   refine Ad (by kernel_rfl) (by kernel_rfl) ?_
   repeat (go_big_quiet_step (fail))
   refine wpQuiet_nil ?_
   rintro w6 ⟨⟨_,b6⟩,rfl⟩
   clear aN l0 l1 l2 kP bV c0 c1 c2 c3 c4 c5 c6 c7 d0 hgt
   clear OB_0 OB_1 OB_2 OB_3 OB_l
   replace OB:=OB.below b6
   replace RES:=RES.below b6
   replace oy:Ab.ow w6 F Z (⟨B1,m1,e1⟩,⟨some ⟨gr,orr,none⟩,m2,e2⟩):=Ab.ow_below (F:=F) (x:=Z) (s:=(⟨B1,m1,e1⟩,⟨some ⟨gr,orr,none⟩,m2,e2⟩)) oy b6
   replace ol:=Lib.hid (ol.out.below b6)
   replace hb:=Aa hb b6
   replace kQ:=Nat.le_trans kQ b6.size
   replace bM:∀ x∈F,x<w6.heap.size:=Ab.ow_lt (F:=F) (x:=Z) (s:=(⟨B1,m1,e1⟩,⟨some ⟨gr,orr,none⟩,m2,e2⟩)) oy
   obtain ⟨gl,pl,cl,gA,fG,l0,l1,l2,-⟩:=Kz ol.out (i:=i) (by rw [List.length_map];exact aA) cW.out
   have kP:=ol.out.lt _ gA
   have bV:=ol.out.lt _ fG
   obtain ⟨OB_0,OB_1,OB_2,OB_3,OB_l⟩:=OB.g4
   obtain ⟨_,_,sk,cQ,hgrw6,cA,c0,c1,c2,c3,c4,c5,c6,c7⟩:=RdL.run (show RdL Am w6 w6.heap.size (.slice (some ⟨gr,orr,none⟩) m2 e2) Z.runs from (Ab.ow_rd (F:=F) (x:=Z) (s:=(⟨B1,m1,e1⟩,⟨some ⟨gr,orr,none⟩,m2,e2⟩)) oy).2) dN
   simp only [Option.some.injEq,Addr.mk.injEq,and_true] at cQ
   obtain ⟨rfl,rfl⟩:=cQ
   rw [kZ] at cA c0 c1 c2 c3 c4 c6
   have CF:=Lib.hid (J3 r sk t w6.drew (by have:=Im bF.out;omega) aK.out (Am.rd_below cA (Below.refl _ _).drew))
   have fR:=OB.lt
   clear cA
   go_wp2
   refine Bj (fun w'=>w'.cell? ⟨ob,0,none⟩=some (.int .i64 Z.now)/\w'.cell? ⟨ob,1,none⟩=some (.int .i64 Z.seq)/\w'.cell? ⟨ob,2,none⟩=some (.slice B1 m1 e1)/\w'.cell? ⟨ob,3,none⟩=some (.slice (some ⟨gr,orr,none⟩) m2 e2)/\w'.cell? ⟨bl,lo+i,none⟩=some (.slice (some ⟨gl,pl,none⟩) 3 cl)/\w'.cell? ⟨gl,pl,none⟩=some (.int .i64 y.runs[k].id)/\w'.cell? ⟨gl,pl+1,none⟩=some (.int .i64 (t:Int))) 15 (by kernel_rfl) ?_ (fun hHeld=>?_)
   ·exact ⟨OB_0,OB_1,OB_2,OB_3,l0,l1,l2⟩
   refine aT 0 hHeld ?_
   try simp only [pS]
   refine aT 1 hHeld ?_
   try simp only [pS]
   refine aT 2 hHeld ?_
   try simp only [pS]
   refine aT 3 hHeld ?_
   try simp only [pS]
   refine aT 4 hHeld ?_
   try simp only [pS]
   refine aT 5 hHeld ?_
   try simp only [pS]
   refine aT 7 hHeld ?_
   try simp only [pS]
   refine aT 8 hHeld ?_
   try simp only [pS]
   refine aT 9 hHeld ?_
   try simp only [pS]
   refine aT 10 hHeld ?_
   try simp only [pS]
   refine aT 11 hHeld ?_
   try simp only [pS]
   refine aT 12 hHeld ?_
   try simp only [pS]
   refine oT 6 (fun K hK=>?_)
   go_simp
   refine hK.out _ _ (fun _=>?_) ?_
   ·exact ⟨OB_0,OB_1,OB_2,OB_3,l0,l1,l2⟩
   clear hK K
   try simp only [pS]
   refine oT 13 (fun K hK=>?_)
   (go_simp;refine CF.out.mono ?_;rintro e5 wa ⟨sr,Fr,rfl,orn,nFr,ba⟩;have nD:∀ x∈Fr,w6.heap.size<=x:=nFr;have oya:Ab.ow wa F Z (⟨B1,m1,e1⟩,⟨some ⟨gr,orr,none⟩,m2,e2⟩):=Ab.ow_below (F:=F) (x:=Z) (s:=(⟨B1,m1,e1⟩,⟨some ⟨gr,orr,none⟩,m2,e2⟩)) oy (Aa (Below.refl _ _).drew ba);have CT:=Lib.hid (I9 Z (⟨B1,m1,e1⟩,⟨some ⟨gr,orr,none⟩,m2,e2⟩) k (Br r t) sr wa F Fr hT.out.four (fun s hs=>by have:=hT.out.all s hs;omega) (by have:=hT.out.seq;omega) dN (by rw [Fg];have:=Cb bF.out;omega) (by rw [kZ];have:=Cb bF.out;omega) oya orn (fun x hx aY=>by have h1:=nD x hx;have h2:=bM x aY;omega)))
   refine hK.out _ _ (fun _=>?_) ?_
   ·exact ⟨(ba.cell (p:=⟨_,_,none⟩) (by show ob<w6.heap.size;omega)).trans OB_0,(ba.cell (p:=⟨_,_,none⟩) (by show ob<w6.heap.size;omega)).trans OB_1,(ba.cell (p:=⟨_,_,none⟩) (by show ob<w6.heap.size;omega)).trans OB_2,(ba.cell (p:=⟨_,_,none⟩) (by show ob<w6.heap.size;omega)).trans OB_3,(ba.cell (p:=⟨_,_,none⟩) (by show bl<w6.heap.size;omega)).trans l0,(ba.cell (p:=⟨_,_,none⟩) (by show gl<w6.heap.size;omega)).trans l1,(ba.cell (p:=⟨_,_,none⟩) (by show gl<w6.heap.size;omega)).trans l2⟩
   clear hK K
   try simp only [pS]
   refine oT 14 (fun K hK=>?_)
   (go_simp;refine CT.out.mono ?_;rintro e6 wb ⟨s6,F6,rfl,oy6,n6,cb⟩;have OB6:=(OB.below (Aa (Below.refl _ _).drew ba)).chg cb hF.out.2.1;have q0:=OB6.cell 0 _ rfl;have q1:=OB6.cell 1 _ rfl;have q2:=OB6.cell 2 _ rfl;have q3:=OB6.cell 3 _ rfl;have qf:=OB6.free;have ql:=OB6.lt;have u0:=(cb.cell (p:=⟨bl,_,none⟩) (by show bl<wa.heap.size;have:=ba.size;have:w6.drew.heap.size=w6.heap.size:=rfl;omega) (hF.out.2.2 _ gA)).trans ((ba.cell (p:=⟨bl,_,none⟩) (by show bl<w6.heap.size;omega)).trans l0);have u1:=(cb.cell (p:=⟨gl,_,none⟩) (by show gl<wa.heap.size;have:=ba.size;have:w6.drew.heap.size=w6.heap.size:=rfl;omega) (hF.out.2.2 _ fG)).trans ((ba.cell (p:=⟨gl,_,none⟩) (by show gl<w6.heap.size;omega)).trans l1);have u2:=(cb.cell (p:=⟨gl,_,none⟩) (by show gl<wa.heap.size;have:=ba.size;have:w6.drew.heap.size=w6.heap.size:=rfl;omega) (hF.out.2.2 _ fG)).trans ((ba.cell (p:=⟨gl,_,none⟩) (by show gl<w6.heap.size;omega)).trans l2);generalize Dq Z k (Br r t)=Z1 at *)
   refine hK.out _ _ (fun _=>?_) ?_
   ·exact ⟨q0,q1,q2,q3,u0,u1,u2⟩
   clear hK K
   try simp only [pS]
   refine oT 15 (fun K hK=>?_)
   go_simp
   refine hK.out _ _ (fun aC=>absurd rfl aC) ?_
   clear hK K
   try simp only [pS]
   refine Cg (by kernel_rfl) ?_ _
   have ba':Below w6.heap.size w6 wa:=Aa (Below.refl _ _).drew ba
   have hbas:=ba'.size
   have hcbs:=cb.size
   have jI:=OB.lt
   have hRl7:=RES.lt
   have cE:=Chg.cells4 wb ob 0 1 2 3 (.int .i64 Z1.now) (.int .i64 Z1.seq) (.slice s6.1.a s6.1.n s6.1.c) (.slice s6.2.a s6.2.n s6.2.c)
   have dH:=Lib.hid (show ∀ x,x∈[ob]->x=ob from fun x hx=>by simpa using hx)
   have OB7:=DBox.row4 OB6 rfl (.int .i64 Z1.now) (.int .i64 Z1.seq) (.slice s6.1.a s6.1.n s6.1.c) (.slice s6.2.a s6.2.n s6.2.c)
   have RES7:=((RES.below ba').chg cb (fun hx=>by have:=hF.out.1 _ hx;omega)).chg cE (fun hx=>by have:=dH.out _ hx;omega)
   have rP:=ol.out.lt
   have ol7:=((ol.out.below ba').chg cb (fun x hx=>hF.out.2.2 x hx)).chg cE (fun x hx h2=>by have h3:=dH.out x h2;have h4:=hFln x hx;omega)
   have jD:=((Aa hb ba').trans (cb.below (by have:=(Aa hb ba').size;omega) (fun x hx=>by have:=hF.out.1 x hx;omega))).trans (cE.below (by have:=hb.size;omega) (fun x hx=>by have:=dH.out x hx;omega))
   have mJ:∀ x∈F6,x∈F\/w6.heap.size<=x:=fun x hx=>by
    rcases n6 x hx with h | h | h
    ·exact .inl h
    ·exact .inr (nD x h)
    ·exact .inr (by omega)
   have nG:ob∉F6:=fun hx=>by
    rcases mJ _ hx with h | h
    ·exact hF.out.2.1 h
    ·omega
   have oy7:=Ab.ow_chg (F:=F6) (x:=Z1) (s:=s6) oy6 cE (fun x hx h=>by have:=dH.out x h;subst this;exact nG hx)
   have jL:Hid ((∀ x∈F6,w.heap.size+1<x)/\ob∉F6 /\ ∀ x∈Fl,x∉F6):=⟨fun x hx=>by
    rcases mJ x hx with h | h
    ·exact hF.out.1 x h
    ·have:=hRl7;omega,nG,fun x hx hx6=>by
    rcases mJ x hx6 with h | h
    ·exact hF.out.2.2 x hx h
    ·have:=rP x hx;omega⟩
   have hw7:=Nat.le_trans kQ (Nat.le_trans (Nat.le_trans hbas hcbs) cE.size)
   clear hHeld q0 q1 q2 q3 qf ql OB6 oy6 CT CF oya orn nFr n6 ba cb
   clear OB_0 OB_1 OB_2 OB_3 OB_l
   clear OB
   generalize (((wb.setCell ⟨ob,0,none⟩ (.int .i64 Z1.now)).setCell ⟨ob,1,none⟩ (.int .i64 Z1.seq)).setCell ⟨ob,2,none⟩ (.slice s6.1.a s6.1.n s6.1.c)).setCell ⟨ob,3,none⟩ (.slice s6.2.a s6.2.n s6.2.c)=w7 at *
   go_wp2
   exact ⟨⟨i+1,Z1,s6,F6,by omega,by go_num,by rw [<-aZ.out];exact hN.out,aE.out.trans aZ.out,oy7,jL,ol7,OB7,RES7,jD,hw7⟩,by simp [intOf];omega⟩
  ·have aB:¬ (i:Int)<(L.length:Int):=by omega
   have hzn:=Lib.hid hT.out.now
   have hZ1:=Lib.hid (show De y L=Z by have:=hZ.out;rw [List.take_of_length_le (by omega)] at this;exact this)
   have wr2:IntKind.i64.wrap (Z.now+1)=Z.now+1:=IntWalk.i64_in _ (by have:=hzn.out;omega)
   have H3:=Lib.hid (show Gt y=⟨Z.now+1,Z.seq,Z.shelf,Z.runs⟩ by rw [H2.out,hZ1.out])
   have obf:=OB.free
   go_upto_region 14 with fail
   clear OB_0 OB_1 OB_2 OB_3 OB_l
   clear obf
   have hRl3:=RES.lt
   replace OB:DBox ob [.int .i64 (Z.now+1),.int .i64 Z.seq,.slice B1 m1 e1,.slice B2 m2 e2] (wr.setCell ⟨ob,0,none⟩ (.int .i64 (Z.now+1))):=OB.set 0 (by simp) _
   replace RES:=RES.setOther (a:=⟨ob,0,none⟩) (by show w.heap.size+1≠ob;omega) (.int .i64 (Z.now+1))
   have mW:=hF.out.2.1
   have oy8:Ab.ow (wr.setCell ⟨ob,0,none⟩ (.int .i64 (Z.now+1))) F ⟨Z.now+1,Z.seq,Z.shelf,Z.runs⟩ (⟨B1,m1,e1⟩,⟨B2,m2,e2⟩):=Ab.ow_set (F:=F) (x:=Z) (s:=(⟨B1,m1,e1⟩,⟨B2,m2,e2⟩)) oy (a:=⟨ob,0,none⟩) mW _
   have hb8:Below w.heap.size w (wr.setCell ⟨ob,0,none⟩ (.int .i64 (Z.now+1))):=Below.setCell hb (by show w.heap.size<=ob;omega) _
   generalize wr.setCell ⟨ob,0,none⟩ (.int .i64 (Z.now+1))=w8 at *
   obtain ⟨OB_0,OB_1,OB_2,OB_3,OB_l⟩:=OB.g4
   obtain ⟨RES_0,RES_1,RES_2,RES_3,RES_l⟩:=RES.g4
   have rf:=RES.free
   go_wp2
   have en1:w.heap.size+1∉F:=fun hx=>by have:=hF.out.1 _ hx;omega
   refine bodyPost_ret (Sj (DBox.row4 RES rfl _ _ _ _)) rfl ⟨(⟨B1,m1,e1⟩,⟨B2,m2,e2⟩),F,by rw [H.out,H3.out],by rw [H3.out];exact (by (repeat (refine Dt.ow_set Ab ?_ en1 _));exact (show Ab.ow _ F ⟨Z.now+1,Z.seq,Z.shelf,Z.runs⟩ (⟨B1,m1,e1⟩,⟨B2,m2,e2⟩) from oy8)),fun x hx=>by have:=hF.out.1 x hx;omega,?_⟩
   repeat (first | (with_reducible exact hb8) | refine Below.setCell ?_ (by simp<;>omega) _)
end
theorem Aaz (y:Yard) (r:Run):Kr y Eh r=Hy y r (E7 r.tasks 2):=by
 have h:K8 Eh r r.tasks.length=E7 r.tasks 2:=by
  rw [N1,List.filter_eq_self.2]
  intro t _
  have e:E7 Eh.tasks 2=[]:=rfl
  rw [e]
  simp
 unfold Kr Hy
 rw [h]
theorem Hk {b:Nat} {w:World} {u0 u1 u2 u3:Value} (X:DBox b [u0,u1,u2,u3] w) {v0 v1 v2 v3 v4 v5 v7:Value} {rest:List Value} :
  (results Tryz.f109 (v0 :: v1 :: v2 :: v3 :: v4 :: v5 :: .pointer (some ⟨b,0,none⟩) :: v7 :: rest).toArray).run Tryz.prog w = .ok (.tuple #[.agg #[u0,u1,u2,u3],v7]) w:=by
 have c0:=X.cell 0 _ rfl
 have c1:=X.cell 1 _ rfl
 have c2:=X.cell 2 _ rfl
 have c3:=X.cell 3 _ rfl
 simp [results,Tryz.results109,go_sem,c0,c1,c2,c3]
theorem Sk (y:Yard) (s:Sl×Sl) (id:Int) (p:Plan) (sp:Sl) (w:World) (hl:Ai y<=2000000) (hp:p.edges.length<=2000000) (h:Ab.rd w w.heap.size y s) (hpr:Ag.rd w w.heap.size p sp) :
  Calls Tryz.prog 109 #[By y s,.int .i64 id,Hi p sp] w (Fn (G7 y id p) (G6 y id p) w):=by
 have HR:=Lib.hid (show ∀ W,Below w.heap.size w W->Ab.rd W W.heap.size y s from fun W hW=>Ab.rd_more (Ab.rd_below h hW) hW.size)
 obtain ⟨⟨A1,n1,c1⟩,⟨A2,n2,c2⟩⟩:=s
 obtain ⟨A3,n3,c3⟩:=sp
 obtain rfl:n3=p.edges.length:=RdL.at1 (s:=⟨A3,n3,c3⟩) hpr
 have CC:=Lib.hid (fun W hW=>Ii y (⟨A1,n1,c1⟩,⟨A2,n2,c2⟩) W hl (HR.out W hW))
 have CY:=Lib.hid (fun W hW=>D6 y (⟨A1,n1,c1⟩,⟨A2,n2,c2⟩) W hl (HR.out W hW))
 have CA:=Lib.hid (fun W hW=>C6 y (⟨A1,n1,c1⟩,⟨A2,n2,c2⟩) id W hl (HR.out W hW))
 have CF:=Lib.hid (fun W (hW:Below w.heap.size w W)=>Ex p (.slice A3 p.edges.length c3) W hp (((Gf hpr).below hW).more hW.size))
 have CR:=Lib.hid (fun W hW hS hq=>Vd y (⟨A1,n1,c1⟩,⟨A2,n2,c2⟩) p (.slice A3 p.edges.length c3) W hl hS hq (HR.out W hW))
 have CN:=Lib.hid (fun W (hW:Below w.heap.size w W) hid hf=>Sc id p ⟨A3,p.edges.length,c3⟩ W hid hf (Ag.rd_more (Ag.rd_below hpr hW) hW.size))
 obtain ⟨j0,bX,jz0,jz1,jz2⟩:=info_parts Jc
 clear h hpr HR
 obtain ⟨W,aG,X,P,RES,B0⟩:=bx3 w 31 [.int .i64 y.now,.int .i64 y.seq,.slice A1 n1 c1,.slice A2 n2 c2] 43 [.int .i64 p.prio,.int .i64 p.most,.int .i64 p.wait,.int .i64 p.tasks,.slice A3 p.edges.length c3] 31 [.int .i64 0,.int .i64 0,.slice none 0 0,.slice none 0 0]
 go_enter Tryz.func109,Tryz.ntmps109
 go_wp2_with fail
 rw [<-aG.out]
 clear aG
 have dM:w.heap.size+1+1<W.heap.size:=RES.lt
 refine (CC.out _ B0).mono ?_
 rintro e1 w1 ⟨⟨B1,m1,e1⟩,⟨B2,m2,e2⟩,F1,base,rfl,oS,dY,aS,cD,oR,b1⟩
 have bJ:=b1.size
 replace X:=X.below b1
 replace P:=P.below b1
 replace RES:=RES.below b1
 replace B0:=Aa B0 b1
 clear b1
 obtain ⟨rs,cM,G0,oR⟩:=oR
 have hm:=Lib.hid cM
 clear cM
 replace oR:BldG Am 89 w1 base (.slice B2 m2 e2) rs G0:=oR
 have tS:=oR.2.1.lt
 have pY:∀ g,(Value.slice B2 m2 e2).ownBlock=some g->g≠w1.heap.size:=fun g hg h=>by
  have:=(oR.1.within g hg).2
  omega
 obtain ⟨F,oy,nF⟩:∃ F,Ab.ow w1 F y (⟨B1,m1,e1⟩,⟨B2,m2,e2⟩) /\ ∀ x∈F,W.heap.size<=x:=by
  have hB:Bld Am 89 w1 base (.slice B2 m2 e2) rs:=⟨G0,oR⟩
  replace hm:=hm.out
  obtain ⟨F2,h5,h6⟩:=hB.owl hm
  refine ⟨F1 ++ F2,⟨F1,F2,rfl,?_,oS,h5⟩,fun b hb=>?_⟩
  ·rw [List.nodup_append]
   refine ⟨oS.nodup,h5.nodup,fun u hu u' hu' e=>?_⟩
   have:=dY u hu
   have:=h6 u' hu'
   omega
  ·rcases List.mem_append.1 hb with hb | hb
   ·exact (dY b hb).1
   ·have:=h6 b hb;omega
 go_upto_region 2 with fail
 have OB:=DBox.new 31 [.int .i64 y.now,.int .i64 y.seq,.slice B1 m1 e1,.slice B2 m2 e2] w1 (b:=w1.heap.size) rfl
 have b2:Below w1.heap.size w1 (w1.alloc (.cells #[.int .i64 y.now,.int .i64 y.seq,.slice B1 m1 e1,.slice B2 m2 e2] 31)):=(Below.refl _ _).alloc (Nat.le_refl _) _
 replace X:=X.below b2
 replace P:=P.below b2
 replace RES:=RES.below b2
 replace oy:=Ab.ow_below (F:=F) (x:=y) (s:=(⟨B1,m1,e1⟩,⟨B2,m2,e2⟩)) oy b2
 replace oS:=oS.below b2
 replace oR:=oR.below b2
 replace B0:=Aa B0 b2
 have ow1:=OB.lt
 have hbob:base<=w1.heap.size:=cD
 replace cD:=Nat.le_trans cD b2.size
 clear b2
 generalize w1.alloc (.cells #[.int .i64 y.now,.int .i64 y.seq,.slice B1 m1 e1,.slice B2 m2 e2] 31)=w2 at *
 generalize cJ:w1.heap.size=ob at *
 obtain ⟨X_0,X_1,X_2,X_3,X_l⟩:=X.g4
 obtain ⟨P_0,P_1,P_2,P_3,P_4,P_l⟩:=P.g5
 obtain ⟨OB_0,OB_1,OB_2,OB_3,OB_l⟩:=OB.g4
 go_wp2_with fail
 refine (CY.out _ B0).mono ?_
 rintro e1 w3 ⟨rfl,b3⟩
 clear X_0 X_1 X_2 X_3 X_l
 clear P_0 P_1 P_2 P_3 P_4 P_l
 clear OB_0 OB_1 OB_2 OB_3 OB_l
 replace X:=X.below b3
 replace P:=P.below b3
 replace OB:=OB.below b3
 replace RES:=RES.below b3
 replace oy:Ab.ow w3 F y (⟨B1,m1,e1⟩,⟨B2,m2,e2⟩):=Ab.ow_below (F:=F) (x:=y) (s:=(⟨B1,m1,e1⟩,⟨B2,m2,e2⟩)) oy b3
 replace oS:=oS.below b3
 replace oR:=oR.below b3
 replace B0:=Aa B0 b3
 replace cD:=Nat.le_trans cD b3.size
 clear b3
 obtain ⟨X_0,X_1,X_2,X_3,X_l⟩:=X.g4
 obtain ⟨P_0,P_1,P_2,P_3,P_4,P_l⟩:=P.g5
 obtain ⟨OB_0,OB_1,OB_2,OB_3,OB_l⟩:=OB.g4
 by_cases p0:Bq y
 case neg =>
  rw [Al p0]
  have H:=Lib.hid (show G6 y id p=8 by unfold G6;rw [if_pos p0])
  have H2:=Lib.hid (show G7 y id p=y by unfold G7;rw [H.out,if_neg (by decide)])
  obtain ⟨RES_0,RES_1,RES_2,RES_3,RES_l⟩:=RES.g4
  have rf:=RES.free
  go_wp2
  have en1:w.heap.size+1+1∉F:=fun hx=>by have:=nF _ hx;omega
  refine bodyPost_ret (Hk (DBox.row4 RES rfl _ _ _ _)) rfl ⟨(⟨B1,m1,e1⟩,⟨B2,m2,e2⟩),F,by rw [H.out,H2.out],by rw [H2.out];exact (by (repeat (refine Dt.ow_set Ab ?_ en1 _));exact (show Ab.ow _ F y (⟨B1,m1,e1⟩,⟨B2,m2,e2⟩) from oy)),fun x hx=>by have:=nF x hx;omega,?_⟩
  repeat (first | (with_reducible exact B0) | refine Below.setCell ?_ (by simp<;>omega) _)
 rw [Bs p0]
 have qQ:=p0.2.2.2.2.2.2.2.2.2
 have hsq:=p0.2.1
 have h4:=Lib.hid p0.2.2.1
 have cS:=Lib.hid p0.2.2.2.1
 have P0:=Lib.hid p0
 clear p0
 cases p1:inB id 1 9999
 case false =>
  have H:=Lib.hid (show G6 y id p=5 by unfold G6;rw [if_neg (fun h=>h P0.out),if_pos p1])
  have H2:=Lib.hid (show G7 y id p=y by unfold G7;rw [H.out,if_neg (by decide)])
  obtain ⟨RES_0,RES_1,RES_2,RES_3,RES_l⟩:=RES.g4
  have rf:=RES.free
  go_wp2_with (go_at_call 58;refine (Ap _ _ _ _).mono ?_;rintro e w9 ⟨rfl,rfl⟩;rw [p1])
  have en1:w.heap.size+1+1∉F:=fun hx=>by have:=nF _ hx;omega
  refine bodyPost_ret (Hk (DBox.row4 RES rfl _ _ _ _)) rfl ⟨(⟨B1,m1,e1⟩,⟨B2,m2,e2⟩),F,by rw [H.out,H2.out],by rw [H2.out];exact (by (repeat (refine Dt.ow_set Ab ?_ en1 _));exact (show Ab.ow _ F y (⟨B1,m1,e1⟩,⟨B2,m2,e2⟩) from oy)),fun x hx=>by have:=nF x hx;omega,?_⟩
  repeat (first | (with_reducible exact B0) | refine Below.setCell ?_ (by simp<;>omega) _)
 have P1:=Lib.hid p1
 go_wp2_with (go_at_call 58;refine (Ap _ _ _ _).mono ?_;rintro e w9 ⟨rfl,rfl⟩;rw [p1])
 refine (CA.out _ B0).mono ?_
 rintro e1 w4 ⟨rfl,b4⟩
 clear X_0 X_1 X_2 X_3 X_l
 clear P_0 P_1 P_2 P_3 P_4 P_l
 clear OB_0 OB_1 OB_2 OB_3 OB_l
 replace X:=X.below b4
 replace P:=P.below b4
 replace OB:=OB.below b4
 replace RES:=RES.below b4
 replace oy:Ab.ow w4 F y (⟨B1,m1,e1⟩,⟨B2,m2,e2⟩):=Ab.ow_below (F:=F) (x:=y) (s:=(⟨B1,m1,e1⟩,⟨B2,m2,e2⟩)) oy b4
 replace oS:=oS.below b4
 replace oR:=oR.below b4
 replace B0:=Aa B0 b4
 replace cD:=Nat.le_trans cD b4.size
 clear b4
 obtain ⟨X_0,X_1,X_2,X_3,X_l⟩:=X.g4
 obtain ⟨P_0,P_1,P_2,P_3,P_4,P_l⟩:=P.g5
 obtain ⟨OB_0,OB_1,OB_2,OB_3,OB_l⟩:=OB.g4
 by_cases p2:0<=Bo y id
 case pos =>
  have H:=Lib.hid (show G6 y id p=6 by unfold G6;rw [if_neg (fun h=>h P0.out),if_neg (by rw [P1.out];simp),if_pos p2])
  have H2:=Lib.hid (show G7 y id p=y by unfold G7;rw [H.out,if_neg (by decide)])
  obtain ⟨RES_0,RES_1,RES_2,RES_3,RES_l⟩:=RES.g4
  have rf:=RES.free
  go_wp2
  have en1:w.heap.size+1+1∉F:=fun hx=>by have:=nF _ hx;omega
  refine bodyPost_ret (Hk (DBox.row4 RES rfl _ _ _ _)) rfl ⟨(⟨B1,m1,e1⟩,⟨B2,m2,e2⟩),F,by rw [H.out,H2.out],by rw [H2.out];exact (by (repeat (refine Dt.ow_set Ab ?_ en1 _));exact (show Ab.ow _ F y (⟨B1,m1,e1⟩,⟨B2,m2,e2⟩) from oy)),fun x hx=>by have:=nF x hx;omega,?_⟩
  repeat (first | (with_reducible exact B0) | refine Below.setCell ?_ (by simp<;>omega) _)
 have P2:=Lib.hid p2
 go_wp2_with fail
 refine (CF.out _ B0).mono ?_
 rintro e1 w5 ⟨rfl,b5⟩
 clear p1 p2
 clear X_0 X_1 X_2 X_3 X_l
 clear P_0 P_1 P_2 P_3 P_4 P_l
 clear OB_0 OB_1 OB_2 OB_3 OB_l
 replace X:=X.below b5
 replace P:=P.below b5
 replace OB:=OB.below b5
 replace RES:=RES.below b5
 replace oy:Ab.ow w5 F y (⟨B1,m1,e1⟩,⟨B2,m2,e2⟩):=Ab.ow_below (F:=F) (x:=y) (s:=(⟨B1,m1,e1⟩,⟨B2,m2,e2⟩)) oy b5
 replace oS:=oS.below b5
 replace oR:=oR.below b5
 replace B0:=Aa B0 b5
 replace cD:=Nat.le_trans cD b5.size
 clear b5
 obtain ⟨X_0,X_1,X_2,X_3,X_l⟩:=X.g4
 obtain ⟨P_0,P_1,P_2,P_3,P_4,P_l⟩:=P.g5
 obtain ⟨OB_0,OB_1,OB_2,OB_3,OB_l⟩:=OB.g4
 by_cases p3:Aq p=0
 case neg =>
  have q3:(Aq p != 0)=true:=by simp [p3]
  have H:=Lib.hid (show G6 y id p=Aq p by unfold G6;rw [if_neg (fun h=>h P0.out),if_neg (by rw [P1.out];simp),if_neg (by have:=P2.out;omega),if_pos p3])
  have H2:=Lib.hid (show G7 y id p=y by unfold G7;rw [H.out,if_neg p3])
  clear p3
  have en1:w.heap.size+1+1∉F:=fun hx=>by have:=nF _ hx;omega
  obtain ⟨RES_0,RES_1,RES_2,RES_3,RES_l⟩:=RES.g4
  have rf:=RES.free
  have hpb:w.heap.size+1<w5.heap.size:=P.lt
  have hobl:ob<w5.heap.size:=OB.lt
  have CF5:=Lib.hid (CF.out _ B0.drew)
  go_wp2
  refine Go.wp_region_noPanic ?_
  refine wp_region_held_drew (S:=(fun w'=>DBox ob [.int .i64 y.now,.int .i64 y.seq,.slice B1 m1 e1,.slice B2 m2 e2] w'/\DBox (w.heap.size+1) [.int .i64 p.prio,.int .i64 p.most,.int .i64 p.wait,.int .i64 p.tasks,.slice A3 p.edges.length c3] w')) (by kernel_rfl) ⟨DBox.drew4 OB,DBox.drew4 P⟩ (fun hHeld=>?_)
  replace oy:Ab.ow w5.drew F y (⟨B1,m1,e1⟩,⟨B2,m2,e2⟩):=Ab.ow_below (F:=F) (x:=y) (s:=(⟨B1,m1,e1⟩,⟨B2,m2,e2⟩)) oy (Below.refl _ _).drew
  clear RES_0 RES_1 RES_2 RES_3 RES_l
  clear rf
  replace RES:DBox _ _ w5.drew:=DBox.drew4 RES
  replace B0:=B0.drew
  clear X_0 X_1 X_2 X_3 X_l
  clear P_0 P_1 P_2 P_3 P_4 P_l
  clear OB_0 OB_1 OB_2 OB_3 OB_l
  clear OB X P
  generalize w5.drew=w5d at *
  refine tV 0 ?_
  (try simp only [pS])
  refine tV 1 ?_
  (try simp only [pS])
  refine rC 2 (fun K_ hK=>?_)
  go_simp
  refine CF5.out.mono ?_
  rintro e1 w6 ⟨rfl,b6⟩
  replace oy:Ab.ow w6 F y (⟨B1,m1,e1⟩,⟨B2,m2,e2⟩):=Ab.ow_below (F:=F) (x:=y) (s:=(⟨B1,m1,e1⟩,⟨B2,m2,e2⟩)) oy b6
  replace RES:=RES.below b6
  replace B0:=Aa B0 b6
  refine hK.out _ _ ⟨hHeld.1.below b6,hHeld.2.below b6⟩ (fun hHeld=>?_)
  clear hK K_
  (try simp only [pS])
  obtain ⟨RES_0,RES_1,RES_2,RES_3,RES_l⟩:=RES.g4
  have rf:=RES.free
  refine rC 3 (fun K_ hK=>?_)
  go_simp
  refine hK.out _ _ ⟨(((hHeld.1.setOther (a:=⟨w.heap.size+1+1,0,none⟩) (by show ob≠w.heap.size+1+1;omega) _).setOther (a:=⟨w.heap.size+1+1,1,none⟩) (by show ob≠w.heap.size+1+1;omega) _).setOther (a:=⟨w.heap.size+1+1,2,none⟩) (by show ob≠w.heap.size+1+1;omega) _).setOther (a:=⟨w.heap.size+1+1,3,none⟩) (by show ob≠w.heap.size+1+1;omega) _,(((hHeld.2.setOther (a:=⟨w.heap.size+1+1,0,none⟩) (by show w.heap.size+1≠w.heap.size+1+1;omega) _).setOther (a:=⟨w.heap.size+1+1,1,none⟩) (by show w.heap.size+1≠w.heap.size+1+1;omega) _).setOther (a:=⟨w.heap.size+1+1,2,none⟩) (by show w.heap.size+1≠w.heap.size+1+1;omega) _).setOther (a:=⟨w.heap.size+1+1,3,none⟩) (by show w.heap.size+1≠w.heap.size+1+1;omega) _⟩ (fun hHeld=>?_)
  clear hK K_
  (try simp only [pS])
  refine tV 4 ?_
  (try simp only [pS])
  refine wpAnyH_done (by kernel_rfl) ?_ _
  refine NoPanic.normal ?_
  clear hHeld
  clear RES_0 RES_1 RES_2 RES_3 RES_l
  clear rf
  go_wp2
  refine bodyPost_ret (Hk (DBox.row4 RES rfl _ _ _ _)) rfl ⟨(⟨B1,m1,e1⟩,⟨B2,m2,e2⟩),F,by rw [H.out,H2.out],by rw [H2.out];exact (by (repeat (refine Dt.ow_set Ab ?_ en1 _));exact (show Ab.ow _ F y (⟨B1,m1,e1⟩,⟨B2,m2,e2⟩) from oy)),fun x hx=>by have:=nF x hx;omega,?_⟩
  repeat (first | (with_reducible exact B0) | refine Below.setCell ?_ (by simp<;>omega) _)
 have q3:(Aq p != 0)=false:=by simp [p3]
 have P3:=Lib.hid p3
 clear p3
 go_wp2_with fail
 refine (CR.out _ B0 qQ (by omega)).mono ?_
 rintro e1 w6 ⟨rfl,b6⟩
 clear X_0 X_1 X_2 X_3 X_l
 clear P_0 P_1 P_2 P_3 P_4 P_l
 clear OB_0 OB_1 OB_2 OB_3 OB_l
 replace X:=X.below b6
 replace P:=P.below b6
 replace OB:=OB.below b6
 replace RES:=RES.below b6
 replace oy:Ab.ow w6 F y (⟨B1,m1,e1⟩,⟨B2,m2,e2⟩):=Ab.ow_below (F:=F) (x:=y) (s:=(⟨B1,m1,e1⟩,⟨B2,m2,e2⟩)) oy b6
 replace oS:=oS.below b6
 replace oR:=oR.below b6
 replace B0:=Aa B0 b6
 replace cD:=Nat.le_trans cD b6.size
 clear b6
 obtain ⟨X_0,X_1,X_2,X_3,X_l⟩:=X.g4
 obtain ⟨P_0,P_1,P_2,P_3,P_4,P_l⟩:=P.g5
 obtain ⟨OB_0,OB_1,OB_2,OB_3,OB_l⟩:=OB.g4
 cases p4:Jx y p
 case false =>
  have H:=Lib.hid (show G6 y id p=7 by unfold G6;rw [if_neg (fun h=>h P0.out),if_neg (by rw [P1.out];simp),if_neg (by have:=P2.out;omega),if_neg (fun h=>h P3.out),if_pos p4])
  have H2:=Lib.hid (show G7 y id p=y by unfold G7;rw [H.out,if_neg (by decide)])
  obtain ⟨RES_0,RES_1,RES_2,RES_3,RES_l⟩:=RES.g4
  have rf:=RES.free
  go_wp2
  have en1:w.heap.size+1+1∉F:=fun hx=>by have:=nF _ hx;omega
  refine bodyPost_ret (Hk (DBox.row4 RES rfl _ _ _ _)) rfl ⟨(⟨B1,m1,e1⟩,⟨B2,m2,e2⟩),F,by rw [H.out,H2.out],by rw [H2.out];exact (by (repeat (refine Dt.ow_set Ab ?_ en1 _));exact (show Ab.ow _ F y (⟨B1,m1,e1⟩,⟨B2,m2,e2⟩) from oy)),fun x hx=>by have:=nF x hx;omega,?_⟩
  repeat (first | (with_reducible exact B0) | refine Below.setCell ?_ (by simp<;>omega) _)
 have H:=Lib.hid (show G6 y id p=0 by unfold G6;rw [if_neg (fun h=>h P0.out),if_neg (by rw [P1.out];simp),if_neg (by have:=P2.out;omega),if_neg (fun h=>h P3.out),if_neg (by rw [p4];simp)])
 have H2:=Lib.hid (show G7 y id p=Kr ⟨y.now,y.seq,y.shelf,y.runs ++ [An id p]⟩ Eh (An id p) by unfold G7;rw [if_pos H.out])
 have qH:=Lib.hid (show y.runs.length<8 by
  unfold Jx at p4
  simp only [Bool.and_eq_true,decide_eq_true_eq] at p4
  exact p4.1)
 clear qQ
 go_wp2_with fail
 refine (CN.out _ B0 P1.out P3.out).mono ?_
 rintro e1 w7 ⟨sr,Fr,rfl,orn,nr,b7⟩
 have kU:=Lib.hid (show (An id p).tasks.length<=12 by have h1:=M5 id p;have h2:=Ch (Bn.1 P3.out).1;omega)
 have pG:=B0.size
 have hobw6:=OB.lt
 have eK:∀ x∈Fr,w6.heap.size<=x:=nr
 clear nr
 clear X_0 X_1 X_2 X_3 X_l
 clear P_0 P_1 P_2 P_3 P_4 P_l
 clear OB_0 OB_1 OB_2 OB_3 OB_l
 clear X P
 replace OB:=OB.below b7
 replace RES:=RES.below b7
 replace oS:=oS.below b7
 have B7:=Aa B0 b7
 have b7s:=b7.size
 have XB:=DBox.new 89 [.int .i64 (An id p).id,.int .i64 (An id p).plan.prio,.int .i64 (An id p).plan.most,.int .i64 (An id p).plan.wait,.int .i64 (An id p).plan.tasks,.slice sr.1.a sr.1.n sr.1.c,.int .i64 (An id p).state,.slice sr.2.a sr.2.n sr.2.c] w7 (b:=w7.heap.size) rfl
 have b8:Below w7.heap.size w7 (w7.alloc (.cells #[.int .i64 (An id p).id,.int .i64 (An id p).plan.prio,.int .i64 (An id p).plan.most,.int .i64 (An id p).plan.wait,.int .i64 (An id p).plan.tasks,.slice sr.1.a sr.1.n sr.1.c,.int .i64 (An id p).state,.slice sr.2.a sr.2.n sr.2.c] 89)):=(Below.refl _ _).alloc (Nat.le_refl _) _
 go_upto_region 13 with fail
 replace OB:=OB.below b8
 replace RES:=RES.below b8
 replace oS:=oS.below b8
 replace B7:=Aa B7 b8
 have b78:=Aa b7 b8
 have orn8:=Am.ow_below (F:=Fr) (x:=An id p) (s:=sr) orn b8
 have fF:=XB.lt
 generalize w7.alloc (.cells #[.int .i64 (An id p).id,.int .i64 (An id p).plan.prio,.int .i64 (An id p).plan.most,.int .i64 (An id p).plan.wait,.int .i64 (An id p).plan.tasks,.slice sr.1.a sr.1.n sr.1.c,.int .i64 (An id p).state,.slice sr.2.a sr.2.n sr.2.c] 89)=w8 at *
 generalize eT:w7.heap.size=xb at *
 have bR:=Lib.hid (show rs.length=y.runs.length by have:=congrArg List.length hm.out;simpa using this)
 have mQ:=Lib.hid (show rs.length<=3000000 by have:=qH.out;have:=bR.out;omega)
 have hO:=oR.1
 have sQ:=hO.below b78
 obtain ⟨A5_,c5_,qU,-⟩:=_root_.id (Rd.of_own hO)
 have uC:=qU
 simp only [Sl.v,Value.slice.injEq] at uC
 obtain ⟨rfl,rfl,rfl⟩:=uC
 clear qU
 obtain ⟨OB_0,OB_1,OB_2,OB_3,OB_l⟩:=OB.g4
 obtain ⟨XB_0,XB_1,XB_2,XB_3,XB_4,XB_5,XB_6,XB_7,XB_l⟩:=XB.g8
 have obf:=OB.free
 have tI:∀ g,(Value.slice B2 rs.length e2).ownBlock=some g->base<=g/\g<w6.heap.size:=fun g hg=>hO.within _ hg
 have mX:∀ g,(Value.slice B2 rs.length e2).ownBlock=some g->g≠ob:=fun g hg=>pY g hg
 have ha:=Lib.hid (show ∀ w:World,Below w.heap.size w (w.alloc (.cells #[.int .i64 (An id p).id,.int .i64 (An id p).plan.prio,.int .i64 (An id p).plan.most,.int .i64 (An id p).plan.wait,.int .i64 (An id p).plan.tasks,.slice sr.1.a sr.1.n sr.1.c,.int .i64 (An id p).state,.slice sr.2.a sr.2.n sr.2.c] 89)) from fun w=>(Below.refl _ _).alloc (Nat.le_refl _) _)
 have qB:=Lib.hid mX
 have fC:=Lib.hid tI
 clear mX tI pY
 have cX:base<=w8.heap.size:=by omega
 go_upto_region 14 with (at_builtin;go_loud (refine Ak _ Am.enc (by decide) rfl (.tmp 49) (.tmp 51) rfl Tryz.underlying29 bX jz0 jz1 jz2 rfl (base:=base) (v:=.slice B2 rs.length e2) (l:=rs) rfl (sQ.below (ha.out w8)) rfl (Rd.one Am.enc _ _ (An id p,sr) rfl rfl 1 (Nat.le_refl _) (Nat.lt_succ_self _)) mQ.out (by simp) (by decide) (by simp;omega) ?_);intro v9 w9 o9 g9 f9;obtain ⟨A9,c9,rfl,-⟩:=_root_.id (Rd.of_own o9);simp only [List.length_append,List.length_singleton] at o9 f9;have OB9:=(OB.below (ha.out w8)).off g9 (fun e=>(qB.out _ e.symm) rfl);have q3:=OB9.cell 3 _ rfl;have qf:=OB9.free;have ql:=OB9.lt)
 have hP:=oR.push1 b78 orn8 eK cD (ha.out w8) o9 g9 f9
 have tP:=hP.owl (l:=y.runs ++ [An id p]) (by rw [List.map_append,hm.out];rfl)
 have g9s:=g9.size
 simp only [World.size_alloc] at g9s
 have fT:∀ x∈Cm (.slice A9 (rs.length+1) c9) (rs ++ [(An id p,sr)]).length ++ (G0 ++ Fr),x≠ob/\base<=x:=fun x hx=>by
  rcases List.mem_append.1 hx with hx | hx
  ·have h1:=E6 _ _ _ hx
   refine ⟨?_,(o9.within x h1).1⟩
   rcases f9 with h2 | h2
   ·rw [h2] at h1
    exact qB.out _ h1
   ·rw [h2] at h1
    have:=Option.some.inj h1
    simp only [World.size_alloc] at this
    omega
  ·rcases List.mem_append.1 hx with hx | hx
   ·exact ⟨by have:=tS x hx;omega,(oR.2.2.2 x hx).1⟩
   ·exact ⟨by have:=eK x hx;omega,by have:=eK x hx;omega⟩
 generalize Cm (.slice A9 (rs.length+1) c9) (rs ++ [(An id p,sr)]).length ++ (G0 ++ Fr)=F2 at *
 have XB9:=(XB.below (ha.out w8)).off g9 (fun e=>by have h1:=(fC.out _ e.symm).2;omega)
 have RES9:=(RES.below (ha.out w8)).off g9 (fun e=>by have h1:base<=w.heap.size+1+1:=(fC.out _ e.symm).1;omega)
 have oS9:=(oS.below (ha.out w8)).grown g9 (fun b hb e=>by have h1:=(fC.out b e).1;have h2:=(dY b hb).2;omega)
 have orn9:=Am.ow_keep (Am.ow_below (F:=Fr) (x:=An id p) (s:=sr) orn8 (ha.out w8)) g9.size (fun b cP=>g9.block b (Am.ow_lt (F:=Fr) (x:=An id p) (s:=sr) (Am.ow_below (F:=Fr) (x:=An id p) (s:=sr) orn8 (ha.out w8)) b cP) (fun e=>by have h1:=(fC.out _ e.symm).2;have h2:=eK b cP;omega))
 have B9:Below w.heap.size w w9:=(Aa B7 (ha.out w8)).grown g9 (Aa B7 (ha.out w8)).size (fun g hg=>by have h1:=(fC.out g hg).1;omega)
 have mW:w.heap.size<=ob:=by omega
 have OB10:DBox ob [.int .i64 y.now,.int .i64 y.seq,.slice B1 m1 e1,.slice A9 (rs.length+1) c9] (w9.setCell ⟨ob,3,none⟩ (.slice A9 (rs.length+1) c9)):=OB9.set 3 (by simp) _
 have XB10:=XB9.setOther (a:=⟨ob,3,none⟩) (by show xb≠ob;omega) (.slice A9 (rs.length+1) c9)
 have RES10:=RES9.setOther (a:=⟨ob,3,none⟩) (by show w.heap.size+1+1≠ob;omega) (.slice A9 (rs.length+1) c9)
 have oS10:=oS9.set (a:=⟨ob,3,none⟩) (fun hx=>by have h1:_/\ob<base:=dY _ hx;omega) (.slice A9 (rs.length+1) c9)
 have oR10:=tP.set (a:=⟨ob,3,none⟩) (fun hx=>(fT _ hx).1 rfl) (.slice A9 (rs.length+1) c9)
 have orn10:=Am.ow_set (F:=Fr) (x:=An id p) (s:=sr) orn9 (a:=⟨ob,3,none⟩) (fun hx=>by have h1:w6.heap.size<=ob:=eK _ hx;omega) (.slice A9 (rs.length+1) c9)
 have B10:Below w.heap.size w (w9.setCell ⟨ob,3,none⟩ (.slice A9 (rs.length+1) c9)):=Below.setCell B9 (by show w.heap.size<=ob;omega) _
 clear OB9 XB9 RES9 oS9 orn9 B9 tP hP XB RES oS B7 OB o9 g9 f9 q3 qf ql orn8 hO sQ oR obf qB
 clear OB_0 OB_1 OB_2 OB_3 OB_l
 clear XB_0 XB_1 XB_2 XB_3 XB_4 XB_5 XB_6 XB_7 XB_l
 generalize w9.setCell ⟨ob,3,none⟩ (.slice A9 (rs.length+1) c9)=w10 at *
 obtain ⟨OB10_0,OB10_1,OB10_2,OB10_3,OB10_l⟩:=OB10.g4
 obtain ⟨XB10_0,XB10_1,XB10_2,XB10_3,XB10_4,XB10_5,XB10_6,XB10_7,XB10_l⟩:=XB10.g8
 obtain rfl:m1=y.shelf.length:=RdL.at1 (s:=⟨B1,m1,e1⟩) oS10.rd
 obtain ⟨g,o,_,rfl,fL,_,_⟩:=RdL.entryS (show RdL (Dt.list Af) w10 w10.heap.size (.slice B1 y.shelf.length e1) y.shelf from oS10.rd) (k:=0) (by have:=h4.out;omega)
 have eF:g∈F1:=OwL.block_mem (show OwL (Dt.list Af) w10 F1 (.slice (some ⟨g,o,none⟩) y.shelf.length e1) y.shelf from oS10) (by have:=h4.out;omega)
 have qN:=dY g eF
 have hRlt:=oR10.lt
 have bL:=Lib.hid (show ∀ x,x∈[g]->x=g from fun x hx=>by simpa using hx)
 refine Go.wp_region_noPanic ?_
 refine wp_region_held_drew (S:=(fun w'=>DBox xb [.int .i64 id,.int .i64 p.prio,.int .i64 p.most,.int .i64 p.wait,.int .i64 p.tasks,.slice sr.1.a sr.1.n sr.1.c,.int .i64 (An id p).state,.slice sr.2.a sr.2.n sr.2.c] w')) (by kernel_rfl) (show DBox xb _ w10.drew from XB10.below (Below.refl _ _).drew) (fun hHeld=>?_)
 clear XB10_0 XB10_1 XB10_2 XB10_3 XB10_4 XB10_5 XB10_6 XB10_7 XB10_l
 refine tY 0 ?_
 (try simp only [pS])
 refine tY 1 ?_
 (try simp only [pS])
 have bd:Below w10.heap.size w10 w10.drew:=(Below.refl _ _).drew
 have qS:Hid ((An id p).tasks.length<=2000000):=by
  have h1:(An id p).tasks.length=p.tasks.toNat:=by unfold An;simp
  have h2:=Ch (Bn.1 P3.out).1
  have h3:(An id p).tasks.length<=2000000:=by omega
  exact Lib.hid h3
 have CT:=Lib.hid (Fi (An id p) sr 2 w10.drew qS.out (Am.ow_rd (F:=Fr) (x:=An id p) (s:=sr) (Am.ow_below (F:=Fr) (x:=An id p) (s:=sr) orn10 bd)))
 refine rC 2 (fun K_ hK=>?_)
 go_simp
 refine CT.out.mono ?_
 rintro e7 wa ⟨v7,rfl,o7,b7⟩
 refine hK.out _ _ (hHeld.below b7) (fun hHeld=>?_)
 clear hK K_
 (try simp only [pS])
 have pJ:w10.drew.heap.size=w10.heap.size:=rfl
 have ba:Below w10.heap.size w10 wa:=Aa bd b7
 clear bd b7 CT
 replace OB10:=OB10.below ba
 replace RES10:=RES10.below ba
 replace oS10:=oS10.below ba
 replace oR10:=oR10.below ba
 replace B10:=Aa B10 ba
 have sA:=ba.size
 have hRlt:=oR10.lt
 obtain ⟨A7,c7,rfl,-⟩:=_root_.id (Rd.of_own o7)
 have hobF:ob∉F1:=fun hx=>by have h1:_/\ob<base:=dY _ hx;omega
 have eY:=Lib.hid (show ∀ x,x∈[ob,g]->x=ob\/x=g from fun x hx=>by simpa using hx)
 have CS:=Lib.hid (Mt ⟨y.now,y.seq,y.shelf,y.runs ++ [An id p]⟩ ob g o e1 ⟨A9,rs.length+1,c9⟩ (An id p) sr (E7 (An id p).tasks 2) A7 _ c7 wa F1 h4.out (fun s hs=>by have:=(cS.out s hs).1;omega) (by dsimp only;omega) (Nat.le_trans (I6 _ _ _) (by have:=kU.out;omega)) OB10 oS10 hobF (Lib.hid fun W hW=>o7.rdHi hW (fun x hx=>by rcases eY.out x hx with h | h<;>(left;omega))))
 rw [<-Aaz] at CS
 unfold L9 at CS
 dsimp only at CS
 have fK:=Lib.hid (show (Kr ⟨y.now,y.seq,y.shelf,y.runs ++ [An id p]⟩ Eh (An id p)).runs=y.runs ++ [An id p] from (M8 (y:=⟨y.now,y.seq,y.shelf,y.runs ++ [An id p]⟩) (was:=Eh) (r:=An id p) (M:=80) (fun s hs=>(cS.out s hs).1) (An id p).tasks.length).runs)
 generalize Kr ⟨y.now,y.seq,y.shelf,y.runs ++ [An id p]⟩ Eh (An id p)=Z at *
 refine rC 3 (fun K_ hK=>?_)
 go_simp
 refine CS.out.mono ?_
 rintro e8 w11 ⟨rfl,F1',q1,Y6,q2,q3⟩
 refine hK.out _ _ (hHeld.chg q3 (fun hx=>by rcases eY.out _ hx with h | h<;>omega)) (fun hHeld=>?_)
 clear hK K_
 (try simp only [pS])
 refine wpAnyH_done (by kernel_rfl) ?_ _
 refine NoPanic.normal ?_
 clear hHeld CS o7 OB10
 have hs11:=q3.size
 have RES11:=RES10.chg q3 (fun hx=>by rcases eY.out _ hx with h | h<;>omega)
 have oR11:=oR10.chg q3 (fun x hx h=>by
  have h2:=fT x hx
  rcases eY.out x h with h1 | h1
  ·exact h2.1 h1
  ·omega)
 have B11:=B10.trans (q3.below (by have:=B10.size;omega) (fun x hx=>by rcases eY.out _ hx with h | h<;>omega))
 clear RES10
 obtain ⟨RES11_0,RES11_1,RES11_2,RES11_3,RES11_l⟩:=RES11.g4
 obtain ⟨Y6_0,Y6_1,Y6_2,Y6_3,Y6_l⟩:=Y6.g4
 have rf:=RES11.free
 go_wp2
 have en1:w.heap.size+1+1∉F1':=fun hx=>by
  rcases q2 _ hx with h | h
  ·have:=(dY _ h).1;omega
  ·have:=B10.size;omega
 have en2:w.heap.size+1+1∉F2:=fun hx=>by have:=(fT _ hx).2;omega
 refine bodyPost_ret (Hk (DBox.row4 RES11 rfl _ _ _ _)) rfl ⟨(⟨some ⟨g,o,none⟩,y.shelf.length,e1⟩,⟨A9,rs.length+1,c9⟩),F1' ++ F2,by rw [H.out,H2.out],⟨F1',F2,rfl,?_,?_,?_⟩,fun x hx=>?_,?_⟩
 ·rw [List.nodup_append]
  refine ⟨q1.nodup,oR11.nodup,fun a ha b hb e=>?_⟩
  subst e
  have h3:=fT a hb
  have h4:=hRlt a hb
  rcases q2 a ha with h | h
  ·have:=(dY a h).2;omega
  ·omega
 ·rw [H2.out]
  show OwL (Dt.list Af) _ F1' (.slice (some ⟨g,o,none⟩) y.shelf.length e1) Z.shelf
  exact ((((q1.set (a:=⟨_,_,none⟩) en1 _).set (a:=⟨_,_,none⟩) en1 _).set (a:=⟨_,_,none⟩) en1 _).set (a:=⟨_,_,none⟩) en1 _)
 ·rw [H2.out]
  show OwL Am _ F2 (.slice A9 (rs.length+1) c9) Z.runs
  rw [fK.out]
  exact ((((oR11.set (a:=⟨_,_,none⟩) en2 _).set (a:=⟨_,_,none⟩) en2 _).set (a:=⟨_,_,none⟩) en2 _).set (a:=⟨_,_,none⟩) en2 _)
 ·rcases List.mem_append.1 hx with hx | hx
  ·rcases q2 x hx with h | h
   ·have:=(dY x h).1;omega
   ·have:=B10.size;omega
  ·have:=(fT x hx).2;omega
 ·repeat (first | (with_reducible exact B11) | refine Below.setCell ?_ (by simp<;>omega) _)
theorem Y7 (y:Yard) (s:Sl×Sl) (p:Nat) (e:Entry) (w:World) (hl:Ai y<=2000000) (X:DBox p (Dk y s) w) (h:Ab.rd w w.heap.size y s) :
  Calls Tryz.prog 134 #[Fb e (),.pointer (some ⟨p,0,none⟩)] w fun e' w'=>e' = .returned (.bool (!Cy y e))/\Below w.heap.size w w':=by
 have CF:=Lib.hid (fun W (hW:Below w.heap.size w W)=>Ml y s e W hl (Ab.rd_more (Ab.rd_below h hW) hW.size))
 obtain ⟨⟨A1,n1,c1⟩,⟨A2,n2,c2⟩⟩:=s
 have B0:Below w.heap.size w (w.alloc (.cells #[.int .i64 e.prio,.int .i64 e.seq,.int .i64 e.run,.int .i64 e.task] 93)):=(Below.refl _ _).alloc (Nat.le_refl _) _
 have E:=DBox.new 93 [.int .i64 e.prio,.int .i64 e.seq,.int .i64 e.run,.int .i64 e.task] w (b:=w.heap.size) rfl
 have CF:=Lib.hid (CF.out _ B0)
 replace X:=X.below B0
 clear h hl
 obtain ⟨X_0,X_1,X_2,X_3,X_l⟩:=X.g4
 obtain ⟨E_0,E_1,E_2,E_3,E_l⟩:=E.g4
 go_enter Tryz.func134,Tryz.ntmps134
 go_wp2_with fail
 refine CF.out.mono ?_
 rintro e1 w1 ⟨rfl,b1⟩
 go_wp2
 go_ret
 exact ⟨rfl,Aa B0 b1⟩
theorem Y8 {b:Nat} {w:World} {u0 u1 u2 u3:Value} (X:DBox b [u0,u1,u2,u3] w) {v0 v1 v2 v3:Value} {rest:List Value} :
  (results Tryz.f70 (v0 :: v1 :: v2 :: v3 :: .pointer (some ⟨b,0,none⟩) :: rest).toArray).run Tryz.prog w = .ok (.agg #[u0,u1,u2,u3]) w:=by
 obtain ⟨c0,c1,c2,c3,-⟩:=X.g4
 simp [results,Tryz.results70,go_sem,c0,c1,c2,c3]
theorem Mx (y:Yard) (s:Sl×Sl) (i:Nat) (w:World) (hi:i<y.shelf.length) (hl:Ai y<=2000000) (h:Ab.rd w w.heap.size y s) :
  Calls Tryz.prog 70 #[By y s,.int .i64 i] w (Cj Ab By (Ae y i) w):=by
 have HR:=Lib.hid (show ∀ W,Below w.heap.size w W->Ab.rd W W.heap.size y s from fun W hW=>Ab.rd_more (Ab.rd_below h hW) hW.size)
 obtain ⟨⟨A1,n1,c1⟩,⟨A2,n2,c2⟩⟩:=s
 obtain rfl:n1=y.shelf.length:=RdL.at1 (s:=⟨A1,n1,c1⟩) h.1
 have CC:=Lib.hid (fun W hW=>Dl y (⟨A1,y.shelf.length,c1⟩,⟨A2,n2,c2⟩) W hl (HR.out W hW))
 have nZ:y.shelf[i].length<=2000000:=by
  have h1:=Cq (cnt:=Bl) (List.getElem_mem hi)
  have h2:y.shelf[i].length<=Bl y.shelf[i]:=Ar _ _
  unfold Ai at hl
  omega
 have hshl:y.shelf.length<=2000000:=Nat.le_trans (Ar Bl _) (by unfold Ai at hl;omega)
 clear h
 have hiI:(i:Int)<(y.shelf.length:Int):=by omega
 have hi00:(0:Int)<=(i:Int):=by omega
 obtain ⟨W,aG,X,RES,B0⟩:=bx2 w 31 [.int .i64 y.now,.int .i64 y.seq,.slice A1 y.shelf.length c1,.slice A2 n2 c2] 31 [.int .i64 0,.int .i64 0,.slice none 0 0,.slice none 0 0]
 go_enter Tryz.func70,Tryz.ntmps70
 go_wp2_with fail
 rw [<-aG.out]
 clear aG
 refine (CC.out _ B0).mono ?_
 rintro e1 w1 ⟨⟨⟨B1,m1,e1⟩,⟨B2,m2,e2⟩⟩,F,rfl,oy,nF,b1⟩
 have dM:=RES.lt
 have b2:Below w1.heap.size w1 (w1.alloc (.cells #[.int .i64 y.now,.int .i64 y.seq,.slice B1 m1 e1,.slice B2 m2 e2] 31)):=(Below.refl _ _).alloc (Nat.le_refl _) _
 have OB:DBox w1.heap.size (Dk y (⟨B1,m1,e1⟩,⟨B2,m2,e2⟩)) _:=DBox.new 31 [.int .i64 y.now,.int .i64 y.seq,.slice B1 m1 e1,.slice B2 m2 e2] w1 (b:=w1.heap.size) rfl
 have bM:=Lib.hid (Ab.ow_lt (F:=F) (x:=y) (s:=(⟨B1,m1,e1⟩,⟨B2,m2,e2⟩)) oy)
 have cN:=Lib.hid (show ∀ x∈F,w.heap.size+1<x from fun x hx=>by have:=nF x hx;omega)
 replace oy:Ab.ow _ F y (⟨B1,m1,e1⟩,⟨B2,m2,e2⟩):=Ab.ow_below (F:=F) (x:=y) (s:=(⟨B1,m1,e1⟩,⟨B2,m2,e2⟩)) oy b2
 have b12:=Aa b1 b2
 replace X:=X.below b12
 replace RES:=RES.below b12
 replace B0:=Aa B0 b12
 have bJ:=b1.size
 clear b1 b2 b12 CC nF
 go_upto_region 2 with fail
 have cJ:w1.heap.size∉F:=fun h=>by have:=bM.out _ h;omega
 have hobR:w.heap.size+1<w1.heap.size:=by omega
 generalize w1.heap.size=ob at *
 generalize w1.alloc (.cells #[.int .i64 y.now,.int .i64 y.seq,.slice B1 m1 e1,.slice B2 m2 e2] 31)=w2 at *
 have wr1:IntKind.i64.wrap ((y.shelf.length:Int) - 1)=(y.shelf.length:Int) - 1:=IntWalk.i64_in _ (by omega)
 have q:inB (i:Int) 0 ((y.shelf.length:Int) - 1)=true:=Bf.2 (by omega)
 obtain ⟨X_0,X_1,X_2,X_3,X_l⟩:=X.g4
 go_wp2_with (go_at_call 58;refine (Ap _ _ _ _).mono ?_;rintro e w9 ⟨rfl,rfl⟩;rw [q])
 clear X_0 X_1 X_2 X_3 X_l
 have eV:=Lib.hid hl
 have bd:Below w2.heap.size w2 w2.drew:=(Below.refl _ _).drew
 obtain ⟨F1,F2,rfl,bK,os,orr⟩:=oy
 replace os:OwL (Dt.list Af) w2 F1 (.slice B1 m1 e1) y.shelf:=os
 replace orr:OwL Am w2 F2 (.slice B2 m2 e2) y.runs:=orr
 obtain rfl:m1=y.shelf.length:=RdL.at1 (s:=⟨B1,m1,e1⟩) os.rd
 obtain ⟨g,o,_,rfl,hg,_,_⟩:=os.rd.entryS hi
 obtain ⟨OB_0,OB_1,OB_2,OB_3,OB_l⟩:=OB.g4
 obtain ⟨⟨A9,n9,c9⟩,Fx,jT,aY,jZ,eF,fK,bP,cG⟩:=OwL.trade (os.below bd) hi
 replace jT:OwL Af w2.drew Fx (.slice A9 n9 c9) y.shelf[i]:=jT
 obtain rfl:n9=y.shelf[i].length:=RdL.at1 (s:=⟨A9,n9,c9⟩) jT.rd
 have ck:w2.drew.cell? ⟨g,o+i,none⟩=some (.slice A9 y.shelf[i].length c9):=by
  have:=bP 0 _ rfl
  rw [show o+i * (Dt.list Af).enc.sz+0=o+i from by show o+i * 1+0=o+i;omega] at this
  exact this
 have hXn:w.heap.size∉Fx:=fun hx=>by have:=cN.out _ (List.mem_append_left _ (aY _ hx));omega
 have jQ:=Aa B0 bd
 have Xd:=X.below bd
 have jC:∀ (W:World) (x:Entry),Below w.heap.size w W->DBox w.heap.size [.int .i64 y.now,.int .i64 y.seq,.slice A1 y.shelf.length c1,.slice A2 n2 c2] W->Calls Tryz.prog 134 #[Fb x (),.pointer (some ⟨w.heap.size,0,none⟩)] W fun e w'=>e = .returned (.bool (!Cy y x))/\Below W.heap.size W w' :=
  fun W x hW hX=>Y7 y (⟨A1,y.shelf.length,c1⟩,⟨A2,n2,c2⟩) w.heap.size x W eV.out hX (HR.out W hW)
 have CD:=Lib.hid (O9 y.shelf[i] A9 y.shelf[i].length c9 Fx 134 w.heap.size (fun e=>!Cy y e) (Ks Tryz.func134 (by kernel_rfl) (by kernel_rfl)) w2.drew nZ
  (fun W x hW=>jC W x (jQ.trans (hW.below jQ.size (fun z hz=>by have:=cN.out _ (List.mem_append_left _ (aY _ hz));omega))) (Xd.chg hW hXn))
  (M6 134 w.heap.size (fun e=>!Cy y e) (Ks Tryz.func134 (by kernel_rfl) (by kernel_rfl)) y.shelf[i] A9 y.shelf[i].length c9 w2.drew nZ (Ns jT).rd (fun W x hW=>jC W x (jQ.trans (hW.mono jQ.size)) (Xd.below hW)))
  (Ns jT))
 clear jC eV
 refine Bj (fun w'=>w'.cell? ⟨ob,2,none⟩=some (.slice (some ⟨g,o,none⟩) y.shelf.length e1)/\w'.cell? ⟨g,o+i,none⟩=some (.slice A9 y.shelf[i].length c9)) 11 (by kernel_rfl) ?_ (fun hHeld=>?_)
 ·exact ⟨OB_2,ck⟩
 refine aT 0 hHeld ?_
 try simp only [pS]
 refine aT 1 hHeld ?_
 try simp only [pS]
 refine aT 2 hHeld ?_
 try simp only [pS]
 refine aT 3 hHeld ?_
 try simp only [pS]
 refine aT 4 hHeld ?_
 try simp only [pS]
 refine aT 5 hHeld ?_
 try simp only [pS]
 refine aT 6 hHeld ?_
 try simp only [pS]
 refine aT 7 hHeld ?_
 try simp only [pS]
 refine aT 8 hHeld ?_
 try simp only [pS]
 refine oT 9 (fun K hK=>?_)
 (go_simp;refine CD.out.mono ?_;rintro e7 wa ⟨k9,F',rfl,hH,dV,hC⟩)
 have fL:g<w2.drew.heap.size:=os.lt g eF
 have fR:ob<w2.drew.heap.size:=OB.lt
 have mP:ob∉Fx:=fun hx=>cJ (List.mem_append_left _ (aY _ hx))
 have dR:ob≠g:=fun e=>cJ (by rw [e];exact List.mem_append_left _ eF)
 have hgn:=cN.out g (List.mem_append_left _ eF)
 have qX:=(hC.cell (p:=⟨ob,2,none⟩) fR mP).trans hHeld.1
 have ck2:=(hC.cell (p:=⟨g,_,none⟩) fL jZ).trans ck
 have hgf2:∀ j,wa.frozen? ⟨g,j,none⟩=false:=fun j=>(hC.frozen (p:=⟨g,_,none⟩) fL jZ).trans (fK j)
 refine hK.out _ _ (fun _=>⟨qX,ck2⟩) ?_
 clear hK K
 try simp only [pS]
 refine oT 10 (fun K hK=>?_)
 go_simp
 refine hK.out _ _ (fun _=>⟨qX,ck2⟩) ?_
 clear hK K
 try simp only [pS]
 have hga:=hC.size
 refine oT 11 (fun K hK=>?_)
 go_simp
 refine hK.out _ _ (fun aC=>absurd rfl aC) ?_
 clear hK K hHeld
 try simp only [pS]
 refine Cg (by kernel_rfl) ?_ _
 obtain ⟨F3,o3,sB,rZ⟩:=cG wa (y.shelf[i].filter fun x=>!!Cy y x) ⟨A9,k9,c9⟩ F' hC (Uc hH) dV
 have eZ:E9 wa g (o+i * (Dt.list Af).enc.sz) ((Dt.list Af).enc.cells ((y.shelf[i].filter fun x=>!!Cy y x),(⟨A9,k9,c9⟩:Sl)))=wa.setCell ⟨g,o+i,none⟩ (.slice A9 k9 c9):=by
  show E9 wa g (o+i * 1) [.slice A9 k9 c9]=_
  rw [Nat.mul_one];rfl
 rw [eZ] at o3
 have hd12:∀ x∈F1,x∉F2:=fun x hx hx2=>(List.nodup_append.1 bK).2.2 x hx x hx2 rfl
 have hS:=Chg.setCell wa g (o+i) (.slice A9 k9 c9)
 have bL:=Lib.hid (show ∀ x,x∈[g]->x=g from fun x hx=>by simpa using hx)
 have orr3:=((orr.below bd).chg hC (fun x hx hx2=>hd12 x (aY x hx2) hx)).chg hS (fun x hx hx2=>by have:=bL.out x hx2;subst this;exact hd12 x eF hx)
 have hX3:w.heap.size+1∉Fx:=fun hx=>by have:=cN.out _ (List.mem_append_left _ (aY _ hx));omega
 have RES3:=((RES.below bd).chg hC hX3).chg hS (fun hx=>by have:=bL.out _ hx;omega)
 have OB3:=((OB.below bd).chg hC mP).chg hS (fun hx=>dR (bL.out _ hx))
 have B3:=(jQ.trans (hC.below jQ.size (fun z hz=>by have:=cN.out _ (List.mem_append_left _ (aY _ hz));omega))).trans (hS.below (base:=w.heap.size) (by have:=jQ.size;omega) (fun x hx=>by have:=bL.out x hx;omega))
 have oyF:Ab.ow (wa.setCell ⟨g,o+i,none⟩ (.slice A9 k9 c9)) (F3 ++ F2) (Ae y i) (⟨some ⟨g,o,none⟩,y.shelf.length,e1⟩,⟨B2,m2,e2⟩):=by
  refine ⟨F3,F2,rfl,?_,?_,orr3⟩
  ·rw [List.nodup_append] at bK ⊢
   exact ⟨o3.nodup,bK.2.1,fun a ha b hb e=>hd12 a (sB a ha) (by rw [e];exact hb)⟩
  ·have hE:(Ae y i).shelf=y.shelf.set i (y.shelf[i].filter fun x=>!!Cy y x):=by
    show y.shelf.set i ((y.shelf.getD i []).filter fun e=>Cy y e)=_
    rw [List.getD_eq_getElem?_getD,List.getElem?_eq_getElem hi]
    simp
   show OwL (Dt.list Af) _ F3 (.slice (some ⟨g,o,none⟩) y.shelf.length e1) (Ae y i).shelf
   rw [hE]
   exact o3
 have mG:∀ x∈F3 ++ F2,w.heap.size+1<x:=fun x hx=>by
  rcases List.mem_append.1 hx with hx | hx
  ·exact cN.out x (List.mem_append_left _ (sB x hx))
  ·exact cN.out x (List.mem_append_right _ hx)
 have mG:=Lib.hid mG
 clear o3 sB rZ cG hC hH dV CD os orr orr3 jT bP ck ck2 qX hgf2 fK hd12 aY cN hX3 hS RES X Xd B0 jQ bd
 clear OB_0 OB_1 OB_2 OB_3 OB_l
 clear OB
 generalize wa.setCell ⟨g,o+i,none⟩ (.slice A9 k9 c9)=w6 at *
 have OB:=OB3
 have RES:=RES3
 obtain ⟨OB_0,OB_1,OB_2,OB_3,OB_l⟩:=OB.g4
 obtain ⟨RES_0,RES_1,RES_2,RES_3,RES_l⟩:=RES.g4
 have rf:=RES.free
 go_wp2
 have en1:w.heap.size+1∉F3 ++ F2:=fun hx=>by have:=mG.out _ hx;omega
 refine bodyPost_ret (Y8 (DBox.row4 RES rfl _ _ _ _)) rfl ⟨(⟨some ⟨g,o,none⟩,y.shelf.length,e1⟩,⟨B2,m2,e2⟩),F3 ++ F2,rfl,Ab.set4 (F:=F3 ++ F2) (x:=Ae y i) (s:=(⟨some ⟨g,o,none⟩,y.shelf.length,e1⟩,⟨B2,m2,e2⟩)) oyF en1,fun x hx=>by have:=mG.out x hx;omega,?_⟩
 repeat (first | (with_reducible exact B3) | refine Below.setCell ?_ (by simp<;>omega) _)
section
def He (k n:Nat):List (Nat×Nat):=(List.range n).map fun t=>(k,t)
def E8 (y:Yard) (k:Nat):List (Nat×Nat):=(List.range k).flatMap fun j=>He j (En y j).tasks.length
theorem Pe (k n:Nat):He k (n+1)=He k n ++ [(k,n)]:=by
 unfold He
 rw [List.range_succ,List.map_append]
 rfl
theorem Lt (y:Yard) (k:Nat):E8 y (k+1)=E8 y k ++ He k (En y k).tasks.length:=by
 unfold E8
 rw [List.range_succ,List.flatMap_append]
 simp
open Classical in
noncomputable def Js (y:Yard):Yard:=if Bq y then De y (E8 y y.runs.length) else y
theorem Pf {b:Nat} {w:World} {u0 u1 u2 u3:Value} (X:DBox b [u0,u1,u2,u3] w) {v0 v1:Value} {rest:List Value} :
  (results Tryz.f150 (v0 :: v1 :: .pointer (some ⟨b,0,none⟩) :: rest).toArray).run Tryz.prog w = .ok (.agg #[u0,u1,u2,u3]) w:=by
 have c0:=X.cell 0 _ rfl
 have c1:=X.cell 1 _ rfl
 have c2:=X.cell 2 _ rfl
 have c3:=X.cell 3 _ rfl
 simp [results,Tryz.results150,go_sem,c0,c1,c2,c3]
theorem Qd (y:Yard) (s:Sl×Sl) (w:World) (hl:Ai y<=2000000) (h:Ab.rd w w.heap.size y s) :
  Calls Tryz.prog 150 #[By y s] w (Cj Ab By (Js y) w):=by
 have HR:=Lib.hid (show ∀ W,Below w.heap.size w W->Ab.rd W W.heap.size y s from fun W hW=>Ab.rd_more (Ab.rd_below h hW) hW.size)
 obtain ⟨⟨A1,n1,c1⟩,⟨A2,n2,c2⟩⟩:=s
 have CC:=Lib.hid (fun W hW=>C9 y (⟨A1,n1,c1⟩,⟨A2,n2,c2⟩) W hl (HR.out W hW))
 have CY:=Lib.hid (fun W hW=>D7 y (⟨A1,n1,c1⟩,⟨A2,n2,c2⟩) W hl (HR.out W hW))
 clear h
 obtain ⟨W,aG,X,RES,B0⟩:=bx2 w 31 [.int .i64 y.now,.int .i64 y.seq,.slice A1 n1 c1,.slice A2 n2 c2] 31 [.int .i64 0,.int .i64 0,.slice none 0 0,.slice none 0 0]
 go_enter Tryz.func150,Tryz.ntmps150
 go_wp2_with fail
 rw [<-aG.out]
 clear aG
 have dM:w.heap.size+1<W.heap.size:=RES.lt
 refine (CC.out _ B0).mono ?_
 rintro e1 w1 ⟨⟨⟨B1,m1,e1⟩,⟨B2,m2,e2⟩⟩,F,rfl,oy,nF,b1⟩
 have bJ:=b1.size
 have cH:=Ab.ow_lt (F:=F) (x:=y) (s:=(⟨B1,m1,e1⟩,⟨B2,m2,e2⟩)) oy
 replace X:=X.below b1
 replace RES:=RES.below b1
 replace B0:=Aa B0 b1
 clear b1
 go_upto_region 2 with fail
 have OB:=DBox.new 31 [.int .i64 y.now,.int .i64 y.seq,.slice B1 m1 e1,.slice B2 m2 e2] w1 (b:=w1.heap.size) rfl
 have b2:Below w1.heap.size w1 (w1.alloc (.cells #[.int .i64 y.now,.int .i64 y.seq,.slice B1 m1 e1,.slice B2 m2 e2] 31)):=(Below.refl _ _).alloc (Nat.le_refl _) _
 replace X:=X.below b2
 replace RES:=RES.below b2
 replace oy:=Ab.ow_below (F:=F) (x:=y) (s:=(⟨B1,m1,e1⟩,⟨B2,m2,e2⟩)) oy b2
 replace B0:=Aa B0 b2
 have ow1:=OB.lt
 clear b2
 generalize w1.alloc (.cells #[.int .i64 y.now,.int .i64 y.seq,.slice B1 m1 e1,.slice B2 m2 e2] 31)=w2 at *
 generalize cJ:w1.heap.size=ob at *
 obtain ⟨X_0,X_1,X_2,X_3,X_l⟩:=X.g4
 obtain ⟨OB_0,OB_1,OB_2,OB_3,OB_l⟩:=OB.g4
 go_wp2_with fail
 refine (CY.out _ B0).mono ?_
 rintro e1 w3 ⟨rfl,b3⟩
 clear X_0 X_1 X_2 X_3 X_l
 clear OB_0 OB_1 OB_2 OB_3 OB_l
 replace X:=X.below b3
 replace OB:=OB.below b3
 replace RES:=RES.below b3
 replace oy:Ab.ow w3 F y (⟨B1,m1,e1⟩,⟨B2,m2,e2⟩):=Ab.ow_below (F:=F) (x:=y) (s:=(⟨B1,m1,e1⟩,⟨B2,m2,e2⟩)) oy b3
 replace B0:=Aa B0 b3
 clear b3
 obtain ⟨X_0,X_1,X_2,X_3,X_l⟩:=X.g4
 obtain ⟨OB_0,OB_1,OB_2,OB_3,OB_l⟩:=OB.g4
 by_cases p0:Bq y
 case neg =>
  rw [Al p0]
  have H2:=Lib.hid (show Js y=y from if_neg p0)
  clear p0
  obtain ⟨RES_0,RES_1,RES_2,RES_3,RES_l⟩:=RES.g4
  have rf:=RES.free
  go_wp2
  have en1:w.heap.size+1∉F:=fun hx=>by have:=nF _ hx;omega
  refine bodyPost_ret (Pf (DBox.row4 RES rfl _ _ _ _)) rfl ⟨(⟨B1,m1,e1⟩,⟨B2,m2,e2⟩),F,by rw [H2.out],by rw [H2.out];exact (by (repeat (refine Dt.ow_set Ab ?_ en1 _));exact (show Ab.ow _ F y (⟨B1,m1,e1⟩,⟨B2,m2,e2⟩) from oy)),fun x hx=>by have:=nF x hx;omega,?_⟩
  repeat (first | (with_reducible exact B0) | refine Below.setCell ?_ (by simp<;>omega) _)
 rw [Bs p0]
 have P0:=Lib.hid p0
 have H2:=Lib.hid (show Js y=De y (E8 y y.runs.length) from if_pos p0)
 clear p0
 have jK:ob<w3.heap.size:=OB.lt
 have hB3:=B0.size
 have eZ:w.heap.size+1<w3.heap.size:=by omega
 have qH:y.runs.length<=8:=P0.out.2.2.2.2.2.2.1
 have fN:Hid ((∀ x∈F,w.heap.size+1<x)/\ob∉F/\True):=⟨fun x hx=>by have:=nF x hx;omega,fun hx=>by have:=cH _ hx;omega,trivial⟩
 clear X_0 X_1 X_2 X_3 X_l
 clear OB_0 OB_1 OB_2 OB_3 OB_l
 clear X HR CC CY nF cH
 go_wp2
 go_loopw [4] (fun iv wr=>∃ (k:Nat) (Z:Yard) (s:Sl×Sl) (F:List Nat),k<=y.runs.length/\iv = .int .i64 k/\Hid (Trn y (12 * k) Z)/\Hid (De y (E8 y k)=Z)/\Hid (Ab.ow wr F Z s)/\Hid ((∀ x∈F,w.heap.size+1<x)/\ob∉F/\True)/\DBox ob (Dk Z s) wr/\DBox (w.heap.size+1) [.int .i64 0,.int .i64 0,.slice none 0 0,.slice none 0 0] wr/\Below w.heap.size w wr/\w3.heap.size<=wr.heap.size) (fun i _=>y.runs.length - (intOf i).toNat)
 case atStart=>exact ⟨0,y,(⟨B1,m1,e1⟩,⟨B2,m2,e2⟩),F,Nat.zero_le _,rfl,Trn.start P0.out,rfl,oy,fN,OB,RES,B0,Nat.le_refl _⟩
 case round =>
  clear oy fN OB RES B0
  obtain ⟨k,Z,s,F,hk,rfl,hT,hZ,oy,hF,OB,RES,hb,kQ⟩:=hrel
  obtain ⟨⟨B1,m1,e1⟩,⟨B2,m2,e2⟩⟩:=s
  have eA:=Lib.hid (show m2=y.runs.length from (RdL.at1 (s:=⟨B2,m2,e2⟩) (Ab.ow_rd oy.out).2).trans hT.out.len)
  obtain ⟨OB_0,OB_1,OB_2,OB_3,OB_l⟩:=OB.g4
  by_cases aA:k<y.runs.length
  ·have aB:(k:Int)<(m2:Int):=by have:=eA.out;omega
   have dG:(0:Int)<=(k:Int):=by omega
   go_wp2
   go_loopw [5] (fun iv wr=>∃ (t:Nat) (Z:Yard) (s:Sl×Sl) (F:List Nat),t<=y.runs[k].tasks.length/\iv = .int .i64 t/\Hid (Trn y (12 * k+t) Z)/\Hid (De y (E8 y k ++ He k t)=Z)/\Hid (Ab.ow wr F Z s)/\Hid ((∀ x∈F,w.heap.size+1<x)/\ob∉F/\True)/\DBox ob (Dk Z s) wr/\DBox (w.heap.size+1) [.int .i64 0,.int .i64 0,.slice none 0 0,.slice none 0 0] wr/\Below w.heap.size w wr/\w3.heap.size<=wr.heap.size) (fun i _=>y.runs[k].tasks.length - (intOf i).toNat)
   case atStart=>exact ⟨0,Z,(⟨B1,m1,e1⟩,⟨B2,m2,e2⟩),F,Nat.zero_le _,rfl,hT,by rw [show He k 0=[] from rfl,List.append_nil];exact hZ,oy,hF,OB,RES,hb,kQ⟩
   case round =>
    clear OB_0 OB_1 OB_2 OB_3 OB_l
    clear oy hF OB RES hb kQ hT hZ eA aB
    obtain ⟨t,Z,s,F,ht,rfl,hT,hZ,oy,hF,OB,RES,hb,kQ⟩:=hrel
    obtain ⟨⟨B1,m1,e1⟩,⟨B2,m2,e2⟩⟩:=s
    replace oy:Ab.ow wr F Z (⟨B1,m1,e1⟩,⟨B2,m2,e2⟩):=oy.out
    have bM:∀ x∈F,x<wr.heap.size:=Ab.ow_lt (F:=F) (x:=Z) (s:=(⟨B1,m1,e1⟩,⟨B2,m2,e2⟩)) oy
    have eU:=(Cb (Co P0.out aA)).2
    have dN:k<Z.runs.length:=by rw [hT.out.len];exact aA
    have fH:=hT.out.run k dN aA
    have oyr:=(Ab.ow_rd (F:=F) (x:=Z) (s:=(⟨B1,m1,e1⟩,⟨B2,m2,e2⟩)) oy).2
    have eA:=Lib.hid (show m2=Z.runs.length from RdL.at1 (s:=⟨B2,m2,e2⟩) oyr)
    have fY:(k:Int)<(m2:Int):=by have:=eA.out;omega
    obtain ⟨gr,orr,⟨sk1,⟨tka,tkn,tkc⟩⟩,rfl,dD,cA,c0,c1,c2,c3,c4,c5,c6,c7⟩:=RdL.run (show RdL Am wr wr.heap.size (.slice B2 m2 e2) Z.runs from oyr) dN
    have mM:=Lib.hid (show tkn=Z.runs[k].tasks.length from RdL.at1 (s:=⟨tka,tkn,tkc⟩) cA.2)
    have bR:=Lib.hid fH.2.2
    have bF:=Lib.hid fH.1
    clear fH oyr
    obtain ⟨OB_0,OB_1,OB_2,OB_3,OB_l⟩:=OB.g4
    by_cases aR:t<y.runs[k].tasks.length
    ·have jR:(t:Int)<(tkn:Int):=by have:=mM.out;have:=bR.out;omega
     have fZ:(0:Int)<=(t:Int):=by omega
     have jJ:t<Z.runs[k].tasks.length:=by have:=bR.out;omega
     have hN:=Lib.hid (hT.out.fail dN jJ)
     have aE:Hid (De y (E8 y k ++ He k (t+1))=Dv Z k t):=by
      show De y (E8 y k ++ He k (t+1))=_
      rw [Pe,<-List.append_assoc]
      unfold De
      rw [List.foldl_append,<-hZ.out]
      rfl
     obtain ⟨gt,ot,_,rfl,hgt,_,d0,d1,d2,d3⟩:=RdL.task (show RdL Cv wr wr.heap.size (.slice tka tkn tkc) Z.runs[k].tasks from cA.2) jJ
     have hJ:=Lib.hid (show Ax (En Z k) t=Z.runs[k].tasks[t] by rw [Cw dN,Aw jJ])
     have hJ2:=Lib.hid (Cw dN)
     clear d1 d2 d3
     generalize kZ:Z.runs[k]=r at *
     replace kZ:=Lib.hid kZ
     by_cases q:r.tasks[t].state=3
     case neg =>
      have q1:(r.tasks[t].state == 3)=false:=by simp [q]
      have aZ:=Lib.hid (show Dv Z k t=Z from Jh (by rw [hJ.out];exact q))
      clear q
      go_wp2
      exact ⟨⟨t+1,Z,(⟨B1,m1,e1⟩,⟨some ⟨gr,orr,none⟩,m2,e2⟩),F,aR,by go_num,by rw [aZ.out] at hN;exact hN,aE.out.trans aZ.out,oy,hF,OB,RES,hb,kQ⟩,by simp [intOf];omega⟩
     have q1:(r.tasks[t].state == 3)=true:=by simp [q]
     have aK:Hid (Gg r t):=⟨bF.out,⟨by omega,by omega⟩,by rw [Int.toNat_natCast,Aw jJ];exact q⟩
     have aZ:=Lib.hid (show Dv Z k t=Dq Z k (Br r t) by rw [Iq (by rw [hJ.out];exact q),hJ2.out])
     have CF:=Lib.hid (J3 r (sk1,⟨some ⟨gt,ot,none⟩,tkn,tkc⟩) t wr.drew (by have:=Im bF.out;omega) aK.out (Am.rd_below cA (Below.refl _ _).drew))
     have fR:=OB.lt
     clear q cA
     go_wp2
     refine Bj (fun w'=>w'.cell? ⟨ob,0,none⟩=some (.int .i64 Z.now)/\w'.cell? ⟨ob,1,none⟩=some (.int .i64 Z.seq)/\w'.cell? ⟨ob,2,none⟩=some (.slice B1 m1 e1)/\w'.cell? ⟨ob,3,none⟩=some (.slice (some ⟨gr,orr,none⟩) m2 e2)) 10 (by kernel_rfl) ?_ (fun hHeld=>?_)
     ·exact ⟨OB_0,OB_1,OB_2,OB_3⟩
     refine aT 0 hHeld ?_
     try simp only [pS]
     refine aT 1 hHeld ?_
     try simp only [pS]
     refine aT 2 hHeld ?_
     try simp only [pS]
     refine aT 3 hHeld ?_
     try simp only [pS]
     refine aT 4 hHeld ?_
     try simp only [pS]
     refine aT 5 hHeld ?_
     try simp only [pS]
     refine aT 7 hHeld ?_
     try simp only [pS]
     refine oT 6 (fun K hK=>?_)
     go_simp
     refine hK.out _ _ (fun _=>?_) ?_
     ·exact ⟨OB_0,OB_1,OB_2,OB_3⟩
     clear hK K
     try simp only [pS]
     refine oT 8 (fun K hK=>?_)
     (go_simp;refine CF.out.mono ?_;rintro e5 wa ⟨sr,Fr,rfl,orn,nFr,ba⟩;have nD:∀ x∈Fr,wr.heap.size<=x:=nFr;have oya:Ab.ow wa F Z (⟨B1,m1,e1⟩,⟨some ⟨gr,orr,none⟩,m2,e2⟩):=Ab.ow_below (F:=F) (x:=Z) (s:=(⟨B1,m1,e1⟩,⟨some ⟨gr,orr,none⟩,m2,e2⟩)) oy (Aa (Below.refl _ _).drew ba);have CT:=Lib.hid (I9 Z (⟨B1,m1,e1⟩,⟨some ⟨gr,orr,none⟩,m2,e2⟩) k (Br r t) sr wa F Fr hT.out.four (fun s hs=>by have:=hT.out.all s hs;omega) (by have:=hT.out.seq;omega) dN (by rw [Fg];have:=Cb bF.out;omega) (by rw [kZ.out];have:=Cb bF.out;omega) oya orn (fun x hx aY=>by have h1:=nD x hx;have h2:=bM x aY;omega)))
     refine hK.out _ _ (fun _=>?_) ?_
     ·exact ⟨(ba.cell (p:=⟨_,_,none⟩) (by show ob<wr.heap.size;omega)).trans OB_0,(ba.cell (p:=⟨_,_,none⟩) (by show ob<wr.heap.size;omega)).trans OB_1,(ba.cell (p:=⟨_,_,none⟩) (by show ob<wr.heap.size;omega)).trans OB_2,(ba.cell (p:=⟨_,_,none⟩) (by show ob<wr.heap.size;omega)).trans OB_3⟩
     clear hK K
     try simp only [pS]
     refine oT 9 (fun K hK=>?_)
     (go_simp;refine CT.out.mono ?_;rintro e6 wb ⟨s6,F6,rfl,oy6,n6,cb⟩;have OB6:=(OB.below (Aa (Below.refl _ _).drew ba)).chg cb hF.out.2.1;have q0:=OB6.cell 0 _ rfl;have q1:=OB6.cell 1 _ rfl;have q2:=OB6.cell 2 _ rfl;have q3:=OB6.cell 3 _ rfl;have qf:=OB6.free;have ql:=OB6.lt;generalize Dq Z k (Br r t)=Z1 at *)
     refine hK.out _ _ (fun _=>?_) ?_
     ·exact ⟨q0,q1,q2,q3⟩
     clear hK K
     try simp only [pS]
     refine oT 10 (fun K hK=>?_)
     go_simp
     refine hK.out _ _ (fun aC=>absurd rfl aC) ?_
     clear hK K
     try simp only [pS]
     refine Cg (by kernel_rfl) ?_ _
     have ba':Below wr.heap.size wr wa:=Aa (Below.refl _ _).drew ba
     have hbas:=ba'.size
     have hcbs:=cb.size
     have jI:=OB.lt
     have hRl7:=RES.lt
     have cE:=Chg.cells4 wb ob 0 1 2 3 (.int .i64 Z1.now) (.int .i64 Z1.seq) (.slice s6.1.a s6.1.n s6.1.c) (.slice s6.2.a s6.2.n s6.2.c)
     have dH:=Lib.hid (show ∀ x,x∈[ob]->x=ob from fun x hx=>by simpa using hx)
     have OB7:=DBox.row4 OB6 rfl (.int .i64 Z1.now) (.int .i64 Z1.seq) (.slice s6.1.a s6.1.n s6.1.c) (.slice s6.2.a s6.2.n s6.2.c)
     have RES7:=((RES.below ba').chg cb (fun hx=>by have:=hF.out.1 _ hx;omega)).chg cE (fun hx=>by have:=dH.out _ hx;omega)
     have jD:=((Aa hb ba').trans (cb.below (by have:=(Aa hb ba').size;omega) (fun x hx=>by have:=hF.out.1 x hx;omega))).trans (cE.below (by have:=hb.size;omega) (fun x hx=>by have:=dH.out x hx;omega))
     have mJ:∀ x∈F6,x∈F\/wr.heap.size<=x:=fun x hx=>by
      rcases n6 x hx with h | h | h
      ·exact .inl h
      ·exact .inr (nD x h)
      ·exact .inr (by omega)
     have nG:ob∉F6:=fun hx=>by
      rcases mJ _ hx with h | h
      ·exact hF.out.2.1 h
      ·omega
     have oy7:=Ab.ow_chg (F:=F6) (x:=Z1) (s:=s6) oy6 cE (fun x hx h=>by have:=dH.out x h;subst this;exact nG hx)
     have jL:Hid ((∀ x∈F6,w.heap.size+1<x)/\ob∉F6/\True):=⟨fun x hx=>by
      rcases mJ x hx with h | h
      ·exact hF.out.1 x h
      ·have:=hRl7;omega,nG,trivial⟩
     have hw7:=Nat.le_trans kQ (Nat.le_trans (Nat.le_trans hbas hcbs) cE.size)
     clear hHeld q0 q1 q2 q3 qf ql OB6 oy6 CT CF oya orn nFr n6 ba cb
     clear OB_0 OB_1 OB_2 OB_3 OB_l
     clear OB
     generalize (((wb.setCell ⟨ob,0,none⟩ (.int .i64 Z1.now)).setCell ⟨ob,1,none⟩ (.int .i64 Z1.seq)).setCell ⟨ob,2,none⟩ (.slice s6.1.a s6.1.n s6.1.c)).setCell ⟨ob,3,none⟩ (.slice s6.2.a s6.2.n s6.2.c)=w7 at *
     go_wp2
     exact ⟨⟨t+1,Z1,s6,F6,aR,by go_num,by rw [<-aZ.out];exact hN,aE.out.trans aZ.out,oy7,jL,OB7,RES7,jD,hw7⟩,by simp [intOf];omega⟩
    ·have jR:¬ (t:Int)<(tkn:Int):=by have:=mM.out;have:=bR.out;omega
     have hS:=Lib.hid (show De y (E8 y (k+1))=Z by
      rw [Lt,show (En y k).tasks.length=t by rw [Cw aA];omega]
      exact hZ.out)
     have hM:=Lib.hid (show Trn y (12 * (k+1)) Z from hT.out.mono (by omega))
     go_wp2
     exact ⟨⟨k+1,Z,(⟨B1,m1,e1⟩,⟨some ⟨gr,orr,none⟩,m2,e2⟩),F,by omega,by go_num,hM,hS,oy,hF,OB,RES,hb,kQ⟩,by simp [intOf];omega⟩
  ·have aB:¬ (k:Int)<(m2:Int):=by have:=eA.out;omega
   have hkk:k=y.runs.length:=by omega
   have H3:=Lib.hid (show Js y=Z by rw [H2.out,<-hZ.out,hkk])
   clear hkk
   replace oy:Ab.ow wr F Z (⟨B1,m1,e1⟩,⟨B2,m2,e2⟩):=oy.out
   have rf:=RES.free
   obtain ⟨RES_0,RES_1,RES_2,RES_3,RES_l⟩:=RES.g4
   go_wp2
   have en1:w.heap.size+1∉F:=fun hx=>by have:=hF.out.1 _ hx;omega
   refine bodyPost_ret (Pf (DBox.row4 RES rfl _ _ _ _)) rfl ⟨(⟨B1,m1,e1⟩,⟨B2,m2,e2⟩),F,by rw [H3.out],by rw [H3.out];exact (by (repeat (refine Dt.ow_set Ab ?_ en1 _));exact (show Ab.ow _ F Z (⟨B1,m1,e1⟩,⟨B2,m2,e2⟩) from oy)),fun x hx=>by have:=hF.out.1 x hx;omega,?_⟩
   repeat (first | (with_reducible exact hb) | refine Below.setCell ?_ (by simp<;>omega) _)
end
theorem Jy {b:Nat} {w:World} {u0 u1 u2 u3:Value} (X:DBox b [u0,u1,u2,u3] w) {v0 v1 v2 v3 v5:Value} {rest:List Value} :
  (results Tryz.f113 (v0 :: v1 :: v2 :: v3 :: .pointer (some ⟨b,0,none⟩) :: v5 :: rest).toArray).run Tryz.prog w = .ok (.tuple #[.agg #[u0,u1,u2,u3],v5]) w:=by
 have c0:=X.cell 0 _ rfl
 have c1:=X.cell 1 _ rfl
 have c2:=X.cell 2 _ rfl
 have c3:=X.cell 3 _ rfl
 simp [results,Tryz.results113,go_sem,c0,c1,c2,c3]
theorem Sm (y:Yard) (s:Sl×Sl) (id:Int) (w:World) (hl:Ai y<=2000000) (h:Ab.rd w w.heap.size y s) :
  Calls Tryz.prog 113 #[By y s,.int .i64 id] w (Fn (Fw y id) (Fu y id) w):=by
 have HR:=Lib.hid (show ∀ W,Below w.heap.size w W->Ab.rd W W.heap.size y s from fun W hW=>Ab.rd_more (Ab.rd_below h hW) hW.size)
 obtain ⟨⟨A1,n1,c1⟩,⟨A2,n2,c2⟩⟩:=s
 have CC:=Lib.hid (fun W hW=>Dl y (⟨A1,n1,c1⟩,⟨A2,n2,c2⟩) W hl (HR.out W hW))
 have CY:=Lib.hid (fun W hW=>D6 y (⟨A1,n1,c1⟩,⟨A2,n2,c2⟩) W hl (HR.out W hW))
 have CA:=Lib.hid (fun W hW=>C6 y (⟨A1,n1,c1⟩,⟨A2,n2,c2⟩) id W hl (HR.out W hW))
 have CX:=Lib.hid (fun W hW=>show RdL Am W W.heap.size (.slice A2 n2 c2) y.runs from (HR.out W hW).2)
 clear h HR
 obtain ⟨W,aG,X,RES,B0⟩:=bx2 w 31 [.int .i64 y.now,.int .i64 y.seq,.slice A1 n1 c1,.slice A2 n2 c2] 31 [.int .i64 0,.int .i64 0,.slice none 0 0,.slice none 0 0]
 go_enter Tryz.func113,Tryz.ntmps113
 go_wp2_with fail
 rw [<-aG.out]
 clear aG
 have dM:w.heap.size+1<W.heap.size:=RES.lt
 refine (CC.out _ B0).mono ?_
 rintro e1 w1 ⟨⟨⟨B1,m1,e1⟩,⟨B2,m2,e2⟩⟩,F,rfl,oy,nF,b1⟩
 have bJ:=b1.size
 have cH:=Ab.ow_lt (F:=F) (x:=y) (s:=(⟨B1,m1,e1⟩,⟨B2,m2,e2⟩)) oy
 replace X:=X.below b1
 replace RES:=RES.below b1
 replace B0:=Aa B0 b1
 clear b1
 go_upto_region 2 with fail
 have OB:=DBox.new 31 [.int .i64 y.now,.int .i64 y.seq,.slice B1 m1 e1,.slice B2 m2 e2] w1 (b:=w1.heap.size) rfl
 have b2:Below w1.heap.size w1 (w1.alloc (.cells #[.int .i64 y.now,.int .i64 y.seq,.slice B1 m1 e1,.slice B2 m2 e2] 31)):=(Below.refl _ _).alloc (Nat.le_refl _) _
 replace X:=X.below b2
 replace RES:=RES.below b2
 replace oy:=Ab.ow_below (F:=F) (x:=y) (s:=(⟨B1,m1,e1⟩,⟨B2,m2,e2⟩)) oy b2
 replace B0:=Aa B0 b2
 have ow1:=OB.lt
 clear b2
 generalize w1.alloc (.cells #[.int .i64 y.now,.int .i64 y.seq,.slice B1 m1 e1,.slice B2 m2 e2] 31)=w2 at *
 generalize cJ:w1.heap.size=ob at *
 obtain ⟨X_0,X_1,X_2,X_3,X_l⟩:=X.g4
 obtain ⟨OB_0,OB_1,OB_2,OB_3,OB_l⟩:=OB.g4
 go_wp2_with fail
 refine (CA.out _ B0).mono ?_
 rintro e1 w3 ⟨rfl,b3⟩
 clear X_0 X_1 X_2 X_3 X_l
 clear OB_0 OB_1 OB_2 OB_3 OB_l
 replace X:=X.below b3
 replace OB:=OB.below b3
 replace RES:=RES.below b3
 replace oy:Ab.ow w3 F y (⟨B1,m1,e1⟩,⟨B2,m2,e2⟩):=Ab.ow_below (F:=F) (x:=y) (s:=(⟨B1,m1,e1⟩,⟨B2,m2,e2⟩)) oy b3
 replace B0:=Aa B0 b3
 clear b3
 obtain ⟨X_0,X_1,X_2,X_3,X_l⟩:=X.g4
 obtain ⟨OB_0,OB_1,OB_2,OB_3,OB_l⟩:=OB.g4
 go_wp2_with fail
 refine (CY.out _ B0).mono ?_
 rintro e1 w4 ⟨rfl,b4⟩
 clear X_0 X_1 X_2 X_3 X_l
 clear OB_0 OB_1 OB_2 OB_3 OB_l
 replace X:=X.below b4
 replace OB:=OB.below b4
 replace RES:=RES.below b4
 replace oy:Ab.ow w4 F y (⟨B1,m1,e1⟩,⟨B2,m2,e2⟩):=Ab.ow_below (F:=F) (x:=y) (s:=(⟨B1,m1,e1⟩,⟨B2,m2,e2⟩)) oy b4
 replace B0:=Aa B0 b4
 clear b4
 obtain ⟨X_0,X_1,X_2,X_3,X_l⟩:=X.g4
 obtain ⟨OB_0,OB_1,OB_2,OB_3,OB_l⟩:=OB.g4
 by_cases p0:Bq y
 case neg =>
  rw [Al p0]
  have H:=Lib.hid (show Fu y id=8 by unfold Fu;rw [if_pos p0])
  have H2:=Lib.hid (show Fw y id=y by unfold Fw;rw [H.out,if_neg (by decide)])
  obtain ⟨RES_0,RES_1,RES_2,RES_3,RES_l⟩:=RES.g4
  have rf:=RES.free
  go_wp2
  have en1:w.heap.size+1∉F:=fun hx=>by have:=nF _ hx;omega
  refine bodyPost_ret (Jy (DBox.row4 RES rfl _ _ _ _)) rfl ⟨(⟨B1,m1,e1⟩,⟨B2,m2,e2⟩),F,by rw [H.out,H2.out],by rw [H2.out];exact (by (repeat (refine Dt.ow_set Ab ?_ en1 _));exact (show Ab.ow _ F y (⟨B1,m1,e1⟩,⟨B2,m2,e2⟩) from oy)),fun x hx=>by have:=nF x hx;omega,?_⟩
  repeat (first | (with_reducible exact B0) | refine Below.setCell ?_ (by simp<;>omega) _)
 rw [Bs p0]
 have P0:=Lib.hid p0
 clear p0
 by_cases p1:Bo y id<0
 case pos =>
  have H:=Lib.hid (show Fu y id=10 by unfold Fu;rw [if_neg (fun h=>h P0.out),if_pos p1])
  have H2:=Lib.hid (show Fw y id=y by unfold Fw;rw [H.out,if_neg (by decide)])
  obtain ⟨RES_0,RES_1,RES_2,RES_3,RES_l⟩:=RES.g4
  have rf:=RES.free
  go_wp2
  have en1:w.heap.size+1∉F:=fun hx=>by have:=nF _ hx;omega
  refine bodyPost_ret (Jy (DBox.row4 RES rfl _ _ _ _)) rfl ⟨(⟨B1,m1,e1⟩,⟨B2,m2,e2⟩),F,by rw [H.out,H2.out],by rw [H2.out];exact (by (repeat (refine Dt.ow_set Ab ?_ en1 _));exact (show Ab.ow _ F y (⟨B1,m1,e1⟩,⟨B2,m2,e2⟩) from oy)),fun x hx=>by have:=nF x hx;omega,?_⟩
  repeat (first | (with_reducible exact B0) | refine Below.setCell ?_ (by simp<;>omega) _)
 rcases Cn y id with hr | ⟨k,hk,hr⟩
 ·exact absurd hr (by omega)
 have HK:=Lib.hid (Dr hk hr)
 have HR2:=Lib.hid hr
 rw [hr]
 clear hr p1
 have P1:=Lib.hid (show ¬ Bo y id<0 by have:=HR2.out;omega)
 have fY:(k:Int)<(n2:Int):=by have:=RdL.at1 (s:=⟨A2,n2,c2⟩) (CX.out _ B0);dsimp only at this;omega
 have dG:(0:Int)<=(k:Int):=by omega
 have hkn:¬ (k:Int)<0:=by omega
 have bF:=Lib.hid (Co P0.out hk)
 obtain ⟨gx,ox,sk,rfl,jZ,cA,c0,c1_,c2_,c3_,c4_,c5_,c6,c7_⟩:=(CX.out _ B0).run hk
 by_cases p2:y.runs[k].state=1
 case neg =>
  have q2:(y.runs[k].state != 1)=true:=by simp [p2]
  have H:=Lib.hid (show Fu y id=12 by unfold Fu;rw [if_neg (fun h=>h P0.out),if_neg P1.out,if_pos (by rw [HK.out];exact p2)])
  clear p2
  have H2:=Lib.hid (show Fw y id=y by unfold Fw;rw [H.out,if_neg (by decide)])
  obtain ⟨RES_0,RES_1,RES_2,RES_3,RES_l⟩:=RES.g4
  have rf:=RES.free
  go_wp2
  have en1:w.heap.size+1∉F:=fun hx=>by have:=nF _ hx;omega
  refine bodyPost_ret (Jy (DBox.row4 RES rfl _ _ _ _)) rfl ⟨(⟨B1,m1,e1⟩,⟨B2,m2,e2⟩),F,by rw [H.out,H2.out],by rw [H2.out];exact (by (repeat (refine Dt.ow_set Ab ?_ en1 _));exact (show Ab.ow _ F y (⟨B1,m1,e1⟩,⟨B2,m2,e2⟩) from oy)),fun x hx=>by have:=nF x hx;omega,?_⟩
  repeat (first | (with_reducible exact B0) | refine Below.setCell ?_ (by simp<;>omega) _)
 have q2:(y.runs[k].state != 1)=false:=by simp [p2]
 have H:=Lib.hid (show Fu y id=0 by unfold Fu;rw [if_neg (fun h=>h P0.out),if_neg P1.out,if_neg (by rw [HK.out];exact fun h=>h p2)])
 have H2:=Lib.hid (show Fw y id=⟨y.now,y.seq,y.shelf,y.runs.set k (Bz y.runs[k] 4)⟩ by unfold Fw;rw [if_pos H.out,HK.out,HR2.out,Int.toNat_natCast])
 have P2:=Lib.hid p2
 clear p2
 go_upto_region 9 with fail
 have oyr:=(Ab.ow_rd (F:=F) (x:=y) (s:=(⟨B1,m1,e1⟩,⟨B2,m2,e2⟩)) oy).2
 have eA:=Lib.hid (show m2=y.runs.length from RdL.at1 (s:=⟨B2,m2,e2⟩) oyr)
 have fU:(k:Int)<(m2:Int):=by have:=eA.out;omega
 obtain ⟨gr,orr,sk2,rfl,dD,_,d0,d1,d2,d3,d4,d5,d6,d7⟩:=RdL.run (show RdL Am w4 w4.heap.size (.slice B2 m2 e2) y.runs from oyr) hk
 have gI:∀ i,w4.frozen? ⟨gr,i,none⟩=false:=by
  obtain ⟨G1,G2,_,_,_,os⟩:=oy
  exact OwL.free0 (show OwL Am w4 G2 (.slice (some ⟨gr,orr,none⟩) m2 e2) y.runs from os) (by omega)
 clear q2
 generalize kZ:y.runs[k]=r at *
 have CSt:=Lib.hid (Vk r sk w4.drew (by have:=Im bF.out;omega) bF.out P2.out (Am.rd_below cA (Below.refl _ _).drew))
 have hobw5:ob<w4.heap.size:=OB.lt
 clear cA oyr kZ
 go_wp2
 have hXb5:=X.lt
 refine Bj (fun w'=>w'.cell? ⟨ob,3,none⟩=some (.slice (some ⟨gr,orr,none⟩) m2 e2)/\w'.cell? ⟨w.heap.size,3,none⟩=some (.slice (some ⟨gx,ox,none⟩) n2 c2)/\w'.cell? ⟨gx,ox+k * 8,none⟩=some (.int .i64 r.id)/\w'.cell? ⟨gx,ox+k * 8+1,none⟩=some (.int .i64 r.plan.prio)/\w'.cell? ⟨gx,ox+k * 8+2,none⟩=some (.int .i64 r.plan.most)/\w'.cell? ⟨gx,ox+k * 8+3,none⟩=some (.int .i64 r.plan.wait)/\w'.cell? ⟨gx,ox+k * 8+4,none⟩=some (.int .i64 r.plan.tasks)/\w'.cell? ⟨gx,ox+k * 8+5,none⟩=some (.slice sk.1.a sk.1.n sk.1.c)/\w'.cell? ⟨gx,ox+k * 8+6,none⟩=some (.int .i64 r.state)/\w'.cell? ⟨gx,ox+k * 8+7,none⟩=some (.slice sk.2.a sk.2.n sk.2.c)) 10 (by kernel_rfl) ?_ (fun hHeld=>?_)
 ·exact ⟨OB_3,X_3,c0,c1_,c2_,c3_,c4_,c5_,c6,c7_⟩
 refine aT 0 hHeld ?_
 try simp only [pS]
 refine aT 1 hHeld ?_
 try simp only [pS]
 refine aT 2 hHeld ?_
 try simp only [pS]
 refine aT 3 hHeld ?_
 try simp only [pS]
 refine aT 4 hHeld ?_
 try simp only [pS]
 refine aT 5 hHeld ?_
 try simp only [pS]
 refine aT 6 hHeld ?_
 try simp only [pS]
 refine aT 7 hHeld ?_
 try simp only [pS]
 refine oT 8 (fun K hK=>?_)
 (go_simp;refine CSt.out.mono ?_;rintro e9 w6 ⟨sr,Fr,rfl,orn,nr,b6⟩;have q0:w6.cell? ⟨gr,orr+k * 8,none⟩=some (.int .i64 r.id):=(b6.cell (p:=⟨_,_,none⟩) (by show gr<w4.heap.size;omega)).trans d0;have q1:w6.cell? ⟨gr,orr+k * 8+1,none⟩=some (.int .i64 r.plan.prio):=(b6.cell (p:=⟨_,_,none⟩) (by show gr<w4.heap.size;omega)).trans d1;have q2:w6.cell? ⟨gr,orr+k * 8+2,none⟩=some (.int .i64 r.plan.most):=(b6.cell (p:=⟨_,_,none⟩) (by show gr<w4.heap.size;omega)).trans d2;have q3:w6.cell? ⟨gr,orr+k * 8+3,none⟩=some (.int .i64 r.plan.wait):=(b6.cell (p:=⟨_,_,none⟩) (by show gr<w4.heap.size;omega)).trans d3;have q4:w6.cell? ⟨gr,orr+k * 8+4,none⟩=some (.int .i64 r.plan.tasks):=(b6.cell (p:=⟨_,_,none⟩) (by show gr<w4.heap.size;omega)).trans d4;have q5:w6.cell? ⟨gr,orr+k * 8+5,none⟩=some (.slice sk2.1.a sk2.1.n sk2.1.c):=(b6.cell (p:=⟨_,_,none⟩) (by show gr<w4.heap.size;omega)).trans d5;have q6:w6.cell? ⟨gr,orr+k * 8+6,none⟩=some (.int .i64 r.state):=(b6.cell (p:=⟨_,_,none⟩) (by show gr<w4.heap.size;omega)).trans d6;have q7:w6.cell? ⟨gr,orr+k * 8+7,none⟩=some (.slice sk2.2.a sk2.2.n sk2.2.c):=(b6.cell (p:=⟨_,_,none⟩) (by show gr<w4.heap.size;omega)).trans d7;have qf:∀ j,w6.frozen? ⟨gr,j,none⟩=false:=fun j=>(b6.frozen (p:=⟨_,_,none⟩) (by show gr<w4.heap.size;omega)).trans (gI j))
 refine hK.out _ _ (fun _=>?_) ?_
 ·exact ⟨(b6.cell (p:=⟨_,_,none⟩) (by show ob<w4.heap.size;omega)).trans OB_3,(b6.cell (p:=⟨_,_,none⟩) (by show w.heap.size<w4.heap.size;omega)).trans X_3,(b6.cell (p:=⟨_,_,none⟩) (by show gx<w4.heap.size;omega)).trans c0,(b6.cell (p:=⟨_,_,none⟩) (by show gx<w4.heap.size;omega)).trans c1_,(b6.cell (p:=⟨_,_,none⟩) (by show gx<w4.heap.size;omega)).trans c2_,(b6.cell (p:=⟨_,_,none⟩) (by show gx<w4.heap.size;omega)).trans c3_,(b6.cell (p:=⟨_,_,none⟩) (by show gx<w4.heap.size;omega)).trans c4_,(b6.cell (p:=⟨_,_,none⟩) (by show gx<w4.heap.size;omega)).trans c5_,(b6.cell (p:=⟨_,_,none⟩) (by show gx<w4.heap.size;omega)).trans c6,(b6.cell (p:=⟨_,_,none⟩) (by show gx<w4.heap.size;omega)).trans c7_⟩
 clear hK K
 try simp only [pS]
 refine oT 9 (fun K hK=>?_)
 go_simp
 refine hK.out _ _ (fun _=>?_) ?_
 ·exact ⟨(b6.cell (p:=⟨_,_,none⟩) (by show ob<w4.heap.size;omega)).trans OB_3,(b6.cell (p:=⟨_,_,none⟩) (by show w.heap.size<w4.heap.size;omega)).trans X_3,(b6.cell (p:=⟨_,_,none⟩) (by show gx<w4.heap.size;omega)).trans c0,(b6.cell (p:=⟨_,_,none⟩) (by show gx<w4.heap.size;omega)).trans c1_,(b6.cell (p:=⟨_,_,none⟩) (by show gx<w4.heap.size;omega)).trans c2_,(b6.cell (p:=⟨_,_,none⟩) (by show gx<w4.heap.size;omega)).trans c3_,(b6.cell (p:=⟨_,_,none⟩) (by show gx<w4.heap.size;omega)).trans c4_,(b6.cell (p:=⟨_,_,none⟩) (by show gx<w4.heap.size;omega)).trans c5_,(b6.cell (p:=⟨_,_,none⟩) (by show gx<w4.heap.size;omega)).trans c6,(b6.cell (p:=⟨_,_,none⟩) (by show gx<w4.heap.size;omega)).trans c7_⟩
 clear hK K
 try simp only [pS]
 refine oT 10 (fun K hK=>?_)
 go_simp
 refine hK.out _ _ (fun aC=>absurd rfl aC) ?_
 clear hK K
 try simp only [pS]
 refine Cg (by kernel_rfl) ?_ _
 have b6':Below w4.heap.size w4 w6:=Aa (Below.refl _ _).drew b6
 have pG:=b6'.size
 have kV:=B0.size
 have nE:∀ x∈Fr,w4.heap.size<=x:=nr
 have gD:∀ x∈F,x<w4.heap.size:=Ab.ow_lt (F:=F) (x:=y) (s:=(⟨B1,m1,e1⟩,⟨some ⟨gr,orr,none⟩,m2,e2⟩)) oy
 have oy6:Ab.ow w6 F y (⟨B1,m1,e1⟩,⟨some ⟨gr,orr,none⟩,m2,e2⟩):=Ab.ow_below (F:=F) (x:=y) (s:=(⟨B1,m1,e1⟩,⟨some ⟨gr,orr,none⟩,m2,e2⟩)) oy b6'
 obtain ⟨F8,oy8,jW,fA⟩:=Lq oy6 (k:=k) hk (r:=Bz r 4) (sr:=sr) orn (fun x hx aY=>by have h1:=nE x hx;have h2:=gD x aY;omega)
 have gT:Chg [gr] w6 ((((((((w6.setCell ⟨gr,orr+k * 8,none⟩ (.int .i64 (Bz r 4).id)).setCell ⟨gr,orr+k * 8+1,none⟩ (.int .i64 (Bz r 4).plan.prio)).setCell ⟨gr,orr+k * 8+2,none⟩ (.int .i64 (Bz r 4).plan.most)).setCell ⟨gr,orr+k * 8+3,none⟩ (.int .i64 (Bz r 4).plan.wait)).setCell ⟨gr,orr+k * 8+4,none⟩ (.int .i64 (Bz r 4).plan.tasks)).setCell ⟨gr,orr+k * 8+5,none⟩ (.slice sr.1.a sr.1.n sr.1.c)).setCell ⟨gr,orr+k * 8+6,none⟩ (.int .i64 (Bz r 4).state)).setCell ⟨gr,orr+k * 8+7,none⟩ (.slice sr.2.a sr.2.n sr.2.c)):=Gk (Am.enc.cells (Bz r 4,sr)) w6 gr (orr+k * 8)
 have eL:=Lib.hid (show ∀ x,x∈[gr]->x=gr from fun x hx=>by simpa using hx)
 have mK:=nF gr fA
 have hgrl:=cH gr fA
 clear OB_0 OB_1 OB_2 OB_3 OB_l
 clear X_0 X_1 X_2 X_3 X_l
 clear X c0 c1_ c2_ c3_ c4_ c5_ c6 c7_
 replace OB:=(OB.below b6').chg gT (fun hx=>by have:=eL.out _ hx;omega)
 replace RES:=(RES.below b6').chg gT (fun hx=>by have:=eL.out _ hx;omega)
 replace B0:=(Aa B0 b6').trans (gT.below (by have:=(Aa B0 b6').size;omega) (fun x hx=>by have:=eL.out _ hx;omega))
 have en1:w.heap.size+1∉F8:=fun hx=>by
  rcases jW _ hx with h | h
  ·have:=nF _ h;omega
  ·have:=nE _ h;omega
 have mG:∀ x∈F8,w.heap.size<=x:=fun x hx=>by
  rcases jW _ hx with h | h
  ·have:=nF _ h;omega
  ·have:=nE _ h;omega
 clear hHeld oy oy6 b6 b6' nr orn gT CSt d0 d1 d2 d3 d4 d5 d6 d7 gI q0 q1 q2 q3 q4 q5 q6 q7 qf
 generalize ((((((((w6.setCell ⟨gr,orr+k * 8,none⟩ (.int .i64 (Bz r 4).id)).setCell ⟨gr,orr+k * 8+1,none⟩ (.int .i64 (Bz r 4).plan.prio)).setCell ⟨gr,orr+k * 8+2,none⟩ (.int .i64 (Bz r 4).plan.most)).setCell ⟨gr,orr+k * 8+3,none⟩ (.int .i64 (Bz r 4).plan.wait)).setCell ⟨gr,orr+k * 8+4,none⟩ (.int .i64 (Bz r 4).plan.tasks)).setCell ⟨gr,orr+k * 8+5,none⟩ (.slice sr.1.a sr.1.n sr.1.c)).setCell ⟨gr,orr+k * 8+6,none⟩ (.int .i64 (Bz r 4).state)).setCell ⟨gr,orr+k * 8+7,none⟩ (.slice sr.2.a sr.2.n sr.2.c))=w8 at *
 obtain ⟨OB_0,OB_1,OB_2,OB_3,OB_l⟩:=OB.g4
 obtain ⟨RES_0,RES_1,RES_2,RES_3,RES_l⟩:=RES.g4
 have rf:=RES.free
 go_wp2
 refine bodyPost_ret (Jy (DBox.row4 RES rfl _ _ _ _)) rfl ⟨(⟨B1,m1,e1⟩,⟨some ⟨gr,orr,none⟩,m2,e2⟩),F8,by rw [H.out,H2.out],by rw [H2.out];exact (by (repeat (refine Dt.ow_set Ab ?_ en1 _));exact (show Ab.ow _ F8 ⟨y.now,y.seq,y.shelf,y.runs.set k (Bz r 4)⟩ (⟨B1,m1,e1⟩,⟨some ⟨gr,orr,none⟩,m2,e2⟩) from oy8)),mG,?_⟩
 repeat (first | (with_reducible exact B0) | refine Below.setCell ?_ (by simp<;>omega) _)
end Go.Proofs.YtonlnjdempbfoaaGreat
