/-
  Poll of the program. Written by program (ipo.py). Forget of the program: its closure, and what it leaves of a shelf. What Tick and Restart of the program ask of
-/
import Derived.Test.YtonlnjdempbfoaaGreatZOv6
import Derived.Test.YtonlnjdempbfoaaGreatZOv9
import Derived.Test.YtonlnjdempbfoaaGreatZOv10
import Derived.Test.YtonlnjdempbfoaaGreatZOv11
import Derived.Test.YtonlnjdempbfoaaGreatZOv12
import Derived.Test.YtonlnjdempbfoaaGreatZOv13
namespace Go.Proofs.YtonlnjdempbfoaaGreat
open Go.RowKit
set_option maxRecDepth 100000
set_option maxHeartbeats 4000000
set_option linter.unusedVariables false
set_option linter.unusedSimpArgs false
theorem Md {b c:Nat} {w:World} {u0 u1 u2 u3 v0 v1 v2 v3:Value} (X:DBox b [u0,u1,u2,u3] w) (Y:DBox c [v0,v1,v2,v3] w) {x0 x1 x2 x3 x4 x5:Value} {rest:List Value} :
  (results Tryz.f25 (x0 :: x1 :: x2 :: x3 :: x4 :: x5 :: .pointer (some ⟨b,0,none⟩) :: .pointer (some ⟨c,0,none⟩) :: rest).toArray).run Tryz.prog w = .ok (.tuple #[.agg #[u0,u1,u2,u3],.agg #[v0,v1,v2,v3]]) w:=by
 have c0:=X.cell 0 _ rfl
 have c1:=X.cell 1 _ rfl
 have c2:=X.cell 2 _ rfl
 have c3:=X.cell 3 _ rfl
 have d0:=Y.cell 0 _ rfl
 have d1:=Y.cell 1 _ rfl
 have d2:=Y.cell 2 _ rfl
 have d3:=Y.cell 3 _ rfl
 simp [results,Tryz.results25,go_sem,c0,c1,c2,c3,d0,d1,d2,d3]
theorem Vp (y:Yard) (s:Sl×Sl) (worker:Int) (d:Nat) (w:World) (hl:Ai y<=2000000) (hd:d<=1000000000) (h:Ab.rd w w.heap.size y s) :
  Calls Tryz.prog 25 #[By y s,.int .i64 worker,.int .i64 (d:Int)] w (Qi (Gs y worker d) w):=by
 have HR:=Lib.hid (show ∀ W,Below w.heap.size w W->Ab.rd W W.heap.size y s from fun W hW=>Ab.rd_more (Ab.rd_below h hW) hW.size)
 obtain ⟨⟨A1,n1,c1⟩,⟨A2,n2,c2⟩⟩:=s
 have CC:=Lib.hid (fun W hW=>Dl y (⟨A1,n1,c1⟩,⟨A2,n2,c2⟩) W hl (HR.out W hW))
 have CY:=Lib.hid (fun W hW=>D6 y (⟨A1,n1,c1⟩,⟨A2,n2,c2⟩) W hl (HR.out W hW))
 clear h
 obtain ⟨W,aG,X,RES,RP,B0⟩:=bx3 w 31 [.int .i64 y.now,.int .i64 y.seq,.slice A1 n1 c1,.slice A2 n2 c2] 31 [.int .i64 0,.int .i64 0,.slice none 0 0,.slice none 0 0] 69 [.int .i64 0,.int .i64 0,.int .i64 0,.int .i64 0]
 go_enter Tryz.func25,Tryz.ntmps25
 go_wp2_with fail
 rw [<-aG.out]
 clear aG
 have hPl:w.heap.size+1+1<W.heap.size:=RP.lt
 refine (CY.out _ B0).mono ?_
 rintro e1 w1 ⟨rfl,b1⟩
 replace X:=X.below b1
 replace RES:=RES.below b1
 replace RP:=RP.below b1
 obtain ⟨X_0,X_1,X_2,X_3,X_l⟩:=X.g4
 obtain ⟨RES_0,RES_1,RES_2,RES_3,RES_l⟩:=RES.g4
 obtain ⟨RP_0,RP_1,RP_2,RP_3,RP_l⟩:=RP.g4
 have aL:=Aa B0 b1
 have hBs:=B0.size
 have mB:=b1.size
 clear B0 b1 CY
 by_cases p0:Bq y
 case neg =>
  have H:=Lib.hid (show Gs y worker d=(y,⟨8,0,0,0⟩) from if_pos p0)
  rw [Al p0]
  clear p0
  clear RES_0 RES_1 RES_2 RES_3 RES_l
  clear RP_0 RP_1 RP_2 RP_3 RP_l
  go_wp2_with fail
  refine (CC.out _ aL).mono ?_
  rintro e1 w2 ⟨⟨⟨B1,m1,e1⟩,⟨B2,m2,e2⟩⟩,F,rfl,oy,nF,b2⟩
  replace RES:=RES.below b2
  replace RP:=RP.below b2
  obtain ⟨RES_0,RES_1,RES_2,RES_3,RES_l⟩:=RES.g4
  obtain ⟨RP_0,RP_1,RP_2,RP_3,RP_l⟩:=RP.g4
  have rf:=RES.free
  have pf:=RP.free
  have aF:=Aa aL b2
  go_wp2
  have en1:w.heap.size+1∉F:=fun hx=>by have:=nF _ hx;omega
  have en2:w.heap.size+1+1∉F:=fun hx=>by have:=nF _ hx;omega
  have aC:w.heap.size+1+1≠w.heap.size+1:=by omega
  have RES2:=DBox.row4 RES rfl (.int .i64 y.now) (.int .i64 y.seq) (.slice B1 m1 e1) (.slice B2 m2 e2)
  have RP2:=DBox.row4 ((((RP.setOther (a:=⟨w.heap.size+1,0,none⟩) aC (.int .i64 y.now)).setOther (a:=⟨w.heap.size+1,1,none⟩) aC (.int .i64 y.seq)).setOther (a:=⟨w.heap.size+1,2,none⟩) aC (.slice B1 m1 e1)).setOther (a:=⟨w.heap.size+1,3,none⟩) aC (.slice B2 m2 e2)) rfl (.int .i64 8) (.int .i64 0) (.int .i64 0) (.int .i64 0)
  have RES3:=(((RES2.setOther (a:=⟨w.heap.size+1+1,0,none⟩) aC.symm (.int .i64 8)).setOther (a:=⟨w.heap.size+1+1,1,none⟩) aC.symm (.int .i64 0)).setOther (a:=⟨w.heap.size+1+1,2,none⟩) aC.symm (.int .i64 0)).setOther (a:=⟨w.heap.size+1+1,3,none⟩) aC.symm (.int .i64 0)
  refine bodyPost_ret (Md RES3 RP2) rfl ⟨(⟨B1,m1,e1⟩,⟨B2,m2,e2⟩),F,by rw [H.out],by rw [H.out];exact (by (repeat (refine Dt.ow_set Ab ?_ (by first | exact en1 | exact en2) _));exact (show Ab.ow _ F y (⟨B1,m1,e1⟩,⟨B2,m2,e2⟩) from oy)),fun x hx=>by have:=nF x hx;omega,?_⟩
  repeat (first | (with_reducible exact aF) | refine Below.setCell ?_ (by simp<;>omega) _)
 rw [Bs p0]
 cases p1:inB worker 0 99
 case false =>
  have H:=Lib.hid (show Gs y worker d=(y,⟨5,0,0,0⟩) by unfold Gs;rw [if_neg (fun h=>h p0),if_pos p1])
  clear p0
  clear RES_0 RES_1 RES_2 RES_3 RES_l
  clear RP_0 RP_1 RP_2 RP_3 RP_l
  go_wp2_with (go_at_call 58;refine (Ap _ _ _ _).mono ?_;rintro e w9 ⟨rfl,rfl⟩;rw [p1])
  refine (CC.out _ aL).mono ?_
  rintro e1 w2 ⟨⟨⟨B1,m1,e1⟩,⟨B2,m2,e2⟩⟩,F,rfl,oy,nF,b2⟩
  replace RES:=RES.below b2
  replace RP:=RP.below b2
  obtain ⟨RES_0,RES_1,RES_2,RES_3,RES_l⟩:=RES.g4
  obtain ⟨RP_0,RP_1,RP_2,RP_3,RP_l⟩:=RP.g4
  have rf:=RES.free
  have pf:=RP.free
  have aF:=Aa aL b2
  go_wp2
  have en1:w.heap.size+1∉F:=fun hx=>by have:=nF _ hx;omega
  have en2:w.heap.size+1+1∉F:=fun hx=>by have:=nF _ hx;omega
  have aC:w.heap.size+1+1≠w.heap.size+1:=by omega
  have RES2:=DBox.row4 RES rfl (.int .i64 y.now) (.int .i64 y.seq) (.slice B1 m1 e1) (.slice B2 m2 e2)
  have RP2:=DBox.row4 ((((RP.setOther (a:=⟨w.heap.size+1,0,none⟩) aC (.int .i64 y.now)).setOther (a:=⟨w.heap.size+1,1,none⟩) aC (.int .i64 y.seq)).setOther (a:=⟨w.heap.size+1,2,none⟩) aC (.slice B1 m1 e1)).setOther (a:=⟨w.heap.size+1,3,none⟩) aC (.slice B2 m2 e2)) rfl (.int .i64 5) (.int .i64 0) (.int .i64 0) (.int .i64 0)
  have RES3:=(((RES2.setOther (a:=⟨w.heap.size+1+1,0,none⟩) aC.symm (.int .i64 5)).setOther (a:=⟨w.heap.size+1+1,1,none⟩) aC.symm (.int .i64 0)).setOther (a:=⟨w.heap.size+1+1,2,none⟩) aC.symm (.int .i64 0)).setOther (a:=⟨w.heap.size+1+1,3,none⟩) aC.symm (.int .i64 0)
  refine bodyPost_ret (Md RES3 RP2) rfl ⟨(⟨B1,m1,e1⟩,⟨B2,m2,e2⟩),F,by rw [H.out],by rw [H.out];exact (by (repeat (refine Dt.ow_set Ab ?_ (by first | exact en1 | exact en2) _));exact (show Ab.ow _ F y (⟨B1,m1,e1⟩,⟨B2,m2,e2⟩) from oy)),fun x hx=>by have:=nF x hx;omega,?_⟩
  repeat (first | (with_reducible exact aF) | refine Below.setCell ?_ (by simp<;>omega) _)
 have pp:=Bf.1 p1
 have HP:=Lib.hid p0
 obtain ⟨wk,rfl⟩:=Int.eq_ofNat_of_zero_le pp.1
 have hm:((wk:Int).tmod 4)=((wk % 4:Nat):Int):=by rw [Int.tmod_eq_emod_of_nonneg (by omega)];omega
 have hmw:IntKind.i64.wrap ((wk % 4:Nat):Int)=((wk % 4:Nat):Int):=IntWalk.i64_in _ (by omega)
 have pH:(wk:Int) % 4=((wk % 4:Nat):Int):=by omega
 have hh:=Nat.mod_lt wk (show 0<4 by decide)
 have H:=Lib.hid (show Gs y wk d=K9 (Jp y ((wk % 4:Nat):Int) d) (wk % 4) by unfold Gs;rw [if_neg (fun h=>h p0),if_neg (by rw [p1];simp),pH,Int.toNat_natCast])
 have aU:=Pol.start p0 hh
 have h4:=p0.2.2.1
 clear p0 pp pH
 generalize wk % 4=home at *
 have CS:=Lib.hid (fun W hW=>Mx y (⟨A1,n1,c1⟩,⟨A2,n2,c2⟩) home W (by omega) hl (HR.out W hW))
 have CV:=Lib.hid (fun W=>Qb home d W hh hd)
 have HG:Hid (Jp y (home:Int) d=(Cp home d).foldl (Cr home) (Ae y home)):=by
  show Jp y (home:Int) d=_
  unfold Jp
  rw [Int.toNat_natCast]
 clear RES_0 RES_1 RES_2 RES_3 RES_l
 clear RP_0 RP_1 RP_2 RP_3 RP_l
 go_wp2_with (go_at_call 58;refine (Ap _ _ _ _).mono ?_;rintro e w9 ⟨rfl,rfl⟩;rw [p1])
 refine (CS.out _ aL).mono ?_
 rintro e1 w2 ⟨s2,F,rfl,oy,nF,b2⟩
 clear X_0 X_1 X_2 X_3 X_l
 clear X CC HR CS
 replace RES:=RES.below b2
 replace RP:=RP.below b2
 have aF:=Aa aL b2
 have hb2s:=b2.size
 clear aL b2 hm hmw
 have cH:=Ab.ow_lt oy
 have kT:Hid (Ae y home=Ae y home):=rfl
 go_upto_region 7 with fail
 have OB:=DBox.new 31 (Dk (Ae y home) s2) w2 (b:=w2.heap.size) rfl
 have b3:Below w2.heap.size w2 (w2.alloc (.cells (Dk (Ae y home) s2).toArray 31)):=(Below.refl _ _).alloc (Nat.le_refl _) _
 replace RES:=RES.below b3
 replace RP:=RP.below b3
 replace oy:=Ab.ow_below oy b3
 have bZ:=Aa aF b3
 have hb3s:=b3.size
 have jI:=OB.lt
 have hPl2:w.heap.size+1+1<w2.heap.size:=by omega
 generalize w2.alloc (.cells (Dk (Ae y home) s2).toArray 31)=w3 at *
 go_wp2_with fail
 refine (CV.out _).mono ?_
 rintro e1 w4 ⟨v,rfl,ov,b4⟩
 replace RES:=RES.below b4
 replace RP:=RP.below b4
 replace OB:=OB.below b4
 replace oy:=Ab.ow_below oy b4
 have bQ:=Aa bZ b4
 obtain ⟨fE,rT⟩:=Hw.of_ow ov
 obtain ⟨A9,c9,rfl,-⟩:=id (Rd.of_own ov)
 have rF:=Pc home d
 have nU:=Lib.hid (Na (home:=(home:Int)) (draw:=d))
 have nA:=Lib.hid (show ∀ v∈Cp home d,v≠home from fun v hv=>by have:=Nb (home:=(home:Int)) (draw:=d) (by omega) (by omega) v hv;omega)
 have cJ:w2.heap.size<w3.heap.size:=jI
 have aC:∀ x∈Cm (.slice A9 (Cp home d).length c9) (Cp home d).length,x∉F/\w2.heap.size<x:=fun x hx=>⟨fun hF=>by have h1:=rT x hx;have h2:=cH x hF;omega,by have:=rT x hx;omega⟩
 have fN:(∀ x∈F,w.heap.size+1+1<x)/\w2.heap.size∉F:=⟨fun x hx=>by have:=nF x hx;omega,fun hx=>by have:=cH _ hx;omega⟩
 generalize Cm (.slice A9 (Cp home d).length c9) (Cp home d).length=Fv at *
 generalize Cp home d=L at *
 rw [rF] at fE
 rw [rF]
 generalize Ae y home=Z0 at *
 have hw2:w.heap.size+1+1<w2.heap.size:=hPl2
 generalize w2.heap.size=ob at *
 clear cH nF rT
 go_wp2
 go_loopw [11,12,13,42] (fun u0 u1 u2 i wr=>∃ (k:Nat) (s:Sl×Sl) (F:List Nat),k<=3/\i = .int .i64 k/\Hid (Pol y home ((L.take k).foldl (Cr home) Z0))/\Hid (Ab.ow wr F ((L.take k).foldl (Cr home) Z0) s)/\Hid ((∀ x∈F,w.heap.size+1+1<x)/\ob∉F /\ ∀ x∈Fv,x∉F)/\Hid (Hw Cs wr Fv (.slice A9 3 c9) L)/\DBox ob (Dk ((L.take k).foldl (Cr home) Z0) s) wr/\DBox (w.heap.size+1) [.int .i64 0,.int .i64 0,.slice none 0 0,.slice none 0 0] wr/\DBox (w.heap.size+1+1) [.int .i64 0,.int .i64 0,.int .i64 0,.int .i64 0] wr/\Below w.heap.size w wr) (fun _ _ _ i _=>3 - (intOf i).toNat)
 case atStart=>exact ⟨0,s2,F,Nat.zero_le _,rfl,aU,oy,⟨fN.1,fN.2,fun x hx=>(aC x hx).1⟩,fE,OB,RES,RP,bQ⟩
 case round =>
  have rG:∀ x∈Fv,ob<x:=fun x hx=>(aC x hx).2
  clear aU oy fN fE OB RES RP bQ aC ov b4
  obtain ⟨k,s,F,hk,rfl,aU,oy,hF,fE,OB,RES,RP,hb⟩:=hrel
  have aE:Hid (∀ h:k<L.length,(L.take (k+1)).foldl (Cr home) Z0=Cr home ((L.take k).foldl (Cr home) Z0) L[k]):=fun h=>Il (Cr home) Z0 L k h
  have dE:Hid ((k=3 \/ ¬ (((L.take k).foldl (Cr home) Z0).shelf.getD home []).length=0)->L.foldl (Cr home) Z0=(L.take k).foldl (Cr home) Z0):=by
   intro h
   rcases h with h | h
   ·rw [List.take_of_length_le (by omega)]
   ·have e:L.foldl (Cr home) Z0=(L.drop k).foldl (Cr home) ((L.take k).foldl (Cr home) Z0):=by
     rw [<-List.foldl_append,List.take_append_drop]
    rw [e]
    exact J6 _ _ h
  generalize (L.take k).foldl (Cr home) Z0=Zk at *
  obtain ⟨⟨B1,m1,e1⟩,⟨B2,m2,e2⟩⟩:=s
  have rE:=aU.out.four
  have oyr:=Ab.ow_rd oy.out
  have kH:home<Zk.shelf.length:=by omega
  obtain rfl:m1=4:=(RdL.at1 (s:=⟨B1,m1,e1⟩) oyr.1).trans rE
  obtain ⟨g,o,⟨xa,xn,xc⟩,rfl,fL,eN,ch⟩:=RdL.entryS (show RdL (Dt.list Af) wr wr.heap.size (.slice B1 4 e1) Zk.shelf from oyr.1) kH
  obtain rfl:xn=Zk.shelf[home].length:=RdL.at1 (s:=⟨xa,xn,xc⟩) eN
  have hhI:(home:Int)<4:=by omega
  have hh0:(0:Int)<=(home:Int):=by omega
  have pX:=aU.out.all _ (List.getElem_mem kH)
  obtain ⟨OB_0,OB_1,OB_2,OB_3,OB_l⟩:=OB.g4
  have cV:=Lib.hid (Ed kH)
  have hwrs:=hb.size
  have hRPl:=RP.lt
  have hobl:=OB.lt
  rcases (show (k<3/\Zk.shelf[home].length=0)\/(k<3 /\ ¬ Zk.shelf[home].length=0) \/ ¬ k<3 by by_cases k<3<;>by_cases Zk.shelf[home].length=0<;>simp [*]) with ⟨aA,hq⟩ | ⟨aA,hq⟩ | aA
  ·have aB:(k:Int)<3:=by omega
   ·have qD:((Zk.shelf[home].length:Int) == 0)=true:=by simp [hq]
    have nP:k<L.length:=by omega
    have hv4:L[k]<4:=nU.out _ (List.getElem_mem nP)
    have gQ:L[k]≠home:=nA.out _ (List.getElem_mem nP)
    obtain ⟨gv,ov,rfl,hgv,cv⟩:=fE.out.rd.nat nP
    replace aE:=Lib.hid (aE.out nP)
    have aY:=fE.out.block (by omega)
    generalize L[k]=v at *
    have hP1:Hid (Pol y home (Io home Zk v)):=by
     have h1:=aU.out.step hh hv4 gQ
     rw [Kk (by rw [cV.out];exact hq) gQ] at h1
     exact h1
    replace aE:=Lib.hid (aE.out.trans (Kk (by rw [cV.out];exact hq) gQ))
    have hE0:=Lib.hid (show (Ae Zk v).shelf.getD home []=[] by rw [Oi gQ,cV.out];exact List.eq_nil_of_length_eq_zero hq)
    have rS:=fE.out.lt
    have hvI:(v:Int)<4:=by omega
    have hv0:(0:Int)<=(v:Int):=by omega
    have dG:(0:Int)<=(k:Int):=by omega
    have hzc:=aU.out.cnt HP.out
    have CS:=Lib.hid (Mx Zk (⟨some ⟨g,o,none⟩,4,e1⟩,⟨B2,m2,e2⟩) v wr (by omega) hzc oyr)
    go_wp2_with fail
    clear hq
    refine CS.out.mono ?_
    rintro e w2 ⟨⟨⟨C1,p1,f1⟩,⟨C2,p2,f2⟩⟩,F2,rfl,oy2,n2,b2⟩
    have OB2:=OB.below b2
    have k0:=OB2.cell 0 _ rfl;have k1:=OB2.cell 1 _ rfl;have k2:=OB2.cell 2 _ rfl;have k3:=OB2.cell 3 _ rfl;have kf:=OB2.free;have kl:=OB2.lt
    go_upto_region 12 with fail
    have b2':Below wr.heap.size wr w2:=b2
    clear k0 k1 k2 k3 kf kl
    have OB3:=DBox.row4 OB2 rfl (.int .i64 (Ae Zk v).now) (.int .i64 (Ae Zk v).seq) (.slice C1 p1 f1) (.slice C2 p2 f2)
    have dL:=Chg.cells4 w2 ob 0 1 2 3 (.int .i64 (Ae Zk v).now) (.int .i64 (Ae Zk v).seq) (.slice C1 p1 f1) (.slice C2 p2 f2)
    have eC:=Lib.hid (show ∀ x,x∈[ob]->x=ob from fun x hx=>by simpa using hx)
    have RES3:=(RES.below b2').chg dL (fun hx=>by have:=eC.out _ hx;omega)
    have RP3:=(RP.below b2').chg dL (fun hx=>by have:=eC.out _ hx;omega)
    have dK:=(fE.out.below b2').chg dL (fun x hx hx2=>by have h1:=eC.out _ hx2;have h2:=rG x hx;omega)
    have eD:ob∉F2:=fun hx=>by have h1:=n2 _ hx;have h3:=OB_l;omega
    have oy3:=Ab.ow_chg (F:=F2) (x:=Ae Zk v) (s:=(⟨C1,p1,f1⟩,⟨C2,p2,f2⟩)) oy2 dL (fun x hx hx2=>by have:=eC.out _ hx2;subst this;exact eD hx)
    have bZ:Below w.heap.size w _:=(Aa hb b2').trans (dL.below (by have:=b2'.size;omega) (fun x hx=>by have:=eC.out _ hx;omega))
    have fM:∀ x∈F2,wr.heap.size<=x:=n2
    have eG:=b2'.size
    have jP:=dL.size
    replace cv:=(dL.cell (p:=⟨gv,_,none⟩) (by show gv<w2.heap.size;omega) (fun hx=>by have h1:gv=ob:=eC.out _ hx;have h2:=rG gv (by rw [aY.1];simp);omega)).trans ((b2'.cell (p:=⟨gv,_,none⟩) (by show gv<wr.heap.size;omega)).trans cv)
    have mT:∀ x∈F2,w.heap.size+1+1<x:=fun x hx=>by have h1:=fM x hx;have h2:=RP.lt;omega
    clear OB_0 OB_1 OB_2 OB_3 OB_l
    clear OB RES RP fE oy oy2 n2 b2 b2' hb OB2 oyr eN ch hF CS
    generalize (((w2.setCell ⟨ob,0,none⟩ (.int .i64 (Ae Zk v).now)).setCell ⟨ob,1,none⟩ (.int .i64 (Ae Zk v).seq)).setCell ⟨ob,2,none⟩ (.slice C1 p1 f1)).setCell ⟨ob,3,none⟩ (.slice C2 p2 f2)=w3 at *
    have OB:=OB3
    clear OB3
    obtain ⟨OB_0,OB_1,OB_2,OB_3,OB_l⟩:=OB.g4
    have h41:(Ae Zk v).shelf.length=4:=by rw [Kj];exact rE
    have oyr3:=Ab.ow_rd (F:=F2) (x:=Ae Zk v) oy3
    obtain rfl:p1=4:=(RdL.at1 (s:=⟨C1,p1,f1⟩) oyr3.1).trans h41
    have gE:v<(Ae Zk v).shelf.length:=by omega
    obtain ⟨g2,o2,⟨va,vn,vc⟩,rfl,jU,tK,cv2⟩:=RdL.entryS (show RdL (Dt.list Af) w3 w3.heap.size (.slice C1 4 f1) (Ae Zk v).shelf from oyr3.1) gE
    have jH:=Mb (i:=v) aU.out.all
    have gL:=jH _ (List.getElem_mem gE)
    have CH:=Lib.hid (U6 (Ae Zk v).shelf[v] ⟨va,vn,vc⟩ w3 (by omega) tK)
    have hgvw:gv<w3.heap.size:=by omega
    go_wp2_with fail
    refine CH.out.mono ?_
    rintro e w4 ⟨⟨qa1,qn1,qc1⟩,Fh1,⟨qa2,qn2,qc2⟩,Fh2,rfl,oh1,oh2,nh1,nh2,dh,b4⟩
    go_upto_region 13 with fail
    have b4':Below w3.heap.size w3 w4:=b4
    have kV:=b4'.size
    have hnh1:∀ x∈Fh1,w3.heap.size<=x:=nh1
    have kS:∀ x∈Fh2,w3.heap.size<=x:=nh2
    replace oy3:Ab.ow w3 F2 (Ae Zk v) (⟨some ⟨g2,o2,none⟩,4,f1⟩,⟨C2,p2,f2⟩):=oy3
    have hfl2:=Ab.ow_lt (F:=F2) (x:=Ae Zk v) (s:=(⟨some ⟨g2,o2,none⟩,4,f1⟩,⟨C2,p2,f2⟩)) oy3
    clear OB_0 OB_1 OB_2 OB_3 OB_l
    replace OB:=OB.below b4'
    replace RES3:=RES3.below b4'
    replace RP3:=RP3.below b4'
    replace dK:=dK.below b4'
    replace oy3:Ab.ow w4 F2 (Ae Zk v) (⟨some ⟨g2,o2,none⟩,4,f1⟩,⟨C2,p2,f2⟩):=Ab.ow_below (F:=F2) (x:=Ae Zk v) (s:=(⟨some ⟨g2,o2,none⟩,4,f1⟩,⟨C2,p2,f2⟩)) oy3 b4'
    replace bZ:=Aa bZ b4'
    replace cv:=(b4'.cell (p:=⟨gv,_,none⟩) (by show gv<w3.heap.size;omega)).trans cv
    replace cv2:=(b4'.cell (p:=⟨g2,_,none⟩) (by show g2<w3.heap.size;omega)).trans cv2
    clear nh1 nh2 b4 b4' CH oyr3 tK
    obtain ⟨OB_0,OB_1,OB_2,OB_3,OB_l⟩:=OB.g4
    have jB:∀ j,w4.frozen? ⟨g2,j,none⟩=false:=by
     obtain ⟨G1,G2,_,_,os,_⟩:=oy3
     exact OwL.free0 (show OwL (Dt.list Af) w4 G1 (.slice (some ⟨g2,o2,none⟩) 4 f1) (Ae Zk v).shelf from os) (by omega)
    have kK:g2<w4.heap.size:=by omega
    have tW:(Ae Zk v).shelf[home]'(by omega)=[]:=by
     have h1:=hE0.out
     rw [Ed (by omega)] at h1
     exact h1
    have tD:=Lib.hid (show Io home Zk v=⟨(Ae Zk v).now,(Ae Zk v).seq,((Ae Zk v).shelf.set home (Eb [] ((Ae Zk v).shelf[v].take (Bh (Ae Zk v).shelf[v])))).set v ((Ae Zk v).shelf[v].drop (Bh (Ae Zk v).shelf[v])),(Ae Zk v).runs⟩ by
     unfold Io
     rw [Ed gE,List.set_comm _ _ gQ]
     rfl)
    obtain ⟨_,_,⟨xa2,xn2,xc2⟩,cQ,_,gW,cx⟩:=RdL.entryS (show RdL (Dt.list Af) w4 w4.heap.size (.slice (some ⟨g2,o2,none⟩) 4 f1) (Ae Zk v).shelf from (Ab.ow_rd (F:=F2) (x:=Ae Zk v) oy3).1) (k:=home) (by omega)
    simp only [Option.some.injEq,Addr.mk.injEq,and_true] at cQ
    obtain ⟨rfl,rfl⟩:=cQ
    replace gW:RdL Af w4 w4.heap.size (.slice xa2 xn2 xc2) ((Ae Zk v).shelf[home]'(by omega)):=gW
    rw [tW] at gW
    obtain rfl:xn2=0:=RdL.at1 (s:=⟨xa2,xn2,xc2⟩) gW
    have eI:((Ae Zk v).shelf[v].take (Bh (Ae Zk v).shelf[v])).length<=80:=J5 _ gL
    have CM:=Lib.hid (Rx [] ((Ae Zk v).shelf[v].take (Bh (Ae Zk v).shelf[v])) ⟨xa2,0,xc2⟩ ⟨qa1,qn1,qc1⟩ w4.drew (by simp) (by omega) (RdL.below gW (Below.refl _ _).drew) (RdL.below oh1.rd (Below.refl _ _).drew))
    have hobw4:ob<w4.heap.size:=OB_l
    have hobF2':=eD
    clear tW gW gL
    generalize (Ae Zk v).shelf[v].take (Bh (Ae Zk v).shelf[v])=lt_ at *
    generalize hlr:(Ae Zk v).shelf[v].drop (Bh (Ae Zk v).shelf[v])=lr_ at *
    replace hlr:=Lib.hid hlr
    refine Bj (fun w'=>w'.cell? ⟨ob,2,none⟩=some (.slice (some ⟨g2,o2,none⟩) 4 f1)/\w'.cell? ⟨g2,o2+home,none⟩=some (.slice xa2 0 xc2)) 11 (by kernel_rfl) ?_ (fun hHeld=>?_)
    ·exact ⟨OB_2,cx⟩
    refine aT 0 hHeld ?_
    try simp only [pS]
    refine aT 1 hHeld ?_
    try simp only [pS]
    refine aT 2 hHeld ?_
    try simp only [pS]
    refine aT 3 hHeld ?_
    try simp only [pS]
    refine aT 4 hHeld ?_
    try simp only [pS]
    refine aT 5 hHeld ?_
    try simp only [pS]
    refine aT 6 hHeld ?_
    try simp only [pS]
    refine aT 7 hHeld ?_
    try simp only [pS]
    refine aT 8 hHeld ?_
    try simp only [pS]
    refine oT 9 (fun K hK=>?_)
    (go_simp;refine CM.out.mono ?_;rintro e w6 ⟨⟨ma,mn,mc⟩,Fm,rfl,om,nm,b6⟩;have hgc:w6.cell? ⟨g2,o2+home,none⟩=some (.slice xa2 0 xc2):=(b6.cell (p:=⟨_,_,none⟩) (by show g2<w4.heap.size;omega)).trans cx;have pE:∀ j,w6.frozen? ⟨g2,j,none⟩=false:=fun j=>(b6.frozen (p:=⟨_,_,none⟩) (by show g2<w4.heap.size;omega)).trans (jB j))
    have HSx:w6.cell? ⟨ob,2,none⟩=some (.slice (some ⟨g2,o2,none⟩) 4 f1)/\w6.cell? ⟨g2,o2+home,none⟩=some (.slice xa2 0 xc2):=⟨(b6.cell (p:=⟨_,_,none⟩) (by show ob<w4.heap.size;omega)).trans OB_2,hgc⟩
    refine hK.out _ _ (fun _=>HSx) ?_
    clear hK K
    try simp only [pS]
    refine oT 10 (fun K hK=>?_)
    go_simp
    refine hK.out _ _ (fun _=>HSx) ?_
    clear hK K
    try simp only [pS]
    refine oT 11 (fun K hK=>?_)
    go_simp
    refine hK.out _ _ (fun aC=>absurd rfl aC) ?_
    clear hK K HSx
    try simp only [pS]
    refine Cg (by kernel_rfl) ?_ _
    have b6':Below w4.heap.size w4 w6:=Aa (Below.refl _ _).drew b6
    have pG:=b6'.size
    have sF:∀ x∈Fm,w4.heap.size<=x:=nm
    have gD:=Ab.ow_lt (F:=F2) (x:=Ae Zk v) (s:=(⟨some ⟨g2,o2,none⟩,4,f1⟩,⟨C2,p2,f2⟩)) oy3
    have oy6:=Ab.ow_below (F:=F2) (x:=Ae Zk v) (s:=(⟨some ⟨g2,o2,none⟩,4,f1⟩,⟨C2,p2,f2⟩)) oy3 b6'
    have oh2':=oh2.below b6'
    obtain ⟨F5,oy5,hF5,gZ⟩:=Dz oy6 (i:=home) (by omega) (l:=Eb [] lt_) (t:=⟨ma,mn,mc⟩) om (fun x hx aY=>by have h1:=sF x hx;have h2:=gD x aY;omega)
    have dC:Chg [g2] w6 (w6.setCell ⟨g2,o2+home,none⟩ (.slice ma mn mc)):=Chg.setCell w6 g2 _ _
    have bL:=Lib.hid (show ∀ x,x∈[g2]->x=g2 from fun x hx=>by simpa using hx)
    have hg2gt:=mT _ gZ
    have hg2n:=fM _ gZ
    have dR:ob≠g2:=fun h=>eD (by rw [h];exact gZ)
    clear OB_0 OB_1 OB_2 OB_3 OB_l
    replace OB:=(OB.below b6').chg dC (fun hx=>dR (bL.out _ hx))
    replace RES3:=(RES3.below b6').chg dC (fun hx=>by have:=bL.out _ hx;omega)
    replace RP3:=(RP3.below b6').chg dC (fun hx=>by have:=bL.out _ hx;omega)
    replace dK:=(dK.below b6').chg dC (fun x hx hx2=>by have h1:=bL.out _ hx2;have h2:=rS x hx;omega)
    have oh3:=oh2'.chg dC (fun x hx hx2=>by have h1:=bL.out _ hx2;have h2:=kS x hx;omega)
    replace bZ:=(Aa bZ b6').trans (dC.below (by have:=(Aa bZ b6').size;omega) (fun x hx=>by have:=bL.out _ hx;omega))
    have hfg5:∀ j,(w6.setCell ⟨g2,o2+home,none⟩ (.slice ma mn mc)).frozen? ⟨g2,j,none⟩=false:=fun j=>(Hs w6 _ _ _).trans (pE j)
    have pC:=dC.size
    have hFm5:∀ x∈Fh2,x<w4.heap.size:=fun x hx=>oh2.lt x hx
    clear dC hHeld oy3 oy6 oh1 oh2 oh2' jB cv cv2 b6 b6' nm om CM cx hgc pE
    generalize w6.setCell ⟨g2,o2+home,none⟩ (.slice ma mn mc)=w5 at *
    replace oy5:Ab.ow w5 F5 ⟨(Ae Zk v).now,(Ae Zk v).seq,(Ae Zk v).shelf.set home (Eb [] lt_),(Ae Zk v).runs⟩ (⟨some ⟨g2,o2,none⟩,4,f1⟩,⟨C2,p2,f2⟩):=oy5
    obtain ⟨_,_,⟨xa3,xn3,xc3⟩,cQ,_,_,cx3⟩:=RdL.entryS (show RdL (Dt.list Af) w5 w5.heap.size (.slice (some ⟨g2,o2,none⟩) 4 f1) ((Ae Zk v).shelf.set home (Eb [] lt_)) from (Ab.ow_rd (F:=F5) (x:=⟨(Ae Zk v).now,(Ae Zk v).seq,(Ae Zk v).shelf.set home (Eb [] lt_),(Ae Zk v).runs⟩) oy5).1) (k:=v) (by rw [List.length_set];omega)
    simp only [Option.some.injEq,Addr.mk.injEq,and_true] at cQ
    obtain ⟨rfl,rfl⟩:=cQ
    obtain ⟨F7,oy7,jL,-⟩:=Dz oy5 (i:=v) (by show v<(List.set _ _ _).length;rw [List.length_set];omega) (l:=lr_) (t:=⟨qa2,qn2,qc2⟩) oh3 (fun x hx aY=>by
     rcases hF5 x aY with h | h
     ·have h1:=kS x hx;have h2:=hfl2 x h;omega
     ·have h1:=hFm5 x hx;have h2:=sF x h;omega)
    have fV:Chg [g2] w5 (w5.setCell ⟨g2,o2+v,none⟩ (.slice qa2 qn2 qc2)):=Chg.setCell w5 g2 _ _
    have hg2w5:g2<w5.heap.size:=by omega
    obtain ⟨OB_0,OB_1,OB_2,OB_3,OB_l⟩:=OB.g4
    go_upto_region 15 with fail
    clear OB_0 OB_1 OB_2 OB_3 OB_l
    replace OB:=OB.chg fV (fun hx=>dR (bL.out _ hx))
    replace RES3:=RES3.chg fV (fun hx=>by have:=bL.out _ hx;omega)
    replace RP3:=RP3.chg fV (fun hx=>by have:=bL.out _ hx;omega)
    replace dK:=dK.chg fV (fun x hx hx2=>by have h1:=bL.out _ hx2;have h2:=rS x hx;omega)
    replace bZ:=bZ.trans (fV.below (by have:=bZ.size;omega) (fun x hx=>by have:=bL.out _ hx;omega))
    have jA:∀ x∈F7,x∈F2\/w3.heap.size<=x:=fun x hx=>by
     rcases jL x hx with h | h
     ·rcases hF5 x h with h' | h'
      ·exact .inl h'
      ·right;have:=sF x h';omega
     ·exact .inr (kS x h)
    clear oy5 fV cx3 hfg5
    generalize w5.setCell ⟨g2,o2+v,none⟩ (.slice qa2 qn2 qc2)=w7 at *
    go_wp2
    exact ⟨⟨k+1,(⟨some ⟨g2,o2,none⟩,4,f1⟩,⟨C2,p2,f2⟩),F7,by omega,by go_num,by rw [aE.out];exact hP1,by rw [aE.out,tD.out];exact oy7,⟨fun x hx=>by (rcases jA x hx with h | h);exact mT x h;omega,fun hx=>by (rcases jA _ hx with h | h);exact eD h;omega,fun x hx aY=>by have h1:=rS x hx;(rcases jA x aY with h | h);have:=fM x h;omega;omega⟩,dK,by rw [aE.out,tD.out];exact OB,RES3,RP3,bZ⟩,by simp [intOf];omega⟩
  have aB:(k:Int)<3:=by omega
  have qD:(0:Int)<(Zk.shelf[home].length:Int):=by omega
  have hqn:0<Zk.shelf[home].length:=by omega
  have hqe:¬ Zk.shelf[home]=[]:=fun h=>hq (by rw [h];rfl)
  have nP:k<L.length:=by omega
  obtain ⟨gv,ov,rfl,hgv,cv⟩:=fE.out.rd.nat nP
  have dG:(0:Int)<=(k:Int):=by omega
  generalize L[k]=v at *
  replace dE:=Lib.hid (dE.out (.inr (by rw [cV.out];exact hq)))
  clear hq
  rotate_left
  have aB:¬ (k:Int)<3:=by omega
  have qD:True:=trivial
  replace dE:=Lib.hid (dE.out (.inl (by omega)))
  all_goals
   have HZ:=Lib.hid (show Gs y (wk:Int) d=K9 Zk home by rw [H.out,HG.out,dE.out])
   have jG:∀ e∈Zk.shelf[home],Q8 Zk e:=fun e he=>by
    have h1:=aU.out.fresh e (by rw [cV.out];exact he)
    rw [<-Lp aU.out.runs] at h1
    exact J0.1 h1
   replace eN:RdL Af wr wr.heap.size (.slice xa Zk.shelf[home].length xc) Zk.shelf[home]:=eN
   have nZ:=aU.out.all _ (List.getElem_mem kH)
   have qC:Hid (K9 Zk home=Pd Zk home Zk.shelf[home]):=by
    show K9 Zk home=_
    unfold K9
    rw [cV.out]
   have CT:=Lib.hid (Nr Zk.shelf[home] ⟨xa,Zk.shelf[home].length,xc⟩ wr (by omega) eN)
   clear aE cV fE nU nA kT rG H HG dE
   generalize Zk.shelf[home]=SH at *
   go_wp2_with fail
   refine CT.out.mono ?_
   (try clear hqe)
   (try clear hqn)
   (try clear qD)
   have qD:True:=trivial
   rintro e9 w2 ⟨⟨ta,tn,tc⟩,Ft,rfl,ot,nt,b2⟩
   replace oy:Ab.ow wr F Zk (⟨some ⟨g,o,none⟩,4,e1⟩,⟨B2,m2,e2⟩):=oy.out
   have nX:=Ab.ow_lt (F:=F) (x:=Zk) (s:=(⟨some ⟨g,o,none⟩,4,e1⟩,⟨B2,m2,e2⟩)) oy
   replace oy:Ab.ow w2 F Zk (⟨some ⟨g,o,none⟩,4,e1⟩,⟨B2,m2,e2⟩):=Ab.ow_below (F:=F) (x:=Zk) (s:=(⟨some ⟨g,o,none⟩,4,e1⟩,⟨B2,m2,e2⟩)) oy b2
   clear OB_0 OB_1 OB_2 OB_3 OB_l
   replace OB:=OB.below b2
   replace RES:=RES.below b2
   replace RP:=RP.below b2
   have aF:=Aa hb b2
   have eG:=b2.size
   clear b2 CT ch eN hb oyr
   have aC:w.heap.size+1+1≠w.heap.size+1:=by omega
   cases SH with
   | nil =>
    have HF:=Lib.hid (HZ.out.trans qC.out)
    clear HZ qC jG ot
    have EB0:Below w2.heap.size w2 (w2.alloc (.cells #[.int .i64 0,.int .i64 0,.int .i64 0,.int .i64 0] 93)):=(Below.refl _ _).alloc (Nat.le_refl _) _
    go_upto_region 17 with fail
    replace oy:Ab.ow _ F Zk (⟨some ⟨g,o,none⟩,4,e1⟩,⟨B2,m2,e2⟩):=Ab.ow_below (F:=F) (x:=Zk) (s:=(⟨some ⟨g,o,none⟩,4,e1⟩,⟨B2,m2,e2⟩)) oy EB0
    replace OB:=OB.below EB0
    replace RES:=RES.below EB0
    replace RP:=RP.below EB0
    replace aF:=Aa aF EB0
    clear EB0
    generalize w2.alloc (.cells #[.int .i64 0,.int .i64 0,.int .i64 0,.int .i64 0] 93)=w3 at *
    obtain ⟨OB_0,OB_1,OB_2,OB_3,OB_l⟩:=OB.g4
    obtain ⟨RES_0,RES_1,RES_2,RES_3,RES_l⟩:=RES.g4
    obtain ⟨RP_0,RP_1,RP_2,RP_3,RP_l⟩:=RP.g4
    have rf:=RES.free
    have pf:=RP.free
    go_wp2
    have en1:w.heap.size+1∉F:=fun hx=>by have:=hF.out.1 _ hx;omega
    have en2:w.heap.size+1+1∉F:=fun hx=>by have:=hF.out.1 _ hx;omega
    have RES2:=DBox.row4 RES rfl (.int .i64 Zk.now) (.int .i64 Zk.seq) (.slice (some ⟨g,o,none⟩) 4 e1) (.slice B2 m2 e2)
    have RP2:=DBox.row4 ((((RP.setOther (a:=⟨w.heap.size+1,0,none⟩) aC (.int .i64 Zk.now)).setOther (a:=⟨w.heap.size+1,1,none⟩) aC (.int .i64 Zk.seq)).setOther (a:=⟨w.heap.size+1,2,none⟩) aC (.slice (some ⟨g,o,none⟩) 4 e1)).setOther (a:=⟨w.heap.size+1,3,none⟩) aC (.slice B2 m2 e2)) rfl (.int .i64 9) (.int .i64 0) (.int .i64 0) (.int .i64 0)
    have RES3:=(((RES2.setOther (a:=⟨w.heap.size+1+1,0,none⟩) aC.symm (.int .i64 9)).setOther (a:=⟨w.heap.size+1+1,1,none⟩) aC.symm (.int .i64 0)).setOther (a:=⟨w.heap.size+1+1,2,none⟩) aC.symm (.int .i64 0)).setOther (a:=⟨w.heap.size+1+1,3,none⟩) aC.symm (.int .i64 0)
    refine bodyPost_ret (Md RES3 RP2) rfl ⟨(⟨some ⟨g,o,none⟩,4,e1⟩,⟨B2,m2,e2⟩),F,by rw [HF.out];rfl,by rw [HF.out];exact (by (repeat (refine Dt.ow_set Ab ?_ (by first | exact en1 | exact en2) _));exact (show Ab.ow _ F Zk (⟨some ⟨g,o,none⟩,4,e1⟩,⟨B2,m2,e2⟩) from oy)),fun x hx=>by have:=hF.out.1 x hx;omega,?_⟩
    repeat (first | (with_reducible exact aF) | refine Below.setCell ?_ (by simp<;>omega) _)
   | cons e rest =>
    obtain ⟨mU,⟨fZ,pP⟩,cF⟩:=jG e (List.mem_cons_self ..)
    obtain ⟨pr,sq,rn,tk⟩:=e
    dsimp only at mU fZ pP cF
    obtain ⟨t,rfl⟩:=Int.eq_ofNat_of_zero_le fZ
    rcases Cn Zk rn with dB | ⟨j,hj,dB⟩
    ·exact absurd mU (by omega)
    have cA:=Dr hj dB
    rw [cA] at pP cF
    have sW:j<y.runs.length:=by rw [<-aU.out.runs];exact hj
    have rQ:Hid (Er Zk.runs[j]):=by
     have e:Zk.runs[j]=y.runs[j]:=by simp only [aU.out.runs]
     show Er Zk.runs[j]
     rw [e]
     exact Co HP.out sW
    have HF:=Lib.hid (HZ.out.trans (qC.out.trans (show _=((⟨Zk.now,Zk.seq,Zk.shelf.set home rest,Zk.runs.set j (Cd Zk.runs[j] t Zk.now)⟩:Yard),(⟨0,rn,t,(Ax Zk.runs[j] t).try_+1⟩:Reply)) by show Pd _ _ (_ :: _)=_;unfold Pd;dsimp only;rw [dB,cA,Int.toNat_natCast,Int.toNat_natCast])))
    have fW:=Lib.hid (show 0<=Zk.now/\Zk.now<=999999980 by rw [aU.out.now];exact HP.out.1)
    have hrun8:Zk.runs.length<=8:=by rw [aU.out.runs];exact HP.out.2.2.2.2.2.2.1
    have eI:t<Zk.runs[j].tasks.length:=by omega
    have rI:=Aw eI
    have mL:=Lib.hid (show Bo ⟨Zk.now,Zk.seq,Zk.shelf.set home rest,Zk.runs⟩ rn=j from (Kw (y:=Zk) rfl rn).trans dB)
    have uK:=Lib.hid (show Ai ⟨Zk.now,Zk.seq,Zk.shelf.set home rest,Zk.runs⟩<=2000000 by
     have:=Ma (y:=⟨Zk.now,Zk.seq,Zk.shelf.set home rest,Zk.runs⟩) (M:=80) (by simpa using rE) (fun s hs=>by
      rcases List.mem_or_eq_of_mem_set hs with h | h
      ·exact aU.out.all s h
      ·subst h;simp at nZ;omega) hrun8 (fun k hk=>by
       have bH:k<y.runs.length:=by rw [<-aU.out.runs];exact hk
       have e:Zk.runs[k]=y.runs[k]:=by simp only [aU.out.runs]
       show Er Zk.runs[k]
       rw [e]
       exact Co HP.out bH)
     omega)
    clear HZ qC jG dB cA mU fZ pP cF sW pX qD
    replace ot:OwL Af w2 Ft (.slice ta tn tc) rest:=ot
    have eQ:∀ x∈Ft,wr.heap.size<=x/\x<w2.heap.size:=fun x hx=>⟨nt x hx,ot.lt x hx⟩
    have EB:=DBox.new 93 [.int .i64 pr,.int .i64 sq,.int .i64 rn,.int .i64 (t:Int)] w2 (b:=w2.heap.size) rfl
    have EB0:Below w2.heap.size w2 (w2.alloc (.cells #[.int .i64 pr,.int .i64 sq,.int .i64 rn,.int .i64 (t:Int)] 93)):=(Below.refl _ _).alloc (Nat.le_refl _) _
    go_upto_region 17 with fail
    replace oy:Ab.ow _ F Zk (⟨some ⟨g,o,none⟩,4,e1⟩,⟨B2,m2,e2⟩):=Ab.ow_below (F:=F) (x:=Zk) (s:=(⟨some ⟨g,o,none⟩,4,e1⟩,⟨B2,m2,e2⟩)) oy EB0
    replace ot:=ot.below EB0
    replace OB:=OB.below EB0
    replace RES:=RES.below EB0
    replace RP:=RP.below EB0
    replace aF:=Aa aF EB0
    clear nt EB0
    generalize w2.alloc (.cells #[.int .i64 pr,.int .i64 sq,.int .i64 rn,.int .i64 (t:Int)] 93)=w3 at *
    have hebl:=EB.lt
    generalize w2.heap.size=eb at *
    obtain ⟨OB_0,OB_1,OB_2,OB_3,OB_l⟩:=OB.g4
    obtain ⟨EB_0,EB_1,EB_2,EB_3,EB_l⟩:=EB.g4
    replace oy:Ab.ow w3 F Zk (⟨some ⟨g,o,none⟩,4,e1⟩,⟨B2,m2,e2⟩):=oy
    have jB:∀ j,w3.frozen? ⟨g,j,none⟩=false:=by
     obtain ⟨G1,G2,_,_,os,_⟩:=oy
     exact OwL.free0 (show OwL (Dt.list Af) w3 G1 (.slice (some ⟨g,o,none⟩) 4 e1) Zk.shelf from os) (by omega)
    obtain ⟨_,_,⟨xa3,xn3,xc3⟩,cQ,rZ,_,ch⟩:=RdL.entryS (show RdL (Dt.list Af) w3 w3.heap.size (.slice (some ⟨g,o,none⟩) 4 e1) Zk.shelf from (Ab.ow_rd (F:=F) (x:=Zk) oy).1) kH
    simp only [Option.some.injEq,Addr.mk.injEq,and_true] at cQ
    obtain ⟨rfl,rfl⟩:=cQ
    obtain ⟨F4,oy4,uH,eF⟩:=Dz oy kH (l:=rest) (t:=⟨ta,tn,tc⟩) ot (fun x hx aY=>by have h1:=(eQ x hx).1;have h2:=nX x aY;omega)
    go_upto_region 20 with fail
    have dZ:Chg [g] w3 (w3.setCell ⟨g,o+home,none⟩ (.slice ta tn tc)):=Chg.setCell w3 g _ _
    have bL:=Lib.hid (show ∀ x,x∈[g]->x=g from fun x hx=>by simpa using hx)
    have hgF2:=hF.out.1 g eF
    have dR:ob≠g:=fun h=>hF.out.2.1 (by rw [h];exact eF)
    clear OB_0 OB_1 OB_2 OB_3 OB_l
    clear EB_0 EB_1 EB_2 EB_3 EB_l
    replace OB:=OB.chg dZ (fun hx=>dR (bL.out _ hx))
    replace EB:=EB.chg dZ (fun hx=>by have:=bL.out _ hx;omega)
    replace RES:=RES.chg dZ (fun hx=>by have:=bL.out _ hx;omega)
    replace RP:=RP.chg dZ (fun hx=>by have:=bL.out _ hx;omega)
    have kV:=dZ.size
    replace aF:=aF.trans (dZ.below (by have:=aF.size;omega) (fun x hx=>by have:=bL.out _ hx;omega))
    clear dZ oy jB ch ot
    generalize w3.setCell ⟨g,o+home,none⟩ (.slice ta tn tc)=w4 at *
    replace oy4:Ab.ow w4 F4 ⟨Zk.now,Zk.seq,Zk.shelf.set home rest,Zk.runs⟩ (⟨some ⟨g,o,none⟩,4,e1⟩,⟨B2,m2,e2⟩):=oy4
    have gP:∀ x∈F4,(x∈F\/(wr.heap.size<=x/\x<eb)):=fun x hx=>(uH x hx).imp id (fun h=>eQ x h)
    have CA:=Lib.hid (fun W (hW:Below w4.heap.size w4 W)=>C6 ⟨Zk.now,Zk.seq,Zk.shelf.set home rest,Zk.runs⟩ (⟨some ⟨g,o,none⟩,4,e1⟩,⟨B2,m2,e2⟩) rn W uK.out (Ab.rd_more (Ab.rd_below (Ab.ow_rd (F:=F4) (x:=⟨Zk.now,Zk.seq,Zk.shelf.set home rest,Zk.runs⟩) oy4) hW) hW.size))
    rw [mL.out] at CA
    have oyr:=(Ab.ow_rd (F:=F4) (x:=⟨Zk.now,Zk.seq,Zk.shelf.set home rest,Zk.runs⟩) oy4).2
    have eA:m2=Zk.runs.length:=RdL.at1 (s:=⟨B2,m2,e2⟩) oyr
    subst eA
    have fU:(j:Int)<(Zk.runs.length:Int):=by omega
    have bX:(0:Int)<=(j:Int):=by omega
    have hobw4:ob<w4.heap.size:=OB.lt
    have hebw4:eb<w4.heap.size:=EB.lt
    obtain ⟨gr0,orr0,-,rfl,hgrw0,-⟩:=RdL.run (show RdL Am w4 w4.heap.size (.slice B2 Zk.runs.length e2) Zk.runs from oyr) hj
    obtain ⟨OB_0,OB_1,OB_2,OB_3,OB_l⟩:=OB.g4
    obtain ⟨EB_0,EB_1,EB_2,EB_3,EB_l⟩:=EB.g4
    have aN:=Bk w4
    refine Ad (by kernel_rfl) (by kernel_rfl) ?_
    repeat (go_big_quiet_step ((go_at_call 75;rename_i x;exact Dg (CA.out x.1 x.2))))
    refine wpQuiet_nil ?_
    rintro w5 ⟨⟨_,b5⟩,rfl⟩
    clear OB_0 OB_1 OB_2 OB_3 OB_l
    clear EB_0 EB_1 EB_2 EB_3 EB_l
    replace OB:=OB.below b5
    replace EB:=EB.below b5
    replace RES:=RES.below b5
    replace RP:=RP.below b5
    replace aF:=Aa aF b5
    replace oy4:Ab.ow w5 F4 ⟨Zk.now,Zk.seq,Zk.shelf.set home rest,Zk.runs⟩ (⟨some ⟨g,o,none⟩,4,e1⟩,⟨some ⟨gr0,orr0,none⟩,Zk.runs.length,e2⟩):=Ab.ow_below (F:=F4) (x:=⟨Zk.now,Zk.seq,Zk.shelf.set home rest,Zk.runs⟩) (s:=(⟨some ⟨g,o,none⟩,4,e1⟩,⟨some ⟨gr0,orr0,none⟩,Zk.runs.length,e2⟩)) oy4 b5
    have pC:=b5.size
    clear b5 CA mL uK aN oyr
    obtain ⟨G1,G2,rR,bK,osS,osR⟩:=oy4
    replace osS:OwL (Dt.list Af) w5 G1 (.slice (some ⟨g,o,none⟩) 4 e1) (Zk.shelf.set home rest):=osS
    replace osR:OwL Am w5 G2 (.slice (some ⟨gr0,orr0,none⟩) Zk.runs.length e2) Zk.runs:=osR
    obtain ⟨gr,orr,rs,sr,Ga,Fx,Gb,hAe,hG2,hmr,F5_⟩:=osR.foc hj
    simp only [Option.some.injEq,Addr.mk.injEq,and_true] at hAe
    obtain ⟨rfl,rfl⟩:=hAe
    generalize kZ:Zk.runs[j]=r at *
    obtain ⟨Fp,gt,ot2,tc2,pD,hnx,eG,op,oh,hgg,hgp⟩:=F5_.atRun (by omega)
    obtain ⟨sr1,sr2⟩:=sr
    obtain rfl:sr2=_:=eG
    have mH:-1000000<=r.tasks[t].try_/\r.tasks[t].try_<=2000000000/\0<=r.plan.wait/\r.plan.wait<=2000000000:=by
     have h1:=rQ.out.2.2.2.1 t eI
     have h2:=(Bn.1 rQ.out.2.1).1
     simp only [Cu,Bool.and_eq_true] at h2
     have h3:=Bf.1 h2.1.2
     have h4:=Bf.1 h2.2
     unfold Ev Lm at h1
     rw [rI] at h1
     omega
    have hmemF:gt∈F4/\gr0∈F4:=by
     rw [rR,hG2,pD]
     exact ⟨by simp,by simp⟩
    have hdF:∀ x∈G1,x≠gt:=fun x hx e=>by
     rw [rR,List.nodup_append] at bK
     exact bK.2.2 x hx gt (by rw [hG2,pD];simp) e
    have gB:∀ x∈F4,w.heap.size+1+1<x/\x≠ob/\x≠eb:=fun x hx=>by
     rcases gP x hx with h1 | h1
     ·refine ⟨hF.out.1 x h1,fun e=>hF.out.2.1 (by rw [<-e];exact h1),fun e=>?_⟩
      have:=nX x h1
      omega
     ·omega
    have hgt4:=gB gt hmemF.1
    have hgr5:=F5_.blk
    have jR:(t:Int)<(r.tasks.length:Int):=by omega
    have fZ:(0:Int)<=(t:Int):=by omega
    have hgtw:gt<w5.heap.size:=(oh.block (by omega)).2.1
    have mS:=(oh.block (by omega)).2.2
    obtain ⟨c0,c1,c2,c3,c4,c5,c6,c7⟩:=F5_.run
    have hobw5:ob<w5.heap.size:=by omega
    have hebw5:eb<w5.heap.size:=by omega
    obtain ⟨OB_0,OB_1,OB_2,OB_3,OB_l⟩:=OB.g4
    obtain ⟨EB_0,EB_1,EB_2,EB_3,EB_l⟩:=EB.g4
    have aN:=Bk w5
    go_upto_region 21 with fail
    refine Ad (by kernel_rfl) (by kernel_rfl) ?_
    repeat (go_big_quiet_step (fail))
    refine wpQuiet_nil ?_
    rintro w6 ⟨⟨_,b6⟩,rfl⟩
    have hB6:Below w4.heap.size w4 w4:=Below.refl _ _
    replace F5_:=F5_.sub (w':=w6) (y:=r) (Chg.of_below _ b6) (Am.ow_below (F:=Fx) (x:=r) (s:=(sr1,⟨some ⟨gt,ot2,none⟩,r.tasks.length,tc2⟩)) F5_.here b6) rfl
    replace oh:=oh.below b6
    replace op:=Ag.ow_below (F:=Fp) (x:=r.plan) (s:=sr1) op b6
    replace osS:=osS.below b6
    clear OB_0 OB_1 OB_2 OB_3 OB_l
    clear EB_0 EB_1 EB_2 EB_3 EB_l
    replace OB:=OB.below b6
    replace EB:=EB.below b6
    replace RES:=RES.below b6
    replace RP:=RP.below b6
    replace aF:=Aa aF b6
    have pG:=b6.size
    clear c0 c1 c2 c3 c4 c5 c6 c7 aN b6 hB6 mS
    have mS:=(oh.block (by omega)).2.2
    have hgtw6:gt<w6.heap.size:=by omega
    have hgrw6:gr0<w6.heap.size:=by omega
    obtain ⟨_,_,cQ,_,d0,d1,d2,d3⟩:=oh.rd.tsk eI
    simp only [Option.some.injEq,Addr.mk.injEq,and_true] at cQ
    obtain ⟨rfl,rfl⟩:=cQ
    have hw24:IntKind.i64.wrap (r.tasks[t].try_+1)=r.tasks[t].try_+1:=IntWalk.i64_in _ (by omega)
    have hww:IntKind.i64.wrap (Zk.now+r.plan.wait)=Zk.now+r.plan.wait:=IntWalk.i64_in _ (by have:=fW.out;omega)
    have dS:=(Chg.setCell w6 gt (ot2+t * 4) (.int .i64 3)).trans (Chg.setCell _ gt (ot2+t * 4+2) (.int .i64 (r.tasks[t].try_+1)))
    have c3:w6.cell? ⟨gr0,orr0+j * 8+3,none⟩=some (.int .i64 r.plan.wait):=F5_.cells 3 _ rfl
    have bL:=Lib.hid (show ∀ x,x∈[gt]->x=gt from fun x hx=>by simpa using hx)
    have e3:∀ W:World,Chg [gt] w6 W->W.cell? ⟨gr0,orr0+j * 8+3,none⟩=some (.int .i64 r.plan.wait):=fun W hW=>(hW.cell (p:=⟨gr0,_,none⟩) hgrw6 (fun hx=>hgg (bL.out _ hx))).trans c3
    have oh2:Hw Dj ((w6.setCell ⟨gt,ot2+t * 4,none⟩ (.int .i64 3)).setCell ⟨gt,ot2+t * 4+2,none⟩ (.int .i64 (r.tasks[t].try_+1))) [gt] (.slice (some ⟨gt,ot2,none⟩) r.tasks.length tc2) (r.tasks.set t ⟨3,r.tasks[t].need,r.tasks[t].try_+1,r.tasks[t].until_⟩):=by
     have h1:=oh.part eI ⟨3,r.tasks[t].need,r.tasks[t].try_,r.tasks[t].until_⟩ 0 [.int .i64 3] (show 0+1<=4 by omega) (fun i hi=>by simp at hi;subst hi;rfl) (fun i hi ho=>by
      have:i<4:=hi
      rcases (show i=1\/i=2\/i=3 by simp at ho;omega) with rfl | rfl | rfl<;>rfl)
     have h2:=h1.part (j:=t) (by rw [List.length_set];exact eI) ⟨3,r.tasks[t].need,r.tasks[t].try_+1,r.tasks[t].until_⟩ 2 [.int .i64 (r.tasks[t].try_+1)] (show 2+1<=4 by omega) (fun i hi=>by simp at hi;subst hi;rfl) (fun i hi ho=>by
      have:i<4:=hi
      rw [List.getElem_set_self]
      rcases (show i=0\/i=1\/i=3 by simp at ho;omega) with rfl | rfl | rfl<;>rfl)
     rw [List.set_set] at h2
     exact h2
    go_upto_region 24 with fail
    generalize (w6.setCell ⟨gt,ot2+t * 4,none⟩ (.int .i64 3)).setCell ⟨gt,ot2+t * 4+2,none⟩ (.int .i64 (r.tasks[t].try_+1))=w7 at *
    have OB7:=OB.chg dS (fun hx=>hgt4.2.1 (bL.out _ hx).symm)
    have c37:=e3 w7 dS
    have hs7:=dS.size
    clear d0 d1 d2 d3 mS oh
    refine Go.wp_region_noPanic ?_
    refine wp_region_held_drew (S:=(fun w'=>DBox ob [.int .i64 Zk.now,.int .i64 Zk.seq,.slice (some ⟨g,o,none⟩) 4 e1,.slice (some ⟨gr0,orr0,none⟩) Zk.runs.length e2] w'/\w'.cell? ⟨gr0,orr0+j * 8+3,none⟩=some (.int .i64 r.plan.wait))) (by kernel_rfl) ⟨DBox.drew4 OB7,c37⟩ (fun hHeld=>?_)
    replace oh2:=oh2.below (Below.refl w7.heap.size w7).drew
    replace dS:=dS.drew
    have hs8:w7.drew.heap.size=w7.heap.size:=rfl
    clear OB7 c37
    generalize w7.drew=w8 at *
    refine tV 0 ?_
    (try simp only [pS])
    refine tV 1 ?_
    (try simp only [pS])
    refine tV 2 ?_
    (try simp only [pS])
    refine tV 3 ?_
    (try simp only [pS])
    refine tV 4 ?_
    (try simp only [pS])
    refine tV 5 ?_
    (try simp only [pS])
    refine tV 6 ?_
    (try simp only [pS])
    refine tV 7 ?_
    (try simp only [pS])
    refine tV 8 ?_
    (try simp only [pS])
    refine tV 9 ?_
    (try simp only [pS])
    refine tV 10 ?_
    (try simp only [pS])
    have eV:t<(r.tasks.set t ⟨3,r.tasks[t].need,r.tasks[t].try_+1,r.tasks[t].until_⟩).length:=by rw [List.length_set];exact eI
    obtain ⟨_,_,cQ,_,d0,d1,d2,d3⟩:=oh2.rd.tsk eV
    simp only [Option.some.injEq,Addr.mk.injEq,and_true] at cQ
    obtain ⟨rfl,rfl⟩:=cQ
    have mS:=(oh2.block (by rw [List.length_set];omega)).2.2
    have gX:=Chg.setCell w8 gt (ot2+t * 4+3) (.int .i64 (Zk.now+r.plan.wait))
    refine rC 11 (fun K_ hK=>?_)
    go_simp
    refine hK.out _ _ ⟨hHeld.1.chg gX (fun hx=>hgt4.2.1 (bL.out _ hx).symm),e3 _ (dS.trans gX)⟩ (fun hHeld=>?_)
    clear hK K_ hHeld
    (try simp only [pS])
    refine wpAnyH_done (by kernel_rfl) ?_ _
    refine NoPanic.normal ?_
    have oh3:=oh2.part (j:=t) eV ⟨3,r.tasks[t].need,r.tasks[t].try_+1,Zk.now+r.plan.wait⟩ 3 [.int .i64 (Zk.now+r.plan.wait)] (show 3+1<=4 by omega) (fun i hi=>by simp at hi;subst hi;rfl) (fun i hi ho=>by
     have:i<4:=hi
     rw [List.getElem_set_self]
     rcases (show i=0\/i=1\/i=2 by simp at ho;omega) with rfl | rfl | rfl<;>rfl)
    rw [List.set_set] at oh3
    replace oh3:Hw Dj (w8.setCell ⟨gt,ot2+t * 4+3,none⟩ (.int .i64 (Zk.now+r.plan.wait))) [gt] (.slice (some ⟨gt,ot2,none⟩) r.tasks.length tc2) (r.tasks.set t ⟨3,r.tasks[t].need,r.tasks[t].try_+1,Zk.now+r.plan.wait⟩):=oh3
    replace dS:=dS.trans gX
    have hE:=Lib.hid (show Cd r t Zk.now=⟨r.id,r.plan,r.state,r.tasks.set t ⟨3,r.tasks[t].need,r.tasks[t].try_+1,Zk.now+r.plan.wait⟩⟩ by unfold Cd;rw [Ja eI])
    clear d0 d1 d2 d3 mS oh2 gX
    generalize w8.setCell ⟨gt,ot2+t * 4+3,none⟩ (.int .i64 (Zk.now+r.plan.wait))=w9 at *
    have hxm:∀ x∈[gt],x∈Fx:=fun x hx=>by rw [bL.out x hx,pD];simp
    replace op:=Ag.ow_chg (F:=Fp) (x:=r.plan) (s:=sr1) op dS (fun x hx h=>hgp (by rw [<-bL.out x h];exact hx))
    have F9_:=F5_.sub (w':=w9) (y:=Cd r t Zk.now) (dS.mono hxm) (by
     rw [hE.out]
     exact ⟨Fp,[gt],pD,hnx,op,Eg oh3⟩) (by rw [hE.out])
    have osR9:=F9_.owl hmr
    rw [<-hG2] at osR9
    have osS9:=osS.chg dS (fun x hx h=>hdF x hx (bL.out x h))
    have oy8:Ab.ow w9 F4 ⟨Zk.now,Zk.seq,Zk.shelf.set home rest,Zk.runs.set j (Cd r t Zk.now)⟩ (⟨some ⟨g,o,none⟩,4,e1⟩,⟨some ⟨gr0,orr0,none⟩,Zk.runs.length,e2⟩):=⟨G1,G2,rR,bK,osS9,osR9⟩
    replace OB:=OB.chg dS (fun hx=>hgt4.2.1 (bL.out _ hx).symm)
    replace EB:=EB.chg dS (fun hx=>hgt4.2.2 (bL.out _ hx).symm)
    replace RES:=RES.chg dS (fun hx=>by have:=bL.out _ hx;omega)
    replace RP:=RP.chg dS (fun hx=>by have:=bL.out _ hx;omega)
    replace aF:=aF.trans (dS.below (by have:=aF.size;omega) (fun x hx=>by have:=bL.out _ hx;omega))
    have pZ:t<(r.tasks.set t ⟨3,r.tasks[t].need,r.tasks[t].try_+1,Zk.now+r.plan.wait⟩).length:=by rw [List.length_set];exact eI
    obtain ⟨_,_,cQ,_,-,-,cY,-⟩:=oh3.rd.tsk pZ
    simp only [Option.some.injEq,Addr.mk.injEq,and_true] at cQ
    obtain ⟨rfl,rfl⟩:=cQ
    rw [List.getElem_set_self] at cY
    have tN:=dS.size
    have hgt9:gt<w9.heap.size:=by omega
    have HFF:=Lib.hid (show Gs y (wk:Int) d=((⟨Zk.now,Zk.seq,Zk.shelf.set home rest,Zk.runs.set j (Cd r t Zk.now)⟩:Yard),(⟨0,rn,t,r.tasks[t].try_+1⟩:Reply)) by rw [HF.out,rI])
    have en1:w.heap.size+1∉F4:=fun hx=>by have:=(gB _ hx).1;omega
    have en2:w.heap.size+1+1∉F4:=fun hx=>by have:=(gB _ hx).1;omega
    have mG:∀ x∈F4,w.heap.size<=x:=fun x hx=>by have:=(gB x hx).1;omega
    have gn1:gt≠w.heap.size+1:=by omega
    have gn2:gt≠w.heap.size+1+1:=by omega
    clear HF gP eQ uH nX rI hE oh3 op F9_ F5_ osR9 osS9 osS osR dS e3 c3 bK rR hG2 hmr hdF gB hmemF
    go_upto_region 25 with fail
    refine Go.wp_region_noPanic ?_
    refine wp_region_held_drew (S:=(fun w'=>DBox ob [.int .i64 Zk.now,.int .i64 Zk.seq,.slice (some ⟨g,o,none⟩) 4 e1,.slice (some ⟨gr0,orr0,none⟩) Zk.runs.length e2] w'/\DBox eb [.int .i64 pr,.int .i64 sq,.int .i64 rn,.int .i64 (t:Int)] w'/\w'.cell? ⟨gt,ot2+t * 4+2,none⟩=some (.int .i64 (r.tasks[t].try_+1)))) (by kernel_rfl) ⟨DBox.drew4 OB,DBox.drew4 EB,cY⟩ (fun hHeld=>?_)
    replace oy8:Ab.ow w9.drew F4 ⟨Zk.now,Zk.seq,Zk.shelf.set home rest,Zk.runs.set j (Cd r t Zk.now)⟩ (⟨some ⟨g,o,none⟩,4,e1⟩,⟨some ⟨gr0,orr0,none⟩,Zk.runs.length,e2⟩):=Ab.ow_below (F:=F4) (x:=⟨Zk.now,Zk.seq,Zk.shelf.set home rest,Zk.runs.set j (Cd r t Zk.now)⟩) (s:=(⟨some ⟨g,o,none⟩,4,e1⟩,⟨some ⟨gr0,orr0,none⟩,Zk.runs.length,e2⟩)) oy8 (Below.refl _ _).drew
    replace RES:DBox _ _ w9.drew:=DBox.drew4 RES
    replace RP:DBox _ _ w9.drew:=DBox.drew4 RP
    replace aF:=aF.drew
    have nW:w9.drew.heap.size=w9.heap.size:=rfl
    rw [<-nW] at hgt9
    clear OB EB cY nW
    generalize w9.drew=w8d at *
    refine tV 0 ?_
    (try simp only [pS])
    refine tV 1 ?_
    (try simp only [pS])
    refine tV 2 ?_
    (try simp only [pS])
    refine tV 3 ?_
    (try simp only [pS])
    refine tV 4 ?_
    (try simp only [pS])
    refine tV 5 ?_
    (try simp only [pS])
    refine tV 6 ?_
    (try simp only [pS])
    refine tV 7 ?_
    (try simp only [pS])
    refine tV 8 ?_
    (try simp only [pS])
    refine tV 9 ?_
    (try simp only [pS])
    have RES_0:=RES.cell 0 _ rfl
    have RES_1:=RES.cell 1 _ rfl
    have RES_2:=RES.cell 2 _ rfl
    have RES_3:=RES.cell 3 _ rfl
    have rf:=RES.free
    have cM:=Lib.hid (show ∀ x,x∈[w.heap.size+1]->x=w.heap.size+1 from fun x hx=>by simpa using hx)
    have hm2':=Lib.hid (show ∀ x,x∈[w.heap.size+1+1]->x=w.heap.size+1+1 from fun x hx=>by simpa using hx)
    have eS:=Chg.cells4 w8d (w.heap.size+1) 0 1 2 3 (.int .i64 Zk.now) (.int .i64 Zk.seq) (.slice (some ⟨g,o,none⟩) 4 e1) (.slice (some ⟨gr0,orr0,none⟩) Zk.runs.length e2)
    refine rC 10 (fun K_ hK=>?_)
    go_simp
    have hS1:=eS.size
    have RES2:=DBox.row4 RES rfl (.int .i64 Zk.now) (.int .i64 Zk.seq) (.slice (some ⟨g,o,none⟩) 4 e1) (.slice (some ⟨gr0,orr0,none⟩) Zk.runs.length e2)
    have RP2:=RP.chg eS (fun hx=>by have:=cM.out _ hx;omega)
    replace oy8:Ab.ow _ F4 ⟨Zk.now,Zk.seq,Zk.shelf.set home rest,Zk.runs.set j (Cd r t Zk.now)⟩ (⟨some ⟨g,o,none⟩,4,e1⟩,⟨some ⟨gr0,orr0,none⟩,Zk.runs.length,e2⟩):=Ab.ow_chg (F:=F4) (x:=⟨Zk.now,Zk.seq,Zk.shelf.set home rest,Zk.runs.set j (Cd r t Zk.now)⟩) (s:=(⟨some ⟨g,o,none⟩,4,e1⟩,⟨some ⟨gr0,orr0,none⟩,Zk.runs.length,e2⟩)) oy8 eS (fun x hx hx2=>by have h1:=cM.out _ hx2;subst h1;exact en1 hx)
    replace aF:=aF.trans (eS.below (by have:=aF.size;omega) (fun x hx=>by have:=cM.out _ hx;omega))
    refine hK.out _ _ ⟨hHeld.1.chg eS (fun hx=>by have:=cM.out _ hx;omega),hHeld.2.1.chg eS (fun hx=>by have:=cM.out _ hx;omega),(eS.cell (p:=⟨gt,_,none⟩) hgt9 (fun hx=>gn1 (cM.out _ hx))).trans hHeld.2.2⟩ (fun hHeld=>?_)
    clear hK K_ rf RES_0 RES_1 RES_2 RES_3 eS
    (try simp only [pS])
    generalize (((w8d.setCell ⟨w.heap.size+1,0,none⟩ (.int .i64 Zk.now)).setCell ⟨w.heap.size+1,1,none⟩ (.int .i64 Zk.seq)).setCell ⟨w.heap.size+1,2,none⟩ (.slice (some ⟨g,o,none⟩) 4 e1)).setCell ⟨w.heap.size+1,3,none⟩ (.slice (some ⟨gr0,orr0,none⟩) Zk.runs.length e2)=wA at *
    have RP_0:=RP2.cell 0 _ rfl
    have RP_1:=RP2.cell 1 _ rfl
    have RP_2:=RP2.cell 2 _ rfl
    have RP_3:=RP2.cell 3 _ rfl
    have pf:=RP2.free
    have fQ:=Chg.cells4 wA (w.heap.size+1+1) 0 1 2 3 (.int .i64 0) (.int .i64 rn) (.int .i64 (t:Int)) (.int .i64 (r.tasks[t].try_+1))
    refine rC 11 (fun K_ hK=>?_)
    go_simp
    refine hK.out _ _ ⟨hHeld.1.chg fQ (fun hx=>by have:=hm2'.out _ hx;omega),hHeld.2.1.chg fQ (fun hx=>by have:=hm2'.out _ hx;omega),(fQ.cell (p:=⟨gt,_,none⟩) (by show gt<wA.heap.size;omega) (fun hx=>gn2 (hm2'.out _ hx))).trans hHeld.2.2⟩ (fun hHeld=>?_)
    clear hK K_ hHeld
    (try simp only [pS])
    refine wpAnyH_done (by kernel_rfl) ?_ _
    refine NoPanic.normal ?_
    have RES3:=RES2.chg fQ (fun hx=>by have:=hm2'.out _ hx;omega)
    have RP3:=DBox.row4 RP2 rfl (.int .i64 0) (.int .i64 rn) (.int .i64 (t:Int)) (.int .i64 (r.tasks[t].try_+1))
    replace oy8:Ab.ow _ F4 ⟨Zk.now,Zk.seq,Zk.shelf.set home rest,Zk.runs.set j (Cd r t Zk.now)⟩ (⟨some ⟨g,o,none⟩,4,e1⟩,⟨some ⟨gr0,orr0,none⟩,Zk.runs.length,e2⟩):=Ab.ow_chg (F:=F4) (x:=⟨Zk.now,Zk.seq,Zk.shelf.set home rest,Zk.runs.set j (Cd r t Zk.now)⟩) (s:=(⟨some ⟨g,o,none⟩,4,e1⟩,⟨some ⟨gr0,orr0,none⟩,Zk.runs.length,e2⟩)) oy8 fQ (fun x hx hx2=>by have h1:=hm2'.out _ hx2;subst h1;exact en2 hx)
    replace aF:=aF.trans (fQ.below (by have:=aF.size;omega) (fun x hx=>by have:=hm2'.out _ hx;omega))
    clear RP_0 RP_1 RP_2 RP_3 pf
    go_wp2
    exact bodyPost_ret (Md RES3 RP3) rfl ⟨(⟨some ⟨g,o,none⟩,4,e1⟩,⟨some ⟨gr0,orr0,none⟩,Zk.runs.length,e2⟩),F4,by rw [HFF.out],by rw [HFF.out];exact oy8,mG,aF⟩
theorem Xr (id:Int) (p:Nat) (e:Entry) (w:World) (X:DBox p [.int .i64 id] w) :
  Calls Tryz.prog 179 #[Fb e (),.pointer (some ⟨p,0,none⟩)] w fun e' w'=>e' = .returned (.bool (e.run == id))/\Below w.heap.size w w':=by
 have B0:Below w.heap.size w (w.alloc (.cells #[.int .i64 e.prio,.int .i64 e.seq,.int .i64 e.run,.int .i64 e.task] 93)):=(Below.refl _ _).alloc (Nat.le_refl _) _
 have E:=DBox.new 93 [.int .i64 e.prio,.int .i64 e.seq,.int .i64 e.run,.int .i64 e.task] w (b:=w.heap.size) rfl
 replace X:=X.below B0
 obtain ⟨X_0,X_l⟩:=X.g1
 obtain ⟨E_0,E_1,E_2,E_3,E_l⟩:=E.g4
 go_enter Tryz.func179,Tryz.ntmps179
 go_wp2
 go_ret
 exact ⟨rfl,B0⟩
theorem Vq (l:List Task) (t u:Nat) (x:Task) (hx:t<l.length->x.try_=(l.getD t ⟨0,0,0,0⟩).try_):((l.set t x).getD u ⟨0,0,0,0⟩).try_=(l.getD u ⟨0,0,0,0⟩).try_:=by
 simp only [List.getD_eq_getElem?_getD,List.getElem?_set] at hx ⊢
 by_cases h:t=u
 ·subst h
  by_cases ht:t<l.length
  ·simp only [if_pos ht,↓reduceIte,Option.getD_some]
   exact hx ht
  ·simp [ht]
 ·simp [h]
theorem Xs (l:List Task) (t u:Nat) (f:Task->Task) (hf:∀ x,(f x).try_=x.try_):((Ew l t f).getD u ⟨0,0,0,0⟩).try_=(l.getD u ⟨0,0,0,0⟩).try_:=by
 unfold Ew
 exact Vq l t u _ (fun _=>hf _)
theorem Aa0 (l:List Task) (u:Nat):((l.map Bt).getD u ⟨0,0,0,0⟩).try_=(l.getD u ⟨0,0,0,0⟩).try_:=by
 simp only [List.getD_eq_getElem?_getD,List.getElem?_map]
 cases l[u]? with
 | none=>rfl
 | some x =>
  simp only [Option.map_some,Option.getD_some]
  unfold Bt
  split<;>rfl
theorem Y9 (r:Run) (t u:Nat):(Ax (Br r t) u).try_=(Ax r u).try_:=by
 unfold Br
 split
 ·exact Xs r.tasks t u (fun x=>⟨2,x.need,x.try_,0⟩) (fun _=>rfl)
 ·show (((Ew r.tasks t fun x=>⟨5,x.need,x.try_,0⟩).map Bt).getD u ⟨0,0,0,0⟩).try_=_
  rw [Aa0]
  exact Xs r.tasks t u (fun x=>⟨5,x.need,x.try_,0⟩) (fun _=>rfl)
theorem Za (z:Yard) (k:Nat) (r:Run):(Dq z k r).runs=z.runs.set k r:=by
 unfold Dq Kr
 rw [(Nn _ _ _).2.1]
theorem Aa1 (z:Yard) (k j:Nat) (r:Run) (hk:k<z.runs.length):En (Dq z k r) j=if k=j then r else En z j:=by
 unfold En
 rw [Za]
 simp only [List.getD_eq_getElem?_getD,List.getElem?_set]
 by_cases h:k=j
 ·subst h
  simp [hk]
 ·simp [h]
def SameTry (y z:Yard):Prop:=∀ k t,(Ax (En z k) t).try_=(Ax (En y k) t).try_
theorem SameTry.fail {y z:Yard} (h:SameTry y z) {k:Nat} (hk:k<z.runs.length) (t:Nat):SameTry y (Dv z k t):=fun j u=>by
 by_cases q:(Ax (En z k) t).state=3
 ·rw [Iq q,Aa1 z k j _ hk]
  split
  ·next e =>
   subst e
   rw [Y9]
   exact h k u
  ·exact h j u
 ·rw [Jh q]
  exact h j u
theorem Sn {y z:Yard} {m:Nat} (hT:Trn y m z) (hS:SameTry y z) {k t:Nat} {id:Int} (hk:k<z.runs.length) (ht:t<z.runs[k].tasks.length) (hid:Bo z id=k) :
  Du z id t (Ax (En y k) t).try_ ↔ (Ax (En z k) t).state=3:=by
 unfold Du
 rw [Dr hk hid,hid,<-hS k t,Cw hk]
 simp only [Int.toNat_natCast]
 exact ⟨fun h=>h.2.2.1,fun h=>⟨by omega,⟨by omega,by omega⟩,h,trivial⟩⟩
def upY (z:Yard):Yard:=⟨z.now+1,z.seq,z.shelf,z.runs⟩
theorem Xt (r:Run):∀ (l:List Nat) (z:Yard),l.foldl (fun y t=>Jm y r t) (upY z)=upY (l.foldl (fun y t=>Jm y r t) z)
 | [],z=>rfl
 | t :: l,z=>by
  rw [List.foldl_cons,List.foldl_cons,<-Xt r l (Jm z r t)]
  rfl
theorem Abr (z:Yard) (k:Nat) (r:Run):Dq (upY z) k r=upY (Dq z k r):=by
 unfold Dq Kr
 exact Xt r _ ⟨z.now,z.seq,z.shelf,z.runs.set k r⟩
section
open Classical in
noncomputable def Ph (y:Yard):Int:=if Bq y then 0 else 8
noncomputable def doO (y:Yard) (d:Deed):Yard×Reply :=
 if Bp d=false then (y,⟨5,0,0,0⟩) else
 match d.kind with
 | 1=>(G7 y d.run d.plan,⟨G6 y d.run d.plan,0,0,0⟩)
 | 2=>Gs y d.worker d.draw
 | 3=>(Ix y d.run d.task d.try_,⟨D8 y d.run d.task d.try_,0,0,0⟩)
 | 4=>(Iw y d.run d.task d.try_,⟨D8 y d.run d.task d.try_,0,0,0⟩)
 | 5=>(Gt y,⟨Ha y,0,0,0⟩)
 | 6=>(Fw y d.run,⟨Fu y d.run,0,0,0⟩)
 | 7=>(Fq y d.run,⟨Fo y d.run,0,0,0⟩)
 | _=>(Js y,⟨Ph y,0,0,0⟩)
theorem So {b c:Nat} {w:World} {u0 u1 u2 u3 v0 v1 v2 v3:Value} (X:DBox b [u0,u1,u2,u3] w) (Y:DBox c [v0,v1,v2,v3] w) {x0 x1 x2 x3:Value} {rest:List Value} :
  (results Tryz.f79 (x0 :: x1 :: x2 :: x3 :: .pointer (some ⟨b,0,none⟩) :: .pointer (some ⟨c,0,none⟩) :: rest).toArray).run Tryz.prog w = .ok (.tuple #[.agg #[u0,u1,u2,u3],.agg #[v0,v1,v2,v3]]) w:=by
 have c0:=X.cell 0 _ rfl
 have c1:=X.cell 1 _ rfl
 have c2:=X.cell 2 _ rfl
 have c3:=X.cell 3 _ rfl
 have d0:=Y.cell 0 _ rfl
 have d1:=Y.cell 1 _ rfl
 have d2:=Y.cell 2 _ rfl
 have d3:=Y.cell 3 _ rfl
 simp [results,Tryz.results79,go_sem,c0,c1,c2,c3,d0,d1,d2,d3]
theorem Pi {d:Deed} (h:Bp d=true):inB d.kind 1 8=true:=by
 unfold Bp at h
 simp only [Bool.and_eq_true] at h
 exact h.1.1.1.1
theorem Pj {rn tk ty wk dr:Int} {p:Plan} (h:Bp ⟨2,rn,p,tk,ty,wk,dr⟩=true):0<=dr/\dr<=1000000000:=by
 unfold Bp at h
 simp only [Bool.and_eq_true] at h
 have h2:=h.1.2
 simp at h2
 exact Bf.1 (show inB dr 0 1000000000=true from h2.2)
theorem Zb (y:Yard) (s:Sl×Sl) (d:Deed) (sd:Sl) (w:World) (hl:Ai y<=2000000) (hp:d.plan.edges.length<=2000000) (h:Ab.rd w w.heap.size y s) (pJ:Be.rd w w.heap.size d sd) :
  Calls Tryz.prog 79 #[By y s,Bm d sd] w (Qi (doO y d) w):=by
 obtain ⟨⟨A1,n1,c1⟩,⟨A2,n2,c2⟩⟩:=s
 obtain ⟨A3,n3,c3⟩:=sd
 have qW:Ag.rd w w.heap.size d.plan ⟨A3,n3,c3⟩:=pJ
 obtain rfl:n3=d.plan.edges.length:=RdL.at1 (s:=⟨A3,n3,c3⟩) qW
 have HR:=Lib.hid (show ∀ W,Below w.heap.size w W->Ab.rd W W.heap.size y (⟨A1,n1,c1⟩,⟨A2,n2,c2⟩) from fun W hW=>Ab.rd_more (Ab.rd_below h hW) hW.size)
 have HP:=Lib.hid (show ∀ W,Below w.heap.size w W->Ag.rd W W.heap.size d.plan ⟨A3,d.plan.edges.length,c3⟩ from fun W hW=>Ag.rd_more (Ag.rd_below qW hW) hW.size)
 have CD:=Lib.hid (fun W (hW:Below w.heap.size w W)=>Rs d ⟨A3,d.plan.edges.length,c3⟩ W (Be.rd_more (Be.rd_below pJ hW) hW.size))
 have CC:=Lib.hid (fun W hW=>C9 y (⟨A1,n1,c1⟩,⟨A2,n2,c2⟩) W hl (HR.out W hW))
 clear h pJ qW
 obtain ⟨kd,rn,p,tk,ty,wk,dr⟩:=d
 replace hp:p.edges.length<=2000000:=hp
 replace HP:Hid (∀ W,Below w.heap.size w W->Ag.rd W W.heap.size p ⟨A3,p.edges.length,c3⟩):=HP
 obtain ⟨W,aG,X,D,RES,RP,OB,B0⟩:=bx5 w 31 [.int .i64 y.now,.int .i64 y.seq,.slice A1 n1 c1,.slice A2 n2 c2] 45 [.int .i64 kd,.int .i64 rn,.int .i64 p.prio,.int .i64 p.most,.int .i64 p.wait,.int .i64 p.tasks,.slice A3 p.edges.length c3,.int .i64 tk,.int .i64 ty,.int .i64 wk,.int .i64 dr] 31 [.int .i64 0,.int .i64 0,.slice none 0 0,.slice none 0 0] 69 [.int .i64 0,.int .i64 0,.int .i64 0,.int .i64 0] 31 [.int .i64 0,.int .i64 0,.slice none 0 0,.slice none 0 0]
 go_enter Tryz.func79,Tryz.ntmps79
 go_wp2_with fail
 rw [<-aG.out]
 clear aG
 have hWs:w.heap.size+1+1+1+1<W.heap.size:=OB.lt
 refine (CD.out _ B0).mono ?_
 rintro e1 w1 ⟨rfl,b1⟩
 replace X:=X.below b1
 replace D:=D.below b1
 replace OB:=OB.below b1
 replace RES:=RES.below b1
 replace RP:=RP.below b1
 have bJ:=b1.size
 replace B0:=Aa B0 b1
 clear b1 CD
 obtain ⟨X_0,X_1,X_2,X_3,X_l⟩:=X.g4
 obtain ⟨D_0,D_1,D_2,D_3,D_4,D_5,D_6,D_7,D_8,D_9,D_10,D_l⟩:=D.g11
 obtain ⟨OB_0,OB_1,OB_2,OB_3,OB_l⟩:=OB.g4
 cases hd:Bp ⟨kd,rn,p,tk,ty,wk,dr⟩
 case false =>
  have H:=Lib.hid (show doO y ⟨kd,rn,p,tk,ty,wk,dr⟩=(y,⟨5,0,0,0⟩) from if_pos hd)
  clear hd
  go_wp2_with fail
  refine (CC.out _ B0).mono ?_
  rintro e2 w2 ⟨s2,F,rfl,oy,nF,b2⟩
  have bT:∀ x∈F,w.heap.size+1+1+1+1<x:=fun x hx=>by have h1:=nF x hx;omega
  clear X_0 X_1 X_2 X_3 X_l
  clear D_0 D_1 D_2 D_3 D_4 D_5 D_6 D_7 D_8 D_9 D_10 D_l
  clear OB_0 OB_1 OB_2 OB_3 OB_l
  clear X D OB
  replace RES:=RES.below b2
  replace RP:=RP.below b2
  replace B0:=Aa B0 b2
  clear nF b2
  obtain ⟨RES_0,RES_1,RES_2,RES_3,RES_l⟩:=RES.g4
  obtain ⟨RP_0,RP_1,RP_2,RP_3,RP_l⟩:=RP.g4
  have rf:=RES.free
  have pf:=RP.free
  have aC:w.heap.size+1+1+1≠w.heap.size+1+1:=by omega
  go_wp2
  have RES2:=DBox.row4 RES rfl (.int .i64 y.now) (.int .i64 y.seq) (.slice s2.1.a s2.1.n s2.1.c) (.slice s2.2.a s2.2.n s2.2.c)
  have RP2:=DBox.row4 ((((RP.setOther (a:=⟨w.heap.size+1+1,0,none⟩) aC (.int .i64 y.now)).setOther (a:=⟨w.heap.size+1+1,1,none⟩) aC (.int .i64 y.seq)).setOther (a:=⟨w.heap.size+1+1,2,none⟩) aC (.slice s2.1.a s2.1.n s2.1.c)).setOther (a:=⟨w.heap.size+1+1,3,none⟩) aC (.slice s2.2.a s2.2.n s2.2.c)) rfl (.int .i64 5) (.int .i64 0) (.int .i64 0) (.int .i64 0)
  have RES3:=((((RES2.setOther (a:=⟨w.heap.size+1+1+1,0,none⟩) aC.symm (.int .i64 5)).setOther (a:=⟨w.heap.size+1+1+1,1,none⟩) aC.symm (.int .i64 0)).setOther (a:=⟨w.heap.size+1+1+1,2,none⟩) aC.symm (.int .i64 0)).setOther (a:=⟨w.heap.size+1+1+1,3,none⟩) aC.symm (.int .i64 0))
  have en1:w.heap.size+1+1∉F:=fun hx=>by have:=bT _ hx;omega
  have en2:w.heap.size+1+1+1∉F:=fun hx=>by have:=bT _ hx;omega
  refine bodyPost_ret (So RES3 RP2) rfl ⟨s2,F,by rw [H.out],by rw [H.out];exact (by (repeat (refine Dt.ow_set Ab ?_ (by first | exact en1 | exact en2) _));exact (show Ab.ow _ F y s2 from oy)),fun x hx=>by have:=bT x hx;omega,?_⟩
  repeat (first | (with_reducible exact B0) | refine Below.setCell ?_ (by simp<;>omega) _)
 replace hd:=Lib.hid hd
 have hkd:=Bf.1 (Pi hd.out)
 dsimp only at hkd
 clear CC
 rcases (show kd=1\/kd=2\/kd=3\/kd=4\/kd=5\/kd=6\/kd=7\/kd=8 by omega) with rfl | rfl | rfl | rfl | rfl | rfl | rfl | rfl
 have H:=Lib.hid (show doO y ⟨1,rn,p,tk,ty,wk,dr⟩=(G7 y rn p,⟨G6 y rn p,0,0,0⟩) by unfold doO;rw [if_neg (by rw [hd.out];simp)];rfl)
 have CS:=Lib.hid (Sb y (⟨A1,n1,c1⟩,⟨A2,n2,c2⟩) rn p ⟨A3,p.edges.length,c3⟩ w1 hl hp (HR.out _ B0) (HP.out _ B0))
 generalize G7 y rn p=z at *
 generalize G6 y rn p=c at *
 rotate_left
 ·have H:Hid (doO y ⟨2,rn,p,tk,ty,wk,dr⟩=Gs y wk dr):=by
   show doO y ⟨2,rn,p,tk,ty,wk,dr⟩=_
   unfold doO
   rw [if_neg (by rw [hd.out];simp)]
   rfl
  have sS:=Lib.hid (Pj hd.out)
  obtain ⟨dn,rfl⟩:=Int.eq_ofNat_of_zero_le sS.out.1
  have CS:=Lib.hid (Vi y (⟨A1,n1,c1⟩,⟨A2,n2,c2⟩) wk dn w1 hl (by have:=sS.out;omega) (HR.out _ B0))
  generalize Gs y wk (dn:Int)=o at *
  obtain ⟨z,⟨o0,o1,o2,o3⟩⟩:=o
  go_wp2_with fail
  refine CS.out.mono ?_
  rintro e2 w2 ⟨s2,F,rfl,oy,nF,b2⟩
  replace oy:Ab.ow w2 F z s2:=oy
  have bT:∀ x∈F,w.heap.size+1+1+1+1<x:=fun x hx=>by have h1:=nF x hx;omega
  clear X_0 X_1 X_2 X_3 X_l
  clear D_0 D_1 D_2 D_3 D_4 D_5 D_6 D_7 D_8 D_9 D_10 D_l
  clear OB_0 OB_1 OB_2 OB_3 OB_l
  clear X D OB
  replace RES:=RES.below b2
  replace RP:=RP.below b2
  replace B0:=Aa B0 b2
  clear nF b2
  obtain ⟨RES_0,RES_1,RES_2,RES_3,RES_l⟩:=RES.g4
  obtain ⟨RP_0,RP_1,RP_2,RP_3,RP_l⟩:=RP.g4
  have rf:=RES.free
  have pf:=RP.free
  have aC:w.heap.size+1+1+1≠w.heap.size+1+1:=by omega
  go_wp2
  have RES2:=DBox.row4 RES rfl (.int .i64 z.now) (.int .i64 z.seq) (.slice s2.1.a s2.1.n s2.1.c) (.slice s2.2.a s2.2.n s2.2.c)
  have RP2:=DBox.row4 ((((RP.setOther (a:=⟨w.heap.size+1+1,0,none⟩) aC (.int .i64 z.now)).setOther (a:=⟨w.heap.size+1+1,1,none⟩) aC (.int .i64 z.seq)).setOther (a:=⟨w.heap.size+1+1,2,none⟩) aC (.slice s2.1.a s2.1.n s2.1.c)).setOther (a:=⟨w.heap.size+1+1,3,none⟩) aC (.slice s2.2.a s2.2.n s2.2.c)) rfl (.int .i64 o0) (.int .i64 o1) (.int .i64 o2) (.int .i64 o3)
  have RES3:=((((RES2.setOther (a:=⟨w.heap.size+1+1+1,0,none⟩) aC.symm (.int .i64 o0)).setOther (a:=⟨w.heap.size+1+1+1,1,none⟩) aC.symm (.int .i64 o1)).setOther (a:=⟨w.heap.size+1+1+1,2,none⟩) aC.symm (.int .i64 o2)).setOther (a:=⟨w.heap.size+1+1+1,3,none⟩) aC.symm (.int .i64 o3))
  have en1:w.heap.size+1+1∉F:=fun hx=>by have:=bT _ hx;omega
  have en2:w.heap.size+1+1+1∉F:=fun hx=>by have:=bT _ hx;omega
  refine bodyPost_ret (So RES3 RP2) rfl ⟨s2,F,by rw [H.out],by rw [H.out];exact (by (repeat (refine Dt.ow_set Ab ?_ (by first | exact en1 | exact en2) _));exact (show Ab.ow _ F z s2 from oy)),fun x hx=>by have:=bT x hx;omega,?_⟩
  repeat (first | (with_reducible exact B0) | refine Below.setCell ?_ (by simp<;>omega) _)
 have H:=Lib.hid (show doO y ⟨3,rn,p,tk,ty,wk,dr⟩=(Ix y rn tk ty,⟨D8 y rn tk ty,0,0,0⟩) by unfold doO;rw [if_neg (by rw [hd.out];simp)];rfl)
 have CS:=Lib.hid (Oj y (⟨A1,n1,c1⟩,⟨A2,n2,c2⟩) rn tk ty w1 hl (HR.out _ B0))
 generalize Ix y rn tk ty=z at *
 generalize D8 y rn tk ty=c at *
 rotate_left
 have H:=Lib.hid (show doO y ⟨4,rn,p,tk,ty,wk,dr⟩=(Iw y rn tk ty,⟨D8 y rn tk ty,0,0,0⟩) by unfold doO;rw [if_neg (by rw [hd.out];simp)];rfl)
 have CS:=Lib.hid (Vb y (⟨A1,n1,c1⟩,⟨A2,n2,c2⟩) rn tk ty w1 hl (HR.out _ B0))
 generalize Iw y rn tk ty=z at *
 generalize D8 y rn tk ty=c at *
 rotate_left
 have H:=Lib.hid (show doO y ⟨5,rn,p,tk,ty,wk,dr⟩=(Gt y,⟨Ha y,0,0,0⟩) by unfold doO;rw [if_neg (by rw [hd.out];simp)];rfl)
 have CS:=Lib.hid (Vo y (⟨A1,n1,c1⟩,⟨A2,n2,c2⟩) w1 hl (HR.out _ B0))
 generalize Gt y=z at *
 generalize Ha y=c at *
 rotate_left
 have H:=Lib.hid (show doO y ⟨6,rn,p,tk,ty,wk,dr⟩=(Fw y rn,⟨Fu y rn,0,0,0⟩) by unfold doO;rw [if_neg (by rw [hd.out];simp)];rfl)
 have CS:=Lib.hid (Si y (⟨A1,n1,c1⟩,⟨A2,n2,c2⟩) rn w1 hl (HR.out _ B0))
 generalize Fw y rn=z at *
 generalize Fu y rn=c at *
 rotate_left
 have H:=Lib.hid (show doO y ⟨7,rn,p,tk,ty,wk,dr⟩=(Fq y rn,⟨Fo y rn,0,0,0⟩) by unfold doO;rw [if_neg (by rw [hd.out];simp)];rfl)
 have CS:=Lib.hid (Sf y (⟨A1,n1,c1⟩,⟨A2,n2,c2⟩) rn w1 hl (HR.out _ B0))
 generalize Fq y rn=z at *
 generalize Fo y rn=c at *
 rotate_left
 ·have H:Hid (doO y ⟨8,rn,p,tk,ty,wk,dr⟩=(Js y,⟨Ph y,0,0,0⟩)):=by
   show doO y ⟨8,rn,p,tk,ty,wk,dr⟩=_
   unfold doO
   rw [if_neg (by rw [hd.out];simp)]
   rfl
  have CS:=Lib.hid (Qd y (⟨A1,n1,c1⟩,⟨A2,n2,c2⟩) w1 hl (HR.out _ B0))
  have CY:=Lib.hid (fun W hW=>D7 y (⟨A1,n1,c1⟩,⟨A2,n2,c2⟩) W hl (HR.out W hW))
  generalize Js y=z at *
  go_wp2_with fail
  refine CS.out.mono ?_
  rintro e2 w2 ⟨s2,F,rfl,oy,nF,b2⟩
  replace oy:Ab.ow w2 F z s2:=oy
  have bT:∀ x∈F,w.heap.size+1+1+1+1<x:=fun x hx=>by have h1:=nF x hx;omega
  clear X_0 X_1 X_2 X_3 X_l
  clear D_0 D_1 D_2 D_3 D_4 D_5 D_6 D_7 D_8 D_9 D_10 D_l
  clear OB_0 OB_1 OB_2 OB_3 OB_l
  replace X:=X.below b2
  replace D:=D.below b2
  replace OB:=OB.below b2
  replace RES:=RES.below b2
  replace RP:=RP.below b2
  obtain ⟨X_0,X_1,X_2,X_3,X_l⟩:=X.g4
  obtain ⟨D_0,D_1,D_2,D_3,D_4,D_5,D_6,D_7,D_8,D_9,D_10,D_l⟩:=D.g11
  obtain ⟨OB_0,OB_1,OB_2,OB_3,OB_l⟩:=OB.g4
  have OBf:=OB.free
  replace B0:=Aa B0 b2
  clear nF b2
  go_upto_region 7 with fail
  clear X_0 X_1 X_2 X_3 X_l
  clear D_0 D_1 D_2 D_3 D_4 D_5 D_6 D_7 D_8 D_9 D_10 D_l
  have X9:=X
  clear D OBf
  have cE:=Chg.cells4 w2 (w.heap.size+1+1+1+1) 0 1 2 3 (.int .i64 z.now) (.int .i64 z.seq) (.slice s2.1.a s2.1.n s2.1.c) (.slice s2.2.a s2.2.n s2.2.c)
  have dH:=Lib.hid (show ∀ x,x∈[w.heap.size+1+1+1+1]->x=w.heap.size+1+1+1+1 from fun x hx=>by simpa using hx)
  clear OB_0 OB_1 OB_2 OB_3 OB_l
  replace OB:=DBox.row4 OB rfl (.int .i64 z.now) (.int .i64 z.seq) (.slice s2.1.a s2.1.n s2.1.c) (.slice s2.2.a s2.2.n s2.2.c)
  replace RES:=RES.chg cE (fun hx=>by have:=dH.out _ hx;omega)
  replace RP:=RP.chg cE (fun hx=>by have:=dH.out _ hx;omega)
  replace oy:Ab.ow _ F z s2:=Ab.ow_chg (F:=F) (x:=z) (s:=s2) oy cE (fun x hx h=>by have h1:=dH.out x h;have h2:=bT x hx;omega)
  replace B0:=B0.trans (cE.below (by have:=B0.size;omega) (fun x hx=>by have:=dH.out x hx;omega))
  have hCo9:=cE
  clear cE
  replace X:=X9.chg hCo9 (fun hx=>by have:=dH.out _ hx;omega)
  clear X9
  generalize (((w2.setCell ⟨w.heap.size+1+1+1+1,0,none⟩ (.int .i64 z.now)).setCell ⟨w.heap.size+1+1+1+1,1,none⟩ (.int .i64 z.seq)).setCell ⟨w.heap.size+1+1+1+1,2,none⟩ (.slice s2.1.a s2.1.n s2.1.c)).setCell ⟨w.heap.size+1+1+1+1,3,none⟩ (.slice s2.2.a s2.2.n s2.2.c)=w3 at *
  obtain ⟨OB_0,OB_1,OB_2,OB_3,OB_l⟩:=OB.g4
  obtain ⟨X_0,X_1,X_2,X_3,X_l⟩:=X.g4
  go_wp2_with fail
  refine (CY.out _ B0).mono ?_
  rintro e3 w4 ⟨rfl,b4⟩
  clear X_0 X_1 X_2 X_3 X_l
  clear OB_0 OB_1 OB_2 OB_3 OB_l
  clear X
  replace OB:=OB.below b4
  replace RES:=RES.below b4
  replace RP:=RP.below b4
  replace oy:Ab.ow w4 F z s2:=Ab.ow_below (F:=F) (x:=z) (s:=s2) oy b4
  replace B0:=Aa B0 b4
  clear b4
  obtain ⟨OB_0,OB_1,OB_2,OB_3,OB_l⟩:=OB.g4
  by_cases q:Bq y
  ·rw [Bs q]
   replace H:=Lib.hid (H.out.trans (by rw [show Ph y=0 from if_pos q]))
   clear q
   obtain ⟨RES_0,RES_1,RES_2,RES_3,RES_l⟩:=RES.g4
   obtain ⟨RP_0,RP_1,RP_2,RP_3,RP_l⟩:=RP.g4
   have rf:=RES.free
   have pf:=RP.free
   have aC:w.heap.size+1+1+1≠w.heap.size+1+1:=by omega
   go_wp2
   have RES2:=DBox.row4 RES rfl (.int .i64 z.now) (.int .i64 z.seq) (.slice s2.1.a s2.1.n s2.1.c) (.slice s2.2.a s2.2.n s2.2.c)
   have RP2:=DBox.row4 ((((RP.setOther (a:=⟨w.heap.size+1+1,0,none⟩) aC (.int .i64 z.now)).setOther (a:=⟨w.heap.size+1+1,1,none⟩) aC (.int .i64 z.seq)).setOther (a:=⟨w.heap.size+1+1,2,none⟩) aC (.slice s2.1.a s2.1.n s2.1.c)).setOther (a:=⟨w.heap.size+1+1,3,none⟩) aC (.slice s2.2.a s2.2.n s2.2.c)) rfl (.int .i64 0) (.int .i64 0) (.int .i64 0) (.int .i64 0)
   have RES3:=((((RES2.setOther (a:=⟨w.heap.size+1+1+1,0,none⟩) aC.symm (.int .i64 0)).setOther (a:=⟨w.heap.size+1+1+1,1,none⟩) aC.symm (.int .i64 0)).setOther (a:=⟨w.heap.size+1+1+1,2,none⟩) aC.symm (.int .i64 0)).setOther (a:=⟨w.heap.size+1+1+1,3,none⟩) aC.symm (.int .i64 0))
   have en1:w.heap.size+1+1∉F:=fun hx=>by have:=bT _ hx;omega
   have en2:w.heap.size+1+1+1∉F:=fun hx=>by have:=bT _ hx;omega
   refine bodyPost_ret (So RES3 RP2) rfl ⟨s2,F,by rw [H.out],by rw [H.out];exact (by (repeat (refine Dt.ow_set Ab ?_ (by first | exact en1 | exact en2) _));exact (show Ab.ow _ F z s2 from oy)),fun x hx=>by have:=bT x hx;omega,?_⟩
   repeat (first | (with_reducible exact B0) | refine Below.setCell ?_ (by simp<;>omega) _)
  ·rw [Al q]
   replace H:=Lib.hid (H.out.trans (by rw [show Ph y=8 from if_neg q]))
   clear q
   obtain ⟨RES_0,RES_1,RES_2,RES_3,RES_l⟩:=RES.g4
   obtain ⟨RP_0,RP_1,RP_2,RP_3,RP_l⟩:=RP.g4
   have rf:=RES.free
   have pf:=RP.free
   have aC:w.heap.size+1+1+1≠w.heap.size+1+1:=by omega
   go_wp2
   have RES2:=DBox.row4 RES rfl (.int .i64 z.now) (.int .i64 z.seq) (.slice s2.1.a s2.1.n s2.1.c) (.slice s2.2.a s2.2.n s2.2.c)
   have RP2:=DBox.row4 ((((RP.setOther (a:=⟨w.heap.size+1+1,0,none⟩) aC (.int .i64 z.now)).setOther (a:=⟨w.heap.size+1+1,1,none⟩) aC (.int .i64 z.seq)).setOther (a:=⟨w.heap.size+1+1,2,none⟩) aC (.slice s2.1.a s2.1.n s2.1.c)).setOther (a:=⟨w.heap.size+1+1,3,none⟩) aC (.slice s2.2.a s2.2.n s2.2.c)) rfl (.int .i64 8) (.int .i64 0) (.int .i64 0) (.int .i64 0)
   have RES3:=((((RES2.setOther (a:=⟨w.heap.size+1+1+1,0,none⟩) aC.symm (.int .i64 8)).setOther (a:=⟨w.heap.size+1+1+1,1,none⟩) aC.symm (.int .i64 0)).setOther (a:=⟨w.heap.size+1+1+1,2,none⟩) aC.symm (.int .i64 0)).setOther (a:=⟨w.heap.size+1+1+1,3,none⟩) aC.symm (.int .i64 0))
   have en1:w.heap.size+1+1∉F:=fun hx=>by have:=bT _ hx;omega
   have en2:w.heap.size+1+1+1∉F:=fun hx=>by have:=bT _ hx;omega
   refine bodyPost_ret (So RES3 RP2) rfl ⟨s2,F,by rw [H.out],by rw [H.out];exact (by (repeat (refine Dt.ow_set Ab ?_ (by first | exact en1 | exact en2) _));exact (show Ab.ow _ F z s2 from oy)),fun x hx=>by have:=bT x hx;omega,?_⟩
   repeat (first | (with_reducible exact B0) | refine Below.setCell ?_ (by simp<;>omega) _)
 all_goals
  go_wp2_with fail
  refine CS.out.mono ?_
  rintro e2 w2 ⟨s2,F,rfl,oy,nF,b2⟩
  replace oy:Ab.ow w2 F z s2:=oy
  have bT:∀ x∈F,w.heap.size+1+1+1+1<x:=fun x hx=>by have h1:=nF x hx;omega
  clear X_0 X_1 X_2 X_3 X_l
  clear D_0 D_1 D_2 D_3 D_4 D_5 D_6 D_7 D_8 D_9 D_10 D_l
  clear OB_0 OB_1 OB_2 OB_3 OB_l
  replace X:=X.below b2
  replace D:=D.below b2
  replace OB:=OB.below b2
  replace RES:=RES.below b2
  replace RP:=RP.below b2
  obtain ⟨X_0,X_1,X_2,X_3,X_l⟩:=X.g4
  obtain ⟨D_0,D_1,D_2,D_3,D_4,D_5,D_6,D_7,D_8,D_9,D_10,D_l⟩:=D.g11
  obtain ⟨OB_0,OB_1,OB_2,OB_3,OB_l⟩:=OB.g4
  have OBf:=OB.free
  replace B0:=Aa B0 b2
  clear nF b2
  go_upto_region 23 with fail
  clear X_0 X_1 X_2 X_3 X_l
  clear D_0 D_1 D_2 D_3 D_4 D_5 D_6 D_7 D_8 D_9 D_10 D_l
  clear X D OBf
  have cE:=Chg.cells4 w2 (w.heap.size+1+1+1+1) 0 1 2 3 (.int .i64 z.now) (.int .i64 z.seq) (.slice s2.1.a s2.1.n s2.1.c) (.slice s2.2.a s2.2.n s2.2.c)
  have dH:=Lib.hid (show ∀ x,x∈[w.heap.size+1+1+1+1]->x=w.heap.size+1+1+1+1 from fun x hx=>by simpa using hx)
  clear OB_0 OB_1 OB_2 OB_3 OB_l
  replace OB:=DBox.row4 OB rfl (.int .i64 z.now) (.int .i64 z.seq) (.slice s2.1.a s2.1.n s2.1.c) (.slice s2.2.a s2.2.n s2.2.c)
  replace RES:=RES.chg cE (fun hx=>by have:=dH.out _ hx;omega)
  replace RP:=RP.chg cE (fun hx=>by have:=dH.out _ hx;omega)
  replace oy:Ab.ow _ F z s2:=Ab.ow_chg (F:=F) (x:=z) (s:=s2) oy cE (fun x hx h=>by have h1:=dH.out x h;have h2:=bT x hx;omega)
  replace B0:=B0.trans (cE.below (by have:=B0.size;omega) (fun x hx=>by have:=dH.out x hx;omega))
  clear cE
  generalize (((w2.setCell ⟨w.heap.size+1+1+1+1,0,none⟩ (.int .i64 z.now)).setCell ⟨w.heap.size+1+1+1+1,1,none⟩ (.int .i64 z.seq)).setCell ⟨w.heap.size+1+1+1+1,2,none⟩ (.slice s2.1.a s2.1.n s2.1.c)).setCell ⟨w.heap.size+1+1+1+1,3,none⟩ (.slice s2.2.a s2.2.n s2.2.c)=w3 at *
  obtain ⟨OB_0,OB_1,OB_2,OB_3,OB_l⟩:=OB.g4
  obtain ⟨RES_0,RES_1,RES_2,RES_3,RES_l⟩:=RES.g4
  obtain ⟨RP_0,RP_1,RP_2,RP_3,RP_l⟩:=RP.g4
  have rf:=RES.free
  have pf:=RP.free
  have aC:w.heap.size+1+1+1≠w.heap.size+1+1:=by omega
  go_wp2
  have RES2:=DBox.row4 RES rfl (.int .i64 z.now) (.int .i64 z.seq) (.slice s2.1.a s2.1.n s2.1.c) (.slice s2.2.a s2.2.n s2.2.c)
  have RP2:=DBox.row4 ((((RP.setOther (a:=⟨w.heap.size+1+1,0,none⟩) aC (.int .i64 z.now)).setOther (a:=⟨w.heap.size+1+1,1,none⟩) aC (.int .i64 z.seq)).setOther (a:=⟨w.heap.size+1+1,2,none⟩) aC (.slice s2.1.a s2.1.n s2.1.c)).setOther (a:=⟨w.heap.size+1+1,3,none⟩) aC (.slice s2.2.a s2.2.n s2.2.c)) rfl (.int .i64 c) (.int .i64 0) (.int .i64 0) (.int .i64 0)
  have RES3:=((((RES2.setOther (a:=⟨w.heap.size+1+1+1,0,none⟩) aC.symm (.int .i64 c)).setOther (a:=⟨w.heap.size+1+1+1,1,none⟩) aC.symm (.int .i64 0)).setOther (a:=⟨w.heap.size+1+1+1,2,none⟩) aC.symm (.int .i64 0)).setOther (a:=⟨w.heap.size+1+1+1,3,none⟩) aC.symm (.int .i64 0))
  have en1:w.heap.size+1+1∉F:=fun hx=>by have:=bT _ hx;omega
  have en2:w.heap.size+1+1+1∉F:=fun hx=>by have:=bT _ hx;omega
  refine bodyPost_ret (So RES3 RP2) rfl ⟨s2,F,by rw [H.out],by rw [H.out];exact (by (repeat (refine Dt.ow_set Ab ?_ (by first | exact en1 | exact en2) _));exact (show Ab.ow _ F z s2 from oy)),fun x hx=>by have:=bT x hx;omega,?_⟩
  repeat (first | (with_reducible exact B0) | refine Below.setCell ?_ (by simp<;>omega) _)
end
theorem BldG.cut {α:Type} {d:Dt α} {E:TypeId} {w w':World} {base g:Nat} {v v':Value} {rs:List (α×d.S)} {G:List Nat} (h:BldG d E w base v rs G) {k:Nat} (hk:k<rs.length) (ho:Ow d.enc E w' base v' (rs.take k ++ rs.drop (k+1))) (hC:Chg [g] w w') (hv:v.ownBlock=some g) (rN:v'.ownBlock=some g) :
  ∃ G',BldG d E w' base v' (rs.take k ++ rs.drop (k+1)) G' /\ ∀ x∈G',x∈G:=by
 obtain ⟨h1,h2,h3,h4⟩:=h
 obtain ⟨Ga,G2,rfl,hGa,kM⟩:=h2.split k (Nat.le_of_lt hk)
 rw [List.drop_eq_getElem_cons hk] at kM
 obtain ⟨Gx,Gc,rfl,_,hGc⟩:=kM.head
 have dV:∀ x∈Ga ++ Gc,x∈Ga ++ (Gx ++ Gc):=fun x hx=>by
  rcases List.mem_append.1 hx with h | h
  ·exact List.mem_append_left _ h
  ·exact List.mem_append_right _ (List.mem_append_right _ h)
 refine ⟨Ga ++ Gc,⟨ho,(hGa.append hGc).chg hC (fun b hb hx=>(h4 b (dV b hb)).2 (by rw [List.mem_singleton.1 hx];exact hv)),?_,fun b hb=>⟨(h4 b (dV b hb)).1,fun e=>(h4 b (dV b hb)).2 (by rw [hv,<-e,rN])⟩⟩,dV⟩
 rw [List.nodup_append] at h3 ⊢
 exact ⟨h3.1,(List.nodup_append.1 h3.2.1).2.1,fun a ha b hb=>h3.2.2 a ha b (List.mem_append_right _ hb)⟩
theorem Jz {b:Nat} {w:World} {u0 u1 u2 u3:Value} (X:DBox b [u0,u1,u2,u3] w) {v0 v1 v2 v3 v5:Value} {rest:List Value} :
  (results Tryz.f114 (v0 :: v1 :: v2 :: v3 :: .pointer (some ⟨b,0,none⟩) :: v5 :: rest).toArray).run Tryz.prog w = .ok (.tuple #[.agg #[u0,u1,u2,u3],v5]) w:=by
 have c0:=X.cell 0 _ rfl
 have c1:=X.cell 1 _ rfl
 have c2:=X.cell 2 _ rfl
 have c3:=X.cell 3 _ rfl
 simp [results,Tryz.results114,go_sem,c0,c1,c2,c3]
theorem Sp (y:Yard) (s:Sl×Sl) (id:Int) (w:World) (hl:Ai y<=2000000) (h:Ab.rd w w.heap.size y s) :
  Calls Tryz.prog 114 #[By y s,.int .i64 id] w (Fn (Fq y id) (Fo y id) w):=by
 have HR:=Lib.hid (show ∀ W,Below w.heap.size w W->Ab.rd W W.heap.size y s from fun W hW=>Ab.rd_more (Ab.rd_below h hW) hW.size)
 obtain ⟨⟨A1,n1,c1⟩,⟨A2,n2,c2⟩⟩:=s
 have CC:=Lib.hid (fun W hW=>Ii y (⟨A1,n1,c1⟩,⟨A2,n2,c2⟩) W hl (HR.out W hW))
 have CY:=Lib.hid (fun W hW=>D6 y (⟨A1,n1,c1⟩,⟨A2,n2,c2⟩) W hl (HR.out W hW))
 have CA:=Lib.hid (fun W hW=>C6 y (⟨A1,n1,c1⟩,⟨A2,n2,c2⟩) id W hl (HR.out W hW))
 have CX:=Lib.hid (fun W hW=>show RdL Am W W.heap.size (.slice A2 n2 c2) y.runs from (HR.out W hW).2)
 clear h HR
 obtain ⟨W,aG,X,I,RES,B0⟩:=bx3 w 31 [.int .i64 y.now,.int .i64 y.seq,.slice A1 n1 c1,.slice A2 n2 c2] 3 [.int .i64 id] 31 [.int .i64 0,.int .i64 0,.slice none 0 0,.slice none 0 0]
 go_enter Tryz.func114,Tryz.ntmps114
 go_wp2_with fail
 rw [<-aG.out]
 clear aG
 have dM:w.heap.size+1+1<W.heap.size:=RES.lt
 refine (CC.out _ B0).mono ?_
 rintro e1 w1 ⟨⟨B1,m1,e1⟩,⟨B2,m2,e2⟩,F1,base,rfl,oS,dY,aS,cD,oR,b1⟩
 have bJ:=b1.size
 replace X:=X.below b1
 replace I:=I.below b1
 replace RES:=RES.below b1
 replace B0:=Aa B0 b1
 clear b1
 obtain ⟨rs,cM,G0,oR⟩:=oR
 have hm:=Lib.hid cM
 clear cM
 replace oR:BldG Am 89 w1 base (.slice B2 m2 e2) rs G0:=oR
 have tS:=oR.2.1.lt
 have pY:∀ g,(Value.slice B2 m2 e2).ownBlock=some g->g≠w1.heap.size:=fun g hg h=>by
  have:=(oR.1.within g hg).2
  omega
 obtain ⟨F,oy,nF⟩:∃ F,Ab.ow w1 F y (⟨B1,m1,e1⟩,⟨B2,m2,e2⟩) /\ ∀ x∈F,W.heap.size<=x:=by
  have hB:Bld Am 89 w1 base (.slice B2 m2 e2) rs:=⟨G0,oR⟩
  replace hm:=hm.out
  obtain ⟨F2,h5,h6⟩:=hB.owl hm
  refine ⟨F1 ++ F2,⟨F1,F2,rfl,?_,oS,h5⟩,fun b hb=>?_⟩
  ·rw [List.nodup_append]
   refine ⟨oS.nodup,h5.nodup,fun u hu u' hu' e=>?_⟩
   have:=dY u hu
   have:=h6 u' hu'
   omega
  ·rcases List.mem_append.1 hb with hb | hb
   ·exact (dY b hb).1
   ·have:=h6 b hb;omega
 go_upto_region 2 with fail
 have OB:=DBox.new 31 [.int .i64 y.now,.int .i64 y.seq,.slice B1 m1 e1,.slice B2 m2 e2] w1 (b:=w1.heap.size) rfl
 have b2:Below w1.heap.size w1 (w1.alloc (.cells #[.int .i64 y.now,.int .i64 y.seq,.slice B1 m1 e1,.slice B2 m2 e2] 31)):=(Below.refl _ _).alloc (Nat.le_refl _) _
 replace X:=X.below b2
 replace I:=I.below b2
 replace RES:=RES.below b2
 replace oy:=Ab.ow_below (F:=F) (x:=y) (s:=(⟨B1,m1,e1⟩,⟨B2,m2,e2⟩)) oy b2
 replace oS:=oS.below b2
 replace oR:=oR.below b2
 replace B0:=Aa B0 b2
 have ow1:=OB.lt
 have hbob:base<=w1.heap.size:=cD
 replace cD:=Nat.le_trans cD b2.size
 clear b2
 generalize w1.alloc (.cells #[.int .i64 y.now,.int .i64 y.seq,.slice B1 m1 e1,.slice B2 m2 e2] 31)=w2 at *
 generalize cJ:w1.heap.size=ob at *
 obtain ⟨X_0,X_1,X_2,X_3,X_l⟩:=X.g4
 obtain ⟨I_0,I_l⟩:=I.g1
 obtain ⟨OB_0,OB_1,OB_2,OB_3,OB_l⟩:=OB.g4
 go_wp2_with fail
 refine (CA.out _ B0).mono ?_
 rintro e1 w3 ⟨rfl,b3⟩
 clear X_0 X_1 X_2 X_3 X_l
 clear I_0 I_l
 clear OB_0 OB_1 OB_2 OB_3 OB_l
 replace X:=X.below b3
 replace I:=I.below b3
 replace OB:=OB.below b3
 replace RES:=RES.below b3
 replace oy:Ab.ow w3 F y (⟨B1,m1,e1⟩,⟨B2,m2,e2⟩):=Ab.ow_below (F:=F) (x:=y) (s:=(⟨B1,m1,e1⟩,⟨B2,m2,e2⟩)) oy b3
 replace oS:=oS.below b3
 replace oR:=oR.below b3
 replace B0:=Aa B0 b3
 replace cD:=Nat.le_trans cD b3.size
 clear b3
 obtain ⟨X_0,X_1,X_2,X_3,X_l⟩:=X.g4
 obtain ⟨I_0,I_l⟩:=I.g1
 obtain ⟨OB_0,OB_1,OB_2,OB_3,OB_l⟩:=OB.g4
 go_wp2_with fail
 refine (CY.out _ B0).mono ?_
 rintro e1 w4 ⟨rfl,b4⟩
 clear X_0 X_1 X_2 X_3 X_l
 clear I_0 I_l
 clear OB_0 OB_1 OB_2 OB_3 OB_l
 replace X:=X.below b4
 replace I:=I.below b4
 replace OB:=OB.below b4
 replace RES:=RES.below b4
 replace oy:Ab.ow w4 F y (⟨B1,m1,e1⟩,⟨B2,m2,e2⟩):=Ab.ow_below (F:=F) (x:=y) (s:=(⟨B1,m1,e1⟩,⟨B2,m2,e2⟩)) oy b4
 replace oS:=oS.below b4
 replace oR:=oR.below b4
 replace B0:=Aa B0 b4
 replace cD:=Nat.le_trans cD b4.size
 clear b4
 obtain ⟨X_0,X_1,X_2,X_3,X_l⟩:=X.g4
 obtain ⟨I_0,I_l⟩:=I.g1
 obtain ⟨OB_0,OB_1,OB_2,OB_3,OB_l⟩:=OB.g4
 by_cases p0:Bq y
 case neg =>
  rw [Al p0]
  have H:=Lib.hid (show Fo y id=8 by unfold Fo;rw [if_pos p0])
  have H2:=Lib.hid (show Fq y id=y by unfold Fq;rw [H.out,if_neg (by decide)])
  obtain ⟨RES_0,RES_1,RES_2,RES_3,RES_l⟩:=RES.g4
  have rf:=RES.free
  go_wp2
  have en1:w.heap.size+1+1∉F:=fun hx=>by have:=nF _ hx;omega
  refine bodyPost_ret (Jz (DBox.row4 RES rfl _ _ _ _)) rfl ⟨(⟨B1,m1,e1⟩,⟨B2,m2,e2⟩),F,by rw [H.out,H2.out],by rw [H2.out];exact (by (repeat (refine Dt.ow_set Ab ?_ en1 _));exact (show Ab.ow _ F y (⟨B1,m1,e1⟩,⟨B2,m2,e2⟩) from oy)),fun x hx=>by have:=nF x hx;omega,?_⟩
  repeat (first | (with_reducible exact B0) | refine Below.setCell ?_ (by simp<;>omega) _)
 rw [Bs p0]
 have P0:=Lib.hid p0
 clear p0
 by_cases p1:Bo y id<0
 case pos =>
  have H:=Lib.hid (show Fo y id=10 by unfold Fo;rw [if_neg (fun h=>h P0.out),if_pos p1])
  have H2:=Lib.hid (show Fq y id=y by unfold Fq;rw [H.out,if_neg (by decide)])
  obtain ⟨RES_0,RES_1,RES_2,RES_3,RES_l⟩:=RES.g4
  have rf:=RES.free
  go_wp2
  have en1:w.heap.size+1+1∉F:=fun hx=>by have:=nF _ hx;omega
  refine bodyPost_ret (Jz (DBox.row4 RES rfl _ _ _ _)) rfl ⟨(⟨B1,m1,e1⟩,⟨B2,m2,e2⟩),F,by rw [H.out,H2.out],by rw [H2.out];exact (by (repeat (refine Dt.ow_set Ab ?_ en1 _));exact (show Ab.ow _ F y (⟨B1,m1,e1⟩,⟨B2,m2,e2⟩) from oy)),fun x hx=>by have:=nF x hx;omega,?_⟩
  repeat (first | (with_reducible exact B0) | refine Below.setCell ?_ (by simp<;>omega) _)
 rcases Cn y id with hr | ⟨k,hk,hr⟩
 ·exact absurd hr (by omega)
 have HK:=Lib.hid (Dr hk hr)
 have HR2:=Lib.hid hr
 rw [hr]
 clear hr p1
 have P1:=Lib.hid (show ¬ Bo y id<0 by have:=HR2.out;omega)
 have fY:(k:Int)<(n2:Int):=by have:=RdL.at1 (s:=⟨A2,n2,c2⟩) (CX.out _ B0);dsimp only at this;omega
 have dG:(0:Int)<=(k:Int):=by omega
 have hkn:¬ (k:Int)<0:=by omega
 obtain ⟨gx,ox,_,rfl,jZ,_,c0,c1_,c2_,c3_,c4_,c5_,c6,c7_⟩:=(CX.out _ B0).run hk
 clear c0 c1_ c2_ c3_ c4_ c5_ c7_
 by_cases p2:y.runs[k].state=1
 case pos =>
  have q2:(y.runs[k].state == 1)=true:=by simp [p2]
  have H:=Lib.hid (show Fo y id=13 by unfold Fo;rw [if_neg (fun h=>h P0.out),if_neg P1.out,if_pos (by rw [HK.out];exact p2)])
  clear p2
  have H2:=Lib.hid (show Fq y id=y by unfold Fq;rw [H.out,if_neg (by decide)])
  obtain ⟨RES_0,RES_1,RES_2,RES_3,RES_l⟩:=RES.g4
  have rf:=RES.free
  go_wp2
  have en1:w.heap.size+1+1∉F:=fun hx=>by have:=nF _ hx;omega
  refine bodyPost_ret (Jz (DBox.row4 RES rfl _ _ _ _)) rfl ⟨(⟨B1,m1,e1⟩,⟨B2,m2,e2⟩),F,by rw [H.out,H2.out],by rw [H2.out];exact (by (repeat (refine Dt.ow_set Ab ?_ en1 _));exact (show Ab.ow _ F y (⟨B1,m1,e1⟩,⟨B2,m2,e2⟩) from oy)),fun x hx=>by have:=nF x hx;omega,?_⟩
  repeat (first | (with_reducible exact B0) | refine Below.setCell ?_ (by simp<;>omega) _)
 have q2:(y.runs[k].state == 1)=false:=by simp [p2]
 have H:=Lib.hid (show Fo y id=0 by unfold Fo;rw [if_neg (fun h=>h P0.out),if_neg P1.out,if_neg (by rw [HK.out];exact p2)])
 have H2:=Lib.hid (show Fq y id=⟨y.now,y.seq,y.shelf.map (Bi id),y.runs.take k ++ y.runs.drop (k+1)⟩ by unfold Fq;rw [if_pos H.out,HR2.out,Int.toNat_natCast])
 clear p2
 go_upto_region 9 with fail
 clear X_0 X_1 X_2 X_3 X_l
 clear X c6 q2 CC CY CA CX
 have bR:rs.length=y.runs.length:=by have:=congrArg List.length hm.out;simpa using this
 have hkr:k<rs.length:=by omega
 have qH:y.runs.length<=8:=P0.out.2.2.2.2.2.2.1
 obtain ⟨gr,cap,hv,qN,fL⟩:∃ gr cap,Value.slice B2 m2 e2 = .slice (some ⟨gr,0,none⟩) rs.length cap/\base<=gr/\gr<w4.heap.size:=by
  rcases oR.1.form with ⟨_,h⟩ | ⟨gr,cap,h,hb,hl,_⟩
  ·rw [h] at hkr;simp at hkr
  ·exact ⟨gr,cap,h,hb,hl⟩
 simp only [Value.slice.injEq] at hv
 obtain ⟨rfl,rfl,rfl⟩:=hv
 have CD:=Lib.hid (Xq rs gr e2 base k w4 hkr (by omega) oR.1)
 have wr1:IntKind.i64.wrap ((k:Int)+1)=(k:Int)+1:=IntWalk.i64_in _ (by omega)
 have dR:ob≠gr:=fun e=>pY gr rfl e.symm
 replace bR:=Lib.hid bR
 have hob4:ob<w4.heap.size:=OB.lt
 go_wp2_with fail
 refine CD.out.mono ?_
 rintro e5 w5 ⟨rfl,o5,gg⟩
 have hC:=Chg.of_grown gg
 have bL:=Lib.hid (show ∀ x,x∈[gr]->x=gr from fun x hx=>by simpa using hx)
 obtain ⟨G5,oR5,hG5⟩:=oR.cut hkr o5 hC rfl rfl
 have orr:=oR5.owl (l:=y.runs.take k ++ y.runs.drop (k+1)) (by rw [List.map_append,List.map_take,List.map_drop,hm.out])
 have hB5:∀ x∈Cm (.slice (some ⟨gr,0,none⟩) (rs.length - 1) e2) (rs.take k ++ rs.drop (k+1)).length ++ G5,x≠ob/\base<=x:=fun x hx=>by
  rcases List.mem_append.1 hx with hx | hx
  ·have h1:=E6 _ _ _ hx
   have:gr=x:=by simpa [Value.ownBlock] using h1
   subst this
   exact ⟨fun e=>dR e.symm,qN⟩
  ·have h1:=tS x (hG5 x hx)
   exact ⟨by omega,(oR.2.2.2 x (hG5 x hx)).1⟩
 generalize Cm (.slice (some ⟨gr,0,none⟩) (rs.length - 1) e2) (rs.take k ++ rs.drop (k+1)).length ++ G5=F2 at *
 clear OB_0 OB_1 OB_2 OB_3 OB_l
 replace OB:=OB.chg hC (fun hx=>dR (bL.out _ hx))
 replace RES:=RES.chg hC (fun hx=>by have:=bL.out _ hx;omega)
 clear I_0 I_l
 replace I:=I.chg hC (fun hx=>by have:=bL.out _ hx;omega)
 replace oS:=oS.chg hC (fun x hx h=>by have h1:=bL.out x h;have h2:=(dY x hx).2;omega)
 replace B0:=B0.trans (hC.below (by have:=B0.size;omega) (fun x hx=>by have:=bL.out _ hx;omega))
 have pC:=hC.size
 clear oR oy o5 gg hC oR5 hG5 CD
 obtain ⟨OB_0,OB_1,OB_2,OB_3,OB_l⟩:=OB.g4
 obtain ⟨I_0,I_l⟩:=I.g1
 have obf:=OB.free
 go_upto_region 10 with fail
 clear OB_0 OB_1 OB_2 OB_3 OB_l
 clear I_0 I_l
 have OB6:DBox ob [.int .i64 y.now,.int .i64 y.seq,.slice B1 m1 e1,.slice (some ⟨gr,0,none⟩) (rs.length - 1) e2] (w5.setCell ⟨ob,3,none⟩ (.slice (some ⟨gr,0,none⟩) (rs.length - 1) e2)):=OB.set 3 (by simp) _
 replace RES:=RES.setOther (a:=⟨ob,3,none⟩) (by show w.heap.size+1+1≠ob;omega) (.slice (some ⟨gr,0,none⟩) (rs.length - 1) e2)
 replace I:=I.setOther (a:=⟨ob,3,none⟩) (by show w.heap.size+1≠ob;omega) (.slice (some ⟨gr,0,none⟩) (rs.length - 1) e2)
 replace oS:=oS.set (a:=⟨ob,3,none⟩) (fun hx=>by have h1:_/\ob<base:=dY _ hx;omega) (.slice (some ⟨gr,0,none⟩) (rs.length - 1) e2)
 replace orr:=orr.set (a:=⟨ob,3,none⟩) (fun hx=>(hB5 _ hx).1 rfl) (.slice (some ⟨gr,0,none⟩) (rs.length - 1) e2)
 replace B0:Below w.heap.size w (w5.setCell ⟨ob,3,none⟩ (.slice (some ⟨gr,0,none⟩) (rs.length - 1) e2)):=Below.setCell B0 (by show w.heap.size<=ob;omega) _
 clear obf OB
 generalize w5.setCell ⟨ob,3,none⟩ (.slice (some ⟨gr,0,none⟩) (rs.length - 1) e2)=w6 at *
 generalize y.runs.take k ++ y.runs.drop (k+1)=RR at *
 generalize rs.length - 1=rn at *
 have OB:=OB6
 clear OB6
 obtain rfl:m1=y.shelf.length:=RdL.at1 (s:=⟨B1,m1,e1⟩) oS.rd
 have mZ:=Lib.hid (show y.shelf.length=4 from P0.out.2.2.1)
 have gK:=Lib.hid (fun (i:Nat) (hi:i<y.shelf.length)=>(P0.out.2.2.2.1 _ (List.getElem_mem hi)).1)
 have mW:w.heap.size+1+1<ob:=by omega
 have hF1':=Lib.hid (show ∀ x∈F1,w.heap.size+1+1<x/\x<base/\x≠ob from fun x hx=>by have h1:=dY x hx;omega)
 have hB5':=Lib.hid (show ∀ x∈F2,x≠ob/\base<=x from hB5)
 obtain ⟨OB_0,OB_1,OB_2,OB_3,OB_l⟩:=OB.g4
 obtain ⟨I_0,I_l⟩:=I.g1
 go_wp2
 clear OB_0 OB_1 OB_2 OB_3 OB_l
 clear I_0 I_l
 go_loopw [8,42] (fun u i wr=>∃ (j:Nat) (F:List Nat),j<=y.shelf.length/\i = .int .i64 j/\Hid (OwL (Dt.list Af) wr F (.slice B1 y.shelf.length e1) ((y.shelf.take j).map (Bi id) ++ y.shelf.drop j)/\(∀ x∈F,x∈F1)/\OwL Am wr F2 (.slice (some ⟨gr,0,none⟩) rn e2) RR)/\DBox ob [.int .i64 y.now,.int .i64 y.seq,.slice B1 y.shelf.length e1,.slice (some ⟨gr,0,none⟩) rn e2] wr/\DBox (w.heap.size+1) [.int .i64 id] wr/\DBox (w.heap.size+1+1) [.int .i64 0,.int .i64 0,.slice none 0 0,.slice none 0 0] wr/\Below w.heap.size w wr) (fun _ i _=>y.shelf.length - (intOf i).toNat)
 case atStart=>exact ⟨0,F1,Nat.zero_le _,rfl,⟨by simpa using oS,fun x hx=>hx,orr⟩,OB,I,RES,B0⟩
 case round =>
  clear oS orr OB I RES B0 dY hB5 hm pC
  obtain ⟨j,F,hj,rfl,hO,OB,I,RES,fS⟩:=hrel
  have hRl2:=RES.lt
  have hobl:=OB.lt
  obtain ⟨OB_0,OB_1,OB_2,OB_3,OB_l⟩:=OB.g4
  obtain ⟨I_0,I_l⟩:=I.g1
  by_cases aA:j<y.shelf.length
  ·have aB:(j:Int)<(y.shelf.length:Int):=by omega
   have hi00:(0:Int)<=(j:Int):=by omega
   have kI:j<((y.shelf.take j).map (Bi id) ++ y.shelf.drop j).length:=by simp;omega
   have hltH:=Lib.hid (show j<y.shelf.length/\y.shelf.length=4 from ⟨aA,mZ.out⟩)
   obtain ⟨os,gS,orr⟩:=hO.out
   have nZ:=gK.out j aA
   have eP:=Lib.hid (Ls (Bi id) aA)
   have hat:=Se (Bi id) aA kI
   obtain ⟨g,o,_,rfl,hg,_,_⟩:=os.rd.entryS kI
   have bd:Below wr.heap.size wr wr.drew:=(Below.refl _ _).drew
   obtain ⟨⟨A9,n9,c9⟩,Fx,jT,aY,jZ,eF,fK,bP,cG⟩:=OwL.trade (os.below bd) kI
   rw [hat] at jT bP
   clear hat
   replace jT:OwL Af wr.drew Fx (.slice A9 n9 c9) y.shelf[j]:=jT
   have rM:n9=y.shelf[j].length:=RdL.at1 (s:=⟨A9,n9,c9⟩) jT.rd
   subst rM
   have ck:wr.drew.cell? ⟨g,o+j,none⟩=some (.slice A9 y.shelf[j].length c9):=by
    have:=bP 0 _ rfl
    rw [show o+j * (Dt.list Af).enc.sz+0=o+j from by show o+j * 1+0=o+j;omega] at this
    exact this
   have hIn:w.heap.size+1∉Fx:=fun hx=>by have:=hF1'.out _ (gS _ (aY _ hx));omega
   have jQ:=Aa fS bd
   have Id:=I.below bd
   have jC:∀ (W:World) (x:Entry),DBox (w.heap.size+1) [.int .i64 id] W->Calls Tryz.prog 179 #[Fb x (),.pointer (some ⟨w.heap.size+1,0,none⟩)] W fun e w'=>e = .returned (.bool (x.run == id))/\Below W.heap.size W w' :=
    fun W x hX=>Xr id (w.heap.size+1) x W hX
   have CD:=Lib.hid (O9 y.shelf[j] A9 y.shelf[j].length c9 Fx 179 (w.heap.size+1) (fun e=>e.run == id) (Ks Tryz.func179 (by kernel_rfl) (by kernel_rfl)) wr.drew (by omega)
    (fun W x hW=>jC W x (Id.chg hW hIn))
    (M6 179 (w.heap.size+1) (fun e=>e.run == id) (Ks Tryz.func179 (by kernel_rfl) (by kernel_rfl)) y.shelf[j] A9 y.shelf[j].length c9 wr.drew (by omega) (Ns jT).rd (fun W x hW=>jC W x (Id.below hW)))
    (Ns jT))
   clear jC
   go_upto_region 13 with fail
   refine Bj (fun w'=>w'.cell? ⟨ob,2,none⟩=some (.slice (some ⟨g,o,none⟩) y.shelf.length e1)/\w'.cell? ⟨g,o+j,none⟩=some (.slice A9 y.shelf[j].length c9)) 11 (by kernel_rfl) ?_ (fun hHeld=>?_)
   ·exact ⟨OB_2,ck⟩
   refine aT 0 hHeld ?_
   try simp only [pS]
   refine aT 1 hHeld ?_
   try simp only [pS]
   refine aT 2 hHeld ?_
   try simp only [pS]
   refine aT 3 hHeld ?_
   try simp only [pS]
   refine aT 4 hHeld ?_
   try simp only [pS]
   refine aT 5 hHeld ?_
   try simp only [pS]
   refine aT 6 hHeld ?_
   try simp only [pS]
   refine aT 7 hHeld ?_
   try simp only [pS]
   refine aT 8 hHeld ?_
   try simp only [pS]
   refine oT 9 (fun K hK=>?_)
   (go_simp;refine CD.out.mono ?_;rintro e7 wa ⟨k9,F',rfl,hH,dV,hC⟩)
   have hgw2:g<wr.drew.heap.size:=os.lt g eF
   have fR:ob<wr.drew.heap.size:=OB.lt
   have mP:ob∉Fx:=fun hx=>(hF1'.out _ (gS _ (aY _ hx))).2.2 rfl
   have hgn:=hF1'.out g (gS _ eF)
   have hobg2:ob≠g:=fun e=>hgn.2.2 e.symm
   have qX:=(hC.cell (p:=⟨ob,2,none⟩) fR mP).trans hHeld.1
   have ck2:=(hC.cell (p:=⟨g,_,none⟩) hgw2 jZ).trans ck
   have hgf2:∀ j,wa.frozen? ⟨g,j,none⟩=false:=fun j=>(hC.frozen (p:=⟨g,_,none⟩) hgw2 jZ).trans (fK j)
   refine hK.out _ _ (fun _=>⟨qX,ck2⟩) ?_
   clear hK K
   try simp only [pS]
   refine oT 10 (fun K hK=>?_)
   go_simp
   refine hK.out _ _ (fun _=>⟨qX,ck2⟩) ?_
   clear hK K
   try simp only [pS]
   have hga:=hC.size
   refine oT 11 (fun K hK=>?_)
   go_simp
   refine hK.out _ _ (fun aC=>absurd rfl aC) ?_
   clear hK K hHeld
   try simp only [pS]
   refine Cg (by kernel_rfl) ?_ _
   obtain ⟨F3,o3,sB,rZ⟩:=cG wa (Bi id y.shelf[j]) ⟨A9,k9,c9⟩ F' hC (Uc hH) dV
   have eZ:E9 wa g (o+j * (Dt.list Af).enc.sz) ((Dt.list Af).enc.cells (Bi id y.shelf[j],(⟨A9,k9,c9⟩:Sl)))=wa.setCell ⟨g,o+j,none⟩ (.slice A9 k9 c9):=by
    show E9 wa g (o+j * 1) [.slice A9 k9 c9]=_
    rw [Nat.mul_one];rfl
   rw [eZ,eP.out] at o3
   have hS:=Chg.setCell wa g (o+j) (.slice A9 k9 c9)
   have eY:=Lib.hid (show ∀ x,x∈[g]->x=g from fun x hx=>by simpa using hx)
   have orr3:=((orr.below bd).chg hC (fun x hx hx2=>by have h1:=hF1'.out _ (gS _ (aY _ hx2));have h2:=hB5'.out x hx;omega)).chg hS (fun x hx hx2=>by have h1:=eY.out x hx2;have h2:=hB5'.out x hx;omega)
   have hX3:w.heap.size+1+1∉Fx:=fun hx=>by have:=hF1'.out _ (gS _ (aY _ hx));omega
   have RES3:=((RES.below bd).chg hC hX3).chg hS (fun hx=>by have:=eY.out _ hx;omega)
   have I3:=(Id.chg hC hIn).chg hS (fun hx=>by have:=eY.out _ hx;omega)
   have OB3:=((OB.below bd).chg hC mP).chg hS (fun hx=>hobg2 (eY.out _ hx))
   have B3:=(jQ.trans (hC.below jQ.size (fun z hz=>by have:=hF1'.out _ (gS _ (aY _ hz));omega))).trans (hS.below (base:=w.heap.size) (by have:=jQ.size;omega) (fun x hx=>by have:=eY.out x hx;omega))
   have qL:∀ x∈F3,x∈F1:=fun x hx=>gS x (sB x hx)
   clear cG hC hH dV CD os orr jT bP ck ck2 qX hgf2 fK hS RES I Id jQ bd eP sB
   clear OB_0 OB_1 OB_2 OB_3 OB_l
   clear I_0 I_l
   clear OB
   generalize wa.setCell ⟨g,o+j,none⟩ (.slice A9 k9 c9)=w7 at *
   have tL:=hltH.out.1
   have jS:=hltH.out.2
   have hj3:j<=3:=by omega
   replace jS:=Lib.hid jS
   go_wp2
   have hl4:=jS.out
   exact ⟨⟨j+1,F3,by omega,by go_num,⟨o3,qL,orr3⟩,OB3,I3,RES3,B3⟩,by simp [intOf];omega⟩
  ·have aB:¬ (j:Int)<(y.shelf.length:Int):=by omega
   obtain ⟨os,gS,orr⟩:=hO.out
   rw [List.take_of_length_le (by omega),List.drop_eq_nil_of_le (by omega),List.append_nil] at os
   obtain ⟨RES_0,RES_1,RES_2,RES_3,RES_l⟩:=RES.g4
   have rf:=RES.free
   have hRb:=Lib.hid (show w.heap.size+1+1<base from by omega)
   clear hO
   go_wp2
   have en1:w.heap.size+1+1∉F:=fun hx=>by have:=hF1'.out _ (gS _ hx);omega
   have en2:w.heap.size+1+1∉F2:=fun hx=>by have h1:=(hB5'.out _ hx).2;have:=hRb.out;omega
   refine bodyPost_ret (Jz (DBox.row4 RES rfl _ _ _ _)) rfl ⟨(⟨B1,y.shelf.length,e1⟩,⟨some ⟨gr,0,none⟩,rn,e2⟩),F ++ F2,by rw [H.out,H2.out],⟨F,F2,rfl,?_,?_,?_⟩,fun x hx=>?_,?_⟩
   ·rw [List.nodup_append]
    refine ⟨os.nodup,orr.nodup,fun a ha b hb e=>?_⟩
    subst e
    have h1:=hF1'.out a (gS a ha)
    have h2:=hB5'.out a hb
    omega
   ·rw [H2.out]
    show OwL (Dt.list Af) _ F (.slice B1 y.shelf.length e1) (y.shelf.map (Bi id))
    exact ((((os.set (a:=⟨_,_,none⟩) en1 _).set (a:=⟨_,_,none⟩) en1 _).set (a:=⟨_,_,none⟩) en1 _).set (a:=⟨_,_,none⟩) en1 _)
   ·rw [H2.out]
    show OwL Am _ F2 (.slice (some ⟨gr,0,none⟩) rn e2) RR
    exact ((((orr.set (a:=⟨_,_,none⟩) en2 _).set (a:=⟨_,_,none⟩) en2 _).set (a:=⟨_,_,none⟩) en2 _).set (a:=⟨_,_,none⟩) en2 _)
   ·rcases List.mem_append.1 hx with hx | hx
    ·have:=hF1'.out _ (gS _ hx);omega
    ·have h1:=(hB5'.out _ hx).2;have:=hRb.out;omega
   ·repeat (first | (with_reducible exact fS) | refine Below.setCell ?_ (by simp<;>omega) _)
end Go.Proofs.YtonlnjdempbfoaaGreat
