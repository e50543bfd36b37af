/-
  Fail of the reference. RoomFor of the reference. Holds and told of the program. RunFails: a right run stays right; what a yard keeps where runs of it are turned
-/
import Derived.Test.YtonlnjdempbfoaaGreatZOv0
import Derived.Test.YtonlnjdempbfoaaGreatZOv2
import Derived.Test.YtonlnjdempbfoaaGreatZOv3
import Derived.Test.YtonlnjdempbfoaaGreatZOv4
import Derived.Test.YtonlnjdempbfoaaGreatZOv5
import Derived.Test.YtonlnjdempbfoaaGreatZOv8
namespace Go.Proofs.YtonlnjdempbfoaaGreat
open Go.RowKit
set_option maxRecDepth 100000
set_option maxHeartbeats 4000000
set_option linter.unusedVariables false
set_option linter.unusedSimpArgs false
section
def Fn (z:Yard) (c:Int) (w:World) (e:Ending) (w':World):Prop :=
 ∃ s F,e = .returned (.tuple #[By z s,.int .i64 c])/\Ab.ow w' F z s/\(∀ b∈F,w.heap.size<=b)/\Below w.heap.size w w'
theorem Xe {b:Nat} {w:World} {u0 u1 u2 u3:Value} (X:DBox b [u0,u1,u2,u3] w) {v0 v1 v2 v3 v4 v5 v6 v7 v9:Value} {rest:List Value} :
  (results Tryz.f146 (v0 :: v1 :: v2 :: v3 :: v4 :: v5 :: v6 :: v7 :: .pointer (some ⟨b,0,none⟩) :: v9 :: rest).toArray).run Tryz.prog w = .ok (.tuple #[.agg #[u0,u1,u2,u3],v9]) w:=by
 have c0:=X.cell 0 _ rfl
 have c1:=X.cell 1 _ rfl
 have c2:=X.cell 2 _ rfl
 have c3:=X.cell 3 _ rfl
 simp [results,Tryz.results146,go_sem,c0,c1,c2,c3]
theorem Co {y:Yard} (h:Bq y) {k:Nat} (hk:k<y.runs.length):Er y.runs[k]:=(h.2.2.2.2.2.2.2.1 k hk).1
theorem Cb {r:Run} (h:Er r):1<=r.tasks.length/\r.tasks.length<=12:=by
 have h1:=Ch (Bn.1 h.2.1).1
 have h2:=h.2.2.1
 omega
theorem Fg (r:Run) (t:Nat):(Br r t).tasks.length=r.tasks.length:=by
 unfold Br
 split<;>simp [Bz,Lo]
open Classical in
noncomputable def Iw (y:Yard) (id tk tr:Int):Yard:=if D8 y id tk tr=0 then Dq y (Bo y id).toNat (Br (H8 y id) tk.toNat) else y
theorem Vb (y:Yard) (s:Sl×Sl) (id tk tr:Int) (w:World) (hl:Ai y<=2000000) (h:Ab.rd w w.heap.size y s) :
  Calls Tryz.prog 146 #[By y s,.int .i64 id,.int .i64 tk,.int .i64 tr] w (Fn (Iw y id tk tr) (D8 y id tk tr) w):=by
 have HR:=Lib.hid (show ∀ W,Below w.heap.size w W->Ab.rd W W.heap.size y s from fun W hW=>Ab.rd_more (Ab.rd_below h hW) hW.size)
 obtain ⟨⟨A1,n1,c1⟩,⟨A2,n2,c2⟩⟩:=s
 have CC:=Lib.hid (fun W hW=>C9 y (⟨A1,n1,c1⟩,⟨A2,n2,c2⟩) W hl (HR.out W hW))
 have CK:=Lib.hid (fun W hW=>Pb y (⟨A1,n1,c1⟩,⟨A2,n2,c2⟩) id tk tr W hl (HR.out W hW))
 have CA:=Lib.hid (fun W hW=>Cz y (⟨A1,n1,c1⟩,⟨A2,n2,c2⟩) id W hl (HR.out W hW))
 clear h
 obtain ⟨W,aG,X,RES,B0⟩:=bx2 w 31 [.int .i64 y.now,.int .i64 y.seq,.slice A1 n1 c1,.slice A2 n2 c2] 31 [.int .i64 0,.int .i64 0,.slice none 0 0,.slice none 0 0]
 go_enter Tryz.func146,Tryz.ntmps146
 go_wp2_with fail
 rw [<-aG.out]
 clear aG
 refine (CC.out _ B0).mono ?_
 rintro e1 w1 ⟨⟨⟨B1,m1,e1⟩,⟨B2,m2,e2⟩⟩,F,rfl,oy,nF,b1⟩
 have mB:=X.lt
 have dM:=RES.lt
 replace X:=X.below b1
 replace RES:=RES.below b1
 replace B0:=Aa B0 b1
 have bM:=Ab.ow_lt (F:=F) (x:=y) (s:=(⟨B1,m1,e1⟩,⟨B2,m2,e2⟩)) oy
 have bJ:=b1.size
 clear b1
 go_upto_region 2 with fail
 have OB:=DBox.new 31 [.int .i64 y.now,.int .i64 y.seq,.slice B1 m1 e1,.slice B2 m2 e2] w1 (b:=w1.heap.size) rfl
 have b2:Below w1.heap.size w1 (w1.alloc (.cells #[.int .i64 y.now,.int .i64 y.seq,.slice B1 m1 e1,.slice B2 m2 e2] 31)):=(Below.refl _ _).alloc (Nat.le_refl _) _
 replace B0:=Aa B0 b2
 replace X:=X.below b2
 replace RES:=RES.below b2
 replace oy:=Ab.ow_below (F:=F) (x:=y) (s:=(⟨B1,m1,e1⟩,⟨B2,m2,e2⟩)) oy b2
 have eG:=b2.size
 have ow1:=OB.lt
 generalize w1.alloc (.cells #[.int .i64 y.now,.int .i64 y.seq,.slice B1 m1 e1,.slice B2 m2 e2] 31)=w2 at *
 obtain ⟨X_0,X_1,X_2,X_3,X_l⟩:=X.g4
 go_wp2_with fail
 refine (CK.out _ B0).mono ?_
 rintro e1 w3 ⟨rfl,b3⟩
 replace B0:=Aa B0 b3
 clear X_0 X_1 X_2 X_3 X_l
 replace X:=X.below b3
 replace RES:=RES.below b3
 replace OB:=OB.below b3
 replace oy:=Ab.ow_below (F:=F) (x:=y) (s:=(⟨B1,m1,e1⟩,⟨B2,m2,e2⟩)) oy b3
 have jP:=b3.size
 clear b3 b2 CC CK
 obtain ⟨X_0,X_1,X_2,X_3,X_l⟩:=X.g4
 obtain ⟨OB_0,OB_1,OB_2,OB_3,OB_l⟩:=OB.g4
 by_cases q:D8 y id tk tr=0
 case neg =>
  have q2:(D8 y id tk tr != 0)=true:=by simp [q]
  have H:=Lib.hid (show Iw y id tk tr=y from if_neg q)
  clear q
  obtain ⟨RES_0,RES_1,RES_2,RES_3,RES_l⟩:=RES.g4
  have rf:=RES.free
  go_wp2
  have en1:w.heap.size+1∉F:=fun hx=>by have:=nF _ hx;omega
  refine bodyPost_ret (Xe (DBox.row4 RES rfl _ _ _ _)) rfl ⟨(⟨B1,m1,e1⟩,⟨B2,m2,e2⟩),F,by rw [H.out],by rw [H.out];exact (Ab.set4 (F:=F) (x:=y) (s:=(⟨B1,m1,e1⟩,⟨B2,m2,e2⟩)) oy en1),fun x hx=>by have:=nF x hx;omega,?_⟩
  repeat (first | (with_reducible exact B0) | refine Below.setCell ?_ (by simp<;>omega) _)
 have q2:(D8 y id tk tr != 0)=false:=by simp [q]
 have H:=Lib.hid (show Iw y id tk tr=Dq y (Bo y id).toNat (Br (H8 y id) tk.toNat) from if_pos q)
 have HP:Hid (Bq y/\0<=Bo y id/\Du y id tk tr):=by
  unfold D8 at q
  by_cases p0:Bq y
  ·by_cases p1:Bo y id<0
   ·rw [if_neg (fun h=>h p0),if_pos p1] at q;cases q
   ·by_cases p2:Du y id tk tr
    ·exact ⟨p0,by omega,p2⟩
    ·rw [if_neg (fun h=>h p0),if_neg p1,if_pos p2] at q;cases q
  ·rw [if_pos p0] at q;cases q
 have Hq:=Lib.hid q
 clear q
 rcases Cn y id with hr | ⟨k,hk,hr⟩
 ·exact absurd HP.out.2.1 (by omega)
 have HK:=Lib.hid (Dr hk hr)
 have HR2:=Lib.hid hr
 clear hr
 have bF:=Lib.hid (Co HP.out.1 hk)
 have hth:=Lib.hid HP.out.2.2
 have cR:Hid ((0<=tk/\tk<(y.runs[k].tasks.length:Int))/\(Ax y.runs[k] tk.toNat).state=3):=by
  have:=hth.out
  unfold Du at this
  rw [HK.out] at this
  exact ⟨this.2.1,this.2.2.1⟩
 obtain ⟨u,rfl⟩:=Int.eq_ofNat_of_zero_le cR.out.1.1
 have hu:u<y.runs[k].tasks.length:=by have:=cR.out.1.2;omega
 have aK:Hid (Gg y.runs[k] u):=⟨bF.out,⟨by omega,by omega⟩,cR.out.2⟩
 go_wp2_with fail
 refine (CA.out _ B0).mono ?_
 rintro e2' w4 ⟨rfl,b4⟩
 rw [HR2.out]
 replace B0:=Aa B0 b4
 clear X_0 X_1 X_2 X_3 X_l
 clear OB_0 OB_1 OB_2 OB_3 OB_l
 clear X
 replace RES:=RES.below b4
 replace OB:=OB.below b4
 replace oy:Ab.ow w4 F y (⟨B1,m1,e1⟩,⟨B2,m2,e2⟩):=Ab.ow_below (F:=F) (x:=y) (s:=(⟨B1,m1,e1⟩,⟨B2,m2,e2⟩)) oy b4
 have kV:=b4.size
 clear b4 CA
 have oy2:=oy
 obtain ⟨F1,F2,rfl,bK,os,orr⟩:=oy2
 replace orr:OwL Am w4 F2 (.slice B2 m2 e2) y.runs:=orr
 obtain rfl:m2=y.runs.length:=RdL.at1 (s:=⟨B2,m2,e2⟩) orr.rd
 obtain ⟨gr,o2,sk,rfl,dD,cA,c0,c1_,c2_,c3,c4,c5,c6,c7⟩:=orr.rd.run hk
 have fY:(k:Int)<(y.runs.length:Int):=by omega
 have dG:(0:Int)<=(k:Int):=by omega
 go_wp2
 refine Go.wp_region_noPanic ?_
 refine wp_region_held_drew (S:=(fun w'=>DBox w1.heap.size [.int .i64 y.now,.int .i64 y.seq,.slice B1 m1 e1,.slice (some ⟨gr,o2,none⟩) y.runs.length e2] w')) (by kernel_rfl) (DBox.drew4 OB) (fun hHeld=>?_)
 refine tY 0 ?_
 (try simp only [pS])
 refine tY 1 ?_
 (try simp only [pS])
 refine tY 2 ?_
 (try simp only [pS])
 refine tY 3 ?_
 (try simp only [pS])
 refine tY 4 ?_
 (try simp only [pS])
 refine tY 5 ?_
 (try simp only [pS])
 refine tY 7 ?_
 (try simp only [pS])
 have bd:Below w4.heap.size w4 w4.drew:=(Below.refl _ _).drew
 replace B0:=Aa B0 bd
 replace RES:=RES.below bd
 replace OB:=OB.below bd
 replace oy:Ab.ow w4.drew (F1 ++ F2) y (⟨B1,m1,e1⟩,⟨some ⟨gr,o2,none⟩,y.runs.length,e2⟩):=Ab.ow_below (F:=F1 ++ F2) (x:=y) (s:=(⟨B1,m1,e1⟩,⟨some ⟨gr,o2,none⟩,y.runs.length,e2⟩)) oy bd
 refine rC 6 (fun K_ hK=>?_)
 go_simp
 refine hK.out _ _ OB (fun hHeld=>?_)
 clear hK K_
 (try simp only [pS])
 have mF:=Ek hl hk
 have hrk2:Am.rd w4.drew w4.drew.heap.size y.runs[k] sk:=Am.rd_below cA bd
 have hcrun:Bg y.runs[k]<=2000000:=by
  have h1:=Cq (cnt:=Bg) (List.getElem_mem hk)
  unfold Ai at hl
  omega
 have CF:=Lib.hid (J3 y.runs[k] sk u w4.drew hcrun aK.out hrk2)
 clear c0 c1_ c2_ c3 c4 c5 c6 c7
 refine rC 8 (fun K_ hK=>?_)
 go_simp
 refine CF.out.mono ?_
 rintro e3 w5 ⟨sr,Fr,rfl,orn,nFr,b5⟩
 refine hK.out _ _ (OB.below b5) (fun hHeld=>?_)
 clear hK K_
 (try simp only [pS])
 have qB:w4.drew.heap.size=w4.heap.size:=rfl
 have pC:=b5.size
 have qG:=Cb bF.out
 have CT:=Lib.hid (I9 y (⟨B1,m1,e1⟩,⟨some ⟨gr,o2,none⟩,y.runs.length,e2⟩) k (Br y.runs[k] u) sr w5 (F1 ++ F2) Fr HP.out.1.2.2.1 (fun s hs=>by have:=(HP.out.1.2.2.2.1 s hs).1;omega) (by have:=HP.out.1.2.1;omega) hk (by rw [Fg];omega) (by omega) (Ab.ow_below (F:=F1 ++ F2) (x:=y) (s:=(⟨B1,m1,e1⟩,⟨some ⟨gr,o2,none⟩,y.runs.length,e2⟩)) oy b5) orn (fun x hx aY=>by have h1:=nFr x hx;have h2:=bM x aY;omega))
 have HF:=Lib.hid (show Iw y id u tr=Dq y k (Br y.runs[k] u) by rw [H.out,HR2.out,HK.out,Int.toNat_natCast,Int.toNat_natCast])
 clear H
 refine rC 9 (fun K_ hK=>?_)
 go_simp
 refine CT.out.mono ?_
 rintro e4 w6 ⟨s5,F5,rfl,oy7,n5,c6⟩
 have aC:w1.heap.size∉F1 ++ F2:=fun h=>by have:=bM _ h;omega
 have jM:w.heap.size+1∉F1 ++ F2:=fun h=>by have:=nF _ h;omega
 have OB6:=(OB.below b5).chg c6 aC
 have RES6:=(RES.below b5).chg c6 jM
 have B6:Below w.heap.size w w6:=(Aa B0 b5).trans (c6.below (by have:=(Aa B0 b5).size;omega) (fun x hx=>by have:=nF _ hx;omega))
 generalize Dq y k (Br y.runs[k] u)=Z at *
 refine hK.out _ _ OB6 (fun hHeld=>?_)
 clear hK K_
 (try simp only [pS])
 have r0:=RES6.cell 0 _ rfl
 have r1:=RES6.cell 1 _ rfl
 have r2:=RES6.cell 2 _ rfl
 have r3:=RES6.cell 3 _ rfl
 have rl:=RES6.lt
 have rf:=RES6.free
 refine rC 10 (fun K_ hK=>?_)
 go_simp
 have cJ:w1.heap.size≠w.heap.size+1:=by omega
 refine hK.out _ _ ((((OB6.setOther (a:=⟨w.heap.size+1,_,none⟩) cJ _).setOther (a:=⟨w.heap.size+1,_,none⟩) cJ _).setOther (a:=⟨w.heap.size+1,_,none⟩) cJ _).setOther (a:=⟨w.heap.size+1,_,none⟩) cJ _) (fun hHeld=>?_)
 clear hK K_
 (try simp only [pS])
 refine rC 11 (fun K_ hK=>?_)
 go_simp
 refine hK.out _ _ hHeld (fun hHeld=>?_)
 clear hK K_
 (try simp only [pS])
 refine wpAnyH_done (by kernel_rfl) ?_ _
 refine NoPanic.normal ?_
 clear hHeld r0 r1 r2 r3 rf
 have en5:w.heap.size+1∉F5:=fun hx=>by
  rcases n5 _ hx with h | h | h
  ·exact jM h
  ·have:=nFr _ h;omega
  ·omega
 have hZ:Iw y id u tr=Z:=HF.out
 have H2:=Lib.hid hZ
 clear hZ
 have Hq2:=Lib.hid (show D8 y id u tr=0 from Hq.out)
 go_wp2
 refine bodyPost_ret (Xe (DBox.row4 RES6 rfl _ _ _ _)) rfl ⟨s5,F5,by rw [H2.out,Hq2.out],by rw [H2.out];exact (Ab.set4 (F:=F5) (x:=Z) (s:=s5) oy7 en5),fun x hx=>?_,?_⟩
 ·rcases n5 x hx with h | h | h
  ·have:=nF x h;omega
  ·have:=nFr x h;omega
  ·omega
 ·repeat (first | (with_reducible exact B6) | refine Below.setCell ?_ (by simp<;>omega) _)
end
noncomputable def Jx (y:Yard) (p:Plan):Bool:=decide (y.runs.length<8) && (inB p.tasks 0 12 && (decide ((D9 y:Int)+p.tasks<=40) && decide (y.seq<=999999000 - p.tasks)))
theorem Vc (y:Yard) (s:Sl×Sl) (p:Plan) (ve:Value) (w:World) (hl:Ai y<=2000000) (hS:D9 y<=40) (hq:0<=y.seq/\y.seq<=2000000000) (h:Ab.rd w w.heap.size y s) :
  Calls Tryz.prog 200 #[By y s,Ee p ve] w fun e' w'=>e' = .returned (.bool (Jx y p))/\Below w.heap.size w w':=by
 have HR:=Lib.hid (show ∀ W,Below w.heap.size w W->Ab.rd W W.heap.size y s from fun W hW=>Ab.rd_more (Ab.rd_below h hW) hW.size)
 obtain ⟨⟨A1,n1,c1⟩,⟨A2,n2,c2⟩⟩:=s
 obtain rfl:n2=y.runs.length:=RdL.at1 (s:=⟨A2,n2,c2⟩) h.2
 have CS:=Lib.hid (fun W hW=>Mq y (⟨A1,n1,c1⟩,⟨A2,y.runs.length,c2⟩) W hl (HR.out W hW))
 clear h HR
 have HD:=Lib.hid (show Jx y p=(decide (y.runs.length<8) && (inB p.tasks 0 12 && (decide ((D9 y:Int)+p.tasks<=40) && decide (y.seq<=999999000 - p.tasks)))) from rfl)
 generalize Jx y p=D at *
 generalize D9 y=sn at *
 obtain ⟨W,aG,X,P,B0⟩:=bx2 w 31 [.int .i64 y.now,.int .i64 y.seq,.slice A1 n1 c1,.slice A2 y.runs.length c2] 43 [.int .i64 p.prio,.int .i64 p.most,.int .i64 p.wait,.int .i64 p.tasks,ve]
 go_enter Tryz.func200,Tryz.ntmps200
 go_wp2
 rw [<-aG.out]
 clear aG
 obtain ⟨X_0,X_1,X_2,X_3,X_l⟩:=X.g4
 obtain ⟨P_0,P_1,P_2,P_3,P_4,P_l⟩:=P.g5
 have aN:=Bk W
 by_cases a:y.runs.length<8
 case neg =>
  have aI:¬ (y.runs.length:Int)<8:=by omega
  have aD:decide ((y.runs.length:Int)<8)=false:=decide_eq_false aI
  have H:=Lib.hid (show D=false by rw [HD.out,decide_eq_false a,Bool.false_and])
  clear HD a
  refine Ad (by kernel_rfl) (by kernel_rfl) ?_
  repeat (go_big_quiet_step ((first | (go_at_call 155;exact Bv (fun u=>Aj _ _ _ u.1)) | (go_at_call 218;rename_i x;have h1:=CS.out x.1 (Aa B0 x.2);exact Dg h1))))
  refine wpQuiet_nil ?_
  rintro _ ⟨⟨w3,b3⟩,rfl⟩
  clear aN
  go_wp2
  go_ret
  exact ⟨Ac H.out.symm,Aa B0 b3⟩
 have aI:(y.runs.length:Int)<8:=by omega
 have aD:decide ((y.runs.length:Int)<8)=true:=decide_eq_true aI
 have HD:=Lib.hid (HD.out.trans (by rw [decide_eq_true a,Bool.true_and]))
 clear a
 cases c:inB p.tasks 0 12
 case false =>
  have H:=Lib.hid (show D=false by rw [HD.out,c,Bool.false_and])
  clear HD
  refine Ad (by kernel_rfl) (by kernel_rfl) ?_
  repeat (go_big_quiet_step ((first | (go_at_call 155;exact Bv (fun u=>Aj _ _ _ u.1)) | (go_at_call 218;rename_i x;have h1:=CS.out x.1 (Aa B0 x.2);exact Dg h1))))
  refine wpQuiet_nil ?_
  rintro _ ⟨⟨w3,b3⟩,rfl⟩
  clear aN
  go_wp2
  go_ret
  exact ⟨Ac H.out.symm,Aa B0 b3⟩
 have cc:=Bf.1 c
 have HD:=Lib.hid (HD.out.trans (by rw [c,Bool.true_and]))
 have wr1:IntKind.i64.wrap ((sn:Int)+p.tasks)=(sn:Int)+p.tasks:=IntWalk.i64_in _ (by omega)
 have wr2:IntKind.i64.wrap (999999000 - p.tasks)=999999000 - p.tasks:=IntWalk.i64_in _ (by omega)
 cases d:decide ((sn:Int)+p.tasks<=40)
 case false =>
  have H:=Lib.hid (show D=false by rw [HD.out,d,Bool.false_and])
  clear HD cc
  refine Ad (by kernel_rfl) (by kernel_rfl) ?_
  repeat (go_big_quiet_step ((first | (go_at_call 155;exact Bv (fun u=>Aj _ _ _ u.1)) | (go_at_call 218;rename_i x;have h1:=CS.out x.1 (Aa B0 x.2);exact Dg h1))))
  refine wpQuiet_nil ?_
  rintro _ ⟨⟨w3,b3⟩,rfl⟩
  clear aN
  go_wp2
  go_ret
  exact ⟨Ac H.out.symm,Aa B0 b3⟩
 have H:=Lib.hid (show D=decide (y.seq<=999999000 - p.tasks) by rw [HD.out,d,Bool.true_and])
 clear HD cc
 cases e:decide (y.seq<=999999000 - p.tasks)
 all_goals
  rw [e] at H
  refine Ad (by kernel_rfl) (by kernel_rfl) ?_
  repeat (go_big_quiet_step ((first | (go_at_call 155;exact Bv (fun u=>Aj _ _ _ u.1)) | (go_at_call 218;rename_i x;have h1:=CS.out x.1 (Aa B0 x.2);exact Dg h1))))
  refine wpQuiet_nil ?_
  rintro _ ⟨⟨w3,b3⟩,rfl⟩
  clear aN
  go_wp2
  go_ret
  exact ⟨Ac H.out.symm,Aa B0 b3⟩
theorem J4 (y:Yard) (s:Sl×Sl) (id tk tr:Int) (w:World) (hl:Ai y<=2000000) (h:Ab.rd w w.heap.size y s) :
  Calls Tryz.prog 175 #[By y s,.int .i64 id,.int .i64 tk,.int .i64 tr] w fun e' w'=>e' = .returned (.bool (tf (Du y id tk tr)))/\Below w.heap.size w w':=by
 have HR:=Lib.hid (show ∀ W,Below w.heap.size w W->Ab.rd W W.heap.size y s from fun W hW=>Ab.rd_more (Ab.rd_below h hW) hW.size)
 obtain ⟨⟨A1,n1,c1⟩,⟨A2,n2,c2⟩⟩:=s
 obtain rfl:n2=y.runs.length:=RdL.at1 (s:=⟨A2,n2,c2⟩) h.2
 have h2:RdL Am w w.heap.size (.slice A2 y.runs.length c2) y.runs:=h.2
 have dI:y.runs.length<=2000000:=Nat.le_trans (Ar Bg _) (by unfold Ai at hl;omega)
 have X:=DBox.new 31 [.int .i64 y.now,.int .i64 y.seq,.slice A1 n1 c1,.slice A2 y.runs.length c2] w (b:=w.heap.size) rfl
 have B0:Below w.heap.size w (w.alloc (.cells #[.int .i64 y.now,.int .i64 y.seq,.slice A1 n1 c1,.slice A2 y.runs.length c2] 31)):=by repeat (first | exact Below.refl _ _ | refine Below.alloc ?_ (by simp<;>omega) _)
 have C:=C6 y (⟨A1,n1,c1⟩,⟨A2,y.runs.length,c2⟩) id (w.alloc (.cells #[.int .i64 y.now,.int .i64 y.seq,.slice A1 n1 c1,.slice A2 y.runs.length c2] 31)) hl (HR.out _ B0)
 clear h
 rcases Cn y id with hr | ⟨k,hk,hr⟩
 ·have H:=Lib.hid (show tf (Du y id tk tr)=false from Al (fun hh=>by have:=hh.1;omega))
  rw [hr] at C
  clear hr
  go_enter Tryz.func175,Tryz.ntmps175
  go_wp2_with fail
  generalize (w.alloc (.cells #[.int .i64 y.now,.int .i64 y.seq,.slice A1 n1 c1,.slice A2 y.runs.length c2] 31))=W at *
  refine C.mono ?_
  rintro e1 w1 ⟨rfl,b1⟩
  go_wp2
  go_ret
  exact ⟨Ac H.out.symm,Aa B0 b1⟩
 ·have uJ:=Ek hl hk
  have HR2:=Lib.hid hr
  rw [hr] at C
  clear hr
  have HK:=Lib.hid (Dr hk HR2.out)
  go_enter Tryz.func175,Tryz.ntmps175
  go_wp2_with fail
  generalize (w.alloc (.cells #[.int .i64 y.now,.int .i64 y.seq,.slice A1 n1 c1,.slice A2 y.runs.length c2] 31))=W at *
  refine C.mono ?_
  rintro e1 w1 ⟨rfl,b1⟩
  replace X:=X.below b1
  obtain ⟨X_0,X_1,X_2,X_3,X_l⟩:=X.g4
  replace B0:=Aa B0 b1
  obtain ⟨b,o,⟨s1,⟨At,nt,ct⟩⟩,dW,aH,cB,c0_,c1_,c2_,c3_,c4_,c5_,c6_,c7_⟩:=(h2.below B0).run hk
  subst dW
  obtain rfl:nt=y.runs[k].tasks.length:=RdL.at1 (s:=⟨At,nt,ct⟩) cB.2
  have h3:RdL Cv w1 w.heap.size (.slice At y.runs[k].tasks.length ct) y.runs[k].tasks:=cB.2
  have fY:(k:Int)<(y.runs.length:Int):=by omega
  have hk00:(0:Int)<=(k:Int):=by omega
  have dG:¬ (k:Int)<0:=by omega
  have bJ:b<w1.heap.size:=Nat.lt_of_lt_of_le aH B0.size
  have wr1:IntKind.i64.wrap ((y.runs[k].tasks.length:Int) - 1)=(y.runs[k].tasks.length:Int) - 1:=IntWalk.i64_in _ (by omega)
  cases q:inB tk 0 ((y.runs[k].tasks.length:Int) - 1)
  ·have H:=Lib.hid (show tf (Du y id tk tr)=false from Al (fun hh=>by
    have h5:=hh.2.1
    rw [HK.out] at h5
    have:=Bf.2 (show 0<=tk/\tk<=(y.runs[k].tasks.length:Int) - 1 by omega)
    rw [q] at this
    cases this))
   go_wp2_with (go_at_call 58;refine (Ap _ _ _ _).mono ?_;rintro e w9 ⟨rfl,rfl⟩;rw [q])
   go_ret
   exact ⟨Ac H.out.symm,B0⟩
  ·have qq:=Bf.1 q
   obtain ⟨t,rfl⟩:=Int.eq_ofNat_of_zero_le qq.1
   have ht:t<y.runs[k].tasks.length:=by omega
   obtain ⟨b',o',_,rV,bI,_,d0,d1,d2,d3⟩:=h3.task ht
   subst rV
   have eG:b'<w1.heap.size:=Nat.lt_of_lt_of_le bI B0.size
   have jR:(t:Int)<(y.runs[k].tasks.length:Int):=by omega
   have fZ:(0:Int)<=(t:Int):=by omega
   have H:=Lib.hid (show tf (Du y id t tr)=((y.runs[k].tasks[t].state == 3) && (y.runs[k].tasks[t].try_ == tr)) by
    rw [Bool.eq_iff_iff,J0,Bool.and_eq_true,beq_iff_eq,beq_iff_eq]
    unfold Du
    rw [HK.out,Int.toNat_natCast,Aw ht,HR2.out]
    constructor
    ·intro hh;exact hh.2.2
    ·intro hh;exact ⟨by omega,⟨by omega,by omega⟩,hh⟩)
   clear qq
   generalize y.runs[k].tasks[t].state=st at *
   generalize y.runs[k].tasks[t].try_=ty at *
   cases q2:(st == 3)
   ·go_wp2_with (go_at_call 58;refine (Ap _ _ _ _).mono ?_;rintro e w9 ⟨rfl,rfl⟩;rw [q])
    go_ret
    exact ⟨Ac (by rw [H.out,q2];rfl),B0.alloc B0.size _⟩
   ·go_wp2_with (go_at_call 58;refine (Ap _ _ _ _).mono ?_;rintro e w9 ⟨rfl,rfl⟩;rw [q])
    go_ret
    exact ⟨Ac (by rw [H.out,q2];rfl),B0.alloc B0.size _⟩
theorem Nw (y:Yard) (s:Sl×Sl) (id tk tr:Int) (w:World) (hl:Ai y<=2000000) (h:Ab.rd w w.heap.size y s) :
  Calls Tryz.prog 168 #[By y s,.int .i64 id,.int .i64 tk,.int .i64 tr] w fun e' w'=>e' = .returned (.int .i64 (D8 y id tk tr))/\Below w.heap.size w w':=by
 have HR:=Lib.hid (show ∀ W,Below w.heap.size w W->Ab.rd W W.heap.size y s from fun W hW=>Ab.rd_more (Ab.rd_below h hW) hW.size)
 obtain ⟨⟨A1,n1,c1⟩,⟨A2,n2,c2⟩⟩:=s
 have CY:=Lib.hid (fun W hW=>D6 y (⟨A1,n1,c1⟩,⟨A2,n2,c2⟩) W hl (HR.out W hW))
 have CA:=Lib.hid (fun W hW=>C6 y (⟨A1,n1,c1⟩,⟨A2,n2,c2⟩) id W hl (HR.out W hW))
 have CH:=Lib.hid (fun W hW=>J4 y (⟨A1,n1,c1⟩,⟨A2,n2,c2⟩) id tk tr W hl (HR.out W hW))
 clear h
 obtain ⟨W,aG,X,B0⟩:=bx1 w 31 [.int .i64 y.now,.int .i64 y.seq,.slice A1 n1 c1,.slice A2 n2 c2]
 go_enter Tryz.func168,Tryz.ntmps168
 go_wp2_with fail
 rw [<-aG.out]
 clear aG
 refine (CY.out _ B0).mono ?_
 rintro e1 w1 ⟨rfl,b1⟩
 replace X:=X.below b1
 obtain ⟨X_0,X_1,X_2,X_3,X_l⟩:=X.g4
 replace B0:=Aa B0 b1
 by_cases p0:Bq y
 case neg =>
  have H:=Lib.hid (show D8 y id tk tr=8 from if_pos p0)
  rw [Al p0]
  clear p0
  go_wp2
  go_ret
  exact ⟨by rw [H.out];rfl,B0⟩
 rw [Bs p0]
 go_wp2_with fail
 refine (CA.out _ B0).mono ?_
 rintro e1 w2 ⟨rfl,b2⟩
 clear X_0 X_1 X_2 X_3 X_l
 replace X:=X.below b2
 obtain ⟨X_0,X_1,X_2,X_3,X_l⟩:=X.g4
 replace B0:=Aa B0 b2
 by_cases p1:Bo y id<0
 ·have H:=Lib.hid (show D8 y id tk tr=10 by unfold D8;rw [if_neg (fun h=>h p0),if_pos p1])
  clear p0
  go_wp2
  go_ret
  exact ⟨by rw [H.out];rfl,B0⟩
 go_wp2_with fail
 refine (CH.out _ B0).mono ?_
 rintro e1 w3 ⟨rfl,b3⟩
 replace B0:=Aa B0 b3
 by_cases p2:Du y id tk tr
 ·have H:=Lib.hid (show D8 y id tk tr=0 by unfold D8;rw [if_neg (fun h=>h p0),if_neg (by omega),if_neg (fun h=>h p2)])
  rw [Bs p2]
  clear p0 p2
  go_wp2
  go_ret
  exact ⟨by rw [H.out];rfl,B0⟩
 ·have H:=Lib.hid (show D8 y id tk tr=11 by unfold D8;rw [if_neg (fun h=>h p0),if_neg (by omega),if_pos p2])
  rw [Al p2]
  clear p0 p2
  go_wp2
  go_ret
  exact ⟨by rw [H.out];rfl,B0⟩
theorem R7 (s:Int) (y:Task):∀ (l:List Task) (k:Nat) (hk:k<l.length),Bx (l.set k y) s+(if l[k].state=s then 1 else 0)=Bx l s+(if y.state=s then 1 else 0)
 | x :: l,0,_=>by
  unfold Bx
  by_cases h1:x.state=s<;>by_cases h2:y.state=s<;>simp [h1,h2]
 | x :: l,k+1,hk=>by
  have ih:=R7 s y l k (by simpa using hk)
  unfold Bx at *
  by_cases h1:x.state=s
  ·simp only [List.set_cons_succ,List.getElem_cons_succ,List.filter_cons,beq_iff_eq,h1,if_true,List.length_cons]
   omega
  ·simp only [List.set_cons_succ,List.getElem_cons_succ,List.filter_cons,beq_iff_eq,h1,if_false]
   exact ih
theorem Ja {l:List Task} {t:Nat} (h:t<l.length) (f:Task->Task):Ew l t f=l.set t (f l[t]):=by
 unfold Ew
 rw [List.getD_eq_getElem?_getD,List.getElem?_eq_getElem h]
 rfl
theorem Nx {r r':Run} {l:List Nat} (h:∀ b,(Ax r b).state=4 ↔ (Ax r' b).state=4):Fe r l=Fe r' l:=by
 unfold Fe
 congr 1
 apply List.filter_congr
 intro b _
 by_cases q:(Ax r b).state=4
 ·simp [q,(h b).1 q]
 ·have q':¬ (Ax r' b).state=4:=fun hh=>q ((h b).2 hh)
  rw [show ((Ax r b).state != 4)=true from bne_iff_ne.2 q,show ((Ax r' b).state != 4)=true from bne_iff_ne.2 q']
theorem Ud (x:Task):(Bt x).state=4/\x.state=4\/(Bt x).state=5/\x.state=5\/(Bt x).state=6/\x.state≠4/\x.state≠5:=by
 unfold Bt
 by_cases h4:x.state=4
 ·simp [h4]
 ·by_cases h5:x.state=5
  ·simp [h5]
  ·simp [h4,h5]
theorem Aav (l:List Task):Bx (l.map Bt) 4=Bx l 4/\Bx (l.map Bt) 5=Bx l 5/\Iz (l.map Bt)=0:=by
 induction l with
 | nil=>exact ⟨rfl,rfl,rfl⟩
 | cons x l ih =>
  have hc:∀ (y:Task) (l:List Task) s,Bx (y :: l) s=(if y.state=s then 1 else 0)+Bx l s:=by
   intro y l s
   unfold Bx
   by_cases h:y.state=s<;>simp [h]
   omega
  obtain ⟨h1,h2,h3⟩:=ih
  unfold Iz at *
  simp only [List.map_cons,hc]
  rcases Ud x with ⟨a,b⟩ | ⟨a,b⟩ | ⟨a,b,c⟩
  ·simp [a,b,h1,h2];omega
  ·simp [a,b,h1,h2];omega
  ·simp [a,b,c,h1,h2];omega
theorem Og (i:Int) (p:Plan) (s:Int) (l:List Task) (k:Nat):Ax ⟨i,p,s,l⟩ k=l.getD k ⟨0,0,0,0⟩:=rfl
theorem Xf {l:List Task} {s:Int} {k:Nat} (hk:k<l.length) (h:l[k].state=s):1<=Bx l s:=by
 unfold Bx
 apply List.length_pos_of_mem (a:=l[k])
 rw [List.mem_filter]
 exact ⟨List.getElem_mem hk,by simp [h]⟩
theorem Ab5 {l:List Task} {s:Int} {k:Nat} (hk:k<l.length) (h:¬ l[k].state=s):Bx l s<l.length:=by
 unfold Bx
 rcases Nat.lt_or_ge (l.filter fun x=>x.state == s).length l.length with h1 | h1
 ·exact h1
 ·have h2:=List.filter_sublist (p:=fun x:Task=>x.state == s) (l:=l)
  have h3:=h2.eq_of_length_le h1
  have h4:l[k]∈(l.filter fun x=>x.state == s):=by rw [h3];exact List.getElem_mem hk
  rw [List.mem_filter] at h4
  exact absurd (by simpa using h4.2) h
theorem M9 {r:Run} {u:Nat} (h:Gg r u):Bx r.tasks 5=0/\Bx r.tasks 6=0/\Bx r.tasks 4<r.tasks.length/\r.state=1:=by
 obtain ⟨hr,⟨_,hu⟩,hs⟩:=h
 have kA:u<r.tasks.length:=by omega
 rw [Int.toNat_natCast,Aw kA] at hs
 have h3:=Xf kA hs
 have h4:=Ab5 (s:=4) kA (by omega)
 have h5:=hr.2.2.2.2.1
 have h6:=hr.2.2.2.2.2
 have hR:¬ Iz r.tasks=0:=by unfold Iz;omega
 unfold stL at h5
 rw [if_neg (by omega),if_neg (fun hh=>hR hh.2),if_neg (fun hh=>hR hh.2.2)] at h5
 by_cases q:Bx r.tasks 5=0/\Bx r.tasks 6=0
 ·rw [if_pos q] at h5
  exact ⟨q.1,q.2,h4,h5⟩
 ·rw [if_neg q] at h5
  exact absurd h5 h6
theorem Ue (r:Run) (u:Nat):(Br r u).id=r.id/\(Br r u).plan=r.plan:=by
 unfold Br
 split<;>exact ⟨rfl,rfl⟩
theorem Xg {r:Run} {u:Nat} (h:Gg r u):Er (Br r u):=by
 obtain ⟨l5,l6,l4,ls⟩:=M9 h
 obtain ⟨hr,⟨_,hu⟩,hs⟩:=h
 have kA:u<r.tasks.length:=by omega
 rw [Int.toNat_natCast] at hs
 have hsu:=hs
 rw [Aw kA] at hs
 obtain ⟨a1,a2,a3,a4,a5,a6⟩:=hr
 have hq:=a4 u kA
 unfold Ev at hq
 rw [Aw kA] at hq
 obtain ⟨q1,q2,q3,q4,q5,q6,q7,q8⟩:=hq
 have hgetS:∀ (y:Task) b,(r.tasks.set u y).getD b ⟨0,0,0,0⟩=if b=u then y else Ax r b:=by
  intro y b
  unfold Ax
  rw [List.getD_eq_getElem?_getD,List.getD_eq_getElem?_getD,List.getElem?_set]
  by_cases e:u=b
  ·subst e;simp [kA]
  ·rw [if_neg e,if_neg (fun hh=>e hh.symm)]
 unfold Br
 split
 ·next ht =>
  rw [Aw kA] at ht
  rw [Ja kA]
  refine ⟨a1,a2,by simpa using a3,?_,?_,a6⟩
  ·intro t eI
   have htl':t<r.tasks.length:=by simpa using eI
   have hN:Ge ⟨r.id,r.plan,r.state,r.tasks.set u ⟨2,r.tasks[u].need,r.tasks[u].try_,0⟩⟩ t=Ge r t:=by
    unfold Ge
    apply Nx
    intro b
    rw [Og,hgetS]
    by_cases e:b=u
    ·subst e;rw [if_pos rfl];simp [hsu]
    ·rw [if_neg e]
   unfold Ev
   rw [hN,Og,hgetS]
   by_cases e:t=u
   ·subst e
    rw [if_pos rfl]
    have:=q8 (.inl hs)
    refine ⟨by simp,q2,q3,by simp,by simp,by simp,?_,by simp⟩
    intro _
    exact ⟨this.1,ht⟩
   ·rw [if_neg e]
    exact a4 t htl'
  ·have c:=fun s=>R7 s ⟨2,r.tasks[u].need,r.tasks[u].try_,0⟩ r.tasks u kA
   have c1:=c 1;have c2:=c 2;have c3:=c 3;have c4:=c 4;have c5:=c 5;have c6:=c 6
   simp only [hs] at c1 c2 c3 c4 c5 c6
   simp at c1 c2 c3 c4 c5 c6
   show r.state=stL (r.tasks.set u ⟨2,r.tasks[u].need,r.tasks[u].try_,0⟩)
   rw [ls]
   unfold stL
   have hR:¬ Iz (r.tasks.set u ⟨2,r.tasks[u].need,r.tasks[u].try_,0⟩)=0:=by unfold Iz;omega
   rw [if_neg (by rw [List.length_set];omega),if_neg (fun hh=>hR hh.2),if_neg (fun hh=>hR hh.2.2),if_pos (by omega)]
 ·next ht =>
  rw [Aw kA] at ht
  rw [Ja kA]
  have hX:∀ b,Ax (Bz ⟨r.id,r.plan,r.state,r.tasks.set u ⟨5,r.tasks[u].need,r.tasks[u].try_,0⟩⟩ 3) b=if b<r.tasks.length then Bt (if b=u then ⟨5,r.tasks[u].need,r.tasks[u].try_,0⟩ else Ax r b) else ⟨0,0,0,0⟩:=by
   intro b
   unfold Bz
   rw [Og,List.getD_eq_getElem?_getD,List.getElem?_map]
   by_cases e:b<r.tasks.length
   ·rw [if_pos e,<-hgetS,List.getD_eq_getElem?_getD,List.getElem?_eq_getElem (by rw [List.length_set];exact e)]
    rfl
   ·rw [if_neg e,List.getElem?_eq_none (by rw [List.length_set];omega)]
    rfl
  refine ⟨a1,a2,by simpa [Bz] using a3,?_,?_,by simp [Bz]⟩
  ·intro t eI
   have htl':t<r.tasks.length:=by simpa [Bz] using eI
   have hN:Ge (Bz ⟨r.id,r.plan,r.state,r.tasks.set u ⟨5,r.tasks[u].need,r.tasks[u].try_,0⟩⟩ 3) t=Ge r t:=by
    show Fe _ _=Fe _ _
    apply Nx
    intro b
    rw [hX]
    by_cases e:b<r.tasks.length
    ·rw [if_pos e]
     by_cases e2:b=u
     ·subst e2;rw [if_pos rfl];simp [hsu,Bt]
     ·rw [if_neg e2]
      rcases Ud (Ax r b) with ⟨a,b⟩ | ⟨a,b⟩ | ⟨a,b,c⟩
      ·simp [a,b]
      ·simp [a,b]
      ·simp [a,b]
    ·rw [if_neg e]
     unfold Ax
     rw [List.getD_eq_getElem?_getD,List.getElem?_eq_none (by omega)]
     simp
   unfold Ev
   rw [hN,hX,if_pos htl']
   show Lm _ _ r.plan.most
   by_cases e:t=u
   ·subst e
    rw [if_pos rfl]
    have:=q8 (.inl hs)
    unfold Bt
    rw [if_neg (by simp)]
    refine ⟨by simp,q2,q3,by simp,by simp,by simp,by simp,?_⟩
    intro _
    exact this
   ·rw [if_neg e]
    obtain ⟨p1,p2,p3,p4,p5,p6,p7,p8⟩:=a4 t htl'
    unfold Bt
    split
    ·refine ⟨by simp,p2,p3,by simp,by simp,by simp,by simp,by simp⟩
    ·exact ⟨p1,p2,p3,p4,p5,p6,p7,p8⟩
  ·have c:=fun s=>R7 s ⟨5,r.tasks[u].need,r.tasks[u].try_,0⟩ r.tasks u kA
   have c4:=c 4;have c5:=c 5
   simp only [hs] at c4 c5
   simp at c4 c5
   obtain ⟨m1,m2,m3⟩:=Aav (r.tasks.set u ⟨5,r.tasks[u].need,r.tasks[u].try_,0⟩)
   show (3:Int)=stL ((r.tasks.set u ⟨5,r.tasks[u].need,r.tasks[u].try_,0⟩).map Bt)
   unfold stL
   rw [if_neg (by rw [List.length_map,List.length_set];omega),if_pos (by omega)]
theorem Ny {α:Type} {cnt:α->Nat} {K:Nat} : ∀ {l:List α},(∀ x∈l,cnt x<=K)->Gd cnt l<=l.length * (K+1)
 | [],_=>by simp [Gd]
 | x :: l,h=>by
  have ih:=Ny (cnt:=cnt) (K:=K) (l:=l) (fun y hy=>h y (List.mem_cons_of_mem _ hy))
  have:=h x (List.mem_cons_self ..)
  unfold Gd at *
  rw [List.map_cons,List.sum_cons,List.length_cons,Nat.succ_mul]
  omega
theorem Im {r:Run} (h:Er r):Bg r<=42:=by
 have h1:=Dh (Bn.1 h.2.1).1
 have h2:=Cb h
 have e1:C8 r.plan=r.plan.edges.length:=El (fun _=>rfl) _
 have e2:Gd Fc r.tasks=r.tasks.length:=El (fun _=>rfl) _
 unfold Bg
 omega
theorem Ma {y:Yard} {M:Nat} (h4:y.shelf.length=4) (hM:∀ s∈y.shelf,s.length<=M) (h8:y.runs.length<=8) (hr:∀ k (h:k<y.runs.length),Er y.runs[k]):Ai y<=4 * (M+1)+344:=by
 have h1:Gd Bl y.shelf<=y.shelf.length * (M+1):=Ny (fun s hs=>by
  have e:Bl s=s.length:=El (fun _=>rfl) _
  rw [e]
  exact hM s hs)
 have h2:Gd Bg y.runs<=y.runs.length * (42+1):=Ny (fun r nN=>by
  obtain ⟨k,hk,rfl⟩:=List.getElem_of_mem nN
  exact Im (hr k hk))
 rw [h4] at h1
 have h3:y.runs.length * (42+1)<=8 * 43:=Nat.mul_le_mul_right _ h8
 unfold Ai
 omega
structure Trn (y:Yard) (m:Nat) (z:Yard):Prop where
 now:z.now=y.now
 four:z.shelf.length=4
 all:∀ s∈z.shelf,s.length<=80+12 * m
 seq:1<=z.seq/\z.seq<=1000000000+12 * m
 len:z.runs.length=y.runs.length
 le8:z.runs.length<=8
 run:∀ k (h:k<z.runs.length) (h':k<y.runs.length),Er z.runs[k]/\z.runs[k].id=y.runs[k].id/\z.runs[k].tasks.length=y.runs[k].tasks.length
theorem Trn.start {y:Yard} (h:Bq y):Trn y 0 y :=
 ⟨rfl,h.2.2.1,fun s hs=>by have:=(h.2.2.2.1 s hs).1;omega,by have:=h.2.1;omega,rfl,h.2.2.2.2.2.2.1,fun k hk _=>⟨Co h hk,rfl,rfl⟩⟩
theorem Trn.mono {y z:Yard} {m n:Nat} (h:Trn y m z) (hm:m<=n):Trn y n z :=
 ⟨h.now,h.four,fun s hs=>by have:=h.all s hs;omega,by have:=h.seq;omega,h.len,h.le8,h.run⟩
theorem Uf (y:Yard) (k:Nat) (r:Run) (hk:k<y.runs.length):Dq y k r=Fk ⟨y.now,y.seq,y.shelf,y.runs.set k r⟩ y.runs[k] r r.tasks.length:=by
 unfold Dq
 rw [List.getD_eq_getElem?_getD,List.getElem?_eq_getElem hk]
 rfl
theorem Trn.step {y z:Yard} {m:Nat} (h:Trn y m z) {k u:Nat} (hk:k<z.runs.length) (hr:Gg z.runs[k] u):Trn y (m+1) (Dq z k (Br z.runs[k] u)):=by
 have hR:=Xg hr
 have hL:=Cb hR
 rw [Uf _ _ _ hk]
 have hF:=M8 (y:=⟨z.now,z.seq,z.shelf,z.runs.set k (Br z.runs[k] u)⟩) (was:=z.runs[k]) (r:=Br z.runs[k] u) h.all (Br z.runs[k] u).tasks.length
 generalize Fk ⟨z.now,z.seq,z.shelf,z.runs.set k (Br z.runs[k] u)⟩ z.runs[k] (Br z.runs[k] u) (Br z.runs[k] u).tasks.length=Z at *
 have e:Z.runs=z.runs.set k (Br z.runs[k] u):=hF.runs
 refine ⟨hF.now.trans h.now,hF.len.trans h.four,fun s hs=>by have:=hF.all s hs;omega,?_,by rw [e,List.length_set];exact h.len,by rw [e,List.length_set];exact h.le8,fun j hj hj'=>?_⟩
 ·have h1:=hF.seq
  have h2:=h.seq
  dsimp only at h1
  omega
 ·have hjz:j<z.runs.length:=by rw [h.len];exact hj'
  have e2:Z.runs[j]=if k=j then Br z.runs[k] u else z.runs[j]:=by
   rw [show Z.runs[j]=(z.runs.set k (Br z.runs[k] u))[j]'(by rw [List.length_set];exact hjz) by simp only [e],List.getElem_set]
  rw [e2]
  have h1:=h.run j hjz hj'
  split
  ·next hkj =>
   subst hkj
   exact ⟨hR,(Ue _ _).1.trans h1.2.1,(Fg _ _).trans h1.2.2⟩
  ·exact h1
theorem Trn.cnt {y z:Yard} {m:Nat} (h:Trn y m z) (hm:m<=1000):Ai z<=2000000:=by
 have:=Ma h.four h.all h.le8 (fun k hk=>(h.run k hk (by rw [<-h.len];exact hk)).1)
 omega
theorem Xh {α:Type} {p:α->Bool} {l l':List α} (hl:l.length=l'.length) (h:∀ k (h1:k<l.length) (h2:k<l'.length),p l[k]=p l'[k]):Eo p l=Eo p l':=by
 rcases Jw p l' with e | ⟨k,hk,e⟩
 ·rw [e]
  refine Hc (fun j hj=>?_)
  rw [h j hj (by omega)]
  unfold Eo at e
  cases q:l'.findIdx? p with
  | none =>
   rw [List.findIdx?_eq_none_iff] at q
   exact q _ (List.getElem_mem _)
  | some i=>rw [q] at e;exact absurd e (by simp)
 ·rw [e]
  unfold Eo at e
  cases q:l'.findIdx? p with
  | none=>rw [q] at e;exact absurd e (by simp)
  | some i =>
   rw [q] at e
   have e':i=k:=Int.ofNat.inj e
   subst e'
   obtain ⟨h1,h2,h3⟩:=List.findIdx?_eq_some_iff_getElem.1 q
   exact Gi (by omega) (fun j hj=>by rw [h j (by omega) (by omega)];simpa using h3 j hj) (by rw [h i (by omega) hk];exact h2)
theorem Trn.runAt {y z:Yard} {m:Nat} (h:Trn y m z) (id:Int):Bo z id=Bo y id:=by
 rw [Jd h.le8,Jd (by rw [<-h.len];exact h.le8)]
 exact Xh h.len (fun k h1 h2=>by unfold Ke;rw [(h.run k h1 h2).2.1])
theorem Vd (y:Yard) (s:Sl×Sl) (p:Plan) (ve:Value) (w:World) (hl:Ai y<=2000000) (hS:D9 y<=40) (hq:0<=y.seq/\y.seq<=2000000000) (h:Ab.rd w w.heap.size y s) :
  Calls Tryz.prog 165 #[By y s,Ee p ve] w fun e' w'=>e' = .returned (.bool (Jx y p))/\Below w.heap.size w w':=by
 have HR:=Lib.hid (show ∀ W,Below w.heap.size w W->Ab.rd W W.heap.size y s from fun W hW=>Ab.rd_more (Ab.rd_below h hW) hW.size)
 obtain ⟨⟨A1,n1,c1⟩,⟨A2,n2,c2⟩⟩:=s
 obtain rfl:n2=y.runs.length:=RdL.at1 (s:=⟨A2,n2,c2⟩) h.2
 have CS:=Lib.hid (fun W hW=>Mp y (⟨A1,n1,c1⟩,⟨A2,y.runs.length,c2⟩) W hl (HR.out W hW))
 clear h HR
 have HD:=Lib.hid (show Jx y p=(decide (y.runs.length<8) && (inB p.tasks 0 12 && (decide ((D9 y:Int)+p.tasks<=40) && decide (y.seq<=999999000 - p.tasks)))) from rfl)
 generalize Jx y p=D at *
 generalize D9 y=sn at *
 obtain ⟨W,aG,X,P,B0⟩:=bx2 w 31 [.int .i64 y.now,.int .i64 y.seq,.slice A1 n1 c1,.slice A2 y.runs.length c2] 43 [.int .i64 p.prio,.int .i64 p.most,.int .i64 p.wait,.int .i64 p.tasks,ve]
 go_enter Tryz.func165,Tryz.ntmps165
 go_wp2
 rw [<-aG.out]
 clear aG
 obtain ⟨X_0,X_1,X_2,X_3,X_l⟩:=X.g4
 obtain ⟨P_0,P_1,P_2,P_3,P_4,P_l⟩:=P.g5
 have aN:=Bk W
 by_cases a:y.runs.length<8
 case neg =>
  have aI:¬ (y.runs.length:Int)<8:=by omega
  have aD:decide ((y.runs.length:Int)<8)=false:=decide_eq_false aI
  have H:=Lib.hid (show D=false by rw [HD.out,decide_eq_false a,Bool.false_and])
  clear HD a
  refine Ad (by kernel_rfl) (by kernel_rfl) ?_
  repeat (go_big_quiet_step ((first | (go_at_call 58;exact Bv (fun u=>Ap _ _ _ u.1)) | (go_at_call 121;rename_i x;have h1:=CS.out x.1 (Aa B0 x.2);exact Dg h1))))
  refine wpQuiet_nil ?_
  rintro _ ⟨⟨w3,b3⟩,rfl⟩
  clear aN
  go_wp2
  go_ret
  exact ⟨Ac H.out.symm,Aa B0 b3⟩
 have aI:(y.runs.length:Int)<8:=by omega
 have aD:decide ((y.runs.length:Int)<8)=true:=decide_eq_true aI
 have HD:=Lib.hid (HD.out.trans (by rw [decide_eq_true a,Bool.true_and]))
 clear a
 cases c:inB p.tasks 0 12
 case false =>
  have H:=Lib.hid (show D=false by rw [HD.out,c,Bool.false_and])
  clear HD
  refine Ad (by kernel_rfl) (by kernel_rfl) ?_
  repeat (go_big_quiet_step ((first | (go_at_call 58;exact Bv (fun u=>Ap _ _ _ u.1)) | (go_at_call 121;rename_i x;have h1:=CS.out x.1 (Aa B0 x.2);exact Dg h1))))
  refine wpQuiet_nil ?_
  rintro _ ⟨⟨w3,b3⟩,rfl⟩
  clear aN
  go_wp2
  go_ret
  exact ⟨Ac H.out.symm,Aa B0 b3⟩
 have cc:=Bf.1 c
 have HD:=Lib.hid (HD.out.trans (by rw [c,Bool.true_and]))
 have wr1:IntKind.i64.wrap ((sn:Int)+p.tasks)=(sn:Int)+p.tasks:=IntWalk.i64_in _ (by omega)
 have wr2:IntKind.i64.wrap (999999000 - p.tasks)=999999000 - p.tasks:=IntWalk.i64_in _ (by omega)
 cases d:decide ((sn:Int)+p.tasks<=40)
 case false =>
  have H:=Lib.hid (show D=false by rw [HD.out,d,Bool.false_and])
  clear HD cc
  refine Ad (by kernel_rfl) (by kernel_rfl) ?_
  repeat (go_big_quiet_step ((first | (go_at_call 58;exact Bv (fun u=>Ap _ _ _ u.1)) | (go_at_call 121;rename_i x;have h1:=CS.out x.1 (Aa B0 x.2);exact Dg h1))))
  refine wpQuiet_nil ?_
  rintro _ ⟨⟨w3,b3⟩,rfl⟩
  clear aN
  go_wp2
  go_ret
  exact ⟨Ac H.out.symm,Aa B0 b3⟩
 have H:=Lib.hid (show D=decide (y.seq<=999999000 - p.tasks) by rw [HD.out,d,Bool.true_and])
 clear HD cc
 cases e:decide (y.seq<=999999000 - p.tasks)
 all_goals
  rw [e] at H
  refine Ad (by kernel_rfl) (by kernel_rfl) ?_
  repeat (go_big_quiet_step ((first | (go_at_call 58;exact Bv (fun u=>Ap _ _ _ u.1)) | (go_at_call 121;rename_i x;have h1:=CS.out x.1 (Aa B0 x.2);exact Dg h1))))
  refine wpQuiet_nil ?_
  rintro _ ⟨⟨w3,b3⟩,rfl⟩
  clear aN
  go_wp2
  go_ret
  exact ⟨Ac H.out.symm,Aa B0 b3⟩
theorem R8 (es:List (Nat×Nat)) (T t:Nat):∀ x∈Dp es T t,x<T:=by
 induction T with
 | zero =>
  intro x hx
  have:=Jv es 0 t
  have h0:Dp es 0 t=[]:=List.eq_nil_of_length_eq_zero (by omega)
  rw [h0] at hx
  cases hx
 | succ T ih =>
  intro x hx
  rw [Nk] at hx
  rcases List.mem_append.1 hx with h | h
  ·have:=ih x h;omega
  ·unfold Gm at h
   split at h
   ·simp at h;omega
   ·cases h
def Abn (r:Run) (u:Nat) (L:List Nat):List Task:=L.foldl (fun l b=>Ew l b Bu) (Ew r.tasks u fun x=>⟨4,x.need,x.try_,0⟩)
theorem Jf (r:Run) (u:Nat):∀ (L:List Nat) (l:List Task),(L.foldl (fun l b=>Ew l b Bu) l).length=l.length
 | [],l=>rfl
 | b :: L,l=>by rw [List.foldl_cons,Jf r u L,Lo]
theorem Oh (L:List Nat):∀ (l:List Task) (m:Int),(∀ x∈l,-m<=x.need/\x.need<=1000/\1<=x.state/\x.state<=6)->(0<=m) -> ∀ x∈L.foldl (fun l b=>Ew l b Bu) l,-(m+L.length)<=x.need/\x.need<=1000/\1<=x.state/\x.state<=6:=by
 induction L with
 | nil=>intro l m h _ x hx;have:=h x hx;simp;exact this
 | cons b L ih =>
  intro l m h hm x hx
  rw [List.foldl_cons] at hx
  have h1:∀ x∈Ew l b Bu,-(m+1)<=x.need/\x.need<=1000/\1<=x.state/\x.state<=6:=by
   intro x hx
   unfold Ew at hx
   rcases List.mem_or_eq_of_mem_set hx with h2 | h2
   ·have:=h x h2;omega
   ·subst h2
    by_cases hb:b<l.length
    ·rw [List.getD_eq_getElem?_getD,List.getElem?_eq_getElem hb]
     have:=h _ (List.getElem_mem hb)
     simp only [Option.getD_some,Bu]
     split<;>omega
    ·rw [List.set_eq_of_length_le (by omega)] at hx
     have:=h _ hx
     omega
  have:=ih _ (m+1) h1 (by omega) x hx
  rw [List.length_cons]
  omega
section
theorem Abo {l:List Entry} {e x:Entry} (h:x∈G4 l e):x∈l\/x=e:=by
 unfold G4 at h
 rcases List.mem_append.1 h with h | h
 ·exact .inl ((List.takeWhile_prefix _).sublist.subset h)
 ·rcases List.mem_cons.1 h with h | h
  ·exact .inr h
  ·exact .inl ((List.dropWhile_suffix _).sublist.subset h)
theorem R9 (b:List Entry):∀ (a:List Entry) {x:Entry},x∈b.foldl G4 a->x∈a\/x∈b:=by
 induction b with
 | nil=>intro a x h;exact .inl h
 | cons e b ih =>
  intro a x h
  rw [List.foldl_cons] at h
  rcases ih _ h with h | h
  ·rcases Abo h with h | h
   ·exact .inl h
   ·exact .inr (by rw [h];exact List.mem_cons_self ..)
  ·exact .inr (List.mem_cons_of_mem _ h)
theorem Xi {a b:List Entry} {x:Entry} (h:x∈Eb a b):x∈a\/x∈b:=by
 unfold Eb at h
 split at h
 ·exact .inl h
 ·exact R9 b a h
theorem Kw {y z:Yard} (h:z.runs=y.runs) (id:Int):Bo z id=Bo y id:=by unfold Bo;rw [h]
theorem Lp {y z:Yard} (h:z.runs=y.runs) (e:Entry):Cy z e=Cy y e:=by
 unfold Cy
 apply Abd
 have hk:H8 z e.run=H8 y e.run:=by unfold H8;rw [h,Kw h]
 unfold Q8
 rw [hk,Kw h]
theorem Ed {y:Yard} {i:Nat} (h:i<y.shelf.length):y.shelf.getD i []=y.shelf[i]:=by
 rw [List.getD_eq_getElem?_getD,List.getElem?_eq_getElem h];rfl
structure Pol (y:Yard) (home:Nat) (z:Yard):Prop where
 now:z.now=y.now
 seq:z.seq=y.seq
 runs:z.runs=y.runs
 four:z.shelf.length=4
 all:∀ s∈z.shelf,s.length<=80
 fresh:∀ e∈z.shelf.getD home [],Cy y e=true
theorem Kj (y:Yard) (i:Nat):(Ae y i).shelf.length=y.shelf.length:=by unfold Ae;simp
theorem Mb {y:Yard} {i M:Nat} (h:∀ s∈y.shelf,s.length<=M):∀ s∈(Ae y i).shelf,s.length<=M:=by
 intro s hs
 unfold Ae at hs
 rcases List.mem_or_eq_of_mem_set hs with h1 | h1
 ·exact h s h1
 ·subst h1
  refine Nat.le_trans (List.length_filter_le _ _) ?_
  rw [List.getD_eq_getElem?_getD]
  cases q:y.shelf[i]? with
  | none=>simp
  | some s=>exact h s (List.mem_of_getElem? q)
theorem Xj {y:Yard} {i:Nat} (h:i<y.shelf.length):(Ae y i).shelf.getD i []=(y.shelf[i]).filter fun e=>Cy y e:=by
 rw [Ed (by rw [Kj];exact h)]
 unfold Ae
 simp only [List.getElem_set_self]
 rw [Ed h]
theorem Oi {y:Yard} {i j:Nat} (h:i≠j):(Ae y i).shelf.getD j []=y.shelf.getD j []:=by
 unfold Ae
 simp only [List.getD_eq_getElem?_getD,List.getElem?_set_ne h]
theorem Pol.start {y:Yard} (h:Bq y) {home:Nat} (hh:home<4):Pol y home (Ae y home):=by
 have h4:=h.2.2.1
 refine ⟨rfl,rfl,rfl,by rw [Kj];exact h4,Mb (fun s hs=>(h.2.2.2.1 s hs).1),fun e he=>?_⟩
 rw [Xj (by omega)] at he
 exact (List.mem_filter.1 he).2
theorem J5 (l:List Entry) (h:l.length<=80):(l.take (Bh l)).length<=80:=by rw [List.length_take];omega
noncomputable def Io (home:Nat) (y:Yard) (v:Nat):Yard :=
 ⟨y.now,y.seq,((Ae y v).shelf.set v (((Ae y v).shelf.getD v []).drop (Bh ((Ae y v).shelf.getD v [])))).set home (Eb [] (((Ae y v).shelf.getD v []).take (Bh ((Ae y v).shelf.getD v [])))),y.runs⟩
theorem Xk {home:Nat} {y:Yard} {v:Nat} (h:¬ (y.shelf.getD home []).length=0):Cr home y v=y:=by unfold Cr;rw [if_neg h]
theorem Kk {home:Nat} {y:Yard} {v:Nat} (h:(y.shelf.getD home []).length=0) (hv:v≠home):Cr home y v=Io home y v:=by
 unfold Cr
 rw [if_pos h]
 unfold Io
 have e:((Ae y v).shelf.set v (((Ae y v).shelf.getD v []).drop (Bh ((Ae y v).shelf.getD v [])))).getD home []=[]:=by
  rw [List.getD_eq_getElem?_getD,List.getElem?_set_ne hv,<-List.getD_eq_getElem?_getD,Oi hv]
  exact List.eq_nil_of_length_eq_zero h
 simp only [e]
 rfl
theorem Ve {home:Nat} {y:Yard} {v:Nat} (h4:y.shelf.length=4) (hh:home<4):(Io home y v).shelf.getD home []=Eb [] (((Ae y v).shelf.getD v []).take (Bh ((Ae y v).shelf.getD v []))):=by
 rw [Ed (by unfold Io;simp [Ae];omega)]
 unfold Io
 simp only [List.getElem_set_self]
theorem Pol.step {y z:Yard} {home v:Nat} (h:Pol y home z) (hh:home<4) (hv:v<4) (aC:v≠home):Pol y home (Cr home z v):=by
 by_cases q:(z.shelf.getD home []).length=0
 ·rw [Kk q aC]
  have jC:∀ e∈(Ae z v).shelf.getD v [],Cy y e=true:=by
   intro e he
   rw [Xj (by rw [h.four];exact hv)] at he
   rw [<-Lp h.runs]
   exact (List.mem_filter.1 he).2
  have sA:=Mb (i:=v) h.all
  have hlv:((Ae z v).shelf.getD v []).length<=80:=by
   rw [Ed (by rw [Kj,h.four];exact hv)]
   exact sA _ (List.getElem_mem _)
  refine ⟨h.now,h.seq,h.runs,by unfold Io;simp [Ae];exact h.four,fun s hs=>?_,fun e he=>?_⟩
  ·unfold Io at hs
   rcases List.mem_or_eq_of_mem_set hs with h1 | h1
   ·rcases List.mem_or_eq_of_mem_set h1 with h2 | h2
    ·exact sA s h2
    ·subst h2;rw [List.length_drop];omega
   ·subst h1
    refine Nat.le_trans (Ws _ _) ?_
    have:=J5 _ hlv
    simp only [List.length_nil,Nat.zero_add]
    exact this
  ·rw [Ve h.four hh] at he
   rcases Xi he with h1 | h1
   ·cases h1
   ·exact jC e (List.mem_of_mem_take h1)
 ·rw [Xk q];exact h
theorem Pol.cnt {y z:Yard} {home:Nat} (h:Pol y home z) (hy:Bq y):Ai z<=2000000:=by
 have:=Ma h.four h.all (by rw [h.runs];exact hy.2.2.2.2.2.2.1) (fun k hk=>by
  have bH:k<y.runs.length:=by rw [<-h.runs];exact hk
  have e:z.runs[k]=y.runs[k]:=by simp only [h.runs]
  rw [e]
  exact Co hy bH)
 omega
theorem Na {home draw:Int} : ∀ v∈Cp home draw,v<4:=by
 intro v hv
 unfold Cp at hv
 obtain ⟨i,_,rfl⟩:=List.mem_map.1 hv
 exact Nat.mod_lt _ (by decide)
theorem Nb {home draw:Int} (h0:0<=home) (h:home<4):∀ v∈Cp home draw,v≠home.toNat:=by
 intro v hv
 unfold Cp at hv
 obtain ⟨i,_,rfl⟩:=List.mem_map.1 hv
 have:=Nat.mod_lt ((max draw 0 % 3).toNat+i) (show 0<3 by decide)
 omega
theorem Pc (home draw:Int):(Cp home draw).length=3:=by unfold Cp;simp
noncomputable def Jp (y:Yard) (home draw:Int):Yard:=(Cp home draw).foldl (Cr home.toNat) (Ae y home.toNat)
theorem Pol.fold {y:Yard} {home:Nat} (hh:home<4):∀ (l:List Nat) (z:Yard),Pol y home z->(∀ v∈l,v<4/\v≠home)->Pol y home (l.foldl (Cr home) z)
 | [],_,h,_=>h
 | v :: l,z,h,hl=>Pol.fold hh l _ (h.step hh (hl v (List.mem_cons_self ..)).1 (hl v (List.mem_cons_self ..)).2) (fun x hx=>hl x (List.mem_cons_of_mem _ hx))
theorem J6 {home:Nat} : ∀ (l:List Nat) (z:Yard),¬ (z.shelf.getD home []).length=0->l.foldl (Cr home) z=z
 | [],_,_=>rfl
 | v :: l,z,h=>by rw [List.foldl_cons,Xk h];exact J6 l z h
noncomputable def Pd (z:Yard) (home:Nat):List Entry->Yard×Reply
 | []=>(z,⟨9,0,0,0⟩)
 | e :: rest=>(⟨z.now,z.seq,z.shelf.set home rest,z.runs.set (Bo z e.run).toNat (Cd (H8 z e.run) e.task.toNat z.now)⟩,⟨0,e.run,e.task,(Ax (H8 z e.run) e.task.toNat).try_+1⟩)
noncomputable def K9 (z:Yard) (home:Nat):Yard×Reply:=Pd z home (z.shelf.getD home [])
open Classical in
noncomputable def Gs (y:Yard) (worker draw:Int):Yard×Reply :=
 if ¬ Bq y then (y,⟨8,0,0,0⟩) else if inB worker 0 99=false then (y,⟨5,0,0,0⟩) else K9 (Jp y (worker % 4) draw) (worker % 4).toNat
end
theorem Xl {α:Type} {l:List α} {k:Nat} (h:k<l.length) {x:α} (hx:l[k]=x):l.set k x=l:=by subst hx;exact List.set_getElem_self h
def Ug (l:List Task) (b o c n:Nat) (w:World) (e:Ending) (w':World):Prop :=
 e = .returned (.tuple #[])/\Hw Dj w' [b] (.slice (some ⟨b,o,none⟩) n c) l/\Chg [b] w w'
theorem Mu (gr off b o c:Nat) (l:List Task) (but:Int) (w:World) (h7:w.cell? ⟨gr,off+7,none⟩=some (.slice (some ⟨b,o,none⟩) l.length c)) (mI:gr<w.heap.size) (aC:gr≠b) (hl:l.length<=1000) (hp:0<l.length)
  (hw:Hw Dj w [b] (.slice (some ⟨b,o,none⟩) l.length c) l) (eH:∀ k (h:k<l.length),l[k].state=5 ↔ (k:Int)=but) :
  Calls Tryz.prog 229 #[.pointer (some ⟨gr,off,none⟩),.int .i64 but] w (Ug (l.map Bt) b o c l.length w):=by
 have bU:=(hw.block hp).2.1
 have H5:=Lib.hid eH
 clear eH
 go_enter Tryz.func229,Tryz.ntmps229
 go_wp2
 go_loopw [4,11] (fun v i wr=>∃ k:Nat,k<=l.length/\i = .int .i64 k/\Hid (Hw Dj wr [b] (.slice (some ⟨b,o,none⟩) l.length c) ((l.take k).map Bt ++ l.drop k))/\Chg [b] w wr) (fun _ i _=>l.length - (intOf i).toNat)
 case atStart=>exact ⟨0,Nat.zero_le _,rfl,by simpa using Lib.hid hw,Chg.refl _ _⟩
 case round =>
  obtain ⟨k,hk,rfl,hO,hC⟩:=hrel
  have g7:wr.cell? ⟨gr,off+7,none⟩=some (.slice (some ⟨b,o,none⟩) l.length c):=(hC.cell (p:=⟨gr,off+7,none⟩) mI (by simpa using aC)).trans h7
  have fL:gr<wr.heap.size:=Nat.lt_of_lt_of_le mI hC.size
  by_cases aA:k<l.length
  case neg =>
   have aB:¬ (k:Int)<(l.length:Int):=by omega
   have HO:=hO.out
   rw [List.take_of_length_le (by omega),List.drop_eq_nil_of_le (by omega),List.append_nil] at HO
   have HF:=Lib.hid (show Ug (l.map Bt) b o c l.length w (.returned (.tuple #[])) wr from ⟨rfl,HO,hC⟩)
   clear HO hO
   go_wp2
   exact bodyPost_ret (v:=.tuple #[]) (by simp [results,Tryz.results229,go_sem]) rfl HF.out
  have aB:(k:Int)<(l.length:Int):=by omega
  have dG:(0:Int)<=(k:Int):=by omega
  have gR:k<((l.take k).map Bt ++ l.drop k).length:=by simp;omega
  have sC:((l.take k).map Bt ++ l.drop k)[k]=l[k]:=by
   rw [List.getElem_append_right (by simp;omega)]
   simp [List.length_take,Nat.min_eq_left (Nat.le_of_lt aA)]
  obtain ⟨_,_,hA,aH,d0,d1,d2,d3⟩:=hO.out.rd.tsk gR
  simp only [Option.some.injEq,Addr.mk.injEq,and_true] at hA
  obtain ⟨rfl,rfl⟩:=hA
  rw [sC] at d0 d1 d2 d3
  have cF:=Lib.hid (Kv aA Bt)
  have h5:=H5.out k aA
  have gV:=(hO.out.block (by omega)).2.2
  by_cases pQ:(k:Int)=but
  ·subst pQ
   have hx:Bt l[k]=l[k]:=by unfold Bt;rw [if_neg (by have:=h5.2 rfl;omega)]
   have HN:=Lib.hid (show Hw Dj wr [b] (.slice (some ⟨b,o,none⟩) l.length c) ((l.take (k+1)).map Bt ++ l.drop (k+1)) from by
    rw [<-cF.out,hx]
    rw [Xl gR sC]
    exact hO.out)
   clear hx h5
   go_wp2
   exact ⟨⟨k+1,by omega,by go_num,HN,hC⟩,by simp [intOf];omega⟩
  have hbq:((k:Int) != but)=true:=by simp [pQ]
  by_cases h4:l[k].state=4
  ·have hx:Bt l[k]=l[k]:=by unfold Bt;rw [if_neg (by omega)]
   have HN:=Lib.hid (show Hw Dj wr [b] (.slice (some ⟨b,o,none⟩) l.length c) ((l.take (k+1)).map Bt ++ l.drop (k+1)) from by
    rw [<-cF.out,hx]
    rw [Xl gR sC]
    exact hO.out)
   rw [h4] at d0
   clear hx h5 h4
   go_wp2
   exact ⟨⟨k+1,by omega,by go_num,HN,hC⟩,by simp [intOf];omega⟩
  have hq4:(l[k].state != 4)=true:=by simp [h4]
  have hx:Bt l[k]=⟨6,l[k].need,l[k].try_,0⟩:=by unfold Bt;rw [if_pos ⟨h4,fun h=>pQ (h5.1 h)⟩]
  have h1:=hO.out.taskState gR 6
  have h2:=h1.taskUntil (j:=k) (by rw [List.length_set];exact gR) 0
  simp only [List.getElem_set_self,List.set_set,sC] at h2
  have gX:Chg [b] w ((wr.setCell ⟨b,o+k * 4,none⟩ (.int .i64 6)).setCell ⟨b,o+k * 4+3,none⟩ (.int .i64 0)):=(hC.trans (Chg.setCell wr b _ _)).trans (Chg.setCell _ b _ _)
  have HN:=Lib.hid (show Hw Dj ((wr.setCell ⟨b,o+k * 4,none⟩ (.int .i64 6)).setCell ⟨b,o+k * 4+3,none⟩ (.int .i64 0)) [b] (.slice (some ⟨b,o,none⟩) l.length c) ((l.take (k+1)).map Bt ++ l.drop (k+1)) from by
   rw [<-cF.out,hx];exact h2)
  clear hx h5 h4 h1 h2 pQ
  go_wp2
  exact ⟨⟨k+1,by omega,by go_num,HN,gX⟩,by simp [intOf];omega⟩
theorem Xm {b:Nat} {w:World} {u0 u1 u2 u3 u4 u5 u6 u7:Value} (X:DBox b [u0,u1,u2,u3,u4,u5,u6,u7] w) {v0 v1 v2 v3:Value} {rest:List Value} :
  (results Tryz.f211 (v0 :: v1 :: v2 :: v3 :: .pointer (some ⟨b,0,none⟩) :: rest).toArray).run Tryz.prog w = .ok (.agg #[u0,u1,u2,u3,u4,u5,u6,u7]) w:=by
 have c0:=X.cell 0 _ rfl
 have c1:=X.cell 1 _ rfl
 have c2:=X.cell 2 _ rfl
 have c3:=X.cell 3 _ rfl
 have c4:=X.cell 4 _ rfl
 have c5:=X.cell 5 _ rfl
 have c6:=X.cell 6 _ rfl
 have c7:=X.cell 7 _ rfl
 simp [results,Tryz.results211,go_sem,c0,c1,c2,c3,c4,c5,c6,c7]
theorem Hw.taskUn' {w:World} {F:List Nat} {b o n c:Nat} {l:List Task} {j:Nat} {y:Task} (h:Hw Dj w F (.slice (some ⟨b,o,none⟩) n c) (l.set j y)) (hj:j<l.length) (st:Int) :
  Hw Dj (w.setCell ⟨b,o+j * 4+3,none⟩ (.int .i64 st)) F (.slice (some ⟨b,o,none⟩) n c) (l.set j ⟨y.state,y.need,y.try_,st⟩):=by
 have:=h.taskUntil (j:=j) (by rw [List.length_set];exact hj) st
 rw [List.getElem_set_self,List.set_set] at this
 exact this
theorem Vf (r:Run) (s:Sl×Sl) (u:Nat) (w:World) (hl:Bg r<=2000000) (hR:Gg r u) (h:Am.rd w w.heap.size r s) :
  Calls Tryz.prog 211 #[Ey r s,.int .i64 u] w (Cj Am Ey (G9 r u) w):=by
 have CP:=Lib.hid (fun W (hW:Below w.heap.size w W)=>Fj r s W hl (Am.rd_more (Am.rd_below h hW) hW.size))
 have CR:=Lib.hid (fun W (hW:Below w.heap.size w W)=>Nu r s u W hl (Am.rd_more (Am.rd_below h hW) hW.size))
 rw [Bs hR] at CR
 have ht:u<r.tasks.length:=by have:=hR.2.1.2;omega
 have aJ:r.tasks.length<=2000000:=Nat.le_trans (Ar Fc _) (by unfold Bg at hl;omega)
 have cR:=Lib.hid (Aw ht)
 obtain ⟨⟨A1,n1,c1⟩,⟨A2,n2,c2⟩⟩:=s
 obtain rfl:n2=r.tasks.length:=RdL.at1 (s:=⟨A2,n2,c2⟩) h.2
 obtain rfl:n1=r.plan.edges.length:=RdL.at1 (s:=⟨A1,n1,c1⟩) h.1
 have tM:=Lib.hid hR.1
 have qT:=Lib.hid (fun W (hW:Below w.heap.size w W)=>(Gf h.1).below hW)
 clear h hl hR
 have jR:(u:Int)<(r.tasks.length:Int):=by omega
 have fZ:(0:Int)<=(u:Int):=by omega
 have X:=(DBox.new 89 [.int .i64 r.id,.int .i64 r.plan.prio,.int .i64 r.plan.most,.int .i64 r.plan.wait,.int .i64 r.plan.tasks,.slice A1 r.plan.edges.length c1,.int .i64 r.state,.slice A2 r.tasks.length c2] w (b:=w.heap.size) rfl).below ((Below.refl _ _).alloc (Nat.le_refl _) (.cells #[.int .i64 0,.int .i64 0,.int .i64 0,.int .i64 0,.int .i64 0,.slice none 0 0,.int .i64 0,.slice none 0 0] 89))
 have RES:=DBox.new 89 [.int .i64 0,.int .i64 0,.int .i64 0,.int .i64 0,.int .i64 0,.slice none 0 0,.int .i64 0,.slice none 0 0] (w.alloc (.cells #[.int .i64 r.id,.int .i64 r.plan.prio,.int .i64 r.plan.most,.int .i64 r.plan.wait,.int .i64 r.plan.tasks,.slice A1 r.plan.edges.length c1,.int .i64 r.state,.slice A2 r.tasks.length c2] 89)) (b:=w.heap.size+1) (by simp)
 have B0:Below w.heap.size w ((w.alloc (.cells #[.int .i64 r.id,.int .i64 r.plan.prio,.int .i64 r.plan.most,.int .i64 r.plan.wait,.int .i64 r.plan.tasks,.slice A1 r.plan.edges.length c1,.int .i64 r.state,.slice A2 r.tasks.length c2] 89)).alloc (.cells #[.int .i64 0,.int .i64 0,.int .i64 0,.int .i64 0,.int .i64 0,.slice none 0 0,.int .i64 0,.slice none 0 0] 89)):=by repeat (first | exact Below.refl _ _ | refine Below.alloc ?_ (by simp<;>omega) _)
 go_enter Tryz.func211,Tryz.ntmps211
 go_wp2_with fail
 refine (CP.out _ B0).mono ?_
 rintro e w1 ⟨⟨⟨A3,n3,c3⟩,⟨A4,n4,c4⟩⟩,F,rfl,o1,nF,b1⟩
 obtain ⟨F1,F2,rfl,bK,op,ot⟩:=o1
 replace ot:OwL Cv w1 F2 (.slice A4 n4 c4) r.tasks:=ot
 have bM:=Lib.hid (Ag.ow_lt op)
 obtain rfl:n4=r.tasks.length:=RdL.at1 (s:=⟨A4,n4,c4⟩) ot.rd
 have oh:=Ku ot
 clear ot CP
 obtain ⟨b,o,rfl,aH,d0,d1,d2,d3⟩:=oh.rd.tsk ht
 clear d0 d1 d2 d3
 have hBw:=B0.size
 obtain ⟨rfl,bN,pF⟩:=oh.block (by omega)
 have fX:=nF b (by simp)
 have mB:=X.lt
 have dM:=RES.lt
 replace B0:=Aa B0 b1
 replace X:=X.below b1
 replace RES:=RES.below b1
 clear b1
 go_upto_region 2 with fail
 have OB:=DBox.new 89 [.int .i64 r.id,.int .i64 r.plan.prio,.int .i64 r.plan.most,.int .i64 r.plan.wait,.int .i64 r.plan.tasks,.slice A3 n3 c3,.int .i64 r.state,.slice (some ⟨b,o,none⟩) r.tasks.length c4] w1 (b:=w1.heap.size) rfl
 have b2:Below w1.heap.size w1 (w1.alloc (.cells #[.int .i64 r.id,.int .i64 r.plan.prio,.int .i64 r.plan.most,.int .i64 r.plan.wait,.int .i64 r.plan.tasks,.slice A3 n3 c3,.int .i64 r.state,.slice (some ⟨b,o,none⟩) r.tasks.length c4] 89)):=(Below.refl _ _).alloc (Nat.le_refl _) _
 have B2:=Aa B0 b2
 replace X:=X.below b2
 replace RES:=RES.below b2
 replace oh:=oh.below b2
 have op2:=Ag.ow_below op b2
 have eG:=b2.size
 have ow1:=OB.lt
 clear op
 generalize w1.alloc (.cells #[.int .i64 r.id,.int .i64 r.plan.prio,.int .i64 r.plan.most,.int .i64 r.plan.wait,.int .i64 r.plan.tasks,.slice A3 n3 c3,.int .i64 r.state,.slice (some ⟨b,o,none⟩) r.tasks.length c4] 89)=w2 at *
 obtain ⟨X_0,X_1,X_2,X_3,X_4,X_5,X_6,X_7,X_l⟩:=X.g8
 go_wp2_with fail
 refine (CR.out _ B2).mono ?_
 rintro e w3 ⟨rfl,b3⟩
 have B3:=Aa B2 b3
 clear X_0 X_1 X_2 X_3 X_4 X_5 X_6 X_7 X_l
 replace X:=X.below b3
 replace RES:=RES.below b3
 replace OB:=OB.below b3
 replace oh:=oh.below b3
 have op3:=Ag.ow_below op2 b3
 have jP:=b3.size
 clear op2 CR b3
 obtain ⟨X_0,X_1,X_2,X_3,X_4,X_5,X_6,X_7,X_l⟩:=X.g8
 obtain ⟨OB_0,OB_1,OB_2,OB_3,OB_4,OB_5,OB_6,OB_7,OB_l⟩:=OB.g8
 obtain ⟨b',o',bS,bI,d0,d1,d2,d3⟩:=oh.rd.tsk ht
 simp only [Option.some.injEq,Addr.mk.injEq,and_true] at bS
 obtain ⟨rfl,rfl⟩:=bS
 have gV:=(oh.block (by omega)).2.2
 have eM:b∉F1:=fun hx=>(List.nodup_append.1 bK).2.2 b hx b (by simp) rfl
 go_upto_region 6 with fail
 have oh4:Hw Dj ((w3.setCell ⟨b,o+u * 4,none⟩ (.int .i64 4)).setCell ⟨b,o+u * 4+3,none⟩ (.int .i64 0)) [b] (.slice (some ⟨b,o,none⟩) r.tasks.length c4) (r.tasks.set u ⟨4,r.tasks[u].need,r.tasks[u].try_,0⟩):=(oh.taskState ht 4).taskUn' ht 0
 have hC:Chg [b] w3 ((w3.setCell ⟨b,o+u * 4,none⟩ (.int .i64 4)).setCell ⟨b,o+u * 4+3,none⟩ (.int .i64 0)):=(Chg.setCell w3 b _ _).trans (Chg.setCell _ b _ _)
 have op4:=Ag.ow_chg op3 hC (fun x hx h=>by simp only [List.mem_singleton] at h;subst h;exact eM hx)
 have B4:Below w.heap.size w ((w3.setCell ⟨b,o+u * 4,none⟩ (.int .i64 4)).setCell ⟨b,o+u * 4+3,none⟩ (.int .i64 0)):=by
  repeat (first | (with_reducible exact B3) | refine Below.setCell ?_ (by simp<;>omega) _)
 clear OB_0 OB_1 OB_2 OB_3 OB_4 OB_5 OB_6 OB_7 OB_l
 clear X_0 X_1 X_2 X_3 X_4 X_5 X_6 X_7 X_l
 clear d0 d1 d2 d3 bI gV
 replace OB:=OB.chg hC (by simp only [List.mem_singleton];omega)
 replace X:=X.chg hC (by simp only [List.mem_singleton];omega)
 replace RES:=RES.chg hC (by simp only [List.mem_singleton];omega)
 have kV:=hC.size
 clear hC oh op3
 generalize ((w3.setCell ⟨b,o+u * 4,none⟩ (.int .i64 4)).setCell ⟨b,o+u * 4+3,none⟩ (.int .i64 0))=w4 at *
 obtain ⟨X_0,X_1,X_2,X_3,X_4,X_5,X_6,X_7,X_l⟩:=X.g8
 have fI:=Bn.1 tM.out.2.1
 have CB:=Lib.hid (Q0 r.plan (.slice A1 r.plan.edges.length c1) u w4 fI.1 fI.2.1 fI.2.2.1 ((qT.out w4 B4).more B4.size))
 have hBL:=Lib.hid (R8 (Ca r.plan) r.plan.tasks.toNat u)
 have fT:=Lib.hid (Jv (Ca r.plan) r.plan.tasks.toNat u)
 have hD0:Hid (G9 r u=⟨r.id,r.plan,stL (Abn r u (Dp (Ca r.plan) r.plan.tasks.toNat u)),Abn r u (Dp (Ca r.plan) r.plan.tasks.toNat u)⟩):=rfl
 clear fI
 generalize Dp (Ca r.plan) r.plan.tasks.toNat u=BL at *
 go_wp2_with fail
 refine CB.out.mono ?_
 rintro e w5 ⟨vb,rfl,ob,b5⟩
 obtain ⟨A9,c9,rfl,-⟩:=id (Rd.of_own ob)
 have B5:=Aa B4 b5
 have pC:=b5.size
 have oh5:=oh4.below b5
 have op5:=Ag.ow_below op4 b5
 clear X_0 X_1 X_2 X_3 X_4 X_5 X_6 X_7 X_l
 replace OB:=OB.below b5
 replace RES:=RES.below b5
 have bQ:b<w4.heap.size:=by omega
 obtain ⟨cJ,hobB⟩:=Hw.of_ow ob
 have HB:=Lib.hid (fun W (hW:Chg [b] w5 W)=>(cJ.chg hW (fun x hx h=>by simp only [List.mem_singleton] at h;subst h;have:=hobB _ hx;omega)).rd)
 have cQ:Hid (∀ g o,A9=some ⟨g,o,none⟩->0<BL.length->w4.heap.size<=g):=fun g o h hp=>hobB g (by
  subst h
  unfold Cm
  rw [if_neg (by omega)]
  exact List.mem_singleton.2 rfl)
 have sG:Hid (Ew r.tasks u (fun x=>⟨4,x.need,x.try_,0⟩)=r.tasks.set u ⟨4,r.tasks[u].need,r.tasks[u].try_,0⟩):=Nt ht _
 have cS:∀ x∈r.tasks,0<=x.need/\x.need<=1000/\1<=x.state/\x.state<=6:=by
  intro x hx
  obtain ⟨j,hj,rfl⟩:=List.getElem_of_mem hx
  have h1:=tM.out.2.2.2.1 j hj
  unfold Ev Lm at h1
  rw [Aw hj] at h1
  have h2:=Lw r (Cf (Ca r.plan) r.plan.tasks.toNat j)
  have h3:=Gn (Ca r.plan) r.plan.tasks.toNat j
  have h4:=(Cb tM.out).2
  have h5:=tM.out.2.2.1
  have h6:Ge r j<=12:=by unfold Ge;omega
  omega
 have hbnd:Hid (∀ x∈r.tasks.set u ⟨4,r.tasks[u].need,r.tasks[u].try_,0⟩,-0<=x.need/\x.need<=1000/\1<=x.state/\x.state<=6):=by
  intro x hx
  rcases List.mem_or_eq_of_mem_set hx with h | h
  ·have:=cS x h;omega
  ·subst h
   have:=cS _ (List.getElem_mem ht)
   refine ⟨?_,?_,?_,?_⟩<;>dsimp only<;>omega
 clear cS
 have qS:=Lib.hid (show r.plan.tasks.toNat=r.tasks.length by have:=tM.out.2.2.1;omega)
 generalize hL:r.tasks.set u ⟨4,r.tasks[u].need,r.tasks[u].try_,0⟩=L0 at *
 have mN:=Lib.hid (show L0.length=r.tasks.length by rw [<-hL,List.length_set])
 clear hL ob cJ hobB X CB qT
 go_wp2
 generalize Ey r (⟨A1,r.plan.edges.length,c1⟩,⟨A2,r.tasks.length,c2⟩)=rv
 go_loopw [7] (fun i wr=>∃ k:Nat,k<=BL.length/\i = .int .i64 k/\Hid (Hw Dj wr [b] (.slice (some ⟨b,o,none⟩) r.tasks.length c4) ((BL.take k).foldl (fun l b=>Ew l b Bu) L0))/\DBox w1.heap.size [.int .i64 r.id,.int .i64 r.plan.prio,.int .i64 r.plan.most,.int .i64 r.plan.wait,.int .i64 r.plan.tasks,.slice A3 n3 c3,.int .i64 r.state,.slice (some ⟨b,o,none⟩) r.tasks.length c4] wr/\DBox (w.heap.size+1) [.int .i64 0,.int .i64 0,.int .i64 0,.int .i64 0,.int .i64 0,.slice none 0 0,.int .i64 0,.slice none 0 0] wr/\Chg [b] w5 wr) (fun i _=>BL.length - (intOf i).toNat)
 case atStart=>exact ⟨0,Nat.zero_le _,rfl,oh5,OB,RES,Chg.refl _ _⟩
 case round =>
  clear OB RES oh5
  obtain ⟨k,hk,rfl,hO,OB,RES,hb⟩:=hrel
  by_cases aA:k<BL.length
  ·have aB:(k:Int)<(BL.length:Int):=by omega
   have hx:=Lib.hid (hBL.out _ (List.getElem_mem aA))
   have tE:=Lib.hid (show ((BL.take k).foldl (fun l b=>Ew l b Bu) L0).length=r.tasks.length by rw [Jf r u,mN.out])
   have pQ:=Lib.hid (Oh (BL.take k) L0 0 hbnd.out (Int.le_refl 0))
   have aE:=Lib.hid (show (BL.take (k+1)).foldl (fun l b=>Ew l b Bu) L0=Ew ((BL.take k).foldl (fun l b=>Ew l b Bu) L0) BL[k] Bu from Il (fun l b=>Ew l b Bu) L0 BL k aA)
   have kB:(BL.take k).length<=r.tasks.length:=by have:=fT.out;have:=qS.out;rw [List.length_take];omega
   obtain ⟨b9,o9,rfl,hb9,e0⟩:=(HB.out wr hb).nat aA
   generalize BL[k]=x at *
   generalize (BL.take k).foldl (fun l b=>Ew l b Bu) L0=Lk at *
   have fF:x<Lk.length:=by have:=hx.out;have:=qS.out;have:=tE.out;omega
   have hxI:(x:Int)<(r.tasks.length:Int):=by have:=hx.out;have:=qS.out;omega
   have rB:(0:Int)<=(x:Int):=by omega
   have hBs:BL.length<=2000000:=by have:=fT.out;have:=qS.out;omega
   have hb9w:=cQ.out b9 o9 rfl (by omega)
   have dG:(0:Int)<=(k:Int):=by omega
   have hyb:=pQ.out _ (List.getElem_mem fF)
   have dP:=Lib.hid (aE.out.trans (Nt fF Bu))
   clear aE
   obtain ⟨OB_0,OB_1,OB_2,OB_3,OB_4,OB_5,OB_6,OB_7,OB_l⟩:=OB.g8
   obtain ⟨RES_0,RES_1,RES_2,RES_3,RES_4,RES_5,RES_6,RES_7,RES_l⟩:=RES.g8
   obtain ⟨b',o',bS,bI,d0,d1,d2,d3⟩:=hO.out.rd.tsk fF
   simp only [Option.some.injEq,Addr.mk.injEq,and_true] at bS
   obtain ⟨rfl,rfl⟩:=bS
   generalize Lk[x]=tx at *
   go_wp2
   have tN:b9<wr.heap.size:=by have:=hb.size;omega
   have hs0:b<wr.heap.size:=by have:=hb.size;omega
   have hSS:=Lib.hid (show ∀ W',Below wr.heap.size wr W'->(fun w'=>DBox w1.heap.size [.int .i64 r.id,.int .i64 r.plan.prio,.int .i64 r.plan.most,.int .i64 r.plan.wait,.int .i64 r.plan.tasks,.slice A3 n3 c3,.int .i64 r.state,.slice (some ⟨b,o,none⟩) r.tasks.length c4] w'/\w'.cell? ⟨b9,o9+k,none⟩=some (.int .i64 (x:Int))/\w'.cell? ⟨b,o+x * 4,none⟩=some (.int .i64 tx.state)/\w'.cell? ⟨b,o+x * 4+1,none⟩=some (.int .i64 tx.need)/\w'.cell? ⟨b,o+x * 4+2,none⟩=some (.int .i64 tx.try_)/\w'.cell? ⟨b,o+x * 4+3,none⟩=some (.int .i64 tx.until_)) W' from fun W' kL=>⟨OB.below kL,(kL.cell (p:=⟨b9,_,none⟩) tN).trans e0,(kL.cell (p:=⟨b,_,none⟩) hs0).trans d0,(kL.cell (p:=⟨b,_,none⟩) hs0).trans d1,(kL.cell (p:=⟨b,_,none⟩) hs0).trans d2,(kL.cell (p:=⟨b,_,none⟩) hs0).trans d3⟩)
   refine Go.wp_region_noPanic ?_
   refine wp_region_held_drew (S:=(fun w'=>DBox w1.heap.size [.int .i64 r.id,.int .i64 r.plan.prio,.int .i64 r.plan.most,.int .i64 r.plan.wait,.int .i64 r.plan.tasks,.slice A3 n3 c3,.int .i64 r.state,.slice (some ⟨b,o,none⟩) r.tasks.length c4] w'/\w'.cell? ⟨b9,o9+k,none⟩=some (.int .i64 (x:Int))/\w'.cell? ⟨b,o+x * 4,none⟩=some (.int .i64 tx.state)/\w'.cell? ⟨b,o+x * 4+1,none⟩=some (.int .i64 tx.need)/\w'.cell? ⟨b,o+x * 4+2,none⟩=some (.int .i64 tx.try_)/\w'.cell? ⟨b,o+x * 4+3,none⟩=some (.int .i64 tx.until_))) (by kernel_rfl) (hSS.out _ (Below.refl _ _).drew) (fun hHeld=>?_)
   refine tV 0 ?_
   (try simp only [pS])
   refine tV 1 ?_
   (try simp only [pS])
   refine tV 2 ?_
   (try simp only [pS])
   refine tV 3 ?_
   (try simp only [pS])
   refine tV 4 ?_
   (try simp only [pS])
   refine tV 5 ?_
   (try simp only [pS])
   refine tV 6 ?_
   (try simp only [pS])
   refine tV 7 ?_
   (try simp only [pS])
   refine rC 8 (fun K_ hK=>?_)
   go_simp
   have bA:Below wr.heap.size wr ((wr.alloc (.cells #[.int .i64 0,.int .i64 0,.int .i64 0,.int .i64 0] 138)).drew):=((Below.refl _ _).alloc (Nat.le_refl _) _).drew
   have XB:=DBox.drew4 (DBox.new 138 [.int .i64 0,.int .i64 0,.int .i64 0,.int .i64 0] wr (b:=wr.heap.size) rfl)
   generalize (wr.alloc (.cells #[.int .i64 0,.int .i64 0,.int .i64 0,.int .i64 0] 138)).drew=W1 at *
   refine hK.out _ _ (hSS.out _ bA) (fun hHeld=>?_)
   clear hK K_
   (try simp only [pS])
   have y0:=XB.cell 0 _ rfl
   have y1:=XB.cell 1 _ rfl
   have y2:=XB.cell 2 _ rfl
   have y3:=XB.cell 3 _ rfl
   have yf:=XB.free
   have yl:=XB.lt
   refine rC 9 (fun K_ hK=>?_)
   go_simp
   have bB:Below wr.heap.size wr ((((W1.setCell ⟨wr.heap.size,0,none⟩ (.int .i64 tx.state)).setCell ⟨wr.heap.size,1,none⟩ (.int .i64 tx.need)).setCell ⟨wr.heap.size,2,none⟩ (.int .i64 tx.try_)).setCell ⟨wr.heap.size,3,none⟩ (.int .i64 tx.until_)):=by
    repeat (first | (with_reducible exact bA) | refine Below.setCell ?_ (by simp<;>omega) _)
   have XB2:=DBox.row4 XB rfl (.int .i64 tx.state) (.int .i64 tx.need) (.int .i64 tx.try_) (.int .i64 tx.until_)
   generalize ((((W1.setCell ⟨wr.heap.size,0,none⟩ (.int .i64 tx.state)).setCell ⟨wr.heap.size,1,none⟩ (.int .i64 tx.need)).setCell ⟨wr.heap.size,2,none⟩ (.int .i64 tx.try_)).setCell ⟨wr.heap.size,3,none⟩ (.int .i64 tx.until_))=W2 at *
   clear y0 y1 y2 y3 yf yl XB
   refine hK.out _ _ (hSS.out _ bB) (fun hHeld=>?_)
   clear hK K_
   (try simp only [pS])
   refine wpAnyH_done (by kernel_rfl) ?_ _
   refine NoPanic.normal ?_
   clear hHeld
   have OB2:=OB.below bB
   have RES2:=RES.below bB
   have hO2:=hO.out.below bB
   have e2:=(bB.cell (p:=⟨b9,o9+k,none⟩) tN).trans e0
   have aF:=hb.trans (Chg.of_below [b] bB)
   have hs22:=bB.size
   have hsr:=hb.size
   clear d0 d1 d2 d3
   clear OB_0 OB_1 OB_2 OB_3 OB_4 OB_5 OB_6 OB_7 OB_l
   clear RES_0 RES_1 RES_2 RES_3 RES_4 RES_5 RES_6 RES_7 RES_l
   have y0:=XB2.cell 0 _ rfl
   have y1:=XB2.cell 1 _ rfl
   have y2:=XB2.cell 2 _ rfl
   have y3:=XB2.cell 3 _ rfl
   have yf:=XB2.free
   have yl:=XB2.lt
   have sY:wr.heap.size≠b:=by omega
   by_cases q:tx.need - 1=0
   ·have q2:(tx.need - 1 == 0)=true:=by simp [q]
    have kU:=Lib.hid (show Bu tx=⟨2,tx.need - 1,tx.try_,tx.until_⟩ by unfold Bu;rw [if_pos q])
    clear q
    go_wp2
    have bC:Below wr.heap.size wr ((W2.setCell ⟨wr.heap.size,1,none⟩ (.int .i64 (tx.need - 1))).setCell ⟨wr.heap.size,0,none⟩ (.int .i64 2)):=by
     repeat (first | (with_reducible exact bB) | refine Below.setCell ?_ (by simp<;>omega) _)
    have XB3:DBox wr.heap.size [.int .i64 2,.int .i64 (tx.need - 1),.int .i64 tx.try_,.int .i64 tx.until_] ((W2.setCell ⟨wr.heap.size,1,none⟩ (.int .i64 (tx.need - 1))).setCell ⟨wr.heap.size,0,none⟩ (.int .i64 2)):=((XB2.set 1 (by simp) (.int .i64 (tx.need - 1))).set 0 (by simp) (.int .i64 2))
    have OB3:=OB.below bC
    have RES3:=RES.below bC
    have fP:=hO.out.below bC
    have e3:=(bC.cell (p:=⟨b9,o9+k,none⟩) tN).trans e0
    have bZ:=hb.trans (Chg.of_below [b] bC)
    have nM:=bC.size
    clear y0 y1 y2 y3 yf yl XB2 OB2 RES2 hO2 e2 aF
    generalize ((W2.setCell ⟨wr.heap.size,1,none⟩ (.int .i64 (tx.need - 1))).setCell ⟨wr.heap.size,0,none⟩ (.int .i64 2))=W3 at *
    refine Go.wp_region_noPanic ?_
    refine wp_region_held_drew (S:=(fun w'=>DBox w1.heap.size [.int .i64 r.id,.int .i64 r.plan.prio,.int .i64 r.plan.most,.int .i64 r.plan.wait,.int .i64 r.plan.tasks,.slice A3 n3 c3,.int .i64 r.state,.slice (some ⟨b,o,none⟩) r.tasks.length c4] w'/\w'.cell? ⟨b9,o9+k,none⟩=some (.int .i64 (x:Int))/\DBox wr.heap.size [.int .i64 2,.int .i64 (tx.need - 1),.int .i64 tx.try_,.int .i64 tx.until_] w')) (by kernel_rfl) ⟨DBox.drew4 OB3,e3,DBox.drew4 XB3⟩ (fun hHeld=>?_)
    have bD:Below W3.heap.size W3 W3.drew:=(Below.refl _ _).drew
    replace OB3:=OB3.below bD
    replace RES3:=RES3.below bD
    replace XB3:=XB3.below bD
    replace fP:=fP.below bD
    replace bZ:=bZ.drew
    replace nM:=Nat.le_trans nM bD.size
    clear bD
    generalize W3.drew=W4 at *
    refine tV 0 ?_
    (try simp only [pS])
    refine tV 1 ?_
    (try simp only [pS])
    refine tV 2 ?_
    (try simp only [pS])
    refine tV 3 ?_
    (try simp only [pS])
    refine tV 4 ?_
    (try simp only [pS])
    refine tV 5 ?_
    (try simp only [pS])
    refine tV 6 ?_
    (try simp only [pS])
    refine tV 7 ?_
    (try simp only [pS])
    obtain ⟨b',o',bS,bI,d0,d1,d2,d3⟩:=fP.rd.tsk fF
    simp only [Option.some.injEq,Addr.mk.injEq,and_true] at bS
    obtain ⟨rfl,rfl⟩:=bS
    have gV:=(fP.block (by omega)).2.2
    have hO5:Hw Dj ((((W4.setCell ⟨b,o+x * 4,none⟩ (.int .i64 2)).setCell ⟨b,o+x * 4+1,none⟩ (.int .i64 (tx.need - 1))).setCell ⟨b,o+x * 4+2,none⟩ (.int .i64 tx.try_)).setCell ⟨b,o+x * 4+3,none⟩ (.int .i64 tx.until_)) [b] (.slice (some ⟨b,o,none⟩) r.tasks.length c4) _:=fP.task4 fF ⟨2,tx.need - 1,tx.try_,tx.until_⟩
    have dC:Chg [b] W4 ((((W4.setCell ⟨b,o+x * 4,none⟩ (.int .i64 2)).setCell ⟨b,o+x * 4+1,none⟩ (.int .i64 (tx.need - 1))).setCell ⟨b,o+x * 4+2,none⟩ (.int .i64 tx.try_)).setCell ⟨b,o+x * 4+3,none⟩ (.int .i64 tx.until_)):=(((Chg.setCell W4 b _ _).trans (Chg.setCell _ b _ _)).trans (Chg.setCell _ b _ _)).trans (Chg.setCell _ b _ _)
    refine rC 8 (fun K_ hK=>?_)
    go_simp
    clear d0 d1 d2 d3 gV bI
    have cJ:w1.heap.size∉[b]:=by simp only [List.mem_singleton];omega
    have uA:w.heap.size+1∉[b]:=by simp only [List.mem_singleton];omega
    have eT:wr.heap.size∉[b]:=by simp only [List.mem_singleton];omega
    have OB5:=OB3.chg dC cJ
    have RES5:=RES3.chg dC uA
    have XB5:=XB3.chg dC eT
    have e5:=(dC.cell (p:=⟨b9,o9+k,none⟩) (by show b9<W4.heap.size;omega) (by simp only [List.mem_singleton];omega)).trans hHeld.2.1
    have eH:=bZ.trans dC
    generalize ((((W4.setCell ⟨b,o+x * 4,none⟩ (.int .i64 2)).setCell ⟨b,o+x * 4+1,none⟩ (.int .i64 (tx.need - 1))).setCell ⟨b,o+x * 4+2,none⟩ (.int .i64 tx.try_)).setCell ⟨b,o+x * 4+3,none⟩ (.int .i64 tx.until_))=W5 at *
    refine hK.out _ _ ⟨OB5,e5,XB5⟩ (fun hHeld=>?_)
    clear hK K_
    (try simp only [pS])
    refine wpAnyH_done (by kernel_rfl) ?_ _
    refine NoPanic.normal ?_
    clear hHeld
    go_wp2
    exact ⟨⟨k+1,by omega,by go_num,by rw [dP.out,kU.out];exact hO5,OB5,RES5,eH⟩,by simp [intOf];omega⟩
   ·have q2:(tx.need - 1 == 0)=false:=by simp [q]
    have kU:=Lib.hid (show Bu tx=⟨tx.state,tx.need - 1,tx.try_,tx.until_⟩ by unfold Bu;rw [if_neg q])
    clear q
    go_wp2
    have bC:Below wr.heap.size wr (W2.setCell ⟨wr.heap.size,1,none⟩ (.int .i64 (tx.need - 1))):=by
     repeat (first | (with_reducible exact bB) | refine Below.setCell ?_ (by simp<;>omega) _)
    have XB3:DBox wr.heap.size [.int .i64 tx.state,.int .i64 (tx.need - 1),.int .i64 tx.try_,.int .i64 tx.until_] (W2.setCell ⟨wr.heap.size,1,none⟩ (.int .i64 (tx.need - 1))):=(XB2.set 1 (by simp) (.int .i64 (tx.need - 1)))
    have OB3:=OB.below bC
    have RES3:=RES.below bC
    have fP:=hO.out.below bC
    have e3:=(bC.cell (p:=⟨b9,o9+k,none⟩) tN).trans e0
    have bZ:=hb.trans (Chg.of_below [b] bC)
    have nM:=bC.size
    clear y0 y1 y2 y3 yf yl XB2 OB2 RES2 hO2 e2 aF
    generalize (W2.setCell ⟨wr.heap.size,1,none⟩ (.int .i64 (tx.need - 1)))=W3 at *
    refine Go.wp_region_noPanic ?_
    refine wp_region_held_drew (S:=(fun w'=>DBox w1.heap.size [.int .i64 r.id,.int .i64 r.plan.prio,.int .i64 r.plan.most,.int .i64 r.plan.wait,.int .i64 r.plan.tasks,.slice A3 n3 c3,.int .i64 r.state,.slice (some ⟨b,o,none⟩) r.tasks.length c4] w'/\w'.cell? ⟨b9,o9+k,none⟩=some (.int .i64 (x:Int))/\DBox wr.heap.size [.int .i64 tx.state,.int .i64 (tx.need - 1),.int .i64 tx.try_,.int .i64 tx.until_] w')) (by kernel_rfl) ⟨DBox.drew4 OB3,e3,DBox.drew4 XB3⟩ (fun hHeld=>?_)
    have bD:Below W3.heap.size W3 W3.drew:=(Below.refl _ _).drew
    replace OB3:=OB3.below bD
    replace RES3:=RES3.below bD
    replace XB3:=XB3.below bD
    replace fP:=fP.below bD
    replace bZ:=bZ.drew
    replace nM:=Nat.le_trans nM bD.size
    clear bD
    generalize W3.drew=W4 at *
    refine tV 0 ?_
    (try simp only [pS])
    refine tV 1 ?_
    (try simp only [pS])
    refine tV 2 ?_
    (try simp only [pS])
    refine tV 3 ?_
    (try simp only [pS])
    refine tV 4 ?_
    (try simp only [pS])
    refine tV 5 ?_
    (try simp only [pS])
    refine tV 6 ?_
    (try simp only [pS])
    refine tV 7 ?_
    (try simp only [pS])
    obtain ⟨b',o',bS,bI,d0,d1,d2,d3⟩:=fP.rd.tsk fF
    simp only [Option.some.injEq,Addr.mk.injEq,and_true] at bS
    obtain ⟨rfl,rfl⟩:=bS
    have gV:=(fP.block (by omega)).2.2
    have hO5:Hw Dj ((((W4.setCell ⟨b,o+x * 4,none⟩ (.int .i64 tx.state)).setCell ⟨b,o+x * 4+1,none⟩ (.int .i64 (tx.need - 1))).setCell ⟨b,o+x * 4+2,none⟩ (.int .i64 tx.try_)).setCell ⟨b,o+x * 4+3,none⟩ (.int .i64 tx.until_)) [b] (.slice (some ⟨b,o,none⟩) r.tasks.length c4) _:=fP.task4 fF ⟨tx.state,tx.need - 1,tx.try_,tx.until_⟩
    have dC:Chg [b] W4 ((((W4.setCell ⟨b,o+x * 4,none⟩ (.int .i64 tx.state)).setCell ⟨b,o+x * 4+1,none⟩ (.int .i64 (tx.need - 1))).setCell ⟨b,o+x * 4+2,none⟩ (.int .i64 tx.try_)).setCell ⟨b,o+x * 4+3,none⟩ (.int .i64 tx.until_)):=(((Chg.setCell W4 b _ _).trans (Chg.setCell _ b _ _)).trans (Chg.setCell _ b _ _)).trans (Chg.setCell _ b _ _)
    refine rC 8 (fun K_ hK=>?_)
    go_simp
    clear d0 d1 d2 d3 gV bI
    have cJ:w1.heap.size∉[b]:=by simp only [List.mem_singleton];omega
    have uA:w.heap.size+1∉[b]:=by simp only [List.mem_singleton];omega
    have eT:wr.heap.size∉[b]:=by simp only [List.mem_singleton];omega
    have OB5:=OB3.chg dC cJ
    have RES5:=RES3.chg dC uA
    have XB5:=XB3.chg dC eT
    have e5:=(dC.cell (p:=⟨b9,o9+k,none⟩) (by show b9<W4.heap.size;omega) (by simp only [List.mem_singleton];omega)).trans hHeld.2.1
    have eH:=bZ.trans dC
    generalize ((((W4.setCell ⟨b,o+x * 4,none⟩ (.int .i64 tx.state)).setCell ⟨b,o+x * 4+1,none⟩ (.int .i64 (tx.need - 1))).setCell ⟨b,o+x * 4+2,none⟩ (.int .i64 tx.try_)).setCell ⟨b,o+x * 4+3,none⟩ (.int .i64 tx.until_))=W5 at *
    refine hK.out _ _ ⟨OB5,e5,XB5⟩ (fun hHeld=>?_)
    clear hK K_
    (try simp only [pS])
    refine wpAnyH_done (by kernel_rfl) ?_ _
    refine NoPanic.normal ?_
    clear hHeld
    go_wp2
    exact ⟨⟨k+1,by omega,by go_num,by rw [dP.out,kU.out];exact hO5,OB5,RES5,eH⟩,by simp [intOf];omega⟩
  ·have aB:¬ (k:Int)<(BL.length:Int):=by omega
   have cL:=hO.out
   rw [List.take_of_length_le (by omega)] at cL
   have hD:=Lib.hid (show G9 r u=⟨r.id,r.plan,stL (BL.foldl (fun l b=>Ew l b Bu) L0),BL.foldl (fun l b=>Ew l b Bu) L0⟩ by rw [hD0.out];unfold Abn;rw [sG.out])
   have cF:=Lib.hid (Oh BL L0 0 hbnd.out (Int.le_refl 0))
   have hln:=Lib.hid (show (BL.foldl (fun l b=>Ew l b Bu) L0).length=r.tasks.length by rw [Jf r u,mN.out])
   generalize BL.foldl (fun l b=>Ew l b Bu) L0=DL at *
   clear hO
   have opr:=Ag.ow_chg op5 hb (fun x hx h=>by simp only [List.mem_singleton] at h;subst h;exact eM hx)
   have CS:=Lib.hid (Mn ⟨r.id,r.plan,r.state,DL⟩ (⟨A3,n3,c3⟩,⟨some ⟨b,o,none⟩,r.tasks.length,c4⟩) wr (by show DL.length<=2000000;rw [hln.out];omega) (fun x hx=>(cF.out x hx).2.2) ⟨Ag.ow_rd opr,(Eg cL).rd⟩)
   obtain ⟨OB_0,OB_1,OB_2,OB_3,OB_4,OB_5,OB_6,OB_7,OB_l⟩:=OB.g8
   have hsr:=hb.size
   go_wp2_with fail
   refine CS.out.mono ?_
   rintro e w6 ⟨rfl,b6⟩
   have hO2:=cL.below b6
   have op6:=Ag.ow_below opr b6
   have B6:Below w.heap.size w w6:=Aa (B5.trans (hb.below (by omega) (fun x hx=>by simp only [List.mem_singleton] at hx;omega))) b6
   have hs66:=b6.size
   clear OB_0 OB_1 OB_2 OB_3 OB_4 OB_5 OB_6 OB_7 OB_l
   replace OB:=OB.below b6
   replace RES:=RES.below b6
   obtain ⟨OB_0,OB_1,OB_2,OB_3,OB_4,OB_5,OB_6,OB_7,OB_l⟩:=OB.g8
   obtain ⟨RES_0,RES_1,RES_2,RES_3,RES_4,RES_5,RES_6,RES_7,RES_l⟩:=RES.g8
   have obf:=OB.free
   have rf:=RES.free
   go_wp2
   have hor:w.heap.size+1≠w1.heap.size:=by omega
   refine bodyPost_ret (Xm (DBox.row8 (RES.setOther (a:=⟨w1.heap.size,6,none⟩) hor (.int .i64 (stL DL))) rfl _ _ _ _ _ _ _ _)) rfl ⟨(⟨A3,n3,c3⟩,⟨some ⟨b,o,none⟩,r.tasks.length,c4⟩),F1 ++ [b],by rw [hD.out],⟨F1,[b],rfl,bK,?_,?_⟩,?_,?_⟩
   ·have e2:w.heap.size+1∉F1:=fun hx=>by have:=nF _ (List.mem_append_left _ hx);omega
    have e3:w1.heap.size∉F1:=fun hx=>by have:=bM.out _ hx;omega
    rw [hD.out]
    show Ag.ow _ F1 r.plan _
    exact (by (repeat (refine Dt.ow_set Ag ?_ (by first | exact e3 | exact e2) _));exact op6)
   ·have e1:w.heap.size+1∉[b]:=by simp only [List.mem_singleton];omega
    have e0:w1.heap.size∉[b]:=by simp only [List.mem_singleton];omega
    rw [hD.out]
    show OwL Cv _ [b] _ DL
    exact Eg (((((((((hO2.set (a:=⟨w1.heap.size,_,none⟩) e0 _).set (a:=⟨w.heap.size+1,_,none⟩) e1 _).set (a:=⟨w.heap.size+1,_,none⟩) e1 _).set (a:=⟨w.heap.size+1,_,none⟩) e1 _).set (a:=⟨w.heap.size+1,_,none⟩) e1 _).set (a:=⟨w.heap.size+1,_,none⟩) e1 _).set (a:=⟨w.heap.size+1,_,none⟩) e1 _).set (a:=⟨w.heap.size+1,_,none⟩) e1 _).set (a:=⟨w.heap.size+1,_,none⟩) e1 _)
   ·intro x hx
    have:=nF x hx
    omega
   ·repeat (first | (with_reducible exact B6) | refine Below.setCell ?_ (by simp<;>omega) _)
theorem Dz {y:Yard} {w:World} {F Fy:List Nat} {g o n c:Nat} {R:Sl} (h:Ab.ow w F y (⟨some ⟨g,o,none⟩,n,c⟩,R)) {i:Nat} (hi:i<y.shelf.length) {l:List Entry} {t:Sl} (hl:OwL Af w Fy t.v l) (hd:∀ x∈Fy,x∉F) :
  ∃ F',Ab.ow (w.setCell ⟨g,o+i,none⟩ (.slice t.a t.n t.c)) F' ⟨y.now,y.seq,y.shelf.set i l,y.runs⟩ (⟨some ⟨g,o,none⟩,n,c⟩,R)/\(∀ x∈F',x∈F\/x∈Fy)/\g∈F:=by
 obtain ⟨F1,F2,rfl,bK,os,orr⟩:=h
 replace os:OwL (Dt.list Af) w F1 (.slice (some ⟨g,o,none⟩) n c) y.shelf:=os
 replace orr:OwL Am w F2 R.v y.runs:=orr
 obtain ⟨F',p1,p2,p3,p4⟩:=OwL.swap os hi (y:=l) (s:=t) (Fy:=Fy) hl (fun x hx aY=>hd x hx (List.mem_append_left _ aY))
 have eZ:E9 w g (o+i * (Dt.list Af).enc.sz) ((Dt.list Af).enc.cells (l,t))=w.setCell ⟨g,o+i,none⟩ (.slice t.a t.n t.c):=by
  rw [show (Dt.list Af).enc.sz=1 from rfl,Nat.mul_one];rfl
 rw [eZ] at p1
 have dU:=(List.nodup_append.1 bK).2.2
 refine ⟨F' ++ F2,⟨F',F2,rfl,?_,p1,?_⟩,fun x hx=>?_,List.mem_append_left _ p3⟩
 ·rw [List.nodup_append]
  refine ⟨p1.nodup,(List.nodup_append.1 bK).2.1,fun a ha b hb e=>?_⟩
  subst e
  rcases p2 a ha with h1 | h1
  ·exact dU a h1 a hb rfl
  ·exact hd a h1 (List.mem_append_right _ hb)
 ·exact orr.chg (Chg.setCell w g _ _) (fun x hx hg=>by simp only [List.mem_singleton] at hg;subst hg;exact dU x p3 x hx rfl)
 ·rcases List.mem_append.1 hx with h1 | h1
  ·rcases p2 x h1 with h2 | h2
   ·exact .inl (List.mem_append_left _ h2)
   ·exact .inr h2
  ·exact .inl (List.mem_append_right _ h1)
theorem Lq {y:Yard} {w:World} {F Fy:List Nat} {g o n c:Nat} {R:Sl} (h:Ab.ow w F y (R,⟨some ⟨g,o,none⟩,n,c⟩)) {k:Nat} (hk:k<y.runs.length) {r:Run} {sr:Sl×Sl} (hr:Am.ow w Fy r sr) (hd:∀ x∈Fy,x∉F) :
  ∃ F',Ab.ow ((((((((w.setCell ⟨g,o+k * 8,none⟩ (.int .i64 r.id)).setCell ⟨g,o+k * 8+1,none⟩ (.int .i64 r.plan.prio)).setCell ⟨g,o+k * 8+2,none⟩ (.int .i64 r.plan.most)).setCell ⟨g,o+k * 8+3,none⟩ (.int .i64 r.plan.wait)).setCell ⟨g,o+k * 8+4,none⟩ (.int .i64 r.plan.tasks)).setCell ⟨g,o+k * 8+5,none⟩ (.slice sr.1.a sr.1.n sr.1.c)).setCell ⟨g,o+k * 8+6,none⟩ (.int .i64 r.state)).setCell ⟨g,o+k * 8+7,none⟩ (.slice sr.2.a sr.2.n sr.2.c)) F' ⟨y.now,y.seq,y.shelf,y.runs.set k r⟩ (R,⟨some ⟨g,o,none⟩,n,c⟩)/\(∀ x∈F',x∈F\/x∈Fy)/\g∈F:=by
 obtain ⟨F1,F2,rfl,bK,os,orr⟩:=h
 replace os:OwL (Dt.list Af) w F1 R.v y.shelf:=os
 replace orr:OwL Am w F2 (.slice (some ⟨g,o,none⟩) n c) y.runs:=orr
 obtain ⟨F',p1,p2,p3,p4⟩:=OwL.swap orr hk (y:=r) (s:=sr) (Fy:=Fy) hr (fun x hx aY=>hd x hx (List.mem_append_right _ aY))
 have hC:=Gk (Am.enc.cells (r,sr)) w g (o+k * Am.enc.sz)
 have eZ:E9 w g (o+k * Am.enc.sz) (Am.enc.cells (r,sr))=((((((((w.setCell ⟨g,o+k * 8,none⟩ (.int .i64 r.id)).setCell ⟨g,o+k * 8+1,none⟩ (.int .i64 r.plan.prio)).setCell ⟨g,o+k * 8+2,none⟩ (.int .i64 r.plan.most)).setCell ⟨g,o+k * 8+3,none⟩ (.int .i64 r.plan.wait)).setCell ⟨g,o+k * 8+4,none⟩ (.int .i64 r.plan.tasks)).setCell ⟨g,o+k * 8+5,none⟩ (.slice sr.1.a sr.1.n sr.1.c)).setCell ⟨g,o+k * 8+6,none⟩ (.int .i64 r.state)).setCell ⟨g,o+k * 8+7,none⟩ (.slice sr.2.a sr.2.n sr.2.c)):=rfl
 rw [eZ] at p1 hC
 have dU:=(List.nodup_append.1 bK).2.2
 refine ⟨F1 ++ F',⟨F1,F',rfl,?_,?_,p1⟩,fun x hx=>?_,List.mem_append_right _ p3⟩
 ·rw [List.nodup_append]
  refine ⟨(List.nodup_append.1 bK).1,p1.nodup,fun a ha b hb e=>?_⟩
  subst e
  rcases p2 a hb with h1 | h1
  ·exact dU a ha a h1 rfl
  ·exact hd a h1 (List.mem_append_left _ ha)
 ·exact os.chg hC (fun x hx hg=>by simp only [List.mem_singleton] at hg;subst hg;exact dU x hx x p3 rfl)
 ·rcases List.mem_append.1 hx with h1 | h1
  ·exact .inl (List.mem_append_left _ h1)
  ·rcases p2 x h1 with h2 | h2
   ·exact .inl (List.mem_append_right _ h2)
   ·exact .inr h2
theorem I0 {α:Type} {p:α->Bool} {l:List α} {k:Nat} (hk:k<l.length) (h:p l[k]=true):(l.take (k+1)).filter p=(l.take k).filter p ++ [l[k]]:=by
 rw [Ay l k hk,List.filter_append]
 simp [h]
theorem Jq {α:Type} {p:α->Bool} {l:List α} {k:Nat} (hk:k<l.length) (h:p l[k]=false):(l.take (k+1)).filter p=(l.take k).filter p:=by
 rw [Ay l k hk,List.filter_append]
 simp [h]
theorem Aaw {b:Nat} {w:World} {u0 u1 u2 u3:Value} (X:DBox b [u0,u1,u2,u3] w) {v0 v1 v2 v3:Value} {rest:List Value} :
  (results Tryz.f203 (v0 :: v1 :: v2 :: v3 :: .pointer (some ⟨b,0,none⟩) :: rest).toArray).run Tryz.prog w = .ok (.agg #[u0,u1,u2,u3]) w:=by
 have c0:=X.cell 0 _ rfl
 have c1:=X.cell 1 _ rfl
 have c2:=X.cell 2 _ rfl
 have c3:=X.cell 3 _ rfl
 simp [results,Tryz.results203,go_sem,c0,c1,c2,c3]
theorem Mv (y:Yard) (s:Sl×Sl) (i:Nat) (w:World) (hi:i<y.shelf.length) (hl:Ai y<=2000000) (h:Ab.rd w w.heap.size y s) :
  Calls Tryz.prog 203 #[By y s,.int .i64 i] w (Cj Ab By (Ae y i) w):=by
 have HR:=Lib.hid (show ∀ W,Below w.heap.size w W->Ab.rd W W.heap.size y s from fun W hW=>Ab.rd_more (Ab.rd_below h hW) hW.size)
 obtain ⟨⟨A1,n1,c1⟩,⟨A2,n2,c2⟩⟩:=s
 obtain rfl:n1=y.shelf.length:=RdL.at1 (s:=⟨A1,n1,c1⟩) h.1
 have CC:=Lib.hid (fun W hW=>C9 y (⟨A1,y.shelf.length,c1⟩,⟨A2,n2,c2⟩) W hl (HR.out W hW))
 have CF:=Lib.hid (fun W hW e=>Mm y (⟨A1,y.shelf.length,c1⟩,⟨A2,n2,c2⟩) e W hl (HR.out W hW))
 have hS:=Lib.hid (show ∀ W,Below w.heap.size w W->RdL (Dt.list Af) W W.heap.size (.slice A1 y.shelf.length c1) y.shelf from fun W hW=>(HR.out W hW).1)
 have nZ:y.shelf[i].length<=2000000:=by
  have h1:=Cq (cnt:=Bl) (List.getElem_mem hi)
  have h2:y.shelf[i].length<=Bl y.shelf[i]:=Ar _ _
  unfold Ai at hl
  omega
 have hshl:y.shelf.length<=2000000:=Nat.le_trans (Ar Bl _) (by unfold Ai at hl;omega)
 obtain ⟨i0,aP,aX,aV,aQ⟩:=info_parts Ds
 clear h hl HR
 have hiI:(i:Int)<(y.shelf.length:Int):=by omega
 have hi00:(0:Int)<=(i:Int):=by omega
 obtain ⟨W,aG,X,RES,B0⟩:=bx2 w 31 [.int .i64 y.now,.int .i64 y.seq,.slice A1 y.shelf.length c1,.slice A2 n2 c2] 31 [.int .i64 0,.int .i64 0,.slice none 0 0,.slice none 0 0]
 go_enter Tryz.func203,Tryz.ntmps203
 go_wp2_with fail
 rw [<-aG.out]
 clear aG
 refine (CC.out _ B0).mono ?_
 rintro e1 w1 ⟨⟨⟨B1,m1,e1⟩,⟨B2,m2,e2⟩⟩,F,rfl,oy,nF,b1⟩
 have mB:=X.lt
 have dM:=RES.lt
 replace X:=X.below b1
 replace RES:=RES.below b1
 replace B0:=Aa B0 b1
 have bM:=Ab.ow_lt (F:=F) (x:=y) (s:=(⟨B1,m1,e1⟩,⟨B2,m2,e2⟩)) oy
 have bJ:=b1.size
 clear b1
 go_upto_region 2 with fail
 have OB:=DBox.new 31 [.int .i64 y.now,.int .i64 y.seq,.slice B1 m1 e1,.slice B2 m2 e2] w1 (b:=w1.heap.size) rfl
 have b2:Below w1.heap.size w1 (w1.alloc (.cells #[.int .i64 y.now,.int .i64 y.seq,.slice B1 m1 e1,.slice B2 m2 e2] 31)):=(Below.refl _ _).alloc (Nat.le_refl _) _
 replace B0:=Aa B0 b2
 replace X:=X.below b2
 replace RES:=RES.below b2
 replace oy:=Ab.ow_below (F:=F) (x:=y) (s:=(⟨B1,m1,e1⟩,⟨B2,m2,e2⟩)) oy b2
 have eG:=b2.size
 have ow1:=OB.lt
 generalize w1.alloc (.cells #[.int .i64 y.now,.int .i64 y.seq,.slice B1 m1 e1,.slice B2 m2 e2] 31)=w2 at *
 obtain ⟨X_0,X_1,X_2,X_3,X_l⟩:=X.g4
 have wr1:IntKind.i64.wrap ((y.shelf.length:Int) - 1)=(y.shelf.length:Int) - 1:=IntWalk.i64_in _ (by omega)
 have q:inB (i:Int) 0 ((y.shelf.length:Int) - 1)=true:=Bf.2 (by omega)
 clear b2 CC
 have q0:Below w2.heap.size w2 (w2.alloc (.cells #[] 93)):=(Below.refl _ _).alloc (Nat.le_refl _) _
 go_wp2_with (go_at_call 155;refine (Aj _ _ _ _).mono ?_;rintro e w9 ⟨rfl,rfl⟩;rw [q])
 clear X_0 X_1 X_2 X_3 X_l
 have fJ:=B0.size
 have o0:=Ow.empty Az 93 w2 rfl
 go_loopw [6,7] (fun v j wr=>∃ k:Nat,k<=y.shelf[i].length/\j = .int .i64 k/\Hid (Ow Az 93 wr w2.heap.size v ((y.shelf[i].take k).filter fun e=>Cy y e))/\Below w2.heap.size w2 wr) (fun _ j _=>y.shelf[i].length - (intOf j).toNat)
 case atStart=>exact ⟨0,Nat.zero_le _,rfl,o0,q0⟩
 case round =>
  clear o0 q0
  obtain ⟨k,hk,rfl,hO,hb⟩:=hrel
  replace X:=X.below hb
  have hB:=Aa B0 hb
  have cD:=hb.size
  obtain ⟨g,o,⟨a9,n9,c9⟩,rfl,gM,hr9,ck⟩:=(hS.out w2 B0).entryS hi
  replace hr9:RdL Af w2 w2.heap.size (.slice a9 n9 c9) y.shelf[i]:=hr9
  obtain rfl:n9=y.shelf[i].length:=RdL.at1 (s:=⟨a9,n9,c9⟩) hr9
  replace ck:=(hb.cell (p:=⟨g,_,none⟩) gM).trans ck
  have fL:g<wr.heap.size:=by omega
  obtain ⟨X_0,X_1,X_2,X_3,X_l⟩:=X.g4
  by_cases aA:k<y.shelf[i].length
  ·have aB:(k:Int)<(y.shelf[i].length:Int):=by omega
   have dG:(0:Int)<=(k:Int):=by omega
   obtain ⟨g2,o2,_,rfl,jU,_,d0,d1,d2,d3⟩:=hr9.entry aA
   replace d0:=(hb.cell (p:=⟨g2,_,none⟩) jU).trans d0
   replace d1:=(hb.cell (p:=⟨g2,_,none⟩) jU).trans d1
   replace d2:=(hb.cell (p:=⟨g2,_,none⟩) jU).trans d2
   replace d3:=(hb.cell (p:=⟨g2,_,none⟩) jU).trans d3
   have kK:g2<wr.heap.size:=by omega
   have aN:=Bk wr
   have Hl:=Lib.hid (show ((y.shelf[i].take k).filter fun e=>Cy y e).length<=3000000 by have h1:=List.length_filter_le (fun e=>Cy y e) (y.shelf[i].take k);rw [List.length_take] at h1;omega)
   cases qf:Cy y y.shelf[i][k]
   ·have S:=Lib.hid (Jq (p:=fun e=>Cy y e) aA qf)
    have qF:=Lib.hid qf
    clear qf
    go_wp2
    refine Ad (by kernel_rfl) (by kernel_rfl) ?_
    repeat (go_big_quiet_step ((go_at_call 87;rename_i x;have h1:=CF.out x.1 (Aa hB x.2) y.shelf[i][k];rw [qF.out] at h1;exact Dg h1)))
    refine wpQuiet_nil ?_
    rintro w3 ⟨⟨_,b3⟩,rfl⟩
    clear aN
    go_wp2
    exact ⟨⟨k+1,by omega,by go_num,by rw [S.out];exact hO.out.below b3,Aa hb b3⟩,by simp [intOf];omega⟩
   ·have S:=Lib.hid (I0 (p:=fun e=>Cy y e) aA qf)
    have qF:=Lib.hid qf
    clear qf
    go_wp2
    refine Ad (by kernel_rfl) (by kernel_rfl) ?_
    repeat (go_big_quiet_step ((go_at_call 87;rename_i x;have h1:=CF.out x.1 (Aa hB x.2) y.shelf[i][k];rw [qF.out] at h1;exact Dg h1)))
    refine wpQuiet_nil ?_
    rintro w3 ⟨⟨_,b3⟩,rfl⟩
    clear aN
    have bZ:=Aa hb b3
    have fP:=hO.out.below b3
    clear X_0 X_1 X_2 X_3 X_l
    replace X:=X.below b3
    obtain ⟨X_0,X_1,X_2,X_3,X_l⟩:=X.g4
    replace ck:=(b3.cell (p:=⟨g,_,none⟩) fL).trans ck
    replace d0:=(b3.cell (p:=⟨g2,_,none⟩) kK).trans d0
    replace d1:=(b3.cell (p:=⟨g2,_,none⟩) kK).trans d1
    replace d2:=(b3.cell (p:=⟨g2,_,none⟩) kK).trans d2
    replace d3:=(b3.cell (p:=⟨g2,_,none⟩) kK).trans d3
    have jP:=b3.size
    have hgw3:g<w3.heap.size:=by omega
    have hg2w3:g2<w3.heap.size:=by omega
    generalize y.shelf[i][k]=e9 at *
    have ha:Hid (∀ w:World,Below w.heap.size w (w.alloc (.cells #[.int .i64 e9.prio,.int .i64 e9.seq,.int .i64 e9.run,.int .i64 e9.task] 93))):=fun w=>(Below.refl _ _).alloc (Nat.le_refl _) _
    go_wp2_with (at_builtin;go_loud (refine Ak _ Az (by decide) rfl (.tmp 39) (.tmp 48) rfl Tryz.underlying96 aP aX aV aQ rfl (base:=w2.heap.size) (l:=(y.shelf[i].take k).filter fun e=>Cy y e) rfl (fP.below (ha.out w3)) rfl (Rd.one Az _ _ e9 rfl rfl 1 (Nat.le_refl _) (Nat.lt_succ_self _)) Hl.out (by simp) (by decide) (by simp;omega) ?_);intro v5 w5 o5 g5 _)
    have eH:Below w2.heap.size w2 w5:=(Aa bZ (ha.out w3)).grown g5 (Aa bZ (ha.out w3)).size (fun g hg=>by have:=fP.within _ hg;omega)
    exact ⟨⟨k+1,by omega,by go_num,by rw [S.out];exact o5,eH⟩,by simp [intOf];omega⟩
  ·have aB:¬ (k:Int)<(y.shelf[i].length:Int):=by omega
   have cL:=hO.out
   rw [List.take_of_length_le (by omega)] at cL
   obtain ⟨⟨a8,n8,c8⟩,F9,rfl,o9,nF9⟩:=Ez cL
   have oy3:=Ab.ow_below (F:=F) (x:=y) (s:=(⟨B1,m1,e1⟩,⟨B2,m2,e2⟩)) oy hb
   replace OB:=OB.below hb
   replace RES:=RES.below hb
   have H:Hid (Ae y i=⟨y.now,y.seq,y.shelf.set i (y.shelf[i].filter fun e=>Cy y e),y.runs⟩):=by
    show Ae y i=_
    unfold Ae
    rw [Ed hi]
   generalize (y.shelf[i].filter fun e=>Cy y e)=L at *
   clear hO cL
   obtain ⟨g1,o1,s1,rfl,hg1,_,_⟩:=(RdL.entryS (show RdL (Dt.list Af) wr wr.heap.size (.slice B1 m1 e1) y.shelf from (Ab.ow_rd oy3).1) hi)
   obtain rfl:m1=y.shelf.length:=RdL.at1 (s:=⟨some ⟨g1,o1,none⟩,m1,e1⟩) (Ab.ow_rd oy3).1
   obtain ⟨F',p1,p2,p3⟩:=Dz oy3 hi (l:=L) (t:=⟨a8,n8,c8⟩) o9 (fun x hx aY=>by have h1:=nF9 x hx;have h2:=bM x aY;omega)
   obtain ⟨F1,F2,fN,_,os,_⟩:=oy3
   have pE:=OwL.free0 (show OwL (Dt.list Af) wr F1 (.slice (some ⟨g1,o1,none⟩) y.shelf.length e1) y.shelf from os) (by omega)
   have hg1F:=bM g1 p3
   have hg1n:=nF g1 p3
   obtain ⟨OB_0,OB_1,OB_2,OB_3,OB_l⟩:=OB.g4
   obtain ⟨RES_0,RES_1,RES_2,RES_3,RES_l⟩:=RES.g4
   have rf:=RES.free
   obtain ⟨_,_,_,cQ,_,_,ckk⟩:=(RdL.entryS (show RdL (Dt.list Af) wr wr.heap.size (.slice (some ⟨g1,o1,none⟩) y.shelf.length e1) y.shelf from os.rd) hi)
   simp only [Option.some.injEq,Addr.mk.injEq,and_true] at cQ
   obtain ⟨rfl,rfl⟩:=cQ
   have B8:Below w.heap.size w (wr.setCell ⟨g1,o1+i,none⟩ (.slice a8 n8 c8)):=by
    repeat (first | (with_reducible exact hB) | refine Below.setCell ?_ (by simp<;>omega) _)
   go_upto_region 11 with fail
   clear X_0 X_1 X_2 X_3 X_l
   clear OB_0 OB_1 OB_2 OB_3 OB_l
   clear RES_0 RES_1 RES_2 RES_3 RES_l
   clear X ck
   replace OB:=OB.setOther (a:=⟨g1,o1+i,none⟩) (by show w1.heap.size≠g1;omega) (.slice a8 n8 c8)
   replace RES:=RES.setOther (a:=⟨g1,o1+i,none⟩) (by show w.heap.size+1≠g1;omega) (.slice a8 n8 c8)
   generalize wr.setCell ⟨g1,o1+i,none⟩ (.slice a8 n8 c8)=w8 at *
   obtain ⟨OB_0,OB_1,OB_2,OB_3,OB_l⟩:=OB.g4
   obtain ⟨RES_0,RES_1,RES_2,RES_3,RES_l⟩:=RES.g4
   have rf:=RES.free
   go_wp2
   have en1:w.heap.size+1∉F':=fun hx=>by
    rcases p2 _ hx with h | h
    ·have:=nF _ h;omega
    ·have:=nF9 _ h;omega
   refine bodyPost_ret (Aaw (DBox.row4 RES rfl _ _ _ _)) rfl ⟨(⟨some ⟨g1,o1,none⟩,y.shelf.length,e1⟩,⟨B2,m2,e2⟩),F',by rw [H.out],by rw [H.out];exact (by (repeat (refine Dt.ow_set Ab ?_ en1 _));exact p1),fun x hx=>?_,?_⟩
   ·rcases p2 x hx with h | h
    ·have:=nF x h;omega
    ·have:=nF9 x h;omega
   ·repeat (first | (with_reducible exact B8) | refine Below.setCell ?_ (by simp<;>omega) _)
def Fh (gr o n c:Nat) (rs:List (Run×Am.S)) (k:Nat) (G1 Fx G2:List Nat) (r:Run) (s:Sl×Sl) (w:World) (e:Ending) (w':World):Prop :=
 e = .returned (.tuple #[])/\Foc Am w' gr o n c rs k G1 Fx G2 r s/\Chg (gr :: Fx) w w'
theorem Foc.atRun {w:World} {gr o n c k:Nat} {rs:List (Run×Am.S)} {G1 Fx G2:List Nat} {r:Run} {s:Sl×Sl} (h:Foc Am w gr o n c rs k G1 Fx G2 r s) (hp:0<r.tasks.length) :
  ∃ F1 b o2 c2,Fx=F1 ++ [b]/\Fx.Nodup/\s.2=⟨some ⟨b,o2,none⟩,r.tasks.length,c2⟩/\Ag.ow w F1 r.plan s.1/\Hw Dj w [b] (.slice (some ⟨b,o2,none⟩) r.tasks.length c2) r.tasks/\gr≠b/\b∉F1:=by
 obtain ⟨F1,F2,pD,bK,op,ot⟩:=h.here
 obtain ⟨s1,⟨A,m,c2⟩⟩:=s
 have ot:OwL Cv w F2 (.slice A m c2) r.tasks:=ot
 obtain rfl:m=r.tasks.length:=RdL.at1 (s:=⟨A,m,c2⟩) ot.rd
 have oh:=Ku ot
 obtain ⟨b,o2,rfl,_⟩:=oh.rd.tsk hp
 obtain ⟨rfl,_,_⟩:=oh.block hp
 refine ⟨F1,b,o2,c2,pD,bK,rfl,op,oh,fun e=>h.apart.1.2.1 (by rw [pD,e];simp),fun hx=>?_⟩
 rw [pD] at bK
 exact (List.nodup_append.1 bK).2.2 b hx b (by simp) rfl
theorem Chg.blk {g:Nat} {F:List Nat} {w w':World} (h:Chg [g] w w') (hg:g∈F):Chg F w w':=h.mono (fun x hx=>by rw [List.mem_singleton.1 hx];exact hg)
theorem J7 (gr o n c:Nat) (rs:List (Run×Am.S)) (k:Nat) (G1 Fx G2:List Nat) (r:Run) (s:Sl×Sl) (u:Nat) (w:World) (hl:r.tasks.length<=1000) (hR:Gg r u) (hF:Foc Am w gr o n c rs k G1 Fx G2 r s) :
  Calls Tryz.prog 173 #[.pointer (some ⟨gr,o+k * 8,none⟩),.int .i64 u] w (Fh gr o n c rs k G1 Fx G2 (Br r u) s w):=by
 have hu:u<r.tasks.length:=by have:=hR.2.1.2;omega
 obtain ⟨l5,l6,l4,ls⟩:=M9 hR
 obtain ⟨F1,b,o2,c2,rfl,bK,eG,op,oh,qN,cP⟩:=hF.atRun (by omega)
 obtain ⟨s1,s2⟩:=s
 obtain rfl:s2=_:=eG
 have mI:=hF.blk
 have mE:=(oh.block (by omega)).2.1
 have pF:=(oh.block (by omega)).2.2
 have g2:w.cell? ⟨gr,o+k * 8+2,none⟩=some (.int .i64 r.plan.most):=hF.cells 2 _ rfl
 have g6:w.cell? ⟨gr,o+k * 8+6,none⟩=some (.int .i64 r.state):=hF.cells 6 _ rfl
 have g7:w.cell? ⟨gr,o+k * 8+7,none⟩=some (.slice (some ⟨b,o2,none⟩) r.tasks.length c2):=hF.cells 7 _ rfl
 have gf:=hF.free
 obtain ⟨_,_,hA,_,d0,d1,d2,d3⟩:=oh.rd.tsk hu
 simp only [Option.some.injEq,Addr.mk.injEq,and_true] at hA
 obtain ⟨rfl,rfl⟩:=hA
 have jR:(u:Int)<(r.tasks.length:Int):=by omega
 have fZ:(0:Int)<=(u:Int):=by omega
 have cR:=Lib.hid (Aw hu)
 have jP:=Lib.hid (show r.tasks[u].state=3 by have:=hR.2.2;rw [Int.toNat_natCast,Aw hu] at this;exact this)
 have h1:=oh.taskUntil hu 0
 have dS:=Chg.setCell w b (o2+u * 4+3) (.int .i64 0)
 have op1:=Ag.ow_chg op dS (fun x hx h=>by rw [List.mem_singleton.1 h] at hx;exact cP hx)
 have F1_:Foc Am (w.setCell ⟨b,o2+u * 4+3,none⟩ (.int .i64 0)) gr o n c rs k G1 (F1 ++ [b]) G2 ⟨r.id,r.plan,r.state,r.tasks.set u ⟨r.tasks[u].state,r.tasks[u].need,r.tasks[u].try_,0⟩⟩ (s1,⟨some ⟨b,o2,none⟩,r.tasks.length,c2⟩) :=
  hF.sub (dS.blk (by simp)) ⟨F1,[b],rfl,bK,op1,Eg h1⟩ rfl
 have hC1':Chg (gr :: (F1 ++ [b])) w (w.setCell ⟨b,o2+u * 4+3,none⟩ (.int .i64 0)):=dS.blk (by simp)
 have aV:=dS.size
 go_enter Tryz.func173,Tryz.ntmps173
 go_upto_region 2 with fail
 generalize w.setCell ⟨b,o2+u * 4+3,none⟩ (.int .i64 0)=w1 at *
 clear d0 d1 d2 d3 g2 g6 g7 gf hF op oh pF dS
 have nB:=F1_.blk
 have hbl1:=(h1.block (by rw [List.length_set];omega)).2.1
 have g2:w1.cell? ⟨gr,o+k * 8+2,none⟩=some (.int .i64 r.plan.most):=F1_.cells 2 _ rfl
 have tT:u<(r.tasks.set u ⟨r.tasks[u].state,r.tasks[u].need,r.tasks[u].try_,0⟩).length:=by rw [List.length_set];exact hu
 obtain ⟨_,_,hA,_,d0,d1,d2,d3⟩:=h1.rd.tsk tT
 simp only [Option.some.injEq,Addr.mk.injEq,and_true] at hA
 obtain ⟨rfl,rfl⟩:=hA
 rw [List.getElem_set_self] at d0 d1 d2 d3
 have aN:=Bk w1
 refine Ad (by kernel_rfl) (by kernel_rfl) ?_
 repeat (go_big_quiet_step (fail))
 refine wpQuiet_nil ?_
 rintro w2 ⟨⟨_,b2⟩,rfl⟩
 clear aN d0 d1 d2 d3 g2
 have gX:=hC1'.trans (Chg.of_below (gr :: (F1 ++ [b])) b2)
 have h2:=h1.below b2
 have op2:=Ag.ow_below op1 b2
 have F2_:=F1_.sub (w':=w2) (y:=⟨r.id,r.plan,r.state,r.tasks.set u ⟨r.tasks[u].state,r.tasks[u].need,r.tasks[u].try_,0⟩⟩) (Chg.of_below _ b2) ⟨F1,[b],rfl,bK,op2,Eg h2⟩ rfl
 have aQ:=b2.size
 clear h1 op1 F1_ hC1' b2
 have gC:=F2_.blk
 have hbl2:=(h2.block (by rw [List.length_set];omega)).2
 have g6:w2.cell? ⟨gr,o+k * 8+6,none⟩=some (.int .i64 r.state):=F2_.cells 6 _ rfl
 have g7:w2.cell? ⟨gr,o+k * 8+7,none⟩=some (.slice (some ⟨b,o2,none⟩) r.tasks.length c2):=F2_.cells 7 _ rfl
 have gf:=F2_.free
 obtain ⟨_,_,hA,_,d0,d1,d2,d3⟩:=h2.rd.tsk tT
 simp only [Option.some.injEq,Addr.mk.injEq,and_true] at hA
 obtain ⟨rfl,rfl⟩:=hA
 rw [List.getElem_set_self] at d0 d1 d2 d3
 by_cases q:r.tasks[u].try_<r.plan.most
 ·have H:=Lib.hid (show Br r u=⟨r.id,r.plan,r.state,r.tasks.set u ⟨2,r.tasks[u].need,r.tasks[u].try_,0⟩⟩ by unfold Br;rw [if_pos (by rw [cR.out];exact q),Ja hu])
  have h3:=h2.taskSt' hu 2
  have dL:=Chg.setCell w2 b (o2+u * 4) (.int .i64 2)
  have op3:=Ag.ow_chg op2 dL (fun x hx h=>by rw [List.mem_singleton.1 h] at hx;exact cP hx)
  have HF:=Lib.hid (show Fh gr o n c rs k G1 (F1 ++ [b]) G2 (Br r u) (s1,⟨some ⟨b,o2,none⟩,r.tasks.length,c2⟩) w (.returned (.tuple #[])) (w2.setCell ⟨b,o2+u * 4,none⟩ (.int .i64 2)) from
   ⟨rfl,by rw [H.out];exact F2_.sub (dL.blk (by simp)) ⟨F1,[b],rfl,bK,op3,Eg h3⟩ rfl,gX.trans (dL.blk (by simp))⟩)
  go_wp2
  exact bodyPost_ret (v:=.tuple #[]) (by simp [results,Tryz.results173,go_sem]) rfl HF.out
 ·have H:=Lib.hid (show Br r u=Bz ⟨r.id,r.plan,r.state,r.tasks.set u ⟨5,r.tasks[u].need,r.tasks[u].try_,0⟩⟩ 3 by unfold Br;rw [if_neg (by rw [cR.out];exact q),Ja hu])
  have h3:=h2.taskSt' hu 5
  have dL:=Chg.setCell w2 b (o2+u * 4) (.int .i64 5)
  have op3:=Ag.ow_chg op2 dL (fun x hx h=>by rw [List.mem_singleton.1 h] at hx;exact cP hx)
  have F3_:=F2_.sub (w':=w2.setCell ⟨b,o2+u * 4,none⟩ (.int .i64 5)) (y:=⟨r.id,r.plan,r.state,r.tasks.set u ⟨5,r.tasks[u].need,r.tasks[u].try_,0⟩⟩) (dL.blk (by simp)) ⟨F1,[b],rfl,bK,op3,Eg h3⟩ rfl
  have hC3':=gX.trans (dL.blk (F:=gr :: (F1 ++ [b])) (by simp))
  have g73:=(dL.cell (p:=⟨gr,o+k * 8+7,none⟩) gC (by simpa using qN)).trans g7
  go_upto_region 5 with fail
  generalize w2.setCell ⟨b,o2+u * 4,none⟩ (.int .i64 5)=w3 at *
  clear d0 d1 d2 d3 g6 g7 gf hbl2 h2 op2 F2_ dL
  have hgr3:=F3_.blk
  have hL5:(r.tasks.set u ⟨5,r.tasks[u].need,r.tasks[u].try_,0⟩).length=r.tasks.length:=List.length_set
  have CL:=Lib.hid (Mu gr (o+k * 8) b o2 c2 (r.tasks.set u ⟨5,r.tasks[u].need,r.tasks[u].try_,0⟩) u w3 (by rw [hL5];exact g73) hgr3 qN (by omega) (by omega) (by rw [hL5];exact h3) (fun j hj=>by
   rw [List.getElem_set]
   by_cases e:u=j
   ·simp [e]
   ·rw [if_neg e]
    constructor
    ·intro h
     have:=Xf (s:=5) (by rw [hL5] at hj;exact hj) h
     omega
    ·intro h;omega))
  rw [hL5] at CL
  go_wp2_with fail
  refine CL.out.mono ?_
  rintro e w4 ⟨rfl,h4,dZ⟩
  have op4:=Ag.ow_chg op3 dZ (fun x hx h=>by rw [List.mem_singleton.1 h] at hx;exact cP hx)
  have F4_:=F3_.sub (w':=w4) (y:=⟨r.id,r.plan,r.state,(r.tasks.set u ⟨5,r.tasks[u].need,r.tasks[u].try_,0⟩).map Bt⟩) (dZ.blk (by simp)) ⟨F1,[b],rfl,bK,op4,Eg h4⟩ rfl
  have hC4':=hC3'.trans (dZ.blk (F:=gr :: (F1 ++ [b])) (by simp))
  have g6:w4.cell? ⟨gr,o+k * 8+6,none⟩=some (.int .i64 r.state):=F4_.cells 6 _ rfl
  have gf:=F4_.free
  have hgr4:=F4_.blk
  obtain ⟨F5_,dC⟩:=F4_.put (y:=Bz ⟨r.id,r.plan,r.state,r.tasks.set u ⟨5,r.tasks[u].need,r.tasks[u].try_,0⟩⟩ 3) 6 [.int .i64 3] (show 6+1<=8 by omega) (fun i hi=>by simp at hi;subst hi;rfl) (fun i hi ho=>by
   have:i<8:=hi
   rcases (show i=0\/i=1\/i=2\/i=3\/i=4\/i=5\/i=7 by simp at ho;omega) with rfl | rfl | rfl | rfl | rfl | rfl | rfl<;>rfl) (fun W h=>h)
  have HF:=Lib.hid (show Fh gr o n c rs k G1 (F1 ++ [b]) G2 (Br r u) (s1,⟨some ⟨b,o2,none⟩,r.tasks.length,c2⟩) w (.returned (.tuple #[])) (w4.setCell ⟨gr,o+k * 8+6,none⟩ (.int .i64 3)) from
   ⟨rfl,by rw [H.out];exact F5_,hC4'.trans (dC.blk (by simp))⟩)
  clear F5_ dC F4_ dZ h4
  go_wp2
  exact bodyPost_ret (v:=.tuple #[]) (by simp [results,Tryz.results173,go_sem]) rfl HF.out
end Go.Proofs.YtonlnjdempbfoaaGreat
