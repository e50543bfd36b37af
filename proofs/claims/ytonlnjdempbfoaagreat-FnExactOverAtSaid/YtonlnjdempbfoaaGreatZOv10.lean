/-
  Complete of the reference. VictimsOf of the reference. done of the program: a task of a run is done, in place. Poll of the reference. Written by program (kv.py)
-/
import Derived.Test.YtonlnjdempbfoaaGreatZOv0
import Derived.Test.YtonlnjdempbfoaaGreatZOv2
import Derived.Test.YtonlnjdempbfoaaGreatZOv7
import Derived.Test.YtonlnjdempbfoaaGreatZOv8
import Derived.Test.YtonlnjdempbfoaaGreatZOv9
namespace Go.Proofs.YtonlnjdempbfoaaGreat
open Go.RowKit
set_option maxRecDepth 100000
set_option maxHeartbeats 4000000
set_option linter.unusedVariables false
set_option linter.unusedSimpArgs false
section
theorem Nz {b:Nat} {w:World} {u0 u1 u2 u3:Value} (X:DBox b [u0,u1,u2,u3] w) {v0 v1 v2 v3 v4 v5 v6 v7 v9:Value} {rest:List Value} :
  (results Tryz.f145 (v0 :: v1 :: v2 :: v3 :: v4 :: v5 :: v6 :: v7 :: .pointer (some ⟨b,0,none⟩) :: v9 :: rest).toArray).run Tryz.prog w = .ok (.tuple #[.agg #[u0,u1,u2,u3],v9]) w:=by
 have c0:=X.cell 0 _ rfl
 have c1:=X.cell 1 _ rfl
 have c2:=X.cell 2 _ rfl
 have c3:=X.cell 3 _ rfl
 simp [results,Tryz.results145,go_sem,c0,c1,c2,c3]
theorem Mc (r:Run) (t:Nat):(G9 r t).tasks.length=r.tasks.length:=by
 show (Gr r t).length=_
 unfold Gr
 rw [Jf r t,Lo]
open Classical in
noncomputable def Ix (y:Yard) (id tk tr:Int):Yard:=if D8 y id tk tr=0 then Dq y (Bo y id).toNat (G9 (H8 y id) tk.toNat) else y
theorem Oj (y:Yard) (s:Sl×Sl) (id tk tr:Int) (w:World) (hl:Ai y<=2000000) (h:Ab.rd w w.heap.size y s) :
  Calls Tryz.prog 145 #[By y s,.int .i64 id,.int .i64 tk,.int .i64 tr] w (Fn (Ix y id tk tr) (D8 y id tk tr) w):=by
 have HR:=Lib.hid (show ∀ W,Below w.heap.size w W->Ab.rd W W.heap.size y s from fun W hW=>Ab.rd_more (Ab.rd_below h hW) hW.size)
 obtain ⟨⟨A1,n1,c1⟩,⟨A2,n2,c2⟩⟩:=s
 have CC:=Lib.hid (fun W hW=>C9 y (⟨A1,n1,c1⟩,⟨A2,n2,c2⟩) W hl (HR.out W hW))
 have CK:=Lib.hid (fun W hW=>Pb y (⟨A1,n1,c1⟩,⟨A2,n2,c2⟩) id tk tr W hl (HR.out W hW))
 have CA:=Lib.hid (fun W hW=>Cz y (⟨A1,n1,c1⟩,⟨A2,n2,c2⟩) id W hl (HR.out W hW))
 clear h
 obtain ⟨W,aG,X,RES,B0⟩:=bx2 w 31 [.int .i64 y.now,.int .i64 y.seq,.slice A1 n1 c1,.slice A2 n2 c2] 31 [.int .i64 0,.int .i64 0,.slice none 0 0,.slice none 0 0]
 go_enter Tryz.func145,Tryz.ntmps145
 go_wp2_with fail
 rw [<-aG.out]
 clear aG
 refine (CC.out _ B0).mono ?_
 rintro e1 w1 ⟨⟨⟨B1,m1,e1⟩,⟨B2,m2,e2⟩⟩,F,rfl,oy,nF,b1⟩
 have mB:=X.lt
 have dM:=RES.lt
 replace X:=X.below b1
 replace RES:=RES.below b1
 replace B0:=Aa B0 b1
 have bM:=Ab.ow_lt (F:=F) (x:=y) (s:=(⟨B1,m1,e1⟩,⟨B2,m2,e2⟩)) oy
 have bJ:=b1.size
 clear b1
 go_upto_region 2 with fail
 have OB:=DBox.new 31 [.int .i64 y.now,.int .i64 y.seq,.slice B1 m1 e1,.slice B2 m2 e2] w1 (b:=w1.heap.size) rfl
 have b2:Below w1.heap.size w1 (w1.alloc (.cells #[.int .i64 y.now,.int .i64 y.seq,.slice B1 m1 e1,.slice B2 m2 e2] 31)):=(Below.refl _ _).alloc (Nat.le_refl _) _
 replace B0:=Aa B0 b2
 replace X:=X.below b2
 replace RES:=RES.below b2
 replace oy:=Ab.ow_below (F:=F) (x:=y) (s:=(⟨B1,m1,e1⟩,⟨B2,m2,e2⟩)) oy b2
 have eG:=b2.size
 have ow1:=OB.lt
 generalize w1.alloc (.cells #[.int .i64 y.now,.int .i64 y.seq,.slice B1 m1 e1,.slice B2 m2 e2] 31)=w2 at *
 obtain ⟨X_0,X_1,X_2,X_3,X_l⟩:=X.g4
 go_wp2_with fail
 refine (CK.out _ B0).mono ?_
 rintro e1 w3 ⟨rfl,b3⟩
 replace B0:=Aa B0 b3
 clear X_0 X_1 X_2 X_3 X_l
 replace X:=X.below b3
 replace RES:=RES.below b3
 replace OB:=OB.below b3
 replace oy:=Ab.ow_below (F:=F) (x:=y) (s:=(⟨B1,m1,e1⟩,⟨B2,m2,e2⟩)) oy b3
 have jP:=b3.size
 clear b3 b2 CC CK
 obtain ⟨X_0,X_1,X_2,X_3,X_l⟩:=X.g4
 obtain ⟨OB_0,OB_1,OB_2,OB_3,OB_l⟩:=OB.g4
 by_cases q:D8 y id tk tr=0
 case neg =>
  have q2:(D8 y id tk tr != 0)=true:=by simp [q]
  have H:=Lib.hid (show Ix y id tk tr=y from if_neg q)
  clear q
  obtain ⟨RES_0,RES_1,RES_2,RES_3,RES_l⟩:=RES.g4
  have rf:=RES.free
  go_wp2
  have en1:w.heap.size+1∉F:=fun hx=>by have:=nF _ hx;omega
  refine bodyPost_ret (Nz (DBox.row4 RES rfl _ _ _ _)) rfl ⟨(⟨B1,m1,e1⟩,⟨B2,m2,e2⟩),F,by rw [H.out],by rw [H.out];exact (Ab.set4 (F:=F) (x:=y) (s:=(⟨B1,m1,e1⟩,⟨B2,m2,e2⟩)) oy en1),fun x hx=>by have:=nF x hx;omega,?_⟩
  repeat (first | (with_reducible exact B0) | refine Below.setCell ?_ (by simp<;>omega) _)
 have q2:(D8 y id tk tr != 0)=false:=by simp [q]
 have H:=Lib.hid (show Ix y id tk tr=Dq y (Bo y id).toNat (G9 (H8 y id) tk.toNat) from if_pos q)
 have HP:Hid (Bq y/\0<=Bo y id/\Du y id tk tr):=by
  unfold D8 at q
  by_cases p0:Bq y
  ·by_cases p1:Bo y id<0
   ·rw [if_neg (fun h=>h p0),if_pos p1] at q;cases q
   ·by_cases p2:Du y id tk tr
    ·exact ⟨p0,by omega,p2⟩
    ·rw [if_neg (fun h=>h p0),if_neg p1,if_pos p2] at q;cases q
  ·rw [if_pos p0] at q;cases q
 have Hq:=Lib.hid q
 clear q
 rcases Cn y id with hr | ⟨k,hk,hr⟩
 ·exact absurd HP.out.2.1 (by omega)
 have HK:=Lib.hid (Dr hk hr)
 have HR2:=Lib.hid hr
 clear hr
 have bF:=Lib.hid (Co HP.out.1 hk)
 have hth:=Lib.hid HP.out.2.2
 have cR:Hid ((0<=tk/\tk<(y.runs[k].tasks.length:Int))/\(Ax y.runs[k] tk.toNat).state=3):=by
  have:=hth.out
  unfold Du at this
  rw [HK.out] at this
  exact ⟨this.2.1,this.2.2.1⟩
 obtain ⟨u,rfl⟩:=Int.eq_ofNat_of_zero_le cR.out.1.1
 have hu:u<y.runs[k].tasks.length:=by have:=cR.out.1.2;omega
 have aK:Hid (Gg y.runs[k] u):=⟨bF.out,⟨by omega,by omega⟩,cR.out.2⟩
 go_wp2_with fail
 refine (CA.out _ B0).mono ?_
 rintro e2' w4 ⟨rfl,b4⟩
 rw [HR2.out]
 replace B0:=Aa B0 b4
 clear X_0 X_1 X_2 X_3 X_l
 clear OB_0 OB_1 OB_2 OB_3 OB_l
 clear X
 replace RES:=RES.below b4
 replace OB:=OB.below b4
 replace oy:Ab.ow w4 F y (⟨B1,m1,e1⟩,⟨B2,m2,e2⟩):=Ab.ow_below (F:=F) (x:=y) (s:=(⟨B1,m1,e1⟩,⟨B2,m2,e2⟩)) oy b4
 have kV:=b4.size
 clear b4 CA
 have oy2:=oy
 obtain ⟨F1,F2,rfl,bK,os,orr⟩:=oy2
 replace orr:OwL Am w4 F2 (.slice B2 m2 e2) y.runs:=orr
 obtain rfl:m2=y.runs.length:=RdL.at1 (s:=⟨B2,m2,e2⟩) orr.rd
 obtain ⟨gr,o2,sk,rfl,dD,cA,c0,c1_,c2_,c3,c4,c5,c6,c7⟩:=orr.rd.run hk
 have fY:(k:Int)<(y.runs.length:Int):=by omega
 have dG:(0:Int)<=(k:Int):=by omega
 go_wp2
 refine Go.wp_region_noPanic ?_
 refine wp_region_held_drew (S:=(fun w'=>DBox w1.heap.size [.int .i64 y.now,.int .i64 y.seq,.slice B1 m1 e1,.slice (some ⟨gr,o2,none⟩) y.runs.length e2] w')) (by kernel_rfl) (DBox.drew4 OB) (fun hHeld=>?_)
 refine tY 0 ?_
 (try simp only [pS])
 refine tY 1 ?_
 (try simp only [pS])
 refine tY 2 ?_
 (try simp only [pS])
 refine tY 3 ?_
 (try simp only [pS])
 refine tY 4 ?_
 (try simp only [pS])
 refine tY 5 ?_
 (try simp only [pS])
 refine tY 7 ?_
 (try simp only [pS])
 have bd:Below w4.heap.size w4 w4.drew:=(Below.refl _ _).drew
 replace B0:=Aa B0 bd
 replace RES:=RES.below bd
 replace OB:=OB.below bd
 replace oy:Ab.ow w4.drew (F1 ++ F2) y (⟨B1,m1,e1⟩,⟨some ⟨gr,o2,none⟩,y.runs.length,e2⟩):=Ab.ow_below (F:=F1 ++ F2) (x:=y) (s:=(⟨B1,m1,e1⟩,⟨some ⟨gr,o2,none⟩,y.runs.length,e2⟩)) oy bd
 refine rC 6 (fun K_ hK=>?_)
 go_simp
 refine hK.out _ _ OB (fun hHeld=>?_)
 clear hK K_
 (try simp only [pS])
 have mF:=Ek hl hk
 have hrk2:Am.rd w4.drew w4.drew.heap.size y.runs[k] sk:=Am.rd_below cA bd
 have hcrun:Bg y.runs[k]<=2000000:=by
  have h1:=Cq (cnt:=Bg) (List.getElem_mem hk)
  unfold Ai at hl
  omega
 have CF:=Lib.hid (Vf y.runs[k] sk u w4.drew hcrun aK.out hrk2)
 clear c0 c1_ c2_ c3 c4 c5 c6 c7
 refine rC 8 (fun K_ hK=>?_)
 go_simp
 refine CF.out.mono ?_
 rintro e3 w5 ⟨sr,Fr,rfl,orn,nFr,b5⟩
 refine hK.out _ _ (OB.below b5) (fun hHeld=>?_)
 clear hK K_
 (try simp only [pS])
 have qB:w4.drew.heap.size=w4.heap.size:=rfl
 have pC:=b5.size
 have qG:=Cb bF.out
 have CT:=Lib.hid (I9 y (⟨B1,m1,e1⟩,⟨some ⟨gr,o2,none⟩,y.runs.length,e2⟩) k (G9 y.runs[k] u) sr w5 (F1 ++ F2) Fr HP.out.1.2.2.1 (fun s hs=>by have:=(HP.out.1.2.2.2.1 s hs).1;omega) (by have:=HP.out.1.2.1;omega) hk (by rw [Mc];omega) (by omega) (Ab.ow_below (F:=F1 ++ F2) (x:=y) (s:=(⟨B1,m1,e1⟩,⟨some ⟨gr,o2,none⟩,y.runs.length,e2⟩)) oy b5) orn (fun x hx aY=>by have h1:=nFr x hx;have h2:=bM x aY;omega))
 have HF:=Lib.hid (show Ix y id u tr=Dq y k (G9 y.runs[k] u) by rw [H.out,HR2.out,HK.out,Int.toNat_natCast,Int.toNat_natCast])
 clear H
 refine rC 9 (fun K_ hK=>?_)
 go_simp
 refine CT.out.mono ?_
 rintro e4 w6 ⟨s5,F5,rfl,oy7,n5,c6⟩
 have aC:w1.heap.size∉F1 ++ F2:=fun h=>by have:=bM _ h;omega
 have jM:w.heap.size+1∉F1 ++ F2:=fun h=>by have:=nF _ h;omega
 have OB6:=(OB.below b5).chg c6 aC
 have RES6:=(RES.below b5).chg c6 jM
 have B6:Below w.heap.size w w6:=(Aa B0 b5).trans (c6.below (by have:=(Aa B0 b5).size;omega) (fun x hx=>by have:=nF _ hx;omega))
 generalize Dq y k (G9 y.runs[k] u)=Z at *
 refine hK.out _ _ OB6 (fun hHeld=>?_)
 clear hK K_
 (try simp only [pS])
 have r0:=RES6.cell 0 _ rfl
 have r1:=RES6.cell 1 _ rfl
 have r2:=RES6.cell 2 _ rfl
 have r3:=RES6.cell 3 _ rfl
 have rl:=RES6.lt
 have rf:=RES6.free
 refine rC 10 (fun K_ hK=>?_)
 go_simp
 have cJ:w1.heap.size≠w.heap.size+1:=by omega
 refine hK.out _ _ ((((OB6.setOther (a:=⟨w.heap.size+1,_,none⟩) cJ _).setOther (a:=⟨w.heap.size+1,_,none⟩) cJ _).setOther (a:=⟨w.heap.size+1,_,none⟩) cJ _).setOther (a:=⟨w.heap.size+1,_,none⟩) cJ _) (fun hHeld=>?_)
 clear hK K_
 (try simp only [pS])
 refine rC 11 (fun K_ hK=>?_)
 go_simp
 refine hK.out _ _ hHeld (fun hHeld=>?_)
 clear hK K_
 (try simp only [pS])
 refine wpAnyH_done (by kernel_rfl) ?_ _
 refine NoPanic.normal ?_
 clear hHeld r0 r1 r2 r3 rf
 have en5:w.heap.size+1∉F5:=fun hx=>by
  rcases n5 _ hx with h | h | h
  ·exact jM h
  ·have:=nFr _ h;omega
  ·omega
 have hZ:Ix y id u tr=Z:=HF.out
 have H2:=Lib.hid hZ
 clear hZ
 have Hq2:=Lib.hid (show D8 y id u tr=0 from Hq.out)
 go_wp2
 refine bodyPost_ret (Nz (DBox.row4 RES6 rfl _ _ _ _)) rfl ⟨s5,F5,by rw [H2.out,Hq2.out],by rw [H2.out];exact (Ab.set4 (F:=F5) (x:=Z) (s:=s5) oy7 en5),fun x hx=>?_,?_⟩
 ·rcases n5 x hx with h | h | h
  ·have:=nF x h;omega
  ·have:=nFr x h;omega
  ·omega
 ·repeat (first | (with_reducible exact B6) | refine Below.setCell ?_ (by simp<;>omega) _)
end
theorem Ok:(Tryz.prog.info? 3).map (fun i=>(i.zero,i.size,i.bytes))=some (some (.int .i64 0),1,8):=by kernel_rfl
def Jb (n lo hi:Int):Int:=if n<lo then lo else if n > hi then hi else n
theorem P8 (n lo hi:Int) (w:World) (h:lo<=hi):Calls Tryz.prog 222 #[.int .i64 n,.int .i64 lo,.int .i64 hi] w fun e w'=>e = .returned (.int .i64 (Jb n lo hi))/\w=w':=by
 by_cases h1:n<lo
 ·have H:=Lib.hid (show Jb n lo hi=lo from if_pos h1)
  go_enter Tryz.func222,Tryz.ntmps222
  go_wp2
  go_ret
  exact ⟨Bw H.out.symm,rfl⟩
 ·by_cases h2:n > hi
  ·have H:=Lib.hid (show Jb n lo hi=hi by unfold Jb;rw [if_neg h1,if_pos h2])
   have h2':hi<n:=h2
   go_enter Tryz.func222,Tryz.ntmps222
   go_wp2
   go_ret
   exact ⟨Bw H.out.symm,rfl⟩
  ·have H:=Lib.hid (show Jb n lo hi=n by unfold Jb;rw [if_neg h1,if_neg h2])
   have h2':¬ hi<n:=h2
   go_enter Tryz.func222,Tryz.ntmps222
   go_wp2
   go_ret
   exact ⟨Bw H.out.symm,rfl⟩
def Hz (home:Nat):List Nat:=(List.range 3).map fun i=>(home+(i+1)) % 4
theorem Vg {home k:Nat} (h:k<3):(Hz home).take (k+1)=(Hz home).take k ++ [(home+(k+1)) % 4]:=by
 rcases (show k=0\/k=1\/k=2 by omega) with rfl | rfl | rfl<;>rfl
theorem Y0 {home d:Nat} : Cp home d=(Hz home).drop (d % 3) ++ (Hz home).take (d % 3):=by
 have h1:(max (d:Int) 0 % 3).toNat=d % 3:=by omega
 unfold Cp
 rw [h1,Int.toNat_natCast]
 have h2:=Nat.mod_lt d (show 0<3 by decide)
 generalize d % 3=k at *
 rcases (show k=0\/k=1\/k=2 by omega) with rfl | rfl | rfl<;>rfl
theorem P9 (home d:Nat) (w:World) (hh:home<4) (hd:d<=1000000000) :
  Calls Tryz.prog 204 #[.int .i64 (home:Int),.int .i64 (d:Int)] w fun e w'=>∃ v,e = .returned v/\Ow Cs 3 w' w.heap.size v (Cp home d)/\Below w.heap.size w w':=by
 obtain ⟨j0,bX,jz0,jz1,jz2⟩:=info_parts Ok
 have CB:=Lib.hid (fun W=>P8 (home:Int) 0 3 W (by decide))
 have hI:¬ (d:Int)<0:=by omega
 have hbr:Jb (home:Int) 0 3=(home:Int):=by unfold Jb;split<;>(try split)<;>omega
 rw [hbr] at CB
 have q0:Below w.heap.size w (w.alloc (.cells #[] 3)):=(Below.refl _ _).alloc (Nat.le_refl _) _
 go_enter Tryz.func204,Tryz.ntmps204
 go_wp2_with (go_at_call 222;refine (CB.out _).mono ?_;rintro e w1 ⟨rfl,rfl⟩)
 have o0:=Ow.empty Cs 3 w rfl
 go_loopw [5,6] (fun v j wr=>∃ k:Nat,k<=3/\j = .int .i64 ((k:Int)+1)/\Hid (Ow Cs 3 wr w.heap.size v ((Hz home).take k))/\Below w.heap.size w wr) (fun _ j _=>4 - (intOf j).toNat)
 case atStart=>exact ⟨0,Nat.zero_le _,rfl,o0,q0⟩
 case round =>
  clear o0 q0
  obtain ⟨k,hk,rfl,hO,hb⟩:=hrel
  by_cases aA:k<3
  ·have aB:(k:Int)+1<4:=by omega
   have S:=Lib.hid (Vg (home:=home) aA)
   have wA:IntKind.i64.wrap ((home:Int)+((k:Int)+1))=(home:Int)+((k:Int)+1):=IntWalk.i64_in _ (by omega)
   have rA:((home:Int)+((k:Int)+1)).tmod 4=(((home+(k+1)) % 4:Nat):Int):=by
    rw [Int.tmod_eq_emod_of_nonneg (by omega)];omega
   have wB:IntKind.i64.wrap (((home+(k+1)) % 4:Nat):Int)=(((home+(k+1)) % 4:Nat):Int):=IntWalk.i64_in _ (by omega)
   have Hl:=Lib.hid (show ((Hz home).take k).length<=3000000 by rw [List.length_take];omega)
   generalize (home+(k+1)) % 4=x at *
   have ha:Hid (∀ w:World,Below w.heap.size w (w.alloc (.cells #[.int .i64 (x:Int)] 3))):=fun w=>(Below.refl _ _).alloc (Nat.le_refl _) _
   have cL:=hO.out
   have cD:=hb.size
   go_wp2_with (at_builtin;refine Ak _ Cs (by decide) rfl (.tmp 17) (.tmp 22) rfl Tryz.underlying26 bX jz0 jz1 jz2 rfl (base:=w.heap.size) (l:=(Hz home).take k) rfl (cL.below (ha.out wr)) rfl (Rd.one Cs _ _ x rfl rfl 1 (Nat.le_refl _) (Nat.lt_succ_self _)) Hl.out (by simp) (by decide) (by simp;omega) ?_;intro v5 w5 o5 g5 _)
   have eH:Below w.heap.size w w5:=(Aa hb (ha.out wr)).grown g5 (Aa hb (ha.out wr)).size (fun g hg=>by have:=cL.within _ hg;omega)
   exact ⟨⟨k+1,by omega,by go_num,by rw [S.out];exact o5,eH⟩,by simp [intOf];omega⟩
  ·have aB:¬ (k:Int)+1<4:=by omega
   have hk3:k=3:=by omega
   subst hk3
   have cL:=hO.out
   rw [show (Hz home).take 3=Hz home from rfl] at cL
   clear hO
   have HV:=Lib.hid (Y0 (home:=home) (d:=d))
   obtain ⟨-,h2⟩ | ⟨g,cap,rfl,h1,h2,h3,h4,h5,h6⟩:=cL.form
   ·cases h2
   have sL:=Rd.of_own cL
   replace h3:=sL.cap
   have h3':3<=cap:=h3
   have hm3:=Nat.mod_lt d (show 0<3 by decide)
   have rA:(d:Int).tmod 3=((d % 3:Nat):Int):=by
    rw [Int.tmod_eq_emod_of_nonneg (by omega)];omega
   have wB:IntKind.i64.wrap ((d % 3:Nat):Int)=((d % 3:Nat):Int):=IntWalk.i64_in _ (by omega)
   have pZ:(Hz home).length=3:=rfl
   generalize d % 3=m at *
   generalize Hz home=L at *
   rw [pZ] at sL
   have a0:=Lib.hid (show ∀ W,Below wr.heap.size wr W->Rd Cs W wr.heap.size (.slice (some ⟨g,m,none⟩) (3 - m) (cap - m)) (L.drop m) from fun W hW=>by have:=(sL.fromL m (by omega)).below hW;rw [pZ,show 0+m * Cs.sz=m from by show 0+m * 1=m;omega] at this;exact this)
   have a1:=Lib.hid (show ∀ W,Below wr.heap.size wr W->Rd Cs W wr.heap.size (.slice (some ⟨g,0,none⟩) m cap) (L.take m) from fun W hW=>(sL.take (by omega) cap (by omega)).below hW)
   have pH:(m:Int)<=3:=by omega
   have kJ:(0:Int)<=(m:Int):=by omega
   have hmc:m<cap:=by omega
   have hmc2:¬ cap=m:=by omega
   have hmc3:m<=cap:=by omega
   have hmcI:(m:Int)<=(cap:Int):=by omega
   have cU:=Lib.hid (show (L.drop m).length<=3000000 by simp;omega)
   have aR:=Lib.hid (show (L.take m).length<=3000000 by simp;omega)
   rw [pZ]
   have cD:=hb.size
   go_wp2
   refine Go.wp_region_noPanic ?_
   refine wp_region_held_drew (S:=fun _=>True) (by kernel_rfl) trivial (fun hHeld=>?_)
   have B1:Below wr.heap.size wr wr.drew:=(Below.refl _ _).drew
   generalize wr.drew=w1 at *
   refine tY 1 ?_
   (try simp only [pS])
   refine tY 2 ?_
   (try simp only [pS])
   refine tY 3 ?_
   (try simp only [pS])
   refine tY 5 ?_
   (try simp only [pS])
   refine tY 6 ?_
   (try simp only [pS])
   refine tY 7 ?_
   (try simp only [pS])
   refine rC 0 (fun K_ hK=>?_)
   go_simp
   have bb:Below w1.heap.size w1 (w1.alloc (.cells #[] 3)):=(Below.refl _ _).alloc (Nat.le_refl _) _
   have o9:Ow Cs 3 (w1.alloc (.cells #[] 3)) w.heap.size (.slice (some ⟨w1.heap.size,0,none⟩) 0 0) []:=(Ow.empty Cs 3 w1 rfl).more (by have:=B1.size;omega)
   have Ba:=Aa B1 bb
   have y9:=B1.size
   generalize w1.heap.size=g9 at *
   generalize w1.alloc (.cells #[] 3)=w1a at *
   refine hK.out _ _ trivial (fun hHeld=>?_)
   clear hK K_
   (try simp only [pS])
   refine rC 4 (fun K_ hK=>?_)
   refine C7 _ Cs (by decide) (.tmp 28) (.tmp 31) 26 rfl w.heap.size 3 _ _ _ Tryz.underlying26 bX jz0 jz1 jz2 rfl _ [] rfl o9 _ _ _ _ (L.drop m) rfl (a0.out _ Ba) (by simp) cU.out (by decide) (by have:=Ba.size;omega) ?_
   intro v13 w1b o13 gg e13
   rw [List.nil_append] at o13
   have Bb:Below wr.heap.size wr w1b:=Ba.grown gg Ba.size (fun g hg=>by have:=Option.some.inj (show some g9=some g from hg);omega)
   clear gg
   refine hK.out _ _ trivial (fun hHeld=>?_)
   clear hK K_
   (try simp only [pS])
   refine rC 8 (fun K_ hK=>?_)
   refine C7 _ Cs (by decide) (.tmp 32) (.tmp 35) 26 rfl w.heap.size 3 _ _ _ Tryz.underlying26 bX jz0 jz1 jz2 rfl _ (L.drop m) rfl o13 _ _ _ _ (L.take m) rfl (a1.out _ Bb) cU.out aR.out (by decide) (by have:=Bb.size;omega) ?_
   intro v14 w1c o14 gg e14
   have Bc:Below w.heap.size w w1c:=(Aa hb Bb).grown gg (Aa hb Bb).size (fun g hg=>(o13.within g hg).1)
   clear gg
   refine hK.out _ _ trivial (fun hHeld=>?_)
   clear hK K_
   (try simp only [pS])
   refine rC 9 (fun K_ hK=>?_)
   go_simp
   refine hK.out _ _ trivial (fun hHeld=>?_)
   clear hK K_
   (try simp only [pS])
   refine wpAnyH_done (by kernel_rfl) ?_ _
   refine NoPanic.normal ?_
   go_wp2
   go_ret
   exact ⟨_,rfl,by rw [HV.out];exact o14,Bc⟩
theorem Uh {l:List Task} {s:Int} : Bx l s=0 ↔ ∀ x∈l,x.state≠s:=by
 unfold Bx
 rw [List.length_eq_zero_iff,List.filter_eq_nil_iff]
 constructor
 ·intro h x hx;simpa using h x hx
 ·intro h x hx;simpa using h x hx
theorem Ab6 (s:Int) (hs:s≠2) (L:List Nat):∀ (l:List Task),(∀ x∈l,x.state≠s) -> ∀ x∈L.foldl (fun l b=>Ew l b Bu) l,x.state≠s:=by
 induction L with
 | nil=>intro l h;exact h
 | cons b L ih =>
  intro l h
  rw [List.foldl_cons]
  refine ih _ (fun x hx=>?_)
  unfold Ew at hx
  rcases List.mem_or_eq_of_mem_set hx with h2 | h2
  ·exact h x h2
  ·subst h2
   by_cases hb:b<l.length
   ·rw [List.getD_eq_getElem?_getD,List.getElem?_eq_getElem hb]
    have:=h _ (List.getElem_mem hb)
    simp only [Option.getD_some,Bu]
    split
    ·exact fun e=>hs e.symm
    ·exact this
   ·rw [List.set_eq_of_length_le (by omega)] at hx
    exact h _ hx
theorem Xn {r:Run} {u:Nat} (h:Gg r u):stL (Gr r u)=if Bx (Gr r u) 4=r.tasks.length then 2 else r.state:=by
 obtain ⟨l5,l6,l4,ls⟩:=M9 h
 have aJ:(Gr r u).length=r.tasks.length:=by
  unfold Gr
  rw [Jf r u,Lo]
 have hu:u<r.tasks.length:=by have:=h.2.1.2;omega
 have h0:∀ s:Int,s≠4->s≠2->Bx r.tasks s=0->Bx (Gr r u) s=0:=fun s h4 h2 hc=>by
  rw [Uh] at hc ⊢
  refine Ab6 s h2 _ _ (fun x hx=>?_)
  rw [Ja hu] at hx
  rcases List.mem_or_eq_of_mem_set hx with h | h
  ·exact hc x h
  ·subst h;exact fun e=>h4 e.symm
 have z5:=h0 5 (by decide) (by decide) l5
 have z6:=h0 6 (by decide) (by decide) l6
 unfold stL
 rw [aJ,ls]
 split
 ·rfl
 ·rw [if_neg (by omega),if_neg (by omega),if_pos ⟨z5,z6⟩]
theorem Tj (f:Task->Task) (l:List Task) (L:List Nat) (k:Nat) (h:k<L.length):(L.take (k+1)).foldl (fun l b=>Ew l b f) l=Ew ((L.take k).foldl (fun l b=>Ew l b f) l) L[k] f:=by
 rw [List.take_succ_eq_append_getElem h,List.foldl_append]
 rfl
theorem Vh (gr o n c:Nat) (rs:List (Run×Am.S)) (k:Nat) (G1 Fx G2:List Nat) (r:Run) (s:Sl×Sl) (u:Nat) (w:World) (hR:Gg r u) (hF:Foc Am w gr o n c rs k G1 Fx G2 r s) :
  Calls Tryz.prog 171 #[.pointer (some ⟨gr,o+k * 8,none⟩),.int .i64 u] w (Fh gr o n c rs k G1 Fx G2 (G9 r u) s w):=by
 have hu:u<r.tasks.length:=by have:=hR.2.1.2;omega
 have eU:=Cb hR.1
 have HST:=Lib.hid (Xn hR)
 have hpf:=hR.1.2.1
 obtain ⟨F1,b,o2,c2,rfl,bK,eG,op,oh,qN,cP⟩:=hF.atRun (by omega)
 obtain ⟨s1,s2⟩:=s
 obtain rfl:s2=_:=eG
 have mI:=hF.blk
 have mE:=(oh.block (by omega)).2.1
 have pF:=(oh.block (by omega)).2.2
 have g7:w.cell? ⟨gr,o+k * 8+7,none⟩=some (.slice (some ⟨b,o2,none⟩) r.tasks.length c2):=hF.cells 7 _ rfl
 obtain ⟨_,_,hA,_,d0,d1,d2,d3⟩:=oh.rd.tsk hu
 simp only [Option.some.injEq,Addr.mk.injEq,and_true] at hA
 obtain ⟨rfl,rfl⟩:=hA
 have jR:(u:Int)<(r.tasks.length:Int):=by omega
 have fZ:(0:Int)<=(u:Int):=by omega
 have h1:=oh.taskState hu 4
 have h2:=h1.taskUntil (j:=u) (by rw [List.length_set];exact hu) 0
 simp only [List.getElem_set_self,List.set_set] at h2
 have dS:Chg [b] w ((w.setCell ⟨b,o2+u * 4,none⟩ (.int .i64 4)).setCell ⟨b,o2+u * 4+3,none⟩ (.int .i64 0)):=(Chg.setCell w b _ _).trans (Chg.setCell _ b _ _)
 have op1:=Ag.ow_chg op dS (fun x hx h=>by rw [List.mem_singleton.1 h] at hx;exact cP hx)
 have F1_:=hF.sub (w':=(w.setCell ⟨b,o2+u * 4,none⟩ (.int .i64 4)).setCell ⟨b,o2+u * 4+3,none⟩ (.int .i64 0)) (y:=⟨r.id,r.plan,r.state,r.tasks.set u ⟨4,r.tasks[u].need,r.tasks[u].try_,0⟩⟩) (dS.blk (by simp)) ⟨F1,[b],rfl,bK,op1,Eg h2⟩ rfl
 have hC1':Chg (gr :: (F1 ++ [b])) w ((w.setCell ⟨b,o2+u * 4,none⟩ (.int .i64 4)).setCell ⟨b,o2+u * 4+3,none⟩ (.int .i64 0)):=dS.blk (by simp)
 have hM0:=Lib.hid (show Ew r.tasks u (fun x=>⟨4,x.need,x.try_,0⟩)=r.tasks.set u ⟨4,r.tasks[u].need,r.tasks[u].try_,0⟩ from Ja hu _)
 go_enter Tryz.func171,Tryz.ntmps171
 go_upto_region 2 with fail
 generalize (w.setCell ⟨b,o2+u * 4,none⟩ (.int .i64 4)).setCell ⟨b,o2+u * 4+3,none⟩ (.int .i64 0)=w1 at *
 have cS:∀ x∈r.tasks,0<=x.need/\x.need<=1000/\1<=x.state/\x.state<=6:=by
  intro x hx
  obtain ⟨j,hj,rfl⟩:=List.getElem_of_mem hx
  have h1:=hR.1.2.2.2.1 j hj
  unfold Ev Lm at h1
  rw [Aw hj] at h1
  have h2:=Lw r (Cf (Ca r.plan) r.plan.tasks.toNat j)
  have h3:=Gn (Ca r.plan) r.plan.tasks.toNat j
  have h5:=hR.1.2.2.1
  have h6:Ge r j<=12:=by unfold Ge;omega
  omega
 have hbnd:Hid (∀ x∈r.tasks.set u ⟨4,r.tasks[u].need,r.tasks[u].try_,0⟩,-0<=x.need/\x.need<=1000/\1<=x.state/\x.state<=6):=by
  intro x hx
  rcases List.mem_or_eq_of_mem_set hx with h | h
  ·have:=cS x h;omega
  ·subst h
   have:=cS _ (List.getElem_mem hu)
   refine ⟨?_,?_,?_,?_⟩<;>dsimp only<;>omega
 have pR:r.plan.tasks.toNat=r.tasks.length:=by have:=hR.1.2.2.1;omega
 have CB:=Lib.hid (Q5 r.plan (.slice s1.a s1.n s1.c) u w1 hpf (Gf (Ag.ow_rd op1)))
 rw [pR] at CB
 have hBL:=Lib.hid (R8 (Ca r.plan) r.tasks.length u)
 have fT:=Lib.hid (Jv (Ca r.plan) r.tasks.length u)
 have hDT:=Lib.hid (show Gr r u=(Dp (Ca r.plan) r.tasks.length u).foldl (fun l b=>Ew l b Bu) (r.tasks.set u ⟨4,r.tasks[u].need,r.tasks[u].try_,0⟩) by unfold Gr;rw [pR,hM0.out])
 generalize sG:r.tasks.set u ⟨4,r.tasks[u].need,r.tasks[u].try_,0⟩=L0 at *
 have mN:=Lib.hid (show L0.length=r.tasks.length by rw [<-sG,List.length_set])
 generalize Dp (Ca r.plan) r.tasks.length u=BL at *
 clear sG cS hM0 d0 d1 d2 d3 g7 pF hF op oh h1 dS pR hpf
 obtain ⟨p0,p1,p2,p3,p4,p5,p6,p7⟩:=F1_.run
 have nB:=F1_.blk
 go_wp2_with fail
 refine CB.out.mono ?_
 rintro e w2 ⟨v,rfl,o5,b2⟩
 obtain ⟨Av,cv,rfl,-⟩:=_root_.id (Rd.of_own o5)
 have F2_:=F1_.sub (w':=w2) (y:=⟨r.id,r.plan,r.state,L0⟩) (Chg.of_below _ b2) ⟨F1,[b],rfl,bK,Ag.ow_below op1 b2,Eg (h2.below b2)⟩ rfl
 have h3:=h2.below b2
 have op2:=Ag.ow_below op1 b2
 have gX:=hC1'.trans (Chg.of_below (gr :: (F1 ++ [b])) b2)
 have qU:=o5.within
 have hbl1:=(h2.block (by have:=mN.out;omega)).2.1
 have hr5:=Lib.hid (show ∀ W,Chg [b] w2 W->Rd Cs W W.heap.size (.slice Av BL.length cv) BL from fun W hW=>Rd.of_own (o5.grown hW.toGrown (.inr (fun e=>by have:=(qU _ e).1;omega))))
 clear p0 p1 p2 p3 p4 p5 p6 p7 F1_ h2 op1 hC1' CB o5 qU nB
 have gC:=F2_.blk
 have p7:w2.cell? ⟨gr,o+k * 8+7,none⟩=some (.slice (some ⟨b,o2,none⟩) r.tasks.length c2):=F2_.cells 7 _ rfl
 have aQ:=b2.size
 go_wp2
 go_loopw [5,28] (fun x i wr=>∃ j:Nat,j<=BL.length/\i = .int .i64 j/\Hid (Hw Dj wr [b] (.slice (some ⟨b,o2,none⟩) r.tasks.length c2) ((BL.take j).foldl (fun l b=>Ew l b Bu) L0))/\Chg [b] w2 wr) (fun _ i _=>BL.length - (intOf i).toNat)
 case atStart=>exact ⟨0,Nat.zero_le _,rfl,h3,Chg.refl _ _⟩
 case round =>
  obtain ⟨j,hj,rfl,hO,hC⟩:=hrel
  have hlenj:((BL.take j).foldl (fun l b=>Ew l b Bu) L0).length=r.tasks.length:=by rw [Jf r u,mN.out]
  have g7:wr.cell? ⟨gr,o+k * 8+7,none⟩=some (.slice (some ⟨b,o2,none⟩) r.tasks.length c2):=(hC.cell (p:=⟨gr,o+k * 8+7,none⟩) gC (by simpa using qN)).trans p7
  have fL:gr<wr.heap.size:=Nat.lt_of_lt_of_le gC hC.size
  by_cases aA:j<BL.length
  ·have aB:(j:Int)<(BL.length:Int):=by omega
   have hB12:BL.length<=12:=by have:=fT.out;omega
   have hj12:(j:Int)<12:=by omega
   obtain ⟨b9,o9,rfl,hb9,e0⟩:=(hr5.out wr hC).nat aA
   have fF:BL[j]<r.tasks.length:=hBL.out _ (List.getElem_mem aA)
   have pQ:=Oh (BL.take j) L0 0 hbnd.out (Int.le_refl 0)
   have hstp:=Lib.hid (Tj Bu L0 BL j aA)
   generalize BL[j]=x at *
   generalize (BL.take j).foldl (fun l b=>Ew l b Bu) L0=M at *
   have tH:x<M.length:=by omega
   have hnd1:=pQ _ (List.getElem_mem tH)
   have hjb:(BL.take j).length<=12:=by have:=fT.out;rw [List.length_take];omega
   have hstp2:=Lib.hid (hstp.out.trans (Ja tH Bu))
   obtain ⟨_,_,hA,aH,d0,d1,d2,d3⟩:=hO.out.rd.tsk tH
   simp only [Option.some.injEq,Addr.mk.injEq,and_true] at hA
   obtain ⟨rfl,rfl⟩:=hA
   have gV:=(hO.out.block (by omega)).2.2
   have hxI:(x:Int)<(r.tasks.length:Int):=by omega
   have rB:(0:Int)<=(x:Int):=by omega
   have wr1:IntKind.i64.wrap (M[x].need - 1)=M[x].need - 1:=IntWalk.i64_in _ (by omega)
   have h4:=hO.out.part tH ⟨M[x].state,M[x].need - 1,M[x].try_,M[x].until_⟩ 1 [.int .i64 (M[x].need - 1)] (show 1+1<=4 by omega) (fun i hi=>by simp at hi;subst hi;rfl) (fun i hi ho=>by
    have:i<4:=hi
    rcases (show i=0\/i=2\/i=3 by simp at ho;omega) with rfl | rfl | rfl<;>rfl)
   have h4:Hw Dj (wr.setCell ⟨b,o2+x * 4+1,none⟩ (.int .i64 (M[x].need - 1))) [b] (.slice (some ⟨b,o2,none⟩) r.tasks.length c2) (M.set x ⟨M[x].state,M[x].need - 1,M[x].try_,M[x].until_⟩):=h4
   have dZ:=hC.trans (Chg.setCell wr b (o2+x * 4+1) (.int .i64 (M[x].need - 1)))
   clear pQ hstp hnd1
   by_cases q:M[x].need - 1=0
   ·have hN:=Lib.hid (show Bu M[x]=⟨2,M[x].need - 1,M[x].try_,M[x].until_⟩ by unfold Bu;rw [if_pos q])
    have h5:=h4.taskState (j:=x) (by rw [List.length_set];exact tH) 2
    simp only [List.getElem_set_self,List.set_set] at h5
    have dC:=dZ.trans (Chg.setCell _ b (o2+x * 4) (.int .i64 2))
    have HN:=Lib.hid (show Hw Dj ((wr.setCell ⟨b,o2+x * 4+1,none⟩ (.int .i64 (M[x].need - 1))).setCell ⟨b,o2+x * 4,none⟩ (.int .i64 2)) [b] (.slice (some ⟨b,o2,none⟩) r.tasks.length c2) ((BL.take (j+1)).foldl (fun l b=>Ew l b Bu) L0) by rw [hstp2.out,hN.out];exact h5)
    rw [q] at HN dC
    clear h4 h5 hO
    go_wp2
    exact ⟨⟨j+1,by omega,by go_num,HN,dC⟩,by simp [intOf];omega⟩
   ·have hN:=Lib.hid (show Bu M[x]=⟨M[x].state,M[x].need - 1,M[x].try_,M[x].until_⟩ by unfold Bu;rw [if_neg q])
    have qb:(M[x].need - 1 == 0)=false:=beq_eq_false_iff_ne.2 q
    have HN:=Lib.hid (show Hw Dj (wr.setCell ⟨b,o2+x * 4+1,none⟩ (.int .i64 (M[x].need - 1))) [b] (.slice (some ⟨b,o2,none⟩) r.tasks.length c2) ((BL.take (j+1)).foldl (fun l b=>Ew l b Bu) L0) by rw [hstp2.out,hN.out];exact h4)
    clear h4 hO q
    go_wp2
    exact ⟨⟨j+1,by omega,by go_num,HN,dZ⟩,by simp [intOf];omega⟩
  ·have aB:¬ (j:Int)<(BL.length:Int):=by omega
   have cL:=hO.out
   rw [List.take_of_length_le (by omega),<-hDT.out] at cL hlenj
   have opr:=Ag.ow_chg op2 hC (fun x hx h=>by rw [List.mem_singleton.1 h] at hx;exact cP hx)
   have F3_:=F2_.sub (w':=wr) (y:=⟨r.id,r.plan,r.state,Gr r u⟩) (hC.blk (by simp)) ⟨F1,[b],rfl,bK,opr,Eg cL⟩ rfl
   have dL:=gX.trans (hC.blk (F:=gr :: (F1 ++ [b])) (by simp))
   clear hO hC hr5
   go_upto_region 10 with fail
   have HS:=Lib.hid (show ∀ W,Below wr.heap.size wr W->(fun w'=>w'.cell? ⟨gr,o+k * 8,none⟩=some (.int .i64 r.id)/\w'.cell? ⟨gr,o+k * 8+1,none⟩=some (.int .i64 r.plan.prio)/\w'.cell? ⟨gr,o+k * 8+2,none⟩=some (.int .i64 r.plan.most)/\w'.cell? ⟨gr,o+k * 8+3,none⟩=some (.int .i64 r.plan.wait)/\w'.cell? ⟨gr,o+k * 8+4,none⟩=some (.int .i64 r.plan.tasks)/\w'.cell? ⟨gr,o+k * 8+5,none⟩=some (.slice s1.a s1.n s1.c)/\w'.cell? ⟨gr,o+k * 8+6,none⟩=some (.int .i64 r.state)/\w'.cell? ⟨gr,o+k * 8+7,none⟩=some (.slice (some ⟨b,o2,none⟩) r.tasks.length c2)) W from fun W hW=>by
    have cB:Foc Am W gr o n c rs k G1 (F1 ++ [b]) G2 ⟨r.id,r.plan,r.state,Gr r u⟩ (s1,⟨some ⟨b,o2,none⟩,r.tasks.length,c2⟩):=F3_.sub (Chg.of_below _ hW) (Am.ow_below F3_.here hW) rfl
    exact cB.run)
   have dZ:=dL.trans (Chg.of_below (gr :: (F1 ++ [b])) ((Below.refl _ _).drew))
   have F4_:Foc Am wr.drew gr o n c rs k G1 (F1 ++ [b]) G2 ⟨r.id,r.plan,r.state,Gr r u⟩ (s1,⟨some ⟨b,o2,none⟩,r.tasks.length,c2⟩):=F3_.sub (Chg.of_below _ (Below.refl _ _).drew) (Am.ow_below F3_.here (Below.refl _ _).drew) rfl
   refine Go.wp_region_noPanic ?_
   refine wp_region_held_drew (S:=(fun w'=>w'.cell? ⟨gr,o+k * 8,none⟩=some (.int .i64 r.id)/\w'.cell? ⟨gr,o+k * 8+1,none⟩=some (.int .i64 r.plan.prio)/\w'.cell? ⟨gr,o+k * 8+2,none⟩=some (.int .i64 r.plan.most)/\w'.cell? ⟨gr,o+k * 8+3,none⟩=some (.int .i64 r.plan.wait)/\w'.cell? ⟨gr,o+k * 8+4,none⟩=some (.int .i64 r.plan.tasks)/\w'.cell? ⟨gr,o+k * 8+5,none⟩=some (.slice s1.a s1.n s1.c)/\w'.cell? ⟨gr,o+k * 8+6,none⟩=some (.int .i64 r.state)/\w'.cell? ⟨gr,o+k * 8+7,none⟩=some (.slice (some ⟨b,o2,none⟩) r.tasks.length c2))) (by kernel_rfl) (HS.out _ (Below.refl _ _).drew) (fun hHeld=>?_)
   clear F3_ dL HS
   generalize wr.drew=w5 at *
   refine tY 0 ?_
   (try simp only [pS])
   refine tY 1 ?_
   (try simp only [pS])
   refine tV 2 ?_
   (try simp only [pS])
   refine tY 5 ?_
   (try simp only [pS])
   refine tY 6 ?_
   (try simp only [pS])
   refine tY 7 ?_
   (try simp only [pS])
   refine tV 8 ?_
   (try simp only [pS])
   refine tY 9 ?_
   (try simp only [pS])
   have CT:=Lib.hid (Fi ⟨r.id,r.plan,r.state,Gr r u⟩ (s1,⟨some ⟨b,o2,none⟩,r.tasks.length,c2⟩) 4 w5 (by show (Gr r u).length<=_;omega) (Am.ow_rd F4_.here))
   refine rC 3 (fun K_ hK=>?_)
   go_simp
   refine CT.out.mono ?_
   rintro e w6 ⟨v6,rfl,o6,b6⟩
   obtain ⟨A6,c6,rfl,-⟩:=_root_.id (Rd.of_own o6)
   rw [O4]
   have sJ:=dZ.trans (Chg.of_below (gr :: (F1 ++ [b])) b6)
   have F6_:Foc Am w6 gr o n c rs k G1 (F1 ++ [b]) G2 ⟨r.id,r.plan,r.state,Gr r u⟩ (s1,⟨some ⟨b,o2,none⟩,r.tasks.length,c2⟩):=F4_.sub (Chg.of_below _ b6) (Am.ow_below F4_.here b6) rfl
   refine hK.out _ _ F6_.run (fun hHeld=>?_)
   clear hK K_ dZ F4_ CT o6 b6
   (try simp only [pS])
   refine rC 4 (fun K_ hK=>?_)
   go_simp
   refine hK.out _ _ hHeld (fun hHeld=>?_)
   clear hK K_
   (try simp only [pS])
   refine rC 10 (fun K_ hK=>?_)
   go_simp
   refine hK.out _ _ hHeld (fun hHeld=>?_)
   clear hK K_
   (try simp only [pS])
   refine wpAnyH_done (by kernel_rfl) ?_ _
   refine NoPanic.normal ?_
   clear hHeld
   by_cases hq:Bx (Gr r u) 4=r.tasks.length
   ·have hqI:((Bx (Gr r u) 4:Int) == (r.tasks.length:Int))=true:=by simp [hq]
    have H:=Lib.hid (show G9 r u=⟨r.id,r.plan,2,Gr r u⟩ by unfold G9;rw [HST.out,if_pos hq])
    have g6:w6.cell? ⟨gr,o+k * 8+6,none⟩=some (.int .i64 r.state):=F6_.cells 6 _ rfl
    have gf:=F6_.free
    have hgr6:=F6_.blk
    obtain ⟨F7_,fV⟩:=F6_.put (y:=⟨r.id,r.plan,2,Gr r u⟩) 6 [.int .i64 2] (show 6+1<=8 by omega) (fun i hi=>by simp at hi;subst hi;rfl) (fun i hi ho=>by
     have:i<8:=hi
     rcases (show i=0\/i=1\/i=2\/i=3\/i=4\/i=5\/i=7 by simp at ho;omega) with rfl | rfl | rfl | rfl | rfl | rfl | rfl<;>rfl) (fun W h=>h)
    have HF:=Lib.hid (show Fh gr o n c rs k G1 (F1 ++ [b]) G2 (G9 r u) (s1,⟨some ⟨b,o2,none⟩,r.tasks.length,c2⟩) w (.returned (.tuple #[])) (w6.setCell ⟨gr,o+k * 8+6,none⟩ (.int .i64 2)) from
     ⟨rfl,by rw [H.out];exact F7_,sJ.trans (fV.blk (by simp))⟩)
    clear F7_ fV F6_ hq
    go_wp2
    exact bodyPost_ret (v:=.tuple #[]) (by simp [results,Tryz.results171,go_sem]) rfl HF.out
   ·have hqI:((Bx (Gr r u) 4:Int) == (r.tasks.length:Int))=false:=beq_eq_false_iff_ne.2 (by omega)
    have H:=Lib.hid (show G9 r u=⟨r.id,r.plan,r.state,Gr r u⟩ by unfold G9;rw [HST.out,if_neg hq])
    have HF:=Lib.hid (show Fh gr o n c rs k G1 (F1 ++ [b]) G2 (G9 r u) (s1,⟨some ⟨b,o2,none⟩,r.tasks.length,c2⟩) w (.returned (.tuple #[])) w6 from ⟨rfl,by rw [H.out];exact F6_,sJ⟩)
    clear F6_ hq
    go_wp2
    exact bodyPost_ret (v:=.tuple #[]) (by simp [results,Tryz.results171,go_sem]) rfl HF.out
theorem Kx (r:Run) (t:Nat) (now:Int):(Cd r t now).tasks.length=r.tasks.length:=by
 simp [Cd,Lo]
theorem Y1 (r:Run) (t:Nat) (now:Int) (h:t<r.tasks.length):((Cd r t now).tasks[t]'(by rw [Kx];exact h)).try_=r.tasks[t].try_+1:=by
 unfold Cd
 simp only [Ja h,List.getElem_set_self]
def Qi (o:Yard×Reply) (w:World) (e:Ending) (w':World):Prop :=
 ∃ (s:Sl×Sl) (F:List Nat),e = .returned (.tuple #[By o.1 s,Aci o.2 ()])/\Ab.ow w' F o.1 s/\(∀ b∈F,w.heap.size<=b)/\Below w.heap.size w w'
theorem N0 {b c:Nat} {w:World} {u0 u1 u2 u3 v0 v1 v2 v3:Value} (X:DBox b [u0,u1,u2,u3] w) (Y:DBox c [v0,v1,v2,v3] w) {x0 x1 x2 x3 x4 x5:Value} {rest:List Value} :
  (results Tryz.f144 (x0 :: x1 :: x2 :: x3 :: x4 :: x5 :: .pointer (some ⟨b,0,none⟩) :: .pointer (some ⟨c,0,none⟩) :: rest).toArray).run Tryz.prog w = .ok (.tuple #[.agg #[u0,u1,u2,u3],.agg #[v0,v1,v2,v3]]) w:=by
 have c0:=X.cell 0 _ rfl
 have c1:=X.cell 1 _ rfl
 have c2:=X.cell 2 _ rfl
 have c3:=X.cell 3 _ rfl
 have d0:=Y.cell 0 _ rfl
 have d1:=Y.cell 1 _ rfl
 have d2:=Y.cell 2 _ rfl
 have d3:=Y.cell 3 _ rfl
 simp [results,Tryz.results144,go_sem,c0,c1,c2,c3,d0,d1,d2,d3]
theorem Chg.cells4 (w:World) (b i j k l:Nat) (u0 u1 u2 u3:Value):Chg [b] w ((((w.setCell ⟨b,i,none⟩ u0).setCell ⟨b,j,none⟩ u1).setCell ⟨b,k,none⟩ u2).setCell ⟨b,l,none⟩ u3) :=
 (((Chg.setCell w b i u0).trans (Chg.setCell _ b j u1)).trans (Chg.setCell _ b k u2)).trans (Chg.setCell _ b l u3)
theorem OwL.block_mem {α:Type} {d:Dt α} {w:World} {F:List Nat} {b o n c:Nat} {l:List α} (h:OwL d w F (.slice (some ⟨b,o,none⟩) n c) l) (hp:0<l.length):b∈F:=by
 obtain ⟨_,_,_,_,_,hb,_⟩:=h.elem hp
 exact hb
abbrev Dk (y:Yard) (s:Sl×Sl):List Value:=[.int .i64 y.now,.int .i64 y.seq,.slice s.1.a s.1.n s.1.c,.slice s.2.a s.2.n s.2.c]
theorem Vi (y:Yard) (s:Sl×Sl) (worker:Int) (d:Nat) (w:World) (hl:Ai y<=2000000) (hd:d<=1000000000) (h:Ab.rd w w.heap.size y s) :
  Calls Tryz.prog 144 #[By y s,.int .i64 worker,.int .i64 (d:Int)] w (Qi (Gs y worker d) w):=by
 have HR:=Lib.hid (show ∀ W,Below w.heap.size w W->Ab.rd W W.heap.size y s from fun W hW=>Ab.rd_more (Ab.rd_below h hW) hW.size)
 obtain ⟨⟨A1,n1,c1⟩,⟨A2,n2,c2⟩⟩:=s
 have CC:=Lib.hid (fun W hW=>C9 y (⟨A1,n1,c1⟩,⟨A2,n2,c2⟩) W hl (HR.out W hW))
 have CY:=Lib.hid (fun W hW=>D7 y (⟨A1,n1,c1⟩,⟨A2,n2,c2⟩) W hl (HR.out W hW))
 clear h
 obtain ⟨W,aG,X,RES,RP,B0⟩:=bx3 w 31 [.int .i64 y.now,.int .i64 y.seq,.slice A1 n1 c1,.slice A2 n2 c2] 31 [.int .i64 0,.int .i64 0,.slice none 0 0,.slice none 0 0] 69 [.int .i64 0,.int .i64 0,.int .i64 0,.int .i64 0]
 go_enter Tryz.func144,Tryz.ntmps144
 go_wp2_with fail
 rw [<-aG.out]
 clear aG
 have hPl:w.heap.size+1+1<W.heap.size:=RP.lt
 refine (CY.out _ B0).mono ?_
 rintro e1 w1 ⟨rfl,b1⟩
 replace X:=X.below b1
 replace RES:=RES.below b1
 replace RP:=RP.below b1
 obtain ⟨X_0,X_1,X_2,X_3,X_l⟩:=X.g4
 obtain ⟨RES_0,RES_1,RES_2,RES_3,RES_l⟩:=RES.g4
 obtain ⟨RP_0,RP_1,RP_2,RP_3,RP_l⟩:=RP.g4
 have aL:=Aa B0 b1
 have hBs:=B0.size
 have mB:=b1.size
 clear B0 b1 CY
 by_cases p0:Bq y
 case neg =>
  have H:=Lib.hid (show Gs y worker d=(y,⟨8,0,0,0⟩) from if_pos p0)
  rw [Al p0]
  clear p0
  clear RES_0 RES_1 RES_2 RES_3 RES_l
  clear RP_0 RP_1 RP_2 RP_3 RP_l
  go_wp2_with fail
  refine (CC.out _ aL).mono ?_
  rintro e1 w2 ⟨⟨⟨B1,m1,e1⟩,⟨B2,m2,e2⟩⟩,F,rfl,oy,nF,b2⟩
  replace RES:=RES.below b2
  replace RP:=RP.below b2
  obtain ⟨RES_0,RES_1,RES_2,RES_3,RES_l⟩:=RES.g4
  obtain ⟨RP_0,RP_1,RP_2,RP_3,RP_l⟩:=RP.g4
  have rf:=RES.free
  have pf:=RP.free
  have aF:=Aa aL b2
  go_wp2
  have en1:w.heap.size+1∉F:=fun hx=>by have:=nF _ hx;omega
  have en2:w.heap.size+1+1∉F:=fun hx=>by have:=nF _ hx;omega
  have aC:w.heap.size+1+1≠w.heap.size+1:=by omega
  have RES2:=DBox.row4 RES rfl (.int .i64 y.now) (.int .i64 y.seq) (.slice B1 m1 e1) (.slice B2 m2 e2)
  have RP2:=DBox.row4 ((((RP.setOther (a:=⟨w.heap.size+1,0,none⟩) aC (.int .i64 y.now)).setOther (a:=⟨w.heap.size+1,1,none⟩) aC (.int .i64 y.seq)).setOther (a:=⟨w.heap.size+1,2,none⟩) aC (.slice B1 m1 e1)).setOther (a:=⟨w.heap.size+1,3,none⟩) aC (.slice B2 m2 e2)) rfl (.int .i64 8) (.int .i64 0) (.int .i64 0) (.int .i64 0)
  have RES3:=(((RES2.setOther (a:=⟨w.heap.size+1+1,0,none⟩) aC.symm (.int .i64 8)).setOther (a:=⟨w.heap.size+1+1,1,none⟩) aC.symm (.int .i64 0)).setOther (a:=⟨w.heap.size+1+1,2,none⟩) aC.symm (.int .i64 0)).setOther (a:=⟨w.heap.size+1+1,3,none⟩) aC.symm (.int .i64 0)
  refine bodyPost_ret (N0 RES3 RP2) rfl ⟨(⟨B1,m1,e1⟩,⟨B2,m2,e2⟩),F,by rw [H.out],by rw [H.out];exact (by (repeat (refine Dt.ow_set Ab ?_ (by first | exact en1 | exact en2) _));exact (show Ab.ow _ F y (⟨B1,m1,e1⟩,⟨B2,m2,e2⟩) from oy)),fun x hx=>by have:=nF x hx;omega,?_⟩
  repeat (first | (with_reducible exact aF) | refine Below.setCell ?_ (by simp<;>omega) _)
 rw [Bs p0]
 cases p1:inB worker 0 99
 case false =>
  have H:=Lib.hid (show Gs y worker d=(y,⟨5,0,0,0⟩) by unfold Gs;rw [if_neg (fun h=>h p0),if_pos p1])
  clear p0
  clear RES_0 RES_1 RES_2 RES_3 RES_l
  clear RP_0 RP_1 RP_2 RP_3 RP_l
  go_wp2_with (go_at_call 155;refine (Aj _ _ _ _).mono ?_;rintro e w9 ⟨rfl,rfl⟩;rw [p1])
  refine (CC.out _ aL).mono ?_
  rintro e1 w2 ⟨⟨⟨B1,m1,e1⟩,⟨B2,m2,e2⟩⟩,F,rfl,oy,nF,b2⟩
  replace RES:=RES.below b2
  replace RP:=RP.below b2
  obtain ⟨RES_0,RES_1,RES_2,RES_3,RES_l⟩:=RES.g4
  obtain ⟨RP_0,RP_1,RP_2,RP_3,RP_l⟩:=RP.g4
  have rf:=RES.free
  have pf:=RP.free
  have aF:=Aa aL b2
  go_wp2
  have en1:w.heap.size+1∉F:=fun hx=>by have:=nF _ hx;omega
  have en2:w.heap.size+1+1∉F:=fun hx=>by have:=nF _ hx;omega
  have aC:w.heap.size+1+1≠w.heap.size+1:=by omega
  have RES2:=DBox.row4 RES rfl (.int .i64 y.now) (.int .i64 y.seq) (.slice B1 m1 e1) (.slice B2 m2 e2)
  have RP2:=DBox.row4 ((((RP.setOther (a:=⟨w.heap.size+1,0,none⟩) aC (.int .i64 y.now)).setOther (a:=⟨w.heap.size+1,1,none⟩) aC (.int .i64 y.seq)).setOther (a:=⟨w.heap.size+1,2,none⟩) aC (.slice B1 m1 e1)).setOther (a:=⟨w.heap.size+1,3,none⟩) aC (.slice B2 m2 e2)) rfl (.int .i64 5) (.int .i64 0) (.int .i64 0) (.int .i64 0)
  have RES3:=(((RES2.setOther (a:=⟨w.heap.size+1+1,0,none⟩) aC.symm (.int .i64 5)).setOther (a:=⟨w.heap.size+1+1,1,none⟩) aC.symm (.int .i64 0)).setOther (a:=⟨w.heap.size+1+1,2,none⟩) aC.symm (.int .i64 0)).setOther (a:=⟨w.heap.size+1+1,3,none⟩) aC.symm (.int .i64 0)
  refine bodyPost_ret (N0 RES3 RP2) rfl ⟨(⟨B1,m1,e1⟩,⟨B2,m2,e2⟩),F,by rw [H.out],by rw [H.out];exact (by (repeat (refine Dt.ow_set Ab ?_ (by first | exact en1 | exact en2) _));exact (show Ab.ow _ F y (⟨B1,m1,e1⟩,⟨B2,m2,e2⟩) from oy)),fun x hx=>by have:=nF x hx;omega,?_⟩
  repeat (first | (with_reducible exact aF) | refine Below.setCell ?_ (by simp<;>omega) _)
 have pp:=Bf.1 p1
 have HP:=Lib.hid p0
 obtain ⟨wk,rfl⟩:=Int.eq_ofNat_of_zero_le pp.1
 have hm:((wk:Int).tmod 4)=((wk % 4:Nat):Int):=by rw [Int.tmod_eq_emod_of_nonneg (by omega)];omega
 have hmw:IntKind.i64.wrap ((wk % 4:Nat):Int)=((wk % 4:Nat):Int):=IntWalk.i64_in _ (by omega)
 have pH:(wk:Int) % 4=((wk % 4:Nat):Int):=by omega
 have hh:=Nat.mod_lt wk (show 0<4 by decide)
 have H:=Lib.hid (show Gs y wk d=K9 (Jp y ((wk % 4:Nat):Int) d) (wk % 4) by unfold Gs;rw [if_neg (fun h=>h p0),if_neg (by rw [p1];simp),pH,Int.toNat_natCast])
 have aU:=Pol.start p0 hh
 have h4:=p0.2.2.1
 clear p0 pp pH
 generalize wk % 4=home at *
 have CS:=Lib.hid (fun W hW=>Mv y (⟨A1,n1,c1⟩,⟨A2,n2,c2⟩) home W (by omega) hl (HR.out W hW))
 have CV:=Lib.hid (fun W=>P9 home d W hh hd)
 have HG:Hid (Jp y (home:Int) d=(Cp home d).foldl (Cr home) (Ae y home)):=by
  show Jp y (home:Int) d=_
  unfold Jp
  rw [Int.toNat_natCast]
 clear RES_0 RES_1 RES_2 RES_3 RES_l
 clear RP_0 RP_1 RP_2 RP_3 RP_l
 go_wp2_with (go_at_call 155;refine (Aj _ _ _ _).mono ?_;rintro e w9 ⟨rfl,rfl⟩;rw [p1])
 refine (CS.out _ aL).mono ?_
 rintro e1 w2 ⟨s2,F,rfl,oy,nF,b2⟩
 clear X_0 X_1 X_2 X_3 X_l
 clear X CC HR CS
 replace RES:=RES.below b2
 replace RP:=RP.below b2
 have aF:=Aa aL b2
 have hb2s:=b2.size
 clear aL b2 hm hmw
 have cH:=Ab.ow_lt oy
 have kT:Hid (Ae y home=Ae y home):=rfl
 go_upto_region 7 with fail
 have OB:=DBox.new 31 (Dk (Ae y home) s2) w2 (b:=w2.heap.size) rfl
 have b3:Below w2.heap.size w2 (w2.alloc (.cells (Dk (Ae y home) s2).toArray 31)):=(Below.refl _ _).alloc (Nat.le_refl _) _
 replace RES:=RES.below b3
 replace RP:=RP.below b3
 replace oy:=Ab.ow_below oy b3
 have bZ:=Aa aF b3
 have hb3s:=b3.size
 have jI:=OB.lt
 have hPl2:w.heap.size+1+1<w2.heap.size:=by omega
 generalize w2.alloc (.cells (Dk (Ae y home) s2).toArray 31)=w3 at *
 go_wp2_with fail
 refine (CV.out _).mono ?_
 rintro e1 w4 ⟨v,rfl,ov,b4⟩
 replace RES:=RES.below b4
 replace RP:=RP.below b4
 replace OB:=OB.below b4
 replace oy:=Ab.ow_below oy b4
 have bQ:=Aa bZ b4
 obtain ⟨fE,rT⟩:=Hw.of_ow ov
 obtain ⟨A9,c9,rfl,-⟩:=id (Rd.of_own ov)
 have rF:=Pc home d
 have nU:=Lib.hid (Na (home:=(home:Int)) (draw:=d))
 have nA:=Lib.hid (show ∀ v∈Cp home d,v≠home from fun v hv=>by have:=Nb (home:=(home:Int)) (draw:=d) (by omega) (by omega) v hv;omega)
 have cJ:w2.heap.size<w3.heap.size:=jI
 have aC:∀ x∈Cm (.slice A9 (Cp home d).length c9) (Cp home d).length,x∉F/\w2.heap.size<x:=fun x hx=>⟨fun hF=>by have h1:=rT x hx;have h2:=cH x hF;omega,by have:=rT x hx;omega⟩
 have fN:(∀ x∈F,w.heap.size+1+1<x)/\w2.heap.size∉F:=⟨fun x hx=>by have:=nF x hx;omega,fun hx=>by have:=cH _ hx;omega⟩
 generalize Cm (.slice A9 (Cp home d).length c9) (Cp home d).length=Fv at *
 generalize Cp home d=L at *
 rw [rF] at fE
 rw [rF]
 generalize Ae y home=Z0 at *
 have hw2:w.heap.size+1+1<w2.heap.size:=hPl2
 generalize w2.heap.size=ob at *
 clear cH nF rT
 go_wp2
 go_loopw [11,12,13] (fun i u1 u2 wr=>∃ (k:Nat) (s:Sl×Sl) (F:List Nat),k<=3/\i = .int .i64 k/\Hid (Pol y home ((L.take k).foldl (Cr home) Z0))/\Hid (Ab.ow wr F ((L.take k).foldl (Cr home) Z0) s)/\Hid ((∀ x∈F,w.heap.size+1+1<x)/\ob∉F /\ ∀ x∈Fv,x∉F)/\Hid (Hw Cs wr Fv (.slice A9 3 c9) L)/\DBox ob (Dk ((L.take k).foldl (Cr home) Z0) s) wr/\DBox (w.heap.size+1) [.int .i64 0,.int .i64 0,.slice none 0 0,.slice none 0 0] wr/\DBox (w.heap.size+1+1) [.int .i64 0,.int .i64 0,.int .i64 0,.int .i64 0] wr/\Below w.heap.size w wr) (fun i _ _ _=>3 - (intOf i).toNat)
 case atStart=>exact ⟨0,s2,F,Nat.zero_le _,rfl,aU,oy,⟨fN.1,fN.2,fun x hx=>(aC x hx).1⟩,fE,OB,RES,RP,bQ⟩
 case round =>
  have rG:∀ x∈Fv,ob<x:=fun x hx=>(aC x hx).2
  clear aU oy fN fE OB RES RP bQ aC ov b4
  obtain ⟨k,s,F,hk,rfl,aU,oy,hF,fE,OB,RES,RP,hb⟩:=hrel
  have aE:Hid (∀ h:k<L.length,(L.take (k+1)).foldl (Cr home) Z0=Cr home ((L.take k).foldl (Cr home) Z0) L[k]):=fun h=>Il (Cr home) Z0 L k h
  have dE:Hid ((k=3 \/ ¬ (((L.take k).foldl (Cr home) Z0).shelf.getD home []).length=0)->L.foldl (Cr home) Z0=(L.take k).foldl (Cr home) Z0):=by
   intro h
   rcases h with h | h
   ·rw [List.take_of_length_le (by omega)]
   ·have e:L.foldl (Cr home) Z0=(L.drop k).foldl (Cr home) ((L.take k).foldl (Cr home) Z0):=by
     rw [<-List.foldl_append,List.take_append_drop]
    rw [e]
    exact J6 _ _ h
  generalize (L.take k).foldl (Cr home) Z0=Zk at *
  obtain ⟨⟨B1,m1,e1⟩,⟨B2,m2,e2⟩⟩:=s
  have rE:=aU.out.four
  have oyr:=Ab.ow_rd oy.out
  have kH:home<Zk.shelf.length:=by omega
  obtain rfl:m1=4:=(RdL.at1 (s:=⟨B1,m1,e1⟩) oyr.1).trans rE
  obtain ⟨g,o,⟨xa,xn,xc⟩,rfl,fL,eN,ch⟩:=RdL.entryS (show RdL (Dt.list Af) wr wr.heap.size (.slice B1 4 e1) Zk.shelf from oyr.1) kH
  obtain rfl:xn=Zk.shelf[home].length:=RdL.at1 (s:=⟨xa,xn,xc⟩) eN
  have hhI:(home:Int)<4:=by omega
  have hh0:(0:Int)<=(home:Int):=by omega
  have pX:=aU.out.all _ (List.getElem_mem kH)
  obtain ⟨OB_0,OB_1,OB_2,OB_3,OB_l⟩:=OB.g4
  have cV:=Lib.hid (Ed kH)
  have hwrs:=hb.size
  have hRPl:=RP.lt
  have hobl:=OB.lt
  rcases (show (k<3/\Zk.shelf[home].length=0)\/(k<3 /\ ¬ Zk.shelf[home].length=0) \/ ¬ k<3 by by_cases k<3<;>by_cases Zk.shelf[home].length=0<;>simp [*]) with ⟨aA,hq⟩ | ⟨aA,hq⟩ | aA
  ·have aB:(k:Int)<3:=by omega
   ·have qD:((Zk.shelf[home].length:Int) == 0)=true:=by simp [hq]
    have nP:k<L.length:=by omega
    have hv4:L[k]<4:=nU.out _ (List.getElem_mem nP)
    have gQ:L[k]≠home:=nA.out _ (List.getElem_mem nP)
    obtain ⟨gv,ov,rfl,hgv,cv⟩:=fE.out.rd.nat nP
    replace aE:=Lib.hid (aE.out nP)
    have aY:=fE.out.block (by omega)
    generalize L[k]=v at *
    have hP1:Hid (Pol y home (Io home Zk v)):=by
     have h1:=aU.out.step hh hv4 gQ
     rw [Kk (by rw [cV.out];exact hq) gQ] at h1
     exact h1
    replace aE:=Lib.hid (aE.out.trans (Kk (by rw [cV.out];exact hq) gQ))
    have hE0:=Lib.hid (show (Ae Zk v).shelf.getD home []=[] by rw [Oi gQ,cV.out];exact List.eq_nil_of_length_eq_zero hq)
    have rS:=fE.out.lt
    have hvI:(v:Int)<4:=by omega
    have hv0:(0:Int)<=(v:Int):=by omega
    have dG:(0:Int)<=(k:Int):=by omega
    have hzc:=aU.out.cnt HP.out
    have CS:=Lib.hid (Mv Zk (⟨some ⟨g,o,none⟩,4,e1⟩,⟨B2,m2,e2⟩) v wr.drew (by omega) hzc (Ab.rd_below oyr (Below.refl _ _).drew))
    clear hq
    go_wp2
    refine Bj (fun w'=>w'.cell? ⟨ob,0,none⟩=some (.int .i64 Zk.now)/\w'.cell? ⟨ob,1,none⟩=some (.int .i64 Zk.seq)/\w'.cell? ⟨ob,2,none⟩=some (.slice (some ⟨g,o,none⟩) 4 e1)/\w'.cell? ⟨ob,3,none⟩=some (.slice B2 m2 e2)/\w'.cell? ⟨gv,ov+k,none⟩=some (.int .i64 (v:Int))) 6 (by kernel_rfl) ?_ (fun hHeld=>?_)
    ·exact ⟨OB_0,OB_1,OB_2,OB_3,cv⟩
    refine aT 0 hHeld ?_
    try simp only [pS]
    refine aT 1 hHeld ?_
    try simp only [pS]
    refine aT 2 hHeld ?_
    try simp only [pS]
    refine aT 3 hHeld ?_
    try simp only [pS]
    refine aT 4 hHeld ?_
    try simp only [pS]
    refine oT 5 (fun K hK=>?_)
    (go_simp;refine CS.out.mono ?_;rintro e w2 ⟨⟨⟨C1,p1,f1⟩,⟨C2,p2,f2⟩⟩,F2,rfl,oy2,n2,b2⟩;have OB2:=OB.below (Aa (Below.refl _ _).drew b2);have k0:=OB2.cell 0 _ rfl;have k1:=OB2.cell 1 _ rfl;have k2:=OB2.cell 2 _ rfl;have k3:=OB2.cell 3 _ rfl;have kf:=OB2.free;have kl:=OB2.lt)
    refine hK.out _ _ (fun _=>?_) ?_
    ·exact ⟨(b2.cell (p:=⟨_,_,none⟩) (by show ob<wr.heap.size;omega)).trans OB_0,(b2.cell (p:=⟨_,_,none⟩) (by show ob<wr.heap.size;omega)).trans OB_1,(b2.cell (p:=⟨_,_,none⟩) (by show ob<wr.heap.size;omega)).trans OB_2,(b2.cell (p:=⟨_,_,none⟩) (by show ob<wr.heap.size;omega)).trans OB_3,(b2.cell (p:=⟨_,_,none⟩) (by show gv<wr.heap.size;omega)).trans cv⟩
    clear hK K
    try simp only [pS]
    refine oT 6 (fun K hK=>?_)
    go_simp
    refine hK.out _ _ (fun aC=>absurd rfl aC) ?_
    clear hK K
    try simp only [pS]
    refine Cg (by kernel_rfl) ?_ _
    have b2':Below wr.heap.size wr w2:=Aa (Below.refl _ _).drew b2
    clear k0 k1 k2 k3 kf kl hHeld
    have OB3:=DBox.row4 OB2 rfl (.int .i64 (Ae Zk v).now) (.int .i64 (Ae Zk v).seq) (.slice C1 p1 f1) (.slice C2 p2 f2)
    have dL:=Chg.cells4 w2 ob 0 1 2 3 (.int .i64 (Ae Zk v).now) (.int .i64 (Ae Zk v).seq) (.slice C1 p1 f1) (.slice C2 p2 f2)
    have eC:=Lib.hid (show ∀ x,x∈[ob]->x=ob from fun x hx=>by simpa using hx)
    have RES3:=(RES.below b2').chg dL (fun hx=>by have:=eC.out _ hx;omega)
    have RP3:=(RP.below b2').chg dL (fun hx=>by have:=eC.out _ hx;omega)
    have dK:=(fE.out.below b2').chg dL (fun x hx hx2=>by have h1:=eC.out _ hx2;have h2:=rG x hx;omega)
    have eD:ob∉F2:=fun hx=>by have h1:=n2 _ hx;have h2:wr.drew.heap.size=wr.heap.size:=rfl;have h3:=OB_l;omega
    have oy3:=Ab.ow_chg oy2 dL (fun x hx hx2=>by have:=eC.out _ hx2;subst this;exact eD hx)
    have bZ:Below w.heap.size w _:=(Aa hb b2').trans (dL.below (by have:=b2'.size;omega) (fun x hx=>by have:=eC.out _ hx;omega))
    have fM:∀ x∈F2,wr.heap.size<=x:=n2
    have eG:=b2'.size
    have jP:=dL.size
    replace cv:=(dL.cell (p:=⟨gv,_,none⟩) (by show gv<w2.heap.size;omega) (fun hx=>by have h1:gv=ob:=eC.out _ hx;have h2:=rG gv (by rw [aY.1];simp);omega)).trans ((b2'.cell (p:=⟨gv,_,none⟩) (by show gv<wr.heap.size;omega)).trans cv)
    have mT:∀ x∈F2,w.heap.size+1+1<x:=fun x hx=>by have h1:=fM x hx;have h2:=RP.lt;omega
    clear OB_0 OB_1 OB_2 OB_3 OB_l
    clear OB RES RP fE oy oy2 n2 b2 b2' hb OB2 oyr eN ch hF CS
    generalize (((w2.setCell ⟨ob,0,none⟩ (.int .i64 (Ae Zk v).now)).setCell ⟨ob,1,none⟩ (.int .i64 (Ae Zk v).seq)).setCell ⟨ob,2,none⟩ (.slice C1 p1 f1)).setCell ⟨ob,3,none⟩ (.slice C2 p2 f2)=w3 at *
    have OB:=OB3
    clear OB3
    obtain ⟨OB_0,OB_1,OB_2,OB_3,OB_l⟩:=OB.g4
    have h41:(Ae Zk v).shelf.length=4:=by rw [Kj];exact rE
    have oyr3:=Ab.ow_rd (F:=F2) (x:=Ae Zk v) oy3
    obtain rfl:p1=4:=(RdL.at1 (s:=⟨C1,p1,f1⟩) oyr3.1).trans h41
    have gE:v<(Ae Zk v).shelf.length:=by omega
    obtain ⟨g2,o2,⟨va,vn,vc⟩,rfl,jU,tK,cv2⟩:=RdL.entryS (show RdL (Dt.list Af) w3 w3.heap.size (.slice C1 4 f1) (Ae Zk v).shelf from oyr3.1) gE
    have jH:=Mb (i:=v) aU.out.all
    have gL:=jH _ (List.getElem_mem gE)
    have CH:=Lib.hid (U5 (Ae Zk v).shelf[v] ⟨va,vn,vc⟩ w3.drew (by omega) (RdL.below tK (Below.refl _ _).drew))
    have hgvw:gv<w3.heap.size:=by omega
    go_wp2
    refine Go.wp_region_noPanic ?_
    refine wp_region_held_drew (S:=(fun w'=>w'.cell? ⟨ob,2,none⟩=some (.slice (some ⟨g2,o2,none⟩) 4 f1)/\w'.cell? ⟨gv,ov+k,none⟩=some (.int .i64 (v:Int))/\w'.cell? ⟨g2,o2+v,none⟩=some (.slice va vn vc))) (by kernel_rfl) ⟨OB_2,cv,cv2⟩ (fun hHeld=>?_)
    refine tY 0 ?_
    (try simp only [pS])
    refine tY 1 ?_
    (try simp only [pS])
    refine tY 2 ?_
    (try simp only [pS])
    refine tY 3 ?_
    (try simp only [pS])
    refine tY 4 ?_
    (try simp only [pS])
    refine tY 5 ?_
    (try simp only [pS])
    refine tY 6 ?_
    (try simp only [pS])
    refine tY 7 ?_
    (try simp only [pS])
    refine rC 8 (fun K_ hK=>?_)
    go_simp
    refine CH.out.mono ?_
    rintro e w4 ⟨⟨qa1,qn1,qc1⟩,Fh1,⟨qa2,qn2,qc2⟩,Fh2,rfl,oh1,oh2,nh1,nh2,dh,b4⟩
    refine hK.out _ _ ⟨(b4.cell (p:=⟨_,_,none⟩) (by show ob<w3.heap.size;omega)).trans OB_2,(b4.cell (p:=⟨_,_,none⟩) (by show gv<w3.heap.size;omega)).trans cv,(b4.cell (p:=⟨_,_,none⟩) (by show g2<w3.heap.size;omega)).trans cv2⟩ (fun hHeld=>?_)
    clear hK K_
    (try simp only [pS])
    refine tY 9 ?_
    (try simp only [pS])
    refine tY 10 ?_
    (try simp only [pS])
    refine tY 11 ?_
    (try simp only [pS])
    refine tY 12 ?_
    (try simp only [pS])
    refine tY 13 ?_
    (try simp only [pS])
    refine wpAnyH_done (by kernel_rfl) ?_ _
    refine NoPanic.normal ?_
    have b4':Below w3.heap.size w3 w4:=Aa (Below.refl _ _).drew b4
    have kV:=b4'.size
    have hnh1:∀ x∈Fh1,w3.heap.size<=x:=nh1
    have kS:∀ x∈Fh2,w3.heap.size<=x:=nh2
    replace oy3:Ab.ow w3 F2 (Ae Zk v) (⟨some ⟨g2,o2,none⟩,4,f1⟩,⟨C2,p2,f2⟩):=oy3
    have hfl2:=Ab.ow_lt (F:=F2) (x:=Ae Zk v) (s:=(⟨some ⟨g2,o2,none⟩,4,f1⟩,⟨C2,p2,f2⟩)) oy3
    clear OB_0 OB_1 OB_2 OB_3 OB_l
    replace OB:=OB.below b4'
    replace RES3:=RES3.below b4'
    replace RP3:=RP3.below b4'
    replace dK:=dK.below b4'
    replace oy3:Ab.ow w4 F2 (Ae Zk v) (⟨some ⟨g2,o2,none⟩,4,f1⟩,⟨C2,p2,f2⟩):=Ab.ow_below (F:=F2) (x:=Ae Zk v) (s:=(⟨some ⟨g2,o2,none⟩,4,f1⟩,⟨C2,p2,f2⟩)) oy3 b4'
    replace bZ:=Aa bZ b4'
    replace cv:=(b4'.cell (p:=⟨gv,_,none⟩) (by show gv<w3.heap.size;omega)).trans cv
    replace cv2:=(b4'.cell (p:=⟨g2,_,none⟩) (by show g2<w3.heap.size;omega)).trans cv2
    clear nh1 nh2 b4 b4' hHeld CH oyr3 tK
    obtain ⟨OB_0,OB_1,OB_2,OB_3,OB_l⟩:=OB.g4
    have jB:∀ j,w4.frozen? ⟨g2,j,none⟩=false:=by
     obtain ⟨G1,G2,_,_,os,_⟩:=oy3
     exact OwL.free0 (show OwL (Dt.list Af) w4 G1 (.slice (some ⟨g2,o2,none⟩) 4 f1) (Ae Zk v).shelf from os) (by omega)
    have kK:g2<w4.heap.size:=by omega
    have hgvw4:gv<w4.heap.size:=by omega
    go_wp2
    refine Bj (fun w'=>w'.cell? ⟨ob,2,none⟩=some (.slice (some ⟨g2,o2,none⟩) 4 f1)/\w'.cell? ⟨gv,ov+k,none⟩=some (.int .i64 (v:Int))) 8 (by kernel_rfl) ?_ (fun hHeld=>?_)
    ·exact ⟨OB_2,cv⟩
    refine aT 0 hHeld ?_
    try simp only [pS]
    refine aT 1 hHeld ?_
    try simp only [pS]
    refine aT 2 hHeld ?_
    try simp only [pS]
    refine aT 3 hHeld ?_
    try simp only [pS]
    refine aT 4 hHeld ?_
    try simp only [pS]
    refine aT 5 hHeld ?_
    try simp only [pS]
    refine aT 6 hHeld ?_
    try simp only [pS]
    refine aT 7 hHeld ?_
    try simp only [pS]
    refine oT 8 (fun K hK=>?_)
    go_simp
    refine hK.out _ _ (fun aC=>absurd rfl aC) ?_
    clear hK K
    try simp only [pS]
    refine Cg (by kernel_rfl) ?_ _
    obtain ⟨F5,oy5,hF5,gZ⟩:=Dz oy3 gE (l:=(Ae Zk v).shelf[v].drop (Bh (Ae Zk v).shelf[v])) (t:=⟨qa2,qn2,qc2⟩) oh2 (fun x hx aY=>by have h1:=kS x hx;have h2:=hfl2 x aY;omega)
    replace oy5:Ab.ow (w4.setCell ⟨g2,o2+v,none⟩ (.slice qa2 qn2 qc2)).drew F5 ⟨(Ae Zk v).now,(Ae Zk v).seq,(Ae Zk v).shelf.set v ((Ae Zk v).shelf[v].drop (Bh (Ae Zk v).shelf[v])),(Ae Zk v).runs⟩ (⟨some ⟨g2,o2,none⟩,4,f1⟩,⟨C2,p2,f2⟩):=Ab.ow_below (F:=F5) (x:=⟨(Ae Zk v).now,(Ae Zk v).seq,(Ae Zk v).shelf.set v ((Ae Zk v).shelf[v].drop (Bh (Ae Zk v).shelf[v])),(Ae Zk v).runs⟩) (s:=(⟨some ⟨g2,o2,none⟩,4,f1⟩,⟨C2,p2,f2⟩)) oy5 (Below.refl _ _).drew
    have dC:Chg [g2] w4 (w4.setCell ⟨g2,o2+v,none⟩ (.slice qa2 qn2 qc2)).drew:=(Chg.setCell w4 g2 _ _).drew
    have bL:=Lib.hid (show ∀ x,x∈[g2]->x=g2 from fun x hx=>by simpa using hx)
    have hg2gt:=mT _ gZ
    have hg2n:=fM _ gZ
    have dR:ob≠g2:=fun h=>eD (by rw [h];exact gZ)
    clear OB_0 OB_1 OB_2 OB_3 OB_l
    replace OB:=OB.chg dC (fun hx=>dR (bL.out _ hx))
    replace RES3:=RES3.chg dC (fun hx=>by have:=bL.out _ hx;omega)
    replace RP3:=RP3.chg dC (fun hx=>by have:=bL.out _ hx;omega)
    replace dK:=dK.chg dC (fun x hx hx2=>by have h1:=bL.out _ hx2;have h2:=rS x hx;omega)
    have oh1':=oh1.chg dC (fun x hx hx2=>by have h1:=bL.out _ hx2;have h2:=hnh1 x hx;omega)
    replace bZ:=bZ.trans (dC.below (by have:=bZ.size;omega) (fun x hx=>by have:=bL.out _ hx;omega))
    have hfg5:∀ j,(w4.setCell ⟨g2,o2+v,none⟩ (.slice qa2 qn2 qc2)).drew.frozen? ⟨g2,j,none⟩=false:=fun j=>(Hs w4 _ _ _).trans (jB j)
    have pC:=dC.size
    clear dC hHeld oy3 oh1 oh2 jB cv cv2
    generalize (w4.setCell ⟨g2,o2+v,none⟩ (.slice qa2 qn2 qc2)).drew=w5 at *
    obtain ⟨OB_0,OB_1,OB_2,OB_3,OB_l⟩:=OB.g4
    have h42:((Ae Zk v).shelf.set v ((Ae Zk v).shelf[v].drop (Bh (Ae Zk v).shelf[v]))).length=4:=by rw [List.length_set];exact h41
    have tW:((Ae Zk v).shelf.set v ((Ae Zk v).shelf[v].drop (Bh (Ae Zk v).shelf[v])))[home]'(by omega)=[]:=by
     have h1:=hE0.out
     rw [Ed (by omega)] at h1
     rw [List.getElem_set_ne gQ]
     exact h1
    have tD:=Lib.hid (show Io home Zk v=⟨(Ae Zk v).now,(Ae Zk v).seq,((Ae Zk v).shelf.set v ((Ae Zk v).shelf[v].drop (Bh (Ae Zk v).shelf[v]))).set home (Eb [] ((Ae Zk v).shelf[v].take (Bh (Ae Zk v).shelf[v]))),(Ae Zk v).runs⟩ by
     unfold Io
     rw [Ed gE]
     rfl)
    obtain ⟨_,_,⟨xa2,xn2,xc2⟩,cQ,_,gW,cx⟩:=RdL.entryS (show RdL (Dt.list Af) w5 w5.heap.size (.slice (some ⟨g2,o2,none⟩) 4 f1) _ from (Ab.ow_rd oy5).1) (k:=home) (by show home<(List.set _ _ _).length;omega)
    simp only [Option.some.injEq,Addr.mk.injEq,and_true] at cQ
    obtain ⟨rfl,rfl⟩:=cQ
    replace gW:RdL Af w5 w5.heap.size (.slice xa2 xn2 xc2) (((Ae Zk v).shelf.set v ((Ae Zk v).shelf[v].drop (Bh (Ae Zk v).shelf[v])))[home]'(by omega)):=gW
    rw [tW] at gW
    obtain rfl:xn2=0:=RdL.at1 (s:=⟨xa2,xn2,xc2⟩) gW
    have eI:((Ae Zk v).shelf[v].take (Bh (Ae Zk v).shelf[v])).length<=80:=J5 _ gL
    have CM:=Lib.hid (Rt [] ((Ae Zk v).shelf[v].take (Bh (Ae Zk v).shelf[v])) ⟨xa2,0,xc2⟩ ⟨qa1,qn1,qc1⟩ w5.drew (by simp) (by omega) (RdL.below gW (Below.refl _ _).drew) (RdL.below oh1'.rd (Below.refl _ _).drew))
    have hobw5:ob<w5.heap.size:=OB_l
    have hg2w5:g2<w5.heap.size:=by omega
    clear tW gW gL
    generalize (Ae Zk v).shelf[v].take (Bh (Ae Zk v).shelf[v])=lt_ at *
    go_wp2
    refine Bj (fun w'=>w'.cell? ⟨ob,2,none⟩=some (.slice (some ⟨g2,o2,none⟩) 4 f1)/\w'.cell? ⟨g2,o2+home,none⟩=some (.slice xa2 0 xc2)) 11 (by kernel_rfl) ?_ (fun hHeld=>?_)
    ·exact ⟨OB_2,cx⟩
    refine aT 0 hHeld ?_
    try simp only [pS]
    refine aT 1 hHeld ?_
    try simp only [pS]
    refine aT 2 hHeld ?_
    try simp only [pS]
    refine aT 3 hHeld ?_
    try simp only [pS]
    refine aT 4 hHeld ?_
    try simp only [pS]
    refine aT 5 hHeld ?_
    try simp only [pS]
    refine aT 6 hHeld ?_
    try simp only [pS]
    refine aT 7 hHeld ?_
    try simp only [pS]
    refine aT 8 hHeld ?_
    try simp only [pS]
    refine oT 9 (fun K hK=>?_)
    (go_simp;refine CM.out.mono ?_;rintro e w6 ⟨⟨ma,mn,mc⟩,Fm,rfl,om,nm,b6⟩;have hgc:w6.cell? ⟨g2,o2+home,none⟩=some (.slice xa2 0 xc2):=(b6.cell (p:=⟨_,_,none⟩) (by show g2<w5.heap.size;omega)).trans cx;have pE:∀ j,w6.frozen? ⟨g2,j,none⟩=false:=fun j=>(b6.frozen (p:=⟨_,_,none⟩) (by show g2<w5.heap.size;omega)).trans (hfg5 j))
    refine hK.out _ _ (fun _=>?_) ?_
    ·exact ⟨(b6.cell (p:=⟨_,_,none⟩) (by show ob<w5.heap.size;omega)).trans OB_2,(b6.cell (p:=⟨_,_,none⟩) (by show g2<w5.heap.size;omega)).trans cx⟩
    clear hK K
    try simp only [pS]
    refine oT 10 (fun K hK=>?_)
    go_simp
    refine hK.out _ _ (fun _=>?_) ?_
    ·exact ⟨(b6.cell (p:=⟨_,_,none⟩) (by show ob<w5.heap.size;omega)).trans OB_2,(b6.cell (p:=⟨_,_,none⟩) (by show g2<w5.heap.size;omega)).trans cx⟩
    clear hK K
    try simp only [pS]
    refine oT 11 (fun K hK=>?_)
    go_simp
    refine hK.out _ _ (fun aC=>absurd rfl aC) ?_
    clear hK K
    try simp only [pS]
    refine Cg (by kernel_rfl) ?_ _
    have b6':Below w5.heap.size w5 w6:=Aa (Below.refl _ _).drew b6
    have pG:=b6'.size
    have sF:∀ x∈Fm,w5.heap.size<=x:=nm
    replace oy5:Ab.ow w5 F5 ⟨(Ae Zk v).now,(Ae Zk v).seq,(Ae Zk v).shelf.set v ((Ae Zk v).shelf[v].drop (Bh (Ae Zk v).shelf[v])),(Ae Zk v).runs⟩ (⟨some ⟨g2,o2,none⟩,4,f1⟩,⟨C2,p2,f2⟩):=oy5
    have hfl5:=Ab.ow_lt (F:=F5) (x:=⟨(Ae Zk v).now,(Ae Zk v).seq,(Ae Zk v).shelf.set v ((Ae Zk v).shelf[v].drop (Bh (Ae Zk v).shelf[v])),(Ae Zk v).runs⟩) (s:=(⟨some ⟨g2,o2,none⟩,4,f1⟩,⟨C2,p2,f2⟩)) oy5
    have oy6:=Ab.ow_below (F:=F5) (x:=⟨(Ae Zk v).now,(Ae Zk v).seq,(Ae Zk v).shelf.set v ((Ae Zk v).shelf[v].drop (Bh (Ae Zk v).shelf[v])),(Ae Zk v).runs⟩) (s:=(⟨some ⟨g2,o2,none⟩,4,f1⟩,⟨C2,p2,f2⟩)) oy5 b6'
    obtain ⟨F7,oy7,jL,hg2F5⟩:=Dz oy6 (i:=home) (by show home<(List.set _ _ _).length;omega) (l:=Eb [] lt_) (t:=⟨ma,mn,mc⟩) om (fun x hx aY=>by have h1:=sF x hx;have h2:=hfl5 x aY;omega)
    have fV:Chg [g2] w6 (w6.setCell ⟨g2,o2+home,none⟩ (.slice ma mn mc)):=Chg.setCell w6 g2 _ _
    clear OB_0 OB_1 OB_2 OB_3 OB_l
    replace OB:=(OB.below b6').chg fV (fun hx=>dR (bL.out _ hx))
    replace RES3:=(RES3.below b6').chg fV (fun hx=>by have:=bL.out _ hx;omega)
    replace RP3:=(RP3.below b6').chg fV (fun hx=>by have:=bL.out _ hx;omega)
    replace dK:=(dK.below b6').chg fV (fun x hx hx2=>by have h1:=bL.out _ hx2;have h2:=rS x hx;omega)
    replace bZ:=(Aa bZ b6').trans (fV.below (by have:=(Aa bZ b6').size;omega) (fun x hx=>by have:=bL.out _ hx;omega))
    have jA:∀ x∈F7,x∈F2\/w3.heap.size<=x:=fun x hx=>by
     rcases jL x hx with h | h
     ·rcases hF5 x h with h' | h'
      ·exact .inl h'
      ·exact .inr (kS x h')
     ·right;have:=sF x h;omega
    clear hHeld oy5 oy6 b6 b6' nm om fV CM cx
    generalize w6.setCell ⟨g2,o2+home,none⟩ (.slice ma mn mc)=w7 at *
    go_wp2
    exact ⟨⟨k+1,(⟨some ⟨g2,o2,none⟩,4,f1⟩,⟨C2,p2,f2⟩),F7,by omega,by go_num,by rw [aE.out];exact hP1,by rw [aE.out,tD.out];exact oy7,⟨fun x hx=>by (rcases jA x hx with h | h);exact mT x h;omega,fun hx=>by (rcases jA _ hx with h | h);exact eD h;omega,fun x hx aY=>by have h1:=rS x hx;(rcases jA x aY with h | h);have:=fM x h;omega;omega⟩,dK,by rw [aE.out,tD.out];exact OB,RES3,RP3,bZ⟩,by simp [intOf];omega⟩
  have aB:(k:Int)<3:=by omega
  have qD:((Zk.shelf[home].length:Int) == 0)=false:=by simp [hq]
  replace dE:=Lib.hid (dE.out (.inr (by rw [cV.out];exact hq)))
  clear hq
  rotate_left
  have aB:¬ (k:Int)<3:=by omega
  have qD:True:=trivial
  replace dE:=Lib.hid (dE.out (.inl (by omega)))
  all_goals
   have HZ:=Lib.hid (show Gs y (wk:Int) d=K9 Zk home by rw [H.out,HG.out,dE.out])
   have jG:∀ e∈Zk.shelf[home],Q8 Zk e:=fun e he=>by
    have h1:=aU.out.fresh e (by rw [cV.out];exact he)
    rw [<-Lp aU.out.runs] at h1
    exact J0.1 h1
   replace eN:RdL Af wr wr.heap.size (.slice xa Zk.shelf[home].length xc) Zk.shelf[home]:=eN
   have nZ:=aU.out.all _ (List.getElem_mem kH)
   have qC:Hid (K9 Zk home=Pd Zk home Zk.shelf[home]):=by
    show K9 Zk home=_
    unfold K9
    rw [cV.out]
   have CT:=Lib.hid (Np Zk.shelf[home] ⟨xa,Zk.shelf[home].length,xc⟩ wr (by omega) eN)
   clear aE cV fE nU nA kT rG H HG dE
   generalize Zk.shelf[home]=SH at *
   go_wp2_with fail
   refine CT.out.mono ?_
   rintro e9 w2 ⟨⟨ta,tn,tc⟩,Ft,rfl,ot,nt,b2⟩
   replace oy:Ab.ow wr F Zk (⟨some ⟨g,o,none⟩,4,e1⟩,⟨B2,m2,e2⟩):=oy.out
   have nX:=Ab.ow_lt (F:=F) (x:=Zk) (s:=(⟨some ⟨g,o,none⟩,4,e1⟩,⟨B2,m2,e2⟩)) oy
   replace oy:Ab.ow w2 F Zk (⟨some ⟨g,o,none⟩,4,e1⟩,⟨B2,m2,e2⟩):=Ab.ow_below (F:=F) (x:=Zk) (s:=(⟨some ⟨g,o,none⟩,4,e1⟩,⟨B2,m2,e2⟩)) oy b2
   clear OB_0 OB_1 OB_2 OB_3 OB_l
   replace OB:=OB.below b2
   replace RES:=RES.below b2
   replace RP:=RP.below b2
   have aF:=Aa hb b2
   have eG:=b2.size
   clear b2 CT ch eN hb oyr
   have aC:w.heap.size+1+1≠w.heap.size+1:=by omega
   cases SH with
   | nil =>
    have HF:=Lib.hid (HZ.out.trans qC.out)
    clear HZ qC jG ot
    have EB0:Below w2.heap.size w2 (w2.alloc (.cells #[.int .i64 0,.int .i64 0,.int .i64 0,.int .i64 0] 93)):=(Below.refl _ _).alloc (Nat.le_refl _) _
    go_upto_region 16 with fail
    replace oy:Ab.ow _ F Zk (⟨some ⟨g,o,none⟩,4,e1⟩,⟨B2,m2,e2⟩):=Ab.ow_below (F:=F) (x:=Zk) (s:=(⟨some ⟨g,o,none⟩,4,e1⟩,⟨B2,m2,e2⟩)) oy EB0
    replace OB:=OB.below EB0
    replace RES:=RES.below EB0
    replace RP:=RP.below EB0
    replace aF:=Aa aF EB0
    clear EB0
    generalize w2.alloc (.cells #[.int .i64 0,.int .i64 0,.int .i64 0,.int .i64 0] 93)=w3 at *
    obtain ⟨OB_0,OB_1,OB_2,OB_3,OB_l⟩:=OB.g4
    obtain ⟨RES_0,RES_1,RES_2,RES_3,RES_l⟩:=RES.g4
    obtain ⟨RP_0,RP_1,RP_2,RP_3,RP_l⟩:=RP.g4
    have rf:=RES.free
    have pf:=RP.free
    go_wp2
    have en1:w.heap.size+1∉F:=fun hx=>by have:=hF.out.1 _ hx;omega
    have en2:w.heap.size+1+1∉F:=fun hx=>by have:=hF.out.1 _ hx;omega
    have RES2:=DBox.row4 RES rfl (.int .i64 Zk.now) (.int .i64 Zk.seq) (.slice (some ⟨g,o,none⟩) 4 e1) (.slice B2 m2 e2)
    have RP2:=DBox.row4 ((((RP.setOther (a:=⟨w.heap.size+1,0,none⟩) aC (.int .i64 Zk.now)).setOther (a:=⟨w.heap.size+1,1,none⟩) aC (.int .i64 Zk.seq)).setOther (a:=⟨w.heap.size+1,2,none⟩) aC (.slice (some ⟨g,o,none⟩) 4 e1)).setOther (a:=⟨w.heap.size+1,3,none⟩) aC (.slice B2 m2 e2)) rfl (.int .i64 9) (.int .i64 0) (.int .i64 0) (.int .i64 0)
    have RES3:=(((RES2.setOther (a:=⟨w.heap.size+1+1,0,none⟩) aC.symm (.int .i64 9)).setOther (a:=⟨w.heap.size+1+1,1,none⟩) aC.symm (.int .i64 0)).setOther (a:=⟨w.heap.size+1+1,2,none⟩) aC.symm (.int .i64 0)).setOther (a:=⟨w.heap.size+1+1,3,none⟩) aC.symm (.int .i64 0)
    refine bodyPost_ret (N0 RES3 RP2) rfl ⟨(⟨some ⟨g,o,none⟩,4,e1⟩,⟨B2,m2,e2⟩),F,by rw [HF.out];rfl,by rw [HF.out];exact (by (repeat (refine Dt.ow_set Ab ?_ (by first | exact en1 | exact en2) _));exact (show Ab.ow _ F Zk (⟨some ⟨g,o,none⟩,4,e1⟩,⟨B2,m2,e2⟩) from oy)),fun x hx=>by have:=hF.out.1 x hx;omega,?_⟩
    repeat (first | (with_reducible exact aF) | refine Below.setCell ?_ (by simp<;>omega) _)
   | cons e rest =>
    obtain ⟨mU,⟨fZ,pP⟩,cF⟩:=jG e (List.mem_cons_self ..)
    obtain ⟨pr,sq,rn,tk⟩:=e
    dsimp only at mU fZ pP cF
    obtain ⟨t,rfl⟩:=Int.eq_ofNat_of_zero_le fZ
    rcases Cn Zk rn with dB | ⟨j,hj,dB⟩
    ·exact absurd mU (by omega)
    have cA:=Dr hj dB
    rw [cA] at pP cF
    have sW:j<y.runs.length:=by rw [<-aU.out.runs];exact hj
    have rQ:Hid (Er Zk.runs[j]):=by
     have e:Zk.runs[j]=y.runs[j]:=by simp only [aU.out.runs]
     show Er Zk.runs[j]
     rw [e]
     exact Co HP.out sW
    have HF:=Lib.hid (HZ.out.trans (qC.out.trans (show _=((⟨Zk.now,Zk.seq,Zk.shelf.set home rest,Zk.runs.set j (Cd Zk.runs[j] t Zk.now)⟩:Yard),(⟨0,rn,t,(Ax Zk.runs[j] t).try_+1⟩:Reply)) by show Pd _ _ (_ :: _)=_;unfold Pd;dsimp only;rw [dB,cA,Int.toNat_natCast,Int.toNat_natCast])))
    have fW:=Lib.hid (show 0<=Zk.now/\Zk.now<=999999980 by rw [aU.out.now];exact HP.out.1)
    have hrun8:Zk.runs.length<=8:=by rw [aU.out.runs];exact HP.out.2.2.2.2.2.2.1
    have eI:t<Zk.runs[j].tasks.length:=by omega
    have rI:=Aw eI
    have mL:=Lib.hid (show Bo ⟨Zk.now,Zk.seq,Zk.shelf.set home rest,Zk.runs⟩ rn=j from (Kw (y:=Zk) rfl rn).trans dB)
    have uK:=Lib.hid (show Ai ⟨Zk.now,Zk.seq,Zk.shelf.set home rest,Zk.runs⟩<=2000000 by
     have:=Ma (y:=⟨Zk.now,Zk.seq,Zk.shelf.set home rest,Zk.runs⟩) (M:=80) (by simpa using rE) (fun s hs=>by
      rcases List.mem_or_eq_of_mem_set hs with h | h
      ·exact aU.out.all s h
      ·subst h;simp at nZ;omega) hrun8 (fun k hk=>by
       have bH:k<y.runs.length:=by rw [<-aU.out.runs];exact hk
       have e:Zk.runs[k]=y.runs[k]:=by simp only [aU.out.runs]
       show Er Zk.runs[k]
       rw [e]
       exact Co HP.out bH)
     omega)
    clear HZ qC jG dB cA mU fZ pP cF sW pX qD
    replace ot:OwL Af w2 Ft (.slice ta tn tc) rest:=ot
    have eQ:∀ x∈Ft,wr.heap.size<=x/\x<w2.heap.size:=fun x hx=>⟨nt x hx,ot.lt x hx⟩
    have EB:=DBox.new 93 [.int .i64 pr,.int .i64 sq,.int .i64 rn,.int .i64 (t:Int)] w2 (b:=w2.heap.size) rfl
    have EB0:Below w2.heap.size w2 (w2.alloc (.cells #[.int .i64 pr,.int .i64 sq,.int .i64 rn,.int .i64 (t:Int)] 93)):=(Below.refl _ _).alloc (Nat.le_refl _) _
    go_upto_region 16 with fail
    replace oy:Ab.ow _ F Zk (⟨some ⟨g,o,none⟩,4,e1⟩,⟨B2,m2,e2⟩):=Ab.ow_below (F:=F) (x:=Zk) (s:=(⟨some ⟨g,o,none⟩,4,e1⟩,⟨B2,m2,e2⟩)) oy EB0
    replace ot:=ot.below EB0
    replace OB:=OB.below EB0
    replace RES:=RES.below EB0
    replace RP:=RP.below EB0
    replace aF:=Aa aF EB0
    clear nt EB0
    generalize w2.alloc (.cells #[.int .i64 pr,.int .i64 sq,.int .i64 rn,.int .i64 (t:Int)] 93)=w3 at *
    have hebl:=EB.lt
    generalize w2.heap.size=eb at *
    obtain ⟨OB_0,OB_1,OB_2,OB_3,OB_l⟩:=OB.g4
    obtain ⟨EB_0,EB_1,EB_2,EB_3,EB_l⟩:=EB.g4
    replace oy:Ab.ow w3 F Zk (⟨some ⟨g,o,none⟩,4,e1⟩,⟨B2,m2,e2⟩):=oy
    have jB:∀ j,w3.frozen? ⟨g,j,none⟩=false:=by
     obtain ⟨G1,G2,_,_,os,_⟩:=oy
     exact OwL.free0 (show OwL (Dt.list Af) w3 G1 (.slice (some ⟨g,o,none⟩) 4 e1) Zk.shelf from os) (by omega)
    obtain ⟨_,_,⟨xa3,xn3,xc3⟩,cQ,rZ,_,ch⟩:=RdL.entryS (show RdL (Dt.list Af) w3 w3.heap.size (.slice (some ⟨g,o,none⟩) 4 e1) Zk.shelf from (Ab.ow_rd (F:=F) (x:=Zk) oy).1) kH
    simp only [Option.some.injEq,Addr.mk.injEq,and_true] at cQ
    obtain ⟨rfl,rfl⟩:=cQ
    obtain ⟨F4,oy4,uH,eF⟩:=Dz oy kH (l:=rest) (t:=⟨ta,tn,tc⟩) ot (fun x hx aY=>by have h1:=(eQ x hx).1;have h2:=nX x aY;omega)
    go_upto_region 19 with fail
    have dZ:Chg [g] w3 (w3.setCell ⟨g,o+home,none⟩ (.slice ta tn tc)):=Chg.setCell w3 g _ _
    have bL:=Lib.hid (show ∀ x,x∈[g]->x=g from fun x hx=>by simpa using hx)
    have hgF2:=hF.out.1 g eF
    have dR:ob≠g:=fun h=>hF.out.2.1 (by rw [h];exact eF)
    clear OB_0 OB_1 OB_2 OB_3 OB_l
    clear EB_0 EB_1 EB_2 EB_3 EB_l
    replace OB:=OB.chg dZ (fun hx=>dR (bL.out _ hx))
    replace EB:=EB.chg dZ (fun hx=>by have:=bL.out _ hx;omega)
    replace RES:=RES.chg dZ (fun hx=>by have:=bL.out _ hx;omega)
    replace RP:=RP.chg dZ (fun hx=>by have:=bL.out _ hx;omega)
    have kV:=dZ.size
    replace aF:=aF.trans (dZ.below (by have:=aF.size;omega) (fun x hx=>by have:=bL.out _ hx;omega))
    clear dZ oy jB ch ot
    generalize w3.setCell ⟨g,o+home,none⟩ (.slice ta tn tc)=w4 at *
    replace oy4:Ab.ow w4 F4 ⟨Zk.now,Zk.seq,Zk.shelf.set home rest,Zk.runs⟩ (⟨some ⟨g,o,none⟩,4,e1⟩,⟨B2,m2,e2⟩):=oy4
    have gP:∀ x∈F4,(x∈F\/(wr.heap.size<=x/\x<eb)):=fun x hx=>(uH x hx).imp id (fun h=>eQ x h)
    have CA:=Lib.hid (Cz ⟨Zk.now,Zk.seq,Zk.shelf.set home rest,Zk.runs⟩ (⟨some ⟨g,o,none⟩,4,e1⟩,⟨B2,m2,e2⟩) rn w4 uK.out (Ab.ow_rd (F:=F4) (x:=⟨Zk.now,Zk.seq,Zk.shelf.set home rest,Zk.runs⟩) oy4))
    obtain ⟨OB_0,OB_1,OB_2,OB_3,OB_l⟩:=OB.g4
    obtain ⟨EB_0,EB_1,EB_2,EB_3,EB_l⟩:=EB.g4
    go_wp2_with fail
    refine CA.out.mono ?_
    rintro e9 w5 ⟨rfl,b5⟩
    rw [mL.out]
    clear OB_0 OB_1 OB_2 OB_3 OB_l
    clear EB_0 EB_1 EB_2 EB_3 EB_l
    replace OB:=OB.below b5
    replace EB:=EB.below b5
    replace RES:=RES.below b5
    replace RP:=RP.below b5
    replace aF:=Aa aF b5
    replace oy4:Ab.ow w5 F4 ⟨Zk.now,Zk.seq,Zk.shelf.set home rest,Zk.runs⟩ (⟨some ⟨g,o,none⟩,4,e1⟩,⟨B2,m2,e2⟩):=Ab.ow_below (F:=F4) (x:=⟨Zk.now,Zk.seq,Zk.shelf.set home rest,Zk.runs⟩) (s:=(⟨some ⟨g,o,none⟩,4,e1⟩,⟨B2,m2,e2⟩)) oy4 b5
    have pC:=b5.size
    clear b5 CA mL uK
    have oyr:=(Ab.ow_rd (F:=F4) (x:=⟨Zk.now,Zk.seq,Zk.shelf.set home rest,Zk.runs⟩) oy4).2
    have eA:=Lib.hid (show m2=Zk.runs.length from RdL.at1 (s:=⟨B2,m2,e2⟩) oyr)
    have fU:(j:Int)<(m2:Int):=by have:=eA.out;omega
    have bX:(0:Int)<=(j:Int):=by omega
    obtain ⟨gr,orr,sk,rfl,dD,cA,c0,c1,c2,c3,c4,c5,c6,c7⟩:=RdL.run (show RdL Am w5 w5.heap.size (.slice B2 m2 e2) Zk.runs from oyr) hj
    have gI:∀ i,w5.frozen? ⟨gr,i,none⟩=false:=by
     obtain ⟨G1,G2,_,_,_,os⟩:=oy4
     exact OwL.free0 (show OwL Am w5 G2 (.slice (some ⟨gr,orr,none⟩) m2 e2) Zk.runs from os) (by omega)
    generalize kZ:Zk.runs[j]=r at *
    have mH:-1000000<=r.tasks[t].try_/\r.tasks[t].try_<=2000000000/\0<=r.plan.wait/\r.plan.wait<=2000000000:=by
     have h1:=rQ.out.2.2.2.1 t eI
     have h2:=(Bn.1 rQ.out.2.1).1
     simp only [Cu,Bool.and_eq_true] at h2
     have h3:=Bf.1 h2.1.2
     have h4:=Bf.1 h2.2
     unfold Ev Lm at h1
     rw [rI] at h1
     omega
    have CSt:=Lib.hid (P7 r sk t Zk.now w5.drew (by have:=Im rQ.out;omega) eI ⟨mH.1,mH.2.1⟩ (by have:=fW.out;omega) mH.2.2 (Am.rd_below cA (Below.refl _ _).drew))
    have hobw5:ob<w5.heap.size:=by omega
    have hebw5:eb<w5.heap.size:=by omega
    clear cA oyr mH rQ hrun8
    obtain ⟨OB_0,OB_1,OB_2,OB_3,OB_l⟩:=OB.g4
    obtain ⟨EB_0,EB_1,EB_2,EB_3,EB_l⟩:=EB.g4
    go_wp2
    refine Bj (fun w'=>w'.cell? ⟨ob,3,none⟩=some (.slice (some ⟨gr,orr,none⟩) m2 e2)/\w'.cell? ⟨ob,0,none⟩=some (.int .i64 Zk.now)/\w'.cell? ⟨eb,3,none⟩=some (.int .i64 (t:Int))/\w'.cell? ⟨gr,orr+j * 8,none⟩=some (.int .i64 r.id)/\w'.cell? ⟨gr,orr+j * 8+1,none⟩=some (.int .i64 r.plan.prio)/\w'.cell? ⟨gr,orr+j * 8+2,none⟩=some (.int .i64 r.plan.most)/\w'.cell? ⟨gr,orr+j * 8+3,none⟩=some (.int .i64 r.plan.wait)/\w'.cell? ⟨gr,orr+j * 8+4,none⟩=some (.int .i64 r.plan.tasks)/\w'.cell? ⟨gr,orr+j * 8+5,none⟩=some (.slice sk.1.a sk.1.n sk.1.c)/\w'.cell? ⟨gr,orr+j * 8+6,none⟩=some (.int .i64 r.state)/\w'.cell? ⟨gr,orr+j * 8+7,none⟩=some (.slice sk.2.a sk.2.n sk.2.c)) 14 (by kernel_rfl) ?_ (fun hHeld=>?_)
    ·exact ⟨OB_3,OB_0,EB_3,c0,c1,c2,c3,c4,c5,c6,c7⟩
    refine aT 0 hHeld ?_
    try simp only [pS]
    refine aT 1 hHeld ?_
    try simp only [pS]
    refine aT 2 hHeld ?_
    try simp only [pS]
    refine aT 3 hHeld ?_
    try simp only [pS]
    refine aT 4 hHeld ?_
    try simp only [pS]
    refine aT 5 hHeld ?_
    try simp only [pS]
    refine aT 6 hHeld ?_
    try simp only [pS]
    refine aT 7 hHeld ?_
    try simp only [pS]
    refine aT 8 hHeld ?_
    try simp only [pS]
    refine aT 9 hHeld ?_
    try simp only [pS]
    refine aT 10 hHeld ?_
    try simp only [pS]
    refine aT 11 hHeld ?_
    try simp only [pS]
    refine oT 12 (fun K hK=>?_)
    (go_simp;refine CSt.out.mono ?_;rintro e9 w6 ⟨sr,Fr,rfl,orn,nr,b6⟩;have q0:w6.cell? ⟨gr,orr+j * 8,none⟩=some (.int .i64 r.id):=(b6.cell (p:=⟨_,_,none⟩) (by show gr<w5.heap.size;omega)).trans c0;have q1:w6.cell? ⟨gr,orr+j * 8+1,none⟩=some (.int .i64 r.plan.prio):=(b6.cell (p:=⟨_,_,none⟩) (by show gr<w5.heap.size;omega)).trans c1;have q2:w6.cell? ⟨gr,orr+j * 8+2,none⟩=some (.int .i64 r.plan.most):=(b6.cell (p:=⟨_,_,none⟩) (by show gr<w5.heap.size;omega)).trans c2;have q3:w6.cell? ⟨gr,orr+j * 8+3,none⟩=some (.int .i64 r.plan.wait):=(b6.cell (p:=⟨_,_,none⟩) (by show gr<w5.heap.size;omega)).trans c3;have q4:w6.cell? ⟨gr,orr+j * 8+4,none⟩=some (.int .i64 r.plan.tasks):=(b6.cell (p:=⟨_,_,none⟩) (by show gr<w5.heap.size;omega)).trans c4;have q5:w6.cell? ⟨gr,orr+j * 8+5,none⟩=some (.slice sk.1.a sk.1.n sk.1.c):=(b6.cell (p:=⟨_,_,none⟩) (by show gr<w5.heap.size;omega)).trans c5;have q6:w6.cell? ⟨gr,orr+j * 8+6,none⟩=some (.int .i64 r.state):=(b6.cell (p:=⟨_,_,none⟩) (by show gr<w5.heap.size;omega)).trans c6;have q7:w6.cell? ⟨gr,orr+j * 8+7,none⟩=some (.slice sk.2.a sk.2.n sk.2.c):=(b6.cell (p:=⟨_,_,none⟩) (by show gr<w5.heap.size;omega)).trans c7;have qf:∀ j,w6.frozen? ⟨gr,j,none⟩=false:=fun j=>(b6.frozen (p:=⟨_,_,none⟩) (by show gr<w5.heap.size;omega)).trans (gI j))
    refine hK.out _ _ (fun _=>?_) ?_
    ·exact ⟨(b6.cell (p:=⟨_,_,none⟩) (by show ob<w5.heap.size;omega)).trans OB_3,(b6.cell (p:=⟨_,_,none⟩) (by show ob<w5.heap.size;omega)).trans OB_0,(b6.cell (p:=⟨_,_,none⟩) (by show eb<w5.heap.size;omega)).trans EB_3,(b6.cell (p:=⟨_,_,none⟩) (by show gr<w5.heap.size;omega)).trans c0,(b6.cell (p:=⟨_,_,none⟩) (by show gr<w5.heap.size;omega)).trans c1,(b6.cell (p:=⟨_,_,none⟩) (by show gr<w5.heap.size;omega)).trans c2,(b6.cell (p:=⟨_,_,none⟩) (by show gr<w5.heap.size;omega)).trans c3,(b6.cell (p:=⟨_,_,none⟩) (by show gr<w5.heap.size;omega)).trans c4,(b6.cell (p:=⟨_,_,none⟩) (by show gr<w5.heap.size;omega)).trans c5,(b6.cell (p:=⟨_,_,none⟩) (by show gr<w5.heap.size;omega)).trans c6,(b6.cell (p:=⟨_,_,none⟩) (by show gr<w5.heap.size;omega)).trans c7⟩
    clear hK K
    try simp only [pS]
    refine oT 13 (fun K hK=>?_)
    go_simp
    refine hK.out _ _ (fun _=>?_) ?_
    ·exact ⟨(b6.cell (p:=⟨_,_,none⟩) (by show ob<w5.heap.size;omega)).trans OB_3,(b6.cell (p:=⟨_,_,none⟩) (by show ob<w5.heap.size;omega)).trans OB_0,(b6.cell (p:=⟨_,_,none⟩) (by show eb<w5.heap.size;omega)).trans EB_3,(b6.cell (p:=⟨_,_,none⟩) (by show gr<w5.heap.size;omega)).trans c0,(b6.cell (p:=⟨_,_,none⟩) (by show gr<w5.heap.size;omega)).trans c1,(b6.cell (p:=⟨_,_,none⟩) (by show gr<w5.heap.size;omega)).trans c2,(b6.cell (p:=⟨_,_,none⟩) (by show gr<w5.heap.size;omega)).trans c3,(b6.cell (p:=⟨_,_,none⟩) (by show gr<w5.heap.size;omega)).trans c4,(b6.cell (p:=⟨_,_,none⟩) (by show gr<w5.heap.size;omega)).trans c5,(b6.cell (p:=⟨_,_,none⟩) (by show gr<w5.heap.size;omega)).trans c6,(b6.cell (p:=⟨_,_,none⟩) (by show gr<w5.heap.size;omega)).trans c7⟩
    clear hK K
    try simp only [pS]
    refine oT 14 (fun K hK=>?_)
    go_simp
    refine hK.out _ _ (fun aC=>absurd rfl aC) ?_
    clear hK K
    try simp only [pS]
    refine Cg (by kernel_rfl) ?_ _
    have b6':Below w5.heap.size w5 w6:=Aa (Below.refl _ _).drew b6
    have pG:=b6'.size
    have nE:∀ x∈Fr,w5.heap.size<=x:=nr
    have gD:∀ x∈F4,x<w5.heap.size:=Ab.ow_lt (F:=F4) (x:=⟨Zk.now,Zk.seq,Zk.shelf.set home rest,Zk.runs⟩) (s:=(⟨some ⟨g,o,none⟩,4,e1⟩,⟨some ⟨gr,orr,none⟩,m2,e2⟩)) oy4
    have oy6:Ab.ow w6 F4 ⟨Zk.now,Zk.seq,Zk.shelf.set home rest,Zk.runs⟩ (⟨some ⟨g,o,none⟩,4,e1⟩,⟨some ⟨gr,orr,none⟩,m2,e2⟩):=Ab.ow_below (F:=F4) (x:=⟨Zk.now,Zk.seq,Zk.shelf.set home rest,Zk.runs⟩) (s:=(⟨some ⟨g,o,none⟩,4,e1⟩,⟨some ⟨gr,orr,none⟩,m2,e2⟩)) oy4 b6'
    obtain ⟨F8,oy8,jW,fA⟩:=Lq oy6 (k:=j) hj (r:=Cd r t Zk.now) (sr:=sr) orn (fun x hx aY=>by have h1:=nE x hx;have h2:=gD x aY;omega)
    have gT:Chg [gr] w6 ((((((((w6.setCell ⟨gr,orr+j * 8,none⟩ (.int .i64 (Cd r t Zk.now).id)).setCell ⟨gr,orr+j * 8+1,none⟩ (.int .i64 (Cd r t Zk.now).plan.prio)).setCell ⟨gr,orr+j * 8+2,none⟩ (.int .i64 (Cd r t Zk.now).plan.most)).setCell ⟨gr,orr+j * 8+3,none⟩ (.int .i64 (Cd r t Zk.now).plan.wait)).setCell ⟨gr,orr+j * 8+4,none⟩ (.int .i64 (Cd r t Zk.now).plan.tasks)).setCell ⟨gr,orr+j * 8+5,none⟩ (.slice sr.1.a sr.1.n sr.1.c)).setCell ⟨gr,orr+j * 8+6,none⟩ (.int .i64 (Cd r t Zk.now).state)).setCell ⟨gr,orr+j * 8+7,none⟩ (.slice sr.2.a sr.2.n sr.2.c)):=Gk (Am.enc.cells ((Cd r t Zk.now),sr)) w6 gr (orr+j * 8)
    have eL:=Lib.hid (show ∀ x,x∈[gr]->x=gr from fun x hx=>by simpa using hx)
    have mK:=gP gr fA
    have hobgr:ob≠gr:=fun h=>by
     rcases mK with h1 | h1
     ·exact hF.out.2.1 (by rw [h];exact h1)
     ·omega
    have hebgr:eb≠gr:=fun h=>by
     rcases mK with h1 | h1
     ·have:=nX _ h1;omega
     ·omega
    have gC:w.heap.size+1+1<gr:=by
     rcases mK with h1 | h1
     ·exact hF.out.1 _ h1
     ·omega
    clear OB_0 OB_1 OB_2 OB_3 OB_l
    clear EB_0 EB_1 EB_2 EB_3 EB_l
    replace OB:=(OB.below b6').chg gT (fun hx=>hobgr (eL.out _ hx))
    replace EB:=(EB.below b6').chg gT (fun hx=>hebgr (eL.out _ hx))
    replace RES:=(RES.below b6').chg gT (fun hx=>by have:=eL.out _ hx;omega)
    replace RP:=(RP.below b6').chg gT (fun hx=>by have:=eL.out _ hx;omega)
    replace aF:=(Aa aF b6').trans (gT.below (by have:=(Aa aF b6').size;omega) (fun x hx=>by have:=eL.out _ hx;omega))
    have eR:∀ x∈F8,x∈F4\/w5.heap.size<=x:=fun x hx=>(jW x hx).imp id (fun h=>nE x h)
    clear hHeld oy4 oy6 b6 b6' nr orn gT CSt c0 c1 c2 c3 c4 c5 c6 c7 gI q0 q1 q2 q3 q4 q5 q6 q7 qf
    generalize ((((((((w6.setCell ⟨gr,orr+j * 8,none⟩ (.int .i64 (Cd r t Zk.now).id)).setCell ⟨gr,orr+j * 8+1,none⟩ (.int .i64 (Cd r t Zk.now).plan.prio)).setCell ⟨gr,orr+j * 8+2,none⟩ (.int .i64 (Cd r t Zk.now).plan.most)).setCell ⟨gr,orr+j * 8+3,none⟩ (.int .i64 (Cd r t Zk.now).plan.wait)).setCell ⟨gr,orr+j * 8+4,none⟩ (.int .i64 (Cd r t Zk.now).plan.tasks)).setCell ⟨gr,orr+j * 8+5,none⟩ (.slice sr.1.a sr.1.n sr.1.c)).setCell ⟨gr,orr+j * 8+6,none⟩ (.int .i64 (Cd r t Zk.now).state)).setCell ⟨gr,orr+j * 8+7,none⟩ (.slice sr.2.a sr.2.n sr.2.c))=w8 at *
    replace oy8:Ab.ow w8 F8 ⟨Zk.now,Zk.seq,Zk.shelf.set home rest,Zk.runs.set j (Cd r t Zk.now)⟩ (⟨some ⟨g,o,none⟩,4,e1⟩,⟨some ⟨gr,orr,none⟩,m2,e2⟩):=oy8
    have hjs:j<(Zk.runs.set j (Cd r t Zk.now)).length:=by rw [List.length_set];exact hj
    have oyk:=oy8
    obtain ⟨G1,G2,rR,_,_,os8⟩:=oyk
    obtain ⟨⟨sx1,⟨tva,tn2,tc2⟩⟩,Fx,hxo,aY,_,_,_,mR⟩:=OwL.elem (show OwL Am w8 G2 (.slice (some ⟨gr,orr,none⟩) m2 e2) (Zk.runs.set j (Cd r t Zk.now)) from os8) hjs
    have cT:w8.cell? ⟨gr,orr+j * 8+7,none⟩=some (.slice tva tn2 tc2):=mR 7 _ rfl
    rw [List.getElem_set_self] at hxo
    obtain ⟨H1,H2,hHH,_,_,ot8⟩:=hxo
    have oh8:=Ku (show OwL Cv w8 H2 (.slice tva tn2 tc2) (Cd r t Zk.now).tasks from ot8)
    have hgr8:gr<w8.heap.size:=by have:=Ab.ow_lt (F:=F8) (x:=⟨Zk.now,Zk.seq,Zk.shelf.set home rest,Zk.runs.set j (Cd r t Zk.now)⟩) (s:=(⟨some ⟨g,o,none⟩,4,e1⟩,⟨some ⟨gr,orr,none⟩,m2,e2⟩)) oy8 gr (by rw [rR];exact List.mem_append_right _ (OwL.block_mem (show OwL Am w8 G2 (.slice (some ⟨gr,orr,none⟩) m2 e2) _ from os8) (Nat.lt_of_le_of_lt (Nat.zero_le _) hjs)));exact this
    have htn2:tn2=r.tasks.length:=(RdL.at1 (s:=⟨tva,tn2,tc2⟩) (show OwL Cv w8 H2 (.slice tva tn2 tc2) (Cd r t Zk.now).tasks from ot8).rd).trans (Kx _ _ _)
    have jR:(t:Int)<(tn2:Int):=by omega
    have fZ:(0:Int)<=(t:Int):=by omega
    have hts:t<(Cd r t Zk.now).tasks.length:=by rw [Kx];exact eI
    obtain ⟨gt,ot2,rfl,hgt,-,-,cY,-⟩:=oh8.rd.tsk hts
    have hgtF:gt∈F8:=by
     have h1:=(oh8.block (by omega)).1
     rw [rR]
     refine List.mem_append_right _ (aY _ ?_)
     rw [hHH,h1]
     exact List.mem_append_right _ (List.mem_singleton.2 rfl)
    have hty:=Y1 r t Zk.now eI
    rw [hty] at cY
    have hobw8:ob<w8.heap.size:=OB.lt
    have hebw8:eb<w8.heap.size:=EB.lt
    have en1:w.heap.size+1∉F8:=fun hx=>by
     rcases eR _ hx with h | h
     ·rcases gP _ h with h1 | h1
      ·have:=hF.out.1 _ h1;omega
      ·omega
     ·omega
    have en2:w.heap.size+1+1∉F8:=fun hx=>by
     rcases eR _ hx with h | h
     ·rcases gP _ h with h1 | h1
      ·have:=hF.out.1 _ h1;omega
      ·omega
     ·omega
    have mG:∀ x∈F8,w.heap.size<=x:=fun x hx=>by
     rcases eR _ hx with h | h
     ·rcases gP _ h with h1 | h1
      ·have:=hF.out.1 _ h1;omega
      ·omega
     ·omega
    have HFF:=Lib.hid (show Gs y (wk:Int) d=((⟨Zk.now,Zk.seq,Zk.shelf.set home rest,Zk.runs.set j (Cd r t Zk.now)⟩:Yard),(⟨0,rn,t,r.tasks[t].try_+1⟩:Reply)) by rw [HF.out,rI])
    have gn1:gt≠w.heap.size+1:=fun h=>en1 (by rw [<-h];exact hgtF)
    have gn2:gt≠w.heap.size+1+1:=fun h=>en2 (by rw [<-h];exact hgtF)
    clear HF hty gP eR jW nE gD eQ uH nX rI
    go_wp2
    refine Go.wp_region_noPanic ?_
    refine wp_region_held_drew (S:=(fun w'=>DBox ob [.int .i64 Zk.now,.int .i64 Zk.seq,.slice (some ⟨g,o,none⟩) 4 e1,.slice (some ⟨gr,orr,none⟩) m2 e2] w'/\DBox eb [.int .i64 pr,.int .i64 sq,.int .i64 rn,.int .i64 (t:Int)] w'/\w'.cell? ⟨gr,orr+j * 8+7,none⟩=some (.slice (some ⟨gt,ot2,none⟩) tn2 tc2)/\w'.cell? ⟨gt,ot2+t * 4+2,none⟩=some (.int .i64 (r.tasks[t].try_+1)))) (by kernel_rfl) ⟨DBox.drew4 OB,DBox.drew4 EB,cT,cY⟩ (fun hHeld=>?_)
    replace oy8:Ab.ow w8.drew F8 ⟨Zk.now,Zk.seq,Zk.shelf.set home rest,Zk.runs.set j (Cd r t Zk.now)⟩ (⟨some ⟨g,o,none⟩,4,e1⟩,⟨some ⟨gr,orr,none⟩,m2,e2⟩):=Ab.ow_below (F:=F8) (x:=⟨Zk.now,Zk.seq,Zk.shelf.set home rest,Zk.runs.set j (Cd r t Zk.now)⟩) (s:=(⟨some ⟨g,o,none⟩,4,e1⟩,⟨some ⟨gr,orr,none⟩,m2,e2⟩)) oy8 (Below.refl _ _).drew
    replace RES:DBox _ _ w8.drew:=DBox.drew4 RES
    replace RP:DBox _ _ w8.drew:=DBox.drew4 RP
    replace aF:=aF.drew
    have nW:w8.drew.heap.size=w8.heap.size:=rfl
    rw [<-nW] at hgr8 hgt
    clear OB EB cT cY nW oh8 ot8 mR aY os8 hobw8 hebw8 hgtF
    generalize w8.drew=w8d at *
    refine tV 0 ?_
    (try simp only [pS])
    refine tV 1 ?_
    (try simp only [pS])
    refine tV 2 ?_
    (try simp only [pS])
    refine tV 3 ?_
    (try simp only [pS])
    refine tV 4 ?_
    (try simp only [pS])
    refine tV 5 ?_
    (try simp only [pS])
    refine tV 6 ?_
    (try simp only [pS])
    refine tV 7 ?_
    (try simp only [pS])
    refine tV 8 ?_
    (try simp only [pS])
    refine tV 9 ?_
    (try simp only [pS])
    refine tV 10 ?_
    (try simp only [pS])
    refine tV 11 ?_
    (try simp only [pS])
    refine tV 12 ?_
    (try simp only [pS])
    refine tV 13 ?_
    (try simp only [pS])
    refine tV 14 ?_
    (try simp only [pS])
    refine tV 15 ?_
    (try simp only [pS])
    refine tV 16 ?_
    (try simp only [pS])
    have RES_0:=RES.cell 0 _ rfl
    have RES_1:=RES.cell 1 _ rfl
    have RES_2:=RES.cell 2 _ rfl
    have RES_3:=RES.cell 3 _ rfl
    have RP_0:=RP.cell 0 _ rfl
    have RP_1:=RP.cell 1 _ rfl
    have RP_2:=RP.cell 2 _ rfl
    have RP_3:=RP.cell 3 _ rfl
    have rf:=RES.free
    have pf:=RP.free
    have cM:=Lib.hid (show ∀ x,x∈[w.heap.size+1]->x=w.heap.size+1 from fun x hx=>by simpa using hx)
    have hm2':=Lib.hid (show ∀ x,x∈[w.heap.size+1+1]->x=w.heap.size+1+1 from fun x hx=>by simpa using hx)
    have eS:=Chg.cells4 w8d (w.heap.size+1) 0 1 2 3 (.int .i64 Zk.now) (.int .i64 Zk.seq) (.slice (some ⟨g,o,none⟩) 4 e1) (.slice (some ⟨gr,orr,none⟩) m2 e2)
    refine rC 17 (fun K_ hK=>?_)
    go_simp
    have hS1:=eS.size
    have RES2:=DBox.row4 RES rfl (.int .i64 Zk.now) (.int .i64 Zk.seq) (.slice (some ⟨g,o,none⟩) 4 e1) (.slice (some ⟨gr,orr,none⟩) m2 e2)
    have RP2:=RP.chg eS (fun hx=>by have:=cM.out _ hx;omega)
    replace oy8:Ab.ow _ F8 ⟨Zk.now,Zk.seq,Zk.shelf.set home rest,Zk.runs.set j (Cd r t Zk.now)⟩ (⟨some ⟨g,o,none⟩,4,e1⟩,⟨some ⟨gr,orr,none⟩,m2,e2⟩):=Ab.ow_chg (F:=F8) (x:=⟨Zk.now,Zk.seq,Zk.shelf.set home rest,Zk.runs.set j (Cd r t Zk.now)⟩) (s:=(⟨some ⟨g,o,none⟩,4,e1⟩,⟨some ⟨gr,orr,none⟩,m2,e2⟩)) oy8 eS (fun x hx hx2=>by have h1:=cM.out _ hx2;subst h1;exact en1 hx)
    replace aF:=aF.trans (eS.below (by have:=aF.size;omega) (fun x hx=>by have:=cM.out _ hx;omega))
    refine hK.out _ _ ⟨hHeld.1.chg eS (fun hx=>by have:=cM.out _ hx;omega),hHeld.2.1.chg eS (fun hx=>by have:=cM.out _ hx;omega),(eS.cell (p:=⟨gr,_,none⟩) (by show gr<w8d.heap.size;omega) (fun hx=>by have:gr=w.heap.size+1:=cM.out _ hx;omega)).trans hHeld.2.2.1,(eS.cell (p:=⟨gt,_,none⟩) (by show gt<w8d.heap.size;omega) (fun hx=>by have:gt=w.heap.size+1:=cM.out _ hx;omega)).trans hHeld.2.2.2⟩ (fun hHeld=>?_)
    clear hK K_ rf pf RES_0 RES_1 RES_2 RES_3 RP_0 RP_1 RP_2 RP_3 eS
    (try simp only [pS])
    generalize (((w8d.setCell ⟨w.heap.size+1,0,none⟩ (.int .i64 Zk.now)).setCell ⟨w.heap.size+1,1,none⟩ (.int .i64 Zk.seq)).setCell ⟨w.heap.size+1,2,none⟩ (.slice (some ⟨g,o,none⟩) 4 e1)).setCell ⟨w.heap.size+1,3,none⟩ (.slice (some ⟨gr,orr,none⟩) m2 e2)=w9 at *
    have RP_0:=RP2.cell 0 _ rfl
    have RP_1:=RP2.cell 1 _ rfl
    have RP_2:=RP2.cell 2 _ rfl
    have RP_3:=RP2.cell 3 _ rfl
    have pf:=RP2.free
    have fQ:=Chg.cells4 w9 (w.heap.size+1+1) 0 1 2 3 (.int .i64 0) (.int .i64 rn) (.int .i64 (t:Int)) (.int .i64 (r.tasks[t].try_+1))
    refine rC 18 (fun K_ hK=>?_)
    go_simp
    refine hK.out _ _ ⟨hHeld.1.chg fQ (fun hx=>by have:=hm2'.out _ hx;omega),hHeld.2.1.chg fQ (fun hx=>by have:=hm2'.out _ hx;omega),(fQ.cell (p:=⟨gr,_,none⟩) (by show gr<w9.heap.size;have:=hS1;omega) (fun hx=>by have:gr=w.heap.size+1+1:=hm2'.out _ hx;omega)).trans hHeld.2.2.1,(fQ.cell (p:=⟨gt,_,none⟩) (by show gt<w9.heap.size;have:=hS1;omega) (fun hx=>by have:gt=w.heap.size+1+1:=hm2'.out _ hx;omega)).trans hHeld.2.2.2⟩ (fun hHeld=>?_)
    clear hK K_ hHeld
    (try simp only [pS])
    refine wpAnyH_done (by kernel_rfl) ?_ _
    refine NoPanic.normal ?_
    have RES3:=RES2.chg fQ (fun hx=>by have:=hm2'.out _ hx;omega)
    have RP3:=DBox.row4 RP2 rfl (.int .i64 0) (.int .i64 rn) (.int .i64 (t:Int)) (.int .i64 (r.tasks[t].try_+1))
    replace oy8:Ab.ow _ F8 ⟨Zk.now,Zk.seq,Zk.shelf.set home rest,Zk.runs.set j (Cd r t Zk.now)⟩ (⟨some ⟨g,o,none⟩,4,e1⟩,⟨some ⟨gr,orr,none⟩,m2,e2⟩):=Ab.ow_chg (F:=F8) (x:=⟨Zk.now,Zk.seq,Zk.shelf.set home rest,Zk.runs.set j (Cd r t Zk.now)⟩) (s:=(⟨some ⟨g,o,none⟩,4,e1⟩,⟨some ⟨gr,orr,none⟩,m2,e2⟩)) oy8 fQ (fun x hx hx2=>by have h1:=hm2'.out _ hx2;subst h1;exact en2 hx)
    replace aF:=aF.trans (fQ.below (by have:=aF.size;omega) (fun x hx=>by have:=hm2'.out _ hx;omega))
    clear RP_0 RP_1 RP_2 RP_3 pf
    go_wp2
    exact bodyPost_ret (N0 RES3 RP3) rfl ⟨(⟨some ⟨g,o,none⟩,4,e1⟩,⟨some ⟨gr,orr,none⟩,m2,e2⟩),F8,by rw [HFF.out],by rw [HFF.out];exact oy8,mG,aF⟩
end Go.Proofs.YtonlnjdempbfoaaGreat
