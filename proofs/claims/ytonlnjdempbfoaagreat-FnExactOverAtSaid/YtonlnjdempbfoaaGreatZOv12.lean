/-
  Forget of the reference. Written by program (kzc.py). LateOf of the reference. Written by program (kz.py). Cancel of the reference. Written by program (ky.py). 
-/
import Derived.Test.YtonlnjdempbfoaaGreatZOv0
import Derived.Test.YtonlnjdempbfoaaGreatZOv5
import Derived.Test.YtonlnjdempbfoaaGreatZOv7
import Derived.Test.YtonlnjdempbfoaaGreatZOv8
import Derived.Test.YtonlnjdempbfoaaGreatZOv9
import Derived.Test.YtonlnjdempbfoaaGreatZOv10
import Derived.Test.YtonlnjdempbfoaaGreatZOv11
namespace Go.Proofs.YtonlnjdempbfoaaGreat
open Go.RowKit
set_option maxRecDepth 100000
set_option maxHeartbeats 4000000
set_option linter.unusedVariables false
set_option linter.unusedSimpArgs false
section
theorem Abq {y:Yard} {w:World} {F:List Nat} {s1:Sl} {g o n c:Nat} (h:Ab.ow w F y (s1,⟨some ⟨g,o,none⟩,n,c⟩)) {k:Nat} (hk:k<y.runs.length) :
  ∃ rs:List (Run×(Sl×Sl)),rs.length=n/\rs.length<=c/\n=y.runs.length/\Rd Am.enc w w.heap.size (.slice (some ⟨g,o,none⟩) n c) rs /\
   ∀ (E:TypeId) (w8:World) (A9:Option Addr) (n9 c9:Nat),Below w.heap.size w w8->Ow Am.enc E w8 w.heap.size (.slice A9 n9 c9) (rs.take k ++ rs.drop (k+1)) ->
    ∃ F8,Ab.ow w8 F8 ⟨y.now,y.seq,y.shelf,y.runs.take k ++ y.runs.drop (k+1)⟩ (s1,⟨A9,n9,c9⟩) /\ ∀ x∈F8,x∈F\/w.heap.size<=x:=by
 obtain ⟨F1,F2,rfl,bK,os,orr⟩:=h
 replace os:OwL (Dt.list Af) w F1 s1.v y.shelf:=os
 replace orr:OwL Am w F2 (.slice (some ⟨g,o,none⟩) n c) y.runs:=orr
 have hn:n=y.runs.length:=RdL.at1 (s:=⟨some ⟨g,o,none⟩,n,c⟩) orr.rd
 have cH:=orr.lt
 obtain ⟨rs,Hh,G,hm,hh,hG,rfl,pT⟩:=orr
 have bR:rs.length=y.runs.length:=by have:=congrArg List.length hm;rw [List.length_map] at this;exact this
 obtain ⟨G1,G2,rfl,hGa,kM⟩:=hG.split k (by omega)
 rw [List.drop_eq_getElem_cons (show k<rs.length by omega)] at kM
 obtain ⟨Gx,G3,rfl,_,hGc⟩:=kM.head
 refine ⟨rs,by omega,hh.rd.cap,hn,hh.rd,fun E w8 A9 n9 c9 hb ho=>?_⟩
 obtain ⟨h5,h6⟩:=Hw.of_ow ho
 have hnG2:=(List.nodup_append.1 pT).2.1
 have hG13:(G1 ++ G3).Nodup:=by
  rw [List.nodup_append] at hnG2 ⊢
  refine ⟨hnG2.1,(List.nodup_append.1 hnG2.2.1).2.1,fun a ha b bG=>hnG2.2.2 a ha b (List.mem_append_right _ bG)⟩
 have hGsub:∀ x∈G1 ++ G3,x∈Hh ++ (G1 ++ (Gx ++ G3)):=fun x hx=>by
  rcases List.mem_append.1 hx with h | h
  ·exact List.mem_append_right _ (List.mem_append_left _ h)
  ·exact List.mem_append_right _ (List.mem_append_right _ (List.mem_append_right _ h))
 refine ⟨F1 ++ (Cm (.slice A9 n9 c9) (rs.take k ++ rs.drop (k+1)).length ++ (G1 ++ G3)),⟨F1,_,rfl,?_,os.below hb,⟨rs.take k ++ rs.drop (k+1),_,G1 ++ G3,?_,h5,(hGa.append hGc).bel hb,rfl,?_⟩⟩,fun x hx=>?_⟩
 ·rw [List.nodup_append]
  refine ⟨os.nodup,?_,fun a ha b bG e=>?_⟩
  ·rw [List.nodup_append]
   refine ⟨Hr _ _,hG13,fun a ha b bG e=>?_⟩
   subst e
   have:=h6 a ha
   have:=cH a (hGsub a bG)
   omega
  ·subst e
   rcases List.mem_append.1 bG with h | h
   ·have:=h6 a h;have:=os.lt a ha;omega
   ·exact (List.nodup_append.1 bK).2.2 a ha a (hGsub a h) rfl
 ·rw [List.map_append,List.map_take,List.map_drop,hm]
 ·rw [List.nodup_append]
  refine ⟨Hr _ _,hG13,fun a ha b bG e=>?_⟩
  subst e
  have:=h6 a ha
  have:=cH a (hGsub a bG)
  omega
 ·rcases List.mem_append.1 hx with h | h
  ·exact .inl (List.mem_append_left _ h)
  ·rcases List.mem_append.1 h with h | h
   ·exact .inr (h6 x h)
   ·exact .inl (List.mem_append_right _ (hGsub x h))
theorem Ls (f:List Entry->List Entry) {l:List (List Entry)} {k:Nat} (hk:k<l.length):((l.take k).map f ++ l.drop k).set k (f l[k])=(l.take (k+1)).map f ++ l.drop (k+1):=by
 rw [List.drop_eq_getElem_cons hk,List.set_append_right _ _ (by simp;omega)]
 rw [show k - ((l.take k).map f).length=0 by simp;omega,List.set_cons_zero,List.take_succ_eq_append_getElem hk,List.map_append,List.append_assoc]
 rfl
theorem Se (f:List Entry->List Entry) {l:List (List Entry)} {k:Nat} (hk:k<l.length) (h:k<((l.take k).map f ++ l.drop k).length):((l.take k).map f ++ l.drop k)[k]=l[k]:=by
 rw [List.getElem_append_right (by simp;omega)]
 simp [Nat.min_eq_left (Nat.le_of_lt hk)]
open Classical in
noncomputable def Fo (y:Yard) (id:Int):Int :=
 if ¬ Bq y then 8 else if Bo y id<0 then 10 else if (H8 y id).state=1 then 13 else 0
def Bi (id:Int) (l:List Entry):List Entry:=l.filter fun e=>e.run != id
noncomputable def Fq (y:Yard) (id:Int):Yard:=if Fo y id=0 then ⟨y.now,y.seq,y.shelf.map (Bi id),y.runs.take (Bo y id).toNat ++ y.runs.drop ((Bo y id).toNat+1)⟩ else y
theorem Jr {b:Nat} {w:World} {u0 u1 u2 u3:Value} (X:DBox b [u0,u1,u2,u3] w) {v0 v1 v2 v3 v5:Value} {rest:List Value} :
  (results Tryz.f149 (v0 :: v1 :: v2 :: v3 :: .pointer (some ⟨b,0,none⟩) :: v5 :: rest).toArray).run Tryz.prog w = .ok (.tuple #[.agg #[u0,u1,u2,u3],v5]) w:=by
 have c0:=X.cell 0 _ rfl
 have c1:=X.cell 1 _ rfl
 have c2:=X.cell 2 _ rfl
 have c3:=X.cell 3 _ rfl
 simp [results,Tryz.results149,go_sem,c0,c1,c2,c3]
theorem Sf (y:Yard) (s:Sl×Sl) (id:Int) (w:World) (hl:Ai y<=2000000) (h:Ab.rd w w.heap.size y s) :
  Calls Tryz.prog 149 #[By y s,.int .i64 id] w (Fn (Fq y id) (Fo y id) w):=by
 have HR:=Lib.hid (show ∀ W,Below w.heap.size w W->Ab.rd W W.heap.size y s from fun W hW=>Ab.rd_more (Ab.rd_below h hW) hW.size)
 obtain ⟨⟨A1,n1,c1⟩,⟨A2,n2,c2⟩⟩:=s
 have CC:=Lib.hid (fun W hW=>C9 y (⟨A1,n1,c1⟩,⟨A2,n2,c2⟩) W hl (HR.out W hW))
 have CY:=Lib.hid (fun W hW=>D7 y (⟨A1,n1,c1⟩,⟨A2,n2,c2⟩) W hl (HR.out W hW))
 have CA:=Lib.hid (fun W hW=>Cz y (⟨A1,n1,c1⟩,⟨A2,n2,c2⟩) id W hl (HR.out W hW))
 have CX:=Lib.hid (fun W hW=>show RdL Am W W.heap.size (.slice A2 n2 c2) y.runs from (HR.out W hW).2)
 clear h HR
 obtain ⟨W,aG,X,RES,B0⟩:=bx2 w 31 [.int .i64 y.now,.int .i64 y.seq,.slice A1 n1 c1,.slice A2 n2 c2] 31 [.int .i64 0,.int .i64 0,.slice none 0 0,.slice none 0 0]
 go_enter Tryz.func149,Tryz.ntmps149
 go_wp2_with fail
 rw [<-aG.out]
 clear aG
 have dM:w.heap.size+1<W.heap.size:=RES.lt
 refine (CC.out _ B0).mono ?_
 rintro e1 w1 ⟨⟨⟨B1,m1,e1⟩,⟨B2,m2,e2⟩⟩,F,rfl,oy,nF,b1⟩
 have bJ:=b1.size
 have cH:=Ab.ow_lt (F:=F) (x:=y) (s:=(⟨B1,m1,e1⟩,⟨B2,m2,e2⟩)) oy
 replace X:=X.below b1
 replace RES:=RES.below b1
 replace B0:=Aa B0 b1
 clear b1
 go_upto_region 2 with fail
 have OB:=DBox.new 31 [.int .i64 y.now,.int .i64 y.seq,.slice B1 m1 e1,.slice B2 m2 e2] w1 (b:=w1.heap.size) rfl
 have b2:Below w1.heap.size w1 (w1.alloc (.cells #[.int .i64 y.now,.int .i64 y.seq,.slice B1 m1 e1,.slice B2 m2 e2] 31)):=(Below.refl _ _).alloc (Nat.le_refl _) _
 replace X:=X.below b2
 replace RES:=RES.below b2
 replace oy:=Ab.ow_below (F:=F) (x:=y) (s:=(⟨B1,m1,e1⟩,⟨B2,m2,e2⟩)) oy b2
 replace B0:=Aa B0 b2
 have ow1:=OB.lt
 clear b2
 generalize w1.alloc (.cells #[.int .i64 y.now,.int .i64 y.seq,.slice B1 m1 e1,.slice B2 m2 e2] 31)=w2 at *
 generalize cJ:w1.heap.size=ob at *
 obtain ⟨X_0,X_1,X_2,X_3,X_l⟩:=X.g4
 obtain ⟨OB_0,OB_1,OB_2,OB_3,OB_l⟩:=OB.g4
 go_wp2_with fail
 refine (CA.out _ B0).mono ?_
 rintro e1 w3 ⟨rfl,b3⟩
 clear X_0 X_1 X_2 X_3 X_l
 clear OB_0 OB_1 OB_2 OB_3 OB_l
 replace X:=X.below b3
 replace OB:=OB.below b3
 replace RES:=RES.below b3
 replace oy:Ab.ow w3 F y (⟨B1,m1,e1⟩,⟨B2,m2,e2⟩):=Ab.ow_below (F:=F) (x:=y) (s:=(⟨B1,m1,e1⟩,⟨B2,m2,e2⟩)) oy b3
 replace B0:=Aa B0 b3
 clear b3
 obtain ⟨X_0,X_1,X_2,X_3,X_l⟩:=X.g4
 obtain ⟨OB_0,OB_1,OB_2,OB_3,OB_l⟩:=OB.g4
 go_wp2_with fail
 refine (CY.out _ B0).mono ?_
 rintro e1 w4 ⟨rfl,b4⟩
 clear X_0 X_1 X_2 X_3 X_l
 clear OB_0 OB_1 OB_2 OB_3 OB_l
 replace X:=X.below b4
 replace OB:=OB.below b4
 replace RES:=RES.below b4
 replace oy:Ab.ow w4 F y (⟨B1,m1,e1⟩,⟨B2,m2,e2⟩):=Ab.ow_below (F:=F) (x:=y) (s:=(⟨B1,m1,e1⟩,⟨B2,m2,e2⟩)) oy b4
 replace B0:=Aa B0 b4
 clear b4
 obtain ⟨X_0,X_1,X_2,X_3,X_l⟩:=X.g4
 obtain ⟨OB_0,OB_1,OB_2,OB_3,OB_l⟩:=OB.g4
 by_cases p0:Bq y
 case neg =>
  rw [Al p0]
  have H:=Lib.hid (show Fo y id=8 by unfold Fo;rw [if_pos p0])
  have H2:=Lib.hid (show Fq y id=y by unfold Fq;rw [H.out,if_neg (by decide)])
  obtain ⟨RES_0,RES_1,RES_2,RES_3,RES_l⟩:=RES.g4
  have rf:=RES.free
  go_wp2
  have en1:w.heap.size+1∉F:=fun hx=>by have:=nF _ hx;omega
  refine bodyPost_ret (Jr (DBox.row4 RES rfl _ _ _ _)) rfl ⟨(⟨B1,m1,e1⟩,⟨B2,m2,e2⟩),F,by rw [H.out,H2.out],by rw [H2.out];exact (by (repeat (refine Dt.ow_set Ab ?_ en1 _));exact (show Ab.ow _ F y (⟨B1,m1,e1⟩,⟨B2,m2,e2⟩) from oy)),fun x hx=>by have:=nF x hx;omega,?_⟩
  repeat (first | (with_reducible exact B0) | refine Below.setCell ?_ (by simp<;>omega) _)
 rw [Bs p0]
 have P0:=Lib.hid p0
 clear p0
 by_cases p1:Bo y id<0
 case pos =>
  have H:=Lib.hid (show Fo y id=10 by unfold Fo;rw [if_neg (fun h=>h P0.out),if_pos p1])
  have H2:=Lib.hid (show Fq y id=y by unfold Fq;rw [H.out,if_neg (by decide)])
  obtain ⟨RES_0,RES_1,RES_2,RES_3,RES_l⟩:=RES.g4
  have rf:=RES.free
  go_wp2
  have en1:w.heap.size+1∉F:=fun hx=>by have:=nF _ hx;omega
  refine bodyPost_ret (Jr (DBox.row4 RES rfl _ _ _ _)) rfl ⟨(⟨B1,m1,e1⟩,⟨B2,m2,e2⟩),F,by rw [H.out,H2.out],by rw [H2.out];exact (by (repeat (refine Dt.ow_set Ab ?_ en1 _));exact (show Ab.ow _ F y (⟨B1,m1,e1⟩,⟨B2,m2,e2⟩) from oy)),fun x hx=>by have:=nF x hx;omega,?_⟩
  repeat (first | (with_reducible exact B0) | refine Below.setCell ?_ (by simp<;>omega) _)
 rcases Cn y id with hr | ⟨k,hk,hr⟩
 ·exact absurd hr (by omega)
 have HK:=Lib.hid (Dr hk hr)
 have HR2:=Lib.hid hr
 rw [hr]
 clear hr p1
 have P1:=Lib.hid (show ¬ Bo y id<0 by have:=HR2.out;omega)
 have fY:(k:Int)<(n2:Int):=by have:=RdL.at1 (s:=⟨A2,n2,c2⟩) (CX.out _ B0);dsimp only at this;omega
 have dG:(0:Int)<=(k:Int):=by omega
 have hkn:¬ (k:Int)<0:=by omega
 obtain ⟨gx,ox,_,rfl,jZ,_,c0,c1_,c2_,c3_,c4_,c5_,c6,c7_⟩:=(CX.out _ B0).run hk
 clear c0 c1_ c2_ c3_ c4_ c5_ c7_
 by_cases p2:y.runs[k].state=1
 case pos =>
  have q2:(y.runs[k].state == 1)=true:=by simp [p2]
  have H:=Lib.hid (show Fo y id=13 by unfold Fo;rw [if_neg (fun h=>h P0.out),if_neg P1.out,if_pos (by rw [HK.out];exact p2)])
  clear p2
  have H2:=Lib.hid (show Fq y id=y by unfold Fq;rw [H.out,if_neg (by decide)])
  obtain ⟨RES_0,RES_1,RES_2,RES_3,RES_l⟩:=RES.g4
  have rf:=RES.free
  go_wp2
  have en1:w.heap.size+1∉F:=fun hx=>by have:=nF _ hx;omega
  refine bodyPost_ret (Jr (DBox.row4 RES rfl _ _ _ _)) rfl ⟨(⟨B1,m1,e1⟩,⟨B2,m2,e2⟩),F,by rw [H.out,H2.out],by rw [H2.out];exact (by (repeat (refine Dt.ow_set Ab ?_ en1 _));exact (show Ab.ow _ F y (⟨B1,m1,e1⟩,⟨B2,m2,e2⟩) from oy)),fun x hx=>by have:=nF x hx;omega,?_⟩
  repeat (first | (with_reducible exact B0) | refine Below.setCell ?_ (by simp<;>omega) _)
 have q2:(y.runs[k].state == 1)=false:=by simp [p2]
 have H:=Lib.hid (show Fo y id=0 by unfold Fo;rw [if_neg (fun h=>h P0.out),if_neg P1.out,if_neg (by rw [HK.out];exact p2)])
 have H2:=Lib.hid (show Fq y id=⟨y.now,y.seq,y.shelf.map (Bi id),y.runs.take k ++ y.runs.drop (k+1)⟩ by unfold Fq;rw [if_pos H.out,HR2.out,Int.toNat_natCast])
 clear p2
 go_upto_region 9 with fail
 obtain ⟨gr,orr,_,rfl,dD,_⟩:=RdL.run (show RdL Am w4 w4.heap.size (.slice B2 m2 e2) y.runs from (Ab.ow_rd (F:=F) (x:=y) (s:=(⟨B1,m1,e1⟩,⟨B2,m2,e2⟩)) oy).2) hk
 obtain ⟨rs,bR,bY,eA,hrd0,kE⟩:=Abq oy hk
 have qH:y.runs.length<=8:=P0.out.2.2.2.2.2.2.1
 clear X_0 X_1 X_2 X_3 X_l
 clear X c6 q2 CC CY CA CX fY
 have fY:(k:Int)<=(m2:Int):=by omega
 have hkI1:(k:Int)+1<=(m2:Int):=by omega
 have qJ:(0:Int)<=(k:Int)+1:=by omega
 have hke:k<=e2:=by omega
 have hkeI:(k:Int)<=(e2:Int):=by omega
 have hk1e:k+1<=e2:=by omega
 have hk1eI:(k:Int)+1<=(e2:Int):=by omega
 have wr1:IntKind.i64.wrap ((k:Int)+1)=(k:Int)+1:=IntWalk.i64_in _ (by omega)
 have tn1:((k:Int)+1).toNat=k+1:=by omega
 have hob4:ob<w4.heap.size:=OB.lt
 replace eA:=Lib.hid eA
 replace bR:=Lib.hid bR
 replace kE:=Lib.hid kE
 obtain ⟨j0,bX,jz0,jz1,jz2⟩:=info_parts Jc
 have a0:=Lib.hid (show ∀ W,Below w4.heap.size w4 W->Rd Am.enc W w4.heap.size (.slice (some ⟨gr,orr,none⟩) k e2) (rs.take k) from fun W hW=>(hrd0.take (by have:=bR.out;omega) e2 hke).below hW)
 have a1:=Lib.hid (show ∀ W,Below w4.heap.size w4 W->Rd Am.enc W w4.heap.size (.slice (some ⟨gr,orr+(k+1) * 8,none⟩) (m2 - (k+1)) (e2 - (k+1))) (rs.drop (k+1)) from fun W hW=>by have h1:=(hrd0.fromL (k+1) (by have:=bR.out;omega)).below hW;rw [bR.out] at h1;exact h1)
 rcases (show k+1<e2\/e2=k+1 by omega) with hlast | hlast
 ·have hlast2:¬ e2=k+1:=by omega
  go_wp2
  have b5:Below w4.heap.size w4 w4.drew:=(Below.refl _ _).drew
  have OB5:=DBox.drew4 OB
  refine Bj (fun w'=>w'.cell? ⟨ob,3,none⟩=some (.slice (some ⟨gr,orr,none⟩) m2 e2)) 13 (by kernel_rfl) ?_ (fun hHeld=>?_)
  ·exact OB_3
  refine aT 1 hHeld ?_
  try simp only [pS]
  refine aT 2 hHeld ?_
  try simp only [pS]
  refine aT 3 hHeld ?_
  try simp only [pS]
  refine aT 4 hHeld ?_
  try simp only [pS]
  refine aT 6 hHeld ?_
  try simp only [pS]
  refine aT 7 hHeld ?_
  try simp only [pS]
  refine aT 8 hHeld ?_
  try simp only [pS]
  refine aT 9 hHeld ?_
  try simp only [pS]
  refine aT 10 hHeld ?_
  try simp only [pS]
  refine oT 0 (fun K hK=>?_)
  (go_simp;have b6:Below w4.drew.heap.size w4.drew (w4.drew.alloc (.cells #[] 89)):=(Below.refl _ _).alloc (Nat.le_refl _) _;have o6:=Ow.empty Am.enc 89 w4.drew (g:=w4.heap.size) rfl;have B6:=Aa b5 b6;have OB6:=OB5.below b6;have nJ:=b6.size)
  refine hK.out _ _ (fun _=>?_) ?_
  ·exact OB6.cell 3 _ rfl
  clear hK K
  try simp only [pS]
  refine oT 5 (fun K hK=>?_)
  (refine Dx _ Am.enc (by decide) (by rfl) (.tmp 34) (.tmp 38) (by rfl) Tryz.underlying29 bX jz0 jz1 jz2 (by rfl) (base:=w4.heap.size) (v:=.slice (some ⟨w4.heap.size,0,none⟩) 0 0) (l:=[]) (by rfl) o6 (by rfl) (a0.out _ B6) (by simp) (by have:=bR.out;rw [List.length_take];omega) (by decide) nJ ?_;intro v7 w7 o7 gg7 f7;rw [List.nil_append] at o7;have B7:Below w4.heap.size w4 w7:=B6.grown gg7 B6.size (fun g hg=>by have:=Option.some.inj (show some w4.heap.size=some g from hg);omega);have OB7:=OB6.off gg7 (fun e=>by have:=Option.some.inj (show some ob=some w4.heap.size from e);omega);have hg7s:=gg7.size)
  refine hK.out _ _ (fun _=>?_) ?_
  ·exact OB7.cell 3 _ rfl
  clear hK K
  try simp only [pS]
  refine oT 11 (fun K hK=>?_)
  (refine Dx _ Am.enc (by decide) (by rfl) (.tmp 39) (.tmp 44) (by rfl) Tryz.underlying29 bX jz0 jz1 jz2 (by rfl) (base:=w4.heap.size) (v:=v7) (l:=rs.take k) (by rfl) o7 (by rfl) (a1.out _ B7) (by have:=bR.out;have:=eA.out;rw [List.length_take];omega) (by have:=bR.out;have:=eA.out;rw [List.length_drop];omega) (by decide) B7.size ?_;intro v8 w8 o8 gg8 f8;have B8:Below w4.heap.size w4 w8:=B7.grown gg8 B7.size (fun g hg=>(o7.within g hg).1);have OB8:=OB7.off gg8 (fun e=>by have:=(o7.within _ e.symm).1;omega);obtain ⟨A9,c9,sR,-⟩:=_root_.id (Rd.of_own o8);generalize rM:(rs.take k ++ rs.drop (k+1)).length=n9 at sR;subst sR;replace rM:=Lib.hid rM;have q3:=OB8.cell 3 _ rfl;have qf:=OB8.free;have ql:=OB8.lt)
  refine hK.out _ _ (fun _=>?_) ?_
  ·exact q3
  clear hK K
  try simp only [pS]
  refine oT 12 (fun K hK=>?_)
  go_simp
  refine hK.out _ _ (fun _=>?_) ?_
  ·exact q3
  clear hK K
  try simp only [pS]
  refine oT 13 (fun K hK=>?_)
  go_simp
  refine hK.out _ _ (fun aC=>absurd rfl aC) ?_
  clear hK K
  try simp only [pS]
  refine Cg (by kernel_rfl) ?_ _
  obtain ⟨F8,oy8,jW⟩:=kE.out 89 w8 A9 n9 c9 B8 o8
  have eR:∀ x∈F8,w.heap.size+1<x/\x≠ob:=fun x hx=>by
   rcases jW x hx with h | h
   ·have h1:=nF x h;have h2:=cH x h;omega
   ·have h3:=B0.size;omega
  have OB9:DBox ob [.int .i64 y.now,.int .i64 y.seq,.slice B1 m1 e1,.slice A9 n9 c9] (w8.setCell ⟨ob,3,none⟩ (.slice A9 n9 c9)):=OB8.set 3 (by simp) _
  have RES9:=(RES.below B8).setOther (a:=⟨ob,3,none⟩) (by show w.heap.size+1≠ob;omega) (.slice A9 n9 c9)
  have oy9:Ab.ow (w8.setCell ⟨ob,3,none⟩ (.slice A9 n9 c9)) F8 ⟨y.now,y.seq,y.shelf,y.runs.take k ++ y.runs.drop (k+1)⟩ (⟨B1,m1,e1⟩,⟨A9,n9,c9⟩):=Ab.ow_set (F:=F8) (x:=⟨y.now,y.seq,y.shelf,y.runs.take k ++ y.runs.drop (k+1)⟩) (s:=(⟨B1,m1,e1⟩,⟨A9,n9,c9⟩)) oy8 (a:=⟨ob,3,none⟩) (fun hx=>(eR _ hx).2 rfl) _
  have B9:Below w.heap.size w (w8.setCell ⟨ob,3,none⟩ (.slice A9 n9 c9)):=Below.setCell (Aa B0 B8) (by show w.heap.size<=ob;omega) _
  have nV:ob<(w8.setCell ⟨ob,3,none⟩ (.slice A9 n9 c9)).heap.size:=OB9.lt
  have cM:=Lib.hid (show m1=y.shelf.length from RdL.at1 (s:=⟨B1,m1,e1⟩) (Ab.ow_rd (F:=F8) (x:=⟨y.now,y.seq,y.shelf,y.runs.take k ++ y.runs.drop (k+1)⟩) oy9).1)
  have mZ:=Lib.hid (show y.shelf.length=4 from P0.out.2.2.1)
  have gK:=Lib.hid (fun (i:Nat) (hi:i<y.shelf.length)=>(P0.out.2.2.2.1 _ (List.getElem_mem hi)).1)
  obtain ⟨i0,aP,aX,aV,aQ⟩:=info_parts Ds
  clear OB_0 OB_1 OB_2 OB_3 OB_l
  clear OB RES OB8 oy8 o8 o7 OB7 OB6 o6 OB5 b5 b6 B6 B7 hHeld q3 qf ql gg7 gg8 f7 f8 jW hrd0 a0 a1 kE oy B8 nJ hg7s
  generalize y.runs.take k ++ y.runs.drop (k+1)=RR at *
  generalize w8.setCell ⟨ob,3,none⟩ (.slice A9 n9 c9)=w9 at *
  obtain ⟨OB9_0,OB9_1,OB9_2,OB9_3,OB9_l⟩:=OB9.g4
  go_wp2
  go_loopw [8,9,10] (fun iv u1 u2 wr=>∃ (i:Nat) (F:List Nat),i<=y.shelf.length/\iv = .int .i64 i/\Hid (Ab.ow wr F ⟨y.now,y.seq,(y.shelf.take i).map (Bi id) ++ y.shelf.drop i,RR⟩ (⟨B1,m1,e1⟩,⟨A9,n9,c9⟩))/\Hid (∀ x∈F,w.heap.size+1<x/\x≠ob)/\DBox ob [.int .i64 y.now,.int .i64 y.seq,.slice B1 m1 e1,.slice A9 n9 c9] wr/\DBox (w.heap.size+1) [.int .i64 0,.int .i64 0,.slice none 0 0,.slice none 0 0] wr/\Below w.heap.size w wr/\ob<wr.heap.size) (fun i _ _ _=>y.shelf.length - (intOf i).toNat)
  case atStart=>exact ⟨0,F8,Nat.zero_le _,rfl,by show Ab.ow w9 F8 ⟨y.now,y.seq,(y.shelf.take 0).map (Bi id) ++ y.shelf.drop 0,RR⟩ (⟨B1,m1,e1⟩,⟨A9,n9,c9⟩);simpa using oy9,eR,OB9,RES9,B9,nV⟩
  case round =>
   clear OB9_0 OB9_1 OB9_2 OB9_3 OB9_l
   clear OB9 RES9 oy9 B9 nV eR
   obtain ⟨i,F,hi,rfl,oy,hF,OB,RES,hb,fR⟩:=hrel
   rename World=>wo
   have h4:=mZ.out
   replace h4:=Lib.hid h4
   have hRl9:=RES.lt
   obtain ⟨OB_0,OB_1,OB_2,OB_3,OB_l⟩:=OB.g4
   by_cases aA:i<y.shelf.length
   ·have aB:(i:Int)<(m1:Int):=by have:=cM.out;omega
    have hi00:(0:Int)<=(i:Int):=by omega
    have gJ:i<((y.shelf.take i).map (Bi id) ++ y.shelf.drop i).length:=by simp;omega
    obtain ⟨g,o,⟨xa,xn,xc⟩,rfl,fL,eN,ch⟩:=RdL.entryS (show RdL (Dt.list Af) wo wo.heap.size (.slice B1 m1 e1) ((y.shelf.take i).map (Bi id) ++ y.shelf.drop i) from (Ab.ow_rd (F:=F) (x:=⟨y.now,y.seq,(y.shelf.take i).map (Bi id) ++ y.shelf.drop i,RR⟩) oy.out).1) gJ
    rw [Se (Bi id) aA gJ] at eN
    replace eN:RdL Af wo wo.heap.size (.slice xa xn xc) y.shelf[i]:=eN
    have hxn:xn=y.shelf[i].length:=RdL.at1 (s:=⟨xa,xn,xc⟩) eN
    subst hxn
    have h80:=gK.out i aA
    have hi3:i<=3:=by have:=h4.out;omega
    have jB:∀ j,wo.frozen? ⟨g,j,none⟩=false:=by
     obtain ⟨G1,G2,_,_,os,_⟩:=oy.out
     exact OwL.free0 (show OwL (Dt.list Af) wo G1 (.slice (some ⟨g,o,none⟩) m1 e1) _ from os) (Nat.lt_of_le_of_lt (Nat.zero_le _) gJ)
    have eP:=Lib.hid (Ls (Bi id) aA)
    have q0:Below wo.heap.size wo (wo.alloc (.cells #[] 93)):=(Below.refl _ _).alloc (Nat.le_refl _) _
    have o0:=Ow.empty Az 93 wo rfl
    generalize y.shelf[i]=SH at *
    go_wp2
    go_loopw [9,10] (fun v j wr=>∃ m:Nat,m<=SH.length/\j = .int .i64 m/\Hid (Ow Az 93 wr wo.heap.size v (Bi id (SH.take m)))/\Below wo.heap.size wo wr) (fun _ j _=>SH.length - (intOf j).toNat)
    case atStart=>exact ⟨0,Nat.zero_le _,rfl,o0,q0⟩
    case round =>
     clear o0 q0
     obtain ⟨m,hm_,rfl,hO,fB⟩:=hrel
     clear OB_0 OB_1 OB_2 OB_3 OB_l
     have OB2:=OB.below fB
     obtain ⟨OB2_0,OB2_1,OB2_2,OB2_3,OB2_l⟩:=OB2.g4
     have ch2:=(fB.cell (p:=⟨g,_,none⟩) fL).trans ch
     have hwis:=fB.size
     by_cases aR:m<SH.length
     ·have hltI2:(m:Int)<(SH.length:Int):=by omega
      have kJ:(0:Int)<=(m:Int):=by omega
      obtain ⟨ge,oe,_,rfl,tQ,_,d0,d1,d2,d3⟩:=(eN.below fB).entry aR
      have Hl:=Lib.hid (show (Bi id (SH.take m)).length<=3000000 by have h1:=List.length_filter_le (fun e:Entry=>e.run != id) (SH.take m);rw [List.length_take] at h1;unfold Bi;omega)
      cases q:(SH[m].run != id)
      ·have S:=Lib.hid (show Bi id (SH.take (m+1))=Bi id (SH.take m) from Jq (p:=fun e:Entry=>e.run != id) aR q)
       go_wp2
       exact ⟨⟨m+1,by omega,by go_num,by rw [S.out];exact hO,fB⟩,by simp [intOf];omega⟩
      ·have S:=Lib.hid (show Bi id (SH.take (m+1))=Bi id (SH.take m) ++ [SH[m]] from I0 (p:=fun e:Entry=>e.run != id) aR q)
       generalize SH[m]=e9 at *
       have ha:Hid (∀ w:World,Below w.heap.size w (w.alloc (.cells #[.int .i64 e9.prio,.int .i64 e9.seq,.int .i64 e9.run,.int .i64 e9.task] 93))):=fun w=>(Below.refl _ _).alloc (Nat.le_refl _) _
       have fP:=hO.out
       go_wp2_with (at_builtin;go_loud (refine Ak _ Az (by decide) rfl (.tmp 76) (.tmp 85) rfl Tryz.underlying96 aP aX aV aQ rfl (base:=wo.heap.size) (l:=Bi id (SH.take m)) rfl (fP.below (ha.out _)) rfl (Rd.one Az _ _ e9 rfl rfl 1 (Nat.le_refl _) (Nat.lt_succ_self _)) Hl.out (by simp) (by decide) (by simp;omega) ?_);intro v5 w5 o5 g5 _)
       have eH:Below wo.heap.size wo w5:=(Aa fB (ha.out _)).grown g5 (Aa fB (ha.out _)).size (fun g hg=>by have:=fP.within _ hg;omega)
       exact ⟨⟨m+1,by omega,by go_num,by rw [S.out];exact o5,eH⟩,by simp [intOf];omega⟩
     ·have hltI2:¬ (m:Int)<(SH.length:Int):=by omega
      have cL:=hO.out
      rw [List.take_of_length_le (by omega)] at cL
      obtain ⟨⟨a8,n8,c8⟩,Ft,rfl,o9,nF9⟩:=Ez cL
      have oy2:Ab.ow wr F ⟨y.now,y.seq,(y.shelf.take i).map (Bi id) ++ y.shelf.drop i,RR⟩ (⟨some ⟨g,o,none⟩,m1,e1⟩,⟨A9,n9,c9⟩):=Ab.ow_below (F:=F) (x:=⟨y.now,y.seq,(y.shelf.take i).map (Bi id) ++ y.shelf.drop i,RR⟩) (s:=(⟨some ⟨g,o,none⟩,m1,e1⟩,⟨A9,n9,c9⟩)) oy.out fB
      have hFlt2:∀ x∈F,x<wo.heap.size:=Ab.ow_lt (F:=F) (x:=⟨y.now,y.seq,(y.shelf.take i).map (Bi id) ++ y.shelf.drop i,RR⟩) (s:=(⟨some ⟨g,o,none⟩,m1,e1⟩,⟨A9,n9,c9⟩)) oy.out
      obtain ⟨F',p1,p2,p3⟩:=Dz oy2 gJ (l:=Bi id SH) (t:=⟨a8,n8,c8⟩) o9 (fun x hx aY=>by have h1:=nF9 x hx;have h2:=hFlt2 x aY;omega)
      dsimp only at p1
      rw [eP.out] at p1
      have hgn:=hF.out g p3
      have hfg2:∀ j,wr.frozen? ⟨g,j,none⟩=false:=fun j=>(fB.frozen (p:=⟨g,j,none⟩) fL).trans (jB j)
      have OB3:=OB2.setOther (a:=⟨g,o+i,none⟩) (by show ob≠g;omega) (.slice a8 n8 c8)
      have RES3:=(RES.below fB).setOther (a:=⟨g,o+i,none⟩) (by show w.heap.size+1≠g;omega) (.slice a8 n8 c8)
      have bZ:Below w.heap.size w (wr.setCell ⟨g,o+i,none⟩ (.slice a8 n8 c8)):=Below.setCell (Aa hb fB) (by show w.heap.size<=g;omega) _
      have qL:Hid (∀ x∈F',w.heap.size+1<x/\x≠ob):=fun x hx=>by
       rcases p2 x hx with h | h
       ·exact hF.out x h
       ·have:=nF9 x h;omega
      have jK:=OB3.lt
      clear hO cL eP o9 jB
      go_wp2
      exact ⟨⟨i+1,F',by omega,by go_num,p1,qL,OB3,RES3,bZ,jK⟩,by simp [intOf];omega⟩
   ·have aB:¬ (i:Int)<(m1:Int):=by have:=cM.out;omega
    have hii:i=y.shelf.length:=by omega
    have oyz:=oy.out
    rw [List.take_of_length_le (by omega),List.drop_eq_nil_of_le (by omega),List.append_nil] at oyz
    have rf:=RES.free
    obtain ⟨RES_0,RES_1,RES_2,RES_3,RES_l⟩:=RES.g4
    clear hii oy
    go_wp2
    have en1:w.heap.size+1∉F:=fun hx=>by have:=hF.out _ hx;omega
    refine bodyPost_ret (Jr (DBox.row4 RES rfl _ _ _ _)) rfl ⟨(⟨B1,m1,e1⟩,⟨A9,n9,c9⟩),F,by rw [H.out,H2.out],by rw [H2.out];exact (by (repeat (refine Dt.ow_set Ab ?_ en1 _));exact (show Ab.ow _ F ⟨y.now,y.seq,y.shelf.map (Bi id),RR⟩ (⟨B1,m1,e1⟩,⟨A9,n9,c9⟩) from oyz)),fun x hx=>by have:=hF.out x hx;omega,?_⟩
    repeat (first | (with_reducible exact hb) | refine Below.setCell ?_ (by simp<;>omega) _)
 ·subst hlast
  have hlast3:(k:Int)<=(k:Int)+1:=by omega
  have hm2k:m2 - (k+1)=0:=by have:=bR.out;omega
  replace hm2k:=Lib.hid hm2k
  go_wp2
  have b5:Below w4.heap.size w4 w4.drew:=(Below.refl _ _).drew
  have OB5:=DBox.drew4 OB
  refine Bj (fun w'=>w'.cell? ⟨ob,3,none⟩=some (.slice (some ⟨gr,orr,none⟩) m2 (k+1))) 13 (by kernel_rfl) ?_ (fun hHeld=>?_)
  ·exact OB_3
  refine aT 1 hHeld ?_
  try simp only [pS]
  refine aT 2 hHeld ?_
  try simp only [pS]
  refine aT 3 hHeld ?_
  try simp only [pS]
  refine aT 4 hHeld ?_
  try simp only [pS]
  refine aT 6 hHeld ?_
  try simp only [pS]
  refine aT 7 hHeld ?_
  try simp only [pS]
  refine aT 8 hHeld ?_
  try simp only [pS]
  refine aT 9 hHeld ?_
  try simp only [pS]
  refine aT 10 hHeld ?_
  try simp only [pS]
  refine oT 0 (fun K hK=>?_)
  (go_simp;have b6:Below w4.drew.heap.size w4.drew (w4.drew.alloc (.cells #[] 89)):=(Below.refl _ _).alloc (Nat.le_refl _) _;have o6:=Ow.empty Am.enc 89 w4.drew (g:=w4.heap.size) rfl;have B6:=Aa b5 b6;have OB6:=OB5.below b6;have nJ:=b6.size)
  refine hK.out _ _ (fun _=>?_) ?_
  ·exact OB6.cell 3 _ rfl
  clear hK K
  try simp only [pS]
  refine oT 5 (fun K hK=>?_)
  (refine Dx _ Am.enc (by decide) (by rfl) (.tmp 34) (.tmp 38) (by rfl) Tryz.underlying29 bX jz0 jz1 jz2 (by rfl) (base:=w4.heap.size) (v:=.slice (some ⟨w4.heap.size,0,none⟩) 0 0) (l:=[]) (by rfl) o6 (by rfl) (a0.out _ B6) (by simp) (by have:=bR.out;rw [List.length_take];omega) (by decide) nJ ?_;intro v7 w7 o7 gg7 f7;rw [List.nil_append] at o7;have B7:Below w4.heap.size w4 w7:=B6.grown gg7 B6.size (fun g hg=>by have:=Option.some.inj (show some w4.heap.size=some g from hg);omega);have OB7:=OB6.off gg7 (fun e=>by have:=Option.some.inj (show some ob=some w4.heap.size from e);omega);have hg7s:=gg7.size)
  refine hK.out _ _ (fun _=>?_) ?_
  ·exact OB7.cell 3 _ rfl
  clear hK K
  try simp only [pS]
  refine oT 11 (fun K hK=>?_)
  (refine Dx _ Am.enc (by decide) (by rfl) (.tmp 39) (.tmp 44) (by rfl) Tryz.underlying29 bX jz0 jz1 jz2 (by rfl) (base:=w4.heap.size) (v:=v7) (l:=rs.take k) (by rfl) o7 (by rfl) (Rd.fromNone (B:=0) (k+1) (by have:=bR.out;have:=hm2k.out;omega) hm2k.out) (by have:=bR.out;have:=eA.out;rw [List.length_take];omega) (by have:=bR.out;have:=eA.out;rw [List.length_drop];omega) (by decide) B7.size ?_;intro v8 w8 o8 gg8 f8;have B8:Below w4.heap.size w4 w8:=B7.grown gg8 B7.size (fun g hg=>(o7.within g hg).1);have OB8:=OB7.off gg8 (fun e=>by have:=(o7.within _ e.symm).1;omega);obtain ⟨A9,c9,sR,-⟩:=_root_.id (Rd.of_own o8);generalize rM:(rs.take k ++ rs.drop (k+1)).length=n9 at sR;subst sR;replace rM:=Lib.hid rM;have q3:=OB8.cell 3 _ rfl;have qf:=OB8.free;have ql:=OB8.lt)
  refine hK.out _ _ (fun _=>?_) ?_
  ·exact q3
  clear hK K
  try simp only [pS]
  refine oT 12 (fun K hK=>?_)
  go_simp
  refine hK.out _ _ (fun _=>?_) ?_
  ·exact q3
  clear hK K
  try simp only [pS]
  refine oT 13 (fun K hK=>?_)
  go_simp
  refine hK.out _ _ (fun aC=>absurd rfl aC) ?_
  clear hK K
  try simp only [pS]
  refine Cg (by kernel_rfl) ?_ _
  obtain ⟨F8,oy8,jW⟩:=kE.out 89 w8 A9 n9 c9 B8 o8
  have eR:∀ x∈F8,w.heap.size+1<x/\x≠ob:=fun x hx=>by
   rcases jW x hx with h | h
   ·have h1:=nF x h;have h2:=cH x h;omega
   ·have h3:=B0.size;omega
  have OB9:DBox ob [.int .i64 y.now,.int .i64 y.seq,.slice B1 m1 e1,.slice A9 n9 c9] (w8.setCell ⟨ob,3,none⟩ (.slice A9 n9 c9)):=OB8.set 3 (by simp) _
  have RES9:=(RES.below B8).setOther (a:=⟨ob,3,none⟩) (by show w.heap.size+1≠ob;omega) (.slice A9 n9 c9)
  have oy9:Ab.ow (w8.setCell ⟨ob,3,none⟩ (.slice A9 n9 c9)) F8 ⟨y.now,y.seq,y.shelf,y.runs.take k ++ y.runs.drop (k+1)⟩ (⟨B1,m1,e1⟩,⟨A9,n9,c9⟩):=Ab.ow_set (F:=F8) (x:=⟨y.now,y.seq,y.shelf,y.runs.take k ++ y.runs.drop (k+1)⟩) (s:=(⟨B1,m1,e1⟩,⟨A9,n9,c9⟩)) oy8 (a:=⟨ob,3,none⟩) (fun hx=>(eR _ hx).2 rfl) _
  have B9:Below w.heap.size w (w8.setCell ⟨ob,3,none⟩ (.slice A9 n9 c9)):=Below.setCell (Aa B0 B8) (by show w.heap.size<=ob;omega) _
  have nV:ob<(w8.setCell ⟨ob,3,none⟩ (.slice A9 n9 c9)).heap.size:=OB9.lt
  have cM:=Lib.hid (show m1=y.shelf.length from RdL.at1 (s:=⟨B1,m1,e1⟩) (Ab.ow_rd (F:=F8) (x:=⟨y.now,y.seq,y.shelf,y.runs.take k ++ y.runs.drop (k+1)⟩) oy9).1)
  have mZ:=Lib.hid (show y.shelf.length=4 from P0.out.2.2.1)
  have gK:=Lib.hid (fun (i:Nat) (hi:i<y.shelf.length)=>(P0.out.2.2.2.1 _ (List.getElem_mem hi)).1)
  obtain ⟨i0,aP,aX,aV,aQ⟩:=info_parts Ds
  clear OB_0 OB_1 OB_2 OB_3 OB_l
  clear OB RES OB8 oy8 o8 o7 OB7 OB6 o6 OB5 b5 b6 B6 B7 hHeld q3 qf ql gg7 gg8 f7 f8 jW hrd0 a0 a1 kE oy B8 nJ hg7s
  generalize y.runs.take k ++ y.runs.drop (k+1)=RR at *
  generalize w8.setCell ⟨ob,3,none⟩ (.slice A9 n9 c9)=w9 at *
  obtain ⟨OB9_0,OB9_1,OB9_2,OB9_3,OB9_l⟩:=OB9.g4
  go_wp2
  go_loopw [8,9,10] (fun iv u1 u2 wr=>∃ (i:Nat) (F:List Nat),i<=y.shelf.length/\iv = .int .i64 i/\Hid (Ab.ow wr F ⟨y.now,y.seq,(y.shelf.take i).map (Bi id) ++ y.shelf.drop i,RR⟩ (⟨B1,m1,e1⟩,⟨A9,n9,c9⟩))/\Hid (∀ x∈F,w.heap.size+1<x/\x≠ob)/\DBox ob [.int .i64 y.now,.int .i64 y.seq,.slice B1 m1 e1,.slice A9 n9 c9] wr/\DBox (w.heap.size+1) [.int .i64 0,.int .i64 0,.slice none 0 0,.slice none 0 0] wr/\Below w.heap.size w wr/\ob<wr.heap.size) (fun i _ _ _=>y.shelf.length - (intOf i).toNat)
  case atStart=>exact ⟨0,F8,Nat.zero_le _,rfl,by show Ab.ow w9 F8 ⟨y.now,y.seq,(y.shelf.take 0).map (Bi id) ++ y.shelf.drop 0,RR⟩ (⟨B1,m1,e1⟩,⟨A9,n9,c9⟩);simpa using oy9,eR,OB9,RES9,B9,nV⟩
  case round =>
   clear OB9_0 OB9_1 OB9_2 OB9_3 OB9_l
   clear OB9 RES9 oy9 B9 nV eR
   obtain ⟨i,F,hi,rfl,oy,hF,OB,RES,hb,fR⟩:=hrel
   rename World=>wo
   have h4:=mZ.out
   replace h4:=Lib.hid h4
   have hRl9:=RES.lt
   obtain ⟨OB_0,OB_1,OB_2,OB_3,OB_l⟩:=OB.g4
   by_cases aA:i<y.shelf.length
   ·have aB:(i:Int)<(m1:Int):=by have:=cM.out;omega
    have hi00:(0:Int)<=(i:Int):=by omega
    have gJ:i<((y.shelf.take i).map (Bi id) ++ y.shelf.drop i).length:=by simp;omega
    obtain ⟨g,o,⟨xa,xn,xc⟩,rfl,fL,eN,ch⟩:=RdL.entryS (show RdL (Dt.list Af) wo wo.heap.size (.slice B1 m1 e1) ((y.shelf.take i).map (Bi id) ++ y.shelf.drop i) from (Ab.ow_rd (F:=F) (x:=⟨y.now,y.seq,(y.shelf.take i).map (Bi id) ++ y.shelf.drop i,RR⟩) oy.out).1) gJ
    rw [Se (Bi id) aA gJ] at eN
    replace eN:RdL Af wo wo.heap.size (.slice xa xn xc) y.shelf[i]:=eN
    have hxn:xn=y.shelf[i].length:=RdL.at1 (s:=⟨xa,xn,xc⟩) eN
    subst hxn
    have h80:=gK.out i aA
    have hi3:i<=3:=by have:=h4.out;omega
    have jB:∀ j,wo.frozen? ⟨g,j,none⟩=false:=by
     obtain ⟨G1,G2,_,_,os,_⟩:=oy.out
     exact OwL.free0 (show OwL (Dt.list Af) wo G1 (.slice (some ⟨g,o,none⟩) m1 e1) _ from os) (Nat.lt_of_le_of_lt (Nat.zero_le _) gJ)
    have eP:=Lib.hid (Ls (Bi id) aA)
    have q0:Below wo.heap.size wo (wo.alloc (.cells #[] 93)):=(Below.refl _ _).alloc (Nat.le_refl _) _
    have o0:=Ow.empty Az 93 wo rfl
    generalize y.shelf[i]=SH at *
    go_wp2
    go_loopw [9,10] (fun v j wr=>∃ m:Nat,m<=SH.length/\j = .int .i64 m/\Hid (Ow Az 93 wr wo.heap.size v (Bi id (SH.take m)))/\Below wo.heap.size wo wr) (fun _ j _=>SH.length - (intOf j).toNat)
    case atStart=>exact ⟨0,Nat.zero_le _,rfl,o0,q0⟩
    case round =>
     clear o0 q0
     obtain ⟨m,hm_,rfl,hO,fB⟩:=hrel
     clear OB_0 OB_1 OB_2 OB_3 OB_l
     have OB2:=OB.below fB
     obtain ⟨OB2_0,OB2_1,OB2_2,OB2_3,OB2_l⟩:=OB2.g4
     have ch2:=(fB.cell (p:=⟨g,_,none⟩) fL).trans ch
     have hwis:=fB.size
     by_cases aR:m<SH.length
     ·have hltI2:(m:Int)<(SH.length:Int):=by omega
      have kJ:(0:Int)<=(m:Int):=by omega
      obtain ⟨ge,oe,_,rfl,tQ,_,d0,d1,d2,d3⟩:=(eN.below fB).entry aR
      have Hl:=Lib.hid (show (Bi id (SH.take m)).length<=3000000 by have h1:=List.length_filter_le (fun e:Entry=>e.run != id) (SH.take m);rw [List.length_take] at h1;unfold Bi;omega)
      cases q:(SH[m].run != id)
      ·have S:=Lib.hid (show Bi id (SH.take (m+1))=Bi id (SH.take m) from Jq (p:=fun e:Entry=>e.run != id) aR q)
       go_wp2
       exact ⟨⟨m+1,by omega,by go_num,by rw [S.out];exact hO,fB⟩,by simp [intOf];omega⟩
      ·have S:=Lib.hid (show Bi id (SH.take (m+1))=Bi id (SH.take m) ++ [SH[m]] from I0 (p:=fun e:Entry=>e.run != id) aR q)
       generalize SH[m]=e9 at *
       have ha:Hid (∀ w:World,Below w.heap.size w (w.alloc (.cells #[.int .i64 e9.prio,.int .i64 e9.seq,.int .i64 e9.run,.int .i64 e9.task] 93))):=fun w=>(Below.refl _ _).alloc (Nat.le_refl _) _
       have fP:=hO.out
       go_wp2_with (at_builtin;go_loud (refine Ak _ Az (by decide) rfl (.tmp 76) (.tmp 85) rfl Tryz.underlying96 aP aX aV aQ rfl (base:=wo.heap.size) (l:=Bi id (SH.take m)) rfl (fP.below (ha.out _)) rfl (Rd.one Az _ _ e9 rfl rfl 1 (Nat.le_refl _) (Nat.lt_succ_self _)) Hl.out (by simp) (by decide) (by simp;omega) ?_);intro v5 w5 o5 g5 _)
       have eH:Below wo.heap.size wo w5:=(Aa fB (ha.out _)).grown g5 (Aa fB (ha.out _)).size (fun g hg=>by have:=fP.within _ hg;omega)
       exact ⟨⟨m+1,by omega,by go_num,by rw [S.out];exact o5,eH⟩,by simp [intOf];omega⟩
     ·have hltI2:¬ (m:Int)<(SH.length:Int):=by omega
      have cL:=hO.out
      rw [List.take_of_length_le (by omega)] at cL
      obtain ⟨⟨a8,n8,c8⟩,Ft,rfl,o9,nF9⟩:=Ez cL
      have oy2:Ab.ow wr F ⟨y.now,y.seq,(y.shelf.take i).map (Bi id) ++ y.shelf.drop i,RR⟩ (⟨some ⟨g,o,none⟩,m1,e1⟩,⟨A9,n9,c9⟩):=Ab.ow_below (F:=F) (x:=⟨y.now,y.seq,(y.shelf.take i).map (Bi id) ++ y.shelf.drop i,RR⟩) (s:=(⟨some ⟨g,o,none⟩,m1,e1⟩,⟨A9,n9,c9⟩)) oy.out fB
      have hFlt2:∀ x∈F,x<wo.heap.size:=Ab.ow_lt (F:=F) (x:=⟨y.now,y.seq,(y.shelf.take i).map (Bi id) ++ y.shelf.drop i,RR⟩) (s:=(⟨some ⟨g,o,none⟩,m1,e1⟩,⟨A9,n9,c9⟩)) oy.out
      obtain ⟨F',p1,p2,p3⟩:=Dz oy2 gJ (l:=Bi id SH) (t:=⟨a8,n8,c8⟩) o9 (fun x hx aY=>by have h1:=nF9 x hx;have h2:=hFlt2 x aY;omega)
      dsimp only at p1
      rw [eP.out] at p1
      have hgn:=hF.out g p3
      have hfg2:∀ j,wr.frozen? ⟨g,j,none⟩=false:=fun j=>(fB.frozen (p:=⟨g,j,none⟩) fL).trans (jB j)
      have OB3:=OB2.setOther (a:=⟨g,o+i,none⟩) (by show ob≠g;omega) (.slice a8 n8 c8)
      have RES3:=(RES.below fB).setOther (a:=⟨g,o+i,none⟩) (by show w.heap.size+1≠g;omega) (.slice a8 n8 c8)
      have bZ:Below w.heap.size w (wr.setCell ⟨g,o+i,none⟩ (.slice a8 n8 c8)):=Below.setCell (Aa hb fB) (by show w.heap.size<=g;omega) _
      have qL:Hid (∀ x∈F',w.heap.size+1<x/\x≠ob):=fun x hx=>by
       rcases p2 x hx with h | h
       ·exact hF.out x h
       ·have:=nF9 x h;omega
      have jK:=OB3.lt
      clear hO cL eP o9 jB
      go_wp2
      exact ⟨⟨i+1,F',by omega,by go_num,p1,qL,OB3,RES3,bZ,jK⟩,by simp [intOf];omega⟩
   ·have aB:¬ (i:Int)<(m1:Int):=by have:=cM.out;omega
    have hii:i=y.shelf.length:=by omega
    have oyz:=oy.out
    rw [List.take_of_length_le (by omega),List.drop_eq_nil_of_le (by omega),List.append_nil] at oyz
    have rf:=RES.free
    obtain ⟨RES_0,RES_1,RES_2,RES_3,RES_l⟩:=RES.g4
    clear hii oy
    go_wp2
    have en1:w.heap.size+1∉F:=fun hx=>by have:=hF.out _ hx;omega
    refine bodyPost_ret (Jr (DBox.row4 RES rfl _ _ _ _)) rfl ⟨(⟨B1,m1,e1⟩,⟨A9,n9,c9⟩),F,by rw [H.out,H2.out],by rw [H2.out];exact (by (repeat (refine Dt.ow_set Ab ?_ en1 _));exact (show Ab.ow _ F ⟨y.now,y.seq,y.shelf.map (Bi id),RR⟩ (⟨B1,m1,e1⟩,⟨A9,n9,c9⟩) from oyz)),fun x hx=>by have:=hF.out x hx;omega,?_⟩
    repeat (first | (with_reducible exact hb) | refine Below.setCell ?_ (by simp<;>omega) _)
end
theorem Y5 (l:List Int):l.flatMap Fz.cells=l.map (Value.int .i64):=by
 induction l with
 | nil=>rfl
 | cons a l ih=>rw [List.flatMap_cons,ih];rfl
theorem Ow.intsK (w:World) (E:TypeId) (l:List Int) {cs:Array Value} (rW:cs=(l.map (Value.int .i64)).toArray) {n g base:Nat} (hn:n=l.length) (hg:g=w.heap.size) (hb:base<=w.heap.size) (hl:l.length<=1000) :
  Ow Fz E (w.alloc (.cells cs E)) base (.slice (some ⟨g,0,none⟩) n n) l:=by
 subst hn hg rW
 have:=World.ownsRow_lit (base:=base) (e:=E) (size:=Fz.sz) w (l.map (Value.int .i64)).toArray l.length hb (by simp [maxLen];omega) (by simp [Fz])
 unfold Ow
 rw [Y5]
 exact this
theorem Ui:(Tryz.prog.info? 26).map (fun i=>(i.zero,i.size,i.bytes))=some (some (.slice none 0 0),1,24):=by kernel_rfl
def N2 (y:Yard) (x:Task):Bool:=(x.state == 3) && decide (x.until_ - 1<=y.now)
def En (y:Yard) (k:Nat):Run:=y.runs.getD k Eh
theorem Cw {y:Yard} {k:Nat} (h:k<y.runs.length):En y k=y.runs[k]:=by unfold En;rw [List.getD_eq_getElem?_getD,List.getElem?_eq_getElem h];rfl
def Gw (y:Yard) (k n:Nat):List (Nat×Nat):=((List.range n).filter fun t=>N2 y (Ax (En y k) t)).map fun t=>(k,t)
def Dm (y:Yard) (k:Nat):List (Nat×Nat):=(List.range k).flatMap fun j=>Gw y j (En y j).tasks.length
def Gh (y:Yard) (p:Nat×Nat):List Int:=[(En y p.1).id,p.2,(Ax (En y p.1) p.2).try_]
theorem Sg (y:Yard) (k:Nat):Gw y k 0=[]:=rfl
theorem Uj {y:Yard} {k n:Nat} (h:N2 y (Ax (En y k) n)=true):Gw y k (n+1)=Gw y k n ++ [(k,n)]:=by
 unfold Gw
 rw [List.range_succ,List.filter_append,List.map_append]
 simp [h]
theorem N3 {y:Yard} {k n:Nat} (h:N2 y (Ax (En y k) n)=false):Gw y k (n+1)=Gw y k n:=by
 unfold Gw
 rw [List.range_succ,List.filter_append,List.map_append]
 simp [h]
theorem Nc (y:Yard) (k:Nat):Dm y (k+1)=Dm y k ++ Gw y k (En y k).tasks.length:=by
 unfold Dm
 rw [List.range_succ,List.flatMap_append]
 simp
theorem Ol (y:Yard) (k n:Nat):(Gw y k n).length<=n:=by
 unfold Gw
 rw [List.length_map]
 exact Nat.le_trans (List.length_filter_le _ _) (by simp)
theorem Jg {y:Yard} (h:∀ j,(En y j).tasks.length<=12):∀ k,(Dm y k).length<=12 * k
 | 0=>by simp [Dm]
 | k+1=>by
  rw [Nc,List.length_append]
  have h1:=Jg h k
  have h2:=Ol y k (En y k).tasks.length
  have h3:=h k
  omega
theorem Kl {y:Yard} (h:Bq y) (j:Nat):(En y j).tasks.length<=12:=by
 by_cases q:j<y.runs.length
 ·rw [Cw q]
  exact (Cb (Co h q)).2
 ·unfold En
  rw [List.getD_eq_getElem?_getD,List.getElem?_eq_none (by omega)]
  simp [Eh]
theorem Sh {y:Yard} (h:Bq y) {k t:Nat} (hk:k<y.runs.length) (ht:t<y.runs[k].tasks.length) (hs:y.runs[k].tasks[t].state=3):y.now+1<=y.runs[k].tasks[t].until_/\y.runs[k].tasks[t].until_<=1000000000:=by
 have h1:=h.2.2.2.2.2.2.2.2.1 y.runs[k] (List.getElem_mem hk) t ht
 unfold Mi at h1
 rw [Aw ht] at h1
 have h2:=h1.2 hs
 have h3:=(Co h hk).2.2.2.1 t ht
 unfold Ev Lm at h3
 rw [Aw ht] at h3
 have h4:=h3.2.2.2.1 hs
 omega
theorem Vl (y:Yard) (s:Sl×Sl) (w:World) (hl:Ai y<=2000000) (hY:Bq y) (h:Ab.rd w w.heap.size y s) :
  Calls Tryz.prog 213 #[By y s] w (Cj (Dt.list (Dt.flats Fz)) slV ((Dm y y.runs.length).map (Gh y)) w):=by
 obtain ⟨⟨A1,n1,c1⟩,⟨A2,n2,c2⟩⟩:=s
 obtain rfl:n2=y.runs.length:=RdL.at1 (s:=⟨A2,n2,c2⟩) h.2
 have CX:=Lib.hid (fun W (hW:Below w.heap.size w W)=>show RdL Am W w.heap.size (.slice A2 y.runs.length c2) y.runs from (Ab.rd_below (x:=y) (s:=(⟨A1,n1,c1⟩,⟨A2,y.runs.length,c2⟩)) h hW).2)
 have mQ:y.runs.length<=8:=hY.2.2.2.2.2.2.1
 have HP:=Lib.hid hY
 clear h hY
 obtain ⟨it,i0,z0,z1,z2⟩:=info_parts Ui
 have X:=DBox.new 31 [.int .i64 y.now,.int .i64 y.seq,.slice A1 n1 c1,.slice A2 y.runs.length c2] w (b:=w.heap.size) rfl
 have B0:Below w.heap.size w (w.alloc (.cells #[.int .i64 y.now,.int .i64 y.seq,.slice A1 n1 c1,.slice A2 y.runs.length c2] 31)):=by repeat (first | exact Below.refl _ _ | refine Below.alloc ?_ (by simp<;>omega) _)
 go_enter Tryz.func213,Tryz.ntmps213
 go_wp2
 have hWs:w.heap.size+1=(w.alloc (.cells #[.int .i64 y.now,.int .i64 y.seq,.slice A1 n1 c1,.slice A2 y.runs.length c2] 31)).heap.size:=by simp
 have o0:=Ow.empty (Dt.flats Fz).enc 26 (w.alloc (.cells #[.int .i64 y.now,.int .i64 y.seq,.slice A1 n1 c1,.slice A2 y.runs.length c2] 31)) rfl
 have b0:Below (w.alloc (.cells #[.int .i64 y.now,.int .i64 y.seq,.slice A1 n1 c1,.slice A2 y.runs.length c2] 31)).heap.size (w.alloc (.cells #[.int .i64 y.now,.int .i64 y.seq,.slice A1 n1 c1,.slice A2 y.runs.length c2] 31)) ((w.alloc (.cells #[.int .i64 y.now,.int .i64 y.seq,.slice A1 n1 c1,.slice A2 y.runs.length c2] 31)).alloc (.cells #[] 26)):=(Below.refl _ _).alloc (Nat.le_refl _) _
 replace X:=X.below b0
 replace B0:=Aa B0 b0
 rw [<-hWs] at o0
 go_loopw [3,4] (fun v i wr=>∃ k:Nat,k<=y.runs.length/\i = .int .i64 k/\Hid (Bls (Dt.flats Fz) 26 wr (w.heap.size+1) v ((Dm y k).map (Gh y)))/\DBox w.heap.size [.int .i64 y.now,.int .i64 y.seq,.slice A1 n1 c1,.slice A2 y.runs.length c2] wr/\Below w.heap.size w wr) (fun _ i _=>y.runs.length - (intOf i).toNat)
 case atStart=>exact ⟨0,Nat.zero_le _,rfl,⟨[],rfl,Bld.of_empty o0⟩,X,B0⟩
 case round =>
  clear X B0 o0 b0 hWs
  obtain ⟨k,hk,rfl,hB,X,hb⟩:=hrel
  obtain ⟨X_0,X_1,X_2,X_3,X_l⟩:=X.g4
  by_cases aA:k<y.runs.length
  ·have aB:(k:Int)<(y.runs.length:Int):=by omega
   have dG:(0:Int)<=(k:Int):=by omega
   go_wp2
   go_loopw [3,5,6] (fun vv i u wr=>∃ (n:Nat) (v:Value),n<=y.runs[k].tasks.length/\i = .int .i64 n/\v=vv/\Hid (Bls (Dt.flats Fz) 26 wr (w.heap.size+1) v ((Dm y k ++ Gw y k n).map (Gh y)))/\DBox w.heap.size [.int .i64 y.now,.int .i64 y.seq,.slice A1 n1 c1,.slice A2 y.runs.length c2] wr/\Below w.heap.size w wr) (fun _ i _ _=>y.runs[k].tasks.length - (intOf i).toNat)
   case atStart=>exact ⟨0,_,Nat.zero_le _,rfl,rfl,by rw [Sg,List.append_nil];exact hB,X,hb⟩
   case round =>
    clear X_0 X_1 X_2 X_3 X_l
    clear X hb hB
    obtain ⟨n,v,hn,rfl,rfl,hB,X,hb⟩:=hrel
    obtain ⟨b,o,⟨s1,⟨At,nt,ct⟩⟩,rfl,aH,cB,c0,c1_,c2_,c3_,c4_,c5_,c6_,c7⟩:=(CX.out wr hb).run aA
    obtain rfl:nt=y.runs[k].tasks.length:=RdL.at1 (s:=⟨At,nt,ct⟩) cB.2
    have h3:RdL Cv wr w.heap.size (.slice At y.runs[k].tasks.length ct) y.runs[k].tasks:=cB.2
    clear c1_ c2_ c3_ c4_ c5_ c6_ cB
    obtain ⟨X_0,X_1,X_2,X_3,X_l⟩:=X.g4
    have hwrs:=hb.size
    by_cases eQ:n<y.runs[k].tasks.length
    ·have eU:=(Cb (Co HP.out aA)).2
     have nR:(n:Int)<(y.runs[k].tasks.length:Int):=by omega
     have tU:(0:Int)<=(n:Int):=by omega
     obtain ⟨b',o',_,rfl,bI,_,d0,d1,d2,d3⟩:=h3.task eQ
     have hU:=Lib.hid (fun hs=>Sh HP.out aA eQ hs)
     have hJ:=Lib.hid (show Ax (En y k) n=y.runs[k].tasks[n] by rw [Cw aA,Aw eQ])
     have hRow:Hid (Gh y (k,n)=[y.runs[k].id,(n:Int),y.runs[k].tasks[n].try_]):=by
      show Gh y (k,n)=_
      unfold Gh
      rw [hJ.out,Cw aA]
     have aJ:=Lib.hid (show (Dm y k ++ Gw y k n).length<=3000000 by
      have h1:=Jg (Kl HP.out) k
      have h2:=Ol y k n
      have h5:=(Cb (Co HP.out aA)).2
      rw [List.length_append]
      omega)
     generalize y.runs[k].tasks[n]=x at *
     generalize y.runs[k].id=rid at *
     have TB:=DBox.new 138 [.int .i64 x.state,.int .i64 x.need,.int .i64 x.try_,.int .i64 x.until_] wr (b:=wr.heap.size) rfl
     have b2:Below wr.heap.size wr (wr.alloc (.cells #[.int .i64 x.state,.int .i64 x.need,.int .i64 x.try_,.int .i64 x.until_] 138)):=(Below.refl _ _).alloc (Nat.le_refl _) _
     go_upto_region 9 with fail
     clear X_0 X_1 X_2 X_3 X_l
     replace X:=X.below b2
     have aF:=Aa hb b2
     have fJ:=hB.out.below b2
     have eI:=TB.lt
     have mB:=X.lt
     replace c0:=(b2.cell (p:=⟨b,_,none⟩) (by show b<wr.heap.size;omega)).trans c0
     have hvb:=Lib.hid (show ∀ z,v.ownBlock=some z->w.heap.size+1<=z/\z≠wr.heap.size/\z≠b from fun z hz=>by
      obtain ⟨rs,hm,nT⟩:=hB.out
      have h1:=nT.ow.within z hz
      omega)
     have bN:b<(wr.alloc (.cells #[.int .i64 x.state,.int .i64 x.need,.int .i64 x.try_,.int .i64 x.until_] 138)).heap.size:=by simp;omega
     clear b2 c7 d0 d1 d2 d3 hb hB
     generalize wr.alloc (.cells #[.int .i64 x.state,.int .i64 x.need,.int .i64 x.try_,.int .i64 x.until_] 138)=w2 at *
     generalize htb:wr.heap.size=tb at *
     obtain ⟨X_0,X_1,X_2,X_3,X_l⟩:=X.g4
     obtain ⟨TB_0,TB_1,TB_2,TB_3,TB_l⟩:=TB.g4
     by_cases q:x.state=3
     case neg =>
      have q1:(x.state == 3)=false:=by simp [q]
      have S:=Lib.hid (N3 (y:=y) (k:=k) (n:=n) (by rw [hJ.out];unfold N2;rw [q1];rfl))
      clear q
      go_wp2
      exact ⟨⟨n+1,v,eQ,by go_num,rfl,by rw [S.out];exact fJ,X,aF⟩,by simp [intOf];omega⟩
     have q1:(x.state == 3)=true:=by simp [q]
     have hu:=hU.out q
     have wr1:IntKind.i64.wrap (x.until_ - 1)=x.until_ - 1:=IntWalk.i64_in _ (by have:=HP.out.1;omega)
     have q2:¬ x.until_<=y.now:=by omega
     by_cases q3:x.until_ - 1<=y.now
     case neg =>
      have S:=Lib.hid (N3 (y:=y) (k:=k) (n:=n) (by rw [hJ.out];unfold N2;rw [q1,decide_eq_false q3];rfl))
      clear q hu
      go_wp2
      exact ⟨⟨n+1,v,eQ,by go_num,rfl,by rw [S.out];exact fJ,X,aF⟩,by simp [intOf];omega⟩
     have S:=Lib.hid (Uj (y:=y) (k:=k) (n:=n) (by rw [hJ.out];unfold N2;rw [q1,decide_eq_true q3];rfl))
     clear q hu
     go_wp2
     clear TB_0 TB_1 TB_2 TB_3 TB_l
     refine Go.wp_region_noPanic ?_
     refine wp_region_held_drew (S:=(fun w'=>DBox w.heap.size [.int .i64 y.now,.int .i64 y.seq,.slice A1 n1 c1,.slice (some ⟨b,o,none⟩) y.runs.length c2] w'/\w'.cell? ⟨b,o+k * 8,none⟩=some (.int .i64 rid)/\DBox tb [.int .i64 x.state,.int .i64 x.need,.int .i64 x.try_,.int .i64 x.until_] w')) (by kernel_rfl) ⟨DBox.drew4 X,c0,DBox.drew4 TB⟩ (fun hHeld=>?_)
     have sH:=aF.drew
     have jQ:=fJ.below (Below.refl _ _).drew
     have hsd:w2.drew.heap.size=w2.heap.size:=rfl
     clear X_0 X_1 X_2 X_3 X_l
     clear X c0 TB aF fJ
     rw [<-hsd] at bN eI mB
     clear hsd
     generalize w2.drew=w3 at *
     refine tV 0 ?_
     (try simp only [pS])
     refine tV 1 ?_
     (try simp only [pS])
     refine tV 2 ?_
     (try simp only [pS])
     refine tV 3 ?_
     (try simp only [pS])
     refine tV 4 ?_
     (try simp only [pS])
     refine tV 5 ?_
     (try simp only [pS])
     refine tV 6 ?_
     (try simp only [pS])
     refine tV 7 ?_
     (try simp only [pS])
     refine tV 8 ?_
     (try simp only [pS])
     refine tV 9 ?_
     (try simp only [pS])
     refine rC 10 (fun K_ hK=>?_)
     go_simp
     have o9:=Ow.intsK w3 3 [rid,(n:Int),x.try_] (cs:=#[.int .i64 rid,.int .i64 (n:Int),.int .i64 x.try_]) rfl (n:=3) (g:=w3.heap.size) (base:=w3.heap.size) rfl rfl (Nat.le_refl _) (by simp)
     have b4:Below w3.heap.size w3 (w3.alloc (.cells #[.int .i64 rid,.int .i64 (n:Int),.int .i64 x.try_] 3)):=(Below.refl _ _).alloc (Nat.le_refl _) _
     have kV:=b4.size
     obtain ⟨hw9,hwB⟩:=Hw.of_ow o9
     refine hK.out _ _ ⟨hHeld.1.below b4,(b4.cell (p:=⟨b,_,none⟩) bN).trans hHeld.2.1,hHeld.2.2.below b4⟩ (fun hHeld=>?_)
     clear hK K_
     (try simp only [pS])
     generalize gM:w3.heap.size=g9 at *
     generalize w3.alloc (.cells #[.int .i64 rid,.int .i64 (n:Int),.int .i64 x.try_] 3)=w4 at *
     refine rC 11 (fun K_ hK=>?_)
     go_simp
     have b5:Below w4.heap.size w4 (w4.alloc (.cells #[.slice (some ⟨g9,0,none⟩) 3 3] 26)):=(Below.refl _ _).alloc (Nat.le_refl _) _
     have hbw4:b<w4.heap.size:=by omega
     refine hK.out _ _ ⟨hHeld.1.below b5,(b5.cell (p:=⟨b,_,none⟩) hbw4).trans hHeld.2.1,hHeld.2.2.below b5⟩ (fun hHeld=>?_)
     clear hK K_
     (try simp only [pS])
     obtain ⟨rs,hm,jN⟩:=jQ
     have bR:rs.length<=3000000:=by
      have h1:=congrArg List.length hm
      rw [List.length_map,List.length_map] at h1
      rw [h1]
      exact aJ.out
     have tB:=Lib.hid bR
     clear bR
     have b45:=Aa (by rw [gM];exact b4) b5
     refine rC 12 (fun K_ hK=>?_)
     refine C7 _ (Dt.flats Fz).enc (by decide) (.tmp 53) (.tmp 64) 215 rfl (w.heap.size+1) 26 _ _ _ Tryz.underlying215 i0 z0 z1 z2 rfl v rs rfl (jN.ow.below b45) _ _ _ _ [([rid,(n:Int),x.try_],(⟨some ⟨g9,0,none⟩,3,3⟩:Sl))] rfl (Rd.one (Dt.flats Fz).enc _ _ ([rid,(n:Int),x.try_],(⟨some ⟨g9,0,none⟩,3,3⟩:Sl)) rfl rfl 1 (Nat.le_refl _) (Nat.lt_succ_self _)) tB.out (by simp) (by decide) (by have:=b45.size;omega) ?_
     intro v6 w6 o6 gg f6
     have hP:=Bld.push1 (d:=Dt.flats Fz) (x:=[rid,(n:Int),x.try_]) (s:=(⟨some ⟨g9,0,none⟩,3,3⟩:Sl)) jN (by rw [gM];exact b4) hw9 (fun y hy=>by rw [gM];exact hwB y hy) (by omega) b5 o6 gg f6
     have pB:∀ z,v.ownBlock=some z->w.heap.size+1<=z/\z≠tb/\z≠b:=fun z hz=>hvb.out z hz
     have X6:=hHeld.1.off gg (fun e=>by have:=(pB _ e.symm).1;omega)
     have T6:=hHeld.2.2.off gg (fun e=>(pB _ e.symm).2.1 rfl)
     have hbw5:b<(w4.alloc (.cells #[.slice (some ⟨g9,0,none⟩) 3 3] 26)).heap.size:=by have:=b5.size;omega
     have c6:=(gg.cell_far ⟨b,o+k * 8,none⟩ hbw5 (fun e=>(pB _ e.symm).2.2 rfl)).trans hHeld.2.1
     have mC:Below w.heap.size w w6:=(Aa sH b45).grown gg (Aa sH b45).size (fun g hg=>by have:=(pB g hg).1;omega)
     have kD:(rs ++ [([rid,(n:Int),x.try_],(⟨some ⟨g9,0,none⟩,3,3⟩:Sl))]).map (·.1)=(Dm y k ++ Gw y k (n+1)).map (Gh y):=by
      simp only [List.map_append,List.map_cons,List.map_nil,hm,S.out,hRow.out,List.append_assoc]
     have hB6:Bls (Dt.flats Fz) 26 w6 (w.heap.size+1) v6 ((Dm y k ++ Gw y k (n+1)).map (Gh y)):=⟨_,kD,hP⟩
     refine hK.out _ _ ⟨X6,c6,T6⟩ (fun hHeld=>?_)
     clear hK K_
     (try simp only [pS])
     refine tV 13 ?_
     (try simp only [pS])
     refine wpAnyH_done (by kernel_rfl) ?_ _
     refine NoPanic.normal ?_
     have hB7:=Lib.hid hB6
     clear hHeld hP kD hB6 hm jN gg o6 f6 T6 c6
     go_wp2
     refine ⟨⟨n+1,eQ,by go_num,?_⟩,by simp [intOf];omega⟩
     rw [<-List.map_append]
     exact hB7
    ·have nR:¬ (n:Int)<(y.runs[k].tasks.length:Int):=by omega
     have S:=Lib.hid (show Dm y (k+1)=Dm y k ++ Gw y k n by
      rw [Nc,show (En y k).tasks.length=n by rw [Cw aA];omega])
     go_wp2
     exact ⟨⟨k+1,by omega,by go_num,by rw [S.out];exact hB,X,hb⟩,by simp [intOf];omega⟩
  ·have aB:¬ (k:Int)<(y.runs.length:Int):=by omega
   obtain rfl:k=y.runs.length:=by omega
   obtain ⟨rs,hm,nT⟩:=hB.out
   obtain ⟨F,h1,h2⟩:=nT.owl hm
   obtain ⟨A,c,hv,_⟩:=h1.form
   rw [List.length_map] at hv
   subst hv
   have dP:Cj (Dt.list (Dt.flats Fz)) slV ((Dm y y.runs.length).map (Gh y)) w (.returned (.slice A (Dm y y.runs.length).length c)) wr:=⟨⟨A,_,c⟩,F,rfl,h1,fun x hx=>by have:=h2 x hx;omega,hb⟩
   clear hB nT h1
   go_wp2
   go_ret
   exact dP
section
open Classical in
noncomputable def Fu (y:Yard) (id:Int):Int :=
 if ¬ Bq y then 8 else if Bo y id<0 then 10 else if ¬ (H8 y id).state=1 then 12 else 0
noncomputable def Fw (y:Yard) (id:Int):Yard:=if Fu y id=0 then ⟨y.now,y.seq,y.shelf,y.runs.set (Bo y id).toNat (Bz (H8 y id) 4)⟩ else y
theorem Ky {b:Nat} {w:World} {u0 u1 u2 u3:Value} (X:DBox b [u0,u1,u2,u3] w) {v0 v1 v2 v3 v5:Value} {rest:List Value} :
  (results Tryz.f148 (v0 :: v1 :: v2 :: v3 :: .pointer (some ⟨b,0,none⟩) :: v5 :: rest).toArray).run Tryz.prog w = .ok (.tuple #[.agg #[u0,u1,u2,u3],v5]) w:=by
 have c0:=X.cell 0 _ rfl
 have c1:=X.cell 1 _ rfl
 have c2:=X.cell 2 _ rfl
 have c3:=X.cell 3 _ rfl
 simp [results,Tryz.results148,go_sem,c0,c1,c2,c3]
theorem Si (y:Yard) (s:Sl×Sl) (id:Int) (w:World) (hl:Ai y<=2000000) (h:Ab.rd w w.heap.size y s) :
  Calls Tryz.prog 148 #[By y s,.int .i64 id] w (Fn (Fw y id) (Fu y id) w):=by
 have HR:=Lib.hid (show ∀ W,Below w.heap.size w W->Ab.rd W W.heap.size y s from fun W hW=>Ab.rd_more (Ab.rd_below h hW) hW.size)
 obtain ⟨⟨A1,n1,c1⟩,⟨A2,n2,c2⟩⟩:=s
 have CC:=Lib.hid (fun W hW=>C9 y (⟨A1,n1,c1⟩,⟨A2,n2,c2⟩) W hl (HR.out W hW))
 have CY:=Lib.hid (fun W hW=>D7 y (⟨A1,n1,c1⟩,⟨A2,n2,c2⟩) W hl (HR.out W hW))
 have CA:=Lib.hid (fun W hW=>Cz y (⟨A1,n1,c1⟩,⟨A2,n2,c2⟩) id W hl (HR.out W hW))
 have CX:=Lib.hid (fun W hW=>show RdL Am W W.heap.size (.slice A2 n2 c2) y.runs from (HR.out W hW).2)
 clear h HR
 obtain ⟨W,aG,X,RES,B0⟩:=bx2 w 31 [.int .i64 y.now,.int .i64 y.seq,.slice A1 n1 c1,.slice A2 n2 c2] 31 [.int .i64 0,.int .i64 0,.slice none 0 0,.slice none 0 0]
 go_enter Tryz.func148,Tryz.ntmps148
 go_wp2_with fail
 rw [<-aG.out]
 clear aG
 have dM:w.heap.size+1<W.heap.size:=RES.lt
 refine (CC.out _ B0).mono ?_
 rintro e1 w1 ⟨⟨⟨B1,m1,e1⟩,⟨B2,m2,e2⟩⟩,F,rfl,oy,nF,b1⟩
 have bJ:=b1.size
 have cH:=Ab.ow_lt (F:=F) (x:=y) (s:=(⟨B1,m1,e1⟩,⟨B2,m2,e2⟩)) oy
 replace X:=X.below b1
 replace RES:=RES.below b1
 replace B0:=Aa B0 b1
 clear b1
 go_upto_region 2 with fail
 have OB:=DBox.new 31 [.int .i64 y.now,.int .i64 y.seq,.slice B1 m1 e1,.slice B2 m2 e2] w1 (b:=w1.heap.size) rfl
 have b2:Below w1.heap.size w1 (w1.alloc (.cells #[.int .i64 y.now,.int .i64 y.seq,.slice B1 m1 e1,.slice B2 m2 e2] 31)):=(Below.refl _ _).alloc (Nat.le_refl _) _
 replace X:=X.below b2
 replace RES:=RES.below b2
 replace oy:=Ab.ow_below (F:=F) (x:=y) (s:=(⟨B1,m1,e1⟩,⟨B2,m2,e2⟩)) oy b2
 replace B0:=Aa B0 b2
 have ow1:=OB.lt
 clear b2
 generalize w1.alloc (.cells #[.int .i64 y.now,.int .i64 y.seq,.slice B1 m1 e1,.slice B2 m2 e2] 31)=w2 at *
 generalize cJ:w1.heap.size=ob at *
 obtain ⟨X_0,X_1,X_2,X_3,X_l⟩:=X.g4
 obtain ⟨OB_0,OB_1,OB_2,OB_3,OB_l⟩:=OB.g4
 go_wp2_with fail
 refine (CA.out _ B0).mono ?_
 rintro e1 w3 ⟨rfl,b3⟩
 clear X_0 X_1 X_2 X_3 X_l
 clear OB_0 OB_1 OB_2 OB_3 OB_l
 replace X:=X.below b3
 replace OB:=OB.below b3
 replace RES:=RES.below b3
 replace oy:Ab.ow w3 F y (⟨B1,m1,e1⟩,⟨B2,m2,e2⟩):=Ab.ow_below (F:=F) (x:=y) (s:=(⟨B1,m1,e1⟩,⟨B2,m2,e2⟩)) oy b3
 replace B0:=Aa B0 b3
 clear b3
 obtain ⟨X_0,X_1,X_2,X_3,X_l⟩:=X.g4
 obtain ⟨OB_0,OB_1,OB_2,OB_3,OB_l⟩:=OB.g4
 go_wp2_with fail
 refine (CY.out _ B0).mono ?_
 rintro e1 w4 ⟨rfl,b4⟩
 clear X_0 X_1 X_2 X_3 X_l
 clear OB_0 OB_1 OB_2 OB_3 OB_l
 replace X:=X.below b4
 replace OB:=OB.below b4
 replace RES:=RES.below b4
 replace oy:Ab.ow w4 F y (⟨B1,m1,e1⟩,⟨B2,m2,e2⟩):=Ab.ow_below (F:=F) (x:=y) (s:=(⟨B1,m1,e1⟩,⟨B2,m2,e2⟩)) oy b4
 replace B0:=Aa B0 b4
 clear b4
 obtain ⟨X_0,X_1,X_2,X_3,X_l⟩:=X.g4
 obtain ⟨OB_0,OB_1,OB_2,OB_3,OB_l⟩:=OB.g4
 by_cases p0:Bq y
 case neg =>
  rw [Al p0]
  have H:=Lib.hid (show Fu y id=8 by unfold Fu;rw [if_pos p0])
  have H2:=Lib.hid (show Fw y id=y by unfold Fw;rw [H.out,if_neg (by decide)])
  obtain ⟨RES_0,RES_1,RES_2,RES_3,RES_l⟩:=RES.g4
  have rf:=RES.free
  go_wp2
  have en1:w.heap.size+1∉F:=fun hx=>by have:=nF _ hx;omega
  refine bodyPost_ret (Ky (DBox.row4 RES rfl _ _ _ _)) rfl ⟨(⟨B1,m1,e1⟩,⟨B2,m2,e2⟩),F,by rw [H.out,H2.out],by rw [H2.out];exact (by (repeat (refine Dt.ow_set Ab ?_ en1 _));exact (show Ab.ow _ F y (⟨B1,m1,e1⟩,⟨B2,m2,e2⟩) from oy)),fun x hx=>by have:=nF x hx;omega,?_⟩
  repeat (first | (with_reducible exact B0) | refine Below.setCell ?_ (by simp<;>omega) _)
 rw [Bs p0]
 have P0:=Lib.hid p0
 clear p0
 by_cases p1:Bo y id<0
 case pos =>
  have H:=Lib.hid (show Fu y id=10 by unfold Fu;rw [if_neg (fun h=>h P0.out),if_pos p1])
  have H2:=Lib.hid (show Fw y id=y by unfold Fw;rw [H.out,if_neg (by decide)])
  obtain ⟨RES_0,RES_1,RES_2,RES_3,RES_l⟩:=RES.g4
  have rf:=RES.free
  go_wp2
  have en1:w.heap.size+1∉F:=fun hx=>by have:=nF _ hx;omega
  refine bodyPost_ret (Ky (DBox.row4 RES rfl _ _ _ _)) rfl ⟨(⟨B1,m1,e1⟩,⟨B2,m2,e2⟩),F,by rw [H.out,H2.out],by rw [H2.out];exact (by (repeat (refine Dt.ow_set Ab ?_ en1 _));exact (show Ab.ow _ F y (⟨B1,m1,e1⟩,⟨B2,m2,e2⟩) from oy)),fun x hx=>by have:=nF x hx;omega,?_⟩
  repeat (first | (with_reducible exact B0) | refine Below.setCell ?_ (by simp<;>omega) _)
 rcases Cn y id with hr | ⟨k,hk,hr⟩
 ·exact absurd hr (by omega)
 have HK:=Lib.hid (Dr hk hr)
 have HR2:=Lib.hid hr
 rw [hr]
 clear hr p1
 have P1:=Lib.hid (show ¬ Bo y id<0 by have:=HR2.out;omega)
 have fY:(k:Int)<(n2:Int):=by have:=RdL.at1 (s:=⟨A2,n2,c2⟩) (CX.out _ B0);dsimp only at this;omega
 have dG:(0:Int)<=(k:Int):=by omega
 have hkn:¬ (k:Int)<0:=by omega
 have bF:=Lib.hid (Co P0.out hk)
 obtain ⟨gx,ox,_,rfl,jZ,_,c0,c1_,c2_,c3_,c4_,c5_,c6,c7_⟩:=(CX.out _ B0).run hk
 clear c0 c1_ c2_ c3_ c4_ c5_ c7_
 by_cases p2:y.runs[k].state=1
 case neg =>
  have q2:(y.runs[k].state != 1)=true:=by simp [p2]
  have H:=Lib.hid (show Fu y id=12 by unfold Fu;rw [if_neg (fun h=>h P0.out),if_neg P1.out,if_pos (by rw [HK.out];exact p2)])
  clear p2
  have H2:=Lib.hid (show Fw y id=y by unfold Fw;rw [H.out,if_neg (by decide)])
  obtain ⟨RES_0,RES_1,RES_2,RES_3,RES_l⟩:=RES.g4
  have rf:=RES.free
  go_wp2
  have en1:w.heap.size+1∉F:=fun hx=>by have:=nF _ hx;omega
  refine bodyPost_ret (Ky (DBox.row4 RES rfl _ _ _ _)) rfl ⟨(⟨B1,m1,e1⟩,⟨B2,m2,e2⟩),F,by rw [H.out,H2.out],by rw [H2.out];exact (by (repeat (refine Dt.ow_set Ab ?_ en1 _));exact (show Ab.ow _ F y (⟨B1,m1,e1⟩,⟨B2,m2,e2⟩) from oy)),fun x hx=>by have:=nF x hx;omega,?_⟩
  repeat (first | (with_reducible exact B0) | refine Below.setCell ?_ (by simp<;>omega) _)
 have q2:(y.runs[k].state != 1)=false:=by simp [p2]
 have H:=Lib.hid (show Fu y id=0 by unfold Fu;rw [if_neg (fun h=>h P0.out),if_neg P1.out,if_neg (by rw [HK.out];exact fun h=>h p2)])
 have H2:=Lib.hid (show Fw y id=⟨y.now,y.seq,y.shelf,y.runs.set k (Bz y.runs[k] 4)⟩ by unfold Fw;rw [if_pos H.out,HK.out,HR2.out,Int.toNat_natCast])
 have P2:=Lib.hid p2
 clear p2
 go_upto_region 9 with fail
 have oyr:=(Ab.ow_rd (F:=F) (x:=y) (s:=(⟨B1,m1,e1⟩,⟨B2,m2,e2⟩)) oy).2
 have eA:=Lib.hid (show m2=y.runs.length from RdL.at1 (s:=⟨B2,m2,e2⟩) oyr)
 have fU:(k:Int)<(m2:Int):=by have:=eA.out;omega
 obtain ⟨gr,orr,sk,rfl,dD,cA,d0,d1,d2,d3,d4,d5,d6,d7⟩:=RdL.run (show RdL Am w4 w4.heap.size (.slice B2 m2 e2) y.runs from oyr) hk
 have gI:∀ i,w4.frozen? ⟨gr,i,none⟩=false:=by
  obtain ⟨G1,G2,_,_,_,os⟩:=oy
  exact OwL.free0 (show OwL Am w4 G2 (.slice (some ⟨gr,orr,none⟩) m2 e2) y.runs from os) (by omega)
 clear X_0 X_1 X_2 X_3 X_l
 clear X c6 q2
 generalize kZ:y.runs[k]=r at *
 have CSt:=Lib.hid (Va r sk w4.drew (by have:=Im bF.out;omega) bF.out P2.out (by have:=Cb bF.out;omega) (Am.rd_below cA (Below.refl _ _).drew))
 have hobw5:ob<w4.heap.size:=OB.lt
 clear cA oyr kZ
 go_wp2
 refine Bj (fun w'=>w'.cell? ⟨ob,3,none⟩=some (.slice (some ⟨gr,orr,none⟩) m2 e2)/\w'.cell? ⟨gr,orr+k * 8,none⟩=some (.int .i64 r.id)/\w'.cell? ⟨gr,orr+k * 8+1,none⟩=some (.int .i64 r.plan.prio)/\w'.cell? ⟨gr,orr+k * 8+2,none⟩=some (.int .i64 r.plan.most)/\w'.cell? ⟨gr,orr+k * 8+3,none⟩=some (.int .i64 r.plan.wait)/\w'.cell? ⟨gr,orr+k * 8+4,none⟩=some (.int .i64 r.plan.tasks)/\w'.cell? ⟨gr,orr+k * 8+5,none⟩=some (.slice sk.1.a sk.1.n sk.1.c)/\w'.cell? ⟨gr,orr+k * 8+6,none⟩=some (.int .i64 r.state)/\w'.cell? ⟨gr,orr+k * 8+7,none⟩=some (.slice sk.2.a sk.2.n sk.2.c)) 10 (by kernel_rfl) ?_ (fun hHeld=>?_)
 ·exact ⟨OB_3,d0,d1,d2,d3,d4,d5,d6,d7⟩
 refine aT 0 hHeld ?_
 try simp only [pS]
 refine aT 1 hHeld ?_
 try simp only [pS]
 refine aT 2 hHeld ?_
 try simp only [pS]
 refine aT 3 hHeld ?_
 try simp only [pS]
 refine aT 4 hHeld ?_
 try simp only [pS]
 refine aT 5 hHeld ?_
 try simp only [pS]
 refine aT 6 hHeld ?_
 try simp only [pS]
 refine aT 7 hHeld ?_
 try simp only [pS]
 refine oT 8 (fun K hK=>?_)
 (go_simp;refine CSt.out.mono ?_;rintro e9 w6 ⟨sr,Fr,rfl,orn,nr,b6⟩;have q0:w6.cell? ⟨gr,orr+k * 8,none⟩=some (.int .i64 r.id):=(b6.cell (p:=⟨_,_,none⟩) (by show gr<w4.heap.size;omega)).trans d0;have q1:w6.cell? ⟨gr,orr+k * 8+1,none⟩=some (.int .i64 r.plan.prio):=(b6.cell (p:=⟨_,_,none⟩) (by show gr<w4.heap.size;omega)).trans d1;have q2:w6.cell? ⟨gr,orr+k * 8+2,none⟩=some (.int .i64 r.plan.most):=(b6.cell (p:=⟨_,_,none⟩) (by show gr<w4.heap.size;omega)).trans d2;have q3:w6.cell? ⟨gr,orr+k * 8+3,none⟩=some (.int .i64 r.plan.wait):=(b6.cell (p:=⟨_,_,none⟩) (by show gr<w4.heap.size;omega)).trans d3;have q4:w6.cell? ⟨gr,orr+k * 8+4,none⟩=some (.int .i64 r.plan.tasks):=(b6.cell (p:=⟨_,_,none⟩) (by show gr<w4.heap.size;omega)).trans d4;have q5:w6.cell? ⟨gr,orr+k * 8+5,none⟩=some (.slice sk.1.a sk.1.n sk.1.c):=(b6.cell (p:=⟨_,_,none⟩) (by show gr<w4.heap.size;omega)).trans d5;have q6:w6.cell? ⟨gr,orr+k * 8+6,none⟩=some (.int .i64 r.state):=(b6.cell (p:=⟨_,_,none⟩) (by show gr<w4.heap.size;omega)).trans d6;have q7:w6.cell? ⟨gr,orr+k * 8+7,none⟩=some (.slice sk.2.a sk.2.n sk.2.c):=(b6.cell (p:=⟨_,_,none⟩) (by show gr<w4.heap.size;omega)).trans d7;have qf:∀ j,w6.frozen? ⟨gr,j,none⟩=false:=fun j=>(b6.frozen (p:=⟨_,_,none⟩) (by show gr<w4.heap.size;omega)).trans (gI j))
 refine hK.out _ _ (fun _=>?_) ?_
 ·exact ⟨(b6.cell (p:=⟨_,_,none⟩) (by show ob<w4.heap.size;omega)).trans OB_3,(b6.cell (p:=⟨_,_,none⟩) (by show gr<w4.heap.size;omega)).trans d0,(b6.cell (p:=⟨_,_,none⟩) (by show gr<w4.heap.size;omega)).trans d1,(b6.cell (p:=⟨_,_,none⟩) (by show gr<w4.heap.size;omega)).trans d2,(b6.cell (p:=⟨_,_,none⟩) (by show gr<w4.heap.size;omega)).trans d3,(b6.cell (p:=⟨_,_,none⟩) (by show gr<w4.heap.size;omega)).trans d4,(b6.cell (p:=⟨_,_,none⟩) (by show gr<w4.heap.size;omega)).trans d5,(b6.cell (p:=⟨_,_,none⟩) (by show gr<w4.heap.size;omega)).trans d6,(b6.cell (p:=⟨_,_,none⟩) (by show gr<w4.heap.size;omega)).trans d7⟩
 clear hK K
 try simp only [pS]
 refine oT 9 (fun K hK=>?_)
 go_simp
 refine hK.out _ _ (fun _=>?_) ?_
 ·exact ⟨(b6.cell (p:=⟨_,_,none⟩) (by show ob<w4.heap.size;omega)).trans OB_3,(b6.cell (p:=⟨_,_,none⟩) (by show gr<w4.heap.size;omega)).trans d0,(b6.cell (p:=⟨_,_,none⟩) (by show gr<w4.heap.size;omega)).trans d1,(b6.cell (p:=⟨_,_,none⟩) (by show gr<w4.heap.size;omega)).trans d2,(b6.cell (p:=⟨_,_,none⟩) (by show gr<w4.heap.size;omega)).trans d3,(b6.cell (p:=⟨_,_,none⟩) (by show gr<w4.heap.size;omega)).trans d4,(b6.cell (p:=⟨_,_,none⟩) (by show gr<w4.heap.size;omega)).trans d5,(b6.cell (p:=⟨_,_,none⟩) (by show gr<w4.heap.size;omega)).trans d6,(b6.cell (p:=⟨_,_,none⟩) (by show gr<w4.heap.size;omega)).trans d7⟩
 clear hK K
 try simp only [pS]
 refine oT 10 (fun K hK=>?_)
 go_simp
 refine hK.out _ _ (fun aC=>absurd rfl aC) ?_
 clear hK K
 try simp only [pS]
 refine Cg (by kernel_rfl) ?_ _
 have b6':Below w4.heap.size w4 w6:=Aa (Below.refl _ _).drew b6
 have pG:=b6'.size
 have kV:=B0.size
 have nE:∀ x∈Fr,w4.heap.size<=x:=nr
 have gD:∀ x∈F,x<w4.heap.size:=Ab.ow_lt (F:=F) (x:=y) (s:=(⟨B1,m1,e1⟩,⟨some ⟨gr,orr,none⟩,m2,e2⟩)) oy
 have oy6:Ab.ow w6 F y (⟨B1,m1,e1⟩,⟨some ⟨gr,orr,none⟩,m2,e2⟩):=Ab.ow_below (F:=F) (x:=y) (s:=(⟨B1,m1,e1⟩,⟨some ⟨gr,orr,none⟩,m2,e2⟩)) oy b6'
 obtain ⟨F8,oy8,jW,fA⟩:=Lq oy6 (k:=k) hk (r:=Bz r 4) (sr:=sr) orn (fun x hx aY=>by have h1:=nE x hx;have h2:=gD x aY;omega)
 have gT:Chg [gr] w6 ((((((((w6.setCell ⟨gr,orr+k * 8,none⟩ (.int .i64 (Bz r 4).id)).setCell ⟨gr,orr+k * 8+1,none⟩ (.int .i64 (Bz r 4).plan.prio)).setCell ⟨gr,orr+k * 8+2,none⟩ (.int .i64 (Bz r 4).plan.most)).setCell ⟨gr,orr+k * 8+3,none⟩ (.int .i64 (Bz r 4).plan.wait)).setCell ⟨gr,orr+k * 8+4,none⟩ (.int .i64 (Bz r 4).plan.tasks)).setCell ⟨gr,orr+k * 8+5,none⟩ (.slice sr.1.a sr.1.n sr.1.c)).setCell ⟨gr,orr+k * 8+6,none⟩ (.int .i64 (Bz r 4).state)).setCell ⟨gr,orr+k * 8+7,none⟩ (.slice sr.2.a sr.2.n sr.2.c)):=Gk (Am.enc.cells (Bz r 4,sr)) w6 gr (orr+k * 8)
 have eL:=Lib.hid (show ∀ x,x∈[gr]->x=gr from fun x hx=>by simpa using hx)
 have mK:=nF gr fA
 have hgrl:=cH gr fA
 clear OB_0 OB_1 OB_2 OB_3 OB_l
 replace OB:=(OB.below b6').chg gT (fun hx=>by have:=eL.out _ hx;omega)
 replace RES:=(RES.below b6').chg gT (fun hx=>by have:=eL.out _ hx;omega)
 replace B0:=(Aa B0 b6').trans (gT.below (by have:=(Aa B0 b6').size;omega) (fun x hx=>by have:=eL.out _ hx;omega))
 have en1:w.heap.size+1∉F8:=fun hx=>by
  rcases jW _ hx with h | h
  ·have:=nF _ h;omega
  ·have:=nE _ h;omega
 have mG:∀ x∈F8,w.heap.size<=x:=fun x hx=>by
  rcases jW _ hx with h | h
  ·have:=nF _ h;omega
  ·have:=nE _ h;omega
 clear hHeld oy oy6 b6 b6' nr orn gT CSt d0 d1 d2 d3 d4 d5 d6 d7 gI q0 q1 q2 q3 q4 q5 q6 q7 qf
 generalize ((((((((w6.setCell ⟨gr,orr+k * 8,none⟩ (.int .i64 (Bz r 4).id)).setCell ⟨gr,orr+k * 8+1,none⟩ (.int .i64 (Bz r 4).plan.prio)).setCell ⟨gr,orr+k * 8+2,none⟩ (.int .i64 (Bz r 4).plan.most)).setCell ⟨gr,orr+k * 8+3,none⟩ (.int .i64 (Bz r 4).plan.wait)).setCell ⟨gr,orr+k * 8+4,none⟩ (.int .i64 (Bz r 4).plan.tasks)).setCell ⟨gr,orr+k * 8+5,none⟩ (.slice sr.1.a sr.1.n sr.1.c)).setCell ⟨gr,orr+k * 8+6,none⟩ (.int .i64 (Bz r 4).state)).setCell ⟨gr,orr+k * 8+7,none⟩ (.slice sr.2.a sr.2.n sr.2.c))=w8 at *
 obtain ⟨OB_0,OB_1,OB_2,OB_3,OB_l⟩:=OB.g4
 obtain ⟨RES_0,RES_1,RES_2,RES_3,RES_l⟩:=RES.g4
 have rf:=RES.free
 go_wp2
 refine bodyPost_ret (Ky (DBox.row4 RES rfl _ _ _ _)) rfl ⟨(⟨B1,m1,e1⟩,⟨some ⟨gr,orr,none⟩,m2,e2⟩),F8,by rw [H.out,H2.out],by rw [H2.out];exact (by (repeat (refine Dt.ow_set Ab ?_ en1 _));exact (show Ab.ow _ F8 ⟨y.now,y.seq,y.shelf,y.runs.set k (Bz r 4)⟩ (⟨B1,m1,e1⟩,⟨some ⟨gr,orr,none⟩,m2,e2⟩) from oy8)),mG,?_⟩
 repeat (first | (with_reducible exact B0) | refine Below.setCell ?_ (by simp<;>omega) _)
end
theorem Mw {b:Nat} {w:World} {u0 u1 u2 u3:Value} (X:DBox b [u0,u1,u2,u3] w) {v0 v1 v2 v3 v4 v5 v6 v7 v9:Value} {rest:List Value} :
  (results Tryz.f110 (v0 :: v1 :: v2 :: v3 :: v4 :: v5 :: v6 :: v7 :: .pointer (some ⟨b,0,none⟩) :: v9 :: rest).toArray).run Tryz.prog w = .ok (.tuple #[.agg #[u0,u1,u2,u3],v9]) w:=by
 obtain ⟨c0,c1,c2,c3,-⟩:=X.g4
 simp [results,Tryz.results110,go_sem,c0,c1,c2,c3]
theorem Uk {b:Nat} {w:World} {u0 u1 u2 u3:Value} (X:DBox b [u0,u1,u2,u3] w) {v0 v1 v2 v3 v4 v5 v6 v7 v9:Value} {rest:List Value} :
  (results Tryz.f111 (v0 :: v1 :: v2 :: v3 :: v4 :: v5 :: v6 :: v7 :: .pointer (some ⟨b,0,none⟩) :: v9 :: rest).toArray).run Tryz.prog w = .ok (.tuple #[.agg #[u0,u1,u2,u3],v9]) w:=by
 obtain ⟨c0,c1,c2,c3,-⟩:=X.g4
 simp [results,Tryz.results111,go_sem,c0,c1,c2,c3]
theorem Tk (gr o n c:Nat) (rs:List (Run×Am.S)) (k:Nat) (G1 Fx G2:List Nat) (r:Run) (s:Sl×Sl) (u p:Nat) (w:World) (hp:w.cell? ⟨p,0,none⟩=some (.int .i64 u)) (hp':p<w.heap.size) (hR:Gg r u) (hF:Foc Am w gr o n c rs k G1 Fx G2 r s) :
  Calls Tryz.prog 170 #[.pointer (some ⟨gr,o+k * 8,none⟩),.pointer (some ⟨p,0,none⟩)] w (Fh gr o n c rs k G1 Fx G2 (G9 r u) s w):=by
 have C:=Lib.hid (Vh gr o n c rs k G1 Fx G2 r s u w hR hF)
 go_enter Tryz.func170,Tryz.ntmps170
 go_wp2_with fail
 refine C.out.mono ?_
 rintro e w1 ⟨rfl,h1,h2⟩
 have HF:=Lib.hid (show Fh gr o n c rs k G1 Fx G2 (G9 r u) s w (.returned (.tuple #[])) w1 from ⟨rfl,h1,h2⟩)
 clear h1 h2 C
 go_wp2
 exact bodyPost_ret (v:=.tuple #[]) (by simp [results,Tryz.results170,go_sem]) rfl HF.out
theorem Aay (gr o n c:Nat) (rs:List (Run×Am.S)) (k:Nat) (G1 Fx G2:List Nat) (r:Run) (s:Sl×Sl) (u p:Nat) (w:World) (hp:w.cell? ⟨p,0,none⟩=some (.int .i64 u)) (hp':p<w.heap.size) (hR:Gg r u) (hF:Foc Am w gr o n c rs k G1 Fx G2 r s) :
  Calls Tryz.prog 172 #[.pointer (some ⟨gr,o+k * 8,none⟩),.pointer (some ⟨p,0,none⟩)] w (Fh gr o n c rs k G1 Fx G2 (Br r u) s w):=by
 have C:=Lib.hid (J7 gr o n c rs k G1 Fx G2 r s u w (by have:=Cb hR.1;omega) hR hF)
 go_enter Tryz.func172,Tryz.ntmps172
 go_wp2_with fail
 refine C.out.mono ?_
 rintro e w1 ⟨rfl,h1,h2⟩
 have HF:=Lib.hid (show Fh gr o n c rs k G1 Fx G2 (Br r u) s w (.returned (.tuple #[])) w1 from ⟨rfl,h1,h2⟩)
 clear h1 h2 C
 go_wp2
 exact bodyPost_ret (v:=.tuple #[]) (by simp [results,Tryz.results172,go_sem]) rfl HF.out
theorem Zt {y:Yard} {id tk tr:Int} (q:D8 y id tk tr=0):Bq y /\ ∃ k,∃ hk:k<y.runs.length,∃ u:Nat,Bo y id=(k:Int)/\H8 y id=y.runs[k]/\tk=(u:Int)/\Gg y.runs[k] u:=by
 unfold D8 at q
 by_cases p0:Bq y
 ·by_cases p1:Bo y id<0
  ·rw [if_neg (fun h=>h p0),if_pos p1] at q;cases q
  ·by_cases p2:Du y id tk tr
   ·rcases Cn y id with hr | ⟨k,hk,hr⟩
    ·omega
    ·have HK:=Dr hk hr
     have cR:(0<=tk/\tk<(y.runs[k].tasks.length:Int))/\(Ax y.runs[k] tk.toNat).state=3:=by
      unfold Du at p2
      rw [HK] at p2
      exact ⟨p2.2.1,p2.2.2.1⟩
     obtain ⟨u,rfl⟩:=Int.eq_ofNat_of_zero_le cR.1.1
     exact ⟨p0,k,hk,u,hr,HK,rfl,Co p0 hk,⟨by omega,by have:=cR.1.2;omega⟩,cR.2⟩
   ·rw [if_neg (fun h=>h p0),if_neg p1,if_pos p2] at q;cases q
 ·rw [if_pos p0] at q;cases q
theorem Om (y:Yard) (s:Sl×Sl) (id tk tr:Int) (w:World) (hl:Ai y<=2000000) (h:Ab.rd w w.heap.size y s) :
  Calls Tryz.prog 110 #[By y s,.int .i64 id,.int .i64 tk,.int .i64 tr] w (Fn (Ix y id tk tr) (D8 y id tk tr) w):=by
 have HR:=Lib.hid (show ∀ W,Below w.heap.size w W->Ab.rd W W.heap.size y s from fun W hW=>Ab.rd_more (Ab.rd_below h hW) hW.size)
 obtain ⟨⟨A1,n1,c1⟩,⟨A2,n2,c2⟩⟩:=s
 have CC:=Lib.hid (fun W hW=>Dl y (⟨A1,n1,c1⟩,⟨A2,n2,c2⟩) W hl (HR.out W hW))
 have CK:=Lib.hid (fun W hW=>Nw y (⟨A1,n1,c1⟩,⟨A2,n2,c2⟩) id tk tr W hl (HR.out W hW))
 have CA:=Lib.hid (fun W hW=>C6 y (⟨A1,n1,c1⟩,⟨A2,n2,c2⟩) id W hl (HR.out W hW))
 clear h
 obtain ⟨W,aG,X,T,RES,B0⟩:=bx3 w 31 [.int .i64 y.now,.int .i64 y.seq,.slice A1 n1 c1,.slice A2 n2 c2] 3 [.int .i64 tk] 31 [.int .i64 0,.int .i64 0,.slice none 0 0,.slice none 0 0]
 go_enter Tryz.func110,Tryz.ntmps110
 go_wp2_with fail
 rw [<-aG.out]
 clear aG
 refine (CC.out _ B0).mono ?_
 rintro e1 w1 ⟨⟨⟨B1,m1,e1⟩,⟨B2,m2,e2⟩⟩,F,rfl,oy,nF,b1⟩
 have dM:=RES.lt
 have b2:Below w1.heap.size w1 (w1.alloc (.cells #[.int .i64 y.now,.int .i64 y.seq,.slice B1 m1 e1,.slice B2 m2 e2] 31)):=(Below.refl _ _).alloc (Nat.le_refl _) _
 have OB:DBox w1.heap.size (Dk y (⟨B1,m1,e1⟩,⟨B2,m2,e2⟩)) _:=DBox.new 31 [.int .i64 y.now,.int .i64 y.seq,.slice B1 m1 e1,.slice B2 m2 e2] w1 (b:=w1.heap.size) rfl
 have bM:=Lib.hid (Ab.ow_lt (F:=F) (x:=y) (s:=(⟨B1,m1,e1⟩,⟨B2,m2,e2⟩)) oy)
 have cN:=Lib.hid (show ∀ x∈F,w.heap.size+3<=x from fun x hx=>by have:=nF x hx;omega)
 replace oy:Ab.ow _ F y (⟨B1,m1,e1⟩,⟨B2,m2,e2⟩):=Ab.ow_below (F:=F) (x:=y) (s:=(⟨B1,m1,e1⟩,⟨B2,m2,e2⟩)) oy b2
 have b12:=Aa b1 b2
 replace X:=X.below b12
 replace T:=T.below b12
 replace RES:=RES.below b12
 replace B0:=Aa B0 b12
 have bJ:=b1.size
 clear b1 b2 b12 CC nF
 go_upto_region 2 with fail
 have cJ:w1.heap.size∉F:=fun h=>by have:=bM.out _ h;omega
 generalize w1.heap.size=ob at *
 generalize w1.alloc (.cells #[.int .i64 y.now,.int .i64 y.seq,.slice B1 m1 e1,.slice B2 m2 e2] 31)=w2 at *
 obtain ⟨X_0,X_1,X_2,X_3,X_l⟩:=X.g4
 obtain ⟨T_0,T_l⟩:=T.g1
 go_wp2_with fail
 refine (CK.out _ B0).mono ?_
 rintro e1' w3 ⟨rfl,b3⟩
 clear X_0 X_1 X_2 X_3 X_l
 clear T_0 T_l
 replace X:=X.below b3
 replace T:=T.below b3
 replace RES:=RES.below b3
 replace OB:=OB.below b3
 replace B0:=Aa B0 b3
 replace oy:Ab.ow w3 F y (⟨B1,m1,e1⟩,⟨B2,m2,e2⟩):=Ab.ow_below (F:=F) (x:=y) (s:=(⟨B1,m1,e1⟩,⟨B2,m2,e2⟩)) oy b3
 clear b3 CK
 by_cases q:D8 y id tk tr=0
 case neg =>
  have q2:(D8 y id tk tr == 0)=false:=beq_eq_false_iff_ne.2 q
  have H:=Lib.hid (show Ix y id tk tr=y from if_neg q)
  clear q
  obtain ⟨RES_0,RES_1,RES_2,RES_3,RES_l⟩:=RES.g4
  obtain ⟨OB_0,OB_1,OB_2,OB_3,OB_l⟩:=OB.g4
  have rf:=RES.free
  go_wp2
  have en1:w.heap.size+1+1∉F:=fun hx=>by have:=cN.out _ hx;omega
  refine bodyPost_ret (Mw (DBox.row4 RES rfl _ _ _ _)) rfl ⟨(⟨B1,m1,e1⟩,⟨B2,m2,e2⟩),F,by rw [H.out],by rw [H.out];exact Ab.set4 (F:=F) (x:=y) (s:=(⟨B1,m1,e1⟩,⟨B2,m2,e2⟩)) oy en1,fun x hx=>by have:=cN.out x hx;omega,?_⟩
  repeat (first | (with_reducible exact B0) | refine Below.setCell ?_ (by simp<;>omega) _)
 have q2:(D8 y id tk tr == 0)=true:=by simp [q]
 have H:=Lib.hid (show Ix y id tk tr=Dq y (Bo y id).toNat (G9 (H8 y id) tk.toNat) from if_pos q)
 obtain ⟨nL,k,hk,u,hr,uB,rfl,aK⟩:=Zt q
 have HR2:=Lib.hid hr
 have HK:=Lib.hid uB
 have nL:=Lib.hid nL
 have aK:=Lib.hid aK
 clear hr uB q
 obtain ⟨X_0,X_1,X_2,X_3,X_l⟩:=X.g4
 go_wp2_with fail
 refine (CA.out _ B0).mono ?_
 rintro e2' w4 ⟨rfl,b4⟩
 rw [HR2.out]
 clear X_0 X_1 X_2 X_3 X_l
 replace T:=T.below b4
 replace RES:=RES.below b4
 replace OB:=OB.below b4
 replace B0:=Aa B0 b4
 replace oy:Ab.ow w4 F y (⟨B1,m1,e1⟩,⟨B2,m2,e2⟩):=Ab.ow_below (F:=F) (x:=y) (s:=(⟨B1,m1,e1⟩,⟨B2,m2,e2⟩)) oy b4
 clear b4 CA X
 have pP:=T.lt
 have CH:=Lib.hid (H7 170 (w.heap.size+1) (Ks Tryz.func170 (by kernel_rfl) (by kernel_rfl)) y ob (⟨B1,m1,e1⟩,⟨B2,m2,e2⟩) F k (G9 y.runs[k] u) w4 nL.out.2.2.1 (fun s hs=>by have:=(nL.out.2.2.2.1 s hs).1;omega) (by have:=nL.out.2.1;omega) hk (by rw [Mc];have:=Cb aK.out.1;omega) (by have:=Cb aK.out.1;omega) OB oy cJ
  (Lib.hid fun W gr o n c rs G1 Fx G2 sr hW hF=>Tk gr o n c rs k G1 Fx G2 y.runs[k] sr u (w.heap.size+1) W ((T.below hW).cell 0 _ rfl) (T.below hW).lt aK.out hF))
 go_wp2_with fail
 refine CH.out.mono ?_
 rintro e3 w5 ⟨rfl,F',OB',oy',nF',hc⟩
 have H2:Ix y id u tr=Dq y k (G9 y.runs[k] u):=by rw [H.out,HR2.out,HK.out];rfl
 rw [<-H2] at OB' oy'
 clear H2
 have bE:=B0.size
 replace B0:=B0.trans (hc.below (base:=w.heap.size) bE (fun x hx=>by
  rcases List.mem_cons.1 hx with rfl | hx
  ·omega
  ·have:=cN.out x hx;omega))
 have sM:w.heap.size+1+1∉ob :: F:=fun hx=>by
  rcases List.mem_cons.1 hx with e | hx
  ·omega
  ·have:=cN.out _ hx;omega
 have RL:=RES.lt
 replace RES:=RES.chg hc sM
 clear OB CH T hc
 have OB:=OB'
 obtain ⟨RES_0,RES_1,RES_2,RES_3,RES_l⟩:=RES.g4
 obtain ⟨OB_0,OB_1,OB_2,OB_3,OB_l⟩:=OB.g4
 have rf:=RES.free
 go_wp2
 have en1:w.heap.size+1+1∉F':=fun hx=>by rcases nF' _ hx with h | h;exact sM (List.mem_cons_of_mem _ h);omega
 refine bodyPost_ret (Mw (DBox.row4 RES rfl _ _ _ _)) rfl ⟨(⟨B1,m1,e1⟩,⟨B2,m2,e2⟩),F',rfl,Ab.set4 (F:=F') (x:=Ix y id u tr) (s:=(⟨B1,m1,e1⟩,⟨B2,m2,e2⟩)) oy' en1,fun x hx=>by rcases nF' x hx with h | h;(have:=cN.out x h;omega);omega,?_⟩
 repeat (first | (with_reducible exact B0) | refine Below.setCell ?_ (by simp<;>omega) _)
theorem Vm (y:Yard) (s:Sl×Sl) (id tk tr:Int) (w:World) (hl:Ai y<=2000000) (h:Ab.rd w w.heap.size y s) :
  Calls Tryz.prog 111 #[By y s,.int .i64 id,.int .i64 tk,.int .i64 tr] w (Fn (Iw y id tk tr) (D8 y id tk tr) w):=by
 have HR:=Lib.hid (show ∀ W,Below w.heap.size w W->Ab.rd W W.heap.size y s from fun W hW=>Ab.rd_more (Ab.rd_below h hW) hW.size)
 obtain ⟨⟨A1,n1,c1⟩,⟨A2,n2,c2⟩⟩:=s
 have CC:=Lib.hid (fun W hW=>Dl y (⟨A1,n1,c1⟩,⟨A2,n2,c2⟩) W hl (HR.out W hW))
 have CK:=Lib.hid (fun W hW=>Nw y (⟨A1,n1,c1⟩,⟨A2,n2,c2⟩) id tk tr W hl (HR.out W hW))
 have CA:=Lib.hid (fun W hW=>C6 y (⟨A1,n1,c1⟩,⟨A2,n2,c2⟩) id W hl (HR.out W hW))
 clear h
 obtain ⟨W,aG,X,T,RES,B0⟩:=bx3 w 31 [.int .i64 y.now,.int .i64 y.seq,.slice A1 n1 c1,.slice A2 n2 c2] 3 [.int .i64 tk] 31 [.int .i64 0,.int .i64 0,.slice none 0 0,.slice none 0 0]
 go_enter Tryz.func111,Tryz.ntmps111
 go_wp2_with fail
 rw [<-aG.out]
 clear aG
 refine (CC.out _ B0).mono ?_
 rintro e1 w1 ⟨⟨⟨B1,m1,e1⟩,⟨B2,m2,e2⟩⟩,F,rfl,oy,nF,b1⟩
 have dM:=RES.lt
 have b2:Below w1.heap.size w1 (w1.alloc (.cells #[.int .i64 y.now,.int .i64 y.seq,.slice B1 m1 e1,.slice B2 m2 e2] 31)):=(Below.refl _ _).alloc (Nat.le_refl _) _
 have OB:DBox w1.heap.size (Dk y (⟨B1,m1,e1⟩,⟨B2,m2,e2⟩)) _:=DBox.new 31 [.int .i64 y.now,.int .i64 y.seq,.slice B1 m1 e1,.slice B2 m2 e2] w1 (b:=w1.heap.size) rfl
 have bM:=Lib.hid (Ab.ow_lt (F:=F) (x:=y) (s:=(⟨B1,m1,e1⟩,⟨B2,m2,e2⟩)) oy)
 have cN:=Lib.hid (show ∀ x∈F,w.heap.size+3<=x from fun x hx=>by have:=nF x hx;omega)
 replace oy:Ab.ow _ F y (⟨B1,m1,e1⟩,⟨B2,m2,e2⟩):=Ab.ow_below (F:=F) (x:=y) (s:=(⟨B1,m1,e1⟩,⟨B2,m2,e2⟩)) oy b2
 have b12:=Aa b1 b2
 replace X:=X.below b12
 replace T:=T.below b12
 replace RES:=RES.below b12
 replace B0:=Aa B0 b12
 have bJ:=b1.size
 clear b1 b2 b12 CC nF
 go_upto_region 2 with fail
 have cJ:w1.heap.size∉F:=fun h=>by have:=bM.out _ h;omega
 generalize w1.heap.size=ob at *
 generalize w1.alloc (.cells #[.int .i64 y.now,.int .i64 y.seq,.slice B1 m1 e1,.slice B2 m2 e2] 31)=w2 at *
 obtain ⟨X_0,X_1,X_2,X_3,X_l⟩:=X.g4
 obtain ⟨T_0,T_l⟩:=T.g1
 go_wp2_with fail
 refine (CK.out _ B0).mono ?_
 rintro e1' w3 ⟨rfl,b3⟩
 clear X_0 X_1 X_2 X_3 X_l
 clear T_0 T_l
 replace X:=X.below b3
 replace T:=T.below b3
 replace RES:=RES.below b3
 replace OB:=OB.below b3
 replace B0:=Aa B0 b3
 replace oy:Ab.ow w3 F y (⟨B1,m1,e1⟩,⟨B2,m2,e2⟩):=Ab.ow_below (F:=F) (x:=y) (s:=(⟨B1,m1,e1⟩,⟨B2,m2,e2⟩)) oy b3
 clear b3 CK
 by_cases q:D8 y id tk tr=0
 case neg =>
  have q2:(D8 y id tk tr == 0)=false:=beq_eq_false_iff_ne.2 q
  have H:=Lib.hid (show Iw y id tk tr=y from if_neg q)
  clear q
  obtain ⟨RES_0,RES_1,RES_2,RES_3,RES_l⟩:=RES.g4
  obtain ⟨OB_0,OB_1,OB_2,OB_3,OB_l⟩:=OB.g4
  have rf:=RES.free
  go_wp2
  have en1:w.heap.size+1+1∉F:=fun hx=>by have:=cN.out _ hx;omega
  refine bodyPost_ret (Uk (DBox.row4 RES rfl _ _ _ _)) rfl ⟨(⟨B1,m1,e1⟩,⟨B2,m2,e2⟩),F,by rw [H.out],by rw [H.out];exact Ab.set4 (F:=F) (x:=y) (s:=(⟨B1,m1,e1⟩,⟨B2,m2,e2⟩)) oy en1,fun x hx=>by have:=cN.out x hx;omega,?_⟩
  repeat (first | (with_reducible exact B0) | refine Below.setCell ?_ (by simp<;>omega) _)
 have q2:(D8 y id tk tr == 0)=true:=by simp [q]
 have H:=Lib.hid (show Iw y id tk tr=Dq y (Bo y id).toNat (Br (H8 y id) tk.toNat) from if_pos q)
 obtain ⟨nL,k,hk,u,hr,uB,rfl,aK⟩:=Zt q
 have HR2:=Lib.hid hr
 have HK:=Lib.hid uB
 have nL:=Lib.hid nL
 have aK:=Lib.hid aK
 clear hr uB q
 obtain ⟨X_0,X_1,X_2,X_3,X_l⟩:=X.g4
 go_wp2_with fail
 refine (CA.out _ B0).mono ?_
 rintro e2' w4 ⟨rfl,b4⟩
 rw [HR2.out]
 clear X_0 X_1 X_2 X_3 X_l
 replace T:=T.below b4
 replace RES:=RES.below b4
 replace OB:=OB.below b4
 replace B0:=Aa B0 b4
 replace oy:Ab.ow w4 F y (⟨B1,m1,e1⟩,⟨B2,m2,e2⟩):=Ab.ow_below (F:=F) (x:=y) (s:=(⟨B1,m1,e1⟩,⟨B2,m2,e2⟩)) oy b4
 clear b4 CA X
 have pP:=T.lt
 have CH:=Lib.hid (H7 172 (w.heap.size+1) (Ks Tryz.func172 (by kernel_rfl) (by kernel_rfl)) y ob (⟨B1,m1,e1⟩,⟨B2,m2,e2⟩) F k (Br y.runs[k] u) w4 nL.out.2.2.1 (fun s hs=>by have:=(nL.out.2.2.2.1 s hs).1;omega) (by have:=nL.out.2.1;omega) hk (by rw [Fg];have:=Cb aK.out.1;omega) (by have:=Cb aK.out.1;omega) OB oy cJ
  (Lib.hid fun W gr o n c rs G1 Fx G2 sr hW hF=>Aay gr o n c rs k G1 Fx G2 y.runs[k] sr u (w.heap.size+1) W ((T.below hW).cell 0 _ rfl) (T.below hW).lt aK.out hF))
 go_wp2_with fail
 refine CH.out.mono ?_
 rintro e3 w5 ⟨rfl,F',OB',oy',nF',hc⟩
 have H2:Iw y id u tr=Dq y k (Br y.runs[k] u):=by rw [H.out,HR2.out,HK.out];rfl
 rw [<-H2] at OB' oy'
 clear H2
 have bE:=B0.size
 replace B0:=B0.trans (hc.below (base:=w.heap.size) bE (fun x hx=>by
  rcases List.mem_cons.1 hx with rfl | hx
  ·omega
  ·have:=cN.out x hx;omega))
 have sM:w.heap.size+1+1∉ob :: F:=fun hx=>by
  rcases List.mem_cons.1 hx with e | hx
  ·omega
  ·have:=cN.out _ hx;omega
 have RL:=RES.lt
 replace RES:=RES.chg hc sM
 clear OB CH T hc
 have OB:=OB'
 obtain ⟨RES_0,RES_1,RES_2,RES_3,RES_l⟩:=RES.g4
 obtain ⟨OB_0,OB_1,OB_2,OB_3,OB_l⟩:=OB.g4
 have rf:=RES.free
 go_wp2
 have en1:w.heap.size+1+1∉F':=fun hx=>by rcases nF' _ hx with h | h;exact sM (List.mem_cons_of_mem _ h);omega
 refine bodyPost_ret (Uk (DBox.row4 RES rfl _ _ _ _)) rfl ⟨(⟨B1,m1,e1⟩,⟨B2,m2,e2⟩),F',rfl,Ab.set4 (F:=F') (x:=Iw y id u tr) (s:=(⟨B1,m1,e1⟩,⟨B2,m2,e2⟩)) oy' en1,fun x hx=>by rcases nF' x hx with h | h;(have:=cN.out x h;omega);omega,?_⟩
 repeat (first | (with_reducible exact B0) | refine Below.setCell ?_ (by simp<;>omega) _)
theorem Enc.flat_take {α:Type} (e:Enc α) (l:List α) (k:Nat) (hk:k<=l.length):(l.take k).flatMap e.cells=(l.flatMap e.cells).take (k * e.sz):=by
 have h:l.flatMap e.cells=(l.take k).flatMap e.cells ++ (l.drop k).flatMap e.cells:=by rw [<-List.flatMap_append,List.take_append_drop]
 rw [h,List.take_left' (by rw [e.flat_length,List.length_take,Nat.min_eq_left hk])]
theorem Enc.flat_drop {α:Type} (e:Enc α) (l:List α) (k:Nat) (hk:k<=l.length):(l.drop k).flatMap e.cells=(l.flatMap e.cells).drop (k * e.sz):=by
 have h:l.flatMap e.cells=(l.take k).flatMap e.cells ++ (l.drop k).flatMap e.cells:=by rw [<-List.flatMap_append,List.take_append_drop]
 rw [h,List.drop_left' (by rw [e.flat_length,List.length_take,Nat.min_eq_left hk])]
theorem Qc {α:Type} {P:Program} (w:World) (t ty E:TypeId) (i:TypeInfo) (ht:P.underlying t=some (.slice E)) (hi:P.info? E=some i) {e:Enc α} (bW:i.size=e.sz) (bE:0<e.sz) {base g n cap B:Nat} {l:List α}
  (h:Ow e E w base (.slice (some ⟨g,0,none⟩) n cap) l) (k:Nat) (ad:Addr) (m c:Nat) (ys:List α) (hr:Rd e w B (.slice (some ad) m c) ys) (gF:k+m<=l.length) :
  ∃ w',(Builtin.append_ #[t,t] ty #[.slice (some ⟨g,0,none⟩) k cap,.slice (some ad) m c]).run P w = .ok (.slice (some ⟨g,0,none⟩) (k+m) cap) w' /\
   Ow e E w' base (.slice (some ⟨g,0,none⟩) n cap) (l.take k ++ ys ++ l.drop (k+m))/\w.grownBy w' (some g):=by
 obtain ⟨rfl,hA⟩:=Zh bE hr
 have hnews:∀ j u,(ys.flatMap e.cells)[j]? = some u->w.cell? (ad.add j)=some u:=by
  intro j u hu
  rcases Nat.eq_zero_or_pos ys.length with h0 | h0
  ·rw [List.eq_nil_of_length_eq_zero h0] at hu;simp at hu
  ·obtain ⟨a',ha,hc⟩:=hA h0
   injection ha with ha
   subst ha
   exact hc j u hu
 have h1:∀ u∈ys.flatMap e.cells,u.oneCell'=true:=by
  intro u hu
  obtain ⟨y,_,hy⟩:=List.mem_flatMap.1 hu
  exact e.one y u hy
 obtain ⟨jS,h2⟩:=h
 rcases h2 with ⟨hv,_⟩ | ⟨g',cap',cur,hv,hb,hg,hc,hm,hs,cR⟩
 ·simp at hv
 simp only [Value.slice.injEq,Option.some.injEq,Addr.mk.injEq,and_true] at hv
 obtain ⟨rfl,rfl,rfl⟩:=hv
 have hkm:(k+ys.length) * e.sz<=l.length * e.sz:=Nat.mul_le_mul_right _ gF
 have pW:l.length * e.sz<=cap * e.sz:=Nat.mul_le_mul_right _ hc
 rw [Nat.add_mul] at hkm
 have hX:(l.flatMap e.cells).length=l.length * e.sz:=e.flat_length l
 have hY:(ys.flatMap e.cells).length=ys.length * e.sz:=e.flat_length ys
 have eB:=run_append_room (P:=P) w t ty E i ht hi g k cap cur hg ad ys.length c (ys.flatMap e.cells) (by rw [e.flat_length,bW]) hnews h1 (by omega) (by rw [e.flat_length,bW,hs];omega)
 have hL:(l.take k ++ ys ++ l.drop (k+ys.length)).length=l.length:=by simp;omega
 refine ⟨_,eB,⟨by rw [e.flat_length],.inr ⟨g,cap,_,by rw [hL],hb,setRow_heap w g cur _ E _ hg,by rw [hL];exact hc,hm,?_,?_⟩⟩,⟨rfl,rfl,rfl,by simp,fun j _ hj=>setRow_other w g j _ (fun e=>hj (by rw [e]))⟩⟩
 ·simp only [List.size_toArray,List.length_append,List.length_take,List.length_drop,Array.length_toList,hY,bW,hs]
  omega
 ·rw [hL,List.flatMap_append,List.flatMap_append,e.flat_take l k (by omega),e.flat_drop l _ gF,bW,hY]
  obtain ⟨R,hT⟩:∃ R,cur.toList=l.flatMap e.cells ++ R:=⟨cur.toList.drop (l.length * e.sz),by rw [<-cR,List.take_append_drop]⟩
  simp only [hT]
  have e1:(l.flatMap e.cells ++ R).take (k * e.sz)=(l.flatMap e.cells).take (k * e.sz):=List.take_append_of_le_length (by rw [hX];omega)
  have e2:(l.flatMap e.cells ++ R).drop (k * e.sz+ys.length * e.sz)=(l.flatMap e.cells).drop (k * e.sz+ys.length * e.sz) ++ R:=List.drop_append_of_le_length (by rw [hX];omega)
  rw [e1,e2,<-List.append_assoc,List.take_left' (by simp only [List.length_append,List.length_take,List.length_drop,hX,hY];omega),Nat.add_mul]
theorem Ow.clear {α:Type} {e:Enc α} {E:TypeId} {w:World} {base g n cap:Nat} {l:List α} (h:Ow e E w base (.slice (some ⟨g,0,none⟩) n cap) l) (k:Nat) (us:List Value) (hk:k * e.sz+us.length<=l.length * e.sz) (kB:k<=l.length) :
  Ow e E (E9 w g (k * e.sz) us) base (.slice (some ⟨g,0,none⟩) k cap) (l.take k)/\w.grownBy (E9 w g (k * e.sz) us) (some g):=by
 have hn:n=l.length:=by
  rcases h.form with ⟨h1,_⟩ | ⟨_,_,h1,_⟩
  ·simp at h1
  ·simp only [Value.slice.injEq] at h1;exact h1.2.1
 subst hn
 obtain ⟨⟨h1,h2⟩,h3⟩:=Qj (cap:=cap) l.length us _ w (k * e.sz) h
 refine ⟨?_,h3⟩
 rcases h2 with ⟨hv,_⟩ | ⟨g',cap',cur,hv,hb,hg,hc,hm,hs,ht⟩
 ·simp at hv
 ·simp only [Value.slice.injEq,Option.some.injEq,Addr.mk.injEq,and_true] at hv
  obtain ⟨rfl,-,rfl⟩:=hv
  refine ⟨by rw [e.flat_length],.inr ⟨_,_,cur,by rw [List.length_take,Nat.min_eq_left kB],hb,hg,by rw [List.length_take];omega,hm,hs,?_⟩⟩
  rw [List.length_take,Nat.min_eq_left kB,e.flat_take _ _ kB]
  have h5:cur.toList.take (k * e.sz)=(cur.toList.take (l.length * e.sz)).take (k * e.sz):=by rw [List.take_take,Nat.min_eq_left (Nat.mul_le_mul_right _ kB)]
  rw [h5,ht,N6 _ _ _ (by rw [e.flat_length];omega),List.append_assoc,List.take_left' (by rw [List.length_take,e.flat_length];omega)]
theorem Tm {P:Program} {o:Oper} {a:Act} {K:Act->World->Prop} {Q:Exit->Act->World->Prop} (w:World) (s x:Operand) {t:TypeId} (ho:o.op = .call { callee:=.builtin .append,args:=#[s,x],argTypes:=#[t,t] })
  {v u v':Value} {w':World} (hs:a.eval s=v) (hx:a.eval x=u) (eB:(Builtin.append_ #[t,t] o.type #[v,u]).run P w = .ok v' w') (h:K (a.put o.dst v') w'):o.wp P a w K Q:=by
 unfold Oper.wp execOp
 simp only [ho,resolve,invoke,builtin,Sem.run_bind,Sem.run_pure,Result.andThen_ok,List.map_toArray,List.map_cons,List.map_nil,hs,hx,eB]
 exact h
theorem Chg.of_grown {w w':World} {g:Nat} (h:w.grownBy w' (some g)):Chg [g] w w':=⟨h.os,h.tape,h.output,h.size,fun k hk hn=>h.block k hk (fun e=>hn (by injection e with e;simp [e]))⟩
theorem Xq (rs:List (Run×(Sl×Sl))) (g c base i:Nat) (w:World) (hi:i<rs.length) (hl:rs.length<=2000000) (h:Ow Am.enc 89 w base (.slice (some ⟨g,0,none⟩) rs.length c) rs) :
  Calls Tryz.prog 178 #[.slice (some ⟨g,0,none⟩) rs.length c,.int .i64 (i:Int),.int .i64 ((i:Int)+1)] w fun e w'=>e = .returned (.slice (some ⟨g,0,none⟩) (rs.length - 1) c)/\Ow Am.enc 89 w' base (.slice (some ⟨g,0,none⟩) (rs.length - 1) c) (rs.take i ++ rs.drop (i+1))/\w.grownBy w' (some g):=by
 obtain ⟨j0,bX,jz0,jz1,jz2⟩:=info_parts Jc
 have hR:=Rd.of_own h
 have bY:rs.length<=c:=hR.cap
 have h1:(0:Int)<=(i:Int):=by omega
 have h2:(0:Int)<=(i:Int)+1:=by omega
 have h3:(i:Int)<=(i:Int)+1:=by omega
 have h4:(i:Int)+1<=(rs.length:Int):=by omega
 have h5:(rs.length:Int)<=(c:Int):=by omega
 have h6:(i:Int)<=(c:Int):=by omega
 have h7:((i:Int) == (i:Int)+1)=false:=by simp;omega
 have h8:((i:Int)+1).toNat=i+1:=by omega
 go_enter Tryz.func178,Tryz.ntmps178
 go_upto_region 5 with fail
 refine Go.wp_region_noPanic ?_
 refine wp_region_held_drew (S:=fun _=>True) (by kernel_rfl) trivial (fun hHeld=>?_)
 have hd:Ow Am.enc 89 w.drew base (.slice (some ⟨g,0,none⟩) rs.length c) rs:=h.below (Below.refl _ _).drew
 have gd:w.grownBy w.drew (some g):=(Chg.of_below [g] (Below.refl w.heap.size w).drew).toGrown
 generalize w.drew=w1 at *
 have hR1:=Rd.of_own hd
 have hc0:¬ c=0:=by omega
 refine tY 0 ?_
 (try simp only [pS])
 refine tY 1 ?_
 (try simp only [pS])
 refine tY 2 ?_
 (try simp only [pS])
 refine tY 3 ?_
 (try simp only [pS])
 refine tY 4 ?_
 (try simp only [pS])
 obtain ⟨ad,hadv,pI⟩:∃ ad:Addr,((if c=i+1 then some (⟨g,0,none⟩:Addr) else some ⟨g,(i+1) * 8,none⟩)=some ad)/\Rd Am.enc w1 w1.heap.size (.slice (some ad) (rs.length - (i+1)) (c - (i+1))) (rs.drop (i+1)):=by
  by_cases hc:c=i+1
  ·refine ⟨⟨g,0,none⟩,by rw [if_pos hc],?_⟩
   rw [List.drop_eq_nil_of_le (by omega),show rs.length - (i+1)=0 by omega]
   exact ⟨_,_,rfl,Nat.zero_le _,fun h=>absurd h (by simp)⟩
  ·refine ⟨⟨g,(i+1) * 8,none⟩,by rw [if_neg hc],?_⟩
   have h9:=hR1.dropM (i+1) (by omega)
   have e:(some (⟨g,0,none⟩:Addr)).map (fun x=>x.add ((i+1) * Am.enc.sz))=some ⟨g,(i+1) * 8,none⟩:=by
    show some ((⟨g,0,none⟩:Addr).add ((i+1) * 8))=_
    rw [Addr.add_lit,Nat.zero_add]
   rw [e] at h9
   exact h9
 obtain ⟨w2,hka,gU,jU⟩:=Qc (P:=Tryz.prog) w1 29 29 89 j0 Tryz.underlying29 bX jz1 (e:=Am.enc) (by decide) hd i ad _ _ _ pI (by omega)
 obtain ⟨q,hq⟩:∃ q,q+1=rs.length:=⟨rs.length - 1,by omega⟩
 rw [show i+(rs.length - (i+1))=q by omega] at hka gU
 have hL:(rs.take i ++ rs.drop (i+1) ++ rs.drop q).length=rs.length:=by simp;omega
 refine tY 5 ?_
 (try simp only [pS])
 refine rC 6 (fun K_ hK=>?_)
 refine Tm w1 (.tmp 22) (.tmp 25) rfl rfl rfl hka ?_
 refine hK.out _ _ trivial (fun hHeld=>?_)
 clear hK K_
 (try simp only [pS])
 refine rC 7 (fun K_ hK=>?_)
 go_simp
 refine hK.out _ _ trivial (fun hHeld=>?_)
 clear hK K_
 (try simp only [pS])
 refine wpAnyH_done (by kernel_rfl) ?_ _
 refine NoPanic.normal ?_
 clear hka hHeld hadv pI hR1
 have hR2:=Rd.of_own gU
 have hf2:=fun j=>gU.free j
 have kz:∀ w,(zeroValue 89).run Tryz.prog w = .ok (.agg #[.int .i64 0,.int .i64 0,.int .i64 0,.int .i64 0,.int .i64 0,.slice none 0 0,.int .i64 0,.slice none 0 0]) w:=fun w=>by
  simp [zeroValue,typeInfo,bX,jz0]
 have kc:=K6 (P:=Tryz.prog) w2 29 89 0 (.agg #[.int .i64 0,.int .i64 0,.int .i64 0,.int .i64 0,.int .i64 0,.slice none 0 0,.int .i64 0,.slice none 0 0]) Tryz.underlying29 kz g (q * 8) (rs.length - q) (c - q) (by omega) (fun v hv=>by
   simp [Value.cells] at hv
   first | (rcases hv with rfl | rfl<;>rfl) | (rcases hv with rfl | rfl | rfl<;>rfl) | (rcases hv with rfl | rfl | rfl | rfl<;>rfl) | (rcases hv with (rfl | rfl) | rfl<;>rfl)) (fun x hx=>by
   have eE:x<(rs.length - q) * 8:=hx
   have:=hR2.some_ (by decide) (q * 8+x) (by
    show _<_ * 8
    rw [hL]
    omega)
   rw [Nat.zero_add] at this
   exact this) hf2
 have hq0:(0:Int)<=(q:Int):=by omega
 have hq1:(q:Int)<=(rs.length:Int):=by omega
 have hcq:¬ c=q:=by omega
 obtain ⟨sV,rZ⟩:=gU.clear q (Builtin.zeroCells #[.int .i64 0,.int .i64 0,.int .i64 0,.int .i64 0,.int .i64 0,.slice none 0 0,.int .i64 0,.slice none 0 0] (rs.length - q)).toList (by
  have e:(Builtin.zeroCells #[.int .i64 0,.int .i64 0,.int .i64 0,.int .i64 0,.int .i64 0,.slice none 0 0,.int .i64 0,.slice none 0 0] (rs.length - q)).toList.length=(rs.length - q) * 8:=by simp [Builtin.zeroCells]
  rw [e,hL]
  show q * 8+_<=_ * 8
  omega) (by rw [hL];omega)
 rw [List.take_left' (by simp;omega)] at sV
 have HF:=Lib.hid (show Ow Am.enc 89 _ base (.slice (some ⟨g,0,none⟩) (rs.length - 1) c) (rs.take i ++ rs.drop (i+1))/\w.grownBy _ (some g) from ⟨by rw [show rs.length - 1=q by omega];exact sV,(gd.trans jU).trans rZ⟩)
 have hq':=Lib.hid hq
 clear sV rZ gd jU hR2 gU hq hd
 go_wp2
 go_ret
 exact ⟨by rw [show rs.length - 1=q by have:=hq'.out;omega];rfl,HF.out⟩
theorem Vn (y:Yard) (s:Sl×Sl) (w:World) (hl:Ai y<=2000000) (hY:Bq y) (h:Ab.rd w w.heap.size y s) :
  Calls Tryz.prog 174 #[By y s] w (Cj (Dt.list (Dt.flats Fz)) slV ((Dm y y.runs.length).map (Gh y)) w):=by
 obtain ⟨⟨A1,n1,c1⟩,⟨A2,n2,c2⟩⟩:=s
 obtain rfl:n2=y.runs.length:=RdL.at1 (s:=⟨A2,n2,c2⟩) h.2
 have CX:=Lib.hid (fun W (hW:Below w.heap.size w W)=>show RdL Am W w.heap.size (.slice A2 y.runs.length c2) y.runs from (Ab.rd_below (x:=y) (s:=(⟨A1,n1,c1⟩,⟨A2,y.runs.length,c2⟩)) h hW).2)
 have mQ:y.runs.length<=8:=hY.2.2.2.2.2.2.1
 have HP:=Lib.hid hY
 clear h hY
 obtain ⟨it,i0,z0,z1,z2⟩:=info_parts Ui
 obtain ⟨W,aG,X,B0⟩:=bx1 w 31 [.int .i64 y.now,.int .i64 y.seq,.slice A1 n1 c1,.slice A2 y.runs.length c2]
 go_enter Tryz.func174,Tryz.ntmps174
 go_wp2
 rw [<-aG.out]
 clear aG
 go_loopw [3,11] (fun v i wr=>∃ k:Nat,k<=y.runs.length/\i = .int .i64 k/\Hid (Bls (Dt.flats Fz) 26 wr (w.heap.size+1) v ((Dm y k).map (Gh y)))/\DBox w.heap.size [.int .i64 y.now,.int .i64 y.seq,.slice A1 n1 c1,.slice A2 y.runs.length c2] wr/\Below w.heap.size w wr) (fun _ i _=>y.runs.length - (intOf i).toNat)
 case atStart=>exact ⟨0,Nat.zero_le _,rfl,⟨[],rfl,Bld.nil _ _ _ _⟩,X,B0⟩
 case round =>
  clear X B0
  obtain ⟨k,hk,rfl,hB,X,hb⟩:=hrel
  have mB:=X.lt
  by_cases aA:k<y.runs.length
  ·have aB:(k:Int)<(y.runs.length:Int):=by omega
   have dG:(0:Int)<=(k:Int):=by omega
   obtain ⟨b,o,⟨⟨A8,n8,c8⟩,⟨At,nt,ct⟩⟩,rfl,aH,cB,e0,e1,e2,e3,e4,e5,e6,e7⟩:=(CX.out w (Below.refl _ _)).run aA
   obtain rfl:nt=y.runs[k].tasks.length:=RdL.at1 (s:=⟨At,nt,ct⟩) cB.2
   have HT:=Lib.hid (fun W (hW:Below w.heap.size w W)=>show RdL Cv W w.heap.size (.slice At y.runs[k].tasks.length ct) y.runs[k].tasks from RdL.below cB.2 hW)
   clear cB
   replace e0:=(hb.cell (p:=⟨b,_,none⟩) aH).trans e0
   replace e1:=(hb.cell (p:=⟨b,_,none⟩) aH).trans e1
   replace e2:=(hb.cell (p:=⟨b,_,none⟩) aH).trans e2
   replace e3:=(hb.cell (p:=⟨b,_,none⟩) aH).trans e3
   replace e4:=(hb.cell (p:=⟨b,_,none⟩) aH).trans e4
   replace e5:=(hb.cell (p:=⟨b,_,none⟩) aH).trans e5
   replace e6:=(hb.cell (p:=⟨b,_,none⟩) aH).trans e6
   replace e7:=(hb.cell (p:=⟨b,_,none⟩) aH).trans e7
   have R:=DBox.new 89 [.int .i64 y.runs[k].id,.int .i64 y.runs[k].plan.prio,.int .i64 y.runs[k].plan.most,.int .i64 y.runs[k].plan.wait,.int .i64 y.runs[k].plan.tasks,.slice A8 n8 c8,.int .i64 y.runs[k].state,.slice At y.runs[k].tasks.length ct] wr (b:=wr.heap.size) rfl
   have ha:Below wr.heap.size wr (wr.alloc (.cells #[.int .i64 y.runs[k].id,.int .i64 y.runs[k].plan.prio,.int .i64 y.runs[k].plan.most,.int .i64 y.runs[k].plan.wait,.int .i64 y.runs[k].plan.tasks,.slice A8 n8 c8,.int .i64 y.runs[k].state,.slice At y.runs[k].tasks.length ct] 89)):=(Below.refl _ _).alloc (Nat.le_refl _) _
   obtain ⟨X_0,X_1,X_2,X_3,X_l⟩:=X.g4
   go_upto_region 5 with fail
   clear X_0 X_1 X_2 X_3 X_l
   have hvr:=Lib.hid (show ∀ v z,Bls (Dt.flats Fz) 26 wr (w.heap.size+1) v ((Dm y k).map (Gh y))->v.ownBlock=some z->z≠wr.heap.size from fun v z ⟨rs,hm,nT⟩ hz=>by have h1:=nT.ow.within z hz;omega)
   have hvr2:=fun z=>hvr.out _ z hB.out
   replace X:=X.below ha
   replace hb:=Aa hb ha
   have fJ:=Lib.hid (hB.out.below ha)
   have dM:=R.lt
   have sM:w.heap.size+1<=wr.heap.size:=mB
   clear e0 e1 e2 e3 e4 e5 e6 e7 aH ha hB hvr
   generalize wr.alloc (.cells #[.int .i64 y.runs[k].id,.int .i64 y.runs[k].plan.prio,.int .i64 y.runs[k].plan.most,.int .i64 y.runs[k].plan.wait,.int .i64 y.runs[k].plan.tasks,.slice A8 n8 c8,.int .i64 y.runs[k].state,.slice At y.runs[k].tasks.length ct] 89)=w1 at *
   generalize wr.heap.size=rb at *
   obtain ⟨R_0,R_1,R_2,R_3,R_4,R_5,R_6,R_7,R_l⟩:=R.g8
   go_wp2
   clear R_0 R_1 R_2 R_3 R_4 R_5 R_6 R_7 R_l
   go_loopw [3,18] (fun vv i wr=>∃ (n:Nat) (v:Value),n<=y.runs[k].tasks.length/\i = .int .i64 n/\v=vv/\Hid (Bls (Dt.flats Fz) 26 wr (w.heap.size+1) v ((Dm y k ++ Gw y k n).map (Gh y)))/\Hid (∀ z,v.ownBlock=some z->z≠rb)/\DBox w.heap.size [.int .i64 y.now,.int .i64 y.seq,.slice A1 n1 c1,.slice (some ⟨b,o,none⟩) y.runs.length c2] wr/\DBox rb [.int .i64 y.runs[k].id,.int .i64 y.runs[k].plan.prio,.int .i64 y.runs[k].plan.most,.int .i64 y.runs[k].plan.wait,.int .i64 y.runs[k].plan.tasks,.slice A8 n8 c8,.int .i64 y.runs[k].state,.slice At y.runs[k].tasks.length ct] wr/\Below w.heap.size w wr) (fun _ i _=>y.runs[k].tasks.length - (intOf i).toNat)
   case atStart=>exact ⟨0,_,Nat.zero_le _,rfl,rfl,by rw [Sg,List.append_nil];exact fJ,Lib.hid hvr2,X,R,hb⟩
   case round =>
    clear X R hb fJ hvr2 dM
    obtain ⟨n,v,hn,rfl,rfl,hB,gQ,X,R,hb⟩:=hrel
    by_cases eQ:n<y.runs[k].tasks.length
    ·have eU:=(Cb (Co HP.out aA)).2
     have nR:(n:Int)<(y.runs[k].tasks.length:Int):=by omega
     have tU:(0:Int)<=(n:Int):=by omega
     obtain ⟨b',o',_,rfl,bI,_,d0,d1,d2,d3⟩:=(HT.out wr hb).task eQ
     have hU:=Lib.hid (fun hs=>Sh HP.out aA eQ hs)
     have hJ:=Lib.hid (show Ax (En y k) n=y.runs[k].tasks[n] by rw [Cw aA,Aw eQ])
     have hRow:Hid (Gh y (k,n)=[y.runs[k].id,(n:Int),y.runs[k].tasks[n].try_]):=by
      show Gh y (k,n)=_
      unfold Gh
      rw [hJ.out,Cw aA]
     have aJ:=Lib.hid (show (Dm y k ++ Gw y k n).length<=3000000 by
      have h1:=Jg (Kl HP.out) k
      have h2:=Ol y k n
      have h5:=(Cb (Co HP.out aA)).2
      rw [List.length_append]
      omega)
     have hlT:=Lib.hid (rfl:y.runs[k].tasks.length=y.runs[k].tasks.length)
     generalize y.runs[k].tasks[n]=x at *
     have TB:=DBox.new 138 [.int .i64 x.state,.int .i64 x.need,.int .i64 x.try_,.int .i64 x.until_] wr (b:=wr.heap.size) rfl
     have b2:Below wr.heap.size wr (wr.alloc (.cells #[.int .i64 x.state,.int .i64 x.need,.int .i64 x.try_,.int .i64 x.until_] 138)):=(Below.refl _ _).alloc (Nat.le_refl _) _
     go_upto_region 8 with fail
     have dM:=R.lt
     have hvt:=Lib.hid (show ∀ z,v.ownBlock=some z->w.heap.size+1<=z/\z<wr.heap.size from fun z hz=>by
      obtain ⟨rs,hm,nT⟩:=hB.out
      exact nT.ow.within z hz)
     replace X:=X.below b2
     replace R:=R.below b2
     have aF:=Aa hb b2
     have fJ:=Lib.hid (hB.out.below b2)
     clear b2 d0 d1 d2 d3 hb hB bI
     generalize wr.alloc (.cells #[.int .i64 x.state,.int .i64 x.need,.int .i64 x.try_,.int .i64 x.until_] 138)=w2 at *
     generalize wr.heap.size=tb at *
     obtain ⟨X_0,X_1,X_2,X_3,X_l⟩:=X.g4
     obtain ⟨TB_0,TB_1,TB_2,TB_3,TB_l⟩:=TB.g4
     by_cases q:x.state=3
     case neg =>
      have q1:(x.state == 3)=false:=by simp [q]
      have S:=Lib.hid (N3 (y:=y) (k:=k) (n:=n) (by rw [hJ.out];unfold N2;rw [q1];rfl))
      clear q
      go_wp2
      exact ⟨⟨n+1,v,eQ,by go_num,rfl,by rw [S.out];exact fJ,gQ,X,R,aF⟩,by simp [intOf];omega⟩
     have q1:(x.state == 3)=true:=by simp [q]
     have hu:=hU.out q
     have wr1:IntKind.i64.wrap (x.until_ - 1)=x.until_ - 1:=IntWalk.i64_in _ (by have:=HP.out.1;omega)
     have q2:¬ x.until_<=y.now:=by omega
     by_cases q3:x.until_ - 1=y.now
     case neg =>
      have q4:(x.until_ - 1 == y.now)=false:=by simp [q3]
      have S:=Lib.hid (N3 (y:=y) (k:=k) (n:=n) (by rw [hJ.out];unfold N2;rw [q1,decide_eq_false (by omega)];rfl))
      clear q hu
      go_wp2
      exact ⟨⟨n+1,v,eQ,by go_num,rfl,by rw [S.out];exact fJ,gQ,X,R,aF⟩,by simp [intOf];omega⟩
     have wr2:IntKind.i64.wrap y.now=y.now:=IntWalk.i64_in _ (by have:=HP.out.1;omega)
     have S:=Lib.hid (Uj (y:=y) (k:=k) (n:=n) (by rw [hJ.out];unfold N2;rw [q1,decide_eq_true (by omega)];rfl))
     clear q hu
     obtain ⟨R_0,R_1,R_2,R_3,R_4,R_5,R_6,R_7,R_l⟩:=R.g8
     go_upto_region 9 with fail
     generalize hrid:y.runs[k].id=rid at *
     have o9:=Ow.intsK w2 3 [rid,(n:Int),x.try_] (cs:=#[.int .i64 rid,.int .i64 (n:Int),.int .i64 x.try_]) rfl (n:=3) (g:=w2.heap.size) (base:=w2.heap.size) rfl rfl (Nat.le_refl _) (by simp)
     have b4:Below w2.heap.size w2 (w2.alloc (.cells #[.int .i64 rid,.int .i64 (n:Int),.int .i64 x.try_] 3)):=(Below.refl _ _).alloc (Nat.le_refl _) _
     obtain ⟨hw9,hwB⟩:=Hw.of_ow o9
     have b5:Below (w2.alloc (.cells #[.int .i64 rid,.int .i64 (n:Int),.int .i64 x.try_] 3)).heap.size (w2.alloc (.cells #[.int .i64 rid,.int .i64 (n:Int),.int .i64 x.try_] 3)) ((w2.alloc (.cells #[.int .i64 rid,.int .i64 (n:Int),.int .i64 x.try_] 3)).alloc (.cells #[.slice (some ⟨w2.heap.size,0,none⟩) 3 3] 26)):=(Below.refl _ _).alloc (Nat.le_refl _) _
     have b45:=Aa b4 b5
     obtain ⟨rs,hm,jN⟩:=fJ.out
     have tB:rs.length<=3000000:=by
      have h1:=congrArg List.length hm
      rw [List.length_map,List.length_map] at h1
      rw [h1]
      exact aJ.out
     have tB:=Lib.hid tB
     have bZ:=Aa aF b45
     have X3:=X.below b45
     have R3:=R.below b45
     have eG:=aF.size
     go_wp2_with (at_builtin;refine Ak _ (Dt.flats Fz).enc (by decide) rfl (.tmp 41) (.tmp 48) rfl Tryz.underlying215 i0 z0 z1 z2 rfl (v:=v) (l:=rs) rfl (jN.ow.below b45) (A:=some ⟨w2.heap.size+1,0,none⟩) (m:=1) (c:=1) (ys:=[([rid,(n:Int),x.try_],(⟨some ⟨w2.heap.size,0,none⟩,3,3⟩:Sl))]) rfl (Rd.one (Dt.flats Fz).enc _ _ ([rid,(n:Int),x.try_],(⟨some ⟨w2.heap.size,0,none⟩,3,3⟩:Sl)) (by simp) rfl 1 (Nat.le_refl _) (Nat.lt_succ_self _)) tB.out (by simp) (by decide) (by have:=b45.size;omega) ?_;intro v6 w6 o6 gg f6)
     have pB:∀ z,v.ownBlock=some z->w.heap.size+1<=z/\z<tb/\z≠rb:=fun z hz=>⟨(hvt.out z hz).1,(hvt.out z hz).2,gQ.out z hz⟩
     have X6:=X3.off gg (fun e=>by have:=(pB _ e.symm).1;omega)
     have R6:=R3.off gg (fun e=>(pB _ e.symm).2.2 rfl)
     have mC:Below w.heap.size w w6:=bZ.grown gg bZ.size (fun g hg=>by have:=(pB g hg).1;omega)
     have hP:=Bld.push1 (d:=Dt.flats Fz) (x:=[rid,(n:Int),x.try_]) (s:=(⟨some ⟨w2.heap.size,0,none⟩,3,3⟩:Sl)) jN b4 hw9 (fun y hy=>hwB y hy) (by omega) b5 o6 gg f6
     have kD:(rs ++ [([rid,(n:Int),x.try_],(⟨some ⟨w2.heap.size,0,none⟩,3,3⟩:Sl))]).map (·.1)=(Dm y k ++ Gw y k (n+1)).map (Gh y):=by
      simp only [List.map_append,List.map_cons,List.map_nil,hm,S.out,hRow.out,List.append_assoc]
     have hvn6:=Lib.hid (show ∀ z,v6.ownBlock=some z->z≠rb from fun z hz=>by
      rcases f6 with f6 | f6
      ·exact gQ.out z (f6.symm.trans hz)
      ·have h1:some _=some z:=f6.symm.trans hz
       have h2:=Option.some.inj h1
       have h3:=b45.size
       have h4:=R.lt
       omega)
     have hB7:=Lib.hid (show Bls (Dt.flats Fz) 26 w6 (w.heap.size+1) v6 ((Dm y k).map (Gh y) ++ (Gw y k (n+1)).map (Gh y)) by rw [<-List.map_append];exact ⟨_,kD,hP⟩)
     clear hP kD jN o6 gg f6 X3 R3 bZ hm
     refine ⟨⟨v6,.int .i64 (n:Int),.pointer (some ⟨tb,0,none⟩),.int .i64 ((n+1:Nat):Int),⟨n+1,eQ,rfl,hB7,hvn6,X6,R6,mC⟩,rfl,rfl,rfl,by simp⟩,by simp [intOf];omega⟩
    ·have nR:¬ (n:Int)<(y.runs[k].tasks.length:Int):=by omega
     have S:=Lib.hid (show Dm y (k+1)=Dm y k ++ Gw y k n by
      rw [Nc,show (En y k).tasks.length=n by rw [Cw aA];omega])
     go_wp2
     exact ⟨⟨k+1,by omega,by go_num,by rw [S.out];exact hB,X,hb⟩,by simp [intOf];omega⟩
  ·have aB:¬ (k:Int)<(y.runs.length:Int):=by omega
   obtain rfl:k=y.runs.length:=by omega
   obtain ⟨rs,hm,nT⟩:=hB.out
   obtain ⟨F,h1,h2⟩:=nT.owl hm
   obtain ⟨A,c,hv,_⟩:=h1.form
   rw [List.length_map] at hv
   subst hv
   have dP:Cj (Dt.list (Dt.flats Fz)) slV ((Dm y y.runs.length).map (Gh y)) w (.returned (.slice A (Dm y y.runs.length).length c)) wr:=⟨⟨A,_,c⟩,F,rfl,h1,fun x hx=>by have:=h2 x hx;omega,hb⟩
   clear hB nT h1
   go_wp2
   go_ret
   exact dP
end Go.Proofs.YtonlnjdempbfoaaGreat
