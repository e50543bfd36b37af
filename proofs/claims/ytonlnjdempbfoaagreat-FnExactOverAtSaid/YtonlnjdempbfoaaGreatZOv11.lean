/-
  RunNew of the reference.  VictimsOf of the program. RunLeft of the program. Submit of the reference. Written by program (kx.py). RunNew of the program. Written 
-/
import Derived.Test.YtonlnjdempbfoaaGreatZOv2
import Derived.Test.YtonlnjdempbfoaaGreatZOv5
import Derived.Test.YtonlnjdempbfoaaGreatZOv7
import Derived.Test.YtonlnjdempbfoaaGreatZOv9
import Derived.Test.YtonlnjdempbfoaaGreatZOv10
namespace Go.Proofs.YtonlnjdempbfoaaGreat
open Go.RowKit
set_option maxRecDepth 100000
set_option maxHeartbeats 4000000
set_option linter.unusedVariables false
set_option linter.unusedSimpArgs false
theorem Y2 {b:Nat} {w:World} {u0 u1 u2 u3 u4 u5 u6 u7 v5:Value} (X:DBox b [u0,u1,u2,u3,u4,u5,u6,u7] w) {v0 v1 v2 v3:Value} {rest:List Value} :
  (results Tryz.f201 (v0 :: v1 :: v2 :: v3 :: .pointer (some ⟨b,0,none⟩) :: v5 :: rest).toArray).run Tryz.prog w = .ok (.tuple #[.agg #[u0,u1,u2,u3,u4,u5,u6,u7],v5]) w:=by
 have c0:=X.cell 0 _ rfl
 have c1:=X.cell 1 _ rfl
 have c2:=X.cell 2 _ rfl
 have c3:=X.cell 3 _ rfl
 have c4:=X.cell 4 _ rfl
 have c5:=X.cell 5 _ rfl
 have c6:=X.cell 6 _ rfl
 have c7:=X.cell 7 _ rfl
 simp [results,Tryz.results201,go_sem,c0,c1,c2,c3,c4,c5,c6,c7]
theorem Lr {α:Type} (f:Nat->α) (k:Nat):(List.range (k+1)).map f=(List.range k).map f ++ [f k]:=by rw [List.range_succ,List.map_append];rfl
def Zs (r:Run) (w:World) (e:Ending) (w':World):Prop :=
 ∃ s F,e = .returned (.tuple #[Ey r s,.bool true])/\Am.ow w' F r s/\(∀ b∈F,w.heap.size<=b)/\Below w.heap.size w w'
theorem Sa (id:Int) (p:Plan) (s:Sl) (w:World) (hid:inB id 1 9999=true) (hf:Aq p=0) (h:Ag.rd w w.heap.size p s) :
  Calls Tryz.prog 201 #[.int .i64 id,Hi p s] w (Zs (An id p) w):=by
 have fI:=Bn.1 hf
 have hT:=Ch fI.1
 have hE:=Dh fI.1
 obtain ⟨A,n,c⟩:=s
 obtain rfl:n=p.edges.length:=RdL.at1 (s:=⟨A,n,c⟩) h
 have qT:=Lib.hid (fun W (hW:Below w.heap.size w W)=>((Gf h).below hW).more hW.size)
 have CP:=Lib.hid (fun W (hW:Below w.heap.size w W)=>Kg p ⟨A,p.edges.length,c⟩ W (by unfold C8;rw [El (cnt:=Dy) (fun _=>rfl)];omega) (Ag.rd_more (Ag.rd_below h hW) hW.size))
 have CF:=Lib.hid (fun W (hW:Below w.heap.size w W)=>Ht p (.slice A p.edges.length c) W (by omega) (qT.out W hW))
 have CB:=Lib.hid (fun W (hW:Below w.heap.size w W) t=>Lf p (.slice A p.edges.length c) t W fI.1 fI.2.1 fI.2.2.1 (qT.out W hW))
 rw [hf] at CF
 obtain ⟨i0,aP,aX,aV,aQ⟩:=info_parts L8
 clear h fI hE hf
 have X:=(DBox.new 43 [.int .i64 p.prio,.int .i64 p.most,.int .i64 p.wait,.int .i64 p.tasks,.slice A p.edges.length c] w (b:=w.heap.size) rfl).below ((Below.refl _ _).alloc (Nat.le_refl _) (.cells #[.int .i64 0,.int .i64 0,.int .i64 0,.int .i64 0,.int .i64 0,.slice none 0 0,.int .i64 0,.slice none 0 0] 89))
 have RES:=DBox.new 89 [.int .i64 0,.int .i64 0,.int .i64 0,.int .i64 0,.int .i64 0,.slice none 0 0,.int .i64 0,.slice none 0 0] (w.alloc (.cells #[.int .i64 p.prio,.int .i64 p.most,.int .i64 p.wait,.int .i64 p.tasks,.slice A p.edges.length c] 43)) (b:=w.heap.size+1) (by simp)
 have B0:Below w.heap.size w ((w.alloc (.cells #[.int .i64 p.prio,.int .i64 p.most,.int .i64 p.wait,.int .i64 p.tasks,.slice A p.edges.length c] 43)).alloc (.cells #[.int .i64 0,.int .i64 0,.int .i64 0,.int .i64 0,.int .i64 0,.slice none 0 0,.int .i64 0,.slice none 0 0] 89)):=by repeat (first | exact Below.refl _ _ | refine Below.alloc ?_ (by simp<;>omega) _)
 go_enter Tryz.func201,Tryz.ntmps201
 go_wp2_with (go_at_call 155;refine (Aj _ _ _ _).mono ?_;rintro e w9 ⟨rfl,rfl⟩;rw [hid])
 generalize ((w.alloc (.cells #[.int .i64 p.prio,.int .i64 p.most,.int .i64 p.wait,.int .i64 p.tasks,.slice A p.edges.length c] 43)).alloc (.cells #[.int .i64 0,.int .i64 0,.int .i64 0,.int .i64 0,.int .i64 0,.slice none 0 0,.int .i64 0,.slice none 0 0] 89))=W at *
 refine (CF.out _ B0).mono ?_
 rintro e1 w1 ⟨rfl,b1⟩
 have dM:=RES.lt
 replace X:=X.below b1
 replace RES:=RES.below b1
 obtain ⟨X_0,X_1,X_2,X_3,X_4,X_l⟩:=X.g5
 have B1:=Aa B0 b1
 have bJ:=b1.size
 clear B0 b1
 go_wp2_with fail
 refine (CP.out _ B1).mono ?_
 rintro e1 w2 ⟨⟨A3,n3,c3⟩,F,rfl,op,nF,b2⟩
 clear X_0 X_1 X_2 X_3 X_4 X_l
 replace X:=X.below b2
 replace RES:=RES.below b2
 have B2:=Aa B1 b2
 have eG:=b2.size
 have cH:=Ag.ow_lt op
 clear B1 b2 CP CF
 obtain ⟨X_0,X_1,X_2,X_3,X_4,X_l⟩:=X.g5
 go_upto_region 4 with fail
 have RB:=DBox.new 89 [.int .i64 id,.int .i64 p.prio,.int .i64 p.most,.int .i64 p.wait,.int .i64 p.tasks,.slice A3 n3 c3,.int .i64 1,.slice none 0 0] w2 (b:=w2.heap.size) rfl
 have b3:Below w2.heap.size w2 (w2.alloc (.cells #[.int .i64 id,.int .i64 p.prio,.int .i64 p.most,.int .i64 p.wait,.int .i64 p.tasks,.slice A3 n3 c3,.int .i64 1,.slice none 0 0] 89)):=(Below.refl _ _).alloc (Nat.le_refl _) _
 clear X_0 X_1 X_2 X_3 X_4 X_l
 replace X:=X.below b3
 replace RES:=RES.below b3
 replace op:=Ag.ow_below op b3
 have B3:=Aa B2 b3
 have jP:=b3.size
 have hRB:=RB.lt
 generalize w2.alloc (.cells #[.int .i64 id,.int .i64 p.prio,.int .i64 p.most,.int .i64 p.wait,.int .i64 p.tasks,.slice A3 n3 c3,.int .i64 1,.slice none 0 0] 89)=w3 at *
 generalize uA:w2.heap.size=rb at *
 have bT:∀ x∈F,w.heap.size+1<x/\x<rb:=fun x hx=>⟨by have:=nF x hx;omega,cH x hx⟩
 clear cH nF B2 b3
 obtain ⟨T,sD⟩:∃ T:Nat,p.tasks=T:=⟨p.tasks.toNat,by omega⟩
 have kY:=Lib.hid sD
 have pR:=Lib.hid (show p.tasks.toNat=T by omega)
 have eU:T<=12:=by omega
 clear sD
 have hH:Hid (An id p=⟨id,p,1,(List.range T).map (Ck p)⟩):=by
  show An id p=_
  unfold An
  rw [pR.out]
 go_wp2
 go_loopw [7] (fun i wr=>∃ (k:Nat) (vt:Value),k<=T/\i = .int .i64 k/\Hid (Ow Dj 138 wr (rb+1) vt ((List.range k).map (Ck p)))/\DBox w.heap.size [.int .i64 p.prio,.int .i64 p.most,.int .i64 p.wait,.int .i64 p.tasks,.slice A p.edges.length c] wr/\DBox (w.heap.size+1) [.int .i64 0,.int .i64 0,.int .i64 0,.int .i64 0,.int .i64 0,.slice none 0 0,.int .i64 0,.slice none 0 0] wr/\DBox rb [.int .i64 id,.int .i64 p.prio,.int .i64 p.most,.int .i64 p.wait,.int .i64 p.tasks,.slice A3 n3 c3,.int .i64 1,vt] wr/\Hid (Ag.ow wr F p ⟨A3,n3,c3⟩)/\Below w.heap.size w wr/\rb<wr.heap.size) (fun i _=>T - (intOf i).toNat)
 case atStart=>exact ⟨0,_,Nat.zero_le _,rfl,Ow.nil Dj 138 w3 (rb+1),X,RES,RB,op,B3,hRB⟩
 case round =>
  clear X RES RB op B3
  obtain ⟨k,vt,hk,rfl,ho,X,RES,RB,op,hb,bR⟩:=hrel
  obtain ⟨X_0,X_1,X_2,X_3,X_4,X_l⟩:=X.g5
  obtain ⟨RB_0,RB_1,RB_2,RB_3,RB_4,RB_5,RB_6,RB_7,RB_l⟩:=RB.g8
  by_cases aA:k<T
  ·have aB:(k:Int)<p.tasks:=by have:=kY.out;omega
   have hS:=Lib.hid (Lr (Ck p) k)
   go_wp2_with fail
   refine (CB.out _ hb k).mono ?_
   rintro e1 w4 ⟨vb,rfl,ob,b4⟩
   obtain ⟨A9,c9,rfl,-⟩:=_root_.id (Rd.of_own ob)
   have kU:(Cf (Ca p) p.tasks.toNat k).length<=12:=by have h1:=Gn (Ca p) p.tasks.toNat k;have h2:=pR.out;omega
   have hN:Hid (Ck p k=⟨if (Cf (Ca p) p.tasks.toNat k).length=0 then 2 else 1,(Cf (Ca p) p.tasks.toNat k).length,0,0⟩):=rfl
   have tZ:=Lib.hid (show ((List.range k).map (Ck p)).length<=3000000 by simp;omega)
   generalize (Cf (Ca p) p.tasks.toNat k).length=N at *
   clear X_0 X_1 X_2 X_3 X_4 X_l
   clear RB_0 RB_1 RB_2 RB_3 RB_4 RB_5 RB_6 RB_7 RB_l
   have hb4s:=b4.size
   have bN:=hb.size
   replace X:=X.below b4
   replace RES:=RES.below b4
   replace RB:=RB.below b4
   replace op:=Ag.ow_below op.out b4
   have dA:=ho.out.below b4
   have bQ:=Aa hb b4
   clear ho b4 ob hb
   obtain ⟨RB_0,RB_1,RB_2,RB_3,RB_4,RB_5,RB_6,RB_7,RB_l⟩:=RB.g8
   have rbf:=RB.free
   by_cases hz:N=0
   ·subst hz
    have rJ:Hid (Ck p k=⟨2,0,0,0⟩):=by rw [if_pos rfl] at hN;exact hN
    clear hN
    have b5:Below w4.heap.size w4 (w4.alloc (.cells #[.int .i64 2,.int .i64 0,.int .i64 0,.int .i64 0] 138)):=(Below.refl _ _).alloc (Nat.le_refl _) _
    have XB:=DBox.new 138 [.int .i64 2,.int .i64 0,.int .i64 0,.int .i64 0] w4 (b:=w4.heap.size) rfl
    go_upto_region 10 with fail
    clear RB_0 RB_1 RB_2 RB_3 RB_4 RB_5 RB_6 RB_7 RB_l
    clear rbf
    replace X:=X.below b5
    replace RES:=RES.below b5
    replace RB:=RB.below b5
    replace op:=Ag.ow_below op b5
    replace dA:=dA.below b5
    replace bQ:=Aa bQ b5
    have hb5s:=b5.size
    clear b5
    generalize w4.alloc (.cells #[.int .i64 2,.int .i64 0,.int .i64 0,.int .i64 0] 138)=w5 at *
    obtain ⟨RB_0,RB_1,RB_2,RB_3,RB_4,RB_5,RB_6,RB_7,RB_l⟩:=RB.g8
    obtain ⟨XB_0,XB_1,XB_2,XB_3,XB_l⟩:=XB.g4
    have rbf:=RB.free
    have ha:Hid (∀ w:World,Below w.heap.size w (w.alloc (.cells #[.int .i64 2,.int .i64 0,.int .i64 0,.int .i64 0] 138))):=fun w=>(Below.refl _ _).alloc (Nat.le_refl _) _
    have HL:Hid (((List.range k).map (Ck p)).length=k):=by
     show ((List.range k).map (Ck p)).length=k
     simp
    go_wp2_with (at_builtin;refine Ak _ Dj (by decide) rfl (.tmp 38) (.tmp 40) rfl Tryz.underlying87 aP aX aV aQ rfl (base:=rb+1) (l:=(List.range k).map (Ck p)) rfl (dA.below (ha.out w5)) rfl (Rd.one Dj _ _ ⟨2,0,0,0⟩ rfl rfl 1 (Nat.le_refl _) (Nat.lt_succ_self _)) tZ.out (by simp) (by decide) (by simp;omega) ?_;intro v5 w6 o6 g6 _;obtain ⟨⟨va,vn,vc⟩,rfl⟩:∃ s:Sl,v5 = .slice s.a s.n s.c:=(by obtain ⟨A7,c7,rfl,_⟩:=Rd.of_own o6;exact ⟨⟨A7,_,c7⟩,rfl⟩);have RB6:=(RB.below (ha.out w5)).off g6 (fun e=>by have:=dA.within _ e.symm;omega);have q7:=RB6.cell 7 _ rfl;have qf:=RB6.free;have ql:=RB6.lt)
    have aH:Below w.heap.size w w6:=(Aa bQ (ha.out w5)).grown g6 (Aa bQ (ha.out w5)).size (fun g hg=>by have:=dA.within _ hg;omega)
    have X6:=(X.below (ha.out w5)).off g6 (fun e=>by have:=dA.within _ e.symm;omega)
    have RES6:=(RES.below (ha.out w5)).off g6 (fun e=>by have:=dA.within _ e.symm;omega)
    have op6:=(Ag.ow_keep (Ag.ow_below op (ha.out w5)) g6.size (fun b cP=>g6.block b (Ag.ow_lt (Ag.ow_below op (ha.out w5)) b cP) (fun e=>by have h1:=dA.within _ e.symm;have h2:=bT b cP;omega)))
    have dP:Ow Dj 138 (w6.setCell ⟨rb,7,none⟩ (.slice va vn vc)) (rb+1) (.slice va vn vc) ((List.range (k+1)).map (Ck p)):=by
     rw [hS.out,rJ.out]
     exact o6.setOther (fun e=>by have h1:rb+1<=rb:=(o6.within _ e).1;omega) _
    exact ⟨⟨k+1,_,by omega,by go_num,dP,X6.setOther (by show w.heap.size≠rb;omega) _,RES6.setOther (by show w.heap.size+1≠rb;omega) _,RB6.set 7 (by simp) _,Ag.ow_set op6 (a:=⟨rb,7,none⟩) (fun hx=>by have h1:w.heap.size+1<rb/\rb<rb:=bT _ hx;omega) _,aH.setCell (by show w.heap.size<=rb;omega) _,by simp [World.setCell];omega⟩,by simp [intOf];omega⟩
   ·have rJ:Hid (Ck p k=⟨1,N,0,0⟩):=by rw [if_neg hz] at hN;exact hN
    have hNI:(0:Int)<(N:Int):=by omega
    clear hN hz
    have b5:Below w4.heap.size w4 (w4.alloc (.cells #[.int .i64 1,.int .i64 (N:Int),.int .i64 0,.int .i64 0] 138)):=(Below.refl _ _).alloc (Nat.le_refl _) _
    have XB:=DBox.new 138 [.int .i64 1,.int .i64 (N:Int),.int .i64 0,.int .i64 0] w4 (b:=w4.heap.size) rfl
    go_upto_region 10 with fail
    clear RB_0 RB_1 RB_2 RB_3 RB_4 RB_5 RB_6 RB_7 RB_l
    clear rbf
    replace X:=X.below b5
    replace RES:=RES.below b5
    replace RB:=RB.below b5
    replace op:=Ag.ow_below op b5
    replace dA:=dA.below b5
    replace bQ:=Aa bQ b5
    have hb5s:=b5.size
    clear b5
    generalize w4.alloc (.cells #[.int .i64 1,.int .i64 (N:Int),.int .i64 0,.int .i64 0] 138)=w5 at *
    obtain ⟨RB_0,RB_1,RB_2,RB_3,RB_4,RB_5,RB_6,RB_7,RB_l⟩:=RB.g8
    obtain ⟨XB_0,XB_1,XB_2,XB_3,XB_l⟩:=XB.g4
    have rbf:=RB.free
    have ha:Hid (∀ w:World,Below w.heap.size w (w.alloc (.cells #[.int .i64 1,.int .i64 (N:Int),.int .i64 0,.int .i64 0] 138))):=fun w=>(Below.refl _ _).alloc (Nat.le_refl _) _
    have HL:Hid (((List.range k).map (Ck p)).length=k):=by
     show ((List.range k).map (Ck p)).length=k
     simp
    go_wp2_with (at_builtin;refine Ak _ Dj (by decide) rfl (.tmp 38) (.tmp 40) rfl Tryz.underlying87 aP aX aV aQ rfl (base:=rb+1) (l:=(List.range k).map (Ck p)) rfl (dA.below (ha.out w5)) rfl (Rd.one Dj _ _ ⟨1,(N:Int),0,0⟩ rfl rfl 1 (Nat.le_refl _) (Nat.lt_succ_self _)) tZ.out (by simp) (by decide) (by simp;omega) ?_;intro v5 w6 o6 g6 _;obtain ⟨⟨va,vn,vc⟩,rfl⟩:∃ s:Sl,v5 = .slice s.a s.n s.c:=(by obtain ⟨A7,c7,rfl,_⟩:=Rd.of_own o6;exact ⟨⟨A7,_,c7⟩,rfl⟩);have RB6:=(RB.below (ha.out w5)).off g6 (fun e=>by have:=dA.within _ e.symm;omega);have q7:=RB6.cell 7 _ rfl;have qf:=RB6.free;have ql:=RB6.lt)
    have aH:Below w.heap.size w w6:=(Aa bQ (ha.out w5)).grown g6 (Aa bQ (ha.out w5)).size (fun g hg=>by have:=dA.within _ hg;omega)
    have X6:=(X.below (ha.out w5)).off g6 (fun e=>by have:=dA.within _ e.symm;omega)
    have RES6:=(RES.below (ha.out w5)).off g6 (fun e=>by have:=dA.within _ e.symm;omega)
    have op6:=(Ag.ow_keep (Ag.ow_below op (ha.out w5)) g6.size (fun b cP=>g6.block b (Ag.ow_lt (Ag.ow_below op (ha.out w5)) b cP) (fun e=>by have h1:=dA.within _ e.symm;have h2:=bT b cP;omega)))
    have dP:Ow Dj 138 (w6.setCell ⟨rb,7,none⟩ (.slice va vn vc)) (rb+1) (.slice va vn vc) ((List.range (k+1)).map (Ck p)):=by
     rw [hS.out,rJ.out]
     exact o6.setOther (fun e=>by have h1:rb+1<=rb:=(o6.within _ e).1;omega) _
    exact ⟨⟨k+1,_,by omega,by go_num,dP,X6.setOther (by show w.heap.size≠rb;omega) _,RES6.setOther (by show w.heap.size+1≠rb;omega) _,RB6.set 7 (by simp) _,Ag.ow_set op6 (a:=⟨rb,7,none⟩) (fun hx=>by have h1:w.heap.size+1<rb/\rb<rb:=bT _ hx;omega) _,aH.setCell (by show w.heap.size<=rb;omega) _,by simp [World.setCell];omega⟩,by simp [intOf];omega⟩
  ·have aB:¬ (k:Int)<p.tasks:=by have:=kY.out;omega
   have hkT:k=T:=by omega
   subst hkT
   have rf:=RES.free
   have RES_0:=RES.cell 0 _ rfl
   have RES_1:=RES.cell 1 _ rfl
   have RES_2:=RES.cell 2 _ rfl
   have RES_3:=RES.cell 3 _ rfl
   have RES_4:=RES.cell 4 _ rfl
   have RES_5:=RES.cell 5 _ rfl
   have RES_6:=RES.cell 6 _ rfl
   have RES_7:=RES.cell 7 _ rfl
   have ho1:=ho.out
   obtain ⟨⟨ta,tn,tc⟩,Ft,rfl,ot,nt⟩:=Qg ho1
   go_wp2
   have e1:w.heap.size+1∉F:=fun hx=>by have:=bT _ hx;omega
   have e2:w.heap.size+1∉Ft:=fun hx=>by have:=nt _ hx;omega
   refine bodyPost_ret (Y2 (DBox.row8 RES rfl _ _ _ _ _ _ _ _)) rfl ⟨(⟨A3,n3,c3⟩,⟨ta,tn,tc⟩),F ++ Ft,by rw [hH.out],⟨F,Ft,rfl,?_,?_,?_⟩,?_,?_⟩
   ·rw [List.nodup_append]
    refine ⟨Ag.ow_nodup op.out,ot.nodup,fun u hu u' hu' e=>?_⟩
    have:=bT u hu
    have:=nt u' hu'
    omega
   ·rw [hH.out]
    show Ag.ow _ F p _
    exact (by (repeat (refine Dt.ow_set Ag ?_ e1 _));exact op.out)
   ·rw [hH.out]
    show OwL Cv _ Ft _ ((List.range k).map (Ck p))
    exact ((((((((ot.set (a:=⟨w.heap.size+1,_,none⟩) e2 _).set (a:=⟨w.heap.size+1,_,none⟩) e2 _).set (a:=⟨w.heap.size+1,_,none⟩) e2 _).set (a:=⟨w.heap.size+1,_,none⟩) e2 _).set (a:=⟨w.heap.size+1,_,none⟩) e2 _).set (a:=⟨w.heap.size+1,_,none⟩) e2 _).set (a:=⟨w.heap.size+1,_,none⟩) e2 _).set (a:=⟨w.heap.size+1,_,none⟩) e2 _)
   ·intro x hx
    rcases List.mem_append.1 hx with hx | hx
    ·have:=bT x hx;omega
    ·have:=nt x hx;have:=bJ;omega
   ·repeat (first | (with_reducible exact hb) | refine Below.setCell ?_ (by simp<;>omega) _)
theorem Vj {home d k:Nat} (h:k<3):(Cp home d).take (k+1)=(Cp home d).take k ++ [(home+1+(d % 3+k) % 3) % 4]:=by
 have h1:(max (d:Int) 0 % 3).toNat=d % 3:=by omega
 unfold Cp
 rw [h1,Int.toNat_natCast]
 rcases (show k=0\/k=1\/k=2 by omega) with rfl | rfl | rfl<;>rfl
theorem Qa (n lo hi:Int) (w:World) (h:lo<=n/\n<=hi):Calls Tryz.prog 136 #[.int .i64 n,.int .i64 lo,.int .i64 hi] w fun e w'=>e = .returned (.int .i64 n)/\w=w':=by
 have h1:max lo (min n hi)=n:=by omega
 have h2:min (max n lo) hi=n:=by omega
 have h3:min hi (max n lo)=n:=by omega
 have h4:max (min n hi) lo=n:=by omega
 go_enter Tryz.func136,Tryz.ntmps136
 go_wp2
 go_ret
 exact ⟨Bw (show min n hi=n by omega),rfl⟩
theorem Qb (home d:Nat) (w:World) (hh:home<4) (hd:d<=1000000000) :
  Calls Tryz.prog 71 #[.int .i64 (home:Int),.int .i64 (d:Int)] w fun e w'=>∃ v,e = .returned v/\Ow Cs 3 w' w.heap.size v (Cp home d)/\Below w.heap.size w w':=by
 obtain ⟨j0,bX,jz0,jz1,jz2⟩:=info_parts Ok
 have CB:=Lib.hid (fun W=>Qa (home:Int) 0 3 W (by omega))
 have hmx:max (d:Int) 0=d:=by omega
 have rD:(d:Int).tmod 3=((d % 3:Nat):Int):=by
  rw [Int.tmod_eq_emod_of_nonneg (by omega)];omega
 have hm3:=Nat.mod_lt d (show 0<3 by decide)
 have hT:=Lib.hid (fun k h=>Vj (home:=home) (d:=d) (k:=k) h)
 have wD:IntKind.i64.wrap ((d % 3:Nat):Int)=((d % 3:Nat):Int):=IntWalk.i64_in _ (by omega)
 have wH:IntKind.i64.wrap ((home:Int)+1)=(home:Int)+1:=IntWalk.i64_in _ (by omega)
 have hV:=Lib.hid (show (Cp home d).length=3 by unfold Cp;simp)
 generalize Cp home d=V at *
 generalize d % 3=m at *
 go_enter Tryz.func71,Tryz.ntmps71
 go_wp2_with (go_at_call 136;refine (CB.out _).mono ?_;rintro e w1 ⟨rfl,rfl⟩)
 go_loopw [5,6] (fun v j wr=>∃ k:Nat,k<=3/\j = .int .i64 (k:Int)/\Hid (Ow Cs 3 wr w.heap.size v (V.take k))/\Below w.heap.size w wr) (fun _ j _=>3 - (intOf j).toNat)
 case atStart=>exact ⟨0,Nat.zero_le _,rfl,Ow.nil _ _ _ _,Below.refl _ _⟩
 case round =>
  obtain ⟨k,hk,rfl,hO,hb⟩:=hrel
  by_cases aA:k<3
  ·have aB:(k:Int)<3:=by omega
   have S:=Lib.hid (hT.out k aA)
   have wA:IntKind.i64.wrap ((m:Int)+(k:Int))=(m:Int)+(k:Int):=IntWalk.i64_in _ (by omega)
   have rA:((m:Int)+(k:Int)).tmod 3=(((m+k) % 3:Nat):Int):=by
    rw [Int.tmod_eq_emod_of_nonneg (by omega)];omega
   have hq3:=Nat.mod_lt (m+k) (show 0<3 by decide)
   have wB:IntKind.i64.wrap (((m+k) % 3:Nat):Int)=(((m+k) % 3:Nat):Int):=IntWalk.i64_in _ (by omega)
   generalize (m+k) % 3=q at *
   have wC:IntKind.i64.wrap ((home:Int)+1+(q:Int))=(home:Int)+1+(q:Int):=IntWalk.i64_in _ (by omega)
   have rC:((home:Int)+1+(q:Int)).tmod 4=(((home+1+q) % 4:Nat):Int):=by
    rw [Int.tmod_eq_emod_of_nonneg (by omega)];omega
   have wE:IntKind.i64.wrap (((home+1+q) % 4:Nat):Int)=(((home+1+q) % 4:Nat):Int):=IntWalk.i64_in _ (by omega)
   have Hl:=Lib.hid (show (V.take k).length<=3000000 by rw [List.length_take];omega)
   generalize (home+1+q) % 4=x at *
   have ha:Hid (∀ w:World,Below w.heap.size w (w.alloc (.cells #[.int .i64 (x:Int)] 3))):=fun w=>(Below.refl _ _).alloc (Nat.le_refl _) _
   have cL:=hO.out
   have cD:=hb.size
   go_wp2_with (at_builtin;refine Ak _ Cs (by decide) rfl (.tmp 13) (.tmp 24) rfl Tryz.underlying26 bX jz0 jz1 jz2 rfl (base:=w.heap.size) (l:=V.take k) rfl (cL.below (ha.out wr)) rfl (Rd.one Cs _ _ x rfl rfl 1 (Nat.le_refl _) (Nat.lt_succ_self _)) Hl.out (by simp) (by decide) (by simp;omega) ?_;intro v5 w5 o5 g5 _)
   have eH:Below w.heap.size w w5:=(Aa hb (ha.out wr)).grown g5 (Aa hb (ha.out wr)).size (fun g hg=>by have:=cL.within _ hg;omega)
   exact ⟨⟨k+1,by omega,by go_num,by rw [S.out];exact o5,eH⟩,by simp [intOf];omega⟩
  ·have aB:¬ (k:Int)<3:=by omega
   have cL:=hO.out
   rw [List.take_of_length_le (by have:=hV.out;omega)] at cL
   clear hO
   go_wp2
   go_ret
   exact ⟨_,rfl,cL,hb⟩
theorem Abp {r:Run} (h:Er r) (hS:r.state=1):∀ k (hk:k<r.tasks.length),r.tasks[k].state≠5:=by
 have h1:=h.2.2.2.2.1
 rw [hS] at h1
 unfold stL at h1
 have h0:Bx r.tasks 5=0:=by
  split at h1
  ·omega
  split at h1
  ·omega
  split at h1
  ·omega
  split at h1
  ·next h=>exact h.1
  ·omega
 exact fun k hk=>Uh.1 h0 _ (List.getElem_mem hk)
theorem Aax {b:Nat} {w:World} {u0 u1 u2 u3 u4 u5 u6 u7:Value} (X:DBox b [u0,u1,u2,u3,u4,u5,u6,u7] w) {v0 v1:Value} {rest:List Value} :
  (results Tryz.f177 (v0 :: v1 :: .pointer (some ⟨b,0,none⟩) :: rest).toArray).run Tryz.prog w = .ok (.agg #[u0,u1,u2,u3,u4,u5,u6,u7]) w:=by
 obtain ⟨c0,c1,c2,c3,c4,c5,c6,c7,-⟩:=X.g8
 simp [results,Tryz.results177,go_sem,c0,c1,c2,c3,c4,c5,c6,c7]
theorem Vk (r:Run) (s:Sl×Sl) (w:World) (hl:Bg r<=2000000) (hR:Er r) (hS:r.state=1) (h:Am.rd w w.heap.size r s) :
  Calls Tryz.prog 177 #[Ey r s] w (Cj Am Ey (Bz r 4) w):=by
 have CP:=Lib.hid (fun W (hW:Below w.heap.size w W)=>K5 r s W hl (Am.rd_more (Am.rd_below h hW) hW.size))
 have CR:=Lib.hid (fun W (hW:Below w.heap.size w W)=>Mo r s W hl (Am.rd_more (Am.rd_below h hW) hW.size))
 rw [Bs hR] at CR
 have aJ:=Cb hR
 have hp:0<r.tasks.length:=by omega
 have h5:=Lib.hid (Abp hR hS)
 obtain ⟨⟨A1,n1,c1⟩,⟨A2,n2,c2⟩⟩:=s
 obtain rfl:n2=r.tasks.length:=RdL.at1 (s:=⟨A2,n2,c2⟩) h.2
 clear h hl hR
 have bJ:(r.state == 1)=true:=by simp [hS]
 clear hS
 obtain ⟨W,aG,X,RES,B0⟩:=bx2 w 89 [.int .i64 r.id,.int .i64 r.plan.prio,.int .i64 r.plan.most,.int .i64 r.plan.wait,.int .i64 r.plan.tasks,.slice A1 n1 c1,.int .i64 r.state,.slice A2 r.tasks.length c2] 89 [.int .i64 0,.int .i64 0,.int .i64 0,.int .i64 0,.int .i64 0,.slice none 0 0,.int .i64 0,.slice none 0 0]
 go_enter Tryz.func177,Tryz.ntmps177
 go_wp2_with fail
 rw [<-aG.out]
 clear aG
 refine (CP.out _ B0).mono ?_
 rintro e w1 ⟨⟨⟨A3,n3,c3⟩,⟨A4,n4,c4⟩⟩,F,rfl,o1,nF,b1⟩
 obtain ⟨F1,F2,rfl,bK,op,ot⟩:=o1
 replace ot:OwL Cv w1 F2 (.slice A4 n4 c4) r.tasks:=ot
 obtain rfl:n4=r.tasks.length:=RdL.at1 (s:=⟨A4,n4,c4⟩) ot.rd
 have oh:=Ku ot
 clear ot CP
 obtain ⟨b,o,rfl,aH,d0,d1,d2,d3⟩:=oh.rd.tsk hp
 clear d0 d1 d2 d3
 obtain ⟨rfl,bN,pF⟩:=oh.block hp
 have dM:=RES.lt
 have b2:Below w1.heap.size w1 (w1.alloc (.cells #[.int .i64 r.id,.int .i64 r.plan.prio,.int .i64 r.plan.most,.int .i64 r.plan.wait,.int .i64 r.plan.tasks,.slice A3 n3 c3,.int .i64 r.state,.slice (some ⟨b,o,none⟩) r.tasks.length c4] 89)):=(Below.refl _ _).alloc (Nat.le_refl _) _
 have OB:=DBox.new 89 [.int .i64 r.id,.int .i64 r.plan.prio,.int .i64 r.plan.most,.int .i64 r.plan.wait,.int .i64 r.plan.tasks,.slice A3 n3 c3,.int .i64 r.state,.slice (some ⟨b,o,none⟩) r.tasks.length c4] w1 (b:=w1.heap.size) rfl
 have cN:=Lib.hid (show ∀ x∈F1 ++ [b],w.heap.size+1<x from fun x hx=>by have:=nF x hx;omega)
 have dY:=Lib.hid (show ∀ x∈F1,x<w1.heap.size from fun x hx=>(Ag.ow_lt op) x hx)
 have eM:b∉F1:=fun hx=>(List.nodup_append.1 bK).2.2 b hx b (by simp) rfl
 have b12:=Aa b1 b2
 replace X:=X.below b12
 replace RES:=RES.below b12
 replace B0:=Aa B0 b12
 replace oh:=oh.below b2
 replace op:=Ag.ow_below op b2
 have hs1w:=b1.size
 clear b1 b2 b12 nF aH pF
 go_upto_region 2 with fail
 have cJ:w.heap.size+1<w1.heap.size:=by omega
 have hoF:w1.heap.size∉F1:=fun hx=>by have:=dY.out _ hx;omega
 have hob2:w1.heap.size≠b:=by omega
 clear dY bN hs1w
 generalize w1.heap.size=ob at *
 generalize w1.alloc (.cells #[.int .i64 r.id,.int .i64 r.plan.prio,.int .i64 r.plan.most,.int .i64 r.plan.wait,.int .i64 r.plan.tasks,.slice A3 n3 c3,.int .i64 r.state,.slice (some ⟨b,o,none⟩) r.tasks.length c4] 89)=w2 at *
 obtain ⟨X_0,X_1,X_2,X_3,X_4,X_5,X_6,X_7,X_l⟩:=X.g8
 go_wp2_with fail
 refine (CR.out _ B0).mono ?_
 rintro e w3 ⟨rfl,b3⟩
 clear X_0 X_1 X_2 X_3 X_4 X_5 X_6 X_7 X_l
 replace X:=X.below b3
 replace RES:=RES.below b3
 replace OB:=OB.below b3
 replace B0:=Aa B0 b3
 replace oh:=oh.below b3
 replace op:=Ag.ow_below op b3
 clear b3 CR
 have CL:=Lib.hid (Mu ob 0 b o c4 r.tasks (-1) w3 (OB.cell 7 _ rfl) OB.lt hob2 (by omega) hp oh (fun k hk=>⟨fun h=>absurd h (h5.out k hk),fun h=>by omega⟩))
 obtain ⟨X_0,X_1,X_2,X_3,X_4,X_5,X_6,X_7,X_l⟩:=X.g8
 go_wp2_with fail
 refine CL.out.mono ?_
 rintro e w4 ⟨rfl,oh4,hc⟩
 clear X_0 X_1 X_2 X_3 X_4 X_5 X_6 X_7 X_l
 clear X CL oh h5
 have bE:=B0.size
 have hbA:=cN.out b (by simp)
 have kD:=Lib.hid (show ∀ x,x∈[b]->x=b from fun x hx=>by simpa using hx)
 have op4:=Ag.ow_chg op hc (fun x hx h=>by have:=kD.out x h;subst this;exact eM hx)
 replace B0:=B0.trans (hc.below (base:=w.heap.size) bE (fun x hx=>by have:=kD.out x hx;omega))
 replace RES:=RES.chg hc (fun hx=>by have:=kD.out _ hx;omega)
 replace OB:=OB.chg hc (fun hx=>hob2 (kD.out _ hx))
 clear hc op
 obtain ⟨OB_0,OB_1,OB_2,OB_3,OB_4,OB_5,OB_6,OB_7,OB_l⟩:=OB.g8
 have obf:=OB.free
 go_upto_region 5 with fail
 clear OB_0 OB_1 OB_2 OB_3 OB_4 OB_5 OB_6 OB_7 OB_l
 clear obf
 replace OB:DBox ob [.int .i64 r.id,.int .i64 r.plan.prio,.int .i64 r.plan.most,.int .i64 r.plan.wait,.int .i64 r.plan.tasks,.slice A3 n3 c3,.int .i64 r.state,.slice (some ⟨b,o,none⟩) r.tasks.length c4] w4:=OB
 have pY:ob∉[b]:=fun hx=>hob2 (kD.out _ hx)
 replace OB:=OB.set 6 (by simp) (.int .i64 4)
 replace RES:=RES.setOther (a:=⟨ob,6,none⟩) (by show w.heap.size+1≠ob;omega) (.int .i64 4)
 have oh5:=oh4.set (a:=⟨ob,6,none⟩) pY (.int .i64 4)
 have op5:=Ag.ow_set op4 (a:=⟨ob,6,none⟩) hoF (.int .i64 4)
 replace B0:Below w.heap.size w (w4.setCell ⟨ob,6,none⟩ (.int .i64 4)):=Below.setCell B0 (by show w.heap.size<=ob;omega) _
 clear oh4 op4
 generalize w4.setCell ⟨ob,6,none⟩ (.int .i64 4)=w5 at *
 replace OB:DBox ob [.int .i64 r.id,.int .i64 r.plan.prio,.int .i64 r.plan.most,.int .i64 r.plan.wait,.int .i64 r.plan.tasks,.slice A3 n3 c3,.int .i64 4,.slice (some ⟨b,o,none⟩) r.tasks.length c4] w5:=OB
 obtain ⟨OB_0,OB_1,OB_2,OB_3,OB_4,OB_5,OB_6,OB_7,OB_l⟩:=OB.g8
 obtain ⟨RES_0,RES_1,RES_2,RES_3,RES_4,RES_5,RES_6,RES_7,RES_l⟩:=RES.g8
 have rf:=RES.free
 go_wp2
 refine bodyPost_ret (Aax (DBox.row8 RES rfl _ _ _ _ _ _ _ _)) rfl ⟨(⟨A3,n3,c3⟩,⟨some ⟨b,o,none⟩,r.tasks.length,c4⟩),F1 ++ [b],rfl,⟨F1,[b],rfl,bK,?_,?_⟩,?_,?_⟩
 ·have e2:w.heap.size+1∉F1:=fun hx=>by have:=cN.out _ (List.mem_append_left _ hx);omega
  show Ag.ow _ F1 r.plan _
  exact (by (repeat (refine Dt.ow_set Ag ?_ e2 _));exact op5)
 ·have e1:w.heap.size+1∉[b]:=fun hx=>by have:=kD.out _ hx;omega
  show OwL Cv _ [b] _ (r.tasks.map Bt)
  have hL:r.tasks.length=(r.tasks.map Bt).length:=by rw [List.length_map]
  show OwL Cv _ [b] (.slice (some ⟨b,o,none⟩) r.tasks.length c4) (r.tasks.map Bt)
  exact Eg (by (repeat (refine Hw.set ?_ e1 _));exact oh5)
 ·intro x hx
  have:=cN.out x hx
  omega
 ·repeat (first | (with_reducible exact B0) | refine Below.setCell ?_ (by simp<;>omega) _)
section
open Classical in
noncomputable def G6 (y:Yard) (id:Int) (p:Plan):Int :=
 if ¬ Bq y then 8 else if inB id 1 9999=false then 5 else if 0<=Bo y id then 6 else if ¬ Aq p=0 then Aq p else if Jx y p=false then 7 else 0
noncomputable def G7 (y:Yard) (id:Int) (p:Plan):Yard:=if G6 y id p=0 then Kr ⟨y.now,y.seq,y.shelf,y.runs ++ [An id p]⟩ Eh (An id p) else y
theorem Ip {b:Nat} {w:World} {u0 u1 u2 u3:Value} (X:DBox b [u0,u1,u2,u3] w) {v0 v1 v2 v3 v4 v5 v7:Value} {rest:List Value} :
  (results Tryz.f143 (v0 :: v1 :: v2 :: v3 :: v4 :: v5 :: .pointer (some ⟨b,0,none⟩) :: v7 :: rest).toArray).run Tryz.prog w = .ok (.tuple #[.agg #[u0,u1,u2,u3],v7]) w:=by
 have c0:=X.cell 0 _ rfl
 have c1:=X.cell 1 _ rfl
 have c2:=X.cell 2 _ rfl
 have c3:=X.cell 3 _ rfl
 simp [results,Tryz.results143,go_sem,c0,c1,c2,c3]
theorem Ab7 {α:Type} (d:Dt α) (w:World) (B c:Nat):RdL d w B (.slice none 0 c) []:=⟨[],rfl,Rd.nil _ _ _ _,fun _ h=>by cases h⟩
def BldG {α:Type} (d:Dt α) (E:TypeId) (w:World) (base:Nat) (v:Value) (rs:List (α×d.S)) (G:List Nat):Prop :=
 Ow d.enc E w base v rs/\Ows d w G rs/\G.Nodup /\ ∀ b∈G,base<=b/\v.ownBlock≠some b
theorem BldG.below {α:Type} {d:Dt α} {E:TypeId} {w w':World} {base:Nat} {v:Value} {rs:List (α×d.S)} {G:List Nat} (h:BldG d E w base v rs G) (hb:Below w.heap.size w w'):BldG d E w' base v rs G :=
 ⟨h.1.below hb,h.2.1.bel hb,h.2.2.1,h.2.2.2⟩
theorem BldG.push1 {α:Type} {d:Dt α} {E:TypeId} {w w1 w2 w5:World} {base:Nat} {v v5:Value} {rs:List (α×d.S)} {G:List Nat} {x:α} {s:d.S} {F:List Nat} (h:BldG d E w base v rs G) (hb:Below w.heap.size w w1) (o1:d.ow w1 F x s) (n1:∀ b∈F,w.heap.size<=b)
  (aS:base<=w.heap.size) (aF:Below w1.heap.size w1 w2) (o5:Ow d.enc E w5 base v5 (rs ++ [(x,s)])) (g5:w2.grownBy w5 v.ownBlock) (f5:v5.ownBlock=v.ownBlock\/v5.ownBlock=some w2.heap.size):BldG d E w5 base v5 (rs ++ [(x,s)]) (G ++ F):=by
 obtain ⟨h1,h2,h3,h4⟩:=h
 have hG:∀ b∈G,b<w.heap.size:=h2.lt
 have cH:∀ b∈F,b<w1.heap.size:=d.ow_lt o1
 have uF:∀ b∈F,v.ownBlock≠some b:=fun b hb he=>by
  have h5:=(h1.within b he).2
  have h6:=n1 b hb
  omega
 have hs:=hb.size
 have eG:=aF.size
 have ht:Ows d w2 F [(x,s)]:=Ows.one (r:=(x,s)) (d.ow_below o1 aF)
 refine ⟨o5,?_,?_,?_⟩
 ·refine Ows.append ((h2.bel (Aa hb aF)).keep g5.size fun b hbG=>g5.block b (by have:=hG b hbG;omega) ?_) (ht.keep g5.size fun b cP=>g5.block b (by have:=cH b cP;omega) ?_)
  ·exact fun e=>(h4 b hbG).2 e.symm
  ·exact fun e=>uF b cP e.symm
 ·rw [List.nodup_append]
  refine ⟨h3,d.ow_nodup o1,fun a ha b bG e=>?_⟩
  have:=hG a ha
  have:=n1 b bG
  omega
 ·intro b hbm
  rcases List.mem_append.1 hbm with hbm | hbm
  ·refine ⟨(h4 b hbm).1,?_⟩
   rcases f5 with hv | hv
   ·rw [hv];exact (h4 b hbm).2
   ·rw [hv]
    intro e
    have:=hG b hbm
    injection e with e
    omega
  ·refine ⟨by have:=n1 b hbm;omega,?_⟩
   rcases f5 with hv | hv
   ·rw [hv];exact uF b hbm
   ·rw [hv]
    intro e
    have:=cH b hbm
    injection e with e
    omega
theorem BldG.owl {α:Type} {d:Dt α} {E:TypeId} {w:World} {base:Nat} {v:Value} {rs:List (α×d.S)} {G:List Nat} (h:BldG d E w base v rs G) {l:List α} (hl:rs.map (·.1)=l):OwL d w (Cm v rs.length ++ G) v l:=by
 obtain ⟨h1,h2,h3,h4⟩:=h
 obtain ⟨h5,h6⟩:=Hw.of_ow h1
 refine ⟨rs,_,G,hl,h5,h2,rfl,?_⟩
 rw [List.nodup_append]
 refine ⟨Hr _ _,h3,fun a ha b hb e=>?_⟩
 subst e
 exact (h4 a hb).2 (E6 _ _ _ ha)
theorem Sb (y:Yard) (s:Sl×Sl) (id:Int) (p:Plan) (sp:Sl) (w:World) (hl:Ai y<=2000000) (hp:p.edges.length<=2000000) (h:Ab.rd w w.heap.size y s) (hpr:Ag.rd w w.heap.size p sp) :
  Calls Tryz.prog 143 #[By y s,.int .i64 id,Hi p sp] w (Fn (G7 y id p) (G6 y id p) w):=by
 have HR:=Lib.hid (show ∀ W,Below w.heap.size w W->Ab.rd W W.heap.size y s from fun W hW=>Ab.rd_more (Ab.rd_below h hW) hW.size)
 obtain ⟨⟨A1,n1,c1⟩,⟨A2,n2,c2⟩⟩:=s
 obtain ⟨A3,n3,c3⟩:=sp
 obtain rfl:n3=p.edges.length:=RdL.at1 (s:=⟨A3,n3,c3⟩) hpr
 have CC:=Lib.hid (fun W hW=>Kh y (⟨A1,n1,c1⟩,⟨A2,n2,c2⟩) W hl (HR.out W hW))
 have CY:=Lib.hid (fun W hW=>D7 y (⟨A1,n1,c1⟩,⟨A2,n2,c2⟩) W hl (HR.out W hW))
 have CA:=Lib.hid (fun W hW=>Cz y (⟨A1,n1,c1⟩,⟨A2,n2,c2⟩) id W hl (HR.out W hW))
 have CF:=Lib.hid (fun W (hW:Below w.heap.size w W)=>Ht p (.slice A3 p.edges.length c3) W hp (((Gf hpr).below hW).more hW.size))
 have CR:=Lib.hid (fun W hW hS hq=>Vc y (⟨A1,n1,c1⟩,⟨A2,n2,c2⟩) p (.slice A3 p.edges.length c3) W hl hS hq (HR.out W hW))
 have CN:=Lib.hid (fun W (hW:Below w.heap.size w W) hid hf=>Sa id p ⟨A3,p.edges.length,c3⟩ W hid hf (Ag.rd_more (Ag.rd_below hpr hW) hW.size))
 obtain ⟨j0,bX,jz0,jz1,jz2⟩:=info_parts Jc
 clear h hpr HR
 obtain ⟨W,aG,X,P,RES,B0⟩:=bx3 w 31 [.int .i64 y.now,.int .i64 y.seq,.slice A1 n1 c1,.slice A2 n2 c2] 43 [.int .i64 p.prio,.int .i64 p.most,.int .i64 p.wait,.int .i64 p.tasks,.slice A3 p.edges.length c3] 31 [.int .i64 0,.int .i64 0,.slice none 0 0,.slice none 0 0]
 go_enter Tryz.func143,Tryz.ntmps143
 go_wp2_with fail
 rw [<-aG.out]
 clear aG
 have dM:w.heap.size+1+1<W.heap.size:=RES.lt
 refine (CC.out _ B0).mono ?_
 rintro e1 w1 ⟨⟨B1,m1,e1⟩,⟨B2,m2,e2⟩,F1,base,rfl,oS,dY,aS,cD,oR,b1⟩
 have bJ:=b1.size
 replace X:=X.below b1
 replace P:=P.below b1
 replace RES:=RES.below b1
 replace B0:=Aa B0 b1
 clear b1
 obtain ⟨rs,cM,G0,oR⟩:=oR
 have hm:=Lib.hid cM
 clear cM
 replace oR:BldG Am 89 w1 base (.slice B2 m2 e2) rs G0:=oR
 have tS:=oR.2.1.lt
 have pY:∀ g,(Value.slice B2 m2 e2).ownBlock=some g->g≠w1.heap.size:=fun g hg h=>by
  have:=(oR.1.within g hg).2
  omega
 obtain ⟨F,oy,nF⟩:∃ F,Ab.ow w1 F y (⟨B1,m1,e1⟩,⟨B2,m2,e2⟩) /\ ∀ x∈F,W.heap.size<=x:=by
  have hB:Bld Am 89 w1 base (.slice B2 m2 e2) rs:=⟨G0,oR⟩
  replace hm:=hm.out
  obtain ⟨F2,h5,h6⟩:=hB.owl hm
  refine ⟨F1 ++ F2,⟨F1,F2,rfl,?_,oS,h5⟩,fun b hb=>?_⟩
  ·rw [List.nodup_append]
   refine ⟨oS.nodup,h5.nodup,fun u hu u' hu' e=>?_⟩
   have:=dY u hu
   have:=h6 u' hu'
   omega
  ·rcases List.mem_append.1 hb with hb | hb
   ·exact (dY b hb).1
   ·have:=h6 b hb;omega
 go_upto_region 2 with fail
 have OB:=DBox.new 31 [.int .i64 y.now,.int .i64 y.seq,.slice B1 m1 e1,.slice B2 m2 e2] w1 (b:=w1.heap.size) rfl
 have b2:Below w1.heap.size w1 (w1.alloc (.cells #[.int .i64 y.now,.int .i64 y.seq,.slice B1 m1 e1,.slice B2 m2 e2] 31)):=(Below.refl _ _).alloc (Nat.le_refl _) _
 replace X:=X.below b2
 replace P:=P.below b2
 replace RES:=RES.below b2
 replace oy:=Ab.ow_below (F:=F) (x:=y) (s:=(⟨B1,m1,e1⟩,⟨B2,m2,e2⟩)) oy b2
 replace oS:=oS.below b2
 replace oR:=oR.below b2
 replace B0:=Aa B0 b2
 have ow1:=OB.lt
 have hbob:base<=w1.heap.size:=cD
 replace cD:=Nat.le_trans cD b2.size
 clear b2
 generalize w1.alloc (.cells #[.int .i64 y.now,.int .i64 y.seq,.slice B1 m1 e1,.slice B2 m2 e2] 31)=w2 at *
 generalize cJ:w1.heap.size=ob at *
 obtain ⟨X_0,X_1,X_2,X_3,X_l⟩:=X.g4
 obtain ⟨P_0,P_1,P_2,P_3,P_4,P_l⟩:=P.g5
 obtain ⟨OB_0,OB_1,OB_2,OB_3,OB_l⟩:=OB.g4
 go_wp2_with fail
 refine (CY.out _ B0).mono ?_
 rintro e1 w3 ⟨rfl,b3⟩
 clear X_0 X_1 X_2 X_3 X_l
 clear P_0 P_1 P_2 P_3 P_4 P_l
 clear OB_0 OB_1 OB_2 OB_3 OB_l
 replace X:=X.below b3
 replace P:=P.below b3
 replace OB:=OB.below b3
 replace RES:=RES.below b3
 replace oy:Ab.ow w3 F y (⟨B1,m1,e1⟩,⟨B2,m2,e2⟩):=Ab.ow_below (F:=F) (x:=y) (s:=(⟨B1,m1,e1⟩,⟨B2,m2,e2⟩)) oy b3
 replace oS:=oS.below b3
 replace oR:=oR.below b3
 replace B0:=Aa B0 b3
 replace cD:=Nat.le_trans cD b3.size
 clear b3
 obtain ⟨X_0,X_1,X_2,X_3,X_l⟩:=X.g4
 obtain ⟨P_0,P_1,P_2,P_3,P_4,P_l⟩:=P.g5
 obtain ⟨OB_0,OB_1,OB_2,OB_3,OB_l⟩:=OB.g4
 by_cases p0:Bq y
 case neg =>
  rw [Al p0]
  have H:=Lib.hid (show G6 y id p=8 by unfold G6;rw [if_pos p0])
  have H2:=Lib.hid (show G7 y id p=y by unfold G7;rw [H.out,if_neg (by decide)])
  obtain ⟨RES_0,RES_1,RES_2,RES_3,RES_l⟩:=RES.g4
  have rf:=RES.free
  go_wp2
  have en1:w.heap.size+1+1∉F:=fun hx=>by have:=nF _ hx;omega
  refine bodyPost_ret (Ip (DBox.row4 RES rfl _ _ _ _)) rfl ⟨(⟨B1,m1,e1⟩,⟨B2,m2,e2⟩),F,by rw [H.out,H2.out],by rw [H2.out];exact (by (repeat (refine Dt.ow_set Ab ?_ en1 _));exact (show Ab.ow _ F y (⟨B1,m1,e1⟩,⟨B2,m2,e2⟩) from oy)),fun x hx=>by have:=nF x hx;omega,?_⟩
  repeat (first | (with_reducible exact B0) | refine Below.setCell ?_ (by simp<;>omega) _)
 rw [Bs p0]
 have qQ:=p0.2.2.2.2.2.2.2.2.2
 have hsq:=p0.2.1
 have h4:=Lib.hid p0.2.2.1
 have cS:=Lib.hid p0.2.2.2.1
 have P0:=Lib.hid p0
 clear p0
 cases p1:inB id 1 9999
 case false =>
  have H:=Lib.hid (show G6 y id p=5 by unfold G6;rw [if_neg (fun h=>h P0.out),if_pos p1])
  have H2:=Lib.hid (show G7 y id p=y by unfold G7;rw [H.out,if_neg (by decide)])
  obtain ⟨RES_0,RES_1,RES_2,RES_3,RES_l⟩:=RES.g4
  have rf:=RES.free
  go_wp2_with (go_at_call 155;refine (Aj _ _ _ _).mono ?_;rintro e w9 ⟨rfl,rfl⟩;rw [p1])
  have en1:w.heap.size+1+1∉F:=fun hx=>by have:=nF _ hx;omega
  refine bodyPost_ret (Ip (DBox.row4 RES rfl _ _ _ _)) rfl ⟨(⟨B1,m1,e1⟩,⟨B2,m2,e2⟩),F,by rw [H.out,H2.out],by rw [H2.out];exact (by (repeat (refine Dt.ow_set Ab ?_ en1 _));exact (show Ab.ow _ F y (⟨B1,m1,e1⟩,⟨B2,m2,e2⟩) from oy)),fun x hx=>by have:=nF x hx;omega,?_⟩
  repeat (first | (with_reducible exact B0) | refine Below.setCell ?_ (by simp<;>omega) _)
 have P1:=Lib.hid p1
 go_wp2_with (go_at_call 155;refine (Aj _ _ _ _).mono ?_;rintro e w9 ⟨rfl,rfl⟩;rw [p1])
 refine (CA.out _ B0).mono ?_
 rintro e1 w4 ⟨rfl,b4⟩
 clear X_0 X_1 X_2 X_3 X_l
 clear P_0 P_1 P_2 P_3 P_4 P_l
 clear OB_0 OB_1 OB_2 OB_3 OB_l
 replace X:=X.below b4
 replace P:=P.below b4
 replace OB:=OB.below b4
 replace RES:=RES.below b4
 replace oy:Ab.ow w4 F y (⟨B1,m1,e1⟩,⟨B2,m2,e2⟩):=Ab.ow_below (F:=F) (x:=y) (s:=(⟨B1,m1,e1⟩,⟨B2,m2,e2⟩)) oy b4
 replace oS:=oS.below b4
 replace oR:=oR.below b4
 replace B0:=Aa B0 b4
 replace cD:=Nat.le_trans cD b4.size
 clear b4
 obtain ⟨X_0,X_1,X_2,X_3,X_l⟩:=X.g4
 obtain ⟨P_0,P_1,P_2,P_3,P_4,P_l⟩:=P.g5
 obtain ⟨OB_0,OB_1,OB_2,OB_3,OB_l⟩:=OB.g4
 by_cases p2:0<=Bo y id
 case pos =>
  have H:=Lib.hid (show G6 y id p=6 by unfold G6;rw [if_neg (fun h=>h P0.out),if_neg (by rw [P1.out];simp),if_pos p2])
  have H2:=Lib.hid (show G7 y id p=y by unfold G7;rw [H.out,if_neg (by decide)])
  obtain ⟨RES_0,RES_1,RES_2,RES_3,RES_l⟩:=RES.g4
  have rf:=RES.free
  go_wp2
  have en1:w.heap.size+1+1∉F:=fun hx=>by have:=nF _ hx;omega
  refine bodyPost_ret (Ip (DBox.row4 RES rfl _ _ _ _)) rfl ⟨(⟨B1,m1,e1⟩,⟨B2,m2,e2⟩),F,by rw [H.out,H2.out],by rw [H2.out];exact (by (repeat (refine Dt.ow_set Ab ?_ en1 _));exact (show Ab.ow _ F y (⟨B1,m1,e1⟩,⟨B2,m2,e2⟩) from oy)),fun x hx=>by have:=nF x hx;omega,?_⟩
  repeat (first | (with_reducible exact B0) | refine Below.setCell ?_ (by simp<;>omega) _)
 have P2:=Lib.hid p2
 go_wp2_with fail
 refine (CF.out _ B0).mono ?_
 rintro e1 w5 ⟨rfl,b5⟩
 clear p1 p2
 clear X_0 X_1 X_2 X_3 X_l
 clear P_0 P_1 P_2 P_3 P_4 P_l
 clear OB_0 OB_1 OB_2 OB_3 OB_l
 replace X:=X.below b5
 replace P:=P.below b5
 replace OB:=OB.below b5
 replace RES:=RES.below b5
 replace oy:Ab.ow w5 F y (⟨B1,m1,e1⟩,⟨B2,m2,e2⟩):=Ab.ow_below (F:=F) (x:=y) (s:=(⟨B1,m1,e1⟩,⟨B2,m2,e2⟩)) oy b5
 replace oS:=oS.below b5
 replace oR:=oR.below b5
 replace B0:=Aa B0 b5
 replace cD:=Nat.le_trans cD b5.size
 clear b5
 obtain ⟨X_0,X_1,X_2,X_3,X_l⟩:=X.g4
 obtain ⟨P_0,P_1,P_2,P_3,P_4,P_l⟩:=P.g5
 obtain ⟨OB_0,OB_1,OB_2,OB_3,OB_l⟩:=OB.g4
 by_cases p3:Aq p=0
 case neg =>
  have q3:(Aq p != 0)=true:=by simp [p3]
  have H:=Lib.hid (show G6 y id p=Aq p by unfold G6;rw [if_neg (fun h=>h P0.out),if_neg (by rw [P1.out];simp),if_neg (by have:=P2.out;omega),if_pos p3])
  have H2:=Lib.hid (show G7 y id p=y by unfold G7;rw [H.out,if_neg p3])
  clear p3
  have en1:w.heap.size+1+1∉F:=fun hx=>by have:=nF _ hx;omega
  obtain ⟨RES_0,RES_1,RES_2,RES_3,RES_l⟩:=RES.g4
  have rf:=RES.free
  have hpb:w.heap.size+1<w5.heap.size:=P.lt
  have hobl:ob<w5.heap.size:=OB.lt
  have CF5:=Lib.hid (CF.out _ B0.drew)
  go_wp2
  refine Go.wp_region_noPanic ?_
  refine wp_region_held_drew (S:=(fun w'=>DBox ob [.int .i64 y.now,.int .i64 y.seq,.slice B1 m1 e1,.slice B2 m2 e2] w'/\DBox (w.heap.size+1) [.int .i64 p.prio,.int .i64 p.most,.int .i64 p.wait,.int .i64 p.tasks,.slice A3 p.edges.length c3] w')) (by kernel_rfl) ⟨DBox.drew4 OB,DBox.drew4 P⟩ (fun hHeld=>?_)
  replace oy:Ab.ow w5.drew F y (⟨B1,m1,e1⟩,⟨B2,m2,e2⟩):=Ab.ow_below (F:=F) (x:=y) (s:=(⟨B1,m1,e1⟩,⟨B2,m2,e2⟩)) oy (Below.refl _ _).drew
  clear RES_0 RES_1 RES_2 RES_3 RES_l
  clear rf
  replace RES:DBox _ _ w5.drew:=DBox.drew4 RES
  replace B0:=B0.drew
  clear X_0 X_1 X_2 X_3 X_l
  clear P_0 P_1 P_2 P_3 P_4 P_l
  clear OB_0 OB_1 OB_2 OB_3 OB_l
  clear OB X P
  generalize w5.drew=w5d at *
  refine tV 0 ?_
  (try simp only [pS])
  refine tV 1 ?_
  (try simp only [pS])
  refine rC 2 (fun K_ hK=>?_)
  go_simp
  refine CF5.out.mono ?_
  rintro e1 w6 ⟨rfl,b6⟩
  replace oy:Ab.ow w6 F y (⟨B1,m1,e1⟩,⟨B2,m2,e2⟩):=Ab.ow_below (F:=F) (x:=y) (s:=(⟨B1,m1,e1⟩,⟨B2,m2,e2⟩)) oy b6
  replace RES:=RES.below b6
  replace B0:=Aa B0 b6
  refine hK.out _ _ ⟨hHeld.1.below b6,hHeld.2.below b6⟩ (fun hHeld=>?_)
  clear hK K_
  (try simp only [pS])
  obtain ⟨RES_0,RES_1,RES_2,RES_3,RES_l⟩:=RES.g4
  have rf:=RES.free
  refine rC 3 (fun K_ hK=>?_)
  go_simp
  refine hK.out _ _ ⟨(((hHeld.1.setOther (a:=⟨w.heap.size+1+1,0,none⟩) (by show ob≠w.heap.size+1+1;omega) _).setOther (a:=⟨w.heap.size+1+1,1,none⟩) (by show ob≠w.heap.size+1+1;omega) _).setOther (a:=⟨w.heap.size+1+1,2,none⟩) (by show ob≠w.heap.size+1+1;omega) _).setOther (a:=⟨w.heap.size+1+1,3,none⟩) (by show ob≠w.heap.size+1+1;omega) _,(((hHeld.2.setOther (a:=⟨w.heap.size+1+1,0,none⟩) (by show w.heap.size+1≠w.heap.size+1+1;omega) _).setOther (a:=⟨w.heap.size+1+1,1,none⟩) (by show w.heap.size+1≠w.heap.size+1+1;omega) _).setOther (a:=⟨w.heap.size+1+1,2,none⟩) (by show w.heap.size+1≠w.heap.size+1+1;omega) _).setOther (a:=⟨w.heap.size+1+1,3,none⟩) (by show w.heap.size+1≠w.heap.size+1+1;omega) _⟩ (fun hHeld=>?_)
  clear hK K_
  (try simp only [pS])
  refine tV 4 ?_
  (try simp only [pS])
  refine wpAnyH_done (by kernel_rfl) ?_ _
  refine NoPanic.normal ?_
  clear hHeld
  clear RES_0 RES_1 RES_2 RES_3 RES_l
  clear rf
  go_wp2
  refine bodyPost_ret (Ip (DBox.row4 RES rfl _ _ _ _)) rfl ⟨(⟨B1,m1,e1⟩,⟨B2,m2,e2⟩),F,by rw [H.out,H2.out],by rw [H2.out];exact (by (repeat (refine Dt.ow_set Ab ?_ en1 _));exact (show Ab.ow _ F y (⟨B1,m1,e1⟩,⟨B2,m2,e2⟩) from oy)),fun x hx=>by have:=nF x hx;omega,?_⟩
  repeat (first | (with_reducible exact B0) | refine Below.setCell ?_ (by simp<;>omega) _)
 have q3:(Aq p != 0)=false:=by simp [p3]
 have P3:=Lib.hid p3
 clear p3
 go_wp2_with fail
 refine (CR.out _ B0 qQ (by omega)).mono ?_
 rintro e1 w6 ⟨rfl,b6⟩
 clear X_0 X_1 X_2 X_3 X_l
 clear P_0 P_1 P_2 P_3 P_4 P_l
 clear OB_0 OB_1 OB_2 OB_3 OB_l
 replace X:=X.below b6
 replace P:=P.below b6
 replace OB:=OB.below b6
 replace RES:=RES.below b6
 replace oy:Ab.ow w6 F y (⟨B1,m1,e1⟩,⟨B2,m2,e2⟩):=Ab.ow_below (F:=F) (x:=y) (s:=(⟨B1,m1,e1⟩,⟨B2,m2,e2⟩)) oy b6
 replace oS:=oS.below b6
 replace oR:=oR.below b6
 replace B0:=Aa B0 b6
 replace cD:=Nat.le_trans cD b6.size
 clear b6
 obtain ⟨X_0,X_1,X_2,X_3,X_l⟩:=X.g4
 obtain ⟨P_0,P_1,P_2,P_3,P_4,P_l⟩:=P.g5
 obtain ⟨OB_0,OB_1,OB_2,OB_3,OB_l⟩:=OB.g4
 cases p4:Jx y p
 case false =>
  have H:=Lib.hid (show G6 y id p=7 by unfold G6;rw [if_neg (fun h=>h P0.out),if_neg (by rw [P1.out];simp),if_neg (by have:=P2.out;omega),if_neg (fun h=>h P3.out),if_pos p4])
  have H2:=Lib.hid (show G7 y id p=y by unfold G7;rw [H.out,if_neg (by decide)])
  obtain ⟨RES_0,RES_1,RES_2,RES_3,RES_l⟩:=RES.g4
  have rf:=RES.free
  go_wp2
  have en1:w.heap.size+1+1∉F:=fun hx=>by have:=nF _ hx;omega
  refine bodyPost_ret (Ip (DBox.row4 RES rfl _ _ _ _)) rfl ⟨(⟨B1,m1,e1⟩,⟨B2,m2,e2⟩),F,by rw [H.out,H2.out],by rw [H2.out];exact (by (repeat (refine Dt.ow_set Ab ?_ en1 _));exact (show Ab.ow _ F y (⟨B1,m1,e1⟩,⟨B2,m2,e2⟩) from oy)),fun x hx=>by have:=nF x hx;omega,?_⟩
  repeat (first | (with_reducible exact B0) | refine Below.setCell ?_ (by simp<;>omega) _)
 have H:=Lib.hid (show G6 y id p=0 by unfold G6;rw [if_neg (fun h=>h P0.out),if_neg (by rw [P1.out];simp),if_neg (by have:=P2.out;omega),if_neg (fun h=>h P3.out),if_neg (by rw [p4];simp)])
 have H2:=Lib.hid (show G7 y id p=Kr ⟨y.now,y.seq,y.shelf,y.runs ++ [An id p]⟩ Eh (An id p) by unfold G7;rw [if_pos H.out])
 have qH:=Lib.hid (show y.runs.length<8 by
  unfold Jx at p4
  simp only [Bool.and_eq_true,decide_eq_true_eq] at p4
  exact p4.1)
 clear qQ
 go_wp2_with fail
 refine (CN.out _ B0 P1.out P3.out).mono ?_
 rintro e1 w7 ⟨sr,Fr,rfl,orn,nr,b7⟩
 have kU:=Lib.hid (show (An id p).tasks.length<=12 by have h1:=M5 id p;have h2:=Ch (Bn.1 P3.out).1;omega)
 have pG:=B0.size
 have hobw6:=OB.lt
 have eK:∀ x∈Fr,w6.heap.size<=x:=nr
 clear nr
 clear X_0 X_1 X_2 X_3 X_l
 clear P_0 P_1 P_2 P_3 P_4 P_l
 clear OB_0 OB_1 OB_2 OB_3 OB_l
 clear X P
 replace OB:=OB.below b7
 replace RES:=RES.below b7
 replace oS:=oS.below b7
 have B7:=Aa B0 b7
 have b7s:=b7.size
 have XB:=DBox.new 89 [.int .i64 (An id p).id,.int .i64 (An id p).plan.prio,.int .i64 (An id p).plan.most,.int .i64 (An id p).plan.wait,.int .i64 (An id p).plan.tasks,.slice sr.1.a sr.1.n sr.1.c,.int .i64 (An id p).state,.slice sr.2.a sr.2.n sr.2.c] w7 (b:=w7.heap.size) rfl
 have b8:Below w7.heap.size w7 (w7.alloc (.cells #[.int .i64 (An id p).id,.int .i64 (An id p).plan.prio,.int .i64 (An id p).plan.most,.int .i64 (An id p).plan.wait,.int .i64 (An id p).plan.tasks,.slice sr.1.a sr.1.n sr.1.c,.int .i64 (An id p).state,.slice sr.2.a sr.2.n sr.2.c] 89)):=(Below.refl _ _).alloc (Nat.le_refl _) _
 go_upto_region 13 with fail
 replace OB:=OB.below b8
 replace RES:=RES.below b8
 replace oS:=oS.below b8
 replace B7:=Aa B7 b8
 have b78:=Aa b7 b8
 have orn8:=Am.ow_below (F:=Fr) (x:=An id p) (s:=sr) orn b8
 have fF:=XB.lt
 generalize w7.alloc (.cells #[.int .i64 (An id p).id,.int .i64 (An id p).plan.prio,.int .i64 (An id p).plan.most,.int .i64 (An id p).plan.wait,.int .i64 (An id p).plan.tasks,.slice sr.1.a sr.1.n sr.1.c,.int .i64 (An id p).state,.slice sr.2.a sr.2.n sr.2.c] 89)=w8 at *
 generalize eT:w7.heap.size=xb at *
 have bR:=Lib.hid (show rs.length=y.runs.length by have:=congrArg List.length hm.out;simpa using this)
 have mQ:=Lib.hid (show rs.length<=3000000 by have:=qH.out;have:=bR.out;omega)
 have hO:=oR.1
 have sQ:=hO.below b78
 obtain ⟨A5_,c5_,qU,-⟩:=_root_.id (Rd.of_own hO)
 have uC:=qU
 simp only [Sl.v,Value.slice.injEq] at uC
 obtain ⟨rfl,rfl,rfl⟩:=uC
 clear qU
 obtain ⟨OB_0,OB_1,OB_2,OB_3,OB_l⟩:=OB.g4
 obtain ⟨XB_0,XB_1,XB_2,XB_3,XB_4,XB_5,XB_6,XB_7,XB_l⟩:=XB.g8
 have obf:=OB.free
 have tI:∀ g,(Value.slice B2 rs.length e2).ownBlock=some g->base<=g/\g<w6.heap.size:=fun g hg=>hO.within _ hg
 have mX:∀ g,(Value.slice B2 rs.length e2).ownBlock=some g->g≠ob:=fun g hg=>pY g hg
 have ha:=Lib.hid (show ∀ w:World,Below w.heap.size w (w.alloc (.cells #[.int .i64 (An id p).id,.int .i64 (An id p).plan.prio,.int .i64 (An id p).plan.most,.int .i64 (An id p).plan.wait,.int .i64 (An id p).plan.tasks,.slice sr.1.a sr.1.n sr.1.c,.int .i64 (An id p).state,.slice sr.2.a sr.2.n sr.2.c] 89)) from fun w=>(Below.refl _ _).alloc (Nat.le_refl _) _)
 have qB:=Lib.hid mX
 have fC:=Lib.hid tI
 clear mX tI pY
 have cX:base<=w8.heap.size:=by omega
 go_upto_region 14 with (at_builtin;go_loud (refine Ak _ Am.enc (by decide) rfl (.tmp 49) (.tmp 51) rfl Tryz.underlying29 bX jz0 jz1 jz2 rfl (base:=base) (v:=.slice B2 rs.length e2) (l:=rs) rfl (sQ.below (ha.out w8)) rfl (Rd.one Am.enc _ _ (An id p,sr) rfl rfl 1 (Nat.le_refl _) (Nat.lt_succ_self _)) mQ.out (by simp) (by decide) (by simp;omega) ?_);intro v9 w9 o9 g9 f9;obtain ⟨A9,c9,rfl,-⟩:=_root_.id (Rd.of_own o9);simp only [List.length_append,List.length_singleton] at o9 f9;have OB9:=(OB.below (ha.out w8)).off g9 (fun e=>(qB.out _ e.symm) rfl);have q3:=OB9.cell 3 _ rfl;have qf:=OB9.free;have ql:=OB9.lt)
 have hP:=oR.push1 b78 orn8 eK cD (ha.out w8) o9 g9 f9
 have tP:=hP.owl (l:=y.runs ++ [An id p]) (by rw [List.map_append,hm.out];rfl)
 have g9s:=g9.size
 simp only [World.size_alloc] at g9s
 have fT:∀ x∈Cm (.slice A9 (rs.length+1) c9) (rs ++ [(An id p,sr)]).length ++ (G0 ++ Fr),x≠ob/\base<=x:=fun x hx=>by
  rcases List.mem_append.1 hx with hx | hx
  ·have h1:=E6 _ _ _ hx
   refine ⟨?_,(o9.within x h1).1⟩
   rcases f9 with h2 | h2
   ·rw [h2] at h1
    exact qB.out _ h1
   ·rw [h2] at h1
    have:=Option.some.inj h1
    simp only [World.size_alloc] at this
    omega
  ·rcases List.mem_append.1 hx with hx | hx
   ·exact ⟨by have:=tS x hx;omega,(oR.2.2.2 x hx).1⟩
   ·exact ⟨by have:=eK x hx;omega,by have:=eK x hx;omega⟩
 generalize Cm (.slice A9 (rs.length+1) c9) (rs ++ [(An id p,sr)]).length ++ (G0 ++ Fr)=F2 at *
 have XB9:=(XB.below (ha.out w8)).off g9 (fun e=>by have h1:=(fC.out _ e.symm).2;omega)
 have RES9:=(RES.below (ha.out w8)).off g9 (fun e=>by have h1:base<=w.heap.size+1+1:=(fC.out _ e.symm).1;omega)
 have oS9:=(oS.below (ha.out w8)).grown g9 (fun b hb e=>by have h1:=(fC.out b e).1;have h2:=(dY b hb).2;omega)
 have orn9:=Am.ow_keep (Am.ow_below (F:=Fr) (x:=An id p) (s:=sr) orn8 (ha.out w8)) g9.size (fun b cP=>g9.block b (Am.ow_lt (F:=Fr) (x:=An id p) (s:=sr) (Am.ow_below (F:=Fr) (x:=An id p) (s:=sr) orn8 (ha.out w8)) b cP) (fun e=>by have h1:=(fC.out _ e.symm).2;have h2:=eK b cP;omega))
 have B9:Below w.heap.size w w9:=(Aa B7 (ha.out w8)).grown g9 (Aa B7 (ha.out w8)).size (fun g hg=>by have h1:=(fC.out g hg).1;omega)
 have mW:w.heap.size<=ob:=by omega
 have OB10:DBox ob [.int .i64 y.now,.int .i64 y.seq,.slice B1 m1 e1,.slice A9 (rs.length+1) c9] (w9.setCell ⟨ob,3,none⟩ (.slice A9 (rs.length+1) c9)):=OB9.set 3 (by simp) _
 have XB10:=XB9.setOther (a:=⟨ob,3,none⟩) (by show xb≠ob;omega) (.slice A9 (rs.length+1) c9)
 have RES10:=RES9.setOther (a:=⟨ob,3,none⟩) (by show w.heap.size+1+1≠ob;omega) (.slice A9 (rs.length+1) c9)
 have oS10:=oS9.set (a:=⟨ob,3,none⟩) (fun hx=>by have h1:_/\ob<base:=dY _ hx;omega) (.slice A9 (rs.length+1) c9)
 have oR10:=tP.set (a:=⟨ob,3,none⟩) (fun hx=>(fT _ hx).1 rfl) (.slice A9 (rs.length+1) c9)
 have orn10:=Am.ow_set (F:=Fr) (x:=An id p) (s:=sr) orn9 (a:=⟨ob,3,none⟩) (fun hx=>by have h1:w6.heap.size<=ob:=eK _ hx;omega) (.slice A9 (rs.length+1) c9)
 have B10:Below w.heap.size w (w9.setCell ⟨ob,3,none⟩ (.slice A9 (rs.length+1) c9)):=Below.setCell B9 (by show w.heap.size<=ob;omega) _
 clear OB9 XB9 RES9 oS9 orn9 B9 tP hP XB RES oS B7 OB o9 g9 f9 q3 qf ql orn8 hO sQ oR obf qB
 clear OB_0 OB_1 OB_2 OB_3 OB_l
 clear XB_0 XB_1 XB_2 XB_3 XB_4 XB_5 XB_6 XB_7 XB_l
 generalize w9.setCell ⟨ob,3,none⟩ (.slice A9 (rs.length+1) c9)=w10 at *
 obtain ⟨OB10_0,OB10_1,OB10_2,OB10_3,OB10_l⟩:=OB10.g4
 obtain ⟨XB10_0,XB10_1,XB10_2,XB10_3,XB10_4,XB10_5,XB10_6,XB10_7,XB10_l⟩:=XB10.g8
 obtain rfl:m1=y.shelf.length:=RdL.at1 (s:=⟨B1,m1,e1⟩) oS10.rd
 obtain ⟨g,o,_,rfl,fL,_,_⟩:=RdL.entryS (show RdL (Dt.list Af) w10 w10.heap.size (.slice B1 y.shelf.length e1) y.shelf from oS10.rd) (k:=0) (by have:=h4.out;omega)
 have eF:g∈F1:=OwL.block_mem (show OwL (Dt.list Af) w10 F1 (.slice (some ⟨g,o,none⟩) y.shelf.length e1) y.shelf from oS10) (by have:=h4.out;omega)
 have qN:=dY g eF
 have hRlt:=oR10.lt
 have bL:=Lib.hid (show ∀ x,x∈[g]->x=g from fun x hx=>by simpa using hx)
 have CL:=Lib.hid (Pa ⟨y.now,y.seq,y.shelf,y.runs ++ [An id p]⟩ g o e1 ⟨A9,rs.length+1,c9⟩ Eh (⟨none,0,0⟩,⟨none,0,0⟩) (An id p) sr w10 F1 h4.out (fun s hs=>by have:=(cS.out s hs).1;omega) (by dsimp only;omega) (by have:=kU.out;omega) (by show ([]:List Task).length<=1000;simp) oS10 (Lib.hid fun W hW=>(Am.ow_rd (Am.ow_chg (F:=Fr) (x:=An id p) (s:=sr) orn10 hW (fun x hx h=>by have h1:=bL.out x h;have h2:=eK x hx;omega))).2) (Lib.hid fun W hW=>Ab7 _ _ _ _))
 have fK:=Lib.hid (show (Kr ⟨y.now,y.seq,y.shelf,y.runs ++ [An id p]⟩ Eh (An id p)).runs=y.runs ++ [An id p] from (M8 (y:=⟨y.now,y.seq,y.shelf,y.runs ++ [An id p]⟩) (was:=Eh) (r:=An id p) (M:=80) (fun s hs=>(cS.out s hs).1) (An id p).tasks.length).runs)
 generalize Kr ⟨y.now,y.seq,y.shelf,y.runs ++ [An id p]⟩ Eh (An id p)=Z at *
 go_wp2_with fail
 refine CL.out.mono ?_
 rintro e w11 ⟨F1',rfl,q1,q2,q3⟩
 have hs11:=q3.size
 have RES11:=RES10.chg q3 (fun hx=>by have:=bL.out _ hx;omega)
 have oR11:=oR10.chg q3 (fun x hx h=>by have h1:=bL.out x h;have h2:=(fT x hx).2;omega)
 have B11:=B10.trans (q3.below (by have:=B10.size;omega) (fun x hx=>by have:=bL.out _ hx;omega))
 clear OB10_0 OB10_1 OB10_2 OB10_3 OB10_l
 clear XB10_0 XB10_1 XB10_2 XB10_3 XB10_4 XB10_5 XB10_6 XB10_7 XB10_l
 clear OB10 XB10 RES10
 obtain ⟨RES11_0,RES11_1,RES11_2,RES11_3,RES11_l⟩:=RES11.g4
 have rf:=RES11.free
 go_wp2
 have en1:w.heap.size+1+1∉F1':=fun hx=>by
  rcases q2 _ hx with h | h
  ·have:=(dY _ h).1;omega
  ·have:=RES11_l;have:=B10.size;omega
 have en2:w.heap.size+1+1∉F2:=fun hx=>by have:=(fT _ hx).2;omega
 refine bodyPost_ret (Ip (DBox.row4 RES11 rfl _ _ _ _)) rfl ⟨(⟨some ⟨g,o,none⟩,y.shelf.length,e1⟩,⟨A9,rs.length+1,c9⟩),F1' ++ F2,by rw [H.out,H2.out],⟨F1',F2,rfl,?_,?_,?_⟩,fun x hx=>?_,?_⟩
 ·rw [List.nodup_append]
  refine ⟨q1.nodup,oR11.nodup,fun a ha b hb e=>?_⟩
  subst e
  have h3:=fT a hb
  have h4:=hRlt a hb
  rcases q2 a ha with h | h
  ·have:=(dY a h).2;omega
  ·omega
 ·rw [H2.out]
  show OwL (Dt.list Af) _ F1' (.slice (some ⟨g,o,none⟩) y.shelf.length e1) Z.shelf
  exact ((((q1.set (a:=⟨_,_,none⟩) en1 _).set (a:=⟨_,_,none⟩) en1 _).set (a:=⟨_,_,none⟩) en1 _).set (a:=⟨_,_,none⟩) en1 _)
 ·rw [H2.out]
  show OwL Am _ F2 (.slice A9 (rs.length+1) c9) Z.runs
  rw [fK.out]
  exact ((((oR11.set (a:=⟨_,_,none⟩) en2 _).set (a:=⟨_,_,none⟩) en2 _).set (a:=⟨_,_,none⟩) en2 _).set (a:=⟨_,_,none⟩) en2 _)
 ·rcases List.mem_append.1 hx with hx | hx
  ·rcases q2 x hx with h | h
   ·have:=(dY x h).1;omega
   ·have:=B10.size;omega
  ·have:=(fT x hx).2;omega
 ·repeat (first | (with_reducible exact B11) | refine Below.setCell ?_ (by simp<;>omega) _)
end
theorem Xo {b:Nat} {w:World} {u0 u1 u2 u3 u4 u5 u6 u7 v5:Value} (X:DBox b [u0,u1,u2,u3,u4,u5,u6,u7] w) {v0 v1 v2 v3:Value} {rest:List Value} :
  (results Tryz.f166 (v0 :: v1 :: v2 :: v3 :: .pointer (some ⟨b,0,none⟩) :: v5 :: rest).toArray).run Tryz.prog w = .ok (.tuple #[.agg #[u0,u1,u2,u3,u4,u5,u6,u7],v5]) w:=by
 have c0:=X.cell 0 _ rfl
 have c1:=X.cell 1 _ rfl
 have c2:=X.cell 2 _ rfl
 have c3:=X.cell 3 _ rfl
 have c4:=X.cell 4 _ rfl
 have c5:=X.cell 5 _ rfl
 have c6:=X.cell 6 _ rfl
 have c7:=X.cell 7 _ rfl
 simp [results,Tryz.results166,go_sem,c0,c1,c2,c3,c4,c5,c6,c7]
theorem Sc (id:Int) (p:Plan) (s:Sl) (w:World) (hid:inB id 1 9999=true) (hf:Aq p=0) (h:Ag.rd w w.heap.size p s) :
  Calls Tryz.prog 166 #[.int .i64 id,Hi p s] w (Zs (An id p) w):=by
 have fI:=Bn.1 hf
 have hT:=Ch fI.1
 have hE:=Dh fI.1
 obtain ⟨A,n,c⟩:=s
 obtain rfl:n=p.edges.length:=RdL.at1 (s:=⟨A,n,c⟩) h
 have qT:=Lib.hid (fun W (hW:Below w.heap.size w W)=>((Gf h).below hW).more hW.size)
 have CP:=Lib.hid (fun W (hW:Below w.heap.size w W)=>Kf p ⟨A,p.edges.length,c⟩ W (by unfold C8;rw [El (cnt:=Dy) (fun _=>rfl)];omega) (Ag.rd_more (Ag.rd_below h hW) hW.size))
 have CF:=Lib.hid (fun W (hW:Below w.heap.size w W)=>Ex p (.slice A p.edges.length c) W (by omega) (qT.out W hW))
 have CB:=Lib.hid (fun W (hW:Below w.heap.size w W) t=>Ll p (.slice A p.edges.length c) t W hf (qT.out W hW))
 rw [hf] at CF
 obtain ⟨i0,aP,aX,aV,aQ⟩:=info_parts L8
 clear h fI hE hf
 have X:=(DBox.new 43 [.int .i64 p.prio,.int .i64 p.most,.int .i64 p.wait,.int .i64 p.tasks,.slice A p.edges.length c] w (b:=w.heap.size) rfl).below ((Below.refl _ _).alloc (Nat.le_refl _) (.cells #[.int .i64 0,.int .i64 0,.int .i64 0,.int .i64 0,.int .i64 0,.slice none 0 0,.int .i64 0,.slice none 0 0] 89))
 have RES:=DBox.new 89 [.int .i64 0,.int .i64 0,.int .i64 0,.int .i64 0,.int .i64 0,.slice none 0 0,.int .i64 0,.slice none 0 0] (w.alloc (.cells #[.int .i64 p.prio,.int .i64 p.most,.int .i64 p.wait,.int .i64 p.tasks,.slice A p.edges.length c] 43)) (b:=w.heap.size+1) (by simp)
 have B0:Below w.heap.size w ((w.alloc (.cells #[.int .i64 p.prio,.int .i64 p.most,.int .i64 p.wait,.int .i64 p.tasks,.slice A p.edges.length c] 43)).alloc (.cells #[.int .i64 0,.int .i64 0,.int .i64 0,.int .i64 0,.int .i64 0,.slice none 0 0,.int .i64 0,.slice none 0 0] 89)):=by repeat (first | exact Below.refl _ _ | refine Below.alloc ?_ (by simp<;>omega) _)
 go_enter Tryz.func166,Tryz.ntmps166
 go_wp2_with (go_at_call 58;refine (Ap _ _ _ _).mono ?_;rintro e w9 ⟨rfl,rfl⟩;rw [hid])
 generalize ((w.alloc (.cells #[.int .i64 p.prio,.int .i64 p.most,.int .i64 p.wait,.int .i64 p.tasks,.slice A p.edges.length c] 43)).alloc (.cells #[.int .i64 0,.int .i64 0,.int .i64 0,.int .i64 0,.int .i64 0,.slice none 0 0,.int .i64 0,.slice none 0 0] 89))=W at *
 refine (CF.out _ B0).mono ?_
 rintro e1 w1 ⟨rfl,b1⟩
 have dM:=RES.lt
 replace X:=X.below b1
 replace RES:=RES.below b1
 obtain ⟨X_0,X_1,X_2,X_3,X_4,X_l⟩:=X.g5
 have B1:=Aa B0 b1
 have bJ:=b1.size
 clear B0 b1
 go_wp2_with fail
 refine (CP.out _ B1).mono ?_
 rintro e1 w2 ⟨⟨A3,n3,c3⟩,F,rfl,op,nF,b2⟩
 clear X_0 X_1 X_2 X_3 X_4 X_l
 replace X:=X.below b2
 replace RES:=RES.below b2
 have B2:=Aa B1 b2
 have eG:=b2.size
 have cH:=Ag.ow_lt op
 clear B1 b2 CP CF
 obtain ⟨X_0,X_1,X_2,X_3,X_4,X_l⟩:=X.g5
 go_upto_region 4 with fail
 have RB:=DBox.new 89 [.int .i64 id,.int .i64 p.prio,.int .i64 p.most,.int .i64 p.wait,.int .i64 p.tasks,.slice A3 n3 c3,.int .i64 1,.slice none 0 0] w2 (b:=w2.heap.size) rfl
 have b3:Below w2.heap.size w2 (w2.alloc (.cells #[.int .i64 id,.int .i64 p.prio,.int .i64 p.most,.int .i64 p.wait,.int .i64 p.tasks,.slice A3 n3 c3,.int .i64 1,.slice none 0 0] 89)):=(Below.refl _ _).alloc (Nat.le_refl _) _
 clear X_0 X_1 X_2 X_3 X_4 X_l
 replace X:=X.below b3
 replace RES:=RES.below b3
 replace op:=Ag.ow_below op b3
 have B3:=Aa B2 b3
 have jP:=b3.size
 have hRB:=RB.lt
 generalize w2.alloc (.cells #[.int .i64 id,.int .i64 p.prio,.int .i64 p.most,.int .i64 p.wait,.int .i64 p.tasks,.slice A3 n3 c3,.int .i64 1,.slice none 0 0] 89)=w3 at *
 generalize uA:w2.heap.size=rb at *
 have bT:∀ x∈F,w.heap.size+1<x/\x<rb:=fun x hx=>⟨by have:=nF x hx;omega,cH x hx⟩
 clear cH nF B2 b3
 obtain ⟨T,sD⟩:∃ T:Nat,p.tasks=T:=⟨p.tasks.toNat,by omega⟩
 have kY:=Lib.hid sD
 have pR:=Lib.hid (show p.tasks.toNat=T by omega)
 have eU:T<=12:=by omega
 clear sD
 have hH:Hid (An id p=⟨id,p,1,(List.range T).map (Ck p)⟩):=by
  show An id p=_
  unfold An
  rw [pR.out]
 go_wp2
 go_loopw [7] (fun i wr=>∃ (k:Nat) (vt:Value),k<=T/\i = .int .i64 k/\Hid (Ow Dj 138 wr (rb+1) vt ((List.range k).map (Ck p)))/\DBox w.heap.size [.int .i64 p.prio,.int .i64 p.most,.int .i64 p.wait,.int .i64 p.tasks,.slice A p.edges.length c] wr/\DBox (w.heap.size+1) [.int .i64 0,.int .i64 0,.int .i64 0,.int .i64 0,.int .i64 0,.slice none 0 0,.int .i64 0,.slice none 0 0] wr/\DBox rb [.int .i64 id,.int .i64 p.prio,.int .i64 p.most,.int .i64 p.wait,.int .i64 p.tasks,.slice A3 n3 c3,.int .i64 1,vt] wr/\Hid (Ag.ow wr F p ⟨A3,n3,c3⟩)/\Below w.heap.size w wr/\rb<wr.heap.size) (fun i _=>T - (intOf i).toNat)
 case atStart=>exact ⟨0,_,Nat.zero_le _,rfl,Ow.nil Dj 138 w3 (rb+1),X,RES,RB,op,B3,hRB⟩
 case round =>
  clear X RES RB op B3
  obtain ⟨k,vt,hk,rfl,ho,X,RES,RB,op,hb,bR⟩:=hrel
  obtain ⟨X_0,X_1,X_2,X_3,X_4,X_l⟩:=X.g5
  obtain ⟨RB_0,RB_1,RB_2,RB_3,RB_4,RB_5,RB_6,RB_7,RB_l⟩:=RB.g8
  by_cases aA:k<T
  ·have aB:(k:Int)<p.tasks:=by have:=kY.out;omega
   have hS:=Lib.hid (Lr (Ck p) k)
   go_wp2_with fail
   refine (CB.out _ hb k).mono ?_
   rintro e1 w4 ⟨vb,rfl,ob,b4⟩
   obtain ⟨A9,c9,rfl,-⟩:=_root_.id (Rd.of_own ob)
   have kU:(Cf (Ca p) p.tasks.toNat k).length<=12:=by have h1:=Gn (Ca p) p.tasks.toNat k;have h2:=pR.out;omega
   have hN:Hid (Ck p k=⟨if (Cf (Ca p) p.tasks.toNat k).length=0 then 2 else 1,(Cf (Ca p) p.tasks.toNat k).length,0,0⟩):=rfl
   have tZ:=Lib.hid (show ((List.range k).map (Ck p)).length<=3000000 by simp;omega)
   generalize (Cf (Ca p) p.tasks.toNat k).length=N at *
   clear X_0 X_1 X_2 X_3 X_4 X_l
   clear RB_0 RB_1 RB_2 RB_3 RB_4 RB_5 RB_6 RB_7 RB_l
   have hb4s:=b4.size
   have bN:=hb.size
   replace X:=X.below b4
   replace RES:=RES.below b4
   replace RB:=RB.below b4
   replace op:=Ag.ow_below op.out b4
   have dA:=ho.out.below b4
   have bQ:=Aa hb b4
   clear ho b4 ob hb
   obtain ⟨RB_0,RB_1,RB_2,RB_3,RB_4,RB_5,RB_6,RB_7,RB_l⟩:=RB.g8
   have rbf:=RB.free
   by_cases hz:N=0
   ·subst hz
    have rJ:Hid (Ck p k=⟨2,0,0,0⟩):=by rw [if_pos rfl] at hN;exact hN
    clear hN
    have b5:Below w4.heap.size w4 (w4.alloc (.cells #[.int .i64 2,.int .i64 0,.int .i64 0,.int .i64 0] 138)):=(Below.refl _ _).alloc (Nat.le_refl _) _
    have XB:=DBox.new 138 [.int .i64 2,.int .i64 0,.int .i64 0,.int .i64 0] w4 (b:=w4.heap.size) rfl
    go_upto_region 10 with fail
    clear RB_0 RB_1 RB_2 RB_3 RB_4 RB_5 RB_6 RB_7 RB_l
    clear rbf
    replace X:=X.below b5
    replace RES:=RES.below b5
    replace RB:=RB.below b5
    replace op:=Ag.ow_below op b5
    replace dA:=dA.below b5
    replace bQ:=Aa bQ b5
    have hb5s:=b5.size
    clear b5
    generalize w4.alloc (.cells #[.int .i64 2,.int .i64 0,.int .i64 0,.int .i64 0] 138)=w5 at *
    obtain ⟨RB_0,RB_1,RB_2,RB_3,RB_4,RB_5,RB_6,RB_7,RB_l⟩:=RB.g8
    obtain ⟨XB_0,XB_1,XB_2,XB_3,XB_l⟩:=XB.g4
    have rbf:=RB.free
    have ha:Hid (∀ w:World,Below w.heap.size w (w.alloc (.cells #[.int .i64 2,.int .i64 0,.int .i64 0,.int .i64 0] 138))):=fun w=>(Below.refl _ _).alloc (Nat.le_refl _) _
    have HL:Hid (((List.range k).map (Ck p)).length=k):=by
     show ((List.range k).map (Ck p)).length=k
     simp
    go_wp2_with (at_builtin;refine Ak _ Dj (by decide) rfl (.tmp 38) (.tmp 40) rfl Tryz.underlying87 aP aX aV aQ rfl (base:=rb+1) (l:=(List.range k).map (Ck p)) rfl (dA.below (ha.out w5)) rfl (Rd.one Dj _ _ ⟨2,0,0,0⟩ rfl rfl 1 (Nat.le_refl _) (Nat.lt_succ_self _)) tZ.out (by simp) (by decide) (by simp;omega) ?_;intro v5 w6 o6 g6 _;obtain ⟨⟨va,vn,vc⟩,rfl⟩:∃ s:Sl,v5 = .slice s.a s.n s.c:=(by obtain ⟨A7,c7,rfl,_⟩:=Rd.of_own o6;exact ⟨⟨A7,_,c7⟩,rfl⟩);have RB6:=(RB.below (ha.out w5)).off g6 (fun e=>by have:=dA.within _ e.symm;omega);have q7:=RB6.cell 7 _ rfl;have qf:=RB6.free;have ql:=RB6.lt)
    have aH:Below w.heap.size w w6:=(Aa bQ (ha.out w5)).grown g6 (Aa bQ (ha.out w5)).size (fun g hg=>by have:=dA.within _ hg;omega)
    have X6:=(X.below (ha.out w5)).off g6 (fun e=>by have:=dA.within _ e.symm;omega)
    have RES6:=(RES.below (ha.out w5)).off g6 (fun e=>by have:=dA.within _ e.symm;omega)
    have op6:=(Ag.ow_keep (Ag.ow_below op (ha.out w5)) g6.size (fun b cP=>g6.block b (Ag.ow_lt (Ag.ow_below op (ha.out w5)) b cP) (fun e=>by have h1:=dA.within _ e.symm;have h2:=bT b cP;omega)))
    have dP:Ow Dj 138 (w6.setCell ⟨rb,7,none⟩ (.slice va vn vc)) (rb+1) (.slice va vn vc) ((List.range (k+1)).map (Ck p)):=by
     rw [hS.out,rJ.out]
     exact o6.setOther (fun e=>by have h1:rb+1<=rb:=(o6.within _ e).1;omega) _
    exact ⟨⟨k+1,_,by omega,by go_num,dP,X6.setOther (by show w.heap.size≠rb;omega) _,RES6.setOther (by show w.heap.size+1≠rb;omega) _,RB6.set 7 (by simp) _,Ag.ow_set op6 (a:=⟨rb,7,none⟩) (fun hx=>by have h1:w.heap.size+1<rb/\rb<rb:=bT _ hx;omega) _,aH.setCell (by show w.heap.size<=rb;omega) _,by simp [World.setCell];omega⟩,by simp [intOf];omega⟩
   ·have rJ:Hid (Ck p k=⟨1,N,0,0⟩):=by rw [if_neg hz] at hN;exact hN
    have hNI:(0:Int)<(N:Int):=by omega
    clear hN hz
    have b5:Below w4.heap.size w4 (w4.alloc (.cells #[.int .i64 1,.int .i64 (N:Int),.int .i64 0,.int .i64 0] 138)):=(Below.refl _ _).alloc (Nat.le_refl _) _
    have XB:=DBox.new 138 [.int .i64 1,.int .i64 (N:Int),.int .i64 0,.int .i64 0] w4 (b:=w4.heap.size) rfl
    go_upto_region 10 with fail
    clear RB_0 RB_1 RB_2 RB_3 RB_4 RB_5 RB_6 RB_7 RB_l
    clear rbf
    replace X:=X.below b5
    replace RES:=RES.below b5
    replace RB:=RB.below b5
    replace op:=Ag.ow_below op b5
    replace dA:=dA.below b5
    replace bQ:=Aa bQ b5
    have hb5s:=b5.size
    clear b5
    generalize w4.alloc (.cells #[.int .i64 1,.int .i64 (N:Int),.int .i64 0,.int .i64 0] 138)=w5 at *
    obtain ⟨RB_0,RB_1,RB_2,RB_3,RB_4,RB_5,RB_6,RB_7,RB_l⟩:=RB.g8
    obtain ⟨XB_0,XB_1,XB_2,XB_3,XB_l⟩:=XB.g4
    have rbf:=RB.free
    have ha:Hid (∀ w:World,Below w.heap.size w (w.alloc (.cells #[.int .i64 1,.int .i64 (N:Int),.int .i64 0,.int .i64 0] 138))):=fun w=>(Below.refl _ _).alloc (Nat.le_refl _) _
    have HL:Hid (((List.range k).map (Ck p)).length=k):=by
     show ((List.range k).map (Ck p)).length=k
     simp
    go_wp2_with (at_builtin;refine Ak _ Dj (by decide) rfl (.tmp 38) (.tmp 40) rfl Tryz.underlying87 aP aX aV aQ rfl (base:=rb+1) (l:=(List.range k).map (Ck p)) rfl (dA.below (ha.out w5)) rfl (Rd.one Dj _ _ ⟨1,(N:Int),0,0⟩ rfl rfl 1 (Nat.le_refl _) (Nat.lt_succ_self _)) tZ.out (by simp) (by decide) (by simp;omega) ?_;intro v5 w6 o6 g6 _;obtain ⟨⟨va,vn,vc⟩,rfl⟩:∃ s:Sl,v5 = .slice s.a s.n s.c:=(by obtain ⟨A7,c7,rfl,_⟩:=Rd.of_own o6;exact ⟨⟨A7,_,c7⟩,rfl⟩);have RB6:=(RB.below (ha.out w5)).off g6 (fun e=>by have:=dA.within _ e.symm;omega);have q7:=RB6.cell 7 _ rfl;have qf:=RB6.free;have ql:=RB6.lt)
    have aH:Below w.heap.size w w6:=(Aa bQ (ha.out w5)).grown g6 (Aa bQ (ha.out w5)).size (fun g hg=>by have:=dA.within _ hg;omega)
    have X6:=(X.below (ha.out w5)).off g6 (fun e=>by have:=dA.within _ e.symm;omega)
    have RES6:=(RES.below (ha.out w5)).off g6 (fun e=>by have:=dA.within _ e.symm;omega)
    have op6:=(Ag.ow_keep (Ag.ow_below op (ha.out w5)) g6.size (fun b cP=>g6.block b (Ag.ow_lt (Ag.ow_below op (ha.out w5)) b cP) (fun e=>by have h1:=dA.within _ e.symm;have h2:=bT b cP;omega)))
    have dP:Ow Dj 138 (w6.setCell ⟨rb,7,none⟩ (.slice va vn vc)) (rb+1) (.slice va vn vc) ((List.range (k+1)).map (Ck p)):=by
     rw [hS.out,rJ.out]
     exact o6.setOther (fun e=>by have h1:rb+1<=rb:=(o6.within _ e).1;omega) _
    exact ⟨⟨k+1,_,by omega,by go_num,dP,X6.setOther (by show w.heap.size≠rb;omega) _,RES6.setOther (by show w.heap.size+1≠rb;omega) _,RB6.set 7 (by simp) _,Ag.ow_set op6 (a:=⟨rb,7,none⟩) (fun hx=>by have h1:w.heap.size+1<rb/\rb<rb:=bT _ hx;omega) _,aH.setCell (by show w.heap.size<=rb;omega) _,by simp [World.setCell];omega⟩,by simp [intOf];omega⟩
  ·have aB:¬ (k:Int)<p.tasks:=by have:=kY.out;omega
   have hkT:k=T:=by omega
   subst hkT
   have rf:=RES.free
   have RES_0:=RES.cell 0 _ rfl
   have RES_1:=RES.cell 1 _ rfl
   have RES_2:=RES.cell 2 _ rfl
   have RES_3:=RES.cell 3 _ rfl
   have RES_4:=RES.cell 4 _ rfl
   have RES_5:=RES.cell 5 _ rfl
   have RES_6:=RES.cell 6 _ rfl
   have RES_7:=RES.cell 7 _ rfl
   have ho1:=ho.out
   obtain ⟨⟨ta,tn,tc⟩,Ft,rfl,ot,nt⟩:=Qg ho1
   go_wp2
   have e1:w.heap.size+1∉F:=fun hx=>by have:=bT _ hx;omega
   have e2:w.heap.size+1∉Ft:=fun hx=>by have:=nt _ hx;omega
   refine bodyPost_ret (Xo (DBox.row8 RES rfl _ _ _ _ _ _ _ _)) rfl ⟨(⟨A3,n3,c3⟩,⟨ta,tn,tc⟩),F ++ Ft,by rw [hH.out],⟨F,Ft,rfl,?_,?_,?_⟩,?_,?_⟩
   ·rw [List.nodup_append]
    refine ⟨Ag.ow_nodup op.out,ot.nodup,fun u hu u' hu' e=>?_⟩
    have:=bT u hu
    have:=nt u' hu'
    omega
   ·rw [hH.out]
    show Ag.ow _ F p _
    exact (by (repeat (refine Dt.ow_set Ag ?_ e1 _));exact op.out)
   ·rw [hH.out]
    show OwL Cv _ Ft _ ((List.range k).map (Ck p))
    exact ((((((((ot.set (a:=⟨w.heap.size+1,_,none⟩) e2 _).set (a:=⟨w.heap.size+1,_,none⟩) e2 _).set (a:=⟨w.heap.size+1,_,none⟩) e2 _).set (a:=⟨w.heap.size+1,_,none⟩) e2 _).set (a:=⟨w.heap.size+1,_,none⟩) e2 _).set (a:=⟨w.heap.size+1,_,none⟩) e2 _).set (a:=⟨w.heap.size+1,_,none⟩) e2 _).set (a:=⟨w.heap.size+1,_,none⟩) e2 _)
   ·intro x hx
    rcases List.mem_append.1 hx with hx | hx
    ·have:=bT x hx;omega
    ·have:=nt x hx;have:=bJ;omega
   ·repeat (first | (with_reducible exact hb) | refine Below.setCell ?_ (by simp<;>omega) _)
theorem Ow.rdHi {α:Type} {e:Enc α} {E:TypeId} {w w':World} {base:Nat} {v:Value} {l:List α} {F:List Nat} (o:Ow e E w base v l) (hC:Chg F w w') (hF:∀ x∈F,x<base\/w.heap.size<=x):Rd e w' w'.heap.size v l :=
 (Rd.of_own o).keepF hC.size (fun b hb ob=>by
  have h1:=o.within b (E6 _ _ _ hb)
  exact hC.cell (p:=⟨b,ob,none⟩) h1.2 (fun hx=>by have:=hF b hx;omega))
theorem N1 (was r:Run):K8 was r r.tasks.length=(E7 r.tasks 2).filter (fun t=>!decide (t∈E7 was.tasks 2)):=by
 unfold K8 E7 Em
 rw [List.filter_filter]
 apply List.filter_congr
 intro t ht
 have hm:t∈(List.range was.tasks.length).filter (fun t=>(was.tasks.getD t ⟨0,0,0,0⟩).state == 2) ↔ (Ax was t).state=2:=by
  rw [List.mem_filter,List.mem_range]
  show (t<was.tasks.length/\((Ax was t).state == 2)=true) ↔ _
  constructor
  ·intro h;simpa using h.2
  ·intro h
   refine ⟨?_,by simpa using h⟩
   apply Decidable.byContradiction
   intro hn
   unfold Ax at h
   rw [List.getD_eq_getElem?_getD,List.getElem?_eq_none (by omega)] at h
   cases h
 show ((Ax r t).state == 2 && !((Ax was t).state == 2))=(!decide _ && ((Ax r t).state == 2))
 rw [decide_eq_decide.2 hm,Bool.and_comm]
 rfl
theorem Xp (y:Yard) (k:Nat) (r:Run) (hk:k<y.runs.length):Dq y k r=Hy ⟨y.now,y.seq,y.shelf,y.runs.set k r⟩ r ((E7 r.tasks 2).filter (fun t=>!decide (t∈E7 y.runs[k].tasks 2))):=by
 rw [<-N1]
 unfold Dq Kr Hy
 rw [List.getD_eq_getElem?_getD,List.getElem?_eq_getElem hk]
 rfl
def Sd (z:Yard) (s:Sl×Sl) (b:Nat) (F:List Nat) (w:World) (e:Ending) (w':World):Prop :=
 e = .returned (.tuple #[]) /\ ∃ F',DBox b (Dk z s) w'/\Ab.ow w' F' z s/\(∀ x∈F',x∈F\/w.heap.size<=x)/\Chg (b :: F) w w'
theorem H7 (FN p:Nat) (hF:∀ (args:Array Value) (w:World),(callFunc FN args).run Tryz.prog w = .ok (.enter FN args) w) (y:Yard) (b:Nat) (s:Sl×Sl) (F:List Nat) (k:Nat) (r:Run) (w:World) (h4:y.shelf.length=4) (hM:∀ s∈y.shelf,s.length<=90000) (hq:0<=y.seq/\y.seq<=1900000000)
  (hk:k<y.runs.length) (hT:r.tasks.length<=1000) (qG:y.runs[k].tasks.length<=1000) (hY:DBox b (Dk y s) w) (hy:Ab.ow w F y s) (cP:b∉F)
  (HOW:Hid (∀ (W:World) gr o n c rs G1 Fx G2 sr,Below w.heap.size w W->Foc Am W gr o n c rs k G1 Fx G2 y.runs[k] sr->Calls Tryz.prog FN #[.pointer (some ⟨gr,o+k * 8,none⟩),.pointer (some ⟨p,0,none⟩)] W (Fh gr o n c rs k G1 Fx G2 r sr W))) :
  Calls Tryz.prog 169 #[.pointer (some ⟨b,0,none⟩),.int .i64 k,.func (.func FN) #[] #[.pointer (some ⟨p,0,none⟩)]] w (Sd (Dq y k r) s b F w):=by
 have hTS:=Lib.hid (Xp y k r hk)
 obtain ⟨F1,F2,rfl,bK,os,orr⟩:=hy
 obtain ⟨⟨sa,sn,sc⟩,⟨ra,rn,rc⟩⟩:=s
 replace os:OwL (Dt.list Af) w F1 (.slice sa sn sc) y.shelf:=os
 replace orr:OwL Am w F2 (.slice ra rn rc) y.runs:=orr
 obtain rfl:sn=y.shelf.length:=RdL.at1 (s:=⟨sa,sn,sc⟩) os.rd
 obtain rfl:rn=y.runs.length:=RdL.at1 (s:=⟨ra,rn,rc⟩) orr.rd
 obtain ⟨g,o',_,rfl,fL,_,_⟩:=os.rd.entryS (k:=0) (by omega)
 have eF:=os.block_mem (by omega)
 obtain ⟨gr,o,rs,sr,G1,Fx,G2,hAe,qR,hm,F0_⟩:=orr.foc hk
 obtain rfl:ra=_:=hAe
 have hF2m:=Lib.hid (show ∀ x∈gr :: Fx,x∈F2 from fun x hx=>by rw [qR];rcases List.mem_cons.1 hx with h | h<;>simp [h])
 have dU:=Lib.hid (show ∀ x∈F1,x∉F2 from fun x h1 h2=>(List.nodup_append.1 bK).2.2 x h1 x h2 rfl)
 have aA:=Lib.hid (show ∀ x∈F1 ++ F2,x<w.heap.size from fun x hx=>by rcases List.mem_append.1 hx with h | h;exact os.lt x h;exact orr.lt x h)
 have fY:(k:Int)<(y.runs.length:Int):=by omega
 have dG:(0:Int)<=(k:Int):=by omega
 have mE:=hY.lt
 have CT:=Lib.hid (Fi y.runs[k] sr 2 w (by omega) (Am.ow_rd F0_.here))
 obtain ⟨y0,y1,y2,y3,-⟩:=hY.g4
 obtain ⟨c0,c1,c2,c3,c4,c5,c6,c7⟩:=F0_.run
 have mI:=F0_.blk
 generalize cA:y.runs[k]=rk at *
 go_enter Tryz.func169,Tryz.ntmps169
 go_wp2_with fail
 refine CT.out.mono ?_
 rintro e w1 ⟨v1,rfl,ov1,b1⟩
 obtain ⟨A1,cv1,rfl,-⟩:=_root_.id (Rd.of_own ov1)
 clear y0 y1 y2 y3 c0 c1 c2 c3 c4 c5 c6 c7 CT
 have F1_:Foc Am w1 gr o y.runs.length rc rs k G1 Fx G2 rk sr:=F0_.sub (Chg.of_below _ b1) (Am.ow_below F0_.here b1) rfl
 replace os:=os.below b1
 replace hY:=hY.below b1
 obtain ⟨y0,y1,y2,y3,-⟩:=hY.g4
 have nB:=F1_.blk
 have aV:=b1.size
 go_wp2_with fail
 refine (HOW.out w1 gr o y.runs.length rc rs G1 Fx G2 sr b1 F1_).mono ?_
 rintro e w2 ⟨rfl,F2_,hC⟩
 have rv1:=ov1.rdHi hC (fun x hx=>.inl (aA.out x (List.mem_append_right _ (hF2m.out x hx))))
 replace os:=os.chg hC (fun x hx hx2=>dU.out x hx (hF2m.out x hx2))
 replace hY:=hY.chg hC (fun hx=>cP (List.mem_append_right _ (hF2m.out _ hx)))
 have gX:Chg (b :: (F1 ++ F2)) w w2:=(Chg.of_below _ b1).trans (hC.mono (fun x hx=>List.mem_cons_of_mem _ (List.mem_append_right _ (hF2m.out x hx))))
 have aQ:=hC.size
 clear y0 y1 y2 y3 F1_ hC ov1 F0_ orr
 obtain ⟨y0,y1,y2,y3,-⟩:=hY.g4
 obtain ⟨c0,c1,c2,c3,c4,c5,c6,c7⟩:=F2_.run
 have gC:=F2_.blk
 have CT2:=Lib.hid (Fi r sr 2 w2 (by omega) (Am.ow_rd F2_.here))
 go_wp2_with fail
 refine CT2.out.mono ?_
 rintro e w3 ⟨v3,rfl,ov3,b3⟩
 obtain ⟨A3,cv3,rfl,-⟩:=_root_.id (Rd.of_own ov3)
 clear y0 y1 y2 y3 c0 c1 c2 c3 c4 c5 c6 c7 CT2
 have F3_:Foc Am w3 gr o y.runs.length rc rs k G1 Fx G2 r sr:=F2_.sub (Chg.of_below _ b3) (Am.ow_below F2_.here b3) rfl
 replace os:=os.below b3
 replace hY:=hY.below b3
 have rv3:=Rd.of_own ov3
 replace rv1:=(rv1.below b3).more b3.size
 have dL:=gX.trans (Chg.of_below (b :: (F1 ++ F2)) b3)
 have uD:=b3.size
 clear F2_ gX ov3 b3
 have hL2:(E7 r.tasks 2).length<=1000:=Nat.le_trans (I6 _ _ _) hT
 have sG:(E7 rk.tasks 2).length<=1000:=Nat.le_trans (I6 _ _ _) qG
 obtain ⟨j0,bX,jz0,jz1,jz2⟩:=info_parts Ok
 generalize E7 rk.tasks 2=L0 at *
 generalize E7 r.tasks 2=L2 at *
 go_wp2
 go_loopw [7,9,35] (fun x u i wr=>∃ (j:Nat) (v:Value),j<=L2.length/\v=x/\i = .int .i64 j/\Hid (Ow Cs 3 wr w3.heap.size v ((L2.take j).filter fun t=>!decide (t∈L0)))/\Below w3.heap.size w3 wr) (fun _ _ i _=>L2.length - (intOf i).toNat)
 case atStart=>exact ⟨0,_,Nat.zero_le _,rfl,rfl,Ow.nil _ _ _ _,Below.refl _ _⟩
 case round =>
  obtain ⟨j,v,hj,rfl,rfl,hO,hb⟩:=hrel
  by_cases kI:j<L2.length
  ·have fU:(j:Int)<(L2.length:Int):=by omega
   obtain ⟨b9,o9,rfl,hb9,e0⟩:=(rv3.below hb).nat kI
   have cD:=hb.size
   have hb9w:b9<wr.heap.size:=by omega
   have hS:=Lib.hid (show (L2.take (j+1)).filter (fun t=>!decide (t∈L0))=(L2.take j).filter (fun t=>!decide (t∈L0)) ++ (if L2[j]∈L0 then [] else [L2[j]]) by
    rw [Ay L2 j kI,List.filter_append]
    congr 1
    by_cases hx:L2[j]∈L0<;>simp [hx])
   have aJ:((L2.take j).filter fun t=>!decide (t∈L0)).length<=3000000:=Nat.le_trans (List.length_filter_le _ _) (by rw [List.length_take];omega)
   have CC:=Lib.hid (Iy (.slice A1 L0.length cv1) L0 L2[j] wr.heap.size wr (by omega) ((rv1.below hb).more hb.size))
   generalize L2[j]=t at *
   generalize (L2.take j).filter (fun t=>!decide (t∈L0))=ML at *
   by_cases hx:t∈L0
   ·rw [decide_eq_true hx] at CC
    rw [if_pos hx,List.append_nil] at hS
    go_wp2_with fail
    refine CC.out.mono ?_
    rintro e w5 ⟨rfl,rfl⟩
    go_wp2
    exact ⟨⟨j+1,v,by omega,rfl,by go_num,by rw [hS.out];exact hO,hb⟩,by simp [intOf];omega⟩
   ·rw [decide_eq_false hx] at CC
    rw [if_neg hx] at hS
    obtain ⟨A7,c7,hv7,-⟩:=_root_.id (Rd.of_own hO.out)
    generalize hn7:ML.length=n7 at hv7
    subst hv7
    replace hn7:=Lib.hid hn7
    have ha:Below wr.heap.size wr (wr.alloc (.cells #[.int .i64 (t:Int)] 3)):=(Below.refl _ _).alloc (Nat.le_refl _) _
    have cW:=Lib.hid (show ∀ x,(Value.slice A7 n7 c7).ownBlock=some x->w3.heap.size<=x from fun x hx=>(hO.out.within x hx).1)
    go_wp2_with fail
    refine CC.out.mono ?_
    rintro e w5 ⟨rfl,rfl⟩
    go_wp2_with (at_builtin;refine Ak _ Cs (by decide) rfl (.tmp 43) (.tmp 45) rfl Tryz.underlying26 bX jz0 jz1 jz2 rfl (base:=w3.heap.size) (v:=.slice A7 n7 c7) (l:=ML) rfl (hO.out.below ha) rfl (Rd.one Cs _ _ t rfl rfl 1 (Nat.le_refl _) (Nat.lt_succ_self _)) aJ (by simp) (by decide) (by simp;omega) ?_;intro v6 w6 o6 g6 _)
    have mC:Below w3.heap.size w3 w6:=(Aa hb ha).grown g6 (Aa hb ha).size (fun g hg=>by have:=cW.out g hg;omega)
    exact ⟨⟨j+1,v6,by omega,rfl,by go_num,by rw [hS.out];exact o6,mC⟩,by simp [intOf];omega⟩
  ·have fU:¬ (j:Int)<(L2.length:Int):=by omega
   have cL:=hO.out
   rw [List.take_of_length_le (by omega)] at cL
   have cH:(L2.filter fun t=>!decide (t∈L0)).length<=1000:=Nat.le_trans (List.length_filter_le _ _) hL2
   generalize L2.filter (fun t=>!decide (t∈L0))=FL at *
   obtain ⟨A7,c7,rfl,-⟩:=_root_.id (Rd.of_own cL)
   have F4_:Foc Am wr gr o y.runs.length rc rs k G1 Fx G2 r sr:=F3_.sub (Chg.of_below _ hb) (Am.ow_below F3_.here hb) rfl
   replace os:=os.below hb
   replace hY:=hY.below hb
   obtain ⟨y0,y1,y2,y3,-⟩:=hY.g4
   obtain ⟨c0,c1,c2,c3,c4,c5,c6,c7_⟩:=F4_.run
   have hgr4:=F4_.blk
   have dZ:=dL.trans (Chg.of_below (b :: (F1 ++ F2)) hb)
   have cD:=hb.size
   have hb1F:b∉F1:=fun h=>cP (List.mem_append_left _ h)
   have CS:=Lib.hid (Mt ⟨y.now,y.seq,y.shelf,y.runs.set k r⟩ b g o' sc ⟨some ⟨gr,o,none⟩,y.runs.length,rc⟩ r sr FL A7 FL.length c7 wr F1 h4 (fun s hs=>by have:=hM s hs;omega) (by dsimp only;omega) cH hY os hb1F (Lib.hid fun W hW=>cL.rdHi hW (fun x hx=>by
    have hgw':g<w.heap.size:=fL
    have:x=b\/x=g:=by simpa using hx
    left;rcases this with rfl | rfl<;>omega)))
   rw [<-hTS.out] at CS
   unfold L9 at CS
   dsimp only at CS
   clear hO cL F3_ dL
   have aK:=Lib.hid (show (Dq y k r).runs=y.runs.set k r by rw [hTS.out];exact (Ry (y:=⟨y.now,y.seq,y.shelf,y.runs.set k r⟩) hM r FL).runs)
   generalize Dq y k r=Z at *
   go_wp2_with fail
   refine CS.out.mono ?_
   rintro e w6 ⟨rfl,F1',os6,Y6,cC,sJ⟩
   have bQ:b∉([gr] ++ (G1 ++ (Fx ++ G2))):=fun h=>cP (List.mem_append_right _ (by rw [qR];exact h))
   have orr6:=(F4_.owl hm).chg sJ (fun x hx h=>by
    have:x=b\/x=g:=by simpa using h
    rcases this with rfl | rfl
    ·exact bQ hx
    ·exact dU.out _ eF (by rw [qR];exact hx))
   rw [<-qR] at orr6
   have fV:=dZ.trans (sJ.mono (fun x hx=>by
    have:x=b\/x=g:=by simpa using hx
    rcases this with rfl | rfl
    ·exact List.mem_cons_self ..
    ·exact List.mem_cons_of_mem _ (List.mem_append_left _ eF)))
   have HF:=Lib.hid (show Sd Z (⟨some ⟨g,o',none⟩,y.shelf.length,sc⟩,⟨some ⟨gr,o,none⟩,y.runs.length,rc⟩) b (F1 ++ F2) w (.returned (.tuple #[])) w6 from
    ⟨rfl,F1' ++ F2,Y6,⟨F1',F2,rfl,by
     rw [List.nodup_append]
     refine ⟨os6.nodup,(List.nodup_append.1 bK).2.1,fun a ha c hc e=>?_⟩
     subst e
     rcases cC _ ha with h | h
     ·exact dU.out _ h hc
     ·have:=aA.out _ (List.mem_append_right _ hc);omega,os6,by show OwL Am _ F2 _ Z.runs;rw [aK.out];exact orr6⟩,fun x hx=>by
     rcases List.mem_append.1 hx with h | h
     ·rcases cC _ h with h | h
      ·exact .inl (List.mem_append_left _ h)
      ·right;omega
     ·exact .inl (List.mem_append_right _ h),fV⟩)
   clear orr6 os6 Y6 cC sJ fV F4_
   go_wp2
   exact bodyPost_ret (v:=.tuple #[]) (by simp [results,Tryz.results169,go_sem]) rfl HF.out
end Go.Proofs.YtonlnjdempbfoaaGreat
