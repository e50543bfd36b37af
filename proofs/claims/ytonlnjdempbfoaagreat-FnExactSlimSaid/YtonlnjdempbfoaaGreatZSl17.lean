/-
  The law FnExactSlim: its walk, out of the contracts of what it calls. Written by program (lawdeep.py).
-/
import Derived.Test.YtonlnjdempbfoaaGreatZSl2
import Derived.Test.YtonlnjdempbfoaaGreatZSl16
import Derived.Deep.RegionHeld3
namespace Go.Proofs.YtonlnjdempbfoaaGreat
open Go.RowKit
set_option maxRecDepth 100000
set_option maxHeartbeats 4000000
set_option linter.unusedVariables false
set_option linter.unusedSimpArgs false
open Value renaming slice->Aa
theorem Xz (x0:List (Deed)) (s0:Sl) (w:World) (rV:wfL Nd x0) (h0:RdL Cg w w s0.v x0) :
  Calls Tryz.prog 7 #[Aa s0.a s0.n s0.c] w fun e w'=>e = .returned (.bool true)/\Below w w w':=by
 have b0:=Br w w;go_enter Tryz.func7,Tryz.ntmps7;go_wp2_with fail
 refine (Ys x0 s0 _ _ Bl Bl rV ((h0.below b0).more b0.size)).mono ?_;rintro e w1 ⟨r1,rfl,tG,c1⟩;have b1:=Bt b0 c1;have s1_:w.heap.size<=w1.heap.size:=c1.size;rcases tG with rfl | ⟨q1,z1⟩
 ·go_wp2_with fail
  go_ret;exact ⟨rfl,b1⟩
 have qb1:decide (r1<0)=false:=by simpa using q1
 have fR:E6 Cm x0<=2000000:=Bl;have mS:E6 Cm (Iq x0)<=2000000:=Nat.le_trans (Adb x0) fR;go_wp2_with fail
 refine (Ll x0 s0 _ fR ((h0.below b1).more b1.size)).mono ?_;rintro e w2 ⟨rw0s0,Fw0s0,rfl,ow0s0,nw0s0,c2⟩;have b2:=Bt b1 c2;have s2_:w1.heap.size<=w2.heap.size:=c2.size;replace ow0s0:OwL Cg w2 Fw0s0 rw0s0.v x0:=ow0s0;replace nw0s0:∀ b∈Fw0s0,w1<=b:=nw0s0;have tw0s0:∀ b∈Fw0s0,b<w2:=(OwL.lt ow0s0)
 go_wp2_with fail
 refine (Xy x0 rw0s0 _ fR (OwL.rd ow0s0)).mono ?_;rintro e w3 ⟨rw0,Fw0,rfl,ow0,nw0,c3⟩;have b3:=Bt b2 c3;replace ow0s0:=(OwL.below ow0s0 c3)
 have s3_:w2.heap.size<=w3.heap.size:=c3.size;replace ow0:OwL Cg w3 Fw0 rw0.v (Iq x0):=ow0;replace nw0:∀ b∈Fw0,w2<=b:=nw0;have tw0:∀ b∈Fw0,b<w3:=(OwL.lt ow0)
 clear ow0s0 nw0s0 tw0s0;go_wp2_with fail
 refine (Ll x0 s0 _ fR ((h0.below b3).more b3.size)).mono ?_;rintro e w4 ⟨rx0,Fx0,rfl,ox0,nx0,c4⟩;have b4:=Bt b3 c4;replace ow0:=(OwL.below ow0 c4)
 have s4_:w3.heap.size<=w4.heap.size:=c4.size;replace ox0:OwL Cg w4 Fx0 rx0.v x0:=ox0;replace nx0:∀ b∈Fx0,w3<=b:=nx0;have tx0:∀ b∈Fx0,b<w4:=(OwL.lt ox0)
 go_wp2_with fail
 refine (Qb x0 rx0 _ fR (OwL.rd ox0)).mono ?_;rintro e w5 ⟨rg0,Fg0,rfl,og0,ng0,c5⟩;have b5:=Bt b4 c5;replace ow0:=(OwL.below ow0 c5)
 replace ox0:=(OwL.below ox0 c5)
 have s5_:w4.heap.size<=w5.heap.size:=c5.size;replace og0:OwL Cg w5 Fg0 rg0.v (Iq x0):=og0;replace ng0:∀ b∈Fg0,w4<=b:=ng0;have tg0:∀ b∈Fg0,b<w5:=(OwL.lt og0)
 go_wp2_with fail
 refine (Lj (Iq x0) (Iq x0) rg0 rw0 _ mS mS (OwL.rd og0) (OwL.rd ow0)).mono ?_;rintro e w6 ⟨rfl,c6⟩;have b6:=Bt b5 c6;replace ow0:=(OwL.below ow0 c6)
 replace ox0:=(OwL.below ox0 c6)
 replace og0:=(OwL.below og0 c6)
 have s6_:w5.heap.size<=w6.heap.size:=c6.size;go_wp2_with fail
 refine (Ll x0 s0 _ fR ((h0.below b6).more b6.size)).mono ?_;rintro e w7 ⟨ryx0,Fyx0,rfl,oyx0,nyx0,c7⟩;have b7:=Bt b6 c7;replace ow0:=(OwL.below ow0 c7)
 replace ox0:=(OwL.below ox0 c7)
 replace og0:=(OwL.below og0 c7)
 have s7_:w6.heap.size<=w7.heap.size:=c7.size;replace oyx0:OwL Cg w7 Fyx0 ryx0.v x0:=oyx0;replace nyx0:∀ b∈Fyx0,w6<=b:=nyx0;have tyx0:∀ b∈Fyx0,b<w7:=(OwL.lt oyx0)
 go_wp2_with fail
 refine (Lj x0 x0 rx0 ryx0 _ fR fR (OwL.rd ox0) (OwL.rd oyx0)).mono ?_;rintro e w8 ⟨rfl,c8⟩;have b8:=Bt b7 c8;replace ow0:=(OwL.below ow0 c8)
 replace ox0:=(OwL.below ox0 c8)
 replace og0:=(OwL.below og0 c8)
 replace oyx0:=(OwL.below oyx0 c8)
 have s8_:w7.heap.size<=w8.heap.size:=c8.size;clear oyx0 nyx0 tyx0;have kx0_:=(J8 (num:=D8) (cnt:=Cm) (K:=13) Mj x0)
 go_wp2_with fail
 refine (N8 x0 rx0 Fx0 1 _ fR Bl Bl ox0).mono ?_;rintro e w9 ⟨rfl,oo9,c9⟩;have b9:=b8.trans (c9.below b8.size (fun x hx=>by have:=nx0 x hx;omega));replace ow0:=(OwL.chg ow0 c9 (Ph (Q4 nw0 tw0) (Q4 nx0 tx0) (by first | exact .inl Bl | exact .inr Bl)))
 replace og0:=(OwL.chg og0 c9 (Ph (Q4 ng0 tg0) (Q4 nx0 tx0) (by first | exact .inl Bl | exact .inr Bl)))
 have s9_:w8.heap.size<=w9.heap.size:=c9.size;replace ox0:OwL Cg w9 Fx0 rx0.v (mkL K4 D8 1 x0):=oo9;go_wp2_with fail
 refine (Lj (Iq x0) (Iq x0) rg0 rw0 _ mS mS (OwL.rd og0) (OwL.rd ow0)).mono ?_;rintro e w10 ⟨rfl,c10⟩;have b10:=Bt b9 c10;replace ow0:=(OwL.below ow0 c10)
 replace ox0:=(OwL.below ox0 c10)
 replace og0:=(OwL.below og0 c10)
 have s10_:w9.heap.size<=w10.heap.size:=c10.size;have kg0_:=(J8 (num:=D8) (cnt:=Cm) (K:=13) Mj (Iq x0))
 go_wp2_with fail
 refine (N8 (Iq x0) rg0 Fg0 1 _ mS Bl Bl og0).mono ?_;rintro e w11 ⟨rfl,oo11,c11⟩;have b11:=b10.trans (c11.below b10.size (fun x hx=>by have:=ng0 x hx;omega));replace ow0:=(OwL.chg ow0 c11 (Ph (Q4 nw0 tw0) (Q4 ng0 tg0) (by first | exact .inl Bl | exact .inr Bl)))
 replace ox0:=(OwL.chg ox0 c11 (Ph (Q4 nx0 tx0) (Q4 ng0 tg0) (by first | exact .inl Bl | exact .inr Bl)))
 have s11_:w10.heap.size<=w11.heap.size:=c11.size;replace og0:OwL Cg w11 Fg0 rg0.v (mkL K4 D8 1 (Iq x0)):=oo11;go_wp2_with fail
 refine (N9 (Iq x0) rg0 1 _ mS Bl Bl (OwL.rd og0)).mono ?_;rintro e w12 ⟨rfl,c12⟩;have b12:=Bt b11 c12;replace ow0:=(OwL.below ow0 c12)
 replace ox0:=(OwL.below ox0 c12)
 replace og0:=(OwL.below og0 c12)
 have s12_:w11.heap.size<=w12.heap.size:=c12.size;go_wp2_with fail
 refine (Ll x0 s0 _ fR ((h0.below b12).more b12.size)).mono ?_;rintro e w13 ⟨rh0i0,Fh0i0,rfl,oh0i0,nh0i0,c13⟩;have b13:=Bt b12 c13;replace ow0:=(OwL.below ow0 c13)
 replace ox0:=(OwL.below ox0 c13)
 replace og0:=(OwL.below og0 c13)
 have s13_:w12.heap.size<=w13.heap.size:=c13.size;replace oh0i0:OwL Cg w13 Fh0i0 rh0i0.v x0:=oh0i0;replace nh0i0:∀ b∈Fh0i0,w12<=b:=nh0i0;have th0i0:∀ b∈Fh0i0,b<w13:=(OwL.lt oh0i0)
 go_wp2_with fail
 refine (Qb x0 rh0i0 _ fR (OwL.rd oh0i0)).mono ?_;rintro e w14 ⟨rh0,Fh0,rfl,oh0,nh0,c14⟩;have b14:=Bt b13 c14;replace ow0:=(OwL.below ow0 c14)
 replace ox0:=(OwL.below ox0 c14)
 replace og0:=(OwL.below og0 c14)
 replace oh0i0:=(OwL.below oh0i0 c14)
 have s14_:w13.heap.size<=w14.heap.size:=c14.size;replace oh0:OwL Cg w14 Fh0 rh0.v (Iq x0):=oh0;replace nh0:∀ b∈Fh0,w13<=b:=nh0;have th0:∀ b∈Fh0,b<w14:=(OwL.lt oh0)
 clear oh0i0 nh0i0 th0i0;go_wp2_with fail
 refine (Lj (Iq x0) (Iq x0) rh0 rw0 _ mS mS (OwL.rd oh0) (OwL.rd ow0)).mono ?_;rintro e w15 ⟨rfl,c15⟩;have b15:=Bt b14 c15;replace ow0:=(OwL.below ow0 c15)
 replace ox0:=(OwL.below ox0 c15)
 replace og0:=(OwL.below og0 c15)
 replace oh0:=(OwL.below oh0 c15)
 have s15_:w14.heap.size<=w15.heap.size:=c15.size;go_wp2_with fail
 refine (N9 (Iq x0) rg0 1 _ mS Bl Bl (OwL.rd og0)).mono ?_;rintro e w16 ⟨rfl,c16⟩;have b16:=Bt b15 c16;replace ow0:=(OwL.below ow0 c16)
 replace ox0:=(OwL.below ox0 c16)
 replace og0:=(OwL.below og0 c16)
 replace oh0:=(OwL.below oh0 c16)
 have s16_:w15.heap.size<=w16.heap.size:=c16.size;go_wp2_with fail
 go_ret;exact ⟨rfl,b16⟩
end Go.Proofs.YtonlnjdempbfoaaGreat
