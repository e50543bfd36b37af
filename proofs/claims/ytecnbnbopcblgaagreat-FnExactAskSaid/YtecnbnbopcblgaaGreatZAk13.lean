/-
  VictimsOf of the program. RunLeft of the program. Submit of the reference. Written by program (kx.py). Cancel of the reference. Written by program (ky.py). Late
-/
import Derived.Test.YtecnbnbopcblgaaGreatZAk0
import Derived.Test.YtecnbnbopcblgaaGreatZAk6
import Derived.Test.YtecnbnbopcblgaaGreatZAk9
import Derived.Test.YtecnbnbopcblgaaGreatZAk10
import Derived.Test.YtecnbnbopcblgaaGreatZAk11
import Derived.Test.YtecnbnbopcblgaaGreatZAk12
namespace Go.Proofs.YtecnbnbopcblgaaGreat
open Go.RowKit
set_option maxRecDepth 100000
set_option maxHeartbeats 4000000
set_option linter.unusedVariables false
set_option linter.unusedSimpArgs false
open Value renaming int->J,slice->Aa
open IntKind renaming i64->U
open Option renaming none->Ab,some->Ac
open Below renaming setCell->Ad
open Nat renaming zero_le->Ag,le_trans->Ah
open Go renaming bodyPost_ret->Aj
open Go.Proofs.Tryz renaming prog->Am
open Int renaming toNat_natCast->Ao
open IntWalk renaming i64_in->Aq
open List renaming length_map->Ar,getElem_mem->Aw,nodup_append->Ax,length_take->Az,length_append->Bd,mem_append_right->Be,mem_append_left->Bf,take_of_length_le->Bg,mem_append->Bi
open World renaming size_alloc->Bj
open Go.Proofs.Tryz
theorem Os {p:Prop} (h:p:=by
 clear OB9_;clear OB9 RES9 oy9 B9 pW fD;obtain ⟨i,F,hi,rfl,oy,hF,OB,RES,hb,gR⟩:=hrel;rename World=>wo;have h4:=nH.out;replace h4:=Br h4;have hRl9:=RES.lt;obtain ⟨OB_0,OB_1,OB_2,OB_3,OB_l⟩:=OB.g4;by_cases aA:i<y.shelf.length
 ·have aB:(i:Int)<(m1:Int):=by have:=bZ.out;omega
  have hi00:(0:Int)<=(i:Int):=Bl;have qA:i<((y.shelf.take i).map (Dj id) ++ y.shelf.drop i).length:=by simp;omega
  obtain ⟨g,o,⟨xa,xn,xc⟩,rfl,gD,fE,ch⟩:=RdL.entryS (show RdL (Dt.list By) wo wo.heap.size (Aa B1 m1 e1) ((y.shelf.take i).map (Dj id) ++ y.shelf.drop i) from (Bw.ow_rd (F:=F) (x:=⟨y.now,y.seq,(y.shelf.take i).map (Dj id) ++ y.shelf.drop i,RR⟩) oy.out).1) qA;rw [Wg (Dj id) aA qA] at fE;replace fE:RdL By wo wo (Aa xa xn xc) y.shelf[i]:=fE;have hxn:xn=y.shelf[i].length:=RdL.at1 (s:=⟨xa,xn,xc⟩) fE;subst hxn;have h80:=jB.out i aA;have vD:i<=3:=by have:=h4.out;omega
  have kH:∀ j,wo.frozen? ⟨g,j,Ab⟩=false:=by
   obtain ⟨G1,G2,_,_,os,_⟩:=oy.out;exact OwL.free0 (show OwL (Dt.list By) wo G1 (Aa (Ac ⟨g,o,Ab⟩) m1 e1) _ from os) (Nat.lt_of_le_of_lt (Ag _) qA)
  have bW:=Br (O3 (Dj id) aA);have q0:Below wo wo (wo.alloc (.cells #[] 71)):=Bu;have o0:=Ow.empty Cz 71 wo rfl;generalize y.shelf[i]=SH at *
  go_wp2;go_loopw [9,10] (fun v j wr=>∃ m:Nat,m<=SH.length/\j = J U m/\Hid (Ow Cz 71 wr wo v (Dj id (SH.take m)))/\Below wo wo wr) (fun _ j _=>SH.length - (intOf j).toNat);case atStart=>exact ⟨0,Ag _,rfl,o0,q0⟩
  case round =>
   clear o0 q0;obtain ⟨m,hm_,rfl,hO,fN⟩:=hrel;clear OB_0 OB_1 OB_2 OB_3 OB_l;have OB2:=OB.below fN;have OB2_:=OB2.g4;have ch2:=(fN.cell (p:=⟨g,_,Ab⟩) gD).trans ch;have hwis:=fN.size;by_cases aW:m<SH.length
   ·have hltI2:(m:Int)<(SH.length:Int):=Bl;have cL:(0:Int)<=(m:Int):=Bl;obtain ⟨ge,oe,_,rfl,uQ,_,d0,d1,d2,d3⟩:=(fE.below fN).entry aW;have Hl:=Br (show (Dj id (SH.take m)).length<=3000000 by have h1:=List.length_filter_le (fun e:Entry=>e.run != id) (SH.take m);rw [Az] at h1;unfold Dj;omega);cases q:(SH[m].run != id)
    ·have S:=Br (show Dj id (SH.take (m+1))=Dj id (SH.take m) from Mf (p:=fun e:Entry=>e.run != id) aW q);go_wp2;exact ⟨⟨m+1,Bl,by go_num,by rw [S.out];exact hO,fN⟩,clM⟩
    ·have S:=Br (show Dj id (SH.take (m+1))=Dj id (SH.take m) ++ [SH[m]] from Lc (p:=fun e:Entry=>e.run != id) aW q);generalize SH[m]=e9 at *
     have ha:Hid (∀ w:World,Below w w (w.alloc (.cells #[J U e9.prio,J U e9.seq,J U e9.run,J U e9.task] 71))):=fun w=>Bu;have gH:=hO.out;go_wp2_with (at_builtin;go_loud (refine Ci _ Cz Bq rfl (.tmp 76) (.tmp 85) rfl underlying74 aQ aU aS aR rfl (base:=wo) (l:=Dj id (SH.take m)) rfl (gH.below (ha.out _)) rfl (Rd.one Cz _ _ e9 rfl rfl 1 (Bt _) (Nat.lt_succ_self _)) Hl.out Bo Bq (by simp;omega) ?_);intro v5 w5 o5 g5 _)
     have eZ:Below wo wo w5:=(Bv fN (ha.out _)).grown g5 (Bv fN (ha.out _)).size (fun g hg=>by have:=gH.within _ hg;omega);exact ⟨⟨m+1,Bl,by go_num,by rw [S.out];exact o5,eZ⟩,clM⟩
   ·have hltI2:¬ (m:Int)<(SH.length:Int):=Bl;have dC:=hO.out;rw [Bg Bl] at dC;obtain ⟨⟨a8,n8,c8⟩,Ft,rfl,o9,nF9⟩:=H7 dC;have oy2:Bw.ow wr F ⟨y.now,y.seq,(y.shelf.take i).map (Dj id) ++ y.shelf.drop i,RR⟩ (⟨Ac ⟨g,o,Ab⟩,m1,e1⟩,⟨A9,n9,c9⟩):=owB oy.out fN;have hFlt2:∀ x∈F,x<wo:=Bw.ow_lt (F:=F) (x:=⟨y.now,y.seq,(y.shelf.take i).map (Dj id) ++ y.shelf.drop i,RR⟩) (s:=(⟨Ac ⟨g,o,Ab⟩,m1,e1⟩,⟨A9,n9,c9⟩)) oy.out;obtain ⟨F',p1,p2,p3⟩:=Gt oy2 qA (l:=Dj id SH) (t:=⟨a8,n8,c8⟩) o9 (fun x hx bI=>by have h1:=nF9 x hx;have h2:=hFlt2 x bI;omega);dsimp only at p1;rw [bW.out] at p1;have hgn:=hF.out g p3;have hfg2:∀ j,wr.frozen? ⟨g,j,Ab⟩=false:=fun j=>(fN.frozen (p:=⟨g,j,Ab⟩) gD).trans (kH j);have OB3:=OB2.setOther (a:=⟨g,o+i,Ab⟩) (by show ob≠g;omega) (Aa a8 n8 c8);have RES3:=(RES.below fN).setOther (a:=⟨g,o+i,Ab⟩) (by show w.heap.size+1≠g;omega) (Aa a8 n8 c8);have cB:Below w w (wr.setCell ⟨g,o+i,Ab⟩ (Aa a8 n8 c8)):=Ad (Bv hb fN) (by show w.heap.size<=g;omega) _;have rM:Hid (∀ x∈F',w+1<x/\x≠ob):=fun x hx=>by
     rcases p2 x hx with h | h
     ·exact hF.out x h
     ·have:=nF9 x h;omega
    have gQ:=OB3.lt;clear hO dC bW o9 kH;go_wp2;exact ⟨⟨i+1,F',Bl,by go_num,p1,rM,OB3,RES3,cB,gQ⟩,clM⟩
 ·have aB:¬ (i:Int)<(m1:Int):=by have:=bZ.out;omega
  have hii:i=y.shelf.length:=Bl;have oyz:=oy.out;rw [Bg Bl,List.drop_eq_nil_of_le Bl,List.append_nil] at oyz;have rf:=RES.free;have RES_:=RES.g4;clear hii oy;go_wp2;have en1:w.heap.size+1∉F:=fun hx=>by have:=hF.out _ hx;omega
  refine Aj (Mg (DBox.row4 RES rfl _ _ _ _)) rfl ⟨(⟨B1,m1,e1⟩,⟨A9,n9,c9⟩),F,by rw [H.out,H2.out],by rw [H2.out];exact (by (repeat (refine Dt.ow_set Bw ?_ en1 _));exact (show Bw.ow _ F ⟨y.now,y.seq,y.shelf.map (Dj id),RR⟩ (⟨B1,m1,e1⟩,⟨A9,n9,c9⟩) from oyz)),fun x hx=>by have:=hF.out x hx;omega,?_⟩;repeat (first | (with_reducible exact hb) | refine Ad ?_ Bp _)):p:=h
theorem Aie {p:Prop} (h:p:=by
 have H2:=Br (show Jm y id p=y by unfold Jm;rw [H.out,if_neg Bq]);have RES_:=RES.g4;have rf:=RES.free;go_wp2;have en1:w.heap.size+1+1∉F:=fun hx=>by have:=nF _ hx;omega
 refine Aj (Ky (DBox.row4 RES rfl _ _ _ _)) rfl ⟨(⟨B1,m1,e1⟩,⟨B2,m2,e2⟩),F,by rw [H.out,H2.out],by rw [H2.out];exact (by (repeat (refine Dt.ow_set Bw ?_ en1 _));exact (show Bw.ow _ F y (⟨B1,m1,e1⟩,⟨B2,m2,e2⟩) from oy)),fun x hx=>by have:=nF x hx;omega,?_⟩;repeat (first | (with_reducible exact B0) | refine Ad ?_ Bp _)):p:=h
theorem Aih {p:Prop} (h:p:=by
 have H2:=Br (show Iu y id=y by unfold Iu;rw [H.out,if_neg Bq]);have RES_:=RES.g4;have rf:=RES.free;go_wp2;have en1:w.heap.size+1∉F:=fun hx=>by have:=nF _ hx;omega
 refine Aj (N5 (DBox.row4 RES rfl _ _ _ _)) rfl ⟨(⟨B1,m1,e1⟩,⟨B2,m2,e2⟩),F,by rw [H.out,H2.out],by rw [H2.out];exact (by (repeat (refine Dt.ow_set Bw ?_ en1 _));exact (show Bw.ow _ F y (⟨B1,m1,e1⟩,⟨B2,m2,e2⟩) from oy)),fun x hx=>by have:=nF x hx;omega,?_⟩;repeat (first | (with_reducible exact B0) | refine Ad ?_ Bp _)):p:=h
theorem Aii {p:Prop} (h:p:=by
 have H2:=Br (show Iw y id=y by unfold Iw;rw [H.out,if_neg Bq]);have RES_:=RES.g4;have rf:=RES.free;go_wp2;have en1:w.heap.size+1∉F:=fun hx=>by have:=nF _ hx;omega
 refine Aj (Mg (DBox.row4 RES rfl _ _ _ _)) rfl ⟨(⟨B1,m1,e1⟩,⟨B2,m2,e2⟩),F,by rw [H.out,H2.out],by rw [H2.out];exact (by (repeat (refine Dt.ow_set Bw ?_ en1 _));exact (show Bw.ow _ F y (⟨B1,m1,e1⟩,⟨B2,m2,e2⟩) from oy)),fun x hx=>by have:=nF x hx;omega,?_⟩;repeat (first | (with_reducible exact B0) | refine Ad ?_ Bp _)):p:=h
theorem Ais {p:Prop} (h:p:=by
 have hB:Bld Cf 67 w1 base (Aa B2 m2 e2) rs:=⟨G0,oR⟩
 replace hm:=hm.out;obtain ⟨F2,h5,h6⟩:=hB.owl hm;refine ⟨F1 ++ F2,⟨F1,F2,rfl,?_,oS,h5⟩,fun b hb=>?_⟩
 ·rw [Ax];refine ⟨oS.nodup,h5.nodup,fun u hu u' hu' e=>?_⟩
  have:=eR u hu
  have:=h6 u' hu'
  omega
 ·rcases Bi.1 hb with hb | hb
  ·exact (eR b hb).1
  ·have:=h6 b hb;omega):p:=h
theorem Ai0 {p:Prop} (h:p:=by exact ⟨(b6.cell (p:=⟨_,_,Ab⟩) (by show ob<w4;omega)).trans OB_3,(b6.cell (p:=⟨_,_,Ab⟩) (by show gr<w4;omega)).trans d0,(b6.cell (p:=⟨_,_,Ab⟩) (by show gr<w4;omega)).trans d1,(b6.cell (p:=⟨_,_,Ab⟩) (by show gr<w4;omega)).trans d2,(b6.cell (p:=⟨_,_,Ab⟩) (by show gr<w4;omega)).trans d3,(b6.cell (p:=⟨_,_,Ab⟩) (by show gr<w4;omega)).trans d4,(b6.cell (p:=⟨_,_,Ab⟩) (by show gr<w4;omega)).trans d5,(b6.cell (p:=⟨_,_,Ab⟩) (by show gr<w4;omega)).trans d6,(b6.cell (p:=⟨_,_,Ab⟩) (by show gr<w4;omega)).trans d7⟩):p:=h
theorem Ajd {p:Prop} (h:p:=by
 have aB:¬ (k:Int)<(y.runs.length:Int):=Bl;obtain rfl:k=y.runs.length:=Bl;obtain ⟨rs,hm,pX⟩:=hB.out;obtain ⟨F,h1,h2⟩:=pX.owl hm;obtain ⟨A,c,hv,_⟩:=h1.form;rw [Ar] at hv;subst hv;have eG:Dv (Dt.list (Dt.flats Iz)) slV ((Gg y y.runs.length).map (I5 y)) w (.returned (Aa A (Gg y y.runs.length).length c)) wr:=⟨⟨A,_,c⟩,F,rfl,h1,fun x hx=>by have:=h2 x hx;omega,hb⟩
 clear hB pX h1;go_wp2;go_ret;exact eG):p:=h
theorem Ajg {p:Prop} (h:p:=by
 rcases Bi.1 hx with hx | hx
 ·have h1:=H9 _ _ _ hx;refine ⟨?_,(o9.within x h1).1⟩;rcases f9 with h2 | h2
  ·rw [h2] at h1;exact pI.out _ h1
  ·rw [h2] at h1
   have:=Option.some.inj h1
   simp only [Bj] at this;omega
 ·rcases Bi.1 hx with hx | hx
  ·exact ⟨by have:=vB x hx;omega,(oR.2.2.2 x hx).1⟩
  ·exact ⟨by have:=fH x hx;omega,by have:=fH x hx;omega⟩):p:=h
theorem Ajz {p:Prop} (h:p:=by
 have nT:¬ (n:Int)<(y.runs[k].tasks.length:Int):=Bl;have S:=Br (show Gg y (k+1)=Gg y k ++ Jh y k n by
  rw [Qs,show (Hi y k).tasks.length=n by rw [E6 aA];omega])
 go_wp2;exact ⟨⟨k+1,Bl,by go_num,by rw [S.out];exact hB,X,hb⟩,clM⟩):p:=h
theorem Aj7 {p:Prop} (h:p:=by rw [H2.out];show OwL (Dt.list By) _ F1' (Aa (Ac ⟨g,o,Ab⟩) y.shelf.length e1) Z.shelf;exact ((((q1.set (a:=⟨_,_,Ab⟩) en1 _).set (a:=⟨_,_,Ab⟩) en1 _).set (a:=⟨_,_,Ab⟩) en1 _).set (a:=⟨_,_,Ab⟩) en1 _)):p:=h
theorem Akk {p:Prop} (h:p:=by rw [H2.out];show OwL Cf _ F2 (Aa A9 (rs.length+1) c9) Z.runs;rw [gI.out];exact ((((oR11.set (a:=⟨_,_,Ab⟩) en2 _).set (a:=⟨_,_,Ab⟩) en2 _).set (a:=⟨_,_,Ab⟩) en2 _).set (a:=⟨_,_,Ab⟩) en2 _)):p:=h
theorem Ako {p:Prop} (h:p:=by
 rcases kZ _ hx with h | h
 ·have:=nF _ h;omega
 ·have:=mW _ h;omega):p:=h
theorem Aks {p:Prop} (h:p:=by
 rw [Ax];refine ⟨q1.nodup,oR11.nodup,fun a ha b hb e=>?_⟩;subst e;have h3:=gL a hb;have h4:=hRlt a hb;rcases q2 a ha with h | h
 ·have:=(eR a h).2;omega
 ·omega):p:=h
theorem Ald {p:Prop} (h:p:=by
 rcases Bi.1 hx with hx | hx
 ·rcases q2 x hx with h | h
  ·have:=(eR x h).1;omega
  ·have:=B10.size;omega
 ·have:=(gL x hx).2;omega):p:=h
theorem Alm {p:Prop} (h:p:=by obtain ⟨G1,G2,_,_,_,os⟩:=oy;exact OwL.free0 (show OwL Cf w4 G2 (Aa (Ac ⟨gr,orr,Ab⟩) m2 e2) y.runs from os) Bl):p:=h
theorem Alx {p:Prop} (h:p:=by
 rw [Ax];refine ⟨J4 _ _,hG13,fun a ha b aX e=>?_⟩;subst e
 have:=h6 a ha
 have:=cS a (hGsub a aX)
 omega):p:=h
theorem Al9 {p:Prop} (h:p:=by simp only [List.map_append,List.map_cons,List.map_nil,hm,S.out,hRow.out,List.append_assoc]):p:=h
theorem Ama {p:Prop} (h:p:=by
 rcases kZ x hx with h | h
 ·have h1:=nF x h;have h2:=cS x h;omega
 ·have h3:=B0.size;omega):p:=h
theorem Amt {p:Prop} (h:p:=by go_wp2;exact ⟨⟨n+1,v,fF,by go_num,rfl,by rw [S.out];exact mY,X,aK⟩,clM⟩):p:=h
theorem Amz {p:Prop} (h:p:=by unfold Jh;rw [List.range_succ,List.filter_append,List.map_append];simp [h]):p:=h
theorem Anc {p:Prop} (h:p:=by have h1:=congrArg List.length hm;rw [Ar,Ar] at h1;rw [h1];exact aE.out):p:=h
theorem Aac {home d k:Nat} (h:k<3):(Ey home d).take (k+1)=(Ey home d).take k ++ [(home+1+(d % 3+k) % 3) % 4]:=by
 have h1:(max (d:Int) 0 % 3).toNat=d % 3:=Bl;unfold Ey;rw [h1,Ao];exact All
theorem Tz (n lo hi:Int) (w:World) (h:lo<=n/\n<=hi):Calls Am 276 #[J U n,J U lo,J U hi] w fun e w'=>e = .returned (J U n)/\w=w':=by
 have h1:max lo (min n hi)=n:=Bl;have h2:min (max n lo) hi=n:=Bl;have h3:min hi (max n lo)=n:=Bl;have h4:max (min n hi) lo=n:=Bl;go_enter func276,ntmps276;go_wp2;go_ret;exact ⟨Cy (show min n hi=n by omega),rfl⟩
theorem T0 (home d:Nat) (w:World) (hh:home<4) (hd:d<=1000000000) :
  Calls Am 205 #[J U (home:Int),J U (d:Int)] w fun e w'=>∃ v,e = .returned v/\Ow E0 3 w' w v (Ey home d)/\Below w w w':=by
 obtain ⟨j0,bX,jz0,jz1,jz2⟩:=info_parts Sg;have CB:=Br (fun W=>Tz (home:Int) 0 3 W Bl);have hmx:max (d:Int) 0=d:=Bl;have rD:(d:Int).tmod 3=((d % 3:Nat):Int):=Ala
 have hm3:=Nat.mod_lt d (show 0<3 by decide);have hT:=Br (fun k h=>Aac (home:=home) (d:=d) (k:=k) h);have wD:U.wrap ((d % 3:Nat):Int)=((d % 3:Nat):Int):=Aq _ Bl;have wH:U.wrap ((home:Int)+1)=(home:Int)+1:=Aq _ Bl;have hV:=Br (show (Ey home d).length=3 by unfold Ey;simp);generalize Ey home d=V at *
 generalize d % 3=m at *
 go_enter func205,ntmps205;go_wp2_with (go_at_call 276;refine (CB.out _).mono ?_;rintro e w1 ⟨rfl,rfl⟩)
 go_loopw [5,6] (fun v j wr=>∃ k:Nat,k<=3/\j = J U (k:Int)/\Hid (Ow E0 3 wr w v (V.take k))/\Below w w wr) (fun _ j _=>3 - (intOf j).toNat);case atStart=>exact ⟨0,Ag _,rfl,Ow.nil _ _ _ _,Bs _ _⟩
 case round =>
  obtain ⟨k,hk,rfl,hO,hb⟩:=hrel;by_cases aA:k<3
  ·have aB:(k:Int)<3:=Bl;have S:=Br (hT.out k aA);have wA:U.wrap ((m:Int)+(k:Int))=(m:Int)+(k:Int):=Aq _ Bl;have rA:((m:Int)+(k:Int)).tmod 3=(((m+k) % 3:Nat):Int):=Ala
   have hq3:=Nat.mod_lt (m+k) (show 0<3 by decide);have wB:U.wrap (((m+k) % 3:Nat):Int)=(((m+k) % 3:Nat):Int):=Aq _ Bl;generalize (m+k) % 3=q at *
   have wC:U.wrap ((home:Int)+1+(q:Int))=(home:Int)+1+(q:Int):=Aq _ Bl;have rC:((home:Int)+1+(q:Int)).tmod 4=(((home+1+q) % 4:Nat):Int):=Ala
   have wE:U.wrap (((home+1+q) % 4:Nat):Int)=(((home+1+q) % 4:Nat):Int):=Aq _ Bl;have Hl:=Br (show (V.take k).length<=3000000 by rw [Az];omega);generalize (home+1+q) % 4=x at *
   have ha:Hid (∀ w:World,Below w w (w.alloc (.cells #[J U (x:Int)] 3))):=fun w=>Bu;have dC:=hO.out;have cZ:=hb.size;go_wp2_with (at_builtin;refine Ci _ E0 Bq rfl (.tmp 13) (.tmp 24) rfl underlying26 bX jz0 jz1 jz2 rfl (base:=w) (l:=V.take k) rfl (dC.below (ha.out wr)) rfl (Rd.one E0 _ _ x rfl rfl 1 (Bt _) (Nat.lt_succ_self _)) Hl.out Bo Bq (by simp;omega) ?_;intro v5 w5 o5 g5 _)
   have eZ:Below w w w5:=(Bv hb (ha.out wr)).grown g5 (Bv hb (ha.out wr)).size (fun g hg=>by have:=dC.within _ hg;omega);exact ⟨⟨k+1,Bl,by go_num,by rw [S.out];exact o5,eZ⟩,clM⟩
  ·have aB:¬ (k:Int)<3:=Bl;have dC:=hO.out;rw [Bg (by have:=hV.out;omega)] at dC;clear hO;go_wp2;go_ret;exact ⟨_,rfl,dC,hb⟩
theorem Ag2 {r:Run} (h:Hn r) (hS:r.state=1):∀ k (hk:k<r.tasks.length),r.tasks[k].state≠5:=by
 have h1:=h.2.2.2.2.1;rw [hS] at h1;unfold stL at h1;have h0:Dx r.tasks 5=0:=by
  split at h1
  ·omega
  split at h1
  ·omega
  split at h1
  ·omega
  split at h1
  ·next h=>exact h.1
  ·omega
 exact fun k hk=>Ym.1 h0 _ (Aw hk)
theorem Af8 {b:Nat} {w:World} {u0 u1 u2 u3 u4 u5 u6 u7:Value} (X:DBox b [u0,u1,u2,u3,u4,u5,u6,u7] w) {v0 v1:Value} {rest:List Value} :
  (results Tryz.f218 (v0 :: v1 :: .pointer (Ac ⟨b,0,Ab⟩) :: rest).toArray).run Am w = .ok (.agg #[u0,u1,u2,u3,u4,u5,u6,u7]) w:=by
 obtain ⟨c0,c1,c2,c3,c4,c5,c6,c7,-⟩:=X.g8;simp [results,results218,go_sem,c0,c1,c2,c3,c4,c5,c6,c7]
theorem Aad (r:Run) (s:Sl×Sl) (w:World) (hl:Co r<=2000000) (hR:Hn r) (hS:r.state=1) (h:Cf.rd w w r s) :
  Calls Am 218 #[G7 r s] w (Dv Cf G7 (D6 r 4) w):=by
 have CP:=Br (fun W (hW:Below w w W)=>Ob r s W hl (Cf.rd_more (Cf.rd_below h hW) hW.size));have CR:=Br (fun W (hW:Below w w W)=>P6 r s W hl (Cf.rd_more (Cf.rd_below h hW) hW.size));rw [Di hR] at CR;have aE:=Eb hR;have hp:0<r.tasks.length:=Bl;have h5:=Br (Ag2 hR hS);obtain ⟨⟨A1,n1,c1⟩,⟨A2,n2,c2⟩⟩:=s;obtain rfl:n2=r.tasks.length:=RdL.at1 (s:=⟨A2,n2,c2⟩) h.2;clear h hl hR;have bE:(r.state == 1)=true:=by simp [hS]
 clear hS;obtain ⟨W,aH,X,RES,B0⟩:=bx2 w 67 [J U r.id,J U r.plan.prio,J U r.plan.most,J U r.plan.wait,J U r.plan.tasks,Aa A1 n1 c1,J U r.state,Aa A2 r.tasks.length c2] 67 [J U 0,J U 0,J U 0,J U 0,J U 0,Aa Ab 0 0,J U 0,Aa Ab 0 0];go_enter func218,ntmps218;go_wp2_with fail
 rw [<-aH.out];clear aH;refine (CP.out _ B0).mono ?_;rintro e w1 ⟨⟨⟨A3,n3,c3⟩,⟨A4,n4,c4⟩⟩,F,rfl,o1,nF,b1⟩;obtain ⟨F1,F2,rfl,bP,op,ot⟩:=o1;replace ot:OwL C8 w1 F2 (Aa A4 n4 c4) r.tasks:=ot;obtain rfl:n4=r.tasks.length:=RdL.at1 (s:=⟨A4,n4,c4⟩) ot.rd;have oh:=N1 ot;clear ot CP;obtain ⟨b,o,rfl,aJ,d0,d1,d2,d3⟩:=oh.rd.tsk hp;clear d0 d1 d2 d3;obtain ⟨rfl,bV,qE⟩:=oh.block hp;have eC:=RES.lt;have b2:Below w1 w1 (w1.alloc (.cells #[J U r.id,J U r.plan.prio,J U r.plan.most,J U r.plan.wait,J U r.plan.tasks,Aa A3 n3 c3,J U r.state,Aa (Ac ⟨b,o,Ab⟩) r.tasks.length c4] 67)):=Bu;have OB:=DBox.new 67 [J U r.id,J U r.plan.prio,J U r.plan.most,J U r.plan.wait,J U r.plan.tasks,Aa A3 n3 c3,J U r.state,Aa (Ac ⟨b,o,Ab⟩) r.tasks.length c4] w1 (b:=w1) rfl;have dB:=Br (show ∀ x∈F1 ++ [b],w.heap.size+1<x from fun x hx=>by have:=nF x hx;omega);have eR:=Br (show ∀ x∈F1,x<w1 from fun x hx=>(Ce.ow_lt op) x hx);have fG:b∉F1:=fun hx=>(Ax.1 bP).2.2 b hx b Bo rfl;have b12:=Bv b1 b2;replace X:=X.below b12;replace RES:=RES.below b12;replace B0:=Bv B0 b12;replace oh:=oh.below b2;replace op:=Ce.ow_below op b2;have hs1w:=b1.size;clear b1 b2 b12 nF aJ qE;go_upto_region 2 with fail
 have cR:w.heap.size+1<w1.heap.size:=Bl;have hoF:w1.heap.size∉F1:=fun hx=>by have:=eR.out _ hx;omega
 have hob2:w1≠b:=Bl;clear eR bV hs1w;generalize w1.heap.size=ob at *
 generalize w1.alloc (.cells #[J U r.id,J U r.plan.prio,J U r.plan.most,J U r.plan.wait,J U r.plan.tasks,Aa A3 n3 c3,J U r.state,Aa (Ac ⟨b,o,Ab⟩) r.tasks.length c4] 67)=w2 at *
 have X_:=X.g8;go_wp2_with fail
 refine (CR.out _ B0).mono ?_;rintro e w3 ⟨rfl,b3⟩;clear X_;replace X:=X.below b3;replace RES:=RES.below b3;replace OB:=OB.below b3;replace B0:=Bv B0 b3;replace oh:=oh.below b3;replace op:=Ce.ow_below op b3;clear b3 CR;have CL:=Br (Qc ob 0 b o c4 r.tasks (-1) w3 (OB.cell 7 _ rfl) OB.lt hob2 Bl hp oh (fun k hk=>⟨fun h=>absurd h (h5.out k hk),fun h=>Bl⟩));have X_:=X.g8;go_wp2_with fail
 refine CL.out.mono ?_;rintro e w4 ⟨rfl,oh4,hc⟩;clear X_;clear X CL oh h5;have bL:=B0.size;have hbA:=dB.out b Bo;have fZ:=Br (show ∀ x,x∈[b]->x=b from fun x hx=>by simpa using hx);have op4:=Ce.ow_chg op hc (fun x hx h=>by have:=fZ.out x h;subst this;exact fG hx);replace B0:=B0.trans (hc.below (base:=w) bL (fun x hx=>by have:=fZ.out x hx;omega));replace RES:=RES.chg hc (fun hx=>by have:=fZ.out _ hx;omega);replace OB:=OB.chg hc (fun hx=>hob2 (fZ.out _ hx));clear hc op;have OB_:=OB.g8;have obf:=OB.free;go_upto_region 5 with fail
 clear OB_;clear obf;replace OB:DBox ob [J U r.id,J U r.plan.prio,J U r.plan.most,J U r.plan.wait,J U r.plan.tasks,Aa A3 n3 c3,J U r.state,Aa (Ac ⟨b,o,Ab⟩) r.tasks.length c4] w4:=OB;have qQ:ob∉[b]:=fun hx=>hob2 (fZ.out _ hx);replace OB:=OB.set 6 Bo (J U 4);replace RES:=RES.setOther (a:=⟨ob,6,Ab⟩) (by show w.heap.size+1≠ob;omega) (J U 4);have oh5:=oh4.set (a:=⟨ob,6,Ab⟩) qQ (J U 4);have op5:=Ce.ow_set op4 (a:=⟨ob,6,Ab⟩) hoF (J U 4);replace B0:Below w w (w4.setCell ⟨ob,6,Ab⟩ (J U 4)):=Ad B0 (by show w.heap.size<=ob;omega) _;clear oh4 op4;generalize w4.setCell ⟨ob,6,Ab⟩ (J U 4)=w5 at *
 replace OB:DBox ob [J U r.id,J U r.plan.prio,J U r.plan.most,J U r.plan.wait,J U r.plan.tasks,Aa A3 n3 c3,J U 4,Aa (Ac ⟨b,o,Ab⟩) r.tasks.length c4] w5:=OB;have OB_:=OB.g8;have RES_:=RES.g8;have rf:=RES.free;go_wp2;refine Aj (Af8 (DBox.row8 RES rfl _ _ _ _ _ _ _ _)) rfl ⟨(⟨A3,n3,c3⟩,⟨Ac ⟨b,o,Ab⟩,r.tasks.length,c4⟩),F1 ++ [b],rfl,⟨F1,[b],rfl,bP,?_,?_⟩,?_,?_⟩
 ·have e2:w.heap.size+1∉F1:=fun hx=>by have:=dB.out _ (Bf _ hx);omega
  show Ce.ow _ F1 r.plan _;exact (by (repeat (refine Dt.ow_set Ce ?_ e2 _));exact op5)
 ·have e1:w.heap.size+1∉[b]:=fun hx=>by have:=fZ.out _ hx;omega
  show OwL C8 _ [b] _ (r.tasks.map Dr);have hL:r.tasks.length=(r.tasks.map Dr).length:=by rw [Ar]
  show OwL C8 _ [b] (Aa (Ac ⟨b,o,Ab⟩) r.tasks.length c4) (r.tasks.map Dr);exact Hb (by (repeat (refine Hw.set ?_ e1 _));exact oh5)
 ·intro x hx
  have:=dB.out x hx
  omega
 ·repeat (first | (with_reducible exact B0) | refine Ad ?_ Bp _)
section
open Classical in
noncomputable def Jl (y:Yard) (id:Int) (p:Plan):Int :=
 if ¬ Dk y then 8 else if inB id 1 9999=false then 5 else if 0<=Dn y id then 6 else if ¬ Cr p=0 then Cr p else if Mr y p=false then 7 else 0
noncomputable def Jm (y:Yard) (id:Int) (p:Plan):Yard:=if Jl y id p=0 then Ny ⟨y.now,y.seq,y.shelf,y.runs ++ [Cl id p]⟩ Hd (Cl id p) else y
theorem Ky {b:Nat} {w:World} {u0 u1 u2 u3:Value} (X:DBox b [u0,u1,u2,u3] w) {v0 v1 v2 v3 v4 v5 v7:Value} {rest:List Value} :
  (results Tryz.f164 (v0 :: v1 :: v2 :: v3 :: v4 :: v5 :: .pointer (Ac ⟨b,0,Ab⟩) :: v7 :: rest).toArray).run Am w = .ok (.tuple #[.agg #[u0,u1,u2,u3],v7]) w:=by
 have c0:=X.cell 0 _ rfl;have c1:=X.cell 1 _ rfl;have c2:=X.cell 2 _ rfl;have c3:=X.cell 3 _ rfl;simp [results,results164,go_sem,c0,c1,c2,c3]
theorem Ahn {α:Type} (d:Dt α) (w:World) (B c:Nat):RdL d w B (Aa Ab 0 c) []:=⟨[],rfl,Rd.nil _ _ _ _,fun _ h=>by cases h⟩
def BldG {α:Type} (d:Dt α) (E:TypeId) (w:World) (base:Nat) (v:Value) (rs:List (α×d.S)) (G:List Nat):Prop :=
 Ow d.enc E w base v rs/\Ows d w G rs/\G.Nodup /\ ∀ b∈G,base<=b/\v.ownBlock≠Ac b
theorem BldG.below {α:Type} {d:Dt α} {E:TypeId} {w w':World} {base:Nat} {v:Value} {rs:List (α×d.S)} {G:List Nat} (h:BldG d E w base v rs G) (hb:Below w w w'):BldG d E w' base v rs G :=
 ⟨h.1.below hb,h.2.1.bel hb,h.2.2.1,h.2.2.2⟩
theorem BldG.push1 {α:Type} {d:Dt α} {E:TypeId} {w w1 w2 w5:World} {base:Nat} {v v5:Value} {rs:List (α×d.S)} {G:List Nat} {x:α} {s:d.S} {F:List Nat} (h:BldG d E w base v rs G) (hb:Below w w w1) (o1:d.ow w1 F x s) (n1:∀ b∈F,w<=b)
  (aV:base<=w.heap.size) (aK:Below w1 w1 w2) (o5:Ow d.enc E w5 base v5 (rs ++ [(x,s)])) (g5:w2.grownBy w5 v.ownBlock) (f5:v5.ownBlock=v.ownBlock\/v5.ownBlock=Ac w2.heap.size):BldG d E w5 base v5 (rs ++ [(x,s)]) (G ++ F):=by
 obtain ⟨h1,h2,h3,h4⟩:=h;have hG:∀ b∈G,b<w:=h2.lt;have cS:∀ b∈F,b<w1:=d.ow_lt o1;have vR:∀ b∈F,v.ownBlock≠Ac b:=fun b hb he=>by
  have h5:=(h1.within b he).2;have h6:=n1 b hb;omega
 have hs:=hb.size;have eB:=aK.size;have ht:Ows d w2 F [(x,s)]:=Ows.one (r:=(x,s)) (d.ow_below o1 aK);refine ⟨o5,?_,?_,?_⟩
 ·refine Ows.append ((h2.bel (Bv hb aK)).keep g5.size fun b hbG=>g5.block b (by have:=hG b hbG;omega) ?_) (ht.keep g5.size fun b dA=>g5.block b (by have:=cS b dA;omega) ?_)
  ·exact fun e=>(h4 b hbG).2 e.symm
  ·exact fun e=>vR b dA e.symm
 ·rw [Ax];refine ⟨h3,d.ow_nodup o1,fun a ha b aX e=>?_⟩
  have:=hG a ha
  have:=n1 b aX
  omega
 ·intro b eE;rcases Bi.1 eE with eE | eE
  ·refine ⟨(h4 b eE).1,?_⟩;rcases f5 with hv | hv
   ·rw [hv];exact (h4 b eE).2
   ·rw [hv];intro e
    have:=hG b eE
    exact Amg
  ·refine ⟨by have:=n1 b eE;omega,?_⟩;rcases f5 with hv | hv
   ·rw [hv];exact vR b eE
   ·rw [hv];intro e
    have:=cS b eE
    exact Amg
theorem BldG.owl {α:Type} {d:Dt α} {E:TypeId} {w:World} {base:Nat} {v:Value} {rs:List (α×d.S)} {G:List Nat} (h:BldG d E w base v rs G) {l:List α} (hl:rs.map (·.1)=l):OwL d w (El v rs.length ++ G) v l:=by
 obtain ⟨h1,h2,h3,h4⟩:=h;obtain ⟨h5,h6⟩:=Hw.of_ow h1;refine ⟨rs,_,G,hl,h5,h2,rfl,?_⟩;exact Al8
theorem Wb (y:Yard) (s:Sl×Sl) (id:Int) (p:Plan) (sp:Sl) (w:World) (hl:Ca y<=2000000) (hp:p.edges.length<=2000000) (h:Bw.rd w w y s) (hpr:Ce.rd w w p sp) :
  Calls Am 164 #[Ds y s,J U id,Jo p sp] w (Is (Jm y id p) (Jl y id p) w):=by
 have HR:=Br (show ∀ W,Below w w W->Bw.rd W W y s from fun W hW=>Bw.rd_more (Bw.rd_below h hW) hW.size);obtain ⟨⟨A1,n1,c1⟩,⟨A2,n2,c2⟩⟩:=s;obtain ⟨A3,n3,c3⟩:=sp;obtain rfl:n3=p.edges.length:=RdL.at1 (s:=⟨A3,n3,c3⟩) hpr;have CC:=Br (fun W hW=>Ng y (⟨A1,n1,c1⟩,⟨A2,n2,c2⟩) W hl (HR.out W hW));have CY:=Br (fun W hW=>Gl y (⟨A1,n1,c1⟩,⟨A2,n2,c2⟩) W hl (HR.out W hW));have CA:=Br (fun W hW=>Fi y (⟨A1,n1,c1⟩,⟨A2,n2,c2⟩) id W hl (HR.out W hW));have CF:=Br (fun W (hW:Below w w W)=>J7 p (Aa A3 p.edges.length c3) W hp (((I2 hpr).below hW).more hW.size));have CR:=Br (fun W hW hS hq=>Z3 y (⟨A1,n1,c1⟩,⟨A2,n2,c2⟩) p (Aa A3 p.edges.length c3) W hl hS hq (HR.out W hW));have CN:=Br (fun W (hW:Below w w W) hid hf=>Wa id p ⟨A3,p.edges.length,c3⟩ W hid hf (Ce.rd_more (Ce.rd_below hpr hW) hW.size));obtain ⟨j0,bX,jz0,jz1,jz2⟩:=info_parts Kn;clear h hpr HR;obtain ⟨W,aH,X,P,RES,B0⟩:=bx3 w 31 [J U y.now,J U y.seq,Aa A1 n1 c1,Aa A2 n2 c2] 43 [J U p.prio,J U p.most,J U p.wait,J U p.tasks,Aa A3 p.edges.length c3] 31 [J U 0,J U 0,Aa Ab 0 0,Aa Ab 0 0];go_enter func164,ntmps164;go_wp2_with fail
 rw [<-aH.out];clear aH;have eC:w.heap.size+1+1<W.heap.size:=RES.lt;refine (CC.out _ B0).mono ?_;rintro e1 w1 ⟨⟨B1,m1,e1⟩,⟨B2,m2,e2⟩,F1,base,rfl,oS,eR,aV,cZ,oR,b1⟩;have bE:=b1.size;replace X:=X.below b1;replace P:=P.below b1;replace RES:=RES.below b1;replace B0:=Bv B0 b1;clear b1;obtain ⟨rs,bZ,G0,oR⟩:=oR;have hm:=Br bZ;clear bZ;replace oR:BldG Cf 67 w1 base (Aa B2 m2 e2) rs G0:=oR;have vB:=oR.2.1.lt;have qQ:∀ g,(Value.slice B2 m2 e2).ownBlock=Ac g->g≠w1.heap.size:=fun g hg h=>by
  have:=(oR.1.within g hg).2
  omega
 obtain ⟨F,oy,nF⟩:∃ F,Bw.ow w1 F y (⟨B1,m1,e1⟩,⟨B2,m2,e2⟩) /\ ∀ x∈F,W<=x:=Ais
 go_upto_region 2 with fail
 have OB:=DBox.new 31 [J U y.now,J U y.seq,Aa B1 m1 e1,Aa B2 m2 e2] w1 (b:=w1) rfl;have b2:Below w1 w1 (w1.alloc (.cells #[J U y.now,J U y.seq,Aa B1 m1 e1,Aa B2 m2 e2] 31)):=Bu;replace X:=X.below b2;replace P:=P.below b2;replace RES:=RES.below b2;replace oy:=Bw.ow_below (F:=F) (x:=y) (s:=(⟨B1,m1,e1⟩,⟨B2,m2,e2⟩)) oy b2;replace oS:=oS.below b2;replace oR:=oR.below b2;replace B0:=Bv B0 b2;have ow1:=OB.lt;have hbob:base<=w1.heap.size:=cZ;replace cZ:=Ah cZ b2.size;clear b2;generalize w1.alloc (.cells #[J U y.now,J U y.seq,Aa B1 m1 e1,Aa B2 m2 e2] 31)=w2 at *
 generalize cR:w1.heap.size=ob at *
 have X_:=X.g4;have P_:=P.g5;have OB_:=OB.g4;go_wp2_with fail
 refine (CY.out _ B0).mono ?_;rintro e1 w3 ⟨rfl,b3⟩;clear X_;clear P_;clear OB_;replace X:=X.below b3;replace P:=P.below b3;replace OB:=OB.below b3;replace RES:=RES.below b3;replace oy:Bw.ow w3 F y (⟨B1,m1,e1⟩,⟨B2,m2,e2⟩):=owB oy b3;replace oS:=oS.below b3;replace oR:=oR.below b3;replace B0:=Bv B0 b3;replace cZ:=Ah cZ b3.size;clear b3;have X_:=X.g4;have P_:=P.g5;have OB_:=OB.g4;by_cases p0:Dk y;case neg =>
  rw [Cg p0];have H:=Br (show Jl y id p=8 by unfold Jl;rw [if_pos p0]);exact Aie
 rw [Di p0];have rZ:=p0.2.2.2.2.2.2.2.2.2;have hsq:=p0.2.1;have h4:=Br p0.2.2.1;have dQ:=Br p0.2.2.2.1;have P0:=Br p0;clear p0;cases p1:inB id 1 9999;case false =>
  have H:=Br (show Jl y id p=5 by unfold Jl;rw [if_neg (fun h=>h P0.out),if_pos p1]);have H2:=Br (show Jm y id p=y by unfold Jm;rw [H.out,if_neg Bq]);have RES_:=RES.g4;have rf:=RES.free;go_wp2_with (go_at_call 90;refine (Cd _ _ _ _).mono ?_;rintro e w9 ⟨rfl,rfl⟩;rw [p1])
  have en1:w.heap.size+1+1∉F:=fun hx=>by have:=nF _ hx;omega
  refine Aj (Ky (DBox.row4 RES rfl _ _ _ _)) rfl ⟨(⟨B1,m1,e1⟩,⟨B2,m2,e2⟩),F,by rw [H.out,H2.out],by rw [H2.out];exact (by (repeat (refine Dt.ow_set Bw ?_ en1 _));exact (show Bw.ow _ F y (⟨B1,m1,e1⟩,⟨B2,m2,e2⟩) from oy)),fun x hx=>by have:=nF x hx;omega,?_⟩;repeat (first | (with_reducible exact B0) | refine Ad ?_ Bp _)
 have P1:=Br p1;go_wp2_with (go_at_call 90;refine (Cd _ _ _ _).mono ?_;rintro e w9 ⟨rfl,rfl⟩;rw [p1])
 refine (CA.out _ B0).mono ?_;rintro e1 w4 ⟨rfl,b4⟩;clear X_;clear P_;clear OB_;replace X:=X.below b4;replace P:=P.below b4;replace OB:=OB.below b4;replace RES:=RES.below b4;replace oy:Bw.ow w4 F y (⟨B1,m1,e1⟩,⟨B2,m2,e2⟩):=owB oy b4;replace oS:=oS.below b4;replace oR:=oR.below b4;replace B0:=Bv B0 b4;replace cZ:=Ah cZ b4.size;clear b4;have X_:=X.g4;have P_:=P.g5;have OB_:=OB.g4;by_cases p2:0<=Dn y id;case pos =>
  have H:=Br (show Jl y id p=6 by unfold Jl;rw [if_neg (fun h=>h P0.out),if_neg (by rw [P1.out];simp),if_pos p2]);exact Aie
 have P2:=Br p2;go_wp2_with fail
 refine (CF.out _ B0).mono ?_;rintro e1 w5 ⟨rfl,b5⟩;clear p1 p2;clear X_;clear P_;clear OB_;replace X:=X.below b5;replace P:=P.below b5;replace OB:=OB.below b5;replace RES:=RES.below b5;replace oy:Bw.ow w5 F y (⟨B1,m1,e1⟩,⟨B2,m2,e2⟩):=owB oy b5;replace oS:=oS.below b5;replace oR:=oR.below b5;replace B0:=Bv B0 b5;replace cZ:=Ah cZ b5.size;clear b5;have X_:=X.g4;have P_:=P.g5;have OB_:=OB.g4;by_cases p3:Cr p=0;case neg =>
  have q3:(Cr p != 0)=true:=by simp [p3]
  have H:=Br (show Jl y id p=Cr p by unfold Jl;rw [if_neg (fun h=>h P0.out),if_neg (by rw [P1.out];simp),if_neg (by have:=P2.out;omega),if_pos p3]);have H2:=Br (show Jm y id p=y by unfold Jm;rw [H.out,if_neg p3]);clear p3;have en1:w.heap.size+1+1∉F:=fun hx=>by have:=nF _ hx;omega
  have RES_:=RES.g4;have rf:=RES.free;have hpb:w.heap.size+1<w5.heap.size:=P.lt;have hobl:ob<w5:=OB.lt;have CF5:=Br (CF.out _ B0.drew);go_wp2;refine Go.wp_region_noPanic ?_;refine wp_region_held_drew (S:=(fun w'=>DBox ob [J U y.now,J U y.seq,Aa B1 m1 e1,Aa B2 m2 e2] w'/\DBox (w+1) [J U p.prio,J U p.most,J U p.wait,J U p.tasks,Aa A3 p.edges.length c3] w')) Bm ⟨DBox.drew4 OB,DBox.drew4 P⟩ (fun hHeld=>?_);replace oy:Bw.ow w5.drew F y (⟨B1,m1,e1⟩,⟨B2,m2,e2⟩):=owB oy (Bs _ _).drew;clear RES_;clear rf;replace RES:DBox _ _ w5.drew:=DBox.drew4 RES;replace B0:=B0.drew;clear X_;clear P_;clear OB_;clear OB X P;generalize w5.drew=w5d at *
  refine tV 0 ?_
  (try simp only [pS])
  refine tV 1 ?_
  (try simp only [pS])
  refine rC 2 (fun K_ hK=>?_);go_simp;refine CF5.out.mono ?_;rintro e1 w6 ⟨rfl,b6⟩;replace oy:Bw.ow w6 F y (⟨B1,m1,e1⟩,⟨B2,m2,e2⟩):=owB oy b6;replace RES:=RES.below b6;replace B0:=Bv B0 b6;refine hK.out _ _ ⟨hHeld.1.below b6,hHeld.2.below b6⟩ (fun hHeld=>?_);clear hK K_
  (try simp only [pS])
  have RES_:=RES.g4;have rf:=RES.free;refine rC 3 (fun K_ hK=>?_);go_simp;refine hK.out _ _ ⟨(((hHeld.1.setOther (a:=⟨w+1+1,0,Ab⟩) (by show ob≠w.heap.size+1+1;omega) _).setOther (a:=⟨w+1+1,1,Ab⟩) (by show ob≠w.heap.size+1+1;omega) _).setOther (a:=⟨w+1+1,2,Ab⟩) (by show ob≠w.heap.size+1+1;omega) _).setOther (a:=⟨w+1+1,3,Ab⟩) (by show ob≠w.heap.size+1+1;omega) _,(((hHeld.2.setOther (a:=⟨w+1+1,0,Ab⟩) (by show w.heap.size+1≠w.heap.size+1+1;omega) _).setOther (a:=⟨w+1+1,1,Ab⟩) (by show w.heap.size+1≠w.heap.size+1+1;omega) _).setOther (a:=⟨w+1+1,2,Ab⟩) (by show w.heap.size+1≠w.heap.size+1+1;omega) _).setOther (a:=⟨w+1+1,3,Ab⟩) (by show w.heap.size+1≠w.heap.size+1+1;omega) _⟩ (fun hHeld=>?_);clear hK K_
  (try simp only [pS])
  refine tV 4 ?_
  (try simp only [pS])
  refine wpAnyH_done Bm ?_ _;refine NoPanic.normal ?_;clear hHeld;clear RES_;clear rf;go_wp2;refine Aj (Ky (DBox.row4 RES rfl _ _ _ _)) rfl ⟨(⟨B1,m1,e1⟩,⟨B2,m2,e2⟩),F,by rw [H.out,H2.out],by rw [H2.out];exact (by (repeat (refine Dt.ow_set Bw ?_ en1 _));exact (show Bw.ow _ F y (⟨B1,m1,e1⟩,⟨B2,m2,e2⟩) from oy)),fun x hx=>by have:=nF x hx;omega,?_⟩;repeat (first | (with_reducible exact B0) | refine Ad ?_ Bp _)
 have q3:(Cr p != 0)=false:=by simp [p3]
 have P3:=Br p3;clear p3;go_wp2_with fail
 refine (CR.out _ B0 rZ Bl).mono ?_;rintro e1 w6 ⟨rfl,b6⟩;clear X_;clear P_;clear OB_;replace X:=X.below b6;replace P:=P.below b6;replace OB:=OB.below b6;replace RES:=RES.below b6;replace oy:Bw.ow w6 F y (⟨B1,m1,e1⟩,⟨B2,m2,e2⟩):=owB oy b6;replace oS:=oS.below b6;replace oR:=oR.below b6;replace B0:=Bv B0 b6;replace cZ:=Ah cZ b6.size;clear b6;have X_:=X.g4;have P_:=P.g5;have OB_:=OB.g4;cases p4:Mr y p;case false =>
  have H:=Br (show Jl y id p=7 by unfold Jl;rw [if_neg (fun h=>h P0.out),if_neg (by rw [P1.out];simp),if_neg (by have:=P2.out;omega),if_neg (fun h=>h P3.out),if_pos p4]);exact Aie
 have H:=Br (show Jl y id p=0 by unfold Jl;rw [if_neg (fun h=>h P0.out),if_neg (by rw [P1.out];simp),if_neg (by have:=P2.out;omega),if_neg (fun h=>h P3.out),if_neg (by rw [p4];simp)]);have H2:=Br (show Jm y id p=Ny ⟨y.now,y.seq,y.shelf,y.runs ++ [Cl id p]⟩ Hd (Cl id p) by unfold Jm;rw [if_pos H.out]);have rU:=Br (show y.runs.length<8 by
  unfold Mr at p4;simp only [Bool.and_eq_true,decide_eq_true_eq] at p4;exact p4.1)
 clear rZ;go_wp2_with fail
 refine (CN.out _ B0 P1.out P3.out).mono ?_;rintro e1 w7 ⟨sr,Fr,rfl,orn,nr,b7⟩;have cG:=Br (show (Cl id p).tasks.length<=12 by have h1:=Ql id p;have h2:=Er (Dl.1 P3.out).1;omega);have qL:=B0.size;have hobw6:=OB.lt;have fH:∀ x∈Fr,w6<=x:=nr;clear nr;clear X_;clear P_;clear OB_;clear X P;replace OB:=OB.below b7;replace RES:=RES.below b7;replace oS:=oS.below b7;have B7:=Bv B0 b7;have b7s:=b7.size;have XB:=DBox.new 67 [J U (Cl id p).id,J U (Cl id p).plan.prio,J U (Cl id p).plan.most,J U (Cl id p).plan.wait,J U (Cl id p).plan.tasks,Aa sr.1.a sr.1.n sr.1.c,J U (Cl id p).state,Aa sr.2.a sr.2.n sr.2.c] w7 (b:=w7) rfl;have b8:Below w7 w7 (w7.alloc (.cells #[J U (Cl id p).id,J U (Cl id p).plan.prio,J U (Cl id p).plan.most,J U (Cl id p).plan.wait,J U (Cl id p).plan.tasks,Aa sr.1.a sr.1.n sr.1.c,J U (Cl id p).state,Aa sr.2.a sr.2.n sr.2.c] 67)):=Bu;go_upto_region 13 with fail
 replace OB:=OB.below b8;replace RES:=RES.below b8;replace oS:=oS.below b8;replace B7:=Bv B7 b8;have b78:=Bv b7 b8;have orn8:=Cf.ow_below (F:=Fr) (x:=Cl id p) (s:=sr) orn b8;have dG:=XB.lt;generalize w7.alloc (.cells #[J U (Cl id p).id,J U (Cl id p).plan.prio,J U (Cl id p).plan.most,J U (Cl id p).plan.wait,J U (Cl id p).plan.tasks,Aa sr.1.a sr.1.n sr.1.c,J U (Cl id p).state,Aa sr.2.a sr.2.n sr.2.c] 67)=w8 at *
 generalize fB:w7.heap.size=xb at *
 have bK:=Br (show rs.length=y.runs.length by have:=congrArg List.length hm.out;simpa using this);have nU:=Br (show rs.length<=3000000 by have:=rU.out;have:=bK.out;omega);have hO:=oR.1;have uG:=hO.below b78;obtain ⟨A5_,c5_,rT,-⟩:=_root_.id (Rd.of_own hO);have uP:=rT;simp only [Sl.v,Value.slice.injEq] at uP;obtain ⟨rfl,rfl,rfl⟩:=uP;clear rT;have OB_:=OB.g4;have XB_:=XB.g8;have obf:=OB.free;have jJ:∀ g,(Value.slice B2 rs.length e2).ownBlock=Ac g->base<=g/\g<w6.heap.size:=fun g hg=>hO.within _ hg;have pH:∀ g,(Value.slice B2 rs.length e2).ownBlock=Ac g->g≠ob:=fun g hg=>qQ g hg;have ha:=Br (show ∀ w:World,Below w w (w.alloc (.cells #[J U (Cl id p).id,J U (Cl id p).plan.prio,J U (Cl id p).plan.most,J U (Cl id p).plan.wait,J U (Cl id p).plan.tasks,Aa sr.1.a sr.1.n sr.1.c,J U (Cl id p).state,Aa sr.2.a sr.2.n sr.2.c] 67)) from fun w=>Bu);have pI:=Br pH;have fU:=Br jJ;clear pH jJ qQ;have bG:base<=w8.heap.size:=Bl;go_upto_region 14 with (at_builtin;go_loud (refine Ci _ Cf.enc Bq rfl (.tmp 49) (.tmp 51) rfl underlying29 bX jz0 jz1 jz2 rfl (base:=base) (v:=Aa B2 rs.length e2) (l:=rs) rfl (uG.below (ha.out w8)) rfl (Rd.one Cf.enc _ _ (Cl id p,sr) rfl rfl 1 (Bt _) (Nat.lt_succ_self _)) nU.out Bo Bq (by simp;omega) ?_);intro v9 w9 o9 g9 f9;obtain ⟨A9,c9,rfl,-⟩:=_root_.id (Rd.of_own o9);simp only [Bd,List.length_singleton] at o9 f9;have OB9:=(OB.below (ha.out w8)).off g9 (fun e=>(pI.out _ e.symm) rfl);have q3:=OB9.cell 3 _ rfl;have qf:=OB9.free;have ql:=OB9.lt)
 have hP:=oR.push1 b78 orn8 fH cZ (ha.out w8) o9 g9 f9;have uN:=hP.owl (l:=y.runs ++ [Cl id p]) (by rw [List.map_append,hm.out];rfl);have g9s:=g9.size;simp only [Bj] at g9s;have gL:∀ x∈El (Aa A9 (rs.length+1) c9) (rs ++ [(Cl id p,sr)]).length ++ (G0 ++ Fr),x≠ob/\base<=x:=fun x hx=>by
  exact Ajg
 generalize El (Aa A9 (rs.length+1) c9) (rs ++ [(Cl id p,sr)]).length ++ (G0 ++ Fr)=F2 at *
 have XB9:=(XB.below (ha.out w8)).off g9 (fun e=>by have h1:=(fU.out _ e.symm).2;omega);have RES9:=(RES.below (ha.out w8)).off g9 (fun e=>by have h1:base<=w.heap.size+1+1:=(fU.out _ e.symm).1;omega);have oS9:=(oS.below (ha.out w8)).grown g9 (fun b hb e=>by have h1:=(fU.out b e).1;have h2:=(eR b hb).2;omega);have orn9:=Cf.ow_keep (Cf.ow_below (F:=Fr) (x:=Cl id p) (s:=sr) orn8 (ha.out w8)) g9.size (fun b dA=>g9.block b (Cf.ow_lt (F:=Fr) (x:=Cl id p) (s:=sr) (Cf.ow_below (F:=Fr) (x:=Cl id p) (s:=sr) orn8 (ha.out w8)) b dA) (fun e=>by have h1:=(fU.out _ e.symm).2;have h2:=fH b dA;omega));have B9:Below w w w9:=(Bv B7 (ha.out w8)).grown g9 (Bv B7 (ha.out w8)).size (fun g hg=>by have h1:=(fU.out g hg).1;omega);have pM:w<=ob:=Bl;have OB10:DBox ob [J U y.now,J U y.seq,Aa B1 m1 e1,Aa A9 (rs.length+1) c9] (w9.setCell ⟨ob,3,Ab⟩ (Aa A9 (rs.length+1) c9)):=OB9.set 3 Bo _;have XB10:=XB9.setOther (a:=⟨ob,3,Ab⟩) (by show xb≠ob;omega) (Aa A9 (rs.length+1) c9);have RES10:=RES9.setOther (a:=⟨ob,3,Ab⟩) (by show w.heap.size+1+1≠ob;omega) (Aa A9 (rs.length+1) c9);have oS10:=oS9.set (a:=⟨ob,3,Ab⟩) (fun hx=>by have h1:_/\ob<base:=eR _ hx;omega) (Aa A9 (rs.length+1) c9);have oR10:=uN.set (a:=⟨ob,3,Ab⟩) (fun hx=>(gL _ hx).1 rfl) (Aa A9 (rs.length+1) c9);have orn10:=Cf.ow_set (F:=Fr) (x:=Cl id p) (s:=sr) orn9 (a:=⟨ob,3,Ab⟩) (fun hx=>by have h1:w6<=ob:=fH _ hx;omega) (Aa A9 (rs.length+1) c9);have B10:Below w w (w9.setCell ⟨ob,3,Ab⟩ (Aa A9 (rs.length+1) c9)):=Ad B9 (by show w.heap.size<=ob;omega) _;clear OB9 XB9 RES9 oS9 orn9 B9 uN hP XB RES oS B7 OB o9 g9 f9 q3 qf ql orn8 hO uG oR obf pI;clear OB_;clear XB_;generalize w9.setCell ⟨ob,3,Ab⟩ (Aa A9 (rs.length+1) c9)=w10 at *
 have OB10_:=OB10.g4;have XB10_:=XB10.g8;obtain rfl:m1=y.shelf.length:=RdL.at1 (s:=⟨B1,m1,e1⟩) oS10.rd;obtain ⟨g,o,_,rfl,gD,_,_⟩:=RdL.entryS (show RdL (Dt.list By) w10 w10.heap.size (Aa B1 y.shelf.length e1) y.shelf from oS10.rd) (k:=0) (by have:=h4.out;omega);have eY:g∈F1:=OwL.block_mem (show OwL (Dt.list By) w10 F1 (Aa (Ac ⟨g,o,Ab⟩) y.shelf.length e1) y.shelf from oS10) (by have:=h4.out;omega);have rQ:=eR g eY;have hRlt:=oR10.lt;have bQ:=Br (show ∀ x,x∈[g]->x=g from fun x hx=>by simpa using hx);have CL:=Br (S0 ⟨y.now,y.seq,y.shelf,y.runs ++ [Cl id p]⟩ g o e1 ⟨A9,rs.length+1,c9⟩ Hd (⟨Ab,0,0⟩,⟨Ab,0,0⟩) (Cl id p) sr w10 F1 h4.out (fun s hs=>by have:=(dQ.out s hs).1;omega) (by dsimp only;omega) (by have:=cG.out;omega) (by show ([]:List Task).length<=1000;simp) oS10 (Br fun W hW=>(Cf.ow_rd (Cf.ow_chg (F:=Fr) (x:=Cl id p) (s:=sr) orn10 hW (fun x hx h=>by have h1:=bQ.out x h;have h2:=fH x hx;omega))).2) (Br fun W hW=>Ahn _ _ _ _));have gI:=Br (show (Ny ⟨y.now,y.seq,y.shelf,y.runs ++ [Cl id p]⟩ Hd (Cl id p)).runs=y.runs ++ [Cl id p] from (Qo (y:=⟨y.now,y.seq,y.shelf,y.runs ++ [Cl id p]⟩) (was:=Hd) (r:=Cl id p) (M:=80) (fun s hs=>(dQ.out s hs).1) (Cl id p).tasks.length).runs);generalize Ny ⟨y.now,y.seq,y.shelf,y.runs ++ [Cl id p]⟩ Hd (Cl id p)=Z at *
 go_wp2_with fail
 refine CL.out.mono ?_;rintro e w11 ⟨F1',rfl,q1,q2,q3⟩;have hs11:=q3.size;have RES11:=RES10.chg q3 (fun hx=>by have:=bQ.out _ hx;omega);have oR11:=oR10.chg q3 (fun x hx h=>by have h1:=bQ.out x h;have h2:=(gL x hx).2;omega);have B11:=B10.trans (q3.below (by have:=B10.size;omega) (fun x hx=>by have:=bQ.out _ hx;omega));clear OB10_;clear XB10_;clear OB10 XB10 RES10;obtain ⟨RES11_0,RES11_1,RES11_2,RES11_3,RES11_l⟩:=RES11.g4;have rf:=RES11.free;go_wp2;have en1:w.heap.size+1+1∉F1':=fun hx=>by
  rcases q2 _ hx with h | h
  ·have:=(eR _ h).1;omega
  ·have:=RES11_l;have:=B10.size;omega
 have en2:w.heap.size+1+1∉F2:=fun hx=>by have:=(gL _ hx).2;omega
 refine Aj (Ky (DBox.row4 RES11 rfl _ _ _ _)) rfl ⟨(⟨Ac ⟨g,o,Ab⟩,y.shelf.length,e1⟩,⟨A9,rs.length+1,c9⟩),F1' ++ F2,by rw [H.out,H2.out],⟨F1',F2,rfl,?_,?_,?_⟩,fun x hx=>?_,?_⟩
 ·exact Aks
 ·exact Aj7
 ·exact Akk
 ·exact Ald
 ·repeat (first | (with_reducible exact B11) | refine Ad ?_ Bp _)
end
section
open Classical in
noncomputable def It (y:Yard) (id:Int):Int :=
 if ¬ Dk y then 8 else if Dn y id<0 then 10 else if ¬ (Ko y id).state=1 then 12 else 0
noncomputable def Iu (y:Yard) (id:Int):Yard:=if It y id=0 then ⟨y.now,y.seq,y.shelf,y.runs.set (Dn y id).toNat (D6 (Ko y id) 4)⟩ else y
theorem N5 {b:Nat} {w:World} {u0 u1 u2 u3:Value} (X:DBox b [u0,u1,u2,u3] w) {v0 v1 v2 v3 v5:Value} {rest:List Value} :
  (results Tryz.f169 (v0 :: v1 :: v2 :: v3 :: .pointer (Ac ⟨b,0,Ab⟩) :: v5 :: rest).toArray).run Am w = .ok (.tuple #[.agg #[u0,u1,u2,u3],v5]) w:=by
 have c0:=X.cell 0 _ rfl;have c1:=X.cell 1 _ rfl;have c2:=X.cell 2 _ rfl;have c3:=X.cell 3 _ rfl;simp [results,results169,go_sem,c0,c1,c2,c3]
theorem Wc (y:Yard) (s:Sl×Sl) (id:Int) (w:World) (hl:Ca y<=2000000) (h:Bw.rd w w y s) :
  Calls Am 169 #[Ds y s,J U id] w (Is (Iu y id) (It y id) w):=by
 have HR:=Br (show ∀ W,Below w w W->Bw.rd W W y s from fun W hW=>Bw.rd_more (Bw.rd_below h hW) hW.size);obtain ⟨⟨A1,n1,c1⟩,⟨A2,n2,c2⟩⟩:=s;have CC:=Br (fun W hW=>E1 y (⟨A1,n1,c1⟩,⟨A2,n2,c2⟩) W hl (HR.out W hW));have CY:=Br (fun W hW=>Gl y (⟨A1,n1,c1⟩,⟨A2,n2,c2⟩) W hl (HR.out W hW));have CA:=Br (fun W hW=>Fi y (⟨A1,n1,c1⟩,⟨A2,n2,c2⟩) id W hl (HR.out W hW));have CX:=Br (fun W hW=>show RdL Cf W W.heap.size (Aa A2 n2 c2) y.runs from (HR.out W hW).2);clear h HR;obtain ⟨W,aH,X,RES,B0⟩:=bx2 w 31 [J U y.now,J U y.seq,Aa A1 n1 c1,Aa A2 n2 c2] 31 [J U 0,J U 0,Aa Ab 0 0,Aa Ab 0 0];go_enter func169,ntmps169;go_wp2_with fail
 rw [<-aH.out];clear aH;have eC:w.heap.size+1<W.heap.size:=RES.lt;refine (CC.out _ B0).mono ?_;rintro e1 w1 ⟨⟨⟨B1,m1,e1⟩,⟨B2,m2,e2⟩⟩,F,rfl,oy,nF,b1⟩;have bE:=b1.size;have cS:=Bw.ow_lt (F:=F) (x:=y) (s:=(⟨B1,m1,e1⟩,⟨B2,m2,e2⟩)) oy;replace X:=X.below b1;replace RES:=RES.below b1;replace B0:=Bv B0 b1;clear b1;go_upto_region 2 with fail
 have OB:=DBox.new 31 [J U y.now,J U y.seq,Aa B1 m1 e1,Aa B2 m2 e2] w1 (b:=w1) rfl;have b2:Below w1 w1 (w1.alloc (.cells #[J U y.now,J U y.seq,Aa B1 m1 e1,Aa B2 m2 e2] 31)):=Bu;replace X:=X.below b2;replace RES:=RES.below b2;replace oy:=Bw.ow_below (F:=F) (x:=y) (s:=(⟨B1,m1,e1⟩,⟨B2,m2,e2⟩)) oy b2;replace B0:=Bv B0 b2;have ow1:=OB.lt;clear b2;generalize w1.alloc (.cells #[J U y.now,J U y.seq,Aa B1 m1 e1,Aa B2 m2 e2] 31)=w2 at *
 generalize cR:w1.heap.size=ob at *
 have X_:=X.g4;obtain ⟨OB_0,OB_1,OB_2,OB_3,OB_l⟩:=OB.g4;go_wp2_with fail
 refine (CA.out _ B0).mono ?_;rintro e1 w3 ⟨rfl,b3⟩;clear X_;clear OB_0 OB_1 OB_2 OB_3 OB_l;replace X:=X.below b3;replace OB:=OB.below b3;replace RES:=RES.below b3;replace oy:Bw.ow w3 F y (⟨B1,m1,e1⟩,⟨B2,m2,e2⟩):=owB oy b3;replace B0:=Bv B0 b3;clear b3;have X_:=X.g4;obtain ⟨OB_0,OB_1,OB_2,OB_3,OB_l⟩:=OB.g4;go_wp2_with fail
 refine (CY.out _ B0).mono ?_;rintro e1 w4 ⟨rfl,b4⟩;clear X_;clear OB_0 OB_1 OB_2 OB_3 OB_l;replace X:=X.below b4;replace OB:=OB.below b4;replace RES:=RES.below b4;replace oy:Bw.ow w4 F y (⟨B1,m1,e1⟩,⟨B2,m2,e2⟩):=owB oy b4;replace B0:=Bv B0 b4;clear b4;have X_:=X.g4;obtain ⟨OB_0,OB_1,OB_2,OB_3,OB_l⟩:=OB.g4;by_cases p0:Dk y;case neg =>
  rw [Cg p0];have H:=Br (show It y id=8 by unfold It;rw [if_pos p0]);exact Aih
 rw [Di p0];have P0:=Br p0;clear p0;by_cases p1:Dn y id<0;case pos =>
  have H:=Br (show It y id=10 by unfold It;rw [if_neg (fun h=>h P0.out),if_pos p1]);exact Aih
 rcases E9 y id with hr | ⟨k,hk,hr⟩
 ·exact absurd hr Bl
 have HK:=Br (Ha hk hr);have HR2:=Br hr;rw [hr];clear hr p1;have P1:=Br (show ¬ Dn y id<0 by have:=HR2.out;omega);have gJ:(k:Int)<(n2:Int):=by have:=RdL.at1 (s:=⟨A2,n2,c2⟩) (CX.out _ B0);dsimp only at this;omega
 have cE:(0:Int)<=(k:Int):=Bl;have hkn:¬ (k:Int)<0:=Bl;have bN:=Br (Ev P0.out hk);obtain ⟨gx,ox,_,rfl,kX,_,c0,c1_,c2_,c3_,c4_,c5_,c6,c7_⟩:=(CX.out _ B0).run hk;clear c0 c1_ c2_ c3_ c4_ c5_ c7_;by_cases p2:y.runs[k].state=1;case neg =>
  have q2:(y.runs[k].state != 1)=true:=by simp [p2]
  have H:=Br (show It y id=12 by unfold It;rw [if_neg (fun h=>h P0.out),if_neg P1.out,if_pos (by rw [HK.out];exact p2)]);clear p2;exact Aih
 have q2:(y.runs[k].state != 1)=false:=by simp [p2]
 have H:=Br (show It y id=0 by unfold It;rw [if_neg (fun h=>h P0.out),if_neg P1.out,if_neg (by rw [HK.out];exact fun h=>h p2)]);have H2:=Br (show Iu y id=⟨y.now,y.seq,y.shelf,y.runs.set k (D6 y.runs[k] 4)⟩ by unfold Iu;rw [if_pos H.out,HK.out,HR2.out,Ao]);have P2:=Br p2;clear p2;go_upto_region 9 with fail
 have oyr:=(Bw.ow_rd (F:=F) (x:=y) (s:=(⟨B1,m1,e1⟩,⟨B2,m2,e2⟩)) oy).2;have dH:=Br (show m2=y.runs.length from RdL.at1 (s:=⟨B2,m2,e2⟩) oyr);have jF:(k:Int)<(m2:Int):=by have:=dH.out;omega
 obtain ⟨gr,orr,sk,rfl,dN,dI,d0,d1,d2,d3,d4,d5,d6,d7⟩:=RdL.run (show RdL Cf w4 w4.heap.size (Aa B2 m2 e2) y.runs from oyr) hk;have jG:∀ i,w4.frozen? ⟨gr,i,Ab⟩=false:=Alm
 clear X_;clear X c6 q2;generalize nB:y.runs[k]=r at *
 have CSt:=Br (Zy r sk w4.drew (by have:=Kw bN.out;omega) bN.out P2.out (by have:=Eb bN.out;omega) (Cf.rd_below dI (Bs _ _).drew));have hobw5:ob<w4:=OB.lt;clear dI oyr nB;go_wp2;refine Dh (fun w'=>w'.cell? ⟨ob,3,Ab⟩=Ac (Aa (Ac ⟨gr,orr,Ab⟩) m2 e2)/\w'.cell? ⟨gr,orr+k * 8,Ab⟩=Ac (J U r.id)/\w'.cell? ⟨gr,orr+k * 8+1,Ab⟩=Ac (J U r.plan.prio)/\w'.cell? ⟨gr,orr+k * 8+2,Ab⟩=Ac (J U r.plan.most)/\w'.cell? ⟨gr,orr+k * 8+3,Ab⟩=Ac (J U r.plan.wait)/\w'.cell? ⟨gr,orr+k * 8+4,Ab⟩=Ac (J U r.plan.tasks)/\w'.cell? ⟨gr,orr+k * 8+5,Ab⟩=Ac (Aa sk.1.a sk.1.n sk.1.c)/\w'.cell? ⟨gr,orr+k * 8+6,Ab⟩=Ac (J U r.state)/\w'.cell? ⟨gr,orr+k * 8+7,Ab⟩=Ac (Aa sk.2.a sk.2.n sk.2.c)) 10 Bm ?_ (fun hHeld=>?_)
 ·exact ⟨OB_3,d0,d1,d2,d3,d4,d5,d6,d7⟩
 refine aT 0 hHeld ?_;try simp only [pS]
 refine aT 1 hHeld ?_;try simp only [pS]
 refine aT 2 hHeld ?_;try simp only [pS]
 refine aT 3 hHeld ?_;try simp only [pS]
 refine aT 4 hHeld ?_;try simp only [pS]
 refine aT 5 hHeld ?_;try simp only [pS]
 refine aT 6 hHeld ?_;try simp only [pS]
 refine aT 7 hHeld ?_;try simp only [pS]
 refine oT 8 (fun K hK=>?_)
 (go_simp;refine CSt.out.mono ?_;rintro e9 w6 ⟨sr,Fr,rfl,orn,nr,b6⟩;have q0:w6.cell? ⟨gr,orr+k * 8,Ab⟩=Ac (J U r.id):=(b6.cell (p:=⟨_,_,Ab⟩) (by show gr<w4;omega)).trans d0;have q1:w6.cell? ⟨gr,orr+k * 8+1,Ab⟩=Ac (J U r.plan.prio):=(b6.cell (p:=⟨_,_,Ab⟩) (by show gr<w4;omega)).trans d1;have q2:w6.cell? ⟨gr,orr+k * 8+2,Ab⟩=Ac (J U r.plan.most):=(b6.cell (p:=⟨_,_,Ab⟩) (by show gr<w4;omega)).trans d2;have q3:w6.cell? ⟨gr,orr+k * 8+3,Ab⟩=Ac (J U r.plan.wait):=(b6.cell (p:=⟨_,_,Ab⟩) (by show gr<w4;omega)).trans d3;have q4:w6.cell? ⟨gr,orr+k * 8+4,Ab⟩=Ac (J U r.plan.tasks):=(b6.cell (p:=⟨_,_,Ab⟩) (by show gr<w4;omega)).trans d4;have q5:w6.cell? ⟨gr,orr+k * 8+5,Ab⟩=Ac (Aa sk.1.a sk.1.n sk.1.c):=(b6.cell (p:=⟨_,_,Ab⟩) (by show gr<w4;omega)).trans d5;have q6:w6.cell? ⟨gr,orr+k * 8+6,Ab⟩=Ac (J U r.state):=(b6.cell (p:=⟨_,_,Ab⟩) (by show gr<w4;omega)).trans d6;have q7:w6.cell? ⟨gr,orr+k * 8+7,Ab⟩=Ac (Aa sk.2.a sk.2.n sk.2.c):=(b6.cell (p:=⟨_,_,Ab⟩) (by show gr<w4;omega)).trans d7;have qf:∀ j,w6.frozen? ⟨gr,j,Ab⟩=false:=fun j=>(b6.frozen (p:=⟨_,_,Ab⟩) (by show gr<w4;omega)).trans (jG j))
 refine hK.out _ _ (fun _=>?_) ?_
 ·exact Ai0
 clear hK K;try simp only [pS]
 refine oT 9 (fun K hK=>?_);go_simp;refine hK.out _ _ (fun _=>?_) ?_
 ·exact Ai0
 clear hK K;try simp only [pS]
 refine oT 10 (fun K hK=>?_);go_simp;refine hK.out _ _ (fun aC=>absurd rfl aC) ?_;clear hK K;try simp only [pS]
 refine Eh Bm ?_ _;have b6':Below w4 w4 w6:=Bv (Bs _ _).drew b6;have qL:=b6'.size;have pV:=B0.size;have mW:∀ x∈Fr,w4<=x:=nr;have jN:∀ x∈F,x<w4:=Bw.ow_lt (F:=F) (x:=y) (s:=(⟨B1,m1,e1⟩,⟨Ac ⟨gr,orr,Ab⟩,m2,e2⟩)) oy;have oy6:Bw.ow w6 F y (⟨B1,m1,e1⟩,⟨Ac ⟨gr,orr,Ab⟩,m2,e2⟩):=owB oy b6';obtain ⟨F8,oy8,kZ,fT⟩:=Oy oy6 (k:=k) hk (r:=D6 r 4) (sr:=sr) orn (fun x hx bI=>by have h1:=mW x hx;have h2:=jN x bI;omega);have jP:Chg [gr] w6 ((((((((w6.setCell ⟨gr,orr+k * 8,Ab⟩ (J U (D6 r 4).id)).setCell ⟨gr,orr+k * 8+1,Ab⟩ (J U (D6 r 4).plan.prio)).setCell ⟨gr,orr+k * 8+2,Ab⟩ (J U (D6 r 4).plan.most)).setCell ⟨gr,orr+k * 8+3,Ab⟩ (J U (D6 r 4).plan.wait)).setCell ⟨gr,orr+k * 8+4,Ab⟩ (J U (D6 r 4).plan.tasks)).setCell ⟨gr,orr+k * 8+5,Ab⟩ (Aa sr.1.a sr.1.n sr.1.c)).setCell ⟨gr,orr+k * 8+6,Ab⟩ (J U (D6 r 4).state)).setCell ⟨gr,orr+k * 8+7,Ab⟩ (Aa sr.2.a sr.2.n sr.2.c)):=I6 (Cf.enc.cells (D6 r 4,sr)) w6 gr (orr+k * 8);have cV:=Br (show ∀ x,x∈[gr]->x=gr from fun x hx=>by simpa using hx);have nK:=nF gr fT;have hgrl:=cS gr fT;clear OB_0 OB_1 OB_2 OB_3 OB_l;replace OB:=(OB.below b6').chg jP (fun hx=>by have:=cV.out _ hx;omega);replace RES:=(RES.below b6').chg jP (fun hx=>by have:=cV.out _ hx;omega);replace B0:=(Bv B0 b6').trans (jP.below (by have:=(Bv B0 b6').size;omega) (fun x hx=>by have:=cV.out _ hx;omega));have en1:w.heap.size+1∉F8:=fun hx=>by
  exact Ako
 have nA:∀ x∈F8,w<=x:=fun x hx=>by
  exact Ako
 clear hHeld oy oy6 b6 b6' nr orn jP CSt d0 d1 d2 d3 d4 d5 d6 d7 jG q0 q1 q2 q3 q4 q5 q6 q7 qf;generalize ((((((((w6.setCell ⟨gr,orr+k * 8,Ab⟩ (J U (D6 r 4).id)).setCell ⟨gr,orr+k * 8+1,Ab⟩ (J U (D6 r 4).plan.prio)).setCell ⟨gr,orr+k * 8+2,Ab⟩ (J U (D6 r 4).plan.most)).setCell ⟨gr,orr+k * 8+3,Ab⟩ (J U (D6 r 4).plan.wait)).setCell ⟨gr,orr+k * 8+4,Ab⟩ (J U (D6 r 4).plan.tasks)).setCell ⟨gr,orr+k * 8+5,Ab⟩ (Aa sr.1.a sr.1.n sr.1.c)).setCell ⟨gr,orr+k * 8+6,Ab⟩ (J U (D6 r 4).state)).setCell ⟨gr,orr+k * 8+7,Ab⟩ (Aa sr.2.a sr.2.n sr.2.c))=w8 at *
 obtain ⟨OB_0,OB_1,OB_2,OB_3,OB_l⟩:=OB.g4;have RES_:=RES.g4;have rf:=RES.free;go_wp2;refine Aj (N5 (DBox.row4 RES rfl _ _ _ _)) rfl ⟨(⟨B1,m1,e1⟩,⟨Ac ⟨gr,orr,Ab⟩,m2,e2⟩),F8,by rw [H.out,H2.out],by rw [H2.out];exact (by (repeat (refine Dt.ow_set Bw ?_ en1 _));exact (show Bw.ow _ F8 ⟨y.now,y.seq,y.shelf,y.runs.set k (D6 r 4)⟩ (⟨B1,m1,e1⟩,⟨Ac ⟨gr,orr,Ab⟩,m2,e2⟩) from oy8)),nA,?_⟩;repeat (first | (with_reducible exact B0) | refine Ad ?_ Bp _)
end
theorem Ad9 (l:List Int):l.flatMap Iz.cells=l.map (Value.int .i64):=Ak7
theorem Ow.intsK (w:World) (E:TypeId) (l:List Int) {cs:Array Value} (fP:cs=(l.map (Value.int .i64)).toArray) {n g base:Nat} (hn:n=l.length) (hg:g=w) (hb:base<=w.heap.size) (hl:l.length<=1000) :
  Ow Iz E (w.alloc (.cells cs E)) base (Aa (Ac ⟨g,0,Ab⟩) n n) l:=by
 subst hn hg fP
 have:=World.ownsRow_lit (base:=base) (e:=E) (size:=Iz.sz) w (l.map (Value.int .i64)).toArray l.length hb (by simp [maxLen];omega) (by simp [Iz])
 unfold Ow;rw [Ad9];exact this
theorem Yn:(Am.info? 26).map (fun i=>(i.zero,i.size,i.bytes))=Ac (Ac (Aa Ab 0 0),1,24):=Bm
def Rm (y:Yard) (x:Task):Bool:=(x.state == 3) && decide (x.until_ - 1<=y.now)
def Hi (y:Yard) (k:Nat):Run:=y.runs.getD k Hd
theorem E6 {y:Yard} {k:Nat} (h:k<y.runs.length):Hi y k=y.runs[k]:=by unfold Hi;rw [List.getD_eq_getElem?_getD,List.getElem?_eq_getElem h];rfl
def Jh (y:Yard) (k n:Nat):List (Nat×Nat):=((List.range n).filter fun t=>Rm y (Cv (Hi y k) t)).map fun t=>(k,t)
def Gg (y:Yard) (k:Nat):List (Nat×Nat):=(List.range k).flatMap fun j=>Jh y j (Hi y j).tasks.length
def I5 (y:Yard) (p:Nat×Nat):List Int:=[(Hi y p.1).id,p.2,(Cv (Hi y p.1) p.2).try_]
theorem Wd (y:Yard) (k:Nat):Jh y k 0=[]:=rfl
theorem Yo {y:Yard} {k n:Nat} (h:Rm y (Cv (Hi y k) n)=true):Jh y k (n+1)=Jh y k n ++ [(k,n)]:=Amz
theorem Rn {y:Yard} {k n:Nat} (h:Rm y (Cv (Hi y k) n)=false):Jh y k (n+1)=Jh y k n:=Amz
theorem Qs (y:Yard) (k:Nat):Gg y (k+1)=Gg y k ++ Jh y k (Hi y k).tasks.length:=by
 unfold Gg;rw [List.range_succ,List.flatMap_append];simp
theorem Sh (y:Yard) (k n:Nat):(Jh y k n).length<=n:=by
 unfold Jh;rw [Ar];exact Ank
theorem Lt {y:Yard} (h:∀ j,(Hi y j).tasks.length<=12):∀ k,(Gg y k).length<=12 * k
 | 0=>by simp [Gg]
 | k+1=>by
  rw [Qs,Bd];have h1:=Lt h k;have h2:=Sh y k (Hi y k).tasks.length;have h3:=h k;omega
theorem Nk {y:Yard} (h:Dk y) (j:Nat):(Hi y j).tasks.length<=12:=by
 by_cases q:j<y.runs.length
 ·rw [E6 q];exact (Eb (Ev h q)).2
 ·unfold Hi;rw [List.getD_eq_getElem?_getD,List.getElem?_eq_none Bl];simp [Hd]
theorem We {y:Yard} (h:Dk y) {k t:Nat} (hk:k<y.runs.length) (ht:t<y.runs[k].tasks.length) (hs:y.runs[k].tasks[t].state=3):y.now+1<=y.runs[k].tasks[t].until_/\y.runs[k].tasks[t].until_<=1000000000:=by
 have h1:=h.2.2.2.2.2.2.2.2.1 y.runs[k] (Aw hk) t ht;unfold Pv at h1;rw [Cu ht] at h1;have h2:=h1.2 hs;have h3:=(Ev h hk).2.2.2.1 t ht;unfold Hx Oo at h3;rw [Cu ht] at h3;have h4:=h3.2.2.2.1 hs;omega
theorem Aae (y:Yard) (s:Sl×Sl) (w:World) (hl:Ca y<=2000000) (hY:Dk y) (h:Bw.rd w w y s) :
  Calls Am 251 #[Ds y s] w (Dv (Dt.list (Dt.flats Iz)) slV ((Gg y y.runs.length).map (I5 y)) w):=by
 obtain ⟨⟨A1,n1,c1⟩,⟨A2,n2,c2⟩⟩:=s;obtain rfl:n2=y.runs.length:=RdL.at1 (s:=⟨A2,n2,c2⟩) h.2;have CX:=Br (fun W (hW:Below w w W)=>show RdL Cf W w.heap.size (Aa A2 y.runs.length c2) y.runs from (Bw.rd_below (x:=y) (s:=(⟨A1,n1,c1⟩,⟨A2,y.runs.length,c2⟩)) h hW).2);have nU:y.runs.length<=8:=hY.2.2.2.2.2.2.1;have HP:=Br hY;clear h hY;obtain ⟨it,i0,z0,z1,z2⟩:=info_parts Yn;have X:=DBox.new 31 [J U y.now,J U y.seq,Aa A1 n1 c1,Aa A2 y.runs.length c2] w (b:=w) rfl;have B0:Below w w (w.alloc (.cells #[J U y.now,J U y.seq,Aa A1 n1 c1,Aa A2 y.runs.length c2] 31)):=by repeat (first | exact Bs _ _ | refine Below.alloc ?_ Bp _)
 go_enter func251,ntmps251;go_wp2;have hWs:w.heap.size+1=(w.alloc (.cells #[J U y.now,J U y.seq,Aa A1 n1 c1,Aa A2 y.runs.length c2] 31)).heap.size:=Bo;have o0:=Ow.empty (Dt.flats Iz).enc 26 (w.alloc (.cells #[J U y.now,J U y.seq,Aa A1 n1 c1,Aa A2 y.runs.length c2] 31)) rfl;have b0:Below (w.alloc (.cells #[J U y.now,J U y.seq,Aa A1 n1 c1,Aa A2 y.runs.length c2] 31)) (w.alloc (.cells #[J U y.now,J U y.seq,Aa A1 n1 c1,Aa A2 y.runs.length c2] 31)) ((w.alloc (.cells #[J U y.now,J U y.seq,Aa A1 n1 c1,Aa A2 y.runs.length c2] 31)).alloc (.cells #[] 26)):=Bu;replace X:=X.below b0;replace B0:=Bv B0 b0;rw [<-hWs] at o0;go_loopw [3,4] (fun v i wr=>∃ k:Nat,k<=y.runs.length/\i = J U k/\Hid (Bls (Dt.flats Iz) 26 wr (w+1) v ((Gg y k).map (I5 y)))/\DBox w [J U y.now,J U y.seq,Aa A1 n1 c1,Aa A2 y.runs.length c2] wr/\Below w w wr) (fun _ i _=>y.runs.length - (intOf i).toNat);case atStart=>exact ⟨0,Ag _,rfl,⟨[],rfl,Bld.of_empty o0⟩,X,B0⟩
 case round =>
  clear X B0 o0 b0 hWs;obtain ⟨k,hk,rfl,hB,X,hb⟩:=hrel;have X_:=X.g4;by_cases aA:k<y.runs.length
  ·have aB:(k:Int)<(y.runs.length:Int):=Bl;have cE:(0:Int)<=(k:Int):=Bl;go_wp2;go_loopw [3,5,6] (fun vv i u wr=>∃ (n:Nat) (v:Value),n<=y.runs[k].tasks.length/\i = J U n/\v=vv/\Hid (Bls (Dt.flats Iz) 26 wr (w+1) v ((Gg y k ++ Jh y k n).map (I5 y)))/\DBox w [J U y.now,J U y.seq,Aa A1 n1 c1,Aa A2 y.runs.length c2] wr/\Below w w wr) (fun _ i _ _=>y.runs[k].tasks.length - (intOf i).toNat);case atStart=>exact ⟨0,_,Ag _,rfl,rfl,by rw [Wd,List.append_nil];exact hB,X,hb⟩
   case round =>
    clear X_;clear X hb hB;obtain ⟨n,v,hn,rfl,rfl,hB,X,hb⟩:=hrel;obtain ⟨b,o,⟨s1,⟨At,nt,ct⟩⟩,rfl,aJ,cP,c0,c1_,c2_,c3_,c4_,c5_,c6_,c7⟩:=(CX.out wr hb).run aA;obtain rfl:nt=y.runs[k].tasks.length:=RdL.at1 (s:=⟨At,nt,ct⟩) cP.2;have h3:RdL C8 wr w (Aa At y.runs[k].tasks.length ct) y.runs[k].tasks:=cP.2;clear c1_ c2_ c3_ c4_ c5_ c6_ cP;have X_:=X.g4;have hwrs:=hb.size;by_cases fF:n<y.runs[k].tasks.length
    ·have fR:=(Eb (Ev HP.out aA)).2;have nT:(n:Int)<(y.runs[k].tasks.length:Int):=Bl;have vT:(0:Int)<=(n:Int):=Bl;obtain ⟨b',o',_,rfl,bF,_,d0,d1,d2,d3⟩:=h3.task fF;have hU:=Br (fun hs=>We HP.out aA fF hs);have hJ:=Br (show Cv (Hi y k) n=y.runs[k].tasks[n] by rw [E6 aA,Cu fF]);have hRow:Hid (I5 y (k,n)=[y.runs[k].id,(n:Int),y.runs[k].tasks[n].try_]):=by
      show I5 y (k,n)=_;unfold I5;rw [hJ.out,E6 aA]
     have aE:=Br (show (Gg y k ++ Jh y k n).length<=3000000 by
      have h1:=Lt (Nk HP.out) k;have h2:=Sh y k n;have h5:=(Eb (Ev HP.out aA)).2;rw [Bd];omega)
     generalize y.runs[k].tasks[n]=x at *
     generalize y.runs[k].id=rid at *
     have TB:=DBox.new 203 [J U x.state,J U x.need,J U x.try_,J U x.until_] wr (b:=wr) rfl;have b2:Below wr wr (wr.alloc (.cells #[J U x.state,J U x.need,J U x.try_,J U x.until_] 203)):=Bu;go_upto_region 9 with fail
     clear X_;replace X:=X.below b2;have aK:=Bv hb b2;have mY:=hB.out.below b2;have fA:=TB.lt;have mU:=X.lt;replace c0:=(b2.cell (p:=⟨b,_,Ab⟩) (by show b<wr;omega)).trans c0;have hvb:=Br (show ∀ z,v.ownBlock=Ac z->w.heap.size+1<=z/\z≠wr.heap.size/\z≠b from fun z hz=>by
      obtain ⟨rs,hm,pX⟩:=hB.out;have h1:=pX.ow.within z hz;omega)
     have bV:b<(wr.alloc (.cells #[J U x.state,J U x.need,J U x.try_,J U x.until_] 203)):=by simp;omega
     clear b2 c7 d0 d1 d2 d3 hb hB;generalize wr.alloc (.cells #[J U x.state,J U x.need,J U x.try_,J U x.until_] 203)=w2 at *
     generalize htb:wr.heap.size=tb at *
     have X_:=X.g4;obtain ⟨TB_0,TB_1,TB_2,TB_3,TB_l⟩:=TB.g4;by_cases q:x.state=3;case neg =>
      have q1:(x.state == 3)=false:=by simp [q]
      have S:=Br (Rn (y:=y) (k:=k) (n:=n) (by rw [hJ.out];unfold Rm;rw [q1];rfl));clear q;exact Amt
     have q1:(x.state == 3)=true:=by simp [q]
     have hu:=hU.out q;have wr1:U.wrap (x.until_ - 1)=x.until_ - 1:=Aq _ (by have:=HP.out.1;omega);have q2:¬ x.until_<=y.now:=Bl;by_cases q3:x.until_ - 1<=y.now;case neg =>
      have S:=Br (Rn (y:=y) (k:=k) (n:=n) (by rw [hJ.out];unfold Rm;rw [q1,decide_eq_false q3];rfl));clear q hu;exact Amt
     have S:=Br (Yo (y:=y) (k:=k) (n:=n) (by rw [hJ.out];unfold Rm;rw [q1,decide_eq_true q3];rfl));clear q hu;go_wp2;clear TB_0 TB_1 TB_2 TB_3 TB_l;refine Go.wp_region_noPanic ?_;refine wp_region_held_drew (S:=(fun w'=>DBox w [J U y.now,J U y.seq,Aa A1 n1 c1,Aa (Ac ⟨b,o,Ab⟩) y.runs.length c2] w'/\w'.cell? ⟨b,o+k * 8,Ab⟩=Ac (J U rid)/\DBox tb [J U x.state,J U x.need,J U x.try_,J U x.until_] w')) Bm ⟨DBox.drew4 X,c0,DBox.drew4 TB⟩ (fun hHeld=>?_);have tD:=aK.drew;have kG:=mY.below (Bs _ _).drew;have hsd:w2.drew.heap.size=w2.heap.size:=rfl;clear X_;clear X c0 TB aK mY;rw [<-hsd] at bV fA mU;clear hsd;generalize w2.drew=w3 at *
     refine tV 0 ?_
     (try simp only [pS])
     refine tV 1 ?_
     (try simp only [pS])
     refine tV 2 ?_
     (try simp only [pS])
     refine tV 3 ?_
     (try simp only [pS])
     refine tV 4 ?_
     (try simp only [pS])
     refine tV 5 ?_
     (try simp only [pS])
     refine tV 6 ?_
     (try simp only [pS])
     refine tV 7 ?_
     (try simp only [pS])
     refine tV 8 ?_
     (try simp only [pS])
     refine tV 9 ?_
     (try simp only [pS])
     refine rC 10 (fun K_ hK=>?_);go_simp;have o9:=Ow.intsK w3 3 [rid,(n:Int),x.try_] (cs:=#[J U rid,J U (n:Int),J U x.try_]) rfl (n:=3) (g:=w3) (base:=w3) rfl rfl (Bt _) Bo;have b4:Below w3 w3 (w3.alloc (.cells #[J U rid,J U (n:Int),J U x.try_] 3)):=Bu;have pV:=b4.size;obtain ⟨hw9,hwB⟩:=Hw.of_ow o9;refine hK.out _ _ ⟨hHeld.1.below b4,(b4.cell (p:=⟨b,_,Ab⟩) bV).trans hHeld.2.1,hHeld.2.2.below b4⟩ (fun hHeld=>?_);clear hK K_
     (try simp only [pS])
     generalize eM:w3.heap.size=g9 at *
     generalize w3.alloc (.cells #[J U rid,J U (n:Int),J U x.try_] 3)=w4 at *
     refine rC 11 (fun K_ hK=>?_);go_simp;have b5:Below w4 w4 (w4.alloc (.cells #[Aa (Ac ⟨g9,0,Ab⟩) 3 3] 26)):=Bu;have hbw4:b<w4:=Bl;refine hK.out _ _ ⟨hHeld.1.below b5,(b5.cell (p:=⟨b,_,Ab⟩) hbw4).trans hHeld.2.1,hHeld.2.2.below b5⟩ (fun hHeld=>?_);clear hK K_
     (try simp only [pS])
     obtain ⟨rs,hm,kR⟩:=kG;have bK:rs.length<=3000000:=Anc
     have uV:=Br bK;clear bK;have b45:=Bv (by rw [eM];exact b4) b5;refine rC 12 (fun K_ hK=>?_);refine Dz _ (Dt.flats Iz).enc Bq (.tmp 53) (.tmp 64) 254 rfl (w.heap.size+1) 26 _ _ _ underlying254 i0 z0 z1 z2 rfl v rs rfl (kR.ow.below b45) _ _ _ _ [([rid,(n:Int),x.try_],(⟨Ac ⟨g9,0,Ab⟩,3,3⟩:Sl))] rfl (Rd.one (Dt.flats Iz).enc _ _ ([rid,(n:Int),x.try_],(⟨Ac ⟨g9,0,Ab⟩,3,3⟩:Sl)) rfl rfl 1 (Bt _) (Nat.lt_succ_self _)) uV.out Bo Bq (by have:=b45.size;omega) ?_;intro v6 w6 o6 gg f6;have hP:=Bld.push1 (d:=Dt.flats Iz) (x:=[rid,(n:Int),x.try_]) (s:=(⟨Ac ⟨g9,0,Ab⟩,3,3⟩:Sl)) kR (by rw [eM];exact b4) hw9 (fun y hy=>by rw [eM];exact hwB y hy) Bl b5 o6 gg f6;have qM:∀ z,v.ownBlock=Ac z->w.heap.size+1<=z/\z≠tb/\z≠b:=fun z hz=>hvb.out z hz;have X6:=hHeld.1.off gg (fun e=>by have:=(qM _ e.symm).1;omega);have T6:=hHeld.2.2.off gg (fun e=>(qM _ e.symm).2.1 rfl);have hbw5:b<(w4.alloc (.cells #[Aa (Ac ⟨g9,0,Ab⟩) 3 3] 26)):=by have:=b5.size;omega
     have c6:=(gg.cell_far ⟨b,o+k * 8,Ab⟩ hbw5 (fun e=>(qM _ e.symm).2.2 rfl)).trans hHeld.2.1;have hb6:Below w w w6:=(Bv tD b45).grown gg (Bv tD b45).size (fun g hg=>by have:=(qM g hg).1;omega);have fZ:(rs ++ [([rid,(n:Int),x.try_],(⟨Ac ⟨g9,0,Ab⟩,3,3⟩:Sl))]).map (·.1)=(Gg y k ++ Jh y k (n+1)).map (I5 y):=Al9
     have hB6:Bls (Dt.flats Iz) 26 w6 (w+1) v6 ((Gg y k ++ Jh y k (n+1)).map (I5 y)):=⟨_,fZ,hP⟩
     refine hK.out _ _ ⟨X6,c6,T6⟩ (fun hHeld=>?_);clear hK K_
     (try simp only [pS])
     refine tV 13 ?_
     (try simp only [pS])
     refine wpAnyH_done Bm ?_ _;refine NoPanic.normal ?_;have hB7:=Br hB6;clear hHeld hP fZ hB6 hm kR gg o6 f6 T6 c6;go_wp2;refine ⟨⟨n+1,fF,by go_num,?_⟩,clM⟩;rw [<-List.map_append];exact hB7
    ·exact Ajz
  ·exact Ajd
section
theorem Ag3 {y:Yard} {w:World} {F:List Nat} {s1:Sl} {g o n c:Nat} (h:Bw.ow w F y (s1,⟨Ac ⟨g,o,Ab⟩,n,c⟩)) {k:Nat} (hk:k<y.runs.length) :
  ∃ rs:List (Run×(Sl×Sl)),rs.length=n/\rs.length<=c/\n=y.runs.length/\Rd Cf.enc w w (Aa (Ac ⟨g,o,Ab⟩) n c) rs /\
   ∀ (E:TypeId) (w8:World) (A9:Option Addr) (n9 c9:Nat),Below w w w8->Ow Cf.enc E w8 w (Aa A9 n9 c9) (rs.take k ++ rs.drop (k+1)) ->
    ∃ F8,Bw.ow w8 F8 ⟨y.now,y.seq,y.shelf,y.runs.take k ++ y.runs.drop (k+1)⟩ (s1,⟨A9,n9,c9⟩) /\ ∀ x∈F8,x∈F\/w<=x:=by
 obtain ⟨F1,F2,rfl,bP,os,orr⟩:=h;replace os:OwL (Dt.list By) w F1 s1.v y.shelf:=os;replace orr:OwL Cf w F2 (Aa (Ac ⟨g,o,Ab⟩) n c) y.runs:=orr;have hn:n=y.runs.length:=RdL.at1 (s:=⟨Ac ⟨g,o,Ab⟩,n,c⟩) orr.rd;have cS:=orr.lt;obtain ⟨rs,Hh,G,hm,hh,hG,rfl,rG⟩:=orr;have bK:rs.length=y.runs.length:=by have:=congrArg List.length hm;rw [Ar] at this;exact this
 obtain ⟨G1,G2,rfl,hGa,eI⟩:=hG.split k Bl;rw [List.drop_eq_getElem_cons (show k<rs.length by omega)] at eI;obtain ⟨Gx,G3,rfl,_,hGc⟩:=eI.head;refine ⟨rs,Bl,hh.rd.cap,hn,hh.rd,fun E w8 A9 n9 c9 hb ho=>?_⟩;obtain ⟨h5,h6⟩:=Hw.of_ow ho;have hnG2:=(Ax.1 rG).2.1;have hG13:(G1 ++ G3).Nodup:=by
  rw [Ax] at hnG2 ⊢;refine ⟨hnG2.1,(Ax.1 hnG2.2.1).2.1,fun a ha b aX=>hnG2.2.2 a ha b (Be _ aX)⟩
 have hGsub:∀ x∈G1 ++ G3,x∈Hh ++ (G1 ++ (Gx ++ G3)):=fun x hx=>by
  rcases Bi.1 hx with h | h
  ·exact Be _ (Bf _ h)
  ·exact Be _ (Be _ (Be _ h))
 refine ⟨F1 ++ (El (Aa A9 n9 c9) (rs.take k ++ rs.drop (k+1)).length ++ (G1 ++ G3)),⟨F1,_,rfl,?_,os.below hb,⟨rs.take k ++ rs.drop (k+1),_,G1 ++ G3,?_,h5,(hGa.append hGc).bel hb,rfl,?_⟩⟩,fun x hx=>?_⟩
 ·rw [Ax];refine ⟨os.nodup,?_,fun a ha b aX e=>?_⟩
  ·exact Alx
  ·subst e;rcases Bi.1 aX with h | h
   ·have:=h6 a h;have:=os.lt a ha;omega
   ·exact (Ax.1 bP).2.2 a ha a (hGsub a h) rfl
 ·rw [List.map_append,List.map_take,List.map_drop,hm]
 ·exact Alx
 ·rcases Bi.1 hx with h | h
  ·exact .inl (Bf _ h)
  ·rcases Bi.1 h with h | h
   ·exact .inr (h6 x h)
   ·exact .inl (Be _ (hGsub x h))
theorem O3 (f:List Entry->List Entry) {l:List (List Entry)} {k:Nat} (hk:k<l.length):((l.take k).map f ++ l.drop k).set k (f l[k])=(l.take (k+1)).map f ++ l.drop (k+1):=Aj3
theorem Wg (f:List Entry->List Entry) {l:List (List Entry)} {k:Nat} (hk:k<l.length) (h:k<((l.take k).map f ++ l.drop k).length):((l.take k).map f ++ l.drop k)[k]=l[k]:=by
 rw [List.getElem_append_right (by simp;omega)];simp [Nat.min_eq_left (Nat.le_of_lt hk)]
open Classical in
noncomputable def Iv (y:Yard) (id:Int):Int :=
 if ¬ Dk y then 8 else if Dn y id<0 then 10 else if (Ko y id).state=1 then 13 else 0
def Dj (id:Int) (l:List Entry):List Entry:=l.filter fun e=>e.run != id
noncomputable def Iw (y:Yard) (id:Int):Yard:=if Iv y id=0 then ⟨y.now,y.seq,y.shelf.map (Dj id),y.runs.take (Dn y id).toNat ++ y.runs.drop ((Dn y id).toNat+1)⟩ else y
theorem Mg {b:Nat} {w:World} {u0 u1 u2 u3:Value} (X:DBox b [u0,u1,u2,u3] w) {v0 v1 v2 v3 v5:Value} {rest:List Value} :
  (results Tryz.f170 (v0 :: v1 :: v2 :: v3 :: .pointer (Ac ⟨b,0,Ab⟩) :: v5 :: rest).toArray).run Am w = .ok (.tuple #[.agg #[u0,u1,u2,u3],v5]) w:=by
 have c0:=X.cell 0 _ rfl;have c1:=X.cell 1 _ rfl;have c2:=X.cell 2 _ rfl;have c3:=X.cell 3 _ rfl;simp [results,results170,go_sem,c0,c1,c2,c3]
theorem Wh (y:Yard) (s:Sl×Sl) (id:Int) (w:World) (hl:Ca y<=2000000) (h:Bw.rd w w y s) :
  Calls Am 170 #[Ds y s,J U id] w (Is (Iw y id) (Iv y id) w):=by
 have HR:=Br (show ∀ W,Below w w W->Bw.rd W W y s from fun W hW=>Bw.rd_more (Bw.rd_below h hW) hW.size);obtain ⟨⟨A1,n1,c1⟩,⟨A2,n2,c2⟩⟩:=s;have CC:=Br (fun W hW=>E1 y (⟨A1,n1,c1⟩,⟨A2,n2,c2⟩) W hl (HR.out W hW));have CY:=Br (fun W hW=>Gl y (⟨A1,n1,c1⟩,⟨A2,n2,c2⟩) W hl (HR.out W hW));have CA:=Br (fun W hW=>Fi y (⟨A1,n1,c1⟩,⟨A2,n2,c2⟩) id W hl (HR.out W hW));have CX:=Br (fun W hW=>show RdL Cf W W.heap.size (Aa A2 n2 c2) y.runs from (HR.out W hW).2);clear h HR;obtain ⟨W,aH,X,RES,B0⟩:=bx2 w 31 [J U y.now,J U y.seq,Aa A1 n1 c1,Aa A2 n2 c2] 31 [J U 0,J U 0,Aa Ab 0 0,Aa Ab 0 0];go_enter func170,ntmps170;go_wp2_with fail
 rw [<-aH.out];clear aH;have eC:w.heap.size+1<W.heap.size:=RES.lt;refine (CC.out _ B0).mono ?_;rintro e1 w1 ⟨⟨⟨B1,m1,e1⟩,⟨B2,m2,e2⟩⟩,F,rfl,oy,nF,b1⟩;have bE:=b1.size;have cS:=Bw.ow_lt (F:=F) (x:=y) (s:=(⟨B1,m1,e1⟩,⟨B2,m2,e2⟩)) oy;replace X:=X.below b1;replace RES:=RES.below b1;replace B0:=Bv B0 b1;clear b1;go_upto_region 2 with fail
 have OB:=DBox.new 31 [J U y.now,J U y.seq,Aa B1 m1 e1,Aa B2 m2 e2] w1 (b:=w1) rfl;have b2:Below w1 w1 (w1.alloc (.cells #[J U y.now,J U y.seq,Aa B1 m1 e1,Aa B2 m2 e2] 31)):=Bu;replace X:=X.below b2;replace RES:=RES.below b2;replace oy:=Bw.ow_below (F:=F) (x:=y) (s:=(⟨B1,m1,e1⟩,⟨B2,m2,e2⟩)) oy b2;replace B0:=Bv B0 b2;have ow1:=OB.lt;clear b2;generalize w1.alloc (.cells #[J U y.now,J U y.seq,Aa B1 m1 e1,Aa B2 m2 e2] 31)=w2 at *
 generalize cR:w1.heap.size=ob at *
 have X_:=X.g4;obtain ⟨OB_0,OB_1,OB_2,OB_3,OB_l⟩:=OB.g4;go_wp2_with fail
 refine (CA.out _ B0).mono ?_;rintro e1 w3 ⟨rfl,b3⟩;clear X_;clear OB_0 OB_1 OB_2 OB_3 OB_l;replace X:=X.below b3;replace OB:=OB.below b3;replace RES:=RES.below b3;replace oy:Bw.ow w3 F y (⟨B1,m1,e1⟩,⟨B2,m2,e2⟩):=owB oy b3;replace B0:=Bv B0 b3;clear b3;have X_:=X.g4;obtain ⟨OB_0,OB_1,OB_2,OB_3,OB_l⟩:=OB.g4;go_wp2_with fail
 refine (CY.out _ B0).mono ?_;rintro e1 w4 ⟨rfl,b4⟩;clear X_;clear OB_0 OB_1 OB_2 OB_3 OB_l;replace X:=X.below b4;replace OB:=OB.below b4;replace RES:=RES.below b4;replace oy:Bw.ow w4 F y (⟨B1,m1,e1⟩,⟨B2,m2,e2⟩):=owB oy b4;replace B0:=Bv B0 b4;clear b4;have X_:=X.g4;obtain ⟨OB_0,OB_1,OB_2,OB_3,OB_l⟩:=OB.g4;by_cases p0:Dk y;case neg =>
  rw [Cg p0];have H:=Br (show Iv y id=8 by unfold Iv;rw [if_pos p0]);exact Aii
 rw [Di p0];have P0:=Br p0;clear p0;by_cases p1:Dn y id<0;case pos =>
  have H:=Br (show Iv y id=10 by unfold Iv;rw [if_neg (fun h=>h P0.out),if_pos p1]);exact Aii
 rcases E9 y id with hr | ⟨k,hk,hr⟩
 ·exact absurd hr Bl
 have HK:=Br (Ha hk hr);have HR2:=Br hr;rw [hr];clear hr p1;have P1:=Br (show ¬ Dn y id<0 by have:=HR2.out;omega);have gJ:(k:Int)<(n2:Int):=by have:=RdL.at1 (s:=⟨A2,n2,c2⟩) (CX.out _ B0);dsimp only at this;omega
 have cE:(0:Int)<=(k:Int):=Bl;have hkn:¬ (k:Int)<0:=Bl;obtain ⟨gx,ox,_,rfl,kX,_,c0,c1_,c2_,c3_,c4_,c5_,c6,c7_⟩:=(CX.out _ B0).run hk;clear c0 c1_ c2_ c3_ c4_ c5_ c7_;by_cases p2:y.runs[k].state=1;case pos =>
  have q2:(y.runs[k].state == 1)=true:=by simp [p2]
  have H:=Br (show Iv y id=13 by unfold Iv;rw [if_neg (fun h=>h P0.out),if_neg P1.out,if_pos (by rw [HK.out];exact p2)]);clear p2;exact Aii
 have q2:(y.runs[k].state == 1)=false:=by simp [p2]
 have H:=Br (show Iv y id=0 by unfold Iv;rw [if_neg (fun h=>h P0.out),if_neg P1.out,if_neg (by rw [HK.out];exact p2)]);have H2:=Br (show Iw y id=⟨y.now,y.seq,y.shelf.map (Dj id),y.runs.take k ++ y.runs.drop (k+1)⟩ by unfold Iw;rw [if_pos H.out,HR2.out,Ao]);clear p2;go_upto_region 9 with fail
 obtain ⟨gr,orr,_,rfl,dN,_⟩:=RdL.run (show RdL Cf w4 w4.heap.size (Aa B2 m2 e2) y.runs from (Bw.ow_rd (F:=F) (x:=y) (s:=(⟨B1,m1,e1⟩,⟨B2,m2,e2⟩)) oy).2) hk;obtain ⟨rs,bK,cI,dH,hrd0,hcut⟩:=Ag3 oy hk;have rU:y.runs.length<=8:=P0.out.2.2.2.2.2.2.1;clear X_;clear X c6 q2 CC CY CA CX gJ;have gJ:(k:Int)<=(m2:Int):=Bl;have hkI1:(k:Int)+1<=(m2:Int):=Bl;have fC:(0:Int)<=(k:Int)+1:=Bl;have hke:k<=e2:=Bl;have hkeI:(k:Int)<=(e2:Int):=Bl;have hk1e:k+1<=e2:=Bl;have hk1eI:(k:Int)+1<=(e2:Int):=Bl;have wr1:U.wrap ((k:Int)+1)=(k:Int)+1:=Aq _ Bl;have tn1:((k:Int)+1).toNat=k+1:=Bl;have hob4:ob<w4:=OB.lt;replace dH:=Br dH;replace bK:=Br bK;replace hcut:=Br hcut;obtain ⟨j0,bX,jz0,jz1,jz2⟩:=info_parts Kn;have a0:=Br (show ∀ W,Below w4 w4 W->Rd Cf.enc W w4 (Aa (Ac ⟨gr,orr,Ab⟩) k e2) (rs.take k) from fun W hW=>(hrd0.take (by have:=bK.out;omega) e2 hke).below hW);have a1:=Br (show ∀ W,Below w4 w4 W->Rd Cf.enc W w4 (Aa (Ac ⟨gr,orr+(k+1) * 8,Ab⟩) (m2 - (k+1)) (e2 - (k+1))) (rs.drop (k+1)) from fun W hW=>by have h1:=(hrd0.fromL (k+1) (by have:=bK.out;omega)).below hW;rw [bK.out] at h1;exact h1);rcases (show k+1<e2\/e2=k+1 by omega) with hlast | hlast
 ·have hlast2:¬ e2=k+1:=Bl;go_wp2;have b5:Below w4 w4 w4.drew:=(Bs _ _).drew;have OB5:=DBox.drew4 OB;refine Dh (fun w'=>w'.cell? ⟨ob,3,Ab⟩=Ac (Aa (Ac ⟨gr,orr,Ab⟩) m2 e2)) 13 Bm ?_ (fun hHeld=>?_)
  ·exact OB_3
  refine aT 1 hHeld ?_;try simp only [pS]
  refine aT 2 hHeld ?_;try simp only [pS]
  refine aT 3 hHeld ?_;try simp only [pS]
  refine aT 4 hHeld ?_;try simp only [pS]
  refine aT 6 hHeld ?_;try simp only [pS]
  refine aT 7 hHeld ?_;try simp only [pS]
  refine aT 8 hHeld ?_;try simp only [pS]
  refine aT 9 hHeld ?_;try simp only [pS]
  refine aT 10 hHeld ?_;try simp only [pS]
  refine oT 0 (fun K hK=>?_)
  (go_simp;have b6:Below w4.drew w4.drew (w4.drew.alloc (.cells #[] 67)):=Bu;have o6:=Ow.empty Cf.enc 67 w4.drew (g:=w4) rfl;have B6:=Bv b5 b6;have OB6:=OB5.below b6;have nL:=b6.size)
  refine hK.out _ _ (fun _=>?_) ?_
  ·exact OB6.cell 3 _ rfl
  clear hK K;try simp only [pS]
  refine oT 5 (fun K hK=>?_)
  (refine Gs _ Cf.enc Bq (by rfl) (.tmp 34) (.tmp 38) (by rfl) underlying29 bX jz0 jz1 jz2 (by rfl) (base:=w4) (v:=Aa (Ac ⟨w4,0,Ab⟩) 0 0) (l:=[]) (by rfl) o6 (by rfl) (a0.out _ B6) Bo (by have:=bK.out;rw [Az];omega) Bq nL ?_;intro v7 w7 o7 gg7 f7;rw [List.nil_append] at o7;have B7:Below w4 w4 w7:=B6.grown gg7 B6.size (fun g hg=>by have:=Option.some.inj (show Ac w4.heap.size=Ac g from hg);omega);have OB7:=OB6.off gg7 (fun e=>by have:=Option.some.inj (show Ac ob=Ac w4.heap.size from e);omega);have hg7s:=gg7.size)
  refine hK.out _ _ (fun _=>?_) ?_
  ·exact OB7.cell 3 _ rfl
  clear hK K;try simp only [pS]
  refine oT 11 (fun K hK=>?_)
  (refine Gs _ Cf.enc Bq (by rfl) (.tmp 39) (.tmp 44) (by rfl) underlying29 bX jz0 jz1 jz2 (by rfl) (base:=w4) (v:=v7) (l:=rs.take k) (by rfl) o7 (by rfl) (a1.out _ B7) (by have:=bK.out;have:=dH.out;rw [Az];omega) (by have:=bK.out;have:=dH.out;rw [List.length_drop];omega) Bq B7.size ?_;intro v8 w8 o8 gg8 f8;have B8:Below w4 w4 w8:=B7.grown gg8 B7.size (fun g hg=>(o7.within g hg).1);have OB8:=OB7.off gg8 (fun e=>by have:=(o7.within _ e.symm).1;omega);obtain ⟨A9,c9,uT,-⟩:=_root_.id (Rd.of_own o8);generalize sY:(rs.take k ++ rs.drop (k+1)).length=n9 at uT;subst uT;replace sY:=Br sY;have q3:=OB8.cell 3 _ rfl;have qf:=OB8.free;have ql:=OB8.lt)
  refine hK.out _ _ (fun _=>?_) ?_
  ·exact q3
  clear hK K;try simp only [pS]
  refine oT 12 (fun K hK=>?_);go_simp;refine hK.out _ _ (fun _=>?_) ?_
  ·exact q3
  clear hK K;try simp only [pS]
  refine oT 13 (fun K hK=>?_);go_simp;refine hK.out _ _ (fun aC=>absurd rfl aC) ?_;clear hK K;try simp only [pS]
  refine Eh Bm ?_ _;obtain ⟨F8,oy8,kZ⟩:=hcut.out 67 w8 A9 n9 c9 B8 o8;have fD:∀ x∈F8,w+1<x/\x≠ob:=fun x hx=>by
   exact Ama
  have OB9:DBox ob [J U y.now,J U y.seq,Aa B1 m1 e1,Aa A9 n9 c9] (w8.setCell ⟨ob,3,Ab⟩ (Aa A9 n9 c9)):=OB8.set 3 Bo _;have RES9:=(RES.below B8).setOther (a:=⟨ob,3,Ab⟩) (by show w.heap.size+1≠ob;omega) (Aa A9 n9 c9);have oy9:Bw.ow (w8.setCell ⟨ob,3,Ab⟩ (Aa A9 n9 c9)) F8 ⟨y.now,y.seq,y.shelf,y.runs.take k ++ y.runs.drop (k+1)⟩ (⟨B1,m1,e1⟩,⟨A9,n9,c9⟩):=Bw.ow_set (F:=F8) (x:=⟨y.now,y.seq,y.shelf,y.runs.take k ++ y.runs.drop (k+1)⟩) (s:=(⟨B1,m1,e1⟩,⟨A9,n9,c9⟩)) oy8 (a:=⟨ob,3,Ab⟩) (fun hx=>(fD _ hx).2 rfl) _;have B9:Below w w (w8.setCell ⟨ob,3,Ab⟩ (Aa A9 n9 c9)):=Ad (Bv B0 B8) (by show w.heap.size<=ob;omega) _;have pW:ob<(w8.setCell ⟨ob,3,Ab⟩ (Aa A9 n9 c9)):=OB9.lt;have bZ:=Br (show m1=y.shelf.length from RdL.at1 (s:=⟨B1,m1,e1⟩) (Bw.ow_rd (F:=F8) (x:=⟨y.now,y.seq,y.shelf,y.runs.take k ++ y.runs.drop (k+1)⟩) oy9).1);have nH:=Br (show y.shelf.length=4 from P0.out.2.2.1);have jB:=Br (fun (i:Nat) (hi:i<y.shelf.length)=>(P0.out.2.2.2.1 _ (Aw hi)).1);obtain ⟨i0,aQ,aU,aS,aR⟩:=info_parts Gp;clear OB_0 OB_1 OB_2 OB_3 OB_l;clear OB RES OB8 oy8 o8 o7 OB7 OB6 o6 OB5 b5 b6 B6 B7 hHeld q3 qf ql gg7 gg8 f7 f8 kZ hrd0 a0 a1 hcut oy B8 nL hg7s;generalize y.runs.take k ++ y.runs.drop (k+1)=RR at *
  generalize w8.setCell ⟨ob,3,Ab⟩ (Aa A9 n9 c9)=w9 at *
  have OB9_:=OB9.g4;go_wp2;go_loopw [8,9,10] (fun iv u1 u2 wr=>∃ (i:Nat) (F:List Nat),i<=y.shelf.length/\iv = J U i/\Hid (Bw.ow wr F ⟨y.now,y.seq,(y.shelf.take i).map (Dj id) ++ y.shelf.drop i,RR⟩ (⟨B1,m1,e1⟩,⟨A9,n9,c9⟩))/\Hid (∀ x∈F,w+1<x/\x≠ob)/\DBox ob [J U y.now,J U y.seq,Aa B1 m1 e1,Aa A9 n9 c9] wr/\DBox (w+1) [J U 0,J U 0,Aa Ab 0 0,Aa Ab 0 0] wr/\Below w w wr/\ob<wr) (fun i _ _ _=>y.shelf.length - (intOf i).toNat);case atStart=>exact ⟨0,F8,Ag _,rfl,by show Bw.ow w9 F8 ⟨y.now,y.seq,(y.shelf.take 0).map (Dj id) ++ y.shelf.drop 0,RR⟩ (⟨B1,m1,e1⟩,⟨A9,n9,c9⟩);simpa using oy9,fD,OB9,RES9,B9,pW⟩
  case round =>
   exact Os
 ·subst hlast;have hlast3:(k:Int)<=(k:Int)+1:=Bl;have hm2k:m2 - (k+1)=0:=by have:=bK.out;omega
  replace hm2k:=Br hm2k;go_wp2;have b5:Below w4 w4 w4.drew:=(Bs _ _).drew;have OB5:=DBox.drew4 OB;refine Dh (fun w'=>w'.cell? ⟨ob,3,Ab⟩=Ac (Aa (Ac ⟨gr,orr,Ab⟩) m2 (k+1))) 13 Bm ?_ (fun hHeld=>?_)
  ·exact OB_3
  refine aT 1 hHeld ?_;try simp only [pS]
  refine aT 2 hHeld ?_;try simp only [pS]
  refine aT 3 hHeld ?_;try simp only [pS]
  refine aT 4 hHeld ?_;try simp only [pS]
  refine aT 6 hHeld ?_;try simp only [pS]
  refine aT 7 hHeld ?_;try simp only [pS]
  refine aT 8 hHeld ?_;try simp only [pS]
  refine aT 9 hHeld ?_;try simp only [pS]
  refine aT 10 hHeld ?_;try simp only [pS]
  refine oT 0 (fun K hK=>?_)
  (go_simp;have b6:Below w4.drew w4.drew (w4.drew.alloc (.cells #[] 67)):=Bu;have o6:=Ow.empty Cf.enc 67 w4.drew (g:=w4) rfl;have B6:=Bv b5 b6;have OB6:=OB5.below b6;have nL:=b6.size)
  refine hK.out _ _ (fun _=>?_) ?_
  ·exact OB6.cell 3 _ rfl
  clear hK K;try simp only [pS]
  refine oT 5 (fun K hK=>?_)
  (refine Gs _ Cf.enc Bq (by rfl) (.tmp 34) (.tmp 38) (by rfl) underlying29 bX jz0 jz1 jz2 (by rfl) (base:=w4) (v:=Aa (Ac ⟨w4,0,Ab⟩) 0 0) (l:=[]) (by rfl) o6 (by rfl) (a0.out _ B6) Bo (by have:=bK.out;rw [Az];omega) Bq nL ?_;intro v7 w7 o7 gg7 f7;rw [List.nil_append] at o7;have B7:Below w4 w4 w7:=B6.grown gg7 B6.size (fun g hg=>by have:=Option.some.inj (show Ac w4.heap.size=Ac g from hg);omega);have OB7:=OB6.off gg7 (fun e=>by have:=Option.some.inj (show Ac ob=Ac w4.heap.size from e);omega);have hg7s:=gg7.size)
  refine hK.out _ _ (fun _=>?_) ?_
  ·exact OB7.cell 3 _ rfl
  clear hK K;try simp only [pS]
  refine oT 11 (fun K hK=>?_)
  (refine Gs _ Cf.enc Bq (by rfl) (.tmp 39) (.tmp 44) (by rfl) underlying29 bX jz0 jz1 jz2 (by rfl) (base:=w4) (v:=v7) (l:=rs.take k) (by rfl) o7 (by rfl) (Rd.fromNone (B:=0) (k+1) (by have:=bK.out;have:=hm2k.out;omega) hm2k.out) (by have:=bK.out;have:=dH.out;rw [Az];omega) (by have:=bK.out;have:=dH.out;rw [List.length_drop];omega) Bq B7.size ?_;intro v8 w8 o8 gg8 f8;have B8:Below w4 w4 w8:=B7.grown gg8 B7.size (fun g hg=>(o7.within g hg).1);have OB8:=OB7.off gg8 (fun e=>by have:=(o7.within _ e.symm).1;omega);obtain ⟨A9,c9,uT,-⟩:=_root_.id (Rd.of_own o8);generalize sY:(rs.take k ++ rs.drop (k+1)).length=n9 at uT;subst uT;replace sY:=Br sY;have q3:=OB8.cell 3 _ rfl;have qf:=OB8.free;have ql:=OB8.lt)
  refine hK.out _ _ (fun _=>?_) ?_
  ·exact q3
  clear hK K;try simp only [pS]
  refine oT 12 (fun K hK=>?_);go_simp;refine hK.out _ _ (fun _=>?_) ?_
  ·exact q3
  clear hK K;try simp only [pS]
  refine oT 13 (fun K hK=>?_);go_simp;refine hK.out _ _ (fun aC=>absurd rfl aC) ?_;clear hK K;try simp only [pS]
  refine Eh Bm ?_ _;obtain ⟨F8,oy8,kZ⟩:=hcut.out 67 w8 A9 n9 c9 B8 o8;have fD:∀ x∈F8,w+1<x/\x≠ob:=fun x hx=>by
   exact Ama
  have OB9:DBox ob [J U y.now,J U y.seq,Aa B1 m1 e1,Aa A9 n9 c9] (w8.setCell ⟨ob,3,Ab⟩ (Aa A9 n9 c9)):=OB8.set 3 Bo _;have RES9:=(RES.below B8).setOther (a:=⟨ob,3,Ab⟩) (by show w.heap.size+1≠ob;omega) (Aa A9 n9 c9);have oy9:Bw.ow (w8.setCell ⟨ob,3,Ab⟩ (Aa A9 n9 c9)) F8 ⟨y.now,y.seq,y.shelf,y.runs.take k ++ y.runs.drop (k+1)⟩ (⟨B1,m1,e1⟩,⟨A9,n9,c9⟩):=Bw.ow_set (F:=F8) (x:=⟨y.now,y.seq,y.shelf,y.runs.take k ++ y.runs.drop (k+1)⟩) (s:=(⟨B1,m1,e1⟩,⟨A9,n9,c9⟩)) oy8 (a:=⟨ob,3,Ab⟩) (fun hx=>(fD _ hx).2 rfl) _;have B9:Below w w (w8.setCell ⟨ob,3,Ab⟩ (Aa A9 n9 c9)):=Ad (Bv B0 B8) (by show w.heap.size<=ob;omega) _;have pW:ob<(w8.setCell ⟨ob,3,Ab⟩ (Aa A9 n9 c9)):=OB9.lt;have bZ:=Br (show m1=y.shelf.length from RdL.at1 (s:=⟨B1,m1,e1⟩) (Bw.ow_rd (F:=F8) (x:=⟨y.now,y.seq,y.shelf,y.runs.take k ++ y.runs.drop (k+1)⟩) oy9).1);have nH:=Br (show y.shelf.length=4 from P0.out.2.2.1);have jB:=Br (fun (i:Nat) (hi:i<y.shelf.length)=>(P0.out.2.2.2.1 _ (Aw hi)).1);obtain ⟨i0,aQ,aU,aS,aR⟩:=info_parts Gp;clear OB_0 OB_1 OB_2 OB_3 OB_l;clear OB RES OB8 oy8 o8 o7 OB7 OB6 o6 OB5 b5 b6 B6 B7 hHeld q3 qf ql gg7 gg8 f7 f8 kZ hrd0 a0 a1 hcut oy B8 nL hg7s;generalize y.runs.take k ++ y.runs.drop (k+1)=RR at *
  generalize w8.setCell ⟨ob,3,Ab⟩ (Aa A9 n9 c9)=w9 at *
  have OB9_:=OB9.g4;go_wp2;go_loopw [8,9,10] (fun iv u1 u2 wr=>∃ (i:Nat) (F:List Nat),i<=y.shelf.length/\iv = J U i/\Hid (Bw.ow wr F ⟨y.now,y.seq,(y.shelf.take i).map (Dj id) ++ y.shelf.drop i,RR⟩ (⟨B1,m1,e1⟩,⟨A9,n9,c9⟩))/\Hid (∀ x∈F,w+1<x/\x≠ob)/\DBox ob [J U y.now,J U y.seq,Aa B1 m1 e1,Aa A9 n9 c9] wr/\DBox (w+1) [J U 0,J U 0,Aa Ab 0 0,Aa Ab 0 0] wr/\Below w w wr/\ob<wr) (fun i _ _ _=>y.shelf.length - (intOf i).toNat);case atStart=>exact ⟨0,F8,Ag _,rfl,by show Bw.ow w9 F8 ⟨y.now,y.seq,(y.shelf.take 0).map (Dj id) ++ y.shelf.drop 0,RR⟩ (⟨B1,m1,e1⟩,⟨A9,n9,c9⟩);simpa using oy9,fD,OB9,RES9,B9,pW⟩
  case round =>
   exact Os
end
end Go.Proofs.YtecnbnbopcblgaaGreat
