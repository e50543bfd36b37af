/-
  RunNew of the program. Written by program (irn.py).  change of the program: a run of a yard of one's own is changed, and the tasks that are ready by it are laid
-/
import Derived.Test.YtecnbnbopcblgaaGreatZAk0
import Derived.Test.YtecnbnbopcblgaaGreatZAk3
import Derived.Test.YtecnbnbopcblgaaGreatZAk6
import Derived.Test.YtecnbnbopcblgaaGreatZAk9
import Derived.Test.YtecnbnbopcblgaaGreatZAk10
import Derived.Test.YtecnbnbopcblgaaGreatZAk11
import Derived.Test.YtecnbnbopcblgaaGreatZAk12
import Derived.Test.YtecnbnbopcblgaaGreatZAk13
namespace Go.Proofs.YtecnbnbopcblgaaGreat
open Go.RowKit
set_option maxRecDepth 100000
set_option maxHeartbeats 4000000
set_option linter.unusedVariables false
set_option linter.unusedSimpArgs false
open Value renaming int->J,slice->Aa
open IntKind renaming i64->U
open Option renaming none->Ab,some->Ac
open Below renaming setCell->Ad
open Nat renaming zero_le->Ag,le_trans->Ah
open Go renaming bodyPost_ret->Aj,wpQuiet_nil->Ak
open Go.Proofs.Tryz renaming prog->Am
open Int renaming toNat_natCast->Ao
open IntWalk renaming i64_in->Aq
open List renaming length_map->Ar,nodup_append->Ax,length_take->Az,length_append->Bd,mem_append_right->Be,mem_append_left->Bf,take_of_length_le->Bg,mem_append->Bi
open Go.Proofs.Tryz
theorem Ai4 {p:Prop} (h:p:=by
 have H2:=Br (show Je y=y by unfold Je;rw [H.out,if_neg Bq]);have RES_:=RES.g4;have rf:=RES.free;go_wp2;have en1:w.heap.size+1∉F:=fun hx=>by have:=nF _ hx;omega
 refine Aj (Wk (DBox.row4 RES rfl _ _ _ _)) rfl ⟨(⟨B1,m1,e1⟩,⟨B2,m2,e2⟩),F,by rw [H.out,H2.out],by rw [H2.out];exact (by (repeat (refine Dt.ow_set Bw ?_ en1 _));exact (show Bw.ow _ F y (⟨B1,m1,e1⟩,⟨B2,m2,e2⟩) from oy)),fun x hx=>by have:=nF x hx;omega,?_⟩;repeat (first | (with_reducible exact B0) | refine Ad ?_ Bp _)):p:=h
theorem Ak8 {p:Prop} (h:p:=by rw [if_pos p0] at q;cases q):p:=h
theorem Amb {p:Prop} (h:p:=by show Fo y (L.take (i+1))=_;unfold Fo;rw [Kv (fun z p=>Gr z p.1 p.2) y L i aA,<-hZ.out];rfl):p:=h
theorem Amf {p:Prop} (h:p:=by obtain ⟨b,o,_,hA,_⟩:=RdL.at_ ol.out.rd i (by rw [Ar];exact aA);exact ⟨b,o,hA⟩):p:=h
theorem Ami {p:Prop} (h:p:=by go_wp2;exact ⟨⟨n+1,v,fF,by go_num,rfl,by rw [S.out];exact mY,jR,X,R,aK⟩,clM⟩):p:=h
theorem Amm {p:Prop} (h:p:=by
 rcases n6 x hx with h | h | h
 ·exact .inl h
 ·exact .inr (nM x h)
 ·exact .inr Bl):p:=h
theorem Am7 {p:Prop} (h:p:=by
 rcases List.mem_cons.1 hx with e | hx
 ·omega
 ·have:=dB.out _ hx;omega):p:=h
theorem Acm {b:Nat} {w:World} {u0 u1 u2 u3 u4 u5 u6 u7 v5:Value} (X:DBox b [u0,u1,u2,u3,u4,u5,u6,u7] w) {v0 v1 v2 v3:Value} {rest:List Value} :
  (results Tryz.f202 (v0 :: v1 :: v2 :: v3 :: .pointer (Ac ⟨b,0,Ab⟩) :: v5 :: rest).toArray).run Am w = .ok (.tuple #[.agg #[u0,u1,u2,u3,u4,u5,u6,u7],v5]) w:=by
 have c0:=X.cell 0 _ rfl;have c1:=X.cell 1 _ rfl;have c2:=X.cell 2 _ rfl;have c3:=X.cell 3 _ rfl;have c4:=X.cell 4 _ rfl;have c5:=X.cell 5 _ rfl;have c6:=X.cell 6 _ rfl;have c7:=X.cell 7 _ rfl;simp [results,results202,go_sem,c0,c1,c2,c3,c4,c5,c6,c7]
theorem Wi (id:Int) (p:Plan) (s:Sl) (w:World) (hid:inB id 1 9999=true) (hf:Cr p=0) (h:Ce.rd w w p s) :
  Calls Am 202 #[J U id,Jo p s] w (Aex (Cl id p) w):=by
 have kA:=Dl.1 hf;have hT:=Er kA.1;have hE:=Fw kA.1;obtain ⟨A,n,c⟩:=s;obtain rfl:n=p.edges.length:=RdL.at1 (s:=⟨A,n,c⟩) h;have rP:=Br (fun W (hW:Below w w W)=>((I2 h).below hW).more hW.size);have CP:=Br (fun W (hW:Below w w W)=>Nd p ⟨A,p.edges.length,c⟩ W (by unfold Ec;rw [Fh (cnt:=Ei) (fun _=>rfl)];omega) (Ce.rd_more (Ce.rd_below h hW) hW.size));have CF:=Br (fun W (hW:Below w w W)=>Hz p (Aa A p.edges.length c) W Bl (rP.out W hW));have CB:=Br (fun W (hW:Below w w W) t=>On p (Aa A p.edges.length c) t W hf (rP.out W hW));rw [hf] at CF;obtain ⟨i0,aQ,aU,aS,aR⟩:=info_parts Pi;clear h kA hE hf;have X:=(DBox.new 43 [J U p.prio,J U p.most,J U p.wait,J U p.tasks,Aa A p.edges.length c] w (b:=w) rfl).below ((Bs _ _).alloc (Bt _) (.cells #[J U 0,J U 0,J U 0,J U 0,J U 0,Aa Ab 0 0,J U 0,Aa Ab 0 0] 67));have RES:=DBox.new 67 [J U 0,J U 0,J U 0,J U 0,J U 0,Aa Ab 0 0,J U 0,Aa Ab 0 0] (w.alloc (.cells #[J U p.prio,J U p.most,J U p.wait,J U p.tasks,Aa A p.edges.length c] 43)) (b:=w+1) Bo;have B0:Below w w ((w.alloc (.cells #[J U p.prio,J U p.most,J U p.wait,J U p.tasks,Aa A p.edges.length c] 43)).alloc (.cells #[J U 0,J U 0,J U 0,J U 0,J U 0,Aa Ab 0 0,J U 0,Aa Ab 0 0] 67)):=by repeat (first | exact Bs _ _ | refine Below.alloc ?_ Bp _)
 go_enter func202,ntmps202;go_wp2_with (go_at_call 72;refine (Cm _ _ _ _).mono ?_;rintro e w9 ⟨rfl,rfl⟩;rw [hid])
 generalize ((w.alloc (.cells #[J U p.prio,J U p.most,J U p.wait,J U p.tasks,Aa A p.edges.length c] 43)).alloc (.cells #[J U 0,J U 0,J U 0,J U 0,J U 0,Aa Ab 0 0,J U 0,Aa Ab 0 0] 67))=W at *
 refine (CF.out _ B0).mono ?_;rintro e1 w1 ⟨rfl,b1⟩;have eC:=RES.lt;replace X:=X.below b1;replace RES:=RES.below b1;obtain ⟨X_0,X_1,X_2,X_3,X_4,X_l⟩:=X.g5;have B1:=Bv B0 b1;have bE:=b1.size;clear B0 b1;go_wp2_with fail
 refine (CP.out _ B1).mono ?_;rintro e1 w2 ⟨⟨A3,n3,c3⟩,F,rfl,op,nF,b2⟩;clear X_0 X_1 X_2 X_3 X_4 X_l;replace X:=X.below b2;replace RES:=RES.below b2;have B2:=Bv B1 b2;have eB:=b2.size;have cS:=Ce.ow_lt op;clear B1 b2 CP CF;obtain ⟨X_0,X_1,X_2,X_3,X_4,X_l⟩:=X.g5;go_upto_region 4 with fail
 have RB:=DBox.new 67 [J U id,J U p.prio,J U p.most,J U p.wait,J U p.tasks,Aa A3 n3 c3,J U 1,Aa Ab 0 0] w2 (b:=w2) rfl;have b3:Below w2 w2 (w2.alloc (.cells #[J U id,J U p.prio,J U p.most,J U p.wait,J U p.tasks,Aa A3 n3 c3,J U 1,Aa Ab 0 0] 67)):=Bu;clear X_0 X_1 X_2 X_3 X_4 X_l;replace X:=X.below b3;replace RES:=RES.below b3;replace op:=Ce.ow_below op b3;have B3:=Bv B2 b3;have kT:=b3.size;have hRB:=RB.lt;generalize w2.alloc (.cells #[J U id,J U p.prio,J U p.most,J U p.wait,J U p.tasks,Aa A3 n3 c3,J U 1,Aa Ab 0 0] 67)=w3 at *
 generalize vQ:w2.heap.size=rb at *
 have cA:∀ x∈F,w+1<x/\x<rb:=fun x hx=>⟨by have:=nF x hx;omega,cS x hx⟩
 clear cS nF B2 b3;obtain ⟨T,tH⟩:∃ T:Nat,p.tasks=T:=⟨p.tasks.toNat,Bl⟩
 have nE:=Br tH;have qY:=Br (show p.tasks.toNat=T by omega);have fR:T<=12:=Bl;clear tH;have hH:Hid (Cl id p=⟨id,p,1,(List.range T).map (Eu p)⟩):=by
  show Cl id p=_;unfold Cl;rw [qY.out]
 go_wp2;go_loopw [7] (fun i wr=>∃ (k:Nat) (vt:Value),k<=T/\i = J U k/\Hid (Ow Ge 203 wr (rb+1) vt ((List.range k).map (Eu p)))/\DBox w [J U p.prio,J U p.most,J U p.wait,J U p.tasks,Aa A p.edges.length c] wr/\DBox (w+1) [J U 0,J U 0,J U 0,J U 0,J U 0,Aa Ab 0 0,J U 0,Aa Ab 0 0] wr/\DBox rb [J U id,J U p.prio,J U p.most,J U p.wait,J U p.tasks,Aa A3 n3 c3,J U 1,vt] wr/\Hid (Ce.ow wr F p ⟨A3,n3,c3⟩)/\Below w w wr/\rb<wr) (fun i _=>T - (intOf i).toNat);case atStart=>exact ⟨0,_,Ag _,rfl,Ow.nil Ge 203 w3 (rb+1),X,RES,RB,op,B3,hRB⟩
 case round =>
  clear X RES RB op B3;obtain ⟨k,vt,hk,rfl,ho,X,RES,RB,op,hb,bK⟩:=hrel;obtain ⟨X_0,X_1,X_2,X_3,X_4,X_l⟩:=X.g5;obtain ⟨RB_0,RB_1,RB_2,RB_3,RB_4,RB_5,RB_6,RB_7,RB_l⟩:=RB.g8;by_cases aA:k<T
  ·exact Af
  ·have aB:¬ (k:Int)<p.tasks:=by have:=nE.out;omega
   have hkT:k=T:=Bl;subst hkT;have rf:=RES.free;have RES_0:=RES.cell 0 _ rfl;have RES_1:=RES.cell 1 _ rfl;have RES_2:=RES.cell 2 _ rfl;have RES_3:=RES.cell 3 _ rfl;have RES_4:=RES.cell 4 _ rfl;have RES_5:=RES.cell 5 _ rfl;have RES_6:=RES.cell 6 _ rfl;have RES_7:=RES.cell 7 _ rfl;have ho1:=ho.out;obtain ⟨⟨ta,tn,tc⟩,Ft,rfl,ot,nt⟩:=Uc ho1;go_wp2;have e1:w.heap.size+1∉F:=fun hx=>by have:=cA _ hx;omega
   have e2:w.heap.size+1∉Ft:=fun hx=>by have:=nt _ hx;omega
   refine Aj (Acm (DBox.row8 RES rfl _ _ _ _ _ _ _ _)) rfl ⟨(⟨A3,n3,c3⟩,⟨ta,tn,tc⟩),F ++ Ft,by rw [hH.out],⟨F,Ft,rfl,?_,?_,?_⟩,?_,?_⟩
   ·exact Alw
   ·exact Al5
   ·exact Ajk
   ·intro x hx;rcases Bi.1 hx with hx | hx
    ·have:=cA x hx;omega
    ·have:=nt x hx;have:=bE;omega
   ·repeat (first | (with_reducible exact hb) | refine Ad ?_ Bp _)
theorem Ow.rdHi {α:Type} {e:Enc α} {E:TypeId} {w w':World} {base:Nat} {v:Value} {l:List α} {F:List Nat} (o:Ow e E w base v l) (hC:Chg F w w') (hF:∀ x∈F,x<base\/w<=x):Rd e w' w' v l :=
 (Rd.of_own o).keepF hC.size (fun b hb ob=>by
  have h1:=o.within b (H9 _ _ _ hb);exact hC.cell (p:=⟨b,ob,Ab⟩) h1.2 (fun hx=>by have:=hF b hx;omega))
theorem Ro (was r:Run):Oe was r r.tasks.length=(Ia r.tasks 2).filter (fun t=>!decide (t∈Ia was.tasks 2)):=by
 unfold Oe Ia Hg;rw [List.filter_filter];apply List.filter_congr;intro t ht;have hm:t∈(List.range was.tasks.length).filter (fun t=>(was.tasks.getD t ⟨0,0,0,0⟩).state == 2) ↔ (Cv was t).state=2:=by
  rw [List.mem_filter,List.mem_range];show (t<was.tasks.length/\((Cv was t).state == 2)=true) ↔ _;constructor
  ·intro h;simpa using h.2
  ·intro h;refine ⟨?_,by simpa using h⟩;apply Decidable.byContradiction;intro hn;unfold Cv at h;rw [List.getD_eq_getElem?_getD,List.getElem?_eq_none Bl] at h;cases h
 show ((Cv r t).state == 2 && !((Cv was t).state == 2))=(!decide _ && ((Cv r t).state == 2))
 rw [decide_eq_decide.2 hm,Bool.and_comm];rfl
theorem Acn (y:Yard) (k:Nat) (r:Run) (hk:k<y.runs.length):Gn y k r=Ke ⟨y.now,y.seq,y.shelf,y.runs.set k r⟩ r ((Ia r.tasks 2).filter (fun t=>!decide (t∈Ia y.runs[k].tasks 2))):=by
 rw [<-Ro];unfold Gn Ny Ke;rw [List.getD_eq_getElem?_getD,List.getElem?_eq_getElem hk];rfl
def Wj (z:Yard) (s:Sl×Sl) (b:Nat) (F:List Nat) (w:World) (e:Ending) (w':World):Prop :=
 e = .returned (.tuple #[]) /\ ∃ F',DBox b (Ht z s) w'/\Bw.ow w' F' z s/\(∀ x∈F',x∈F\/w<=x)/\Chg (b :: F) w w'
theorem Kg (FN p:Nat) (hF:∀ (args:Array Value) (w:World),(callFunc FN args).run Am w = .ok (.enter FN args) w) (y:Yard) (b:Nat) (s:Sl×Sl) (F:List Nat) (k:Nat) (r:Run) (w:World) (h4:y.shelf.length=4) (hM:∀ s∈y.shelf,s.length<=90000) (hq:0<=y.seq/\y.seq<=1900000000)
  (hk:k<y.runs.length) (hT:r.tasks.length<=1000) (rV:y.runs[k].tasks.length<=1000) (hY:DBox b (Ht y s) w) (hy:Bw.ow w F y s) (dA:b∉F)
  (HOW:Hid (∀ (W:World) gr o n c rs G1 Fx G2 sr,Below w w W->Foc Cf W gr o n c rs k G1 Fx G2 y.runs[k] sr->Calls Am FN #[.pointer (Ac ⟨gr,o+k * 8,Ab⟩),.pointer (Ac ⟨p,0,Ab⟩)] W (Im gr o n c rs k G1 Fx G2 r sr W))) :
  Calls Am 210 #[.pointer (Ac ⟨b,0,Ab⟩),J U k,.func (.func FN) #[] #[.pointer (Ac ⟨p,0,Ab⟩)]] w (Wj (Gn y k r) s b F w):=by
 have hTS:=Br (Acn y k r hk);obtain ⟨F1,F2,rfl,bP,os,orr⟩:=hy;obtain ⟨⟨sa,sn,sc⟩,⟨ra,rn,rc⟩⟩:=s;replace os:OwL (Dt.list By) w F1 (Aa sa sn sc) y.shelf:=os;replace orr:OwL Cf w F2 (Aa ra rn rc) y.runs:=orr;obtain rfl:sn=y.shelf.length:=RdL.at1 (s:=⟨sa,sn,sc⟩) os.rd;obtain rfl:rn=y.runs.length:=RdL.at1 (s:=⟨ra,rn,rc⟩) orr.rd;obtain ⟨g,o',_,rfl,gD,_,_⟩:=os.rd.entryS (k:=0) (by omega);have eY:=os.block_mem Bl;obtain ⟨gr,o,rs,sr,G1,Fx,G2,hAe,rN,hm,F0_⟩:=orr.foc hk;obtain rfl:ra=_:=hAe;have hF2m:=Br (show ∀ x∈gr :: Fx,x∈F2 from fun x hx=>by rw [rN];rcases List.mem_cons.1 hx with h | h<;>simp [h]);have eK:=Br (show ∀ x∈F1,x∉F2 from fun x h1 h2=>(Ax.1 bP).2.2 x h1 x h2 rfl);have aA:=Br (show ∀ x∈F1 ++ F2,x<w from fun x hx=>by rcases Bi.1 hx with h | h;exact os.lt x h;exact orr.lt x h);have gJ:(k:Int)<(y.runs.length:Int):=Bl;have cE:(0:Int)<=(k:Int):=Bl;have mX:=hY.lt;have CT:=Br (Ip y.runs[k] sr 2 w Bl (Cf.ow_rd F0_.here));obtain ⟨y0,y1,y2,y3,-⟩:=hY.g4;obtain ⟨c0,c1,c2,c3,c4,c5,c6,c7⟩:=F0_.run;have qG:=F0_.blk;generalize dI:y.runs[k]=rk at *
 go_enter func210,ntmps210;go_wp2_with fail
 refine CT.out.mono ?_;rintro e w1 ⟨v1,rfl,ov1,b1⟩;obtain ⟨A1,cv1,rfl,-⟩:=_root_.id (Rd.of_own ov1);clear y0 y1 y2 y3 c0 c1 c2 c3 c4 c5 c6 c7 CT;have F1_:Foc Cf w1 gr o y.runs.length rc rs k G1 Fx G2 rk sr:=F0_.sub (Chg.of_below _ b1) (Cf.ow_below F0_.here b1) rfl;replace os:=os.below b1;replace hY:=hY.below b1;obtain ⟨y0,y1,y2,y3,-⟩:=hY.g4;have pF:=F1_.blk;have aS:=b1.size;go_wp2_with fail
 refine (HOW.out w1 gr o y.runs.length rc rs G1 Fx G2 sr b1 F1_).mono ?_;rintro e w2 ⟨rfl,F2_,hC⟩;have rv1:=ov1.rdHi hC (fun x hx=>.inl (aA.out x (Be _ (hF2m.out x hx))));replace os:=os.chg hC (fun x hx hx2=>eK.out x hx (hF2m.out x hx2));replace hY:=hY.chg hC (fun hx=>dA (Be _ (hF2m.out _ hx)));have jQ:Chg (b :: (F1 ++ F2)) w w2:=(Chg.of_below _ b1).trans (hC.mono (fun x hx=>List.mem_cons_of_mem _ (Be _ (hF2m.out x hx))));have aR:=hC.size;clear y0 y1 y2 y3 F1_ hC ov1 F0_ orr;obtain ⟨y0,y1,y2,y3,-⟩:=hY.g4;obtain ⟨c0,c1,c2,c3,c4,c5,c6,c7⟩:=F2_.run;have jM:=F2_.blk;have CT2:=Br (Ip r sr 2 w2 Bl (Cf.ow_rd F2_.here));go_wp2_with fail
 refine CT2.out.mono ?_;rintro e w3 ⟨v3,rfl,ov3,b3⟩;obtain ⟨A3,cv3,rfl,-⟩:=_root_.id (Rd.of_own ov3);clear y0 y1 y2 y3 c0 c1 c2 c3 c4 c5 c6 c7 CT2;have F3_:Foc Cf w3 gr o y.runs.length rc rs k G1 Fx G2 r sr:=F2_.sub (Chg.of_below _ b3) (Cf.ow_below F2_.here b3) rfl;replace os:=os.below b3;replace hY:=hY.below b3;have rv3:=Rd.of_own ov3;replace rv1:=(rv1.below b3).more b3.size;have eA:=jQ.trans (Chg.of_below (b :: (F1 ++ F2)) b3);have sE:=b3.size;clear F2_ jQ ov3 b3;have hL2:(Ia r.tasks 2).length<=1000:=Ah (Li _ _ _) hT;have tT:(Ia rk.tasks 2).length<=1000:=Ah (Li _ _ _) rV;obtain ⟨j0,bX,jz0,jz1,jz2⟩:=info_parts Sg;generalize Ia rk.tasks 2=L0 at *
 generalize Ia r.tasks 2=L2 at *
 go_wp2;go_loopw [7,9,35] (fun x u i wr=>∃ (j:Nat) (v:Value),j<=L2.length/\v=x/\i = J U j/\Hid (Ow E0 3 wr w3 v ((L2.take j).filter fun t=>!decide (t∈L0)))/\Below w3 w3 wr) (fun _ _ i _=>L2.length - (intOf i).toNat);case atStart=>exact ⟨0,_,Ag _,rfl,rfl,Ow.nil _ _ _ _,Bs _ _⟩
 case round =>
  obtain ⟨j,v,hj,rfl,rfl,hO,hb⟩:=hrel;by_cases pZ:j<L2.length
  ·have jF:(j:Int)<(L2.length:Int):=Bl;obtain ⟨b9,o9,rfl,hb9,e0⟩:=(rv3.below hb).nat pZ;have cZ:=hb.size;have hb9w:b9<wr:=Bl;have hS:=Br (show (L2.take (j+1)).filter (fun t=>!decide (t∈L0))=(L2.take j).filter (fun t=>!decide (t∈L0)) ++ (if L2[j]∈L0 then [] else [L2[j]]) by
    rw [Cp L2 j pZ,List.filter_append];congr 1;by_cases hx:L2[j]∈L0<;>simp [hx])
   have aE:((L2.take j).filter fun t=>!decide (t∈L0)).length<=3000000:=Ah (List.length_filter_le _ _) (by rw [Az];omega);have CC:=Br (K9 (Aa A1 L0.length cv1) L0 L2[j] wr wr Bl ((rv1.below hb).more hb.size));generalize L2[j]=t at *
   generalize (L2.take j).filter (fun t=>!decide (t∈L0))=ML at *
   by_cases hx:t∈L0
   ·rw [decide_eq_true hx] at CC;rw [if_pos hx,List.append_nil] at hS;go_wp2_with fail
    refine CC.out.mono ?_;rintro e w5 ⟨rfl,rfl⟩;go_wp2;exact ⟨⟨j+1,v,Bl,rfl,by go_num,by rw [hS.out];exact hO,hb⟩,clM⟩
   ·rw [decide_eq_false hx] at CC;rw [if_neg hx] at hS;obtain ⟨A7,c7,hv7,-⟩:=_root_.id (Rd.of_own hO.out);generalize hn7:ML.length=n7 at hv7;subst hv7;replace hn7:=Br hn7;have ha:Below wr wr (wr.alloc (.cells #[J U (t:Int)] 3)):=Bu;have cM:=Br (show ∀ x,(Value.slice A7 n7 c7).ownBlock=Ac x->w3.heap.size<=x from fun x hx=>(hO.out.within x hx).1);go_wp2_with fail
    refine CC.out.mono ?_;rintro e w5 ⟨rfl,rfl⟩;go_wp2_with (at_builtin;refine Ci _ E0 Bq rfl (.tmp 43) (.tmp 45) rfl underlying26 bX jz0 jz1 jz2 rfl (base:=w3) (v:=Aa A7 n7 c7) (l:=ML) rfl (hO.out.below ha) rfl (Rd.one E0 _ _ t rfl rfl 1 (Bt _) (Nat.lt_succ_self _)) aE Bo Bq (by simp;omega) ?_;intro v6 w6 o6 g6 _)
    have hb6:Below w3 w3 w6:=(Bv hb ha).grown g6 (Bv hb ha).size (fun g hg=>by have:=cM.out g hg;omega);exact ⟨⟨j+1,v6,Bl,rfl,by go_num,by rw [hS.out];exact o6,hb6⟩,clM⟩
  ·have jF:¬ (j:Int)<(L2.length:Int):=Bl;have dC:=hO.out;rw [Bg Bl] at dC;have cS:(L2.filter fun t=>!decide (t∈L0)).length<=1000:=Ah (List.length_filter_le _ _) hL2;generalize L2.filter (fun t=>!decide (t∈L0))=FL at *
   obtain ⟨A7,c7,rfl,-⟩:=_root_.id (Rd.of_own dC);have F4_:Foc Cf wr gr o y.runs.length rc rs k G1 Fx G2 r sr:=F3_.sub (Chg.of_below _ hb) (Cf.ow_below F3_.here hb) rfl;replace os:=os.below hb;replace hY:=hY.below hb;obtain ⟨y0,y1,y2,y3,-⟩:=hY.g4;obtain ⟨c0,c1,c2,c3,c4,c5,c6,c7_⟩:=F4_.run;have hgr4:=F4_.blk;have eQ:=eA.trans (Chg.of_below (b :: (F1 ++ F2)) hb);have cZ:=hb.size;have hb1F:b∉F1:=fun h=>dA (Bf _ h);have CS:=Br (Qb ⟨y.now,y.seq,y.shelf,y.runs.set k r⟩ b g o' sc ⟨Ac ⟨gr,o,Ab⟩,y.runs.length,rc⟩ r sr FL A7 FL.length c7 wr F1 h4 (fun s hs=>by have:=hM s hs;omega) (by dsimp only;omega) cS hY os hb1F (Br fun W hW=>dC.rdHi hW (fun x hx=>by
    have hgw':g<w:=gD;have:x=b\/x=g:=by simpa using hx
    left;rcases this with rfl | rfl<;>omega)))
   rw [<-hTS.out] at CS;unfold Pk at CS;dsimp only at CS;clear hO dC F3_ eA;have aP:=Br (show (Gn y k r).runs=y.runs.set k r by rw [hTS.out];exact (V4 (y:=⟨y.now,y.seq,y.shelf,y.runs.set k r⟩) hM r FL).runs);generalize Gn y k r=Z at *
   go_wp2_with fail
   refine CS.out.mono ?_;rintro e w6 ⟨rfl,F1',os6,Y6,cF,tQ⟩;have cX:b∉([gr] ++ (G1 ++ (Fx ++ G2))):=fun h=>dA (Be _ (by rw [rN];exact h));have orr6:=(F4_.owl hm).chg tQ (fun x hx h=>by
    have:x=b\/x=g:=by simpa using h
    rcases this with rfl | rfl
    ·exact cX hx
    ·exact eK.out _ eY (by rw [rN];exact hx))
   rw [<-rN] at orr6;have gP:=eQ.trans (tQ.mono (fun x hx=>by
    have:x=b\/x=g:=by simpa using hx
    rcases this with rfl | rfl
    ·exact List.mem_cons_self ..
    ·exact List.mem_cons_of_mem _ (Bf _ eY)))
   have HF:=Br (show Wj Z (⟨Ac ⟨g,o',Ab⟩,y.shelf.length,sc⟩,⟨Ac ⟨gr,o,Ab⟩,y.runs.length,rc⟩) b (F1 ++ F2) w (.returned (.tuple #[])) w6 from
    ⟨rfl,F1' ++ F2,Y6,⟨F1',F2,rfl,by
     rw [Ax];refine ⟨os6.nodup,(Ax.1 bP).2.1,fun a ha c hc e=>?_⟩;subst e;rcases cF _ ha with h | h
     ·exact eK.out _ h hc
     ·have:=aA.out _ (Be _ hc);omega,os6,by show OwL Cf _ F2 _ Z.runs;rw [aP.out];exact orr6⟩,fun x hx=>by
     rcases Bi.1 hx with h | h
     ·rcases cF _ h with h | h
      ·exact .inl (Bf _ h)
      ·right;omega
     ·exact .inl (Be _ h),gP⟩)
   clear orr6 os6 Y6 cF tQ gP F4_;go_wp2;exact Aj (v:=.tuple #[]) (by simp [results,results210,go_sem]) rfl HF.out
section
open Classical in
noncomputable def Gr (z:Yard) (k t:Nat):Yard:=if (Cv (Hi z k) t).state=3 then Gn z k (Dp (Hi z k) t) else z
noncomputable def Fo (y:Yard) (l:List (Nat×Nat)):Yard:=l.foldl (fun z p=>Gr z p.1 p.2) y
theorem Lu {z:Yard} {k t:Nat} (h:¬ (Cv (Hi z k) t).state=3):Gr z k t=z:=if_neg h
theorem Kz {z:Yard} {k t:Nat} (h:(Cv (Hi z k) t).state=3):Gr z k t=Gn z k (Dp (Hi z k) t):=if_pos h
theorem Trn.fail {y z:Yard} {m:Nat} (h:Trn y m z) {k t:Nat} (hk:k<z.runs.length) (ht:t<z.runs[k].tasks.length):Trn y (m+1) (Gr z k t):=by
 by_cases q:(Cv (Hi z k) t).state=3
 ·rw [Kz q,E6 hk];rw [E6 hk] at q;exact h.step hk ⟨(h.run k hk (by rw [<-h.len];exact hk)).1,⟨Bl,Bl⟩,q⟩
 ·rw [Lu q];exact h.mono Bl
open Classical in
noncomputable def Jr (y:Yard):Int:=if ¬ Dk y then 8 else if 999999980<y.now+1 then 7 else 0
noncomputable def Aey (y:Yard):Yard:=Fo y (Gg y y.runs.length)
noncomputable def Je (y:Yard):Yard:=if Jr y=0 then ⟨(Aey y).now+1,(Aey y).seq,(Aey y).shelf,(Aey y).runs⟩ else y
theorem Si {y:Yard} {n:Nat} {p:Nat×Nat} (h:p∈Gg y n):p.1<n/\p.2<(Hi y p.1).tasks.length:=by
 unfold Gg at h;obtain ⟨j,hj,hp⟩:=List.mem_flatMap.1 h;unfold Jh at hp;obtain ⟨t,ht,rfl⟩:=List.mem_map.1 hp;exact ⟨List.mem_range.1 hj,List.mem_range.1 (List.mem_filter.1 ht).1⟩
theorem N6 {w:World} {F:List Nat} {b o n c:Nat} {rows:List (List Int)} (h:OwL (Dt.flats Iz) w F (Aa (Ac ⟨b,o,Ab⟩) n c) rows) {i:Nat} (hi:i<rows.length) {x y z:Int} (hr:rows[i]=[x,y,z]) :
  ∃ g p cc,b∈F/\g∈F/\w.cell? ⟨b,o+i,Ab⟩=Ac (Aa (Ac ⟨g,p,Ab⟩) 3 cc)/\w.cell? ⟨g,p,Ab⟩=Ac (J U x)/\w.cell? ⟨g,p+1,Ab⟩=Ac (J U y)/\w.cell? ⟨g,p+2,Ab⟩=Ac (J U z):=by
 obtain ⟨s,Fx,hx,bI,_,hb,_,hc⟩:=h.elem hi;rw [hr] at hx;have dR:Hw Iz w Fx (Aa s.a s.n s.c) [x,y,z]:=hx;obtain ⟨g,p,tE,jW,_,_⟩:=dR.at_ Bo;obtain ⟨A',c',hv,_,hA⟩:=dR.rd;simp only [Value.slice.injEq] at hv;obtain ⟨h1,h2,h3⟩:=hv;obtain ⟨g',p',bU,_,aL⟩:=hA Bo;rw [<-h1,tE] at bU;simp only [Option.some.injEq,Addr.mk.injEq,and_true] at bU;obtain ⟨rfl,rfl⟩:=bU;refine ⟨g,p,s.c,hb,bI _ (by rw [jW];simp),?_,?_,?_,?_⟩
 ·have:=hc 0 (Aa s.a s.n s.c) rfl
  rw [show o+i * (Dt.flats Iz).enc.sz+0=o+i from by show o+i * 1+0=o+i;omega,tE,h2] at this;exact this
 ·exact aL 0 Bo 0 _ rfl
 ·exact aL 1 Bo 0 _ rfl
 ·exact aL 2 Bo 0 _ rfl
theorem Wk {b:Nat} {w:World} {u0 u1 u2 u3:Value} (X:DBox b [u0,u1,u2,u3] w) {v0 v1 v3:Value} {rest:List Value} :
  (results Tryz.f168 (v0 :: v1 :: .pointer (Ac ⟨b,0,Ab⟩) :: v3 :: rest).toArray).run Am w = .ok (.tuple #[.agg #[u0,u1,u2,u3],v3]) w:=by
 have c0:=X.cell 0 _ rfl;have c1:=X.cell 1 _ rfl;have c2:=X.cell 2 _ rfl;have c3:=X.cell 3 _ rfl;simp [results,results168,go_sem,c0,c1,c2,c3]
theorem Aaf (y:Yard) (s:Sl×Sl) (w:World) (hl:Ca y<=2000000) (h:Bw.rd w w y s) :
  Calls Am 168 #[Ds y s] w (Is (Je y) (Jr y) w):=by
 have HR:=Br (show ∀ W,Below w w W->Bw.rd W W y s from fun W hW=>Bw.rd_more (Bw.rd_below h hW) hW.size);obtain ⟨⟨A1,n1,c1⟩,⟨A2,n2,c2⟩⟩:=s;have CC:=Br (fun W hW=>E1 y (⟨A1,n1,c1⟩,⟨A2,n2,c2⟩) W hl (HR.out W hW));have CY:=Br (fun W hW=>Gl y (⟨A1,n1,c1⟩,⟨A2,n2,c2⟩) W hl (HR.out W hW));clear h;obtain ⟨W,aH,X,RES,B0⟩:=bx2 w 31 [J U y.now,J U y.seq,Aa A1 n1 c1,Aa A2 n2 c2] 31 [J U 0,J U 0,Aa Ab 0 0,Aa Ab 0 0];go_enter func168,ntmps168;go_wp2_with fail
 rw [<-aH.out];clear aH;have eC:w.heap.size+1<W.heap.size:=RES.lt;refine (CC.out _ B0).mono ?_;rintro e1 w1 ⟨⟨⟨B1,m1,e1⟩,⟨B2,m2,e2⟩⟩,F,rfl,oy,nF,b1⟩;have bE:=b1.size;have cS:=Bw.ow_lt (F:=F) (x:=y) (s:=(⟨B1,m1,e1⟩,⟨B2,m2,e2⟩)) oy;replace X:=X.below b1;replace RES:=RES.below b1;replace B0:=Bv B0 b1;clear b1;go_upto_region 2 with fail
 have OB:=DBox.new 31 [J U y.now,J U y.seq,Aa B1 m1 e1,Aa B2 m2 e2] w1 (b:=w1) rfl;have b2:Below w1 w1 (w1.alloc (.cells #[J U y.now,J U y.seq,Aa B1 m1 e1,Aa B2 m2 e2] 31)):=Bu;replace X:=X.below b2;replace RES:=RES.below b2;replace oy:=Bw.ow_below (F:=F) (x:=y) (s:=(⟨B1,m1,e1⟩,⟨B2,m2,e2⟩)) oy b2;replace B0:=Bv B0 b2;have ow1:=OB.lt;clear b2;generalize w1.alloc (.cells #[J U y.now,J U y.seq,Aa B1 m1 e1,Aa B2 m2 e2] 31)=w2 at *
 generalize cR:w1.heap.size=ob at *
 have X_:=X.g4;obtain ⟨OB_0,OB_1,OB_2,OB_3,OB_l⟩:=OB.g4;go_wp2_with fail
 refine (CY.out _ B0).mono ?_;rintro e1 w3 ⟨rfl,b3⟩;clear X_;clear OB_0 OB_1 OB_2 OB_3 OB_l;replace X:=X.below b3;replace OB:=OB.below b3;replace RES:=RES.below b3;replace oy:Bw.ow w3 F y (⟨B1,m1,e1⟩,⟨B2,m2,e2⟩):=owB oy b3;replace B0:=Bv B0 b3;clear b3;have X_:=X.g4;obtain ⟨OB_0,OB_1,OB_2,OB_3,OB_l⟩:=OB.g4;by_cases p0:Dk y;case neg =>
  rw [Cg p0];have H:=Br (show Jr y=8 by unfold Jr;rw [if_pos p0]);exact Ai4
 rw [Di p0];have P0:=Br p0;have gT:=p0.1;clear p0;have wr1:U.wrap (y.now+1)=y.now+1:=Aq _ Bl;by_cases p1:999999980<y.now+1;case pos =>
  have H:=Br (show Jr y=7 by unfold Jr;rw [if_neg (fun h=>h P0.out),if_pos p1]);exact Ai4
 have H:=Br (show Jr y=0 by unfold Jr;rw [if_neg (fun h=>h P0.out),if_neg p1]);have H2:=Br (show Je y=⟨(Fo y (Gg y y.runs.length)).now+1,(Fo y (Gg y y.runs.length)).seq,(Fo y (Gg y y.runs.length)).shelf,(Fo y (Gg y y.runs.length)).runs⟩ by unfold Je;rw [if_pos H.out];rfl);have CL:=Br (fun W hW=>Aae y (⟨A1,n1,c1⟩,⟨A2,n2,c2⟩) W hl P0.out (HR.out W hW));clear HR CC CY;go_wp2_with fail
 refine (CL.out _ B0).mono ?_;rintro e1 w4 ⟨⟨A9,n9,c9⟩,Fl,he,ol,nl,b4⟩;replace he:e1 = .returned (Aa A9 n9 c9):=he;subst he;clear X_;clear OB_0 OB_1 OB_2 OB_3 OB_l;clear X CL;have hB3:=B0.size;have gQ:ob<w3:=OB.lt;have pB:=ol.lt;replace OB:=OB.below b4;replace RES:=RES.below b4;replace oy:Bw.ow w4 F y (⟨B1,m1,e1⟩,⟨B2,m2,e2⟩):=owB oy b4;replace B0:=Bv B0 b4;have gF:Hid ((∀ x∈F,w+1<x)/\ob∉F /\ ∀ x∈Fl,x∉F):=⟨fun x hx=>by have:=nF x hx;omega,fun hx=>by have:=cS _ hx;omega,fun x hx bI=>by have h1:w3<=x:=nl x hx;have h2:=cS x bI;omega⟩
 have hFln:∀ x∈Fl,w3<=x:=nl;have hmemL:=Br (fun p (hp:p∈Gg y y.runs.length)=>Si hp);have fK:w.heap.size+1<w3.heap.size:=Bl;have hw34:w3.heap.size<=w4.heap.size:=b4.size;clear nF nl b4;have hLs:=Br (show (Gg y y.runs.length).length<=96 by have h1:=Lt (Nk P0.out) y.runs.length;have h2:=P0.out.2.2.2.2.2.2.1;omega);generalize Gg y y.runs.length=L at *
 obtain rfl:n9=L.length:=by have:=RdL.at1 (s:=⟨A9,n9,c9⟩) ol.rd;rw [Ar] at this;exact this
 go_wp2;go_loopw [6,7] (fun iv u wr=>∃ (i:Nat) (Z:Yard) (s:Sl×Sl) (F:List Nat),i<=L.length/\iv = J U i/\Hid (Trn y i Z)/\Hid (Fo y (L.take i)=Z)/\Hid (Bw.ow wr F Z s)/\Hid ((∀ x∈F,w+1<x)/\ob∉F /\ ∀ x∈Fl,x∉F)/\Hid (OwL (Dt.flats Iz) wr Fl (Aa A9 L.length c9) (L.map (I5 y)))/\DBox ob (Ht Z s) wr/\DBox (w+1) [J U 0,J U 0,Aa Ab 0 0,Aa Ab 0 0] wr/\Below w w wr/\w4.heap.size<=wr.heap.size) (fun i _ _=>L.length - (intOf i).toNat);case atStart=>exact ⟨0,y,(⟨B1,m1,e1⟩,⟨B2,m2,e2⟩),F,Ag _,rfl,Trn.start P0.out,rfl,oy,gF,ol,OB,RES,B0,Bt _⟩
 case round =>
  clear oy gF ol OB RES B0 cS pB;obtain ⟨i,Z,s,F,hi,rfl,hT,hZ,oy,hF,ol,OB,RES,hb,mK⟩:=hrel;obtain ⟨⟨B1,m1,e1⟩,⟨B2,m2,e2⟩⟩:=s;replace oy:Bw.ow wr F Z (⟨B1,m1,e1⟩,⟨B2,m2,e2⟩):=oy.out;have bR:∀ x∈F,x<wr:=Bw.ow_lt (F:=F) (x:=Z) (s:=(⟨B1,m1,e1⟩,⟨B2,m2,e2⟩)) oy;have bS:=hLs.out;obtain ⟨OB_0,OB_1,OB_2,OB_3,OB_l⟩:=OB.g4;by_cases aA:i<L.length
  ·have aB:(i:Int)<(L.length:Int):=Bl;have aQ:(0:Int)<=(i:Int):=Bl;have hp:=hmemL.out _ (List.getElem_mem aA);have aF:Hid (Fo y (L.take (i+1))=Gr Z L[i].1 L[i].2):=Amb
   have cM:(L.map (I5 y))[i]'(by rw [Ar];exact aA)=[(Hi y L[i].1).id,(L[i].2:Int),(Cv (Hi y L[i].1) L[i].2).try_]:=by
    rw [List.getElem_map];rfl
   generalize L[i]=p at *
   obtain ⟨k,t⟩:=p;dsimp only at hp aF cM;have qS:k<y.runs.length:=hp.1;have eD:k<Z.runs.length:=by rw [hT.out.len];exact qS
   rw [E6 qS] at hp cM;have gA:=hT.out.run k eD qS;have kD:t<Z.runs[k].tasks.length:=by rw [gA.2.2];exact hp.2
   have gV:=Br (show Dn Z y.runs[k].id=k from (hT.out.runAt _).trans (P0.out.2.2.2.2.2.2.2.1 k qS).2);have tL:=hT.out.cnt Bl;have hN:=hT.out.fail eD kD;replace cM:=Br cM;have hbln:∀ z∈Fl,z∉F:=hF.out.2.2;obtain ⟨bl,lo,rfl⟩:∃ b o,A9=Ac ⟨b,o,Ab⟩:=Amf
   obtain ⟨gl,pl,cl,jC,gC,l0,l1,l2,-⟩:=N6 ol.out (i:=i) (by rw [Ar];exact aA) cM.out;have mH:=ol.out.lt _ jC;have cH:=ol.out.lt _ gC;have oyr:=(Bw.ow_rd (F:=F) (x:=Z) (s:=(⟨B1,m1,e1⟩,⟨B2,m2,e2⟩)) oy)
   have CA:=Br (fun W (hW:Below wr wr W)=>Fi Z (⟨B1,m1,e1⟩,⟨B2,m2,e2⟩) y.runs[k].id W tL (Bw.rd_more (Bw.rd_below (x:=Z) (s:=(⟨B1,m1,e1⟩,⟨B2,m2,e2⟩)) oyr hW) hW.size));clear oyr;have aM:=Cw wr;go_wp2;refine Bz Bm Bm ?_;repeat (go_big_quiet_step ((go_at_call 153;rename_i x;have h1:=CA.out x.1 x.2;rw [gV.out] at h1;exact Fu h1)))
   refine Ak ?_;rintro w5 ⟨⟨_,b5⟩,rfl⟩;clear aM CA l0 l1 l2 mH cH;clear OB_0 OB_1 OB_2 OB_3 OB_l;replace OB:=OB.below b5;replace RES:=RES.below b5;replace oy:Bw.ow w5 F Z (⟨B1,m1,e1⟩,⟨B2,m2,e2⟩):=owB oy b5;replace ol:=Br (ol.out.below b5);replace hb:=Bv hb b5;replace mK:=Ah mK b5.size;replace bR:∀ x∈F,x<w5:=Bw.ow_lt (F:=F) (x:=Z) (s:=(⟨B1,m1,e1⟩,⟨B2,m2,e2⟩)) oy;obtain ⟨gl,pl,cl,jC,gC,l0,l1,l2,-⟩:=N6 ol.out (i:=i) (by rw [Ar];exact aA) cM.out;have mH:=ol.out.lt _ jC;have cH:=ol.out.lt _ gC;obtain ⟨OB_0,OB_1,OB_2,OB_3,OB_l⟩:=OB.g4;have oyr:=(Bw.ow_rd (F:=F) (x:=Z) (s:=(⟨B1,m1,e1⟩,⟨B2,m2,e2⟩)) oy).2;have dH:=Br (show m2=Z.runs.length from RdL.at1 (s:=⟨B2,m2,e2⟩) oyr);have gJ:(k:Int)<(m2:Int):=by have:=dH.out;omega
   have cE:(0:Int)<=(k:Int):=Bl;obtain ⟨gr,orr,⟨sk1,⟨tka,tkn,tkc⟩⟩,rfl,dN,dI,c0,c1,c2,c3,c4,c5,c6,c7⟩:=RdL.run (show RdL Cf w5 w5.heap.size (Aa B2 m2 e2) Z.runs from oyr) eD;have pG:tkn=Z.runs[k].tasks.length:=RdL.at1 (s:=⟨tka,tkn,tkc⟩) dI.2;have kF:(t:Int)<(tkn:Int):=Bl;have gW:(0:Int)<=(t:Int):=Bl;obtain ⟨gt,ot,_,rfl,hgt,_,d0,d1,d2,d3⟩:=RdL.task (show RdL C8 w5 w5.heap.size (Aa tka tkn tkc) Z.runs[k].tasks from dI.2) kD;have bN:=Br gA.1;replace pG:=Br pG;have aM:=Cw w5;clear gA oyr d1 d2 d3;have hJ:=Br (show Cv (Hi Z k) t=Z.runs[k].tasks[t] by rw [E6 eD,Cu kD]);have hJ2:=Br (E6 eD);generalize nB:Z.runs[k]=r at *
   by_cases q:r.tasks[t].state=3;case neg =>
    have q1:(r.tasks[t].state == 3)=false:=by simp [q]
    have bJ:=Br (show Gr Z k t=Z from Lu (by rw [hJ.out];exact q));clear q;go_wp2;refine Bz Bm Bm ?_;repeat (go_big_quiet_step (fail))
    refine Ak ?_;rintro w6 ⟨⟨_,b6⟩,rfl⟩;clear aM;go_wp2;exact ⟨⟨i+1,Z,(⟨B1,m1,e1⟩,⟨Ac ⟨gr,orr,Ab⟩,m2,e2⟩),F,Bl,by go_num,hT.out.mono Bl,aF.out.trans bJ.out,Bw.ow_below (F:=F) (x:=Z) (s:=(⟨B1,m1,e1⟩,⟨Ac ⟨gr,orr,Ab⟩,m2,e2⟩)) oy b6,hF,ol.out.below b6,OB.below b6,RES.below b6,Bv hb b6,Ah mK b6.size⟩,clM⟩
   have q1:(r.tasks[t].state == 3)=true:=by simp [q]
   have aP:Hid (I4 r t):=⟨bN.out,⟨Bl,Bl⟩,by rw [Ao,Cu kD];exact q⟩
   have bJ:=Br (show Gr Z k t=Gn Z k (Dp r t) by rw [Kz (by rw [hJ.out];exact q),hJ2.out]);replace hN:Hid (Trn y (i+1) (Gr Z k t)):=hN;clear q;go_wp2;refine Bz Bm Bm ?_;repeat (go_big_quiet_step (fail))
   refine Ak ?_;rintro w6 ⟨⟨_,b6⟩,rfl⟩;clear aM l0 l1 l2 mH cH c0 c1 c2 c3 c4 c5 c6 c7 d0 hgt;clear OB_0 OB_1 OB_2 OB_3 OB_l;replace OB:=OB.below b6;replace RES:=RES.below b6;replace oy:Bw.ow w6 F Z (⟨B1,m1,e1⟩,⟨Ac ⟨gr,orr,Ab⟩,m2,e2⟩):=owB oy b6;replace ol:=Br (ol.out.below b6);replace hb:=Bv hb b6;replace mK:=Ah mK b6.size;replace bR:∀ x∈F,x<w6:=Bw.ow_lt (F:=F) (x:=Z) (s:=(⟨B1,m1,e1⟩,⟨Ac ⟨gr,orr,Ab⟩,m2,e2⟩)) oy;obtain ⟨gl,pl,cl,jC,gC,l0,l1,l2,-⟩:=N6 ol.out (i:=i) (by rw [Ar];exact aA) cM.out;have mH:=ol.out.lt _ jC;have cH:=ol.out.lt _ gC;obtain ⟨OB_0,OB_1,OB_2,OB_3,OB_l⟩:=OB.g4;obtain ⟨_,_,sk,dD,hgrw6,dI,c0,c1,c2,c3,c4,c5,c6,c7⟩:=RdL.run (show RdL Cf w6 w6.heap.size (Aa (Ac ⟨gr,orr,Ab⟩) m2 e2) Z.runs from (Bw.ow_rd (F:=F) (x:=Z) (s:=(⟨B1,m1,e1⟩,⟨Ac ⟨gr,orr,Ab⟩,m2,e2⟩)) oy).2) eD;simp only [Option.some.injEq,Addr.mk.injEq,and_true] at dD;obtain ⟨rfl,rfl⟩:=dD;rw [nB] at dI c0 c1 c2 c3 c4 c6;have CF:=Br (My r sk t w6.drew (by have:=Kw bN.out;omega) aP.out (Cf.rd_below dI (Bs _ _).drew));have gR:=OB.lt;clear dI;go_wp2;refine Dh (fun w'=>w'.cell? ⟨ob,0,Ab⟩=Ac (J U Z.now)/\w'.cell? ⟨ob,1,Ab⟩=Ac (J U Z.seq)/\w'.cell? ⟨ob,2,Ab⟩=Ac (Aa B1 m1 e1)/\w'.cell? ⟨ob,3,Ab⟩=Ac (Aa (Ac ⟨gr,orr,Ab⟩) m2 e2)/\w'.cell? ⟨bl,lo+i,Ab⟩=Ac (Aa (Ac ⟨gl,pl,Ab⟩) 3 cl)/\w'.cell? ⟨gl,pl,Ab⟩=Ac (J U y.runs[k].id)/\w'.cell? ⟨gl,pl+1,Ab⟩=Ac (J U (t:Int))) 15 Bm ?_ (fun hHeld=>?_)
   ·exact ⟨OB_0,OB_1,OB_2,OB_3,l0,l1,l2⟩
   refine aT 0 hHeld ?_;try simp only [pS]
   refine aT 1 hHeld ?_;try simp only [pS]
   refine aT 2 hHeld ?_;try simp only [pS]
   refine aT 3 hHeld ?_;try simp only [pS]
   refine aT 4 hHeld ?_;try simp only [pS]
   refine aT 5 hHeld ?_;try simp only [pS]
   refine aT 7 hHeld ?_;try simp only [pS]
   refine aT 8 hHeld ?_;try simp only [pS]
   refine aT 9 hHeld ?_;try simp only [pS]
   refine aT 10 hHeld ?_;try simp only [pS]
   refine aT 11 hHeld ?_;try simp only [pS]
   refine aT 12 hHeld ?_;try simp only [pS]
   refine oT 6 (fun K hK=>?_);go_simp;refine hK.out _ _ (fun _=>?_) ?_
   ·exact ⟨OB_0,OB_1,OB_2,OB_3,l0,l1,l2⟩
   clear hK K;try simp only [pS]
   refine oT 13 (fun K hK=>?_)
   (go_simp;refine CF.out.mono ?_;rintro e5 wa ⟨sr,Fr,rfl,orn,nFr,ba⟩;have nM:∀ x∈Fr,w6<=x:=nFr;have oya:Bw.ow wa F Z (⟨B1,m1,e1⟩,⟨Ac ⟨gr,orr,Ab⟩,m2,e2⟩):=owB oy (Bv (Bs _ _).drew ba);have CT:=Br (Lm Z (⟨B1,m1,e1⟩,⟨Ac ⟨gr,orr,Ab⟩,m2,e2⟩) k (Dp r t) sr wa F Fr hT.out.four (fun s hs=>by have:=hT.out.all s hs;omega) (by have:=hT.out.seq;omega) eD (by rw [Il];have:=Eb bN.out;omega) (by rw [nB];have:=Eb bN.out;omega) oya orn (fun x hx bI=>by have h1:=nM x hx;have h2:=bR x bI;omega)))
   refine hK.out _ _ (fun _=>?_) ?_
   ·exact ⟨(ba.cell (p:=⟨_,_,Ab⟩) (by show ob<w6;omega)).trans OB_0,(ba.cell (p:=⟨_,_,Ab⟩) (by show ob<w6;omega)).trans OB_1,(ba.cell (p:=⟨_,_,Ab⟩) (by show ob<w6;omega)).trans OB_2,(ba.cell (p:=⟨_,_,Ab⟩) (by show ob<w6;omega)).trans OB_3,(ba.cell (p:=⟨_,_,Ab⟩) (by show bl<w6;omega)).trans l0,(ba.cell (p:=⟨_,_,Ab⟩) (by show gl<w6;omega)).trans l1,(ba.cell (p:=⟨_,_,Ab⟩) (by show gl<w6;omega)).trans l2⟩
   clear hK K;try simp only [pS]
   refine oT 14 (fun K hK=>?_)
   (go_simp;refine CT.out.mono ?_;rintro e6 wb ⟨s6,F6,rfl,oy6,n6,cb⟩;have OB6:=(OB.below (Bv (Bs _ _).drew ba)).chg cb hF.out.2.1;have q0:=OB6.cell 0 _ rfl;have q1:=OB6.cell 1 _ rfl;have q2:=OB6.cell 2 _ rfl;have q3:=OB6.cell 3 _ rfl;have qf:=OB6.free;have ql:=OB6.lt;have u0:=(cb.cell (p:=⟨bl,_,Ab⟩) (by show bl<wa;have:=ba.size;have:w6.drew.heap.size=w6.heap.size:=rfl;omega) (hF.out.2.2 _ jC)).trans ((ba.cell (p:=⟨bl,_,Ab⟩) (by show bl<w6;omega)).trans l0);have u1:=(cb.cell (p:=⟨gl,_,Ab⟩) (by show gl<wa;have:=ba.size;have:w6.drew.heap.size=w6.heap.size:=rfl;omega) (hF.out.2.2 _ gC)).trans ((ba.cell (p:=⟨gl,_,Ab⟩) (by show gl<w6;omega)).trans l1);have u2:=(cb.cell (p:=⟨gl,_,Ab⟩) (by show gl<wa;have:=ba.size;have:w6.drew.heap.size=w6.heap.size:=rfl;omega) (hF.out.2.2 _ gC)).trans ((ba.cell (p:=⟨gl,_,Ab⟩) (by show gl<w6;omega)).trans l2);generalize Gn Z k (Dp r t)=Z1 at *)
   refine hK.out _ _ (fun _=>?_) ?_
   ·exact ⟨q0,q1,q2,q3,u0,u1,u2⟩
   clear hK K;try simp only [pS]
   refine oT 15 (fun K hK=>?_);go_simp;refine hK.out _ _ (fun aC=>absurd rfl aC) ?_;clear hK K;try simp only [pS]
   refine Eh Bm ?_ _;have ba':Below w6 w6 wa:=Bv (Bs _ _).drew ba;have hbas:=ba'.size;have hcbs:=cb.size;have kL:=OB.lt;have hRl7:=RES.lt;have dJ:=Chg.cells4 wb ob 0 1 2 3 (J U Z1.now) (J U Z1.seq) (Aa s6.1.a s6.1.n s6.1.c) (Aa s6.2.a s6.2.n s6.2.c);have bT:=Br (show ∀ x,x∈[ob]->x=ob from fun x hx=>by simpa using hx);have OB7:=DBox.row4 OB6 rfl (J U Z1.now) (J U Z1.seq) (Aa s6.1.a s6.1.n s6.1.c) (Aa s6.2.a s6.2.n s6.2.c);have RES7:=((RES.below ba').chg cb (fun hx=>by have:=hF.out.1 _ hx;omega)).chg dJ (fun hx=>by have:=bT.out _ hx;omega);have rI:=ol.out.lt;have ol7:=((ol.out.below ba').chg cb (fun x hx=>hF.out.2.2 x hx)).chg dJ (fun x hx h2=>by have h3:=bT.out x h2;have h4:=hFln x hx;omega);have hb7:=((Bv hb ba').trans (cb.below (by have:=(Bv hb ba').size;omega) (fun x hx=>by have:=hF.out.1 x hx;omega))).trans (dJ.below (by have:=hb.size;omega) (fun x hx=>by have:=bT.out x hx;omega));have tN:∀ x∈F6,x∈F\/w6<=x:=fun x hx=>by
    exact Amm
   have nN:ob∉F6:=fun hx=>by
    rcases tN _ hx with h | h
    ·exact hF.out.2.1 h
    ·omega
   have oy7:=Bw.ow_chg (F:=F6) (x:=Z1) (s:=s6) oy6 dJ (fun x hx h=>by have:=bT.out x h;subst this;exact nN hx);have gE:Hid ((∀ x∈F6,w+1<x)/\ob∉F6 /\ ∀ x∈Fl,x∉F6):=⟨fun x hx=>by
    rcases tN x hx with h | h
    ·exact hF.out.1 x h
    ·have:=hRl7;omega,nN,fun x hx hx6=>by
    rcases tN x hx6 with h | h
    ·exact hF.out.2.2 x hx h
    ·have:=rI x hx;omega⟩
   have hw7:=Ah mK (Ah (Ah hbas hcbs) dJ.size);clear hHeld q0 q1 q2 q3 qf ql OB6 oy6 CT CF oya orn nFr n6 ba cb;clear OB_0 OB_1 OB_2 OB_3 OB_l;clear OB;generalize (((wb.setCell ⟨ob,0,Ab⟩ (J U Z1.now)).setCell ⟨ob,1,Ab⟩ (J U Z1.seq)).setCell ⟨ob,2,Ab⟩ (Aa s6.1.a s6.1.n s6.1.c)).setCell ⟨ob,3,Ab⟩ (Aa s6.2.a s6.2.n s6.2.c)=w7 at *
   go_wp2;exact ⟨⟨i+1,Z1,s6,F6,Bl,by go_num,by rw [<-bJ.out];exact hN.out,aF.out.trans bJ.out,oy7,gE,ol7,OB7,RES7,hb7,hw7⟩,clM⟩
  ·have aB:¬ (i:Int)<(L.length:Int):=Bl;have hzn:=Br hT.out.now;have hZ1:=Br (show Fo y L=Z by have:=hZ.out;rw [Bg Bl] at this;exact this);have wr2:U.wrap (Z.now+1)=Z.now+1:=Aq _ (by have:=hzn.out;omega);have H3:=Br (show Je y=⟨Z.now+1,Z.seq,Z.shelf,Z.runs⟩ by rw [H2.out,hZ1.out]);have obf:=OB.free;go_upto_region 14 with fail
   clear OB_0 OB_1 OB_2 OB_3 OB_l;clear obf;have hRl3:=RES.lt;replace OB:DBox ob [J U (Z.now+1),J U Z.seq,Aa B1 m1 e1,Aa B2 m2 e2] (wr.setCell ⟨ob,0,Ab⟩ (J U (Z.now+1))):=OB.set 0 Bo _;replace RES:=RES.setOther (a:=⟨ob,0,Ab⟩) (by show w.heap.size+1≠ob;omega) (J U (Z.now+1));have pM:=hF.out.2.1;have oy8:Bw.ow (wr.setCell ⟨ob,0,Ab⟩ (J U (Z.now+1))) F ⟨Z.now+1,Z.seq,Z.shelf,Z.runs⟩ (⟨B1,m1,e1⟩,⟨B2,m2,e2⟩):=Bw.ow_set (F:=F) (x:=Z) (s:=(⟨B1,m1,e1⟩,⟨B2,m2,e2⟩)) oy (a:=⟨ob,0,Ab⟩) pM _;have hb8:Below w w (wr.setCell ⟨ob,0,Ab⟩ (J U (Z.now+1))):=Ad hb (by show w.heap.size<=ob;omega) _;generalize wr.setCell ⟨ob,0,Ab⟩ (J U (Z.now+1))=w8 at *
   obtain ⟨OB_0,OB_1,OB_2,OB_3,OB_l⟩:=OB.g4;have RES_:=RES.g4;have rf:=RES.free;go_wp2;have en1:w.heap.size+1∉F:=fun hx=>by have:=hF.out.1 _ hx;omega
   refine Aj (Wk (DBox.row4 RES rfl _ _ _ _)) rfl ⟨(⟨B1,m1,e1⟩,⟨B2,m2,e2⟩),F,by rw [H.out,H3.out],by rw [H3.out];exact (by (repeat (refine Dt.ow_set Bw ?_ en1 _));exact (show Bw.ow _ F ⟨Z.now+1,Z.seq,Z.shelf,Z.runs⟩ (⟨B1,m1,e1⟩,⟨B2,m2,e2⟩) from oy8)),fun x hx=>by have:=hF.out.1 x hx;omega,?_⟩;repeat (first | (with_reducible exact hb8) | refine Ad ?_ Bp _)
end
theorem Qe {b:Nat} {w:World} {u0 u1 u2 u3:Value} (X:DBox b [u0,u1,u2,u3] w) {v0 v1 v2 v3 v4 v5 v6 v7 v9:Value} {rest:List Value} :
  (results Tryz.f133 (v0 :: v1 :: v2 :: v3 :: v4 :: v5 :: v6 :: v7 :: .pointer (Ac ⟨b,0,Ab⟩) :: v9 :: rest).toArray).run Am w = .ok (.tuple #[.agg #[u0,u1,u2,u3],v9]) w:=by
 obtain ⟨c0,c1,c2,c3,-⟩:=X.g4;simp [results,results133,go_sem,c0,c1,c2,c3]
theorem Yp {b:Nat} {w:World} {u0 u1 u2 u3:Value} (X:DBox b [u0,u1,u2,u3] w) {v0 v1 v2 v3 v4 v5 v6 v7 v9:Value} {rest:List Value} :
  (results Tryz.f134 (v0 :: v1 :: v2 :: v3 :: v4 :: v5 :: v6 :: v7 :: .pointer (Ac ⟨b,0,Ab⟩) :: v9 :: rest).toArray).run Am w = .ok (.tuple #[.agg #[u0,u1,u2,u3],v9]) w:=by
 obtain ⟨c0,c1,c2,c3,-⟩:=X.g4;simp [results,results134,go_sem,c0,c1,c2,c3]
theorem Xl (gr o n c:Nat) (rs:List (Run×Cf.S)) (k:Nat) (G1 Fx G2:List Nat) (r:Run) (s:Sl×Sl) (u p:Nat) (w:World) (hp:w.cell? ⟨p,0,Ab⟩=Ac (J U u)) (hp':p<w) (hR:I4 r u) (hF:Foc Cf w gr o n c rs k G1 Fx G2 r s) :
  Calls Am 211 #[.pointer (Ac ⟨gr,o+k * 8,Ab⟩),.pointer (Ac ⟨p,0,Ab⟩)] w (Im gr o n c rs k G1 Fx G2 (Jq r u) s w):=by
 have C:=Br (Aaa gr o n c rs k G1 Fx G2 r s u w hR hF);go_enter func211,ntmps211;go_wp2_with fail
 refine C.out.mono ?_;rintro e w1 ⟨rfl,h1,h2⟩;have HF:=Br (show Im gr o n c rs k G1 Fx G2 (Jq r u) s w (.returned (.tuple #[])) w1 from ⟨rfl,h1,h2⟩);clear h1 h2 C;go_wp2;exact Aj (v:=.tuple #[]) (by simp [results,results211,go_sem]) rfl HF.out
theorem Af9 (gr o n c:Nat) (rs:List (Run×Cf.S)) (k:Nat) (G1 Fx G2:List Nat) (r:Run) (s:Sl×Sl) (u p:Nat) (w:World) (hp:w.cell? ⟨p,0,Ab⟩=Ac (J U u)) (hp':p<w) (hR:I4 r u) (hF:Foc Cf w gr o n c rs k G1 Fx G2 r s) :
  Calls Am 213 #[.pointer (Ac ⟨gr,o+k * 8,Ab⟩),.pointer (Ac ⟨p,0,Ab⟩)] w (Im gr o n c rs k G1 Fx G2 (Dp r u) s w):=by
 have C:=Br (M4 gr o n c rs k G1 Fx G2 r s u w (by have:=Eb hR.1;omega) hR hF);go_enter func213,ntmps213;go_wp2_with fail
 refine C.out.mono ?_;rintro e w1 ⟨rfl,h1,h2⟩;have HF:=Br (show Im gr o n c rs k G1 Fx G2 (Dp r u) s w (.returned (.tuple #[])) w1 from ⟨rfl,h1,h2⟩);clear h1 h2 C;go_wp2;exact Aj (v:=.tuple #[]) (by simp [results,results213,go_sem]) rfl HF.out
theorem Aez {y:Yard} {id tk tr:Int} (q:Gv y id tk tr=0):Dk y /\ ∃ k,∃ hk:k<y.runs.length,∃ u:Nat,Dn y id=(k:Int)/\Ko y id=y.runs[k]/\tk=(u:Int)/\I4 y.runs[k] u:=by
 unfold Gv at q;by_cases p0:Dk y
 ·by_cases p1:Dn y id<0
  ·rw [if_neg (fun h=>h p0),if_pos p1] at q;cases q
  ·by_cases p2:Gq y id tk tr
   ·rcases E9 y id with hr | ⟨k,hk,hr⟩
    ·omega
    ·have HK:=Ha hk hr;have dE:(0<=tk/\tk<(y.runs[k].tasks.length:Int))/\(Cv y.runs[k] tk.toNat).state=3:=by
      unfold Gq at p2;rw [HK] at p2;exact ⟨p2.2.1,p2.2.2.1⟩
     obtain ⟨u,rfl⟩:=Int.eq_ofNat_of_zero_le dE.1.1;exact ⟨p0,k,hk,u,hr,HK,rfl,Ev p0 hk,⟨Bl,by have:=dE.1.2;omega⟩,dE.2⟩
   ·rw [if_neg (fun h=>h p0),if_neg p1,if_pos p2] at q;cases q
 ·exact Ak8
theorem Sj (y:Yard) (s:Sl×Sl) (id tk tr:Int) (w:World) (hl:Ca y<=2000000) (h:Bw.rd w w y s) :
  Calls Am 133 #[Ds y s,J U id,J U tk,J U tr] w (Is (K7 y id tk tr) (Gv y id tk tr) w):=by
 have HR:=Br (show ∀ W,Below w w W->Bw.rd W W y s from fun W hW=>Bw.rd_more (Bw.rd_below h hW) hW.size);obtain ⟨⟨A1,n1,c1⟩,⟨A2,n2,c2⟩⟩:=s;have CC:=Br (fun W hW=>Fe y (⟨A1,n1,c1⟩,⟨A2,n2,c2⟩) W hl (HR.out W hW));have CK:=Br (fun W hW=>Rg y (⟨A1,n1,c1⟩,⟨A2,n2,c2⟩) id tk tr W hl (HR.out W hW));have CA:=Br (fun W hW=>Fj y (⟨A1,n1,c1⟩,⟨A2,n2,c2⟩) id W hl (HR.out W hW));clear h;obtain ⟨W,aH,X,T,RES,B0⟩:=bx3 w 31 [J U y.now,J U y.seq,Aa A1 n1 c1,Aa A2 n2 c2] 3 [J U tk] 31 [J U 0,J U 0,Aa Ab 0 0,Aa Ab 0 0];go_enter func133,ntmps133;go_wp2_with fail
 rw [<-aH.out];clear aH;refine (CC.out _ B0).mono ?_;rintro e1 w1 ⟨⟨⟨B1,m1,e1⟩,⟨B2,m2,e2⟩⟩,F,rfl,oy,nF,b1⟩;have eC:=RES.lt;have b2:Below w1 w1 (w1.alloc (.cells #[J U y.now,J U y.seq,Aa B1 m1 e1,Aa B2 m2 e2] 31)):=Bu;have OB:DBox w1 (Ht y (⟨B1,m1,e1⟩,⟨B2,m2,e2⟩)) _:=DBox.new 31 [J U y.now,J U y.seq,Aa B1 m1 e1,Aa B2 m2 e2] w1 (b:=w1) rfl;have bR:=Br (Bw.ow_lt (F:=F) (x:=y) (s:=(⟨B1,m1,e1⟩,⟨B2,m2,e2⟩)) oy);have dB:=Br (show ∀ x∈F,w.heap.size+3<=x from fun x hx=>by have:=nF x hx;omega);replace oy:Bw.ow _ F y (⟨B1,m1,e1⟩,⟨B2,m2,e2⟩):=owB oy b2;have b12:=Bv b1 b2;replace X:=X.below b12;replace T:=T.below b12;replace RES:=RES.below b12;replace B0:=Bv B0 b12;have bE:=b1.size;clear b1 b2 b12 CC nF;go_upto_region 2 with fail
 have cR:w1.heap.size∉F:=fun h=>by have:=bR.out _ h;omega
 generalize w1.heap.size=ob at *
 generalize w1.alloc (.cells #[J U y.now,J U y.seq,Aa B1 m1 e1,Aa B2 m2 e2] 31)=w2 at *
 have X_:=X.g4;obtain ⟨T_0,T_l⟩:=T.g1;go_wp2_with fail
 refine (CK.out _ B0).mono ?_;rintro e1' w3 ⟨rfl,b3⟩;clear X_;clear T_0 T_l;replace X:=X.below b3;replace T:=T.below b3;replace RES:=RES.below b3;replace OB:=OB.below b3;replace B0:=Bv B0 b3;replace oy:Bw.ow w3 F y (⟨B1,m1,e1⟩,⟨B2,m2,e2⟩):=owB oy b3;clear b3 CK;by_cases q:Gv y id tk tr=0;case neg =>
  have q2:(Gv y id tk tr == 0)=false:=beq_eq_false_iff_ne.2 q;have H:=Br (show K7 y id tk tr=y from if_neg q);clear q;have RES_:=RES.g4;have OB_:=OB.g4;have rf:=RES.free;go_wp2;have en1:w.heap.size+1+1∉F:=fun hx=>by have:=dB.out _ hx;omega
  refine Aj (Qe (DBox.row4 RES rfl _ _ _ _)) rfl ⟨(⟨B1,m1,e1⟩,⟨B2,m2,e2⟩),F,by rw [H.out],by rw [H.out];exact Bw.set4 (F:=F) (x:=y) (s:=(⟨B1,m1,e1⟩,⟨B2,m2,e2⟩)) oy en1,fun x hx=>by have:=dB.out x hx;omega,?_⟩;repeat (first | (with_reducible exact B0) | refine Ad ?_ Bp _)
 have q2:(Gv y id tk tr == 0)=true:=by simp [q]
 have H:=Br (show K7 y id tk tr=Gn y (Dn y id).toNat (Jq (Ko y id) tk.toNat) from if_pos q);obtain ⟨pJ,k,hk,u,hr,uK,rfl,aP⟩:=Aez q;have HR2:=Br hr;have HK:=Br uK;have pJ:=Br pJ;have aP:=Br aP;clear hr uK q;have X_:=X.g4;go_wp2_with fail
 refine (CA.out _ B0).mono ?_;rintro e2' w4 ⟨rfl,b4⟩;rw [HR2.out];clear X_;replace T:=T.below b4;replace RES:=RES.below b4;replace OB:=OB.below b4;replace B0:=Bv B0 b4;replace oy:Bw.ow w4 F y (⟨B1,m1,e1⟩,⟨B2,m2,e2⟩):=owB oy b4;clear b4 CA X;have qW:=T.lt;have CH:=Br (Kg 211 (w+1) (Nz func211 Bm Bm) y ob (⟨B1,m1,e1⟩,⟨B2,m2,e2⟩) F k (Jq y.runs[k] u) w4 pJ.out.2.2.1 (fun s hs=>by have:=(pJ.out.2.2.2.1 s hs).1;omega) (by have:=pJ.out.2.1;omega) hk (by rw [Pn];have:=Eb aP.out.1;omega) (by have:=Eb aP.out.1;omega) OB oy cR
  (Br fun W gr o n c rs G1 Fx G2 sr hW hF=>Xl gr o n c rs k G1 Fx G2 y.runs[k] sr u (w+1) W ((T.below hW).cell 0 _ rfl) (T.below hW).lt aP.out hF))
 go_wp2_with fail
 refine CH.out.mono ?_;rintro e3 w5 ⟨rfl,F',OB',oy',nF',hc⟩;have H2:K7 y id u tr=Gn y k (Jq y.runs[k] u):=by rw [H.out,HR2.out,HK.out];rfl
 rw [<-H2] at OB' oy';clear H2;have bL:=B0.size;replace B0:=B0.trans (hc.below (base:=w) bL (fun x hx=>by
  rcases List.mem_cons.1 hx with rfl | hx
  ·omega
  ·have:=dB.out x hx;omega))
 have tU:w.heap.size+1+1∉ob :: F:=fun hx=>by
  exact Am7
 have RL:=RES.lt;replace RES:=RES.chg hc tU;clear OB CH T hc;have OB:=OB';have RES_:=RES.g4;have OB_:=OB.g4;have rf:=RES.free;go_wp2;have en1:w.heap.size+1+1∉F':=fun hx=>by rcases nF' _ hx with h | h;exact tU (List.mem_cons_of_mem _ h);omega
 refine Aj (Qe (DBox.row4 RES rfl _ _ _ _)) rfl ⟨(⟨B1,m1,e1⟩,⟨B2,m2,e2⟩),F',rfl,Bw.set4 (F:=F') (x:=K7 y id u tr) (s:=(⟨B1,m1,e1⟩,⟨B2,m2,e2⟩)) oy' en1,fun x hx=>by rcases nF' x hx with h | h;(have:=dB.out x h;omega);omega,?_⟩;repeat (first | (with_reducible exact B0) | refine Ad ?_ Bp _)
theorem Aag (y:Yard) (s:Sl×Sl) (id tk tr:Int) (w:World) (hl:Ca y<=2000000) (h:Bw.rd w w y s) :
  Calls Am 134 #[Ds y s,J U id,J U tk,J U tr] w (Is (K6 y id tk tr) (Gv y id tk tr) w):=by
 have HR:=Br (show ∀ W,Below w w W->Bw.rd W W y s from fun W hW=>Bw.rd_more (Bw.rd_below h hW) hW.size);obtain ⟨⟨A1,n1,c1⟩,⟨A2,n2,c2⟩⟩:=s;have CC:=Br (fun W hW=>Fe y (⟨A1,n1,c1⟩,⟨A2,n2,c2⟩) W hl (HR.out W hW));have CK:=Br (fun W hW=>Rg y (⟨A1,n1,c1⟩,⟨A2,n2,c2⟩) id tk tr W hl (HR.out W hW));have CA:=Br (fun W hW=>Fj y (⟨A1,n1,c1⟩,⟨A2,n2,c2⟩) id W hl (HR.out W hW));clear h;obtain ⟨W,aH,X,T,RES,B0⟩:=bx3 w 31 [J U y.now,J U y.seq,Aa A1 n1 c1,Aa A2 n2 c2] 3 [J U tk] 31 [J U 0,J U 0,Aa Ab 0 0,Aa Ab 0 0];go_enter func134,ntmps134;go_wp2_with fail
 rw [<-aH.out];clear aH;refine (CC.out _ B0).mono ?_;rintro e1 w1 ⟨⟨⟨B1,m1,e1⟩,⟨B2,m2,e2⟩⟩,F,rfl,oy,nF,b1⟩;have eC:=RES.lt;have b2:Below w1 w1 (w1.alloc (.cells #[J U y.now,J U y.seq,Aa B1 m1 e1,Aa B2 m2 e2] 31)):=Bu;have OB:DBox w1 (Ht y (⟨B1,m1,e1⟩,⟨B2,m2,e2⟩)) _:=DBox.new 31 [J U y.now,J U y.seq,Aa B1 m1 e1,Aa B2 m2 e2] w1 (b:=w1) rfl;have bR:=Br (Bw.ow_lt (F:=F) (x:=y) (s:=(⟨B1,m1,e1⟩,⟨B2,m2,e2⟩)) oy);have dB:=Br (show ∀ x∈F,w.heap.size+3<=x from fun x hx=>by have:=nF x hx;omega);replace oy:Bw.ow _ F y (⟨B1,m1,e1⟩,⟨B2,m2,e2⟩):=owB oy b2;have b12:=Bv b1 b2;replace X:=X.below b12;replace T:=T.below b12;replace RES:=RES.below b12;replace B0:=Bv B0 b12;have bE:=b1.size;clear b1 b2 b12 CC nF;go_upto_region 2 with fail
 have cR:w1.heap.size∉F:=fun h=>by have:=bR.out _ h;omega
 generalize w1.heap.size=ob at *
 generalize w1.alloc (.cells #[J U y.now,J U y.seq,Aa B1 m1 e1,Aa B2 m2 e2] 31)=w2 at *
 have X_:=X.g4;obtain ⟨T_0,T_l⟩:=T.g1;go_wp2_with fail
 refine (CK.out _ B0).mono ?_;rintro e1' w3 ⟨rfl,b3⟩;clear X_;clear T_0 T_l;replace X:=X.below b3;replace T:=T.below b3;replace RES:=RES.below b3;replace OB:=OB.below b3;replace B0:=Bv B0 b3;replace oy:Bw.ow w3 F y (⟨B1,m1,e1⟩,⟨B2,m2,e2⟩):=owB oy b3;clear b3 CK;by_cases q:Gv y id tk tr=0;case neg =>
  have q2:(Gv y id tk tr == 0)=false:=beq_eq_false_iff_ne.2 q;have H:=Br (show K6 y id tk tr=y from if_neg q);clear q;have RES_:=RES.g4;have OB_:=OB.g4;have rf:=RES.free;go_wp2;have en1:w.heap.size+1+1∉F:=fun hx=>by have:=dB.out _ hx;omega
  refine Aj (Yp (DBox.row4 RES rfl _ _ _ _)) rfl ⟨(⟨B1,m1,e1⟩,⟨B2,m2,e2⟩),F,by rw [H.out],by rw [H.out];exact Bw.set4 (F:=F) (x:=y) (s:=(⟨B1,m1,e1⟩,⟨B2,m2,e2⟩)) oy en1,fun x hx=>by have:=dB.out x hx;omega,?_⟩;repeat (first | (with_reducible exact B0) | refine Ad ?_ Bp _)
 have q2:(Gv y id tk tr == 0)=true:=by simp [q]
 have H:=Br (show K6 y id tk tr=Gn y (Dn y id).toNat (Dp (Ko y id) tk.toNat) from if_pos q);obtain ⟨pJ,k,hk,u,hr,uK,rfl,aP⟩:=Aez q;have HR2:=Br hr;have HK:=Br uK;have pJ:=Br pJ;have aP:=Br aP;clear hr uK q;have X_:=X.g4;go_wp2_with fail
 refine (CA.out _ B0).mono ?_;rintro e2' w4 ⟨rfl,b4⟩;rw [HR2.out];clear X_;replace T:=T.below b4;replace RES:=RES.below b4;replace OB:=OB.below b4;replace B0:=Bv B0 b4;replace oy:Bw.ow w4 F y (⟨B1,m1,e1⟩,⟨B2,m2,e2⟩):=owB oy b4;clear b4 CA X;have qW:=T.lt;have CH:=Br (Kg 213 (w+1) (Nz func213 Bm Bm) y ob (⟨B1,m1,e1⟩,⟨B2,m2,e2⟩) F k (Dp y.runs[k] u) w4 pJ.out.2.2.1 (fun s hs=>by have:=(pJ.out.2.2.2.1 s hs).1;omega) (by have:=pJ.out.2.1;omega) hk (by rw [Il];have:=Eb aP.out.1;omega) (by have:=Eb aP.out.1;omega) OB oy cR
  (Br fun W gr o n c rs G1 Fx G2 sr hW hF=>Af9 gr o n c rs k G1 Fx G2 y.runs[k] sr u (w+1) W ((T.below hW).cell 0 _ rfl) (T.below hW).lt aP.out hF))
 go_wp2_with fail
 refine CH.out.mono ?_;rintro e3 w5 ⟨rfl,F',OB',oy',nF',hc⟩;have H2:K6 y id u tr=Gn y k (Dp y.runs[k] u):=by rw [H.out,HR2.out,HK.out];rfl
 rw [<-H2] at OB' oy';clear H2;have bL:=B0.size;replace B0:=B0.trans (hc.below (base:=w) bL (fun x hx=>by
  rcases List.mem_cons.1 hx with rfl | hx
  ·omega
  ·have:=dB.out x hx;omega))
 have tU:w.heap.size+1+1∉ob :: F:=fun hx=>by
  exact Am7
 have RL:=RES.lt;replace RES:=RES.chg hc tU;clear OB CH T hc;have OB:=OB';have RES_:=RES.g4;have OB_:=OB.g4;have rf:=RES.free;go_wp2;have en1:w.heap.size+1+1∉F':=fun hx=>by rcases nF' _ hx with h | h;exact tU (List.mem_cons_of_mem _ h);omega
 refine Aj (Yp (DBox.row4 RES rfl _ _ _ _)) rfl ⟨(⟨B1,m1,e1⟩,⟨B2,m2,e2⟩),F',rfl,Bw.set4 (F:=F') (x:=K6 y id u tr) (s:=(⟨B1,m1,e1⟩,⟨B2,m2,e2⟩)) oy' en1,fun x hx=>by rcases nF' x hx with h | h;(have:=dB.out x h;omega);omega,?_⟩;repeat (first | (with_reducible exact B0) | refine Ad ?_ Bp _)
theorem Enc.flat_take {α:Type} (e:Enc α) (l:List α) (k:Nat) (hk:k<=l.length):(l.take k).flatMap e.cells=(l.flatMap e.cells).take (k * e.sz):=by
 have h:l.flatMap e.cells=(l.take k).flatMap e.cells ++ (l.drop k).flatMap e.cells:=by rw [<-List.flatMap_append,List.take_append_drop]
 rw [h,List.take_left' (by rw [e.flat_length,Az,Nat.min_eq_left hk])]
theorem Enc.flat_drop {α:Type} (e:Enc α) (l:List α) (k:Nat) (hk:k<=l.length):(l.drop k).flatMap e.cells=(l.flatMap e.cells).drop (k * e.sz):=by
 have h:l.flatMap e.cells=(l.take k).flatMap e.cells ++ (l.drop k).flatMap e.cells:=by rw [<-List.flatMap_append,List.take_append_drop]
 rw [h,List.drop_left' (by rw [e.flat_length,Az,Nat.min_eq_left hk])]
theorem T7 {α:Type} {P:Program} (w:World) (t ty E:TypeId) (i:TypeInfo) (ht:P.underlying t=Ac (.slice E)) (hi:P.info? E=Ac i) {e:Enc α} (cJ:i.size=e.sz) (bL:0<e.sz) {base g n cap B:Nat} {l:List α}
  (h:Ow e E w base (Aa (Ac ⟨g,0,Ab⟩) n cap) l) (k:Nat) (ad:Addr) (m c:Nat) (ys:List α) (hr:Rd e w B (Aa (Ac ad) m c) ys) (eX:k+m<=l.length) :
  ∃ w',(Builtin.append_ #[t,t] ty #[Aa (Ac ⟨g,0,Ab⟩) k cap,Aa (Ac ad) m c]).run P w = .ok (Aa (Ac ⟨g,0,Ab⟩) (k+m) cap) w' /\
   Ow e E w' base (Aa (Ac ⟨g,0,Ab⟩) n cap) (l.take k ++ ys ++ l.drop (k+m))/\w.grownBy w' (Ac g):=by
 obtain ⟨rfl,hA⟩:=Aem bL hr;have hnews:∀ j u,(ys.flatMap e.cells)[j]? = Ac u->w.cell? (ad.add j)=Ac u:=by
  intro j u hu;rcases Nat.eq_zero_or_pos ys.length with h0 | h0
  ·rw [List.eq_nil_of_length_eq_zero h0] at hu;simp at hu
  ·obtain ⟨a',ha,hc⟩:=hA h0;injection ha with ha
   subst ha;exact hc j u hu
 have h1:∀ u∈ys.flatMap e.cells,u.oneCell'=true:=Am4
 obtain ⟨kC,h2⟩:=h;rcases h2 with ⟨hv,_⟩ | ⟨g',cap',cur,hv,hb,hg,hc,hm,hs,dE⟩
 ·simp at hv
 simp only [Value.slice.injEq,Option.some.injEq,Addr.mk.injEq,and_true] at hv;obtain ⟨rfl,rfl,rfl⟩:=hv;have hkm:(k+ys.length) * e.sz<=l.length * e.sz:=Nat.mul_le_mul_right _ eX;have kU:l.length * e.sz<=cap * e.sz:=Nat.mul_le_mul_right _ hc;rw [Nat.add_mul] at hkm;have hX:(l.flatMap e.cells).length=l.length * e.sz:=e.flat_length l;have hY:(ys.flatMap e.cells).length=ys.length * e.sz:=e.flat_length ys;have eU:=run_append_room (P:=P) w t ty E i ht hi g k cap cur hg ad ys.length c (ys.flatMap e.cells) (by rw [e.flat_length,cJ]) hnews h1 Bl (by rw [e.flat_length,cJ,hs];omega);have hL:(l.take k ++ ys ++ l.drop (k+ys.length)).length=l.length:=by simp;omega
 refine ⟨_,eU,⟨by rw [e.flat_length],.inr ⟨g,cap,_,by rw [hL],hb,setRow_heap w g cur _ E _ hg,by rw [hL];exact hc,hm,?_,?_⟩⟩,⟨rfl,rfl,rfl,Bo,fun j _ hj=>setRow_other w g j _ (fun e=>hj (by rw [e]))⟩⟩
 ·simp only [List.size_toArray,Bd,Az,List.length_drop,Array.length_toList,hY,cJ,hs];omega
 ·rw [hL,List.flatMap_append,List.flatMap_append,e.flat_take l k Bl,e.flat_drop l _ eX,cJ,hY];obtain ⟨R,hT⟩:∃ R,cur.toList=l.flatMap e.cells ++ R:=⟨cur.toList.drop (l.length * e.sz),by rw [<-dE,List.take_append_drop]⟩
  simp only [hT];have e1:(l.flatMap e.cells ++ R).take (k * e.sz)=(l.flatMap e.cells).take (k * e.sz):=List.take_append_of_le_length (by rw [hX];omega);have e2:(l.flatMap e.cells ++ R).drop (k * e.sz+ys.length * e.sz)=(l.flatMap e.cells).drop (k * e.sz+ys.length * e.sz) ++ R:=List.drop_append_of_le_length (by rw [hX];omega);rw [e1,e2,<-List.append_assoc,List.take_left' (by simp only [Bd,Az,List.length_drop,hX,hY];omega),Nat.add_mul]
theorem Ow.clear {α:Type} {e:Enc α} {E:TypeId} {w:World} {base g n cap:Nat} {l:List α} (h:Ow e E w base (Aa (Ac ⟨g,0,Ab⟩) n cap) l) (k:Nat) (us:List Value) (hk:k * e.sz+us.length<=l.length * e.sz) (mA:k<=l.length) :
  Ow e E (Ie w g (k * e.sz) us) base (Aa (Ac ⟨g,0,Ab⟩) k cap) (l.take k)/\w.grownBy (Ie w g (k * e.sz) us) (Ac g):=by
 have hn:n=l.length:=by
  rcases h.form with ⟨h1,_⟩ | ⟨_,_,h1,_⟩
  ·simp at h1
  ·simp only [Value.slice.injEq] at h1;exact h1.2.1
 subst hn;obtain ⟨⟨h1,h2⟩,h3⟩:=Uf (cap:=cap) l.length us _ w (k * e.sz) h;refine ⟨?_,h3⟩;rcases h2 with ⟨hv,_⟩ | ⟨g',cap',cur,hv,hb,hg,hc,hm,hs,ht⟩
 ·simp at hv
 ·simp only [Value.slice.injEq,Option.some.injEq,Addr.mk.injEq,and_true] at hv;obtain ⟨rfl,-,rfl⟩:=hv;refine ⟨by rw [e.flat_length],.inr ⟨_,_,cur,by rw [Az,Nat.min_eq_left mA],hb,hg,by rw [Az];omega,hm,hs,?_⟩⟩;rw [Az,Nat.min_eq_left mA,e.flat_take _ _ mA];have h5:cur.toList.take (k * e.sz)=(cur.toList.take (l.length * e.sz)).take (k * e.sz):=by rw [List.take_take,Nat.min_eq_left (Nat.mul_le_mul_right _ mA)]
  rw [h5,ht,Rs _ _ _ (by rw [e.flat_length];omega),List.append_assoc,List.take_left' (by rw [Az,e.flat_length];omega)]
theorem Xm {P:Program} {o:Oper} {a:Act} {K:Act->World->Prop} {Q:Exit->Act->World->Prop} (w:World) (s x:Operand) {t:TypeId} (ho:o.op = .call { callee:=.builtin .append,args:=#[s,x],argTypes:=#[t,t] })
  {v u v':Value} {w':World} (hs:a.eval s=v) (hx:a.eval x=u) (eU:(Builtin.append_ #[t,t] o.type #[v,u]).run P w = .ok v' w') (h:K (a.put o.dst v') w'):o.wp P a w K Q:=by
 unfold Oper.wp execOp;simp only [ho,resolve,invoke,builtin,Sem.run_bind,Sem.run_pure,Result.andThen_ok,List.map_toArray,List.map_cons,List.map_nil,hs,hx,eU];exact h
theorem Chg.of_grown {w w':World} {g:Nat} (h:w.grownBy w' (Ac g)):Chg [g] w w':=⟨h.os,h.tape,h.output,h.size,fun k hk hn=>h.block k hk (fun e=>hn (by injection e with e;simp [e]))⟩
theorem Aco (rs:List (Run×(Sl×Sl))) (g c base i:Nat) (w:World) (hi:i<rs.length) (hl:rs.length<=2000000) (h:Ow Cf.enc 67 w base (Aa (Ac ⟨g,0,Ab⟩) rs.length c) rs) :
  Calls Am 219 #[Aa (Ac ⟨g,0,Ab⟩) rs.length c,J U (i:Int),J U ((i:Int)+1)] w fun e w'=>e = .returned (Aa (Ac ⟨g,0,Ab⟩) (rs.length - 1) c)/\Ow Cf.enc 67 w' base (Aa (Ac ⟨g,0,Ab⟩) (rs.length - 1) c) (rs.take i ++ rs.drop (i+1))/\w.grownBy w' (Ac g):=by
 obtain ⟨j0,bX,jz0,jz1,jz2⟩:=info_parts Kn;have hR:=Rd.of_own h;have cI:rs.length<=c:=hR.cap;have h1:(0:Int)<=(i:Int):=Bl;have h2:(0:Int)<=(i:Int)+1:=Bl;have h3:(i:Int)<=(i:Int)+1:=Bl;have h4:(i:Int)+1<=(rs.length:Int):=Bl;have h5:(rs.length:Int)<=(c:Int):=Bl;have h6:(i:Int)<=(c:Int):=Bl;have h7:((i:Int) == (i:Int)+1)=false:=by simp;omega
 have h8:((i:Int)+1).toNat=i+1:=Bl;go_enter func219,ntmps219;go_upto_region 5 with fail
 refine Go.wp_region_noPanic ?_;refine wp_region_held_drew (S:=fun _=>True) Bm trivial (fun hHeld=>?_);have hd:Ow Cf.enc 67 w.drew base (Aa (Ac ⟨g,0,Ab⟩) rs.length c) rs:=h.below (Bs _ _).drew;have gd:w.grownBy w.drew (Ac g):=(Chg.of_below [g] (Bs w w).drew).toGrown;generalize w.drew=w1 at *
 have hR1:=Rd.of_own hd;have hc0:¬ c=0:=Bl;refine tY 0 ?_
 (try simp only [pS])
 refine tY 1 ?_
 (try simp only [pS])
 refine tY 2 ?_
 (try simp only [pS])
 refine tY 3 ?_
 (try simp only [pS])
 refine tY 4 ?_
 (try simp only [pS])
 obtain ⟨ad,hadv,nC⟩:∃ ad:Addr,((if c=i+1 then Ac (⟨g,0,Ab⟩:Addr) else Ac ⟨g,(i+1) * 8,Ab⟩)=Ac ad)/\Rd Cf.enc w1 w1 (Aa (Ac ad) (rs.length - (i+1)) (c - (i+1))) (rs.drop (i+1)):=by
  by_cases hc:c=i+1
  ·refine ⟨⟨g,0,Ab⟩,by rw [if_pos hc],?_⟩;rw [List.drop_eq_nil_of_le Bl,show rs.length - (i+1)=0 by omega];exact ⟨_,_,rfl,Ag _,fun h=>absurd h Bo⟩
  ·refine ⟨⟨g,(i+1) * 8,Ab⟩,by rw [if_neg hc],?_⟩;have h9:=hR1.dropM (i+1) Bl;have e:(Ac (⟨g,0,Ab⟩:Addr)).map (fun x=>x.add ((i+1) * Cf.enc.sz))=Ac ⟨g,(i+1) * 8,Ab⟩:=by
    show Ac ((⟨g,0,Ab⟩:Addr).add ((i+1) * 8))=_;rw [Addr.add_lit,Nat.zero_add]
   rw [e] at h9;exact h9
 obtain ⟨w2,hka,fX,dW⟩:=T7 (P:=Am) w1 29 29 67 j0 underlying29 bX jz1 (e:=Cf.enc) Bq hd i ad _ _ _ nC Bl;obtain ⟨q,hq⟩:∃ q,q+1=rs.length:=⟨rs.length - 1,Bl⟩
 rw [show i+(rs.length - (i+1))=q by omega] at hka fX;have hL:(rs.take i ++ rs.drop (i+1) ++ rs.drop q).length=rs.length:=by simp;omega
 refine tY 5 ?_
 (try simp only [pS])
 refine rC 6 (fun K_ hK=>?_);refine Xm w1 (.tmp 22) (.tmp 25) rfl rfl rfl hka ?_;refine hK.out _ _ trivial (fun hHeld=>?_);clear hK K_
 (try simp only [pS])
 refine rC 7 (fun K_ hK=>?_);go_simp;refine hK.out _ _ trivial (fun hHeld=>?_);clear hK K_
 (try simp only [pS])
 refine wpAnyH_done Bm ?_ _;refine NoPanic.normal ?_;clear hka hHeld hadv nC hR1;have hR2:=Rd.of_own fX;have hf2:=fun j=>fX.free j;have kz:∀ w,(zeroValue 67).run Am w = .ok (.agg #[J U 0,J U 0,J U 0,J U 0,J U 0,Aa Ab 0 0,J U 0,Aa Ab 0 0]) w:=fun w=>by
  simp [zeroValue,typeInfo,bX,jz0]
 have kc:=Oc (P:=Am) w2 29 67 0 (.agg #[J U 0,J U 0,J U 0,J U 0,J U 0,Aa Ab 0 0,J U 0,Aa Ab 0 0]) underlying29 kz g (q * 8) (rs.length - q) (c - q) Bl (fun v hv=>by
   simp [Value.cells] at hv;first | (rcases hv with rfl | rfl<;>rfl) | (rcases hv with rfl | rfl | rfl<;>rfl) | (rcases hv with rfl | rfl | rfl | rfl<;>rfl) | (rcases hv with (rfl | rfl) | rfl<;>rfl)) (fun x hx=>by
   have dR:x<(rs.length - q) * 8:=hx
   have:=hR2.some_ Bq (q * 8+x) (by
    show _<_ * 8;rw [hL];omega)
   rw [Nat.zero_add] at this;exact this) hf2
 have hq0:(0:Int)<=(q:Int):=Bl;have hq1:(q:Int)<=(rs.length:Int):=Bl;have hcq:¬ c=q:=Bl;obtain ⟨vL,sS⟩:=fX.clear q (Builtin.zeroCells #[J U 0,J U 0,J U 0,J U 0,J U 0,Aa Ab 0 0,J U 0,Aa Ab 0 0] (rs.length - q)).toList (by
  have e:(Builtin.zeroCells #[J U 0,J U 0,J U 0,J U 0,J U 0,Aa Ab 0 0,J U 0,Aa Ab 0 0] (rs.length - q)).toList.length=(rs.length - q) * 8:=by simp [Builtin.zeroCells]
  rw [e,hL];show q * 8+_<=_ * 8;omega) (by rw [hL];omega)
 rw [List.take_left' (by simp;omega)] at vL;have HF:=Br (show Ow Cf.enc 67 _ base (Aa (Ac ⟨g,0,Ab⟩) (rs.length - 1) c) (rs.take i ++ rs.drop (i+1))/\w.grownBy _ (Ac g) from ⟨by rw [show rs.length - 1=q by omega];exact vL,(gd.trans dW).trans sS⟩);have hq':=Br hq;clear vL sS gd dW hR2 fX hq hd;go_wp2;go_ret;exact ⟨by rw [show rs.length - 1=q by have:=hq'.out;omega];rfl,HF.out⟩
theorem Aah (y:Yard) (s:Sl×Sl) (w:World) (hl:Ca y<=2000000) (hY:Dk y) (h:Bw.rd w w y s) :
  Calls Am 215 #[Ds y s] w (Dv (Dt.list (Dt.flats Iz)) slV ((Gg y y.runs.length).map (I5 y)) w):=by
 obtain ⟨⟨A1,n1,c1⟩,⟨A2,n2,c2⟩⟩:=s;obtain rfl:n2=y.runs.length:=RdL.at1 (s:=⟨A2,n2,c2⟩) h.2;have CX:=Br (fun W (hW:Below w w W)=>show RdL Cf W w.heap.size (Aa A2 y.runs.length c2) y.runs from (Bw.rd_below (x:=y) (s:=(⟨A1,n1,c1⟩,⟨A2,y.runs.length,c2⟩)) h hW).2);have nU:y.runs.length<=8:=hY.2.2.2.2.2.2.1;have HP:=Br hY;clear h hY;obtain ⟨it,i0,z0,z1,z2⟩:=info_parts Yn;obtain ⟨W,aH,X,B0⟩:=bx1 w 31 [J U y.now,J U y.seq,Aa A1 n1 c1,Aa A2 y.runs.length c2];go_enter func215,ntmps215;go_wp2;rw [<-aH.out];clear aH;go_loopw [3,11] (fun v i wr=>∃ k:Nat,k<=y.runs.length/\i = J U k/\Hid (Bls (Dt.flats Iz) 26 wr (w+1) v ((Gg y k).map (I5 y)))/\DBox w [J U y.now,J U y.seq,Aa A1 n1 c1,Aa A2 y.runs.length c2] wr/\Below w w wr) (fun _ i _=>y.runs.length - (intOf i).toNat);case atStart=>exact ⟨0,Ag _,rfl,⟨[],rfl,Bld.nil _ _ _ _⟩,X,B0⟩
 case round =>
  clear X B0;obtain ⟨k,hk,rfl,hB,X,hb⟩:=hrel;have mU:=X.lt;by_cases aA:k<y.runs.length
  ·have aB:(k:Int)<(y.runs.length:Int):=Bl;have cE:(0:Int)<=(k:Int):=Bl;obtain ⟨b,o,⟨⟨A8,n8,c8⟩,⟨At,nt,ct⟩⟩,rfl,aJ,cP,e0,e1,e2,e3,e4,e5,e6,e7⟩:=(CX.out w (Bs _ _)).run aA;obtain rfl:nt=y.runs[k].tasks.length:=RdL.at1 (s:=⟨At,nt,ct⟩) cP.2;have HT:=Br (fun W (hW:Below w w W)=>show RdL C8 W w.heap.size (Aa At y.runs[k].tasks.length ct) y.runs[k].tasks from RdL.below cP.2 hW);clear cP;replace e0:=(hb.cell (p:=⟨b,_,Ab⟩) aJ).trans e0;replace e1:=(hb.cell (p:=⟨b,_,Ab⟩) aJ).trans e1;replace e2:=(hb.cell (p:=⟨b,_,Ab⟩) aJ).trans e2;replace e3:=(hb.cell (p:=⟨b,_,Ab⟩) aJ).trans e3;replace e4:=(hb.cell (p:=⟨b,_,Ab⟩) aJ).trans e4;replace e5:=(hb.cell (p:=⟨b,_,Ab⟩) aJ).trans e5;replace e6:=(hb.cell (p:=⟨b,_,Ab⟩) aJ).trans e6;replace e7:=(hb.cell (p:=⟨b,_,Ab⟩) aJ).trans e7;have R:=DBox.new 67 [J U y.runs[k].id,J U y.runs[k].plan.prio,J U y.runs[k].plan.most,J U y.runs[k].plan.wait,J U y.runs[k].plan.tasks,Aa A8 n8 c8,J U y.runs[k].state,Aa At y.runs[k].tasks.length ct] wr (b:=wr) rfl;have ha:Below wr wr (wr.alloc (.cells #[J U y.runs[k].id,J U y.runs[k].plan.prio,J U y.runs[k].plan.most,J U y.runs[k].plan.wait,J U y.runs[k].plan.tasks,Aa A8 n8 c8,J U y.runs[k].state,Aa At y.runs[k].tasks.length ct] 67)):=Bu;have X_:=X.g4;go_upto_region 5 with fail
   clear X_;have hvr:=Br (show ∀ v z,Bls (Dt.flats Iz) 26 wr (w+1) v ((Gg y k).map (I5 y))->v.ownBlock=Ac z->z≠wr.heap.size from fun v z ⟨rs,hm,pX⟩ hz=>by have h1:=pX.ow.within z hz;omega);have hvr2:=fun z=>hvr.out _ z hB.out;replace X:=X.below ha;replace hb:=Bv hb ha;have mY:=Br (hB.out.below ha);have eC:=R.lt;have tU:w.heap.size+1<=wr.heap.size:=mU;clear e0 e1 e2 e3 e4 e5 e6 e7 aJ ha hB hvr;generalize wr.alloc (.cells #[J U y.runs[k].id,J U y.runs[k].plan.prio,J U y.runs[k].plan.most,J U y.runs[k].plan.wait,J U y.runs[k].plan.tasks,Aa A8 n8 c8,J U y.runs[k].state,Aa At y.runs[k].tasks.length ct] 67)=w1 at *
   generalize wr.heap.size=rb at *
   have R_:=R.g8;go_wp2;clear R_;go_loopw [3,18] (fun vv i wr=>∃ (n:Nat) (v:Value),n<=y.runs[k].tasks.length/\i = J U n/\v=vv/\Hid (Bls (Dt.flats Iz) 26 wr (w+1) v ((Gg y k ++ Jh y k n).map (I5 y)))/\Hid (∀ z,v.ownBlock=Ac z->z≠rb)/\DBox w [J U y.now,J U y.seq,Aa A1 n1 c1,Aa (Ac ⟨b,o,Ab⟩) y.runs.length c2] wr/\DBox rb [J U y.runs[k].id,J U y.runs[k].plan.prio,J U y.runs[k].plan.most,J U y.runs[k].plan.wait,J U y.runs[k].plan.tasks,Aa A8 n8 c8,J U y.runs[k].state,Aa At y.runs[k].tasks.length ct] wr/\Below w w wr) (fun _ i _=>y.runs[k].tasks.length - (intOf i).toNat);case atStart=>exact ⟨0,_,Ag _,rfl,rfl,by rw [Wd,List.append_nil];exact mY,Br hvr2,X,R,hb⟩
   case round =>
    clear X R hb mY hvr2 eC;obtain ⟨n,v,hn,rfl,rfl,hB,jR,X,R,hb⟩:=hrel;by_cases fF:n<y.runs[k].tasks.length
    ·have fR:=(Eb (Ev HP.out aA)).2;have nT:(n:Int)<(y.runs[k].tasks.length:Int):=Bl;have vT:(0:Int)<=(n:Int):=Bl;obtain ⟨b',o',_,rfl,bF,_,d0,d1,d2,d3⟩:=(HT.out wr hb).task fF;have hU:=Br (fun hs=>We HP.out aA fF hs);have hJ:=Br (show Cv (Hi y k) n=y.runs[k].tasks[n] by rw [E6 aA,Cu fF]);have hRow:Hid (I5 y (k,n)=[y.runs[k].id,(n:Int),y.runs[k].tasks[n].try_]):=by
      show I5 y (k,n)=_;unfold I5;rw [hJ.out,E6 aA]
     have aE:=Br (show (Gg y k ++ Jh y k n).length<=3000000 by
      have h1:=Lt (Nk HP.out) k;have h2:=Sh y k n;have h5:=(Eb (Ev HP.out aA)).2;rw [Bd];omega)
     have hlT:=Br (rfl:y.runs[k].tasks.length=y.runs[k].tasks.length);generalize y.runs[k].tasks[n]=x at *
     have TB:=DBox.new 203 [J U x.state,J U x.need,J U x.try_,J U x.until_] wr (b:=wr) rfl;have b2:Below wr wr (wr.alloc (.cells #[J U x.state,J U x.need,J U x.try_,J U x.until_] 203)):=Bu;go_upto_region 8 with fail
     have eC:=R.lt;have hvt:=Br (show ∀ z,v.ownBlock=Ac z->w.heap.size+1<=z/\z<wr.heap.size from fun z hz=>by
      obtain ⟨rs,hm,pX⟩:=hB.out;exact pX.ow.within z hz)
     replace X:=X.below b2;replace R:=R.below b2;have aK:=Bv hb b2;have mY:=Br (hB.out.below b2);clear b2 d0 d1 d2 d3 hb hB bF;generalize wr.alloc (.cells #[J U x.state,J U x.need,J U x.try_,J U x.until_] 203)=w2 at *
     generalize wr.heap.size=tb at *
     have X_:=X.g4;have TB_:=TB.g4;by_cases q:x.state=3;case neg =>
      have q1:(x.state == 3)=false:=by simp [q]
      have S:=Br (Rn (y:=y) (k:=k) (n:=n) (by rw [hJ.out];unfold Rm;rw [q1];rfl));clear q;exact Ami
     have q1:(x.state == 3)=true:=by simp [q]
     have hu:=hU.out q;have wr1:U.wrap (x.until_ - 1)=x.until_ - 1:=Aq _ (by have:=HP.out.1;omega);have q2:¬ x.until_<=y.now:=Bl;by_cases q3:x.until_ - 1=y.now;case neg =>
      have q4:(x.until_ - 1 == y.now)=false:=by simp [q3]
      have S:=Br (Rn (y:=y) (k:=k) (n:=n) (by rw [hJ.out];unfold Rm;rw [q1,decide_eq_false Bl];rfl));clear q hu;exact Ami
     have wr2:U.wrap y.now=y.now:=Aq _ (by have:=HP.out.1;omega);have S:=Br (Yo (y:=y) (k:=k) (n:=n) (by rw [hJ.out];unfold Rm;rw [q1,decide_eq_true Bl];rfl));clear q hu;have R_:=R.g8;go_upto_region 9 with fail
     generalize hrid:y.runs[k].id=rid at *
     have o9:=Ow.intsK w2 3 [rid,(n:Int),x.try_] (cs:=#[J U rid,J U (n:Int),J U x.try_]) rfl (n:=3) (g:=w2) (base:=w2) rfl rfl (Bt _) Bo;have b4:Below w2 w2 (w2.alloc (.cells #[J U rid,J U (n:Int),J U x.try_] 3)):=Bu;obtain ⟨hw9,hwB⟩:=Hw.of_ow o9;have b5:Below (w2.alloc (.cells #[J U rid,J U (n:Int),J U x.try_] 3)) (w2.alloc (.cells #[J U rid,J U (n:Int),J U x.try_] 3)) ((w2.alloc (.cells #[J U rid,J U (n:Int),J U x.try_] 3)).alloc (.cells #[Aa (Ac ⟨w2,0,Ab⟩) 3 3] 26)):=Bu;have b45:=Bv b4 b5;obtain ⟨rs,hm,kR⟩:=mY.out;have uV:rs.length<=3000000:=Anc
     have uV:=Br uV;have cB:=Bv aK b45;have X3:=X.below b45;have R3:=R.below b45;have eB:=aK.size;go_wp2_with (at_builtin;refine Ci _ (Dt.flats Iz).enc Bq rfl (.tmp 41) (.tmp 48) rfl underlying254 i0 z0 z1 z2 rfl (v:=v) (l:=rs) rfl (kR.ow.below b45) (A:=Ac ⟨w2+1,0,Ab⟩) (m:=1) (c:=1) (ys:=[([rid,(n:Int),x.try_],(⟨Ac ⟨w2,0,Ab⟩,3,3⟩:Sl))]) rfl (Rd.one (Dt.flats Iz).enc _ _ ([rid,(n:Int),x.try_],(⟨Ac ⟨w2,0,Ab⟩,3,3⟩:Sl)) Bo rfl 1 (Bt _) (Nat.lt_succ_self _)) uV.out Bo Bq (by have:=b45.size;omega) ?_;intro v6 w6 o6 gg f6)
     have qM:∀ z,v.ownBlock=Ac z->w.heap.size+1<=z/\z<tb/\z≠rb:=fun z hz=>⟨(hvt.out z hz).1,(hvt.out z hz).2,jR.out z hz⟩
     have X6:=X3.off gg (fun e=>by have:=(qM _ e.symm).1;omega);have R6:=R3.off gg (fun e=>(qM _ e.symm).2.2 rfl);have hb6:Below w w w6:=cB.grown gg cB.size (fun g hg=>by have:=(qM g hg).1;omega);have hP:=Bld.push1 (d:=Dt.flats Iz) (x:=[rid,(n:Int),x.try_]) (s:=(⟨Ac ⟨w2,0,Ab⟩,3,3⟩:Sl)) kR b4 hw9 (fun y hy=>hwB y hy) Bl b5 o6 gg f6;have fZ:(rs ++ [([rid,(n:Int),x.try_],(⟨Ac ⟨w2,0,Ab⟩,3,3⟩:Sl))]).map (·.1)=(Gg y k ++ Jh y k (n+1)).map (I5 y):=Al9
     have hvn6:=Br (show ∀ z,v6.ownBlock=Ac z->z≠rb from fun z hz=>by
      rcases f6 with f6 | f6
      ·exact jR.out z (f6.symm.trans hz)
      ·have h1:Ac _=Ac z:=f6.symm.trans hz;have h2:=Option.some.inj h1;have h3:=b45.size;have h4:=R.lt;omega)
     have hB7:=Br (show Bls (Dt.flats Iz) 26 w6 (w.heap.size+1) v6 ((Gg y k).map (I5 y) ++ (Jh y k (n+1)).map (I5 y)) by rw [<-List.map_append];exact ⟨_,fZ,hP⟩);clear hP fZ kR o6 gg f6 X3 R3 cB hm;refine ⟨⟨v6,J U (n:Int),.pointer (Ac ⟨tb,0,Ab⟩),J U ((n+1:Nat):Int),⟨n+1,fF,rfl,hB7,hvn6,X6,R6,hb6⟩,rfl,rfl,rfl,Bo⟩,clM⟩
    ·exact Ajz
  ·exact Ajd
section
def Jx (k n:Nat):List (Nat×Nat):=(List.range n).map fun t=>(k,t)
def Ic (y:Yard) (k:Nat):List (Nat×Nat):=(List.range k).flatMap fun j=>Jx j (Hi y j).tasks.length
theorem Ta (k n:Nat):Jx k (n+1)=Jx k n ++ [(k,n)]:=by
 unfold Jx;rw [List.range_succ,List.map_append];rfl
theorem O4 (y:Yard) (k:Nat):Ic y (k+1)=Ic y k ++ Jx k (Hi y k).tasks.length:=by
 unfold Ic;rw [List.range_succ,List.flatMap_append];simp
open Classical in
noncomputable def Mh (y:Yard):Yard:=if Dk y then Fo y (Ic y y.runs.length) else y
theorem Tb {b:Nat} {w:World} {u0 u1 u2 u3:Value} (X:DBox b [u0,u1,u2,u3] w) {v0 v1:Value} {rest:List Value} :
  (results Tryz.f171 (v0 :: v1 :: .pointer (Ac ⟨b,0,Ab⟩) :: rest).toArray).run Am w = .ok (.agg #[u0,u1,u2,u3]) w:=by
 have c0:=X.cell 0 _ rfl;have c1:=X.cell 1 _ rfl;have c2:=X.cell 2 _ rfl;have c3:=X.cell 3 _ rfl;simp [results,results171,go_sem,c0,c1,c2,c3]
theorem T8 (y:Yard) (s:Sl×Sl) (w:World) (hl:Ca y<=2000000) (h:Bw.rd w w y s) :
  Calls Am 171 #[Ds y s] w (Dv Bw Ds (Mh y) w):=by
 have HR:=Br (show ∀ W,Below w w W->Bw.rd W W y s from fun W hW=>Bw.rd_more (Bw.rd_below h hW) hW.size);obtain ⟨⟨A1,n1,c1⟩,⟨A2,n2,c2⟩⟩:=s;have CC:=Br (fun W hW=>E1 y (⟨A1,n1,c1⟩,⟨A2,n2,c2⟩) W hl (HR.out W hW));have CY:=Br (fun W hW=>Gl y (⟨A1,n1,c1⟩,⟨A2,n2,c2⟩) W hl (HR.out W hW));clear h;obtain ⟨W,aH,X,RES,B0⟩:=bx2 w 31 [J U y.now,J U y.seq,Aa A1 n1 c1,Aa A2 n2 c2] 31 [J U 0,J U 0,Aa Ab 0 0,Aa Ab 0 0];go_enter func171,ntmps171;go_wp2_with fail
 rw [<-aH.out];clear aH;have eC:w.heap.size+1<W.heap.size:=RES.lt;refine (CC.out _ B0).mono ?_;rintro e1 w1 ⟨⟨⟨B1,m1,e1⟩,⟨B2,m2,e2⟩⟩,F,rfl,oy,nF,b1⟩;have bE:=b1.size;have cS:=Bw.ow_lt (F:=F) (x:=y) (s:=(⟨B1,m1,e1⟩,⟨B2,m2,e2⟩)) oy;replace X:=X.below b1;replace RES:=RES.below b1;replace B0:=Bv B0 b1;clear b1;go_upto_region 2 with fail
 have OB:=DBox.new 31 [J U y.now,J U y.seq,Aa B1 m1 e1,Aa B2 m2 e2] w1 (b:=w1) rfl;have b2:Below w1 w1 (w1.alloc (.cells #[J U y.now,J U y.seq,Aa B1 m1 e1,Aa B2 m2 e2] 31)):=Bu;replace X:=X.below b2;replace RES:=RES.below b2;replace oy:=Bw.ow_below (F:=F) (x:=y) (s:=(⟨B1,m1,e1⟩,⟨B2,m2,e2⟩)) oy b2;replace B0:=Bv B0 b2;have ow1:=OB.lt;clear b2;generalize w1.alloc (.cells #[J U y.now,J U y.seq,Aa B1 m1 e1,Aa B2 m2 e2] 31)=w2 at *
 generalize cR:w1.heap.size=ob at *
 have X_:=X.g4;obtain ⟨OB_0,OB_1,OB_2,OB_3,OB_l⟩:=OB.g4;go_wp2_with fail
 refine (CY.out _ B0).mono ?_;rintro e1 w3 ⟨rfl,b3⟩;clear X_;clear OB_0 OB_1 OB_2 OB_3 OB_l;replace X:=X.below b3;replace OB:=OB.below b3;replace RES:=RES.below b3;replace oy:Bw.ow w3 F y (⟨B1,m1,e1⟩,⟨B2,m2,e2⟩):=owB oy b3;replace B0:=Bv B0 b3;clear b3;have X_:=X.g4;obtain ⟨OB_0,OB_1,OB_2,OB_3,OB_l⟩:=OB.g4;by_cases p0:Dk y;case neg =>
  rw [Cg p0];have H2:=Br (show Mh y=y from if_neg p0);clear p0;have RES_:=RES.g4;have rf:=RES.free;go_wp2;have en1:w.heap.size+1∉F:=fun hx=>by have:=nF _ hx;omega
  refine Aj (Tb (DBox.row4 RES rfl _ _ _ _)) rfl ⟨(⟨B1,m1,e1⟩,⟨B2,m2,e2⟩),F,by rw [H2.out],by rw [H2.out];exact (by (repeat (refine Dt.ow_set Bw ?_ en1 _));exact (show Bw.ow _ F y (⟨B1,m1,e1⟩,⟨B2,m2,e2⟩) from oy)),fun x hx=>by have:=nF x hx;omega,?_⟩;repeat (first | (with_reducible exact B0) | refine Ad ?_ Bp _)
 rw [Di p0];have P0:=Br p0;have H2:=Br (show Mh y=Fo y (Ic y y.runs.length) from if_pos p0);clear p0;have gQ:ob<w3:=OB.lt;have hB3:=B0.size;have fK:w.heap.size+1<w3.heap.size:=Bl;have rU:y.runs.length<=8:=P0.out.2.2.2.2.2.2.1;have gF:Hid ((∀ x∈F,w+1<x)/\ob∉F/\True):=⟨fun x hx=>by have:=nF x hx;omega,fun hx=>by have:=cS _ hx;omega,trivial⟩
 clear X_;clear OB_0 OB_1 OB_2 OB_3 OB_l;clear X HR CC CY nF cS;go_wp2;go_loopw [4] (fun iv wr=>∃ (k:Nat) (Z:Yard) (s:Sl×Sl) (F:List Nat),k<=y.runs.length/\iv = J U k/\Hid (Trn y (12 * k) Z)/\Hid (Fo y (Ic y k)=Z)/\Hid (Bw.ow wr F Z s)/\Hid ((∀ x∈F,w+1<x)/\ob∉F/\True)/\DBox ob (Ht Z s) wr/\DBox (w+1) [J U 0,J U 0,Aa Ab 0 0,Aa Ab 0 0] wr/\Below w w wr/\w3.heap.size<=wr.heap.size) (fun i _=>y.runs.length - (intOf i).toNat);case atStart=>exact ⟨0,y,(⟨B1,m1,e1⟩,⟨B2,m2,e2⟩),F,Ag _,rfl,Trn.start P0.out,rfl,oy,gF,OB,RES,B0,Bt _⟩
 case round =>
  clear oy gF OB RES B0;obtain ⟨k,Z,s,F,hk,rfl,hT,hZ,oy,hF,OB,RES,hb,mK⟩:=hrel;obtain ⟨⟨B1,m1,e1⟩,⟨B2,m2,e2⟩⟩:=s;have dH:=Br (show m2=y.runs.length from (RdL.at1 (s:=⟨B2,m2,e2⟩) (Bw.ow_rd oy.out).2).trans hT.out.len);obtain ⟨OB_0,OB_1,OB_2,OB_3,OB_l⟩:=OB.g4;by_cases aA:k<y.runs.length
  ·have aB:(k:Int)<(m2:Int):=by have:=dH.out;omega
   have cE:(0:Int)<=(k:Int):=Bl;go_wp2;go_loopw [5] (fun iv wr=>∃ (t:Nat) (Z:Yard) (s:Sl×Sl) (F:List Nat),t<=y.runs[k].tasks.length/\iv = J U t/\Hid (Trn y (12 * k+t) Z)/\Hid (Fo y (Ic y k ++ Jx k t)=Z)/\Hid (Bw.ow wr F Z s)/\Hid ((∀ x∈F,w+1<x)/\ob∉F/\True)/\DBox ob (Ht Z s) wr/\DBox (w+1) [J U 0,J U 0,Aa Ab 0 0,Aa Ab 0 0] wr/\Below w w wr/\w3.heap.size<=wr.heap.size) (fun i _=>y.runs[k].tasks.length - (intOf i).toNat);case atStart=>exact ⟨0,Z,(⟨B1,m1,e1⟩,⟨B2,m2,e2⟩),F,Ag _,rfl,hT,by rw [show Jx k 0=[] from rfl,List.append_nil];exact hZ,oy,hF,OB,RES,hb,mK⟩
   case round =>
    clear OB_0 OB_1 OB_2 OB_3 OB_l;clear oy hF OB RES hb mK hT hZ dH aB;obtain ⟨t,Z,s,F,ht,rfl,hT,hZ,oy,hF,OB,RES,hb,mK⟩:=hrel;obtain ⟨⟨B1,m1,e1⟩,⟨B2,m2,e2⟩⟩:=s;replace oy:Bw.ow wr F Z (⟨B1,m1,e1⟩,⟨B2,m2,e2⟩):=oy.out;have bR:∀ x∈F,x<wr:=Bw.ow_lt (F:=F) (x:=Z) (s:=(⟨B1,m1,e1⟩,⟨B2,m2,e2⟩)) oy;have fR:=(Eb (Ev P0.out aA)).2;have eD:k<Z.runs.length:=by rw [hT.out.len];exact aA
    have gA:=hT.out.run k eD aA;have oyr:=(Bw.ow_rd (F:=F) (x:=Z) (s:=(⟨B1,m1,e1⟩,⟨B2,m2,e2⟩)) oy).2;have dH:=Br (show m2=Z.runs.length from RdL.at1 (s:=⟨B2,m2,e2⟩) oyr);have gJ:(k:Int)<(m2:Int):=by have:=dH.out;omega
    obtain ⟨gr,orr,⟨sk1,⟨tka,tkn,tkc⟩⟩,rfl,dN,dI,c0,c1,c2,c3,c4,c5,c6,c7⟩:=RdL.run (show RdL Cf wr wr.heap.size (Aa B2 m2 e2) Z.runs from oyr) eD;have pG:=Br (show tkn=Z.runs[k].tasks.length from RdL.at1 (s:=⟨tka,tkn,tkc⟩) dI.2);have bK:=Br gA.2.2;have bN:=Br gA.1;clear gA oyr;obtain ⟨OB_0,OB_1,OB_2,OB_3,OB_l⟩:=OB.g4;by_cases aW:t<y.runs[k].tasks.length
    ·have kF:(t:Int)<(tkn:Int):=by have:=pG.out;have:=bK.out;omega
     have gW:(0:Int)<=(t:Int):=Bl;have kD:t<Z.runs[k].tasks.length:=by have:=bK.out;omega
     have hN:=Br (hT.out.fail eD kD);have aF:Hid (Fo y (Ic y k ++ Jx k (t+1))=Gr Z k t):=by
      show Fo y (Ic y k ++ Jx k (t+1))=_;rw [Ta,<-List.append_assoc];unfold Fo;rw [List.foldl_append,<-hZ.out];rfl
     obtain ⟨gt,ot,_,rfl,hgt,_,d0,d1,d2,d3⟩:=RdL.task (show RdL C8 wr wr.heap.size (Aa tka tkn tkc) Z.runs[k].tasks from dI.2) kD;have hJ:=Br (show Cv (Hi Z k) t=Z.runs[k].tasks[t] by rw [E6 eD,Cu kD]);have hJ2:=Br (E6 eD);clear d1 d2 d3;generalize nB:Z.runs[k]=r at *
     replace nB:=Br nB;by_cases q:r.tasks[t].state=3;case neg =>
      have q1:(r.tasks[t].state == 3)=false:=by simp [q]
      have bJ:=Br (show Gr Z k t=Z from Lu (by rw [hJ.out];exact q));clear q;go_wp2;exact ⟨⟨t+1,Z,(⟨B1,m1,e1⟩,⟨Ac ⟨gr,orr,Ab⟩,m2,e2⟩),F,aW,by go_num,by rw [bJ.out] at hN;exact hN,aF.out.trans bJ.out,oy,hF,OB,RES,hb,mK⟩,clM⟩
     have q1:(r.tasks[t].state == 3)=true:=by simp [q]
     have aP:Hid (I4 r t):=⟨bN.out,⟨Bl,Bl⟩,by rw [Ao,Cu kD];exact q⟩
     have bJ:=Br (show Gr Z k t=Gn Z k (Dp r t) by rw [Kz (by rw [hJ.out];exact q),hJ2.out]);have CF:=Br (My r (sk1,⟨Ac ⟨gt,ot,Ab⟩,tkn,tkc⟩) t wr.drew (by have:=Kw bN.out;omega) aP.out (Cf.rd_below dI (Bs _ _).drew));have gR:=OB.lt;clear q dI;go_wp2;refine Dh (fun w'=>w'.cell? ⟨ob,0,Ab⟩=Ac (J U Z.now)/\w'.cell? ⟨ob,1,Ab⟩=Ac (J U Z.seq)/\w'.cell? ⟨ob,2,Ab⟩=Ac (Aa B1 m1 e1)/\w'.cell? ⟨ob,3,Ab⟩=Ac (Aa (Ac ⟨gr,orr,Ab⟩) m2 e2)) 10 Bm ?_ (fun hHeld=>?_)
     ·exact ⟨OB_0,OB_1,OB_2,OB_3⟩
     refine aT 0 hHeld ?_;try simp only [pS]
     refine aT 1 hHeld ?_;try simp only [pS]
     refine aT 2 hHeld ?_;try simp only [pS]
     refine aT 3 hHeld ?_;try simp only [pS]
     refine aT 4 hHeld ?_;try simp only [pS]
     refine aT 5 hHeld ?_;try simp only [pS]
     refine aT 7 hHeld ?_;try simp only [pS]
     refine oT 6 (fun K hK=>?_);go_simp;refine hK.out _ _ (fun _=>?_) ?_
     ·exact ⟨OB_0,OB_1,OB_2,OB_3⟩
     clear hK K;try simp only [pS]
     refine oT 8 (fun K hK=>?_)
     (go_simp;refine CF.out.mono ?_;rintro e5 wa ⟨sr,Fr,rfl,orn,nFr,ba⟩;have nM:∀ x∈Fr,wr<=x:=nFr;have oya:Bw.ow wa F Z (⟨B1,m1,e1⟩,⟨Ac ⟨gr,orr,Ab⟩,m2,e2⟩):=owB oy (Bv (Bs _ _).drew ba);have CT:=Br (Lm Z (⟨B1,m1,e1⟩,⟨Ac ⟨gr,orr,Ab⟩,m2,e2⟩) k (Dp r t) sr wa F Fr hT.out.four (fun s hs=>by have:=hT.out.all s hs;omega) (by have:=hT.out.seq;omega) eD (by rw [Il];have:=Eb bN.out;omega) (by rw [nB.out];have:=Eb bN.out;omega) oya orn (fun x hx bI=>by have h1:=nM x hx;have h2:=bR x bI;omega)))
     refine hK.out _ _ (fun _=>?_) ?_
     ·exact ⟨(ba.cell (p:=⟨_,_,Ab⟩) (by show ob<wr;omega)).trans OB_0,(ba.cell (p:=⟨_,_,Ab⟩) (by show ob<wr;omega)).trans OB_1,(ba.cell (p:=⟨_,_,Ab⟩) (by show ob<wr;omega)).trans OB_2,(ba.cell (p:=⟨_,_,Ab⟩) (by show ob<wr;omega)).trans OB_3⟩
     clear hK K;try simp only [pS]
     refine oT 9 (fun K hK=>?_)
     (go_simp;refine CT.out.mono ?_;rintro e6 wb ⟨s6,F6,rfl,oy6,n6,cb⟩;have OB6:=(OB.below (Bv (Bs _ _).drew ba)).chg cb hF.out.2.1;have q0:=OB6.cell 0 _ rfl;have q1:=OB6.cell 1 _ rfl;have q2:=OB6.cell 2 _ rfl;have q3:=OB6.cell 3 _ rfl;have qf:=OB6.free;have ql:=OB6.lt;generalize Gn Z k (Dp r t)=Z1 at *)
     refine hK.out _ _ (fun _=>?_) ?_
     ·exact ⟨q0,q1,q2,q3⟩
     clear hK K;try simp only [pS]
     refine oT 10 (fun K hK=>?_);go_simp;refine hK.out _ _ (fun aC=>absurd rfl aC) ?_;clear hK K;try simp only [pS]
     refine Eh Bm ?_ _;have ba':Below wr wr wa:=Bv (Bs _ _).drew ba;have hbas:=ba'.size;have hcbs:=cb.size;have kL:=OB.lt;have hRl7:=RES.lt;have dJ:=Chg.cells4 wb ob 0 1 2 3 (J U Z1.now) (J U Z1.seq) (Aa s6.1.a s6.1.n s6.1.c) (Aa s6.2.a s6.2.n s6.2.c);have bT:=Br (show ∀ x,x∈[ob]->x=ob from fun x hx=>by simpa using hx);have OB7:=DBox.row4 OB6 rfl (J U Z1.now) (J U Z1.seq) (Aa s6.1.a s6.1.n s6.1.c) (Aa s6.2.a s6.2.n s6.2.c);have RES7:=((RES.below ba').chg cb (fun hx=>by have:=hF.out.1 _ hx;omega)).chg dJ (fun hx=>by have:=bT.out _ hx;omega);have hb7:=((Bv hb ba').trans (cb.below (by have:=(Bv hb ba').size;omega) (fun x hx=>by have:=hF.out.1 x hx;omega))).trans (dJ.below (by have:=hb.size;omega) (fun x hx=>by have:=bT.out x hx;omega));have tN:∀ x∈F6,x∈F\/wr<=x:=fun x hx=>by
      exact Amm
     have nN:ob∉F6:=fun hx=>by
      rcases tN _ hx with h | h
      ·exact hF.out.2.1 h
      ·omega
     have oy7:=Bw.ow_chg (F:=F6) (x:=Z1) (s:=s6) oy6 dJ (fun x hx h=>by have:=bT.out x h;subst this;exact nN hx);have gE:Hid ((∀ x∈F6,w+1<x)/\ob∉F6/\True):=⟨fun x hx=>by
      rcases tN x hx with h | h
      ·exact hF.out.1 x h
      ·have:=hRl7;omega,nN,trivial⟩
     have hw7:=Ah mK (Ah (Ah hbas hcbs) dJ.size);clear hHeld q0 q1 q2 q3 qf ql OB6 oy6 CT CF oya orn nFr n6 ba cb;clear OB_0 OB_1 OB_2 OB_3 OB_l;clear OB;generalize (((wb.setCell ⟨ob,0,Ab⟩ (J U Z1.now)).setCell ⟨ob,1,Ab⟩ (J U Z1.seq)).setCell ⟨ob,2,Ab⟩ (Aa s6.1.a s6.1.n s6.1.c)).setCell ⟨ob,3,Ab⟩ (Aa s6.2.a s6.2.n s6.2.c)=w7 at *
     go_wp2;exact ⟨⟨t+1,Z1,s6,F6,aW,by go_num,by rw [<-bJ.out];exact hN,aF.out.trans bJ.out,oy7,gE,OB7,RES7,hb7,hw7⟩,clM⟩
    ·have kF:¬ (t:Int)<(tkn:Int):=by have:=pG.out;have:=bK.out;omega
     have hS:=Br (show Fo y (Ic y (k+1))=Z by
      rw [O4,show (Hi y k).tasks.length=t by rw [E6 aA];omega];exact hZ.out)
     have hM:=Br (show Trn y (12 * (k+1)) Z from hT.out.mono Bl);go_wp2;exact ⟨⟨k+1,Z,(⟨B1,m1,e1⟩,⟨Ac ⟨gr,orr,Ab⟩,m2,e2⟩),F,Bl,by go_num,hM,hS,oy,hF,OB,RES,hb,mK⟩,clM⟩
  ·have aB:¬ (k:Int)<(m2:Int):=by have:=dH.out;omega
   have hkk:k=y.runs.length:=Bl;have H3:=Br (show Mh y=Z by rw [H2.out,<-hZ.out,hkk]);clear hkk;replace oy:Bw.ow wr F Z (⟨B1,m1,e1⟩,⟨B2,m2,e2⟩):=oy.out;have rf:=RES.free;have RES_:=RES.g4;go_wp2;have en1:w.heap.size+1∉F:=fun hx=>by have:=hF.out.1 _ hx;omega
   refine Aj (Tb (DBox.row4 RES rfl _ _ _ _)) rfl ⟨(⟨B1,m1,e1⟩,⟨B2,m2,e2⟩),F,by rw [H3.out],by rw [H3.out];exact (by (repeat (refine Dt.ow_set Bw ?_ en1 _));exact (show Bw.ow _ F Z (⟨B1,m1,e1⟩,⟨B2,m2,e2⟩) from oy)),fun x hx=>by have:=hF.out.1 x hx;omega,?_⟩;repeat (first | (with_reducible exact hb) | refine Ad ?_ Bp _)
end
end Go.Proofs.YtecnbnbopcblgaaGreat
