/-
  slices.Insert at []impl.Entry: one value, laid in a block of its own. Written by program (ins.py). Yards that are right: the program's walk.  DeedOk of the refe
-/
import Derived.Test.YtecnbnbopcblgaaGreatZAk1
import Derived.Test.YtecnbnbopcblgaaGreatZAk5
import Derived.Test.YtecnbnbopcblgaaGreatZAk6
import Derived.Laws.Externs
import Derived.Laws.NewBlocks
import Derived.Deep.Cut
namespace Go.Proofs.YtecnbnbopcblgaaGreat
open Go.RowKit
set_option maxRecDepth 100000
set_option maxHeartbeats 4000000
set_option linter.unusedVariables false
set_option linter.unusedSimpArgs false
open Value renaming int->J,slice->Aa
open IntKind renaming i64->U
open Option renaming none->Ab,some->Ac
open Below renaming alloc->Ae
open Nat renaming zero_le->Ag,le_trans->Ah,lt_of_lt_of_le->Ai
open Go.Proofs.Tryz renaming prog->Am
open IntWalk renaming i64_in->Aq
open List renaming length_map->Ar,getElem_mem->Aw,length_take->Az,length_append->Bd,take_of_length_le->Bg
open Go.Proofs.Tryz
theorem Ay {p:Prop} (h:p:=by
 have C:=Hs p ⟨A,n,c⟩ _ (HR.out _ B0);go_enter func91,ntmps91;go_upto_region 6 with (first | (go_at_call 161;refine (Cs _ _).mono ?_;rintro e w9 ⟨rfl,rfl⟩;(try (with_reducible first | rw [e0] | rw [a0] | rw [a1] | rw [a2] | rw [a3] | rw [a4]));dsimp only) | (go_at_call 90;refine (Cd _ _ _ _).mono ?_;rintro e w9 ⟨rfl,rfl⟩;(try (with_reducible first | rw [e0] | rw [a0] | rw [a1] | rw [a2] | rw [a3] | rw [a4]));dsimp only) | (go_at_call 163;refine C.mono ?_;rintro e w1 ⟨rfl,b1⟩))
 dsimp only [List.append];go_wp2_with (first | (go_at_call 161;refine (Cs _ _).mono ?_;rintro e w9 ⟨rfl,rfl⟩;(try (with_reducible first | rw [e0] | rw [a0] | rw [a1] | rw [a2] | rw [a3] | rw [a4]));dsimp only) | (go_at_call 90;refine (Cd _ _ _ _).mono ?_;rintro e w9 ⟨rfl,rfl⟩;(try (with_reducible first | rw [e0] | rw [a0] | rw [a1] | rw [a2] | rw [a3] | rw [a4]));dsimp only) | (go_at_call 163;refine C.mono ?_;rintro e w1 ⟨rfl,b1⟩))
 go_ret;exact ⟨Bx H.out.symm,Bv B0 b1⟩):p:=h
theorem No {p:Prop} (h:p:=by
 go_enter func91,ntmps91;go_upto_region 6 with (first | (go_at_call 161;refine (Cs _ _).mono ?_;rintro e w9 ⟨rfl,rfl⟩;(try (with_reducible first | rw [e0] | rw [a0] | rw [a1] | rw [a2] | rw [a3] | rw [a4]));dsimp only) | (go_at_call 90;refine (Cd _ _ _ _).mono ?_;rintro e w9 ⟨rfl,rfl⟩;(try (with_reducible first | rw [e0] | rw [a0] | rw [a1] | rw [a2] | rw [a3] | rw [a4]));dsimp only))
 dsimp only [List.append];go_wp2_with (first | (go_at_call 161;refine (Cs _ _).mono ?_;rintro e w9 ⟨rfl,rfl⟩;(try (with_reducible first | rw [e0] | rw [a0] | rw [a1] | rw [a2] | rw [a3] | rw [a4]));dsimp only) | (go_at_call 90;refine (Cd _ _ _ _).mono ?_;rintro e w9 ⟨rfl,rfl⟩;(try (with_reducible first | rw [e0] | rw [a0] | rw [a1] | rw [a2] | rw [a3] | rw [a4]));dsimp only))
 go_ret;exact ⟨Bx H.out.symm,B0⟩):p:=h
theorem Ai2 {p:Prop} (h:p:=by
 go_wp2_with fail
 refine C.mono ?_;rintro e w7 ⟨rfl,b7⟩;have HT:=Br (show tf (Dk y)=decide ((Gw y:Int)<=40) by
  rw [Bool.eq_iff_iff,Mv,HF.out,decide_eq_true_eq];omega)
 generalize Gw y=N at *
 by_cases q:N<=40
 ·have H:=Br (show tf (Dk y)=true by rw [HT.out];exact decide_eq_true Bl);go_wp2;go_ret;exact ⟨Bx (by rw [H.out];exact decide_eq_true Bl),Bv B0 b7⟩
 ·have H:=Br (show tf (Dk y)=false by rw [HT.out];exact decide_eq_false Bl);go_wp2;go_ret;exact ⟨Bx (by rw [H.out];exact decide_eq_false Bl),Bv B0 b7⟩):p:=h
theorem Ajb {p:Prop} (h:p:=by go_enter func125,ntmps125;go_wp2;go_ret;exact ⟨_,rfl,Ow.ints _ _ _ rfl rfl Bo B0.size Bo,B0.alloc B0.size _⟩):p:=h
theorem Aje {p:Prop} (h:p:=by
 have S:Hid (∀ j (hj:j<y.shelf.length),j<k+1->Ii y.shelf[j]):=fun j hj gB=>by
  by_cases e:j=k
  ·subst e;exact q
  ·exact aY.out j hj Bl
 rw [Di q] at C;clear q;go_wp2_with fail
 refine C.mono ?_;rintro e w2 ⟨rfl,b2⟩;go_wp2;first
  | exact ⟨⟨k+1,Bl,by go_num,S,Bv hb b2⟩,clM⟩
  | (refine ⟨?_,clM⟩;(repeat apply Exists.intro);refine ⟨?_,clR⟩;exact ⟨k+1,Bl,by go_num,S,Bv hb b2⟩)):p:=h
theorem Ajm {p:Prop} (h:p:=by
 go_wp2_with fail
 refine C.mono ?_;rintro e w2 ⟨rfl,b2⟩;go_wp2;go_ret;exact ⟨Bx H.out.symm,Bv B0 b2⟩):p:=h
theorem Akv {p:Prop} (h:p:=by
 have h0:w.cell? ⟨g,j,Ab⟩=cur.toArray[j]?:=cell_of_row _ _ j _ _ (0,0) cM;rw [h0,<-gS,List.getElem?_take] at *
 split at hu
 ·simpa using hu
 ·cases hu):p:=h
theorem Alk {p:Prop} (h:p:=by
 rcases ho.form with ⟨_,e0⟩ | ⟨g,cap,e1,h1,h2,_⟩
 ·rw [e0] at aA;simp at aA
 ·exact ⟨g,cap,e1,h1,h2,trivial⟩):p:=h
theorem Alu {p:Prop} (h:p:=by
 have e:((⟨xb,0,Ab⟩:Addr).add j)=⟨xb,j,Ab⟩:=by unfold Addr.add;split<;>simp_all
 rw [e,h0];simpa using hu):p:=h
theorem Al6 {p:Prop} (h:p:=by
 rw [<-Hcur.out,List.getElem?_take] at hu;split at hu
 ·rw [Nat.zero_add];exact hu
 ·cases hu):p:=h
theorem Ams {p:Prop} (h:p:=by
 intro j hj gB;by_cases e:j=k
 ·subst e;exact ⟨Ct.1 h1,h2⟩
 ·exact h j hj Bl):p:=h
theorem Ano {p:Prop} (h:p:=by obtain ⟨k,hk,rfl⟩:=List.getElem_of_mem he;exact (h5 k hk hk).1):p:=h
theorem Od (v:Value) (l:List Entry) (i xb:Nat) (x:Entry) (base:Nat) (w:World) (hi:i<=l.length) (hl:l.length<=1000000) (ho:Ow Cz 71 w base v l) (aV:base<=w.heap.size)
  (hx:w.heap[xb]? = Ac (.cells (Cz.cells x).toArray 71 (0,0))) (aC:v.ownBlock≠Ac xb) :
  Calls Am 304 #[v,J U (i:Int),Aa (Ac ⟨xb,0,Ab⟩) 1 1] w fun e w'=>∃ v',e = .returned v'/\Ow Cz 71 w' base v' (l.take i ++ x :: l.drop i)/\w.grownBy w' v.ownBlock/\(v'.ownBlock=v.ownBlock\/v'.ownBlock=Ac w.heap.size):=by
 obtain ⟨j0,bX,jz0,jz1,jz2⟩:=info_parts Gp;have fB:xb<w:=(Array.getElem?_eq_some_iff.1 hx).1;have nX:∀ j u,(Cz.cells x)[j]? = Ac u->w.cell? ((⟨xb,0,Ab⟩:Addr).add j)=Ac u:=fun j u hu=>by
  have h0:w.cell? ⟨xb,j,Ab⟩=(Cz.cells x).toArray[j]?:=cell_of_row _ _ j _ _ (0,0) hx;exact Alu
 have gM:Rd Cz w w (Aa (Ac ⟨xb,0,Ab⟩) 1 1) [x]:=by
  refine ⟨_,1,rfl,Bo,fun _=>⟨xb,0,rfl,fB,fun k hk j u hu=>?_⟩⟩;have cE:k=0:=by simpa using hk
  subst cE;have e:(⟨xb,0+0 * Cz.sz+j,Ab⟩:Addr)=(⟨xb,0,Ab⟩:Addr).add j:=by unfold Addr.add;split<;>simp_all
  rw [e];exact nX j u hu
 by_cases cW:i=l.length
 ·have Hl:=Br (show l.take i ++ x :: l.drop i=l ++ [x] by rw [cW,List.take_length,List.drop_length]);have HO:=Br ho;have HX:=Br hx;have HXC:=Br nX;have HNE:=Br aC;obtain ⟨A,c,rfl,hc,-⟩:=id (Rd.of_own ho);have aM:l.length<=c:=hc;subst cW;clear ho hx nX aC hi;have h0:¬ (l.length:Int)<0:=Bl;by_cases tI:c=l.length;all_goals
   (try subst tI)
   go_enter func304,ntmps304;go_wp2_with (at_builtin;refine Ci _ Cz Bq rfl (.tmp 23) (.tmp 24) rfl underlying74 bX jz0 jz1 jz2 rfl (v:=Aa A l.length _) (l:=l) rfl HO.out (A:=Ac ⟨xb,0,Ab⟩) (m:=1) (c:=1) rfl gM Bl Bo Bq Bl ?_;intro v5 w5 o5 g5 f5)
   go_ret;exact ⟨v5,rfl,by first | exact o5 | (rw [Hl.out];exact o5),g5,f5⟩
 have aA:i<l.length:=Bl;obtain ⟨g,cap,rfl,hg1,dW,-⟩:∃ g cap,v = Aa (Ac ⟨g,0,Ab⟩) l.length cap/\base<=g/\g<w.heap.size/\True:=Alk
 obtain ⟨-,-,hncap,kU,cur,cM,fM,gS⟩:=ho.row;have hne':xb≠g:=fun e=>aC (by rw [e];rfl);have bL:(Am.info? 71).map (·.size)=Ac 4:=by rw [bX];simp [jz1]
 have pD:Cz.sz=4:=rfl;have qZ:(l.flatMap Cz.cells).length=l.length * 4:=Cz.flat_length l;have dG:(Cz.cells x).length=4:=Cz.len x;have vE:((l.flatMap Cz.cells).drop (i * 4)).length=(l.length - i) * 4:=by rw [List.length_drop,qZ,Nat.sub_mul]
 have nV:∀ u∈l.flatMap Cz.cells,u.oneCell'=true:=fun u hu=>by
  obtain ⟨y,_,hy⟩:=List.mem_flatMap.1 hu;exact Cz.one y u hy
 have hfi:=Br (Mn Cz l i Bl x);rw [pD] at gS fM hfi;have aL:∀ j u,(l.flatMap Cz.cells)[j]? = Ac u->w.cell? ⟨g,j,Ab⟩=Ac u:=fun j u hu=>by
  exact Akv
 have Hone:=Br nV;have Hcell:=Br aL;have HX:=Br hx;have HXC:=Br nX;have Hrow:=Br cM;have Hclen:=Br fM;have Hcur:=Br gS;have HO:=Br ho;have Hxl:=Br dG;have Hdl:=Br vE;have HLl:=Br qZ;have HSZ:=Br bL;have mG:cap<=9223372036854775807:=by simpa [maxLen] using kU
 have fY:¬ ((i:Int)=(l.length:Int)):=Bl;have hib:((i:Int) == (l.length:Int))=false:=beq_eq_false_iff_ne.2 fY;have vV:U.wrap ((i:Int)+1)=(i:Int)+1:=Aq _ Bl;have sJ:U.wrap ((l.length:Int)+1)=(l.length:Int)+1:=Aq _ Bl;have aG:(0:Int)<=(i:Int)+1:=Bl;have uE:((i:Int)+1).toNat=i+1:=Bl;have htn2:((l.length:Int)+1).toNat=l.length+1:=Bl;have rX:¬ cap=i:=Bl;have hiI:(i:Int)<=(l.length:Int):=Bl;have hicap:(i:Int)<=(cap:Int):=Bl;clear ho hx nX aC cM fM gS nV aL kU aA cW hi gM qZ dG vE bL pD;by_cases eX:l.length+1<=cap
 ·-- there is room: in place
  have rY:¬ cap=i+1:=Bl;have hro:¬ (cap:Int)<(l.length:Int)+1:=Bl;have hi1:(i:Int)+1<=(l.length:Int)+1:=Bl;have vJ:(i:Int)<=(l.length:Int)+1:=Bl;have kJ:w.shape? xb=Ac (71,4):=by unfold World.shape?;rw [HX.out];simp [Hxl.out]
  have jZ:w.shape? g=Ac (71,cap * 4):=by unfold World.shape?;rw [Hrow.out];simp [Hclen.out]
  have rJ:∀ o,w.frozen? ⟨xb,o,Ab⟩=false:=fun o=>by unfold World.frozen?;rw [HX.out];simp
  have vH:∀ lb cb,(callFunc 312 #[Aa (Ac ⟨xb,0,Ab⟩) 1 1,Aa (Ac ⟨g,(i+1) * 4,Ab⟩) lb cb]).run Am w = .ok (.value (.bool false)) w:=fun lb cb=>by
   rw [run_callFunc_extern func312 Bm Bm Bm (e:=Extern.SlicesOverlaps.overlaps #[74,74] #[4]) Bm,
    Lib.run_overlaps_apart w 74 4 71 underlying74 4 (fun w=>by simp [sizeOf,typeInfo,bX,jz1]) ⟨xb,0,Ab⟩ ⟨g,(i+1) * 4,Ab⟩ 1 1 lb cb hne' 71 71 4 (cap * 4) kJ jZ (by have:1 * 4<=cap * 4:=Nat.mul_le_mul_right _ Bl;omega) (rJ _) (rJ _)]
   rfl
  have Hsh:=Br kJ;have Hsg:=Br jZ;have Hfx:=Br rJ;clear kJ jZ rJ;go_enter func304,ntmps304;go_wp2_with (simp only [vH])
  have e1:=Br (show ((l.flatMap Cz.cells).drop (i * 4)).length=Nat.min (l.length+1 - i) (l.length - i) * 4 by rw [Hdl.out];congr 1;simp only [Nat.min_def];split<;>omega);have e2:=Br (show ∀ j u,((l.flatMap Cz.cells).drop (i * 4))[j]? = Ac u->w.drew.cell? ((⟨g,i * 4,Ab⟩:Addr).add j)=Ac u from Ix Hrow.out _ (fun j u hu=>by
   rw [List.getElem?_drop,<-Hcur.out,List.getElem?_take] at hu;split at hu
   ·exact hu
   ·cases hu))
  have e3:=Br (show (i+1) * 4+((l.flatMap Cz.cells).drop (i * 4)).length<=cur.length by
   rw [Hdl.out,Hclen.out,<-Nat.add_mul];exact Nat.mul_le_mul_right _ Bl)
  have e4:=Br (show ∀ u∈(l.flatMap Cz.cells).drop (i * 4),u.oneCell'=true from fun u hu=>Hone.out u (List.mem_of_mem_drop hu));go_region_law (refine Lh w.drew rfl (.tmp 73) (.tmp 76) 74 74 rfl 71 4 underlying74 HSZ.out g ((i+1) * 4) (l.length - i) (cap - (i+1)) ⟨g,i * 4,Ab⟩ (l.length+1 - i) (cap - i) (by simp [Act.eval,Act.put]) (by simp [Act.eval,Act.put]) cur 71 Hrow.out ((l.flatMap Cz.cells).drop (i * 4)) e1.out e2.out e3.out e4.out ?_;intro w1 r1 g1);have f1:=Br (show (Cz.cells x).length=Nat.min 1 (l.length+1 - i) * 4 by rw [Hxl.out];simp only [Nat.min_def];split<;>omega);have f2:=Br (show ∀ j u,(Cz.cells x)[j]? = Ac u->w1.cell? ((⟨xb,0,Ab⟩:Addr).add j)=Ac u from Ix (Qx g1 (w:=w.drew) HX.out (fun e=>hne' (Option.some.inj e))) _ (fun j u hu=>by rw [Nat.zero_add];exact hu));have cF:=Br (Sp Cz l i Bl x cur Hcur.out (by rw [Hclen.out];exact Nat.mul_le_mul_right _ eX));have f3:=Br (show i * 4+(Cz.cells x).length<=(splice cur ((i+1) * 4) ((l.flatMap Cz.cells).drop (i * 4))).length by
   rw [Gi _ _ _ e3.out,Hxl.out,Hclen.out,<-Nat.succ_mul];exact Nat.mul_le_mul_right _ Bl)
  have f4:=Br (Cz.one x);clear e1 e2 e3 e4 vH;go_wp2_with (refine J8 w1 rfl (.tmp 80) (.tmp 81) 74 74 rfl 71 4 underlying74 HSZ.out g (i * 4) (l.length+1 - i) (cap - i) ⟨xb,0,Ab⟩ 1 1 (by simp [Act.eval]) (by simp [Act.eval]) _ 71 r1.out (Cz.cells x) f1.out f2.out f3.out f4.out ?_;intro w2 r2 g2)
  go_ret;have fX:=Ow.of_row (e:=Cz) (E:=71) (l:=l.take i ++ x :: l.drop i) (cap:=cap) (base:=base) r2.out (cF.out.2.trans Hclen.out) (by rw [G4 l i Bl x];exact cF.out.1) hg1 (by rw [G4 l i Bl x];exact eX) (by simpa [maxLen] using mG);rw [G4 l i Bl x] at fX;exact ⟨_,rfl,fX,(Nq g1).trans g2,.inl rfl⟩
 ·-- no room: a new row
  obtain rfl:cap=l.length:=Bl;have hro:(l.length:Int)<(l.length:Int)+1:=Bl;have fK:U.wrap ((l.length:Int)+1 - (i:Int))=(l.length:Int)+1 - (i:Int):=Aq _ Bl;have a1:=Br (show ((l.flatMap Cz.cells).take (i * 4)).length=i * 4 by
   rw [Az,HLl.out];exact Nat.min_eq_left (Nat.mul_le_mul_right _ Bl))
  have a2:=Br (show ∀ j u,((l.flatMap Cz.cells).take (i * 4))[j]? = Ac u->w.cell? ((⟨g,0,Ab⟩:Addr).add j)=Ac u from Ix Hrow.out _ (fun j u hu=>by
   rw [List.getElem?_take] at hu;split at hu
   ·exact Al6
   ·cases hu))
  have bZ:=Br (show (l.length:Int)+1 - (i:Int)=((l.length+1 - i:Nat):Int) by omega);have vD:0<l.length+1 - i:=Bl;have hGg:w≠g:=Bl;have hxG:xb≠w:=Bl;have f1:=Br (show (Cz.cells x).length=Nat.min 1 (l.length+1 - i) * 4 by rw [Hxl.out];simp only [Nat.min_def];split<;>omega);have f4:=Br (Cz.one x);have e1:=Br (show ((l.flatMap Cz.cells).drop (i * 4)).length=Nat.min (l.length - i) (l.length - i) * 4 by rw [Hdl.out];congr 1;simp only [Nat.min_def];split<;>omega);have e4:=Br (show ∀ u∈(l.flatMap Cz.cells).drop (i * 4),u.oneCell'=true from fun u hu=>Hone.out u (List.mem_of_mem_drop hu));have e2:=Br (show ∀ W:World,W.heap[g]? = w.heap[g]? -> ∀ j u,((l.flatMap Cz.cells).drop (i * 4))[j]? = Ac u->W.cell? ((⟨g,i * 4,Ab⟩:Addr).add j)=Ac u from fun W hW=>Ix (hW.trans Hrow.out) _ (fun j u hu=>by
   rw [List.getElem?_drop,<-Hcur.out,List.getElem?_take] at hu;split at hu
   ·exact hu
   ·cases hu))
  go_enter func304,ntmps304;go_wp2_with (first
   | (refine Ld w rfl (.tmp 34) (.tmp 39) 74 3 rfl 71 j0 _ 4 _ .i64 .i64 underlying74 underlying3 bX jz0 jz1 jz2 rfl Bq ⟨g,0,Ab⟩ i l.length _ (by simp [Act.eval]) (l.length+1 - i) ((l.length:Int)+1 - (i:Int)) bZ.out (by simp [Act.eval]) a1.out a2.out vD Bl Bl Bq (l.length+1) Bl ?_;intro w1 c R r1 rl rt qB hc4 g1 s1;have hci:¬ c=i:=(by omega);have hci1:¬ c=i+1:=(by omega);have vJ:(i:Int)<=(l.length:Int)+1:=(by omega);have hi1:(i:Int)+1<=(l.length:Int)+1:=(by omega);have vU:(l.length:Int)+1<=(c:Int):=(by omega);have f2:=Br (show ∀ j u,(Cz.cells x)[j]? = Ac u->w1.cell? ((⟨xb,0,Ab⟩:Addr).add j)=Ac u from Ix (Qx g1 HX.out Bo) _ (fun j u hu=>by rw [Nat.zero_add];exact hu));have f3:=Br (show i * 4+(Cz.cells x).length<=R.length by rw [Hxl.out,rl.out,<-Nat.succ_mul];exact Nat.mul_le_mul_right _ Bl);have cF:=Br (Uu Cz l i Bl x R rt.out (by rw [rl.out];exact Nat.mul_le_mul_right _ qB));have mM:=Br (g1.block g dW Bo);clear bZ)
   | (refine J8 w1 rfl (.tmp 43) (.tmp 44) 74 74 rfl 71 4 underlying74 HSZ.out w.heap.size (i * 4) (l.length+1 - i) (c - i) ⟨xb,0,Ab⟩ 1 1 (by simp [Act.eval]) (by simp [Act.eval]) _ 71 r1.out (Cz.cells x) f1.out f2.out f3.out f4.out ?_;intro w2 r2 g2))
  have e3:=Br (show (i+1) * 4+((l.flatMap Cz.cells).drop (i * 4)).length<=(splice R (i * 4) (Cz.cells x)).length by
   rw [Gi _ _ _ f3.out,Hdl.out,rl.out,<-Nat.add_mul];exact Nat.mul_le_mul_right _ Bl)
  have e2':=Br (e2.out w2.drew ((g2.block g Bl (fun e=>hGg (Option.some.inj e).symm)).trans mM.out));clear e2 mM;go_region_law (refine Lh w2.drew rfl (.tmp 50) (.tmp 53) 74 74 rfl 71 4 underlying74 HSZ.out w.heap.size ((i+1) * 4) (l.length - i) (c - (i+1)) ⟨g,i * 4,Ab⟩ (l.length - i) (l.length - i) (by simp [Act.eval,Act.put]) (by simp [Act.eval,Act.put]) _ 71 r2.out ((l.flatMap Cz.cells).drop (i * 4)) e1.out e2'.out e3.out e4.out ?_;intro w3 r3 g3);go_wp2_with fail
  go_ret;have fX:=Ow.of_row (e:=Cz) (E:=71) (l:=l.take i ++ x :: l.drop i) (cap:=c) (base:=base) r3.out (cF.out.2.trans rl.out) (by rw [G4 l i Bl x];exact cF.out.1) aV (by rw [G4 l i Bl x];exact qB) (by simpa [maxLen] using hc4);rw [G4 l i Bl x] at fX;exact ⟨_,rfl,fX,O9 (O9 (Us g1 (Ac g)) g2 (Bt _)) (Nq g3) (Bt _),.inr rfl⟩
def Jb (l:List Entry) (k:Nat):List Nat:=(l.take k).map fun e=>e.seq.toNat
theorem Vt (l:List Entry) (k:Nat) (hk:k<l.length):Jb l (k+1)=Jb l k ++ [l[k].seq.toNat]:=by
 unfold Jb;rw [Cp l k hk,List.map_append];rfl
theorem Afo (l:List Entry) (k:Nat):(Jb l k).length<=k:=by
 unfold Jb;rw [Ar,Az];omega
theorem Sx {l:List Entry} (h:∀ j (hj:j<l.length),l[j].seq.toNat∉Jb l j):(l.map (·.seq)).Nodup:=by
 have:∀ k,k<=l.length->(Jb l k).Nodup:=by
  intro k;induction k with
  | zero=>intro _;simp [Jb]
  | succ k ih =>
   intro hk;rw [Vt l k Bl,List.nodup_append];refine ⟨ih Bl,Bo,fun a ha b hb e=>?_⟩;have aX:b=l[k].seq.toNat:=by simpa using hb
   subst aX;subst e;exact h k Bl ha
 have h2:=this l.length (Bt _);unfold Jb at h2;rw [List.take_length] at h2;have e:(l.map fun e=>e.seq.toNat)=(l.map (·.seq)).map Int.toNat:=by rw [List.map_map];rfl
 rw [e] at h2;exact List.Pairwise.of_map _ (fun a b aC e=>aC (by rw [e])) h2
theorem Sy {l:List Entry} (h:(l.map (·.seq)).Nodup) (hp:∀ e∈l,1<=e.seq) {k:Nat} (hk:k<l.length):l[k].seq.toNat∉Jb l k:=by
 intro hm;unfold Jb at hm;obtain ⟨x,hx,he⟩:=List.mem_map.1 hm;obtain ⟨j,hj,rfl⟩:=List.getElem_of_mem hx;rw [Az] at hj;rw [List.getElem_take] at he;have h1:=hp _ (Aw (show j<l.length by omega));have h2:=hp _ (Aw hk);have e:l[j].seq=l[k].seq:=Bl;have h3:=List.pairwise_iff_getElem.1 h j k (by rw [Ar];omega) (by rw [Ar];omega) Bl;rw [List.getElem_map,List.getElem_map] at h3;exact h3 e
theorem Aes {p:Plan} (h:Cr p=0):1<=p.wait/\p.wait<=20:=by
 have:=(Dl.1 h).1
 simp only [E5,Bool.and_eq_true] at this;exact Ct.1 this.2
def Nx (q:Int) (l:List Entry) (k:Nat):Prop:=∀ j (hj:j<l.length),j<k->(1<=l[j].seq/\l[j].seq<=q - 1)/\l[j].seq.toNat∉Jb l j
theorem Ye {q:Int} {l:List Entry} {k:Nat} (h:Nx q l k) (hk:k<l.length) (h1:inB l[k].seq 1 (q - 1)=true) (h2:l[k].seq.toNat∉Jb l k):Nx q l (k+1):=Ams
theorem Afp {y:Yard} {k:Nat} (hk:k<(Ch y).length) (h1:inB (Ch y)[k].seq 1 (y.seq - 1)=false):¬ Dk y:=by
 intro h
 have:=Ct.2 (h.2.2.2.2.1 _ (Aw hk))
 rw [h1] at this;cases this
theorem Afq {y:Yard} {k:Nat} (hk:k<(Ch y).length) (h1:(Ch y)[k].seq.toNat∈Jb (Ch y) k):¬ Dk y:=fun h =>
 Sy h.2.2.2.2.2.1 (fun e he=>(h.2.2.2.2.1 e he).1) hk h1
def Kt (y:Yard) (k:Nat):Prop:=∀ j (hj:j<y.runs.length),j<k->Hn y.runs[j]/\Dn y y.runs[j].id=j/\Kp y.now y.runs[j] (Ch y)
theorem Afr {y:Yard} {k:Nat} (h:Kt y k) (hk:k<y.runs.length) (h1:Hn y.runs[k]) (h2:Dn y y.runs[k].id=k) (h3:Kp y.now y.runs[k] (Ch y)):Kt y (k+1):=by
 intro j hj gB;by_cases e:j=k
 ·subst e;exact ⟨h1,h2,h3⟩
 ·exact h j hj Bl
theorem Aet {y:Yard} (h1:inB y.now 0 999999980=true) (h2:inB y.seq 1 1000000000=true) (h3:y.shelf.length=4) (h4:∀ k (hk:k<y.shelf.length),Ii y.shelf[k]) (h5:Nx y.seq (Ch y) (Ch y).length) (h6:y.runs.length<=8) (h7:Kt y y.runs.length) :
  Dk y ↔ Gw y<=40:=by
 constructor
 ·intro h;exact h.2.2.2.2.2.2.2.2.2
 ·intro h;refine ⟨Ct.1 h1,Ct.1 h2,h3,fun l hl=>?_,fun e he=>?_,Sx (fun j hj=>(h5 j hj hj).2),h6,fun k hk=>⟨(h7 k hk hk).1,(h7 k hk hk).2.1⟩,fun r hr=>?_,h⟩
  ·obtain ⟨k,hk,rfl⟩:=List.getElem_of_mem hl;exact h4 k hk
  ·exact Ano
  ·obtain ⟨k,hk,rfl⟩:=List.getElem_of_mem hr;exact (h7 k hk hk).2.2
theorem Gk (y:Yard) (s:Sl×Sl) (w:World) (hl:Ca y<=2000000) (h:Bw.rd w w y s) :
  Calls Am 71 #[Ds y s] w fun e w'=>e = .returned (.bool (tf (Dk y)))/\Below w w w':=by
 have HR:=Br (show ∀ W,Below w w W->Bw.rd W W y s from fun W hW=>Bw.rd_more (Bw.rd_below h hW) hW.size);obtain ⟨⟨A1,n1,c1⟩,⟨A2,n2,c2⟩⟩:=s;obtain rfl:n1=y.shelf.length:=RdL.at1 (s:=⟨A1,n1,c1⟩) h.1;obtain rfl:n2=y.runs.length:=RdL.at1 (s:=⟨A2,n2,c2⟩) h.2;have h1:RdL (Dt.list By) w w (Aa A1 y.shelf.length c1) y.shelf:=h.1;have h2:RdL Cf w w (Aa A2 y.runs.length c2) y.runs:=h.2;have bS:y.runs.length<=2000000:=Ah (Ck Co _) (by unfold Ca at hl;omega);have hls:y.shelf.length<=2000000:=Ah (Ck Cn _) (by unfold Ca at hl;omega);have HE:=Br (show ∀ k (hk:k<y.shelf.length),y.shelf[k].length<=2000000 from fun k hk=>by
  have:=Dm (cnt:=Cn) (Aw hk)
  have h2:y.shelf[k].length<=Cn y.shelf[k]:=Ck D4 _;unfold Ca at hl;omega)
 have HC:=Br (show ∀ k (hk:k<y.runs.length),Co y.runs[k]<=2000000 from fun k hk=>by
  have:=Dm (cnt:=Co) (Aw hk)
  unfold Ca at hl;omega)
 have HEn:=Br (show (Ch y).length<=2000000 by
  have:=Ik y.shelf y.shelf.length
  rw [List.take_length] at this;unfold Ca at hl;unfold Ch;omega)
 have qI:=Abs hl;clear h;have X:=DBox.new 31 [J U y.now,J U y.seq,Aa A1 y.shelf.length c1,Aa A2 y.runs.length c2] w (b:=w) rfl;have B0:Below w w (w.alloc (.cells #[J U y.now,J U y.seq,Aa A1 y.shelf.length c1,Aa A2 y.runs.length c2] 31)):=by repeat (first | exact Bs _ _ | refine Ae ?_ Bp _)
 cases a1:inB y.now 0 999999980;case false =>
  have H:=Br (Cg (show ¬ Dk y from fun h=>by have:=Ct.2 h.1;rw [a1] at this;cases this));go_enter func71,ntmps71;exact Aji
 cases a2:inB y.seq 1 1000000000;case false =>
  have H:=Br (Cg (show ¬ Dk y from fun h=>by have:=Ct.2 h.2.1;rw [a2] at this;cases this));go_enter func71,ntmps71;exact Aji
 by_cases a3:y.shelf.length=4;case neg =>
  have a3':((y.shelf.length:Int) != 4)=true:=by simp;omega
  have H:=Br (Cg (show ¬ Dk y from fun h=>a3 h.2.2.1));clear a3;go_enter func71,ntmps71;go_wp2_with (go_at_call 72;refine (Cm _ _ _ _).mono ?_;rintro e w' ⟨rfl,rfl⟩)
  go_ret;exact ⟨Bx H.out.symm,B0⟩
 have a3':((y.shelf.length:Int) != 4)=false:=by simp [a3]
 have A3_:=Br a3;clear a3;by_cases a4:y.runs.length<=8;case neg =>
  have a4':(8:Int)<(y.runs.length:Int):=Bl;have H:=Br (Cg (show ¬ Dk y from fun h=>a4 h.2.2.2.2.2.2.1));clear a4;go_enter func71,ntmps71;exact Aji
 have a4':¬ (8:Int)<(y.runs.length:Int):=Bl;have hqb:=Ct.1 a2;have tS:=Ct.1 a1;go_enter func71,ntmps71;go_wp2_with (go_at_call 72;refine (Cm _ _ _ _).mono ?_;rintro e w' ⟨rfl,rfl⟩)
 generalize (w.alloc (.cells #[J U y.now,J U y.seq,Aa A1 y.shelf.length c1,Aa A2 y.runs.length c2] 31))=W at *
 have A1_:=Br a1;have A2_:=Br a2;clear a1 a2 a3' a4';go_loopw [36] (fun i wr=>∃ k:Nat,k<=y.shelf.length/\i = J U k/\Hid (∀ j (hj:j<y.shelf.length),j<k->Ii y.shelf[j])/\Below W W wr) (fun i _=>y.shelf.length - (intOf i).toNat);case atStart=>exact ⟨0,Ag _,rfl,fun j _ h0=>absurd h0 Bl,Bs _ _⟩
 case round =>
  obtain ⟨k,hk,rfl,aY,hb⟩:=hrel;replace X:=X.below hb;replace B0:=Bv B0 hb;by_cases aA:k<y.shelf.length
  ·have aB:(k:Int)<(y.shelf.length:Int):=Bl;obtain ⟨b,o,⟨As,ns,cs⟩,mR,aJ,hr,d0⟩:=(h1.below B0).entryS aA;obtain rfl:ns=y.shelf[k].length:=RdL.at1 (s:=⟨As,ns,cs⟩) hr;subst mR;have C:=To y.shelf[k] ⟨As,y.shelf[k].length,cs⟩ wr (HE.out k aA) (hr.more B0.size);by_cases q:Ii y.shelf[k]
   ·exact Aje
   ·have H:=Br (Cg (show ¬ Dk y from fun h=>q (h.2.2.2.1 _ (Aw aA))));rw [Cg q] at C;clear q;exact Ajm
  ·have aB:¬ (k:Int)<(y.shelf.length:Int):=Bl;have HS:Hid (∀ k (hk:k<y.shelf.length),Ii y.shelf[k]):=fun j hj=>aY.out j hj Bl;have C:=N9 y (⟨A1,y.shelf.length,c1⟩,⟨A2,y.runs.length,c2⟩) wr hl (HR.out _ B0);obtain ⟨X_0,X_1,X_2,X_3,X_l⟩:=X.g4;go_wp2_with fail
   refine C.mono ?_;rintro e w2 ⟨v,rfl,o2,b2⟩;replace X:=X.below b2;replace B0:=Bv B0 b2;clear X_0 X_1 X_2 X_3 X_l aY aA aB hb;have O2:=Rd.of_own o2;clear o2;obtain ⟨A3,c3,rfl,-⟩:=id O2;have qX:=HEn.out;obtain ⟨j0,bX,jz0,jz1,jz2⟩:=info_parts K4;go_wp2;go_loopw [6,48] (fun vl i wr=>∃ k:Nat,k<=(Ch y).length/\i = J U k/\Ow E0 3 wr w2 vl (Jb (Ch y) k)/\Hid (Nx y.seq (Ch y) k)/\Below w2 w2 wr) (fun _ i _=>(Ch y).length - (intOf i).toNat);case atStart=>exact ⟨0,Ag _,rfl,by simpa [Jb] using Ow.nil E0 3 w2 w2.heap.size,fun j _ h0=>absurd h0 Bl,Bs _ _⟩
   case round =>
    obtain ⟨k,hk,rfl,om,aY,hb⟩:=hrel;replace X:=X.below hb;replace B0:=Bv B0 hb;obtain ⟨X_0,X_1,X_2,X_3,X_l⟩:=X.g4;have hsn:=Afo (Ch y) k;by_cases aA:k<(Ch y).length
    ·have aB:(k:Int)<((Ch y).length:Int):=Bl;obtain ⟨b,o,_,gX,aJ,_,d0,d1,d2,d3⟩:=RdL.entry (Lj (O2.below hb)) aA;subst gX;have bE:b<wr:=Ai aJ hb.size;have hE:Hid (∀ wr:World,Below wr wr (wr.alloc (.cells #[J U (Ch y)[k].prio,J U (Ch y)[k].seq,J U (Ch y)[k].run,J U (Ch y)[k].task] 71))):=fun wr=>Bu;obtain ⟨A7,c7,rfl,-⟩:=id (Rd.of_own om);have w1':U.wrap (y.seq - 1)=y.seq - 1:=Aq _ Bl;have HB1:=Br (Afp (y:=y) aA);have HB2:=Br (Afq (y:=y) aA);have HSt:=Br (Ye (q:=y.seq) aY.out aA);have HSq:=Br (Vt (Ch y) k aA);cases q1:inB (Ch y)[k].seq 1 (y.seq - 1)
     ·have H:=Br (Cg (HB1.out q1));go_wp2_with (go_at_call 72;refine (Cm _ _ _ _).mono ?_;rintro e w' ⟨rfl,rfl⟩)
      go_ret;exact ⟨Bx H.out.symm,Bv B0 (hE.out _)⟩
     have q1b:=Ct.1 q1;generalize hx:(Ch y)[k].seq=x at *
     obtain ⟨n,rfl⟩:=Int.eq_ofNat_of_zero_le (show 0<=x by omega);have hn:Hid ((n:Int).toNat=n):=Int.toNat_natCast n;have HX:=Br hx;clear hx;by_cases q2:n∈Jb (Ch y) k
     ·have H:=Br (Cg (HB2.out (by rw [hn.out];exact q2)));have C:=K9 _ (Jb (Ch y) k) n _ _ Bl (Rd.of_own (om.below (hE.out wr)));rw [decide_eq_true q2] at C;clear q2;go_wp2_with (first | (go_at_call 72;refine (Cm _ _ _ _).mono ?_;rintro e w' ⟨rfl,rfl⟩) | (go_at_call 141;refine C.mono ?_;rintro e w' ⟨rfl,rfl⟩))
      go_ret;exact ⟨Bx H.out.symm,Bv B0 (hE.out _)⟩
     ·have S:=Br (HSt.out q1 (by rw [hn.out];exact q2));have C:=K9 _ (Jb (Ch y) k) n _ _ Bl (Rd.of_own (om.below (hE.out wr)));rw [decide_eq_false q2] at C;clear q2;have ha:Hid (∀ w:World,Below w w ((w.alloc (.cells #[J U (Ch y)[k].prio,J U (n:Int),J U (Ch y)[k].run,J U (Ch y)[k].task] 71)).alloc (.cells #[J U (n:Int)] 3))):=fun w=>(Bu).alloc Bo _;go_wp2_with (first | (go_at_call 72;refine (Cm _ _ _ _).mono ?_;rintro e w' ⟨rfl,rfl⟩) | (go_at_call 141;refine C.mono ?_;rintro e w' ⟨rfl,rfl⟩) | (at_builtin;refine Ci _ E0 Bq rfl (.tmp 65) (.tmp 68) rfl underlying26 bX jz0 jz1 jz2 rfl (l:=Jb (Ch y) k) rfl (om.below (ha.out wr)) rfl (Rd.one E0 _ _ n Bo rfl 1 (Bt _) (Nat.lt_succ_self _)) Bl Bo Bq (by have:=hb.size;simp;omega) ?_;intro v5 w5 o5 g5 _))
      have aX:=Bv hb (ha.out wr);have W5:=aX.grown g5 aX.size (fun g hg=>by have:=om.within _ hg;omega);have o6:Ow E0 3 w5 w2 v5 (Jb (Ch y) (k+1)):=by rw [HSq.out,hn.out];exact o5
      first
       | exact ⟨⟨k+1,Bl,by go_num,o6,S,W5⟩,clM⟩
       | (refine ⟨?_,clM⟩;(repeat apply Exists.intro);refine ⟨?_,clR⟩;exact ⟨k+1,Bl,by go_num,o6,S,W5⟩)
    ·have aB:¬ (k:Int)<((Ch y).length:Int):=Bl;have HO:Hid (Nx y.seq (Ch y) (Ch y).length):=fun j hj hj2=>aY.out j hj Bl;go_wp2;replace O2:=O2.below hb;clear X_0 X_1 X_2 X_3 X_l aY aA aB om hsn;have hsb:=hb.size;clear hb;obtain ⟨w6,hw6⟩:∃ w6,w6=wr:=⟨_,rfl⟩
     rw [<-hw6] at X B0 O2 hsb ⊢;clear hw6;go_loopw [74] (fun i wr=>∃ k:Nat,k<=y.runs.length/\i = J U k/\Hid (Kt y k)/\Below w6 w6 wr) (fun i _=>y.runs.length - (intOf i).toNat);case atStart=>exact ⟨0,Ag _,rfl,fun j _ h0=>absurd h0 Bl,Bs _ _⟩
     case round =>
      obtain ⟨k,hk,rfl,aY,hb⟩:=hrel;replace X:=X.below hb;replace B0:=Bv B0 hb;by_cases aA:k<y.runs.length
      ·have aB:(k:Int)<(y.runs.length:Int):=Bl;obtain ⟨b,o,⟨⟨A8,n8,c8⟩,⟨At,nt,ct⟩⟩,eJ,aJ,cP,e0,e1,e2,e3,e4,e5,e6,e7⟩:=(h2.below B0).run aA;subst eJ;have bE:b<wr:=Ai aJ B0.size;have HRr:=Br (show ∀ W,Below wr wr W->Cf.rd W W y.runs[k] (⟨A8,n8,c8⟩,⟨At,nt,ct⟩) from fun W hW=>Cf.rd_more (Cf.rd_below (Cf.rd_more cP B0.size) hW) hW.size);have mT:=HC.out k aA;have ha:Below wr wr (wr.alloc (.cells #[J U y.runs[k].id,J U y.runs[k].plan.prio,J U y.runs[k].plan.most,J U y.runs[k].plan.wait,J U y.runs[k].plan.tasks,Aa A8 n8 c8,J U y.runs[k].state,Aa At nt ct] 67)):=Bu;have R:=DBox.new 67 [J U y.runs[k].id,J U y.runs[k].plan.prio,J U y.runs[k].plan.most,J U y.runs[k].plan.wait,J U y.runs[k].plan.tasks,Aa A8 n8 c8,J U y.runs[k].state,Aa At nt ct] wr rfl;have C1:=P6 y.runs[k] (⟨A8,n8,c8⟩,⟨At,nt,ct⟩) _ mT (HRr.out _ ha);have HSt:=Br (Afr aY.out aA);by_cases q1:Hn y.runs[k];case neg =>
        have H:=Br (Cg (show ¬ Dk y from fun h=>q1 (h.2.2.2.2.2.2.2.1 k aA).1));rw [Cg q1] at C1;clear q1;go_wp2_with fail
        refine C1.mono ?_;rintro e w7 ⟨rfl,b7⟩;go_wp2;go_ret;exact ⟨Bx H.out.symm,Bv B0 (Bv ha b7)⟩
       rw [Di q1] at C1;have HQ1:=Br q1;have hwt:=Aes q1.2.1;have fA:y.runs[k].tasks.length<=2000000:=Ah (Ck D7 _) (by unfold Co at mT;omega);clear q1;go_wp2_with fail
       refine C1.mono ?_;rintro e w7 ⟨rfl,b7⟩;replace R:=R.below b7;have ha7:=Bv ha b7;replace X:=X.below ha7;obtain ⟨X_0,X_1,X_2,X_3,X_l⟩:=X.g4;obtain ⟨R_0,R_1,R_2,R_3,R_4,R_5,R_6,R_7,R_l⟩:=R.g8;have C2:=Fj y (⟨A1,y.shelf.length,c1⟩,⟨Ac ⟨b,o,Ab⟩,y.runs.length,c2⟩) y.runs[k].id w7 hl (HR.out _ (Bv B0 ha7));by_cases q2:Dn y y.runs[k].id=k;case neg =>
        have H:=Br (Cg (show ¬ Dk y from fun h=>q2 (h.2.2.2.2.2.2.2.1 k aA).2));have q2':(Dn y y.runs[k].id != (k:Int))=true:=by simp [q2]
        clear q2;go_wp2_with fail
        refine C2.mono ?_;rintro e w8 ⟨rfl,b8⟩;go_wp2;go_ret;exact ⟨Bx H.out.symm,Bv B0 (Bv ha7 b8)⟩
       rw [q2] at C2;have HQ2:=Br q2;clear q2;have q2':((k:Int) != (k:Int))=false:=Bo;go_wp2_with fail
       refine C2.mono ?_;rintro e w8 ⟨rfl,b8⟩;have tF:=Bv ha7 b8;replace X:=X.below b8;clear X_0 X_1 X_2 X_3 X_l;obtain ⟨X_0,X_1,X_2,X_3,X_l⟩:=X.g4;replace R:=R.below b8;clear R_0 R_1 R_2 R_3 R_4 R_5 R_6 R_7 R_l;obtain ⟨R_0,R_1,R_2,R_3,R_4,R_5,R_6,R_7,R_l⟩:=R.g8;have C3:=Xf y (⟨A1,y.shelf.length,c1⟩,⟨Ac ⟨b,o,Ab⟩,y.runs.length,c2⟩) y.runs[k] (⟨A8,n8,c8⟩,⟨At,nt,ct⟩) (Ch y) ⟨A3,(Ch y).length,c3⟩ w8 fA qX tS hwt (HRr.out _ tF) ((O2.below ((Bv hb tF).mono hsb)).more (Ah hsb (Bv hb tF).size));by_cases q3:Kp y.now y.runs[k] (Ch y);case neg =>
        have H:=Br (Cg (show ¬ Dk y from fun h=>q3 (h.2.2.2.2.2.2.2.2.1 _ (Aw aA))));rw [Cg q3] at C3;clear q3;go_wp2_with fail
        refine C3.mono ?_;rintro e w9 ⟨rfl,b9⟩;go_wp2;go_ret;exact ⟨Bx H.out.symm,Bv B0 (Bv tF b9)⟩
       have S:=Br (HSt.out HQ1.out HQ2.out q3);rw [Di q3] at C3;clear q3;go_wp2_with fail
       refine C3.mono ?_;rintro e w9 ⟨rfl,b9⟩;go_wp2;first
        | exact ⟨⟨k+1,Bl,by go_num,S,Bv hb (Bv tF b9)⟩,clM⟩
        | (refine ⟨?_,clM⟩;(repeat apply Exists.intro);refine ⟨?_,clR⟩;exact ⟨k+1,Bl,by go_num,S,Bv hb (Bv tF b9)⟩)
      ·have aB:¬ (k:Int)<(y.runs.length:Int):=Bl;have HRt:Hid (Kt y y.runs.length):=fun j hj _=>aY.out j hj Bl;have HF:=Br (Aet A1_.out A2_.out A3_.out HS.out HO.out a4 HRt.out);have C:=P7 y (⟨A1,y.shelf.length,c1⟩,⟨A2,y.runs.length,c2⟩) wr hl (HR.out _ B0);obtain ⟨X_0,X_1,X_2,X_3,X_l⟩:=X.g4;exact Ai2
theorem Abw (d:Deed) (s:Sl) (w:World) (hk:d.kind=1) (h:Cq.rd w w d s) :
  Calls Am 91 #[Dc d s] w fun e w'=>e = .returned (.bool (Dg d))/\Below w w w':=by
 have h2:Ce.rd w w d.plan s:=h;have HR:=Br (show ∀ W,Below w w W->Ce.rd W W d.plan s from fun W hW=>Ce.rd_more (Ce.rd_below h2 hW) hW.size);clear h h2;obtain ⟨A,n,c⟩:=s;obtain ⟨kd,rn,p,tk,ty,wk,dr⟩:=d;obtain rfl:kd=1:=hk;have X:=DBox.new 45 [J U 1,J U rn,J U p.prio,J U p.most,J U p.wait,J U p.tasks,Aa A n c,J U tk,J U ty,J U wk,J U dr] w (b:=w) rfl;have B0:Below w w (w.alloc (.cells #[J U 1,J U rn,J U p.prio,J U p.most,J U p.wait,J U p.tasks,Aa A n c,J U tk,J U ty,J U wk,J U dr] 45)):=by repeat (first | exact Bs _ _ | refine Ae ?_ Bp _)
 have e0:inB 1 1 8=true:=rfl;have HD:=Br (show Dg ⟨1,rn,p,tk,ty,wk,dr⟩=(Fk rn && (tk == 0) && (ty == 0) && (wk == 0) && (dr == 0) && Ff p) by simp [Dg,inB,Bool.and_assoc]);by_cases a0:inB rn 0 1000000000=false;rotate_left;replace a0:inB rn 0 1000000000=true:=by simpa using a0
 by_cases a1:(tk != 0)=true;rotate_left;replace a1:(tk != 0)=false:=by simpa using a1
 by_cases a2:(ty != 0)=true;rotate_left;replace a2:(ty != 0)=false:=by simpa using a2
 by_cases a3:(wk != 0)=true;rotate_left;replace a3:(wk != 0)=false:=by simpa using a3
 by_cases a4:(dr != 0)=true;rotate_left;replace a4:(dr != 0)=false:=by simpa using a4
 ·have H:=Br (show Dg ⟨1,rn,p,tk,ty,wk,dr⟩=Ff p by rw [HD.out];simp only [bne_eq_false_iff_eq] at a0 a1 a2 a3 a4;simp [Fk, *]);have C:=Tq p ⟨A,n,c⟩ _ (HR.out _ B0);go_enter func91,ntmps91;go_upto_region 6 with (first | (go_at_call 161;refine (Cs _ _).mono ?_;rintro e w9 ⟨rfl,rfl⟩;(try (with_reducible first | rw [e0] | rw [a0] | rw [a1] | rw [a2] | rw [a3] | rw [a4]));dsimp only) | (go_at_call 90;refine (Cd _ _ _ _).mono ?_;rintro e w9 ⟨rfl,rfl⟩;(try (with_reducible first | rw [e0] | rw [a0] | rw [a1] | rw [a2] | rw [a3] | rw [a4]));dsimp only) | (go_at_call 162;refine C.mono ?_;rintro e w1 ⟨rfl,b1⟩))
  dsimp only [List.append];go_wp2_with (first | (go_at_call 161;refine (Cs _ _).mono ?_;rintro e w9 ⟨rfl,rfl⟩;(try (with_reducible first | rw [e0] | rw [a0] | rw [a1] | rw [a2] | rw [a3] | rw [a4]));dsimp only) | (go_at_call 90;refine (Cd _ _ _ _).mono ?_;rintro e w9 ⟨rfl,rfl⟩;(try (with_reducible first | rw [e0] | rw [a0] | rw [a1] | rw [a2] | rw [a3] | rw [a4]));dsimp only) | (go_at_call 162;refine C.mono ?_;rintro e w1 ⟨rfl,b1⟩))
  go_ret;exact ⟨Bx H.out.symm,Bv B0 b1⟩
 all_goals
  have H:=Br (show Dg ⟨1,rn,p,tk,ty,wk,dr⟩=false by rw [HD.out];simp only [bne_eq_false_iff_eq,bne_iff_ne] at *;simp [Fk, *]);exact No
theorem Abx (d:Deed) (s:Sl) (w:World) (hk:d.kind=2) (h:Cq.rd w w d s) :
  Calls Am 91 #[Dc d s] w fun e w'=>e = .returned (.bool (Dg d))/\Below w w w':=by
 have h2:Ce.rd w w d.plan s:=h;have HR:=Br (show ∀ W,Below w w W->Ce.rd W W d.plan s from fun W hW=>Ce.rd_more (Ce.rd_below h2 hW) hW.size);clear h h2;obtain ⟨A,n,c⟩:=s;obtain ⟨kd,rn,p,tk,ty,wk,dr⟩:=d;obtain rfl:kd=2:=hk;have X:=DBox.new 45 [J U 2,J U rn,J U p.prio,J U p.most,J U p.wait,J U p.tasks,Aa A n c,J U tk,J U ty,J U wk,J U dr] w (b:=w) rfl;have B0:Below w w (w.alloc (.cells #[J U 2,J U rn,J U p.prio,J U p.most,J U p.wait,J U p.tasks,Aa A n c,J U tk,J U ty,J U wk,J U dr] 45)):=by repeat (first | exact Bs _ _ | refine Ae ?_ Bp _)
 have e0:inB 2 1 8=true:=rfl;have HD:=Br (show Dg ⟨2,rn,p,tk,ty,wk,dr⟩=((rn == 0) && (tk == 0) && (ty == 0) && Fk wk && Fk dr && Fn p) by simp [Dg,inB,Bool.and_assoc]);by_cases a0:(rn != 0)=true;rotate_left;replace a0:(rn != 0)=false:=by simpa using a0
 by_cases a1:(tk != 0)=true;rotate_left;replace a1:(tk != 0)=false:=by simpa using a1
 by_cases a2:(ty != 0)=true;rotate_left;replace a2:(ty != 0)=false:=by simpa using a2
 by_cases a3:inB wk 0 1000000000=false;rotate_left;replace a3:inB wk 0 1000000000=true:=by simpa using a3
 by_cases a4:inB dr 0 1000000000=false;rotate_left;replace a4:inB dr 0 1000000000=true:=by simpa using a4
 ·have H:=Br (show Dg ⟨2,rn,p,tk,ty,wk,dr⟩=Fn p by rw [HD.out];simp only [bne_eq_false_iff_eq] at a0 a1 a2 a3 a4;simp [Fk, *]);exact Ay
 all_goals
  have H:=Br (show Dg ⟨2,rn,p,tk,ty,wk,dr⟩=false by rw [HD.out];simp only [bne_eq_false_iff_eq,bne_iff_ne] at *;simp [Fk, *]);exact No
theorem Aby (d:Deed) (s:Sl) (w:World) (hk:d.kind=3) (h:Cq.rd w w d s) :
  Calls Am 91 #[Dc d s] w fun e w'=>e = .returned (.bool (Dg d))/\Below w w w':=by
 have h2:Ce.rd w w d.plan s:=h;have HR:=Br (show ∀ W,Below w w W->Ce.rd W W d.plan s from fun W hW=>Ce.rd_more (Ce.rd_below h2 hW) hW.size);clear h h2;obtain ⟨A,n,c⟩:=s;obtain ⟨kd,rn,p,tk,ty,wk,dr⟩:=d;obtain rfl:kd=3:=hk;have X:=DBox.new 45 [J U 3,J U rn,J U p.prio,J U p.most,J U p.wait,J U p.tasks,Aa A n c,J U tk,J U ty,J U wk,J U dr] w (b:=w) rfl;have B0:Below w w (w.alloc (.cells #[J U 3,J U rn,J U p.prio,J U p.most,J U p.wait,J U p.tasks,Aa A n c,J U tk,J U ty,J U wk,J U dr] 45)):=by repeat (first | exact Bs _ _ | refine Ae ?_ Bp _)
 have e0:inB 3 1 8=true:=rfl;have HD:=Br (show Dg ⟨3,rn,p,tk,ty,wk,dr⟩=(Fk rn && Fk tk && Fk ty && (wk == 0) && (dr == 0) && Fn p) by simp [Dg,inB,Bool.and_assoc]);by_cases a0:inB rn 0 1000000000=false;rotate_left;replace a0:inB rn 0 1000000000=true:=by simpa using a0
 by_cases a1:inB tk 0 1000000000=false;rotate_left;replace a1:inB tk 0 1000000000=true:=by simpa using a1
 by_cases a2:inB ty 0 1000000000=false;rotate_left;replace a2:inB ty 0 1000000000=true:=by simpa using a2
 by_cases a3:(wk != 0)=true;rotate_left;replace a3:(wk != 0)=false:=by simpa using a3
 by_cases a4:(dr != 0)=true;rotate_left;replace a4:(dr != 0)=false:=by simpa using a4
 ·have H:=Br (show Dg ⟨3,rn,p,tk,ty,wk,dr⟩=Fn p by rw [HD.out];simp only [bne_eq_false_iff_eq] at a0 a1 a2 a3 a4;simp [Fk, *]);exact Ay
 all_goals
  have H:=Br (show Dg ⟨3,rn,p,tk,ty,wk,dr⟩=false by rw [HD.out];simp only [bne_eq_false_iff_eq,bne_iff_ne] at *;simp [Fk, *]);exact No
theorem Abz (d:Deed) (s:Sl) (w:World) (hk:d.kind=4) (h:Cq.rd w w d s) :
  Calls Am 91 #[Dc d s] w fun e w'=>e = .returned (.bool (Dg d))/\Below w w w':=by
 have h2:Ce.rd w w d.plan s:=h;have HR:=Br (show ∀ W,Below w w W->Ce.rd W W d.plan s from fun W hW=>Ce.rd_more (Ce.rd_below h2 hW) hW.size);clear h h2;obtain ⟨A,n,c⟩:=s;obtain ⟨kd,rn,p,tk,ty,wk,dr⟩:=d;obtain rfl:kd=4:=hk;have X:=DBox.new 45 [J U 4,J U rn,J U p.prio,J U p.most,J U p.wait,J U p.tasks,Aa A n c,J U tk,J U ty,J U wk,J U dr] w (b:=w) rfl;have B0:Below w w (w.alloc (.cells #[J U 4,J U rn,J U p.prio,J U p.most,J U p.wait,J U p.tasks,Aa A n c,J U tk,J U ty,J U wk,J U dr] 45)):=by repeat (first | exact Bs _ _ | refine Ae ?_ Bp _)
 have e0:inB 4 1 8=true:=rfl;have HD:=Br (show Dg ⟨4,rn,p,tk,ty,wk,dr⟩=(Fk rn && Fk tk && Fk ty && (wk == 0) && (dr == 0) && Fn p) by simp [Dg,inB,Bool.and_assoc]);by_cases a0:inB rn 0 1000000000=false;rotate_left;replace a0:inB rn 0 1000000000=true:=by simpa using a0
 by_cases a1:inB tk 0 1000000000=false;rotate_left;replace a1:inB tk 0 1000000000=true:=by simpa using a1
 by_cases a2:inB ty 0 1000000000=false;rotate_left;replace a2:inB ty 0 1000000000=true:=by simpa using a2
 by_cases a3:(wk != 0)=true;rotate_left;replace a3:(wk != 0)=false:=by simpa using a3
 by_cases a4:(dr != 0)=true;rotate_left;replace a4:(dr != 0)=false:=by simpa using a4
 ·have H:=Br (show Dg ⟨4,rn,p,tk,ty,wk,dr⟩=Fn p by rw [HD.out];simp only [bne_eq_false_iff_eq] at a0 a1 a2 a3 a4;simp [Fk, *]);exact Ay
 all_goals
  have H:=Br (show Dg ⟨4,rn,p,tk,ty,wk,dr⟩=false by rw [HD.out];simp only [bne_eq_false_iff_eq,bne_iff_ne] at *;simp [Fk, *]);exact No
theorem Ab0 (d:Deed) (s:Sl) (w:World) (hk:d.kind=5) (h:Cq.rd w w d s) :
  Calls Am 91 #[Dc d s] w fun e w'=>e = .returned (.bool (Dg d))/\Below w w w':=by
 have h2:Ce.rd w w d.plan s:=h;have HR:=Br (show ∀ W,Below w w W->Ce.rd W W d.plan s from fun W hW=>Ce.rd_more (Ce.rd_below h2 hW) hW.size);clear h h2;obtain ⟨A,n,c⟩:=s;obtain ⟨kd,rn,p,tk,ty,wk,dr⟩:=d;obtain rfl:kd=5:=hk;have X:=DBox.new 45 [J U 5,J U rn,J U p.prio,J U p.most,J U p.wait,J U p.tasks,Aa A n c,J U tk,J U ty,J U wk,J U dr] w (b:=w) rfl;have B0:Below w w (w.alloc (.cells #[J U 5,J U rn,J U p.prio,J U p.most,J U p.wait,J U p.tasks,Aa A n c,J U tk,J U ty,J U wk,J U dr] 45)):=by repeat (first | exact Bs _ _ | refine Ae ?_ Bp _)
 have e0:inB 5 1 8=true:=rfl;have HD:=Br (show Dg ⟨5,rn,p,tk,ty,wk,dr⟩=((rn == 0) && (tk == 0) && (ty == 0) && (wk == 0) && (dr == 0) && Fn p) by simp [Dg,inB,Bool.and_assoc]);by_cases a0:(rn != 0)=true;rotate_left;replace a0:(rn != 0)=false:=by simpa using a0
 by_cases a1:(tk != 0)=true;rotate_left;replace a1:(tk != 0)=false:=by simpa using a1
 by_cases a2:(ty != 0)=true;rotate_left;replace a2:(ty != 0)=false:=by simpa using a2
 by_cases a3:(wk != 0)=true;rotate_left;replace a3:(wk != 0)=false:=by simpa using a3
 by_cases a4:(dr != 0)=true;rotate_left;replace a4:(dr != 0)=false:=by simpa using a4
 ·have H:=Br (show Dg ⟨5,rn,p,tk,ty,wk,dr⟩=Fn p by rw [HD.out];simp only [bne_eq_false_iff_eq] at a0 a1 a2 a3 a4;simp [Fk, *]);exact Ay
 all_goals
  have H:=Br (show Dg ⟨5,rn,p,tk,ty,wk,dr⟩=false by rw [HD.out];simp only [bne_eq_false_iff_eq,bne_iff_ne] at *;simp [Fk, *]);exact No
theorem Ab1 (d:Deed) (s:Sl) (w:World) (hk:d.kind=8) (h:Cq.rd w w d s) :
  Calls Am 91 #[Dc d s] w fun e w'=>e = .returned (.bool (Dg d))/\Below w w w':=by
 have h2:Ce.rd w w d.plan s:=h;have HR:=Br (show ∀ W,Below w w W->Ce.rd W W d.plan s from fun W hW=>Ce.rd_more (Ce.rd_below h2 hW) hW.size);clear h h2;obtain ⟨A,n,c⟩:=s;obtain ⟨kd,rn,p,tk,ty,wk,dr⟩:=d;obtain rfl:kd=8:=hk;have X:=DBox.new 45 [J U 8,J U rn,J U p.prio,J U p.most,J U p.wait,J U p.tasks,Aa A n c,J U tk,J U ty,J U wk,J U dr] w (b:=w) rfl;have B0:Below w w (w.alloc (.cells #[J U 8,J U rn,J U p.prio,J U p.most,J U p.wait,J U p.tasks,Aa A n c,J U tk,J U ty,J U wk,J U dr] 45)):=by repeat (first | exact Bs _ _ | refine Ae ?_ Bp _)
 have e0:inB 8 1 8=true:=rfl;have HD:=Br (show Dg ⟨8,rn,p,tk,ty,wk,dr⟩=((rn == 0) && (tk == 0) && (ty == 0) && (wk == 0) && (dr == 0) && Fn p) by simp [Dg,inB,Bool.and_assoc]);by_cases a0:(rn != 0)=true;rotate_left;replace a0:(rn != 0)=false:=by simpa using a0
 by_cases a1:(tk != 0)=true;rotate_left;replace a1:(tk != 0)=false:=by simpa using a1
 by_cases a2:(ty != 0)=true;rotate_left;replace a2:(ty != 0)=false:=by simpa using a2
 by_cases a3:(wk != 0)=true;rotate_left;replace a3:(wk != 0)=false:=by simpa using a3
 by_cases a4:(dr != 0)=true;rotate_left;replace a4:(dr != 0)=false:=by simpa using a4
 ·have H:=Br (show Dg ⟨8,rn,p,tk,ty,wk,dr⟩=Fn p by rw [HD.out];simp only [bne_eq_false_iff_eq] at a0 a1 a2 a3 a4;simp [Fk, *]);exact Ay
 all_goals
  have H:=Br (show Dg ⟨8,rn,p,tk,ty,wk,dr⟩=false by rw [HD.out];simp only [bne_eq_false_iff_eq,bne_iff_ne] at *;simp [Fk, *]);exact No
theorem Ab2 (d:Deed) (s:Sl) (w:World) (hk:d.kind=6) (h:Cq.rd w w d s) :
  Calls Am 91 #[Dc d s] w fun e w'=>e = .returned (.bool (Dg d))/\Below w w w':=by
 have h2:Ce.rd w w d.plan s:=h;have HR:=Br (show ∀ W,Below w w W->Ce.rd W W d.plan s from fun W hW=>Ce.rd_more (Ce.rd_below h2 hW) hW.size);clear h h2;obtain ⟨A,n,c⟩:=s;obtain ⟨kd,rn,p,tk,ty,wk,dr⟩:=d;obtain rfl:kd=6:=hk;have X:=DBox.new 45 [J U 6,J U rn,J U p.prio,J U p.most,J U p.wait,J U p.tasks,Aa A n c,J U tk,J U ty,J U wk,J U dr] w (b:=w) rfl;have B0:Below w w (w.alloc (.cells #[J U 6,J U rn,J U p.prio,J U p.most,J U p.wait,J U p.tasks,Aa A n c,J U tk,J U ty,J U wk,J U dr] 45)):=by repeat (first | exact Bs _ _ | refine Ae ?_ Bp _)
 have e0:inB 6 1 8=true:=rfl;have HD:=Br (show Dg ⟨6,rn,p,tk,ty,wk,dr⟩=(Fk rn && (tk == 0) && (ty == 0) && (wk == 0) && (dr == 0) && Fn p) by simp [Dg,inB,Bool.and_assoc]);by_cases a0:inB rn 0 1000000000=false;rotate_left;replace a0:inB rn 0 1000000000=true:=by simpa using a0
 by_cases a1:(tk != 0)=true;rotate_left;replace a1:(tk != 0)=false:=by simpa using a1
 by_cases a2:(ty != 0)=true;rotate_left;replace a2:(ty != 0)=false:=by simpa using a2
 by_cases a3:(wk != 0)=true;rotate_left;replace a3:(wk != 0)=false:=by simpa using a3
 by_cases a4:(dr != 0)=true;rotate_left;replace a4:(dr != 0)=false:=by simpa using a4
 ·have H:=Br (show Dg ⟨6,rn,p,tk,ty,wk,dr⟩=Fn p by rw [HD.out];simp only [bne_eq_false_iff_eq] at a0 a1 a2 a3 a4;simp [Fk, *]);exact Ay
 all_goals
  have H:=Br (show Dg ⟨6,rn,p,tk,ty,wk,dr⟩=false by rw [HD.out];simp only [bne_eq_false_iff_eq,bne_iff_ne] at *;simp [Fk, *]);exact No
theorem Ab3 (d:Deed) (s:Sl) (w:World) (hk:d.kind=7) (h:Cq.rd w w d s) :
  Calls Am 91 #[Dc d s] w fun e w'=>e = .returned (.bool (Dg d))/\Below w w w':=by
 have h2:Ce.rd w w d.plan s:=h;have HR:=Br (show ∀ W,Below w w W->Ce.rd W W d.plan s from fun W hW=>Ce.rd_more (Ce.rd_below h2 hW) hW.size);clear h h2;obtain ⟨A,n,c⟩:=s;obtain ⟨kd,rn,p,tk,ty,wk,dr⟩:=d;obtain rfl:kd=7:=hk;have X:=DBox.new 45 [J U 7,J U rn,J U p.prio,J U p.most,J U p.wait,J U p.tasks,Aa A n c,J U tk,J U ty,J U wk,J U dr] w (b:=w) rfl;have B0:Below w w (w.alloc (.cells #[J U 7,J U rn,J U p.prio,J U p.most,J U p.wait,J U p.tasks,Aa A n c,J U tk,J U ty,J U wk,J U dr] 45)):=by repeat (first | exact Bs _ _ | refine Ae ?_ Bp _)
 have e0:inB 7 1 8=true:=rfl;have HD:=Br (show Dg ⟨7,rn,p,tk,ty,wk,dr⟩=(Fk rn && (tk == 0) && (ty == 0) && (wk == 0) && (dr == 0) && Fn p) by simp [Dg,inB,Bool.and_assoc]);by_cases a0:inB rn 0 1000000000=false;rotate_left;replace a0:inB rn 0 1000000000=true:=by simpa using a0
 by_cases a1:(tk != 0)=true;rotate_left;replace a1:(tk != 0)=false:=by simpa using a1
 by_cases a2:(ty != 0)=true;rotate_left;replace a2:(ty != 0)=false:=by simpa using a2
 by_cases a3:(wk != 0)=true;rotate_left;replace a3:(wk != 0)=false:=by simpa using a3
 by_cases a4:(dr != 0)=true;rotate_left;replace a4:(dr != 0)=false:=by simpa using a4
 ·have H:=Br (show Dg ⟨7,rn,p,tk,ty,wk,dr⟩=Fn p by rw [HD.out];simp only [bne_eq_false_iff_eq] at a0 a1 a2 a3 a4;simp [Fk, *]);exact Ay
 all_goals
  have H:=Br (show Dg ⟨7,rn,p,tk,ty,wk,dr⟩=false by rw [HD.out];simp only [bne_eq_false_iff_eq,bne_iff_ne] at *;simp [Fk, *]);exact No
def Hy (l:List Task) (t:Nat) (f:Task->Task):List Task:=l.set t (f (l.getD t ⟨0,0,0,0⟩))
theorem Ot (l:List Task) (t:Nat) (f:Task->Task):(Hy l t f).length=l.length:=by unfold Hy;rw [List.length_set]
def Eu (p:Plan) (t:Nat):Task :=
 let n:=(Eg (Ea p) p.tasks.toNat t).length
 ⟨if n=0 then 2 else 1,n,0,0⟩
def Cl (id:Int) (p:Plan):Run:=⟨id,p,1,(List.range p.tasks.toNat).map (Eu p)⟩
theorem Ql (id:Int) (p:Plan):(Cl id p).tasks.length=p.tasks.toNat:=by unfold Cl;simp
def Du (x:Task):Task:=⟨if x.need - 1=0 then 2 else x.state,x.need - 1,x.try_,x.until_⟩
def Jc (r:Run) (t:Nat):List Task:=(Gj (Ea r.plan) r.plan.tasks.toNat t).foldl (fun l b=>Hy l b Du) (Hy r.tasks t fun x=>⟨4,x.need,x.try_,0⟩)
def Jq (r:Run) (t:Nat):Run:=⟨r.id,r.plan,stL (Jc r t),Jc r t⟩
def Dr (x:Task):Task:=if x.state≠4/\x.state≠5 then ⟨6,x.need,x.try_,0⟩ else x
def D6 (r:Run) (st:Int):Run:=⟨r.id,r.plan,st,r.tasks.map Dr⟩
def Dp (r:Run) (t:Nat):Run :=
 if (Cv r t).try_<r.plan.most then ⟨r.id,r.plan,r.state,Hy r.tasks t fun x=>⟨2,x.need,x.try_,0⟩⟩
 else D6 ⟨r.id,r.plan,r.state,Hy r.tasks t fun x=>⟨5,x.need,x.try_,0⟩⟩ 3
def Eo (r:Run) (t:Nat) (now:Int):Run:=⟨r.id,r.plan,r.state,Hy r.tasks t fun x=>⟨3,x.need,x.try_+1,now+r.plan.wait⟩⟩
def Mb (y:Yard) (r:Run) (t:Nat):Yard:=⟨y.now,y.seq+1,y.shelf.set (C7 r.id) (Jk (y.shelf.getD (C7 r.id) []) ⟨r.plan.prio,y.seq,r.id,t⟩),y.runs⟩
def Oe (was r:Run) (n:Nat):List Nat:=(List.range n).filter fun t=>(Cv r t).state == 2 && !((Cv was t).state == 2)
def Ny (y:Yard) (was r:Run):Yard:=(Oe was r r.tasks.length).foldl (fun y t=>Mb y r t) y
def Hd:Run:=⟨0,⟨0,0,0,0,[]⟩,0,[]⟩
def Gn (y:Yard) (k:Nat) (r:Run):Yard:=Ny ⟨y.now,y.seq,y.shelf,y.runs.set k r⟩ (y.runs.getD k Hd) r
theorem Vu (was r:Run) (n:Nat):Oe was r (n+1)=Oe was r n ++ (if (Cv r n).state=2 /\ ¬ (Cv was n).state=2 then [n] else []):=by
 unfold Oe;rw [List.range_succ,List.filter_append];congr 1;by_cases h1:(Cv r n).state=2<;>by_cases h2:(Cv was n).state=2<;>simp [h1,h2]
theorem Ad3 (y:Yard) (r:Run) (t:Nat):(Mb y r t).shelf.length=y.shelf.length:=by unfold Mb;simp
theorem Q5 (r:Run):∀ (l:List Nat) (y:Yard),(l.foldl (fun y t=>Mb y r t) y).now=y.now/\(l.foldl (fun y t=>Mb y r t) y).runs=y.runs/\(l.foldl (fun y t=>Mb y r t) y).shelf.length=y.shelf.length/\(l.foldl (fun y t=>Mb y r t) y).seq=y.seq+l.length
 | [],y=>⟨rfl,rfl,rfl,Bo⟩
 | t :: l,y=>by
  obtain ⟨h1,h2,h3,h4⟩:=Q5 r l (Mb y r t);refine ⟨by rw [List.foldl_cons,h1];rfl,by rw [List.foldl_cons,h2];rfl,by rw [List.foldl_cons,h3,Ad3],?_⟩;rw [List.foldl_cons,h4,List.length_cons,show (Mb y r t).seq=y.seq+1 from rfl];push_cast;omega
noncomputable def Cb (y:Yard) (i:Nat):Yard:=⟨y.now,y.seq,y.shelf.set i ((y.shelf.getD i []).filter fun e=>Fc y e),y.runs⟩
def Ey (home draw:Int):List Nat :=
 let d:=(max draw 0 % 3).toNat
 (List.range 3).map fun i=>((home.toNat+1+(d+i) % 3) % 4)
noncomputable def Ez (home:Nat) (y:Yard) (v:Nat):Yard :=
 if (y.shelf.getD home []).length=0 then
  let z:=Cb y v
  let l:=z.shelf.getD v []
  ⟨z.now,z.seq,(z.shelf.set v (l.drop (Df l))).set home (Gy ((z.shelf.set v (l.drop (Df l))).getD home []) (l.take (Df l))),z.runs⟩
 else y
theorem Rd.ent_ {w:World} {B:Nat} {A:Option Addr} {n c:Nat} {l:List Entry} (h:Rd Cz w B (Aa A n c) l) {k:Nat} (hk:k<l.length) :
  ∃ b o,A=Ac ⟨b,o,Ab⟩/\b<B/\w.cell? ⟨b,o+k * 4,Ab⟩=Ac (J U l[k].prio)/\w.cell? ⟨b,o+k * 4+1,Ab⟩=Ac (J U l[k].seq)/\w.cell? ⟨b,o+k * 4+2,Ab⟩=Ac (J U l[k].run)/\w.cell? ⟨b,o+k * 4+3,Ab⟩=Ac (J U l[k].task):=by
 obtain ⟨A',c',hv,_,hA⟩:=h;simp only [Value.slice.injEq] at hv;obtain ⟨rfl,_,_⟩:=hv;obtain ⟨b,o,rfl,hb,hc⟩:=hA Bl;exact ⟨b,o,rfl,hb,hc k hk 0 _ rfl,hc k hk 1 _ rfl,hc k hk 2 _ rfl,hc k hk 3 _ rfl⟩
theorem Nz {f:FuncId} {fn:Func} (hf:Am.funcs[f]? = Ac fn) (hname:(fn.name == "runtime.NumGoroutine")=false) (hb:fn.body.isNone=false):∀ (args:Array Value) (w:World),(callFunc f args).run Am w = .ok (.enter f args) w:=fun args w=>by
 have h1:fn.name ≠ "runtime.NumGoroutine" := by simpa using hname
 cases h:fn.body with
 | none=>rw [h] at hb;cases hb
 | some c=>simp [callFunc,hf,h1,h]
theorem Qm (FN p:Nat) (pred:Entry->Bool) (hF:∀ (args:Array Value) (w:World),(callFunc FN args).run Am w = .ok (.enter FN args) w) (l:List Entry) (A:Option Addr) (n c:Nat) (w:World) (hl:l.length<=2000000) (h:Rd Cz w w (Aa A n c) l)
  (hf:∀ (W:World) (x:Entry),Below w w W->Calls Am FN #[G6 x (),.pointer (Ac ⟨p,0,Ab⟩)] W fun e w'=>e = .returned (.bool (pred x))/\Below W W w') :
  Calls Am 279 #[Aa A n c,.func (.func FN) #[] #[.pointer (Ac ⟨p,0,Ab⟩)]] w fun e w'=>e = .returned (J U (Hv pred l))/\Below w w w':=by
 obtain rfl:n=l.length:=by obtain ⟨A',c',hv,_⟩:=id h;simp only [Value.slice.injEq] at hv;exact hv.2.1
 have HF:=Br hf;clear hf;go_enter func279,ntmps279;go_wp2;go_loopw [8] (fun i wr=>∃ k:Nat,k<=l.length/\i = J U k/\Hid (∀ j (hj:j<k) (hj':j<l.length),pred l[j]=false)/\Below w w wr) (fun i _=>l.length - (intOf i).toNat);case atStart=>exact ⟨0,Ag _,rfl,fun j hj=>absurd hj Bl,Bs _ _⟩
 case round =>
  obtain ⟨k,hk,rfl,cQ,hb⟩:=hrel;by_cases aA:k<l.length
  ·obtain ⟨b,o,rfl,aJ,c0,c1,c2,c3⟩:=(h.below hb).ent_ aA;have aB:(k:Int)<(l.length:Int):=Bl;have hs:=hb.size;have C:=HF.out wr l[k] hb;cases t1:pred l[k]
   ·have S:Hid (∀ j (hj:j<k+1) (hj':j<l.length),pred l[j]=false):=Am5
    rw [t1] at C;go_wp2_with fail
    refine C.mono ?_;rintro e w1 ⟨rfl,aG⟩;have hE:=Bv hb aG;go_wp2;first
     | exact ⟨⟨k+1,Bl,by go_num,S,hE⟩,clM⟩
     | (refine ⟨?_,clM⟩;(repeat apply Exists.intro);refine ⟨?_,clR⟩;exact ⟨k+1,Bl,by go_num,S,hE⟩)
   ·have H:=Br (Jy aA (fun j hj=>cQ.out j hj Bl) t1);rw [t1] at C;go_wp2_with fail
    refine C.mono ?_;rintro e w1 ⟨rfl,aG⟩;have hE:=Bv hb aG;go_wp2;go_ret;exact ⟨Cy (by rw [H.out]),hE⟩
  ·have aB:¬ (k:Int)<(l.length:Int):=Bl;have H:=Br (Km (p:=pred) (l:=l) (fun j hj=>cQ.out j Bl hj));go_wp2;go_ret;exact ⟨Cy (by rw [H.out]),hb⟩
theorem Sz (l:List Entry) (A:Option Addr) (n c:Nat) (F:List Nat) (FN p:Nat) (pred:Entry->Bool) (hF:∀ (args:Array Value) (w:World),(callFunc FN args).run Am w = .ok (.enter FN args) w) (w:World) (hl:l.length<=2000000)
  (hdel:∀ (W:World) (x:Entry),Chg F w W->Calls Am FN #[G6 x (),.pointer (Ac ⟨p,0,Ab⟩)] W fun e w'=>e = .returned (.bool (pred x))/\Below W W w')
  (hidx:Calls Am 279 #[Aa A n c,.func (.func FN) #[] #[.pointer (Ac ⟨p,0,Ab⟩)]] w fun e w'=>e = .returned (J U (Hv pred l))/\Below w w w')
  (h:Hw Cz w F (Aa A n c) l) :
  Calls Am 220 #[Aa A n c,.func (.func FN) #[] #[.pointer (Ac ⟨p,0,Ab⟩)]] w (Ahg Cz A c F (l.filter fun x=>!pred x) w):=by
 obtain rfl:n=l.length:=by obtain ⟨A',c',hv,_⟩:=h.1;simp only [Value.slice.injEq] at hv;exact hv.2.1
 have HDel:=Br hdel;clear hdel;rcases Mq pred l with hr | ⟨k,hk,hr⟩
 ·have HN:Hid (∀ j (hj:j<l.length),pred l[j]=false):=fun j hj=>by
   cases hp:pred l[j] with
   | false=>rfl
   | true=>exact absurd (Ry.2 ⟨_,Aw hj,hp⟩) Bl
  rw [hr] at hidx;clear hr;go_enter func220,ntmps220;go_wp2_with fail
  refine hidx.mono ?_;rintro e w1 ⟨rfl,b1⟩;go_wp2;go_ret;exact ⟨l.length,F,rfl,by rw [Agu HN.out];exact h.below b1,fun b hb=>hb,Chg.of_below F b1⟩
 have HK:=Br (show Kept pred l l k (k+1) from by
  obtain ⟨h1,h2⟩:(∀ j (hj:j<l.length),j<k->pred l[j]=false)/\pred l[k]=true:=by
   unfold Hv at hr;cases hf:l.findIdx? pred with
   | none=>rw [hf] at hr;simp only at hr;omega
   | some i =>
    rw [hf] at hr;simp only at hr;obtain ⟨hi,hp,hb⟩:=List.findIdx?_eq_some_iff_getElem.1 hf;obtain rfl:i=k:=Bl;exact ⟨fun j hj gB=>by simpa using hb j gB,hp⟩
  exact Ad2 hk h1 h2)
 obtain ⟨b,o,rfl,rfl,hb,gI⟩:=h.at_ Bl;have HRd:=h.rd;clear h;rw [hr] at hidx;clear hr;have bZ:((k:Int) == -1)=false:=beq_eq_false_iff_ne.2 Bl;go_enter func220,ntmps220;go_wp2_with fail
 refine hidx.mono ?_;rintro e w1 ⟨rfl,b1⟩;have HR1:=(HRd.below b1).more b1.size;have hf1:∀ j,w1.frozen? ⟨b,j,Ab⟩=false:=fun j=>(b1.frozen (p:=⟨b,j,Ab⟩) hb).trans (gI j);have C1:=Chg.of_below [b] b1;go_wp2;clear bZ;go_loopw [5,6] (fun vi vj wr=>∃ (i j:Nat) (M:List Entry),i<j/\j<=l.length/\vi = J U i/\vj = J U j/\Hid (Kept pred l M i j)/\Rd Cz wr wr (Aa (Ac ⟨b,o,Ab⟩) l.length c) M/\Hid (∀ t,wr.frozen? ⟨b,t,Ab⟩=false)/\Chg [b] w wr) (fun _ vj _=>l.length - (intOf vj).toNat);case atStart=>exact ⟨k,k+1,l,Nat.lt_succ_self _,hk,rfl,by go_num,HK,HR1,hf1,C1⟩
 case round =>
  clear HR1 hf1 C1 HK b1 HRd gI hk;obtain ⟨i,j,M,sA,hj,rfl,rfl,hK,hR,hF,hC⟩:=hrel;have hML:=hK.out.len;have cZ:b<wr:=Ai hb hC.size;by_cases aA:j<l.length
  ·have aB:(j:Int)<(l.length:Int):=Bl;have hiI:(i:Int)<(l.length:Int):=Bl;obtain ⟨b',o',hA,_,d0,d1,d2,d3⟩:=hR.ent_ (k:=j) Bl;simp only [Option.some.injEq,Addr.mk.injEq,and_true] at hA;obtain ⟨rfl,rfl⟩:=hA;have hMj:=hK.out.tail j aA Bl (Bt _);rw [hMj] at d0 d1 d2 d3;clear hMj;have ha:=(Bs wr wr).alloc (Bt _) (.cells #[J U l[j].prio,J U l[j].seq,J U l[j].run,J U l[j].task] 71);have V:=DBox.new 71 [J U l[j].prio,J U l[j].seq,J U l[j].run,J U l[j].task] wr rfl;have C:=HDel.out _ l[j] (hC.trans (Chg.of_below [b] ha));have HMl:=Br hML;clear hML;cases q:pred l[j]
   ·have S:=Br (hK.out.keep aA sA q);rw [q] at C;go_wp2_with fail
    refine C.mono ?_;rintro e w3 ⟨rfl,b3⟩;replace V:=V.below b3;have rB:=Bv ha b3;have V_:=V.g4;have R3:=(hR.below rB).more rB.size;have F3:∀ t,w3.frozen? ⟨b,t,Ab⟩=false:=fun t=>(rB.frozen (p:=⟨b,t,Ab⟩) cZ).trans (hF.out t);obtain ⟨b',o',hA,cB,f0,f1,f2,f3⟩:=R3.ent_ (k:=i) (by rw [HMl.out];omega);simp only [Option.some.injEq,Addr.mk.injEq,and_true] at hA;obtain ⟨rfl,rfl⟩:=hA;have R4:=Br (R3.part i (by rw [HMl.out];omega) l[j] 0 (Cz.cells l[j]) (by rw [Cz.len];omega) (fun t ht=>by rw [Nat.zero_add];exact List.getElem?_eq_getElem ht) (fun t ht h=>by rw [Cz.len] at h;omega));go_wp2;have hw:Ie w3 b (o+i * Cz.sz+0) (Cz.cells l[j])=((((w3.setCell ⟨b,o+i * 4,Ab⟩ (J U l[j].prio)).setCell ⟨b,o+i * 4+1,Ab⟩ (J U l[j].seq)).setCell ⟨b,o+i * 4+2,Ab⟩ (J U l[j].run)).setCell ⟨b,o+i * 4+3,Ab⟩ (J U l[j].task)):=rfl;have R5:=R4.out;have C4:=I6 (Cz.cells l[j]) w3 b (o+i * Cz.sz+0);have Z4:=Jz (Cz.cells l[j]) w3 b (o+i * Cz.sz+0);have F4:∀ t,(Ie w3 b (o+i * Cz.sz+0) (Cz.cells l[j])).frozen? ⟨b,t,Ab⟩=false:=fun t=>by rw [I7];exact F3 t
    rw [hw] at R5 C4 Z4 F4;have C5:=(hC.trans (Chg.of_below [b] rB)).trans C4;have R6:=R5.more (Nat.le_of_eq Z4.symm);first
     | exact ⟨⟨i+1,Bl,j+1,Bl,by go_num,by go_num,_,S,R6,F4,C5⟩,clM⟩
     | exact ⟨⟨i+1,j+1,_,Bl,Bl,by go_num,by go_num,S,R6,F4,C5⟩,clM⟩
     | (refine ⟨?_,clM⟩;(repeat apply Exists.intro);refine ⟨?_,clR⟩;exact ⟨i+1,j+1,_,Bl,Bl,by go_num,by go_num,S,R6,F4,C5⟩)
   ·have S:=Br (hK.out.drop aA q);rw [q] at C;go_wp2_with fail
    refine C.mono ?_;rintro e w3 ⟨rfl,b3⟩;have rB:=Bv ha b3;have R3:=(hR.below rB).more rB.size;have F3:Hid (∀ t,w3.frozen? ⟨b,t,Ab⟩=false):=fun t=>(rB.frozen (p:=⟨b,t,Ab⟩) cZ).trans (hF.out t);have C5:=hC.trans (Chg.of_below [b] rB);go_wp2;first
     | exact ⟨⟨i,j+1,M,Bl,Bl,rfl,by go_num,S,R3,F3,C5⟩,clM⟩
     | (refine ⟨?_,clM⟩;(repeat apply Exists.intro);refine ⟨?_,clR⟩;exact ⟨i,j+1,M,Bl,Bl,rfl,by go_num,S,R3,F3,C5⟩)
  ·have aB:¬ (j:Int)<(l.length:Int):=Bl;have HH:=Br (show M.take i=l.filter fun x=>!pred x by rw [hK.out.head,Bg Bl]);have tI:l.length<=c:=by have:=hR.cap;omega
   have kz:∀ w,(zeroValue 71).run Am w = .ok (.agg #[J U 0,J U 0,J U 0,J U 0]) w:=fun w=>by
    obtain ⟨i0,aQ,aU,aS,aR⟩:=info_parts Gp;simp [zeroValue,typeInfo,aQ,aU]
   have kc:=Oc (P:=Am) wr 74 71 0 (.agg #[J U 0,J U 0,J U 0,J U 0]) underlying74 kz b (o+i * 4) (l.length - i) (c - i) Bl (fun v hv=>by
     simp [Value.cells] at hv;try subst hv
     rfl) (fun q hq=>by
     have hq':q<(l.length - i) * 4:=hq
     have:=hR.some_ Bq (i * 4+q) (by
      show _<M.length * 4;rw [hML];have h3:l.length * 4=i * 4+(l.length - i) * 4:=by rw [<-Nat.add_mul];congr 1;omega
      omega)
     rw [Nat.add_assoc];exact this) hF.out
   go_wp2;clear kc;go_ret;have Rc:=hR.clear i Bl (Builtin.zeroCells #[J U 0,J U 0,J U 0,J U 0] (l.length - i)).toList;rw [HH.out] at Rc;have Cc:=hC.trans (I6 (Builtin.zeroCells #[J U 0,J U 0,J U 0,J U 0] (l.length - i)).toList wr b (o+i * 4));have Rw:=Hw.of_rd (Rc.more (Nat.le_of_eq (Jz _ _ _ _).symm)) (fun t=>by rw [I7];exact hF.out t);refine ⟨i,_,rfl,Rw,fun x hx=>?_,Cc⟩
   have:=H9 _ _ _ hx
   have:b=x:=by simpa [Value.ownBlock] using this
   simp [this]
def Kd (y:Yard):Prop:=y.shelf.length=4/\(∀ l∈y.shelf,Ii l)/\(∀ e∈Ch y,1<=e.seq/\e.seq<=y.seq - 1)/\((Ch y).map (·.seq)).Nodup
theorem Ad4 {y:Yard} (h3:y.shelf.length=4) (h4:∀ k (hk:k<y.shelf.length),Ii y.shelf[k]) (h5:Nx y.seq (Ch y) (Ch y).length):Kd y:=by
 refine ⟨h3,fun l hl=>?_,fun e he=>?_,Sx (fun j hj=>(h5 j hj hj).2)⟩
 ·obtain ⟨k,hk,rfl⟩:=List.getElem_of_mem hl;exact h4 k hk
 ·exact Ano
theorem Zq {y:Yard} (h:Kd y) {k:Nat} (hk:k<=(Ch y).length):Nx y.seq (Ch y) k:=fun j hj _ =>
 ⟨h.2.2.1 _ (Aw hj),Sy h.2.2.2 (fun e he=>(h.2.2.1 e he).1) hj⟩
def Zr (l:List Entry) (k m:Nat):Prop:=∀ j (hj:j<l.length) (hk:k<l.length),j<m->l[j].seq≠l[k].seq
theorem Ab4 {l:List Entry} {k:Nat} (hk:k<l.length) (h:Zr l k k) (hp:∀ j (hj:j<l.length),j<=k->1<=l[j].seq):l[k].seq.toNat∉Jb l k:=by
 intro hm;unfold Jb at hm;obtain ⟨x,hx,he⟩:=List.mem_map.1 hm;obtain ⟨j,hj,rfl⟩:=List.getElem_of_mem hx;rw [Az] at hj;rw [List.getElem_take] at he;have h1:=hp j Bl Bl;have h2:=hp k hk (Bt _);exact h j Bl hk Bl Bl
theorem Tr (y:Yard) (s:Sl×Sl) (w:World) (hl:Ca y<=2000000) (hq:1<=y.seq/\y.seq<=1000000000) (h:Bw.rd w w y s) :
  Calls Am 233 #[Ds y s] w fun e w'=>e = .returned (.bool (tf (Kd y)))/\Below w w w':=by
 have HR:=Br (show ∀ W,Below w w W->Bw.rd W W y s from fun W hW=>Bw.rd_more (Bw.rd_below h hW) hW.size);obtain ⟨⟨A1,n1,c1⟩,⟨A2,n2,c2⟩⟩:=s;obtain rfl:n1=y.shelf.length:=RdL.at1 (s:=⟨A1,n1,c1⟩) h.1;have h1:RdL (Dt.list By) w w (Aa A1 y.shelf.length c1) y.shelf:=h.1;have hls:y.shelf.length<=2000000:=Ah (Ck Cn _) (by unfold Ca at hl;omega);have HE:=Br (show ∀ k (hk:k<y.shelf.length),y.shelf[k].length<=2000000 from fun k hk=>by
  have:=Dm (cnt:=Cn) (Aw hk)
  have h2:y.shelf[k].length<=Cn y.shelf[k]:=Ck D4 _;unfold Ca at hl;omega)
 have HEn:=Br (show (Ch y).length<=2000000 by
  have:=Ik y.shelf y.shelf.length
  rw [List.take_length] at this;unfold Ca at hl;unfold Ch;omega)
 clear h;have X:=DBox.new 31 [J U y.now,J U y.seq,Aa A1 y.shelf.length c1,Aa A2 n2 c2] w (b:=w) rfl;have B0:Below w w (w.alloc (.cells #[J U y.now,J U y.seq,Aa A1 y.shelf.length c1,Aa A2 n2 c2] 31)):=by repeat (first | exact Bs _ _ | refine Ae ?_ Bp _)
 by_cases a3:y.shelf.length=4;case neg =>
  have a3':((y.shelf.length:Int) != 4)=true:=by simp;omega
  have H:=Br (Cg (show ¬ Kd y from fun h=>a3 h.1));clear a3;go_enter func233,ntmps233;go_wp2;go_ret;exact ⟨Bx H.out.symm,B0⟩
 have a3':((y.shelf.length:Int) != 4)=false:=by simp [a3]
 have A3_:=Br a3;clear a3;go_enter func233,ntmps233;go_wp2;generalize (w.alloc (.cells #[J U y.now,J U y.seq,Aa A1 y.shelf.length c1,Aa A2 n2 c2] 31))=W at *
 clear a3';go_loopw [3] (fun i wr=>∃ k:Nat,k<=y.shelf.length/\i = J U k/\Hid (∀ j (hj:j<y.shelf.length),j<k->Ii y.shelf[j])/\Below W W wr) (fun i _=>y.shelf.length - (intOf i).toNat);case atStart=>exact ⟨0,Ag _,rfl,fun j _ h0=>absurd h0 Bl,Bs _ _⟩
 case round =>
  obtain ⟨k,hk,rfl,aY,hb⟩:=hrel;replace X:=X.below hb;replace B0:=Bv B0 hb;obtain ⟨X_0,X_1,X_2,X_3,X_l⟩:=X.g4;by_cases aA:k<y.shelf.length
  ·have aB:(k:Int)<(y.shelf.length:Int):=Bl;obtain ⟨b,o,⟨As,ns,cs⟩,mR,aJ,hr,d0⟩:=(h1.below B0).entryS aA;obtain rfl:ns=y.shelf[k].length:=RdL.at1 (s:=⟨As,ns,cs⟩) hr;subst mR;have C:=Tp y.shelf[k] ⟨As,y.shelf[k].length,cs⟩ wr (HE.out k aA) (hr.more B0.size);by_cases q:Ii y.shelf[k]
   ·exact Aje
   ·have H:=Br (Cg (show ¬ Kd y from fun h=>q (h.2.1 _ (Aw aA))));rw [Cg q] at C;clear q;exact Ajm
  ·have aB:¬ (k:Int)<(y.shelf.length:Int):=Bl;have HS:Hid (∀ k (hk:k<y.shelf.length),Ii y.shelf[k]):=fun j hj=>aY.out j hj Bl;have C:=Oa y (⟨A1,y.shelf.length,c1⟩,⟨A2,n2,c2⟩) wr hl (HR.out _ B0);go_wp2_with fail
   refine C.mono ?_;rintro e w2 ⟨v,rfl,o2,b2⟩;replace X:=X.below b2;replace B0:=Bv B0 b2;clear X_0 X_1 X_2 X_3 X_l aY aA aB hb;have O2:=Rd.of_own o2;clear o2;obtain ⟨A3,c3,rfl,-⟩:=id O2;have qX:=HEn.out;go_wp2;go_loopw [5] (fun i wr=>∃ k:Nat,k<=(Ch y).length/\i = J U k/\Hid (Nx y.seq (Ch y) k)/\Below w2 w2 wr) (fun i _=>(Ch y).length - (intOf i).toNat);case atStart=>exact ⟨0,Ag _,rfl,fun j _ h0=>absurd h0 Bl,Bs _ _⟩
   case round =>
    obtain ⟨k,hk,rfl,aY,hb⟩:=hrel;have X1:=X.below hb;obtain ⟨X1_0,X1_1,X1_2,X1_3,X1_l⟩:=X1.g4;by_cases aA:k<(Ch y).length
    ·have aB:(k:Int)<((Ch y).length:Int):=Bl;obtain ⟨b,o,_,gX,aJ,_,d0,d1,d2,d3⟩:=RdL.entry (Lj (O2.below hb)) aA;subst gX;have bE:b<wr:=Ai aJ hb.size;have w1':U.wrap (y.seq - 1)=y.seq - 1:=Aq _ Bl;have aM:=Cw wr;have B1:=Bv B0 hb;cases q1:inB (Ch y)[k].seq 1 (y.seq - 1)
     ·have H:=Br (Cg (show ¬ Kd y from fun h=>by
       have:=Ct.2 (h.2.2.1 _ (Aw aA))
       rw [q1] at this;cases this))
      go_wp2;refine Bz Bm Bm ?_;repeat (go_big_quiet_step ((go_at_call 90;exact Da (fun u=>Cd _ _ _ u.1))))
      refine wpQuiet_nil ?_;rintro _ ⟨⟨w3,b3⟩,rfl⟩;clear aM;go_wp2;go_ret;exact ⟨Bx H.out.symm,Bv B1 b3⟩
     have HQ:=Br (Ct.1 q1);go_wp2;refine Bz Bm Bm ?_;repeat (go_big_quiet_step ((go_at_call 90;exact Da (fun u=>Cd _ _ _ u.1))))
     refine wpQuiet_nil ?_;rintro _ ⟨⟨w3,b3⟩,rfl⟩;clear aM;go_wp2;clear d0 d1 d2 d3 bE X1_0 X1_1 X1_2 X1_3 X1_l X1 q1 w1';go_loopw [6] (fun i wq=>∃ m:Nat,m<=k/\i = J U m/\Hid (Zr (Ch y) k m)/\Below wr wr wq) (fun i _=>k - (intOf i).toNat);case atStart=>exact ⟨0,Ag _,rfl,fun j _ _ h0=>absurd h0 Bl,b3⟩
     case round =>
      obtain ⟨m,hm,rfl,cQ,cX⟩:=hrel;by_cases kN:m<k
      ·have qP:(m:Int)<(k:Int):=Bl;obtain ⟨b',o',_,bU,bF,_,d0,d1,d2,d3⟩:=RdL.entry (Lj (O2.below (Bv hb cX))) aA;simp only [Option.some.injEq,Addr.mk.injEq,and_true] at bU;obtain ⟨rfl,rfl⟩:=bU;obtain ⟨b',o',_,bU,_,_,f0,f1,f2,f3⟩:=RdL.entry (Lj (O2.below (Bv hb cX))) (show m<(Ch y).length by omega);simp only [Option.some.injEq,Addr.mk.injEq,and_true] at bU;obtain ⟨rfl,rfl⟩:=bU;have hmJ:(m:Int)<((Ch y).length:Int):=Bl;have eB:=cX.size;by_cases q2:(Ch y)[m].seq=(Ch y)[k].seq
       ·have H:=Br (Cg (show ¬ Kd y from fun h=>by
         have h3:=List.pairwise_iff_getElem.1 h.2.2.2 m k (by rw [Ar];omega) (by rw [Ar];omega) Bl;rw [List.getElem_map,List.getElem_map] at h3;exact h3 q2))
        have q2':((Ch y)[m].seq == (Ch y)[k].seq)=true:=beq_iff_eq.2 q2;clear q2;go_wp2;go_quiet (fail);go_wp2;go_ret;exact ⟨Bx H.out.symm,Dq (Bv B1 cX) _⟩
       ·have S:Hid (Zr (Ch y) k (m+1)):=fun j hj aZ hjm=>by
         by_cases e:j=m
         ·subst e;exact q2
         ·exact cQ.out j hj aZ Bl
        have q2':((Ch y)[m].seq == (Ch y)[k].seq)=false:=beq_eq_false_iff_ne.2 q2;clear q2;go_wp2;go_quiet (fail);go_wp2;first
         | exact ⟨⟨m+1,Bl,by go_num,S,Dq cX _⟩,clM⟩
         | (refine ⟨?_,clM⟩;(repeat apply Exists.intro);refine ⟨?_,clR⟩;exact ⟨m+1,Bl,by go_num,S,Dq cX _⟩)
      ·have qP:¬ (m:Int)<(k:Int):=Bl;have S:Hid (Nx y.seq (Ch y) (k+1)):=Ye aY.out aA (Ct.2 HQ.out) (Ab4 aA (fun j hj aZ hjm=>cQ.out j hj aZ Bl) (fun j hj gB=>by
        by_cases e:j=k
        ·subst e;exact HQ.out.1
        ·exact (aY.out j hj Bl).1.1))
       go_wp2;first
        | exact ⟨⟨k+1,Bl,by go_num,S,Bv hb cX⟩,clM⟩
        | (refine ⟨?_,clM⟩;(repeat apply Exists.intro);refine ⟨?_,clR⟩;exact ⟨k+1,Bl,by go_num,S,Bv hb cX⟩)
    ·have aB:¬ (k:Int)<((Ch y).length:Int):=Bl;have H:=Br (Di (Ad4 A3_.out HS.out (fun j hj hj2=>aY.out j hj Bl)));exact Alh
theorem Afs:(Am.info? 3).map (fun i=>(i.zero,i.size,i.bytes))=Ac (Ac (J U 0),1,8):=Bm
theorem Ou (d:Deed) (s:Sl) (w:World) (h:Cq.rd w w d s) :
  Calls Am 91 #[Dc d s] w fun e w'=>e = .returned (.bool (Dg d))/\Below w w w':=by
 cases a0:inB d.kind 1 8;case true =>
  have:d.kind=1\/d.kind=2\/d.kind=3\/d.kind=4\/d.kind=5\/d.kind=6\/d.kind=7\/d.kind=8:=by
   simp [inB] at a0;omega
  rcases this with e | e | e | e | e | e | e | e
  ·exact Abw d s w e h
  ·exact Abx d s w e h
  ·exact Aby d s w e h
  ·exact Abz d s w e h
  ·exact Ab0 d s w e h
  ·exact Ab2 d s w e h
  ·exact Ab3 d s w e h
  ·exact Ab1 d s w e h
 have H:=Br (show Dg d=false by simp [Dg,a0]);clear h;obtain ⟨A,n,c⟩:=s;obtain ⟨kd,rn,p,tk,ty,wk,dr⟩:=d;replace a0:inB kd 1 8=false:=a0;have X:=DBox.new 45 [J U kd,J U rn,J U p.prio,J U p.most,J U p.wait,J U p.tasks,Aa A n c,J U tk,J U ty,J U wk,J U dr] w (b:=w) rfl;have B0:Below w w (w.alloc (.cells #[J U kd,J U rn,J U p.prio,J U p.most,J U p.wait,J U p.tasks,Aa A n c,J U tk,J U ty,J U wk,J U dr] 45)):=by repeat (first | exact Bs _ _ | refine Ae ?_ Bp _)
 go_enter func91,ntmps91;go_wp2_with (go_at_call 90;refine (Cd _ _ _ _).mono ?_;rintro e w9 ⟨rfl,rfl⟩;(try (with_reducible rw [a0]));dsimp only)
 go_ret;exact ⟨Bx H.out.symm,B0⟩
def H8 (l:List Edge):List Int:=l.flatMap fun e=>[e.fr,e.to]
def E7 (d:Deed):List Int :=
 if d.kind=1 then [d.run,d.plan.prio,d.plan.most,d.plan.wait,d.plan.tasks,d.plan.edges.length] ++ H8 d.plan.edges
 else if d.kind=2 then [d.worker,d.draw]
 else if d.kind=3\/d.kind=4 then [d.run,d.task,d.try_]
 else if d.kind=6\/d.kind=7 then [d.run]
 else []
theorem Q6 (l:List Edge):(H8 l).length=2 * l.length:=by
 induction l with
 | nil=>rfl
 | cons a l ih =>
  rw [show H8 (a :: l)=[a.fr,a.to] ++ H8 l from rfl,Bd,List.length_cons,ih];simp;omega
theorem Xh (l:List Edge) (k:Nat) (h:k<l.length):H8 (l.take (k+1))=H8 (l.take k) ++ [l[k].fr,l[k].to]:=by
 rw [List.take_succ_eq_append_getElem h];simp only [H8,List.flatMap_append,List.flatMap_cons,List.flatMap_nil,List.append_nil]
theorem Xi (d:Deed):(E7 d).length<=6+2 * d.plan.edges.length:=by
 unfold E7;split
 ·rw [Bd,Q6];simp
 split
 ·simp;omega
 split
 ·simp;omega
 split<;>(simp;try omega)
theorem Aft (l:List Int):l.flatMap Iz.cells=l.map (Value.int .i64):=Ak7
theorem Ow.ints (w:World) (E:TypeId) (l:List Int) {cs:Array Value} (fP:cs=(l.map (Value.int .i64)).toArray) {n g base:Nat} (hn:n=l.length) (hg:g=w) (hb:base<=w.heap.size) (hl:l.length<=1000) :
  Ow Iz E (w.alloc (.cells cs E)) base (Aa (Ac ⟨g,0,Ab⟩) n n) l:=by
 subst hn hg fP
 have:=World.ownsRow_lit (base:=base) (e:=E) (size:=Iz.sz) w (l.map (Value.int .i64)).toArray l.length hb (by simp [maxLen];omega) (by simp [Iz])
 unfold Ow;rw [Aft];exact this
theorem Ts (d:Deed) (s:Sl) (w:World) (hl:d.plan.edges.length<=1000000) (h:Cq.rd w w d s) :
  Calls Am 125 #[Dc d s] w fun e w'=>∃ v,e = .returned v/\Ow Iz 3 w' w v (E7 d)/\Below w w w':=by
 obtain ⟨i0,aQ,aU,aS,aR⟩:=info_parts Afs;obtain ⟨A,n,c⟩:=s;obtain ⟨kd,rn,p,tk,ty,wk,dr⟩:=d;replace hl:p.edges.length<=1000000:=hl;have h0:Ce.rd w w p ⟨A,n,c⟩:=h;obtain rfl:n=p.edges.length:=RdL.at1 (s:=⟨A,n,c⟩) h0;have h2:Rd He w w (Aa A p.edges.length c) p.edges:=I2 h0;clear h h0;have X:=DBox.new 45 [J U kd,J U rn,J U p.prio,J U p.most,J U p.wait,J U p.tasks,Aa A p.edges.length c,J U tk,J U ty,J U wk,J U dr] w (b:=w) rfl;have B0:Below w w (w.alloc (.cells #[J U kd,J U rn,J U p.prio,J U p.most,J U p.wait,J U p.tasks,Aa A p.edges.length c,J U tk,J U ty,J U wk,J U dr] 45)):=by repeat (first | exact Bs _ _ | refine Ae ?_ Bp _)
 by_cases k2:kd=2
 ·have H:=Br (show E7 ⟨kd,rn,p,tk,ty,wk,dr⟩=[wk,dr] by simp [E7,k2]);rw [H.out];clear H;subst k2;exact Ajb
 by_cases k3:kd=3
 ·have H:=Br (show E7 ⟨kd,rn,p,tk,ty,wk,dr⟩=[rn,tk,ty] by simp [E7,k3]);rw [H.out];clear H;subst k3;exact Ajb
 by_cases k4:kd=4
 ·have H:=Br (show E7 ⟨kd,rn,p,tk,ty,wk,dr⟩=[rn,tk,ty] by simp [E7,k4]);rw [H.out];clear H;subst k4;exact Ajb
 by_cases k6:kd=6
 ·have H:=Br (show E7 ⟨kd,rn,p,tk,ty,wk,dr⟩=[rn] by simp [E7,k6]);rw [H.out];clear H;subst k6;exact Ajb
 by_cases k7:kd=7
 ·have H:=Br (show E7 ⟨kd,rn,p,tk,ty,wk,dr⟩=[rn] by simp [E7,k7]);rw [H.out];clear H;subst k7;exact Ajb
 by_cases k1:kd=1;case neg =>
  have H:=Br (show E7 ⟨kd,rn,p,tk,ty,wk,dr⟩=[] by simp [E7,k1,k2,k3,k4,k6,k7]);rw [H.out];clear H;have b1:(kd == 1)=false:=beq_eq_false_iff_ne.2 k1;have b2:(kd == 2)=false:=beq_eq_false_iff_ne.2 k2;have b3:(kd == 3)=false:=beq_eq_false_iff_ne.2 k3;have b4:(kd == 4)=false:=beq_eq_false_iff_ne.2 k4;have b6:(kd == 6)=false:=beq_eq_false_iff_ne.2 k6;have b7:(kd == 7)=false:=beq_eq_false_iff_ne.2 k7;clear k1 k2 k3 k4 k6 k7;go_enter func125,ntmps125;go_wp2;go_ret;exact ⟨_,rfl,Ow.nil _ _ _ _,B0⟩
 clear k2 k3 k4 k6 k7;have H:=Br (show ∀ k,p.edges.length<=k->E7 ⟨kd,rn,p,tk,ty,wk,dr⟩=[rn,p.prio,p.most,p.wait,p.tasks,p.edges.length] ++ H8 (p.edges.take k) from fun k hk=>by simp [E7,k1,Bg hk]);subst k1;go_enter func125,ntmps125;go_wp2;generalize Dc (⟨1,rn,p,tk,ty,wk,dr⟩:Deed) (⟨A,p.edges.length,c⟩:Sl)=dv;clear X;go_loopw [3,33] (fun vl i wr=>∃ (k:Nat) (v:Value),v=vl/\k<=p.edges.length/\i = J U k/\Hid (Ow Iz 3 wr w v ([rn,p.prio,p.most,p.wait,p.tasks,p.edges.length] ++ H8 (p.edges.take k)))/\Below w w wr) (fun _ i _=>p.edges.length - (intOf i).toNat);case atStart=>exact ⟨0,_,rfl,Ag _,rfl,Ow.ints _ _ _ rfl rfl Bo B0.size (by simp [H8]),B0.alloc B0.size _⟩
 case round =>
  clear B0;obtain ⟨k,v,rfl,hk,rfl,hO,hb⟩:=hrel;by_cases aA:k<p.edges.length
  ·have aB:(k:Int)<(p.edges.length:Int):=Bl;obtain ⟨b,o,rfl,aJ,d0,d1⟩:=(h2.below hb).edge aA;have HT:=Br (Xh p.edges k aA);have HL:=Q6 (p.edges.take k);rw [Az] at HL;generalize p.edges[k].fr=fx at *
   generalize p.edges[k].to=tx at *
   have ha:Hid (∀ w:World,Below w w ((w.alloc (.cells #[J U fx,J U tx] 206)).alloc (.cells #[J U fx,J U tx] 3))):=fun w=>(Bu).alloc Bo _;generalize H8 (p.edges.take k)=L at *
   go_wp2_with (at_builtin;refine Ci _ Iz Bq rfl (.tmp 37) (.tmp 42) rfl underlying26 aQ aU aS aR rfl (v:=v) (l:=[rn,p.prio,p.most,p.wait,p.tasks,p.edges.length] ++ L) rfl (hO.out.below (ha.out wr)) rfl (Rd.of_own (Ow.ints _ _ [fx,tx] rfl Bo Bo (Bt _) Bo)) (by simp;omega) Bo Bq (by simp;have:=hb.size;omega) ?_;intro v5 w5 o5 g5 _)
   have aX:=Bv hb (ha.out wr);have W5:=aX.grown g5 aX.size (fun g hg=>(hO.out.within g hg).1);refine ⟨⟨k+1,_,rfl,Bl,by go_num,?_,W5⟩,clM⟩;rw [HT.out,<-List.append_assoc];exact o5
  ·have aB:¬ (k:Int)<(p.edges.length:Int):=Bl;have HO:=hO.out;rw [<-H.out k Bl] at HO;clear H hO;obtain ⟨A9,c9,rfl,-⟩:=id (Rd.of_own HO);go_wp2;go_ret;exact ⟨_,rfl,HO,hb⟩
end Go.Proofs.YtecnbnbopcblgaaGreat
