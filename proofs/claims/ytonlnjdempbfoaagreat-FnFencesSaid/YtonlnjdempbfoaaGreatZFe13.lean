/-
  A task that runs is drawn (l13Held). Tick of the reference. Written by program (kza.py). Restart of the reference. Written by program (kza.py). Swept of the pro
-/
import Derived.Test.YtonlnjdempbfoaaGreatZFe0
import Derived.Test.YtonlnjdempbfoaaGreatZFe3
import Derived.Test.YtonlnjdempbfoaaGreatZFe7
import Derived.Test.YtonlnjdempbfoaaGreatZFe8
import Derived.Test.YtonlnjdempbfoaaGreatZFe9
import Derived.Test.YtonlnjdempbfoaaGreatZFe10
import Derived.Test.YtonlnjdempbfoaaGreatZFe11
import Derived.Test.YtonlnjdempbfoaaGreatZFe12
namespace Go.Proofs.YtonlnjdempbfoaaGreat
open Go.RowKit
set_option maxRecDepth 100000
set_option maxHeartbeats 4000000
set_option linter.unusedVariables false
set_option linter.unusedSimpArgs false
open Value renaming int->J,slice->Aa
open IntKind renaming i64->U
open Option renaming none->Ab,some->Ac
open Below renaming setCell->Ad
open Nat renaming zero_le->Ag,le_trans->Ah
open Go renaming bodyPost_ret->Aj,wpQuiet_nil->Ak
open Go.Proofs.Tryz renaming prog->An
open Int renaming toNat_natCast->Ap
open IntWalk renaming i64_in->Ar
open List renaming length_map->Au,getElem_mem->Aw,nodup_append->Ax,mem_append_left->Be
def Aal (code:List UInt8) (c:Cur):(Int×Int×Int)×Cur :=
 let a:=Bt code 5 c
 let b:=Bt code 6 a.2
 let d:=Bt code 4 b.2
 ((1+a.1,b.1 - 1,d.1),d.2)
def Pp (code:List UInt8) (r:Run) (c:Cur):(Int×Int×Int)×Cur :=
 let L:=Dk r.tasks 3
 let a:=Bt code L.length c
 let t:=L.getD a.1.toNat 0
 let ty:=(Bx r t).try_
 let o:=Ek code 8 a.2
 if o.1=true then
  let f:=Bt code 2 o.2
  ((r.id,(t:Int),wrap64 (wrap64 (ty - 1)+wrap64 (2 * f.1))),f.2)
 else ((r.id,(t:Int),ty),o.2)
def Et (code:List UInt8):List Run->Cur->(Int×Int×Int)×Cur
 | [],c=>Aal code c
 | r :: rs,c =>
  if (Dk r.tasks 3).length=0 then Et code rs c
  else if (Ek code 5 c).1=true then Et code rs (Ek code 5 c).2
  else Pp code r (Ek code 5 c).2
theorem Aam {code:List UInt8} {r:Run} {rs:List Run} {c:Cur} (h:(Dk r.tasks 3).length=0):Et code (r :: rs) c=Et code rs c:=by rw [Et,if_pos h]
theorem Aan {code:List UInt8} {r:Run} {rs:List Run} {c:Cur} (h:¬ (Dk r.tasks 3).length=0) (o:(Ek code 5 c).1=true):Et code (r :: rs) c=Et code rs (Ek code 5 c).2:=by rw [Et,if_neg h,if_pos o]
theorem Aao {code:List UInt8} {r:Run} {rs:List Run} {c:Cur} (h:¬ (Dk r.tasks 3).length=0) (o:(Ek code 5 c).1=false):Et code (r :: rs) c=Pp code r (Ek code 5 c).2:=by rw [Et,if_neg h,if_neg (by rw [o];simp)]
theorem Abx {l:List Task} {s:Int} : ∀ x∈Dk l s,x<l.length:=fun x hx=>by
 unfold Dk Ev at hx
 exact List.mem_range.1 (List.mem_filter.1 hx).1
theorem Aap (b:Nat) (v:Value) (code:List UInt8) (c:Cur) (y:Yard) (s:Sl×Sl) (F:List Nat) (w:World) (hl:Ci y<=2000000) (h:Drw b v code c w) (hy:Bu.ow w F y s) (cN:b∉F) :
  Calls An 221 #[.pointer (Ac ⟨b,0,Ab⟩),Du y s] w (DrP b v code (.tuple #[.int .i64 (Et code y.runs c).1.1,.int .i64 (Et code y.runs c).1.2.1,.int .i64 (Et code y.runs c).1.2.2]) (Et code y.runs c).2 w):=by
 obtain ⟨⟨A1,n1,c1⟩,⟨A2,n2,c2⟩⟩:=s;obtain rfl:n2=y.runs.length:=RdL.at1 (s:=⟨A2,n2,c2⟩) (Bu.ow_rd (F:=F) (x:=y) hy).2;have cA:y.runs.length<=2000000:=Ah (Ct C9 _) (by unfold Ci at hl;omega);have jA:=Bp (show ∀ k (hk:k<y.runs.length),y.runs[k].tasks.length<=2000000 from fun k hk=>Gu hl hk);have hb:=h.box.lt;clear hl;have C0:=(Chg.refl [b] w).alloc (.cells #[.int .i64 y.now,.int .i64 y.seq,.slice A1 n1 c1,.slice A2 y.runs.length c2] 31);have X:=DBox.new 31 [.int .i64 y.now,.int .i64 y.seq,.slice A1 n1 c1,.slice A2 y.runs.length c2] w rfl;have b0:Below w w (w.alloc (.cells #[.int .i64 y.now,.int .i64 y.seq,.slice A1 n1 c1,.slice A2 y.runs.length c2] 31)):=(Bq _ _).alloc (Br _) _;replace h:=h.below b0;replace hy:Bu.ow _ F y (⟨A1,n1,c1⟩,⟨A2,y.runs.length,c2⟩):=owB hy b0;go_enter Tryz.func221,Tryz.ntmps221;go_wp2;generalize (w.alloc (.cells #[.int .i64 y.now,.int .i64 y.seq,.slice A1 n1 c1,.slice A2 y.runs.length c2] 31))=w0 at *
 clear b0;go_loopw [7,8,9,10] (fun iv u1 u2 u3 wr=>∃ (i:Nat) (c':Cur),i<=y.runs.length/\iv = .int .i64 i/\Hid (Et code y.runs c=Et code (y.runs.drop i) c')/\Drw b v code c' wr/\Hid (Bu.ow wr F y (⟨A1,n1,c1⟩,⟨A2,y.runs.length,c2⟩))/\DBox w [.int .i64 y.now,.int .i64 y.seq,.slice A1 n1 c1,.slice A2 y.runs.length c2] wr/\Chg [b] w wr) (fun i _ _ _ _=>y.runs.length - (intOf i).toNat);case atStart=>exact ⟨0,c,Ag _,rfl,rfl,h,hy,X,C0⟩
 case round =>
  clear h hy X C0;obtain ⟨i,c',hi,rfl,hG,h,hy,X,hc⟩:=hrel;have X_:=X.g4;have hwr:=hc.size;by_cases aA:i<y.runs.length
  ·have aB:(i:Int)<(y.runs.length:Int):=Bk;have aL:(0:Int)<=(i:Int):=Bk;have hD:=Bp (List.drop_eq_getElem_cons aA);have hti:=jA.out i aA;obtain ⟨gr,orr,sk,rfl,cC,bP,k0,k1,k2,k3,k4,k5,k6,k7⟩:=RdL.run (show RdL Co wr wr.heap.size (.slice A2 y.runs.length c2) y.runs from (Bu.ow_rd (F:=F) (x:=y) hy.out).2) aA;have CT:=Bp (Tp y.runs[i] sk 3 wr hti bP);go_wp2_with fail
   refine CT.out.mono ?_;rintro e1 w1 ⟨vt,rfl,ot,b1⟩;clear CT k0 k1 k2 k3 k4 k5 k6 k7 bP;obtain ⟨pB,hwB⟩:=Hw.of_ow ot;obtain ⟨A9,c9,rfl,-⟩:=_root_.id (Rd.of_own ot);replace h:=h.below b1;replace hy:Hid (Bu.ow w1 F y (⟨A1,n1,c1⟩,⟨Ac ⟨gr,orr,Ab⟩,y.runs.length,c2⟩)):=Bu.ow_below (F:=F) (x:=y) (s:=(⟨A1,n1,c1⟩,⟨Ac ⟨gr,orr,Ab⟩,y.runs.length,c2⟩)) hy.out b1;clear X_;replace X:=X.below b1;have X_:=X.g4;have eS:=hc.trans (Chg.of_below [b] b1);have bL:=b1.size;have kM:=Bp (show ∀ x∈Dk y.runs[i].tasks 3,x<y.runs[i].tasks.length from Abx);have hLn:(Dk y.runs[i].tasks 3).length<=2000000:=by have:=Mr y.runs[i].tasks 3 y.runs[i].tasks.length;unfold Dk;omega
   have hO:Hid (∀ c,Pp code y.runs[i] c=Pp code y.runs[i] c):=fun _=>rfl;have Z0:=Bp (fun (hz:(Dk y.runs[i].tasks 3).length=0)=>hG.out.trans ((congrArg (fun l=>Et code l c') hD.out).trans (Aam (code:=code) (r:=y.runs[i]) (rs:=y.runs.drop (i+1)) (c:=c') hz)));have Z1:=Bp (fun (hz:¬ (Dk y.runs[i].tasks 3).length=0) (ho:(Ek code 5 c').1=true)=>hG.out.trans ((congrArg (fun l=>Et code l c') hD.out).trans (Aan (code:=code) (r:=y.runs[i]) (rs:=y.runs.drop (i+1)) (c:=c') hz ho)));have Z2:=Bp (fun (hz:¬ (Dk y.runs[i].tasks 3).length=0) (ho:(Ek code 5 c').1=false)=>hG.out.trans ((congrArg (fun l=>Et code l c') hD.out).trans (Aao (code:=code) (r:=y.runs[i]) (rs:=y.runs.drop (i+1)) (c:=c') hz ho)));have eK:∀ x∈Eh (.slice A9 (Dk y.runs[i].tasks 3).length c9) (Dk y.runs[i].tasks 3).length,x≠b:=fun x hx=>by have h1:=hwB x hx;have h2:b<w:=hb;omega
   by_cases q0:(Dk y.runs[i].tasks 3).length=0
   ·have S:=Bp (Z0.out q0);have qI:¬ (0:Int)<((Dk y.runs[i].tasks 3).length:Int):=Bk;clear q0 Z0 Z1 Z2 hG;go_wp2;exact ⟨⟨i+1,c',Bk,by go_num,S,h,hy,X,eS⟩,by simp [intOf];omega⟩
   replace eK:=Bp eK;have aW:=Bp (show ∀ x,x∈[b]->x=b from fun x hx=>by simpa using hx);have qI:(0:Int)<((Dk y.runs[i].tasks 3).length:Int):=Bk;replace Z1:=Bp (Z1.out q0);replace Z2:=Bp (Z2.out q0);have q0h:=Bp q0;clear Z0 hG q0;go_wp2_with fail
   refine (Qe 5 b _ code c' w1 Bo h).mono ?_;rintro e2 w2 ⟨rfl,h2,cc2⟩;replace hy:Hid (Bu.ow w2 F y (⟨A1,n1,c1⟩,⟨Ac ⟨gr,orr,Ab⟩,y.runs.length,c2⟩)):=Bu.ow_chg (F:=F) (x:=y) (s:=(⟨A1,n1,c1⟩,⟨Ac ⟨gr,orr,Ab⟩,y.runs.length,c2⟩)) hy.out cc2 (fun x hx aN=>by have h1:=aW.out x aN;subst h1;exact cN hx);replace pB:=pB.chg cc2 (fun x hx aN=>eK.out x hx (aW.out x aN));clear X_;replace X:=X.chg cc2 (fun hx=>by have h1:=aW.out _ hx;omega);have X_:=X.g4;replace eS:=eS.trans cc2;cases o5:(Ek code 5 c').1;case true =>
    have S:=Bp (Z1.out o5);clear Z1 Z2;go_wp2;exact ⟨⟨i+1,(Ek code 5 c').2,Bk,by go_num,S,h2,hy,X,eS⟩,by simp [intOf];omega⟩
   have S:=Bp (Z2.out o5);clear Z1 Z2;generalize (Ek code 5 c').2=cb at *
   go_wp2_with fail
   refine (Dw ((Dk y.runs[i].tasks 3).length:Int) b _ code cb w2 Bk h2).mono ?_;rintro e3 w3 ⟨rfl,h3,cc3⟩;replace hy:Hid (Bu.ow w3 F y (⟨A1,n1,c1⟩,⟨Ac ⟨gr,orr,Ab⟩,y.runs.length,c2⟩)):=Bu.ow_chg (F:=F) (x:=y) (s:=(⟨A1,n1,c1⟩,⟨Ac ⟨gr,orr,Ab⟩,y.runs.length,c2⟩)) hy.out cc3 (fun x hx aN=>by have h1:=aW.out x aN;subst h1;exact cN hx);replace pB:=pB.chg cc3 (fun x hx aN=>eK.out x hx (aW.out x aN));clear X_;replace X:=X.chg cc3 (fun hx=>by have h1:=aW.out _ hx;omega);have X_:=X.g4;replace eS:=eS.trans cc3;have pU:=Db code (n:=((Dk y.runs[i].tasks 3).length:Int)) cb Bk;obtain ⟨an,ha⟩:∃ an:Nat,(Bt code ((Dk y.runs[i].tasks 3).length:Int) cb).1=an:=⟨(Bt code ((Dk y.runs[i].tasks 3).length:Int) cb).1.toNat,Bk⟩
   have fD:an<(Dk y.runs[i].tasks 3).length:=Bk;have eW:=kM.out _ (Aw fD);have HO:Hid (Pp code y.runs[i] cb=if (Ek code 8 (Bt code ((Dk y.runs[i].tasks 3).length:Int) cb).2).1=true then ((y.runs[i].id,((Dk y.runs[i].tasks 3)[an]:Int),wrap64 (wrap64 (y.runs[i].tasks[(Dk y.runs[i].tasks 3)[an]].try_ - 1)+wrap64 (2 * (Bt code 2 (Ek code 8 (Bt code ((Dk y.runs[i].tasks 3).length:Int) cb).2).2).1))),(Bt code 2 (Ek code 8 (Bt code ((Dk y.runs[i].tasks 3).length:Int) cb).2).2).2) else ((y.runs[i].id,((Dk y.runs[i].tasks 3)[an]:Int),y.runs[i].tasks[(Dk y.runs[i].tasks 3)[an]].try_),(Ek code 8 (Bt code ((Dk y.runs[i].tasks 3).length:Int) cb).2).2)):=by
    show Pp code y.runs[i] cb=_;unfold Pp;dsimp only;rw [ha,Ap,List.getD_eq_getElem?_getD,List.getElem?_eq_getElem fD,Option.getD_some,Cn eW]
   rw [ha];clear ha pU;generalize (Bt code ((Dk y.runs[i].tasks 3).length:Int) cb).2=cd at *
   obtain ⟨bt,obt,rfl,hbt,t0⟩:=pB.rd.nat fD;obtain ⟨_,_,⟨sk1,⟨tka,tkn,tkc⟩⟩,bX,cC,bP,k0,k1,k2,k3,k4,k5,k6,k7⟩:=RdL.run (show RdL Co w3 w3.heap.size (.slice (Ac ⟨gr,orr,Ab⟩) y.runs.length c2) y.runs from (Bu.ow_rd (F:=F) (x:=y) (s:=(⟨A1,n1,c1⟩,⟨Ac ⟨gr,orr,Ab⟩,y.runs.length,c2⟩)) hy.out).2) aA;simp only [Option.some.injEq,Addr.mk.injEq,and_true] at bX;obtain ⟨rfl,rfl⟩:=bX;have fU:tkn=y.runs[i].tasks.length:=RdL.at1 (s:=⟨tka,tkn,tkc⟩) bP.2;obtain ⟨gt,ogt,_,rfl,sP,_,d0,d1,d2,d3⟩:=RdL.task (show RdL Eo w3 w3.heap.size (.slice tka tkn tkc) y.runs[i].tasks from bP.2) eW;have halI:(an:Int)<((Dk y.runs[i].tasks 3).length:Int):=Bk;have ha0:(0:Int)<=(an:Int):=Bk;have hxI:((Dk y.runs[i].tasks 3)[an]:Int)<(tkn:Int):=Bk;have pK:(0:Int)<=((Dk y.runs[i].tasks 3)[an]:Int):=Bk;generalize y.runs[i].tasks[(Dk y.runs[i].tasks 3)[an]]=xt at *
   generalize (Dk y.runs[i].tasks 3)[an]=x at *
   replace fU:=Bp fU;clear d0 d1 d3 bP k0 k1 k2 k3 k4 k5 k6;go_wp2_with fail
   refine (Qe 8 b _ code cd w3 Bo h3).mono ?_;rintro e4 w4 ⟨rfl,h4,cc4⟩;clear t0 d2 k7;replace hy:Hid (Bu.ow w4 F y (⟨A1,n1,c1⟩,⟨Ac ⟨gr,orr,Ab⟩,y.runs.length,c2⟩)):=Bu.ow_chg (F:=F) (x:=y) (s:=(⟨A1,n1,c1⟩,⟨Ac ⟨gr,orr,Ab⟩,y.runs.length,c2⟩)) hy.out cc4 (fun x hx aN=>by have h1:=aW.out x aN;subst h1;exact cN hx);clear X_;replace X:=X.chg cc4 (fun hx=>by have h1:=aW.out _ hx;omega);have X_:=X.g4;replace eS:=eS.trans cc4;obtain ⟨_,_,⟨sk1,⟨tka,tkn,tkc⟩⟩,bX,cC,bP,k0,k1,k2,k3,k4,k5,k6,k7⟩:=RdL.run (show RdL Co w4 w4.heap.size (.slice (Ac ⟨gr,orr,Ab⟩) y.runs.length c2) y.runs from (Bu.ow_rd (F:=F) (x:=y) (s:=(⟨A1,n1,c1⟩,⟨Ac ⟨gr,orr,Ab⟩,y.runs.length,c2⟩)) hy.out).2) aA;simp only [Option.some.injEq,Addr.mk.injEq,and_true] at bX;obtain ⟨rfl,rfl⟩:=bX;clear k1 k2 k3 k4 k5 k6 k7 bP;cases o8:(Ek code 8 cd).1;case false =>
    have Sf:=Bp (S.out.trans (HO.out.trans (if_neg (by rw [o8];simp))));go_wp2;refine Aj (v:=.tuple #[.int .i64 y.runs[i].id,.int .i64 (x:Int),.int .i64 xt.try_]) (by simp [results,Tryz.results221,go_sem]) rfl ?_;exact ⟨by rw [Sf.out],by rw [Sf.out];exact h4,eS⟩
   have Sf:=Bp (S.out.trans (HO.out.trans (if_pos o8)));clear S HO k0;go_wp2_with fail
   refine (Dw 2 b _ code _ w4 Bo h4).mono ?_;rintro e5 w5 ⟨rfl,h5,cc5⟩;replace hy:Hid (Bu.ow w5 F y (⟨A1,n1,c1⟩,⟨Ac ⟨gr,orr,Ab⟩,y.runs.length,c2⟩)):=Bu.ow_chg (F:=F) (x:=y) (s:=(⟨A1,n1,c1⟩,⟨Ac ⟨gr,orr,Ab⟩,y.runs.length,c2⟩)) hy.out cc5 (fun x hx aN=>by have h1:=aW.out x aN;subst h1;exact cN hx);clear X_;replace X:=X.chg cc5 (fun hx=>by have h1:=aW.out _ hx;omega);have X_:=X.g4;replace eS:=eS.trans cc5;obtain ⟨_,_,⟨sk1,⟨tka,tkn,tkc⟩⟩,bX,cC,bP,k0,k1,k2,k3,k4,k5,k6,k7⟩:=RdL.run (show RdL Co w5 w5.heap.size (.slice (Ac ⟨gr,orr,Ab⟩) y.runs.length c2) y.runs from (Bu.ow_rd (F:=F) (x:=y) (s:=(⟨A1,n1,c1⟩,⟨Ac ⟨gr,orr,Ab⟩,y.runs.length,c2⟩)) hy.out).2) aA;simp only [Option.some.injEq,Addr.mk.injEq,and_true] at bX;obtain ⟨rfl,rfl⟩:=bX;clear k1 k2 k3 k4 k5 k6 k7 bP;go_wp2;refine Aj (v:=.tuple #[.int .i64 y.runs[i].id,.int .i64 (x:Int),.int .i64 (wrap64 (wrap64 (xt.try_ - 1)+wrap64 (2 * (Bt code 2 (Ek code 8 cd).2).1)))]) (by simp [results,Tryz.results221,go_sem]) rfl ?_;exact ⟨by rw [Sf.out],by rw [Sf.out];exact h5,eS⟩
  ·have aB:¬ (i:Int)<(y.runs.length:Int):=Bk;have S:=Bp (show Et code y.runs c=Aal code c' by rw [hG.out,List.drop_eq_nil_of_le Bk,Et]);have b5:=Db code (n:=5) c' Bo;have b6:=Db code (n:=6) (Bt code 5 c').2 Bo;have wr1:U.wrap (1+(Bt code 5 c').1)=1+(Bt code 5 c').1:=Ar _ Bk;have wr2:U.wrap ((Bt code 6 (Bt code 5 c').2).1 - 1)=(Bt code 6 (Bt code 5 c').2).1 - 1:=Ar _ Bk;clear b5 b6;go_wp2_with fail
   refine (Dw 5 b _ code c' wr Bo h).mono ?_;rintro e2 w2 ⟨rfl,h2,cc2⟩;go_wp2_with fail
   refine (Dw 6 b _ code _ w2 Bo h2).mono ?_;rintro e3 w3 ⟨rfl,h3,cc3⟩;go_wp2_with fail
   refine (Dw 4 b _ code _ w3 Bo h3).mono ?_;rintro e4 w4 ⟨rfl,h4,cc4⟩;go_wp2;refine Aj (v:=.tuple #[.int .i64 (1+(Bt code 5 c').1),.int .i64 ((Bt code 6 (Bt code 5 c').2).1 - 1),.int .i64 (Bt code 4 (Bt code 6 (Bt code 5 c').2).2).1]) (by simp [results,Tryz.results221,go_sem]) rfl ?_;exact ⟨by rw [S.out];rfl,by rw [S.out];exact h4,((hc.trans cc2).trans cc3).trans cc4⟩
section
open Classical in
noncomputable def Il (z:Yard) (k t:Nat):Yard:=if (Bx (Gp z k) t).state=3 then Gr z k (Eb (Gp z k) t) else z
noncomputable def Fz (y:Yard) (l:List (Nat×Nat)):Yard:=l.foldl (fun z p=>Il z p.1 p.2) y
theorem Og {z:Yard} {k t:Nat} (h:¬ (Bx (Gp z k) t).state=3):Il z k t=z:=if_neg h
theorem Mw {z:Yard} {k t:Nat} (h:(Bx (Gp z k) t).state=3):Il z k t=Gr z k (Eb (Gp z k) t):=if_pos h
theorem Trn.fail {y z:Yard} {m:Nat} (h:Trn y m z) {k t:Nat} (hk:k<z.runs.length) (ht:t<z.runs[k].tasks.length):Trn y (m+1) (Il z k t):=by
 by_cases q:(Bx (Gp z k) t).state=3
 ·rw [Mw q,Fq hk];rw [Fq hk] at q;exact h.step hk ⟨(h.run k hk (by rw [<-h.len];exact hk)).1,⟨Bk,Bk⟩,q⟩
 ·rw [Og q];exact h.mono Bk
open Classical in
noncomputable def Na (y:Yard):Int:=if ¬ Dn y then 8 else if 999999980<y.now+1 then 7 else 0
noncomputable def Acp (y:Yard):Yard:=Fz y (Gm y y.runs.length)
noncomputable def K9 (y:Yard):Yard:=if Na y=0 then ⟨(Acp y).now+1,(Acp y).seq,(Acp y).shelf,(Acp y).runs⟩ else y
theorem Rr {y:Yard} {n:Nat} {p:Nat×Nat} (h:p∈Gm y n):p.1<n/\p.2<(Gp y p.1).tasks.length:=by
 unfold Gm at h;obtain ⟨j,hj,hp⟩:=List.mem_flatMap.1 h;unfold Jg at hp;obtain ⟨t,ht,rfl⟩:=List.mem_map.1 hp;exact ⟨List.mem_range.1 hj,List.mem_range.1 (List.mem_filter.1 ht).1⟩
theorem Pq {w:World} {F:List Nat} {b o n c:Nat} {rows:List (List Int)} (h:OwL (Dt.flats Nc) w F (Aa (Ac ⟨b,o,Ab⟩) n c) rows) {i:Nat} (hi:i<rows.length) {x y z:Int} (hr:rows[i]=[x,y,z]) :
  ∃ g p cc,b∈F/\g∈F/\w.cell? ⟨b,o+i,Ab⟩=Ac (Aa (Ac ⟨g,p,Ab⟩) 3 cc)/\w.cell? ⟨g,p,Ab⟩=Ac (J U x)/\w.cell? ⟨g,p+1,Ab⟩=Ac (J U y)/\w.cell? ⟨g,p+2,Ab⟩=Ac (J U z):=by
 obtain ⟨s,Fx,hx,bF,_,hb,_,hc⟩:=h.elem hi;rw [hr] at hx;have cD:Hw Nc w Fx (Aa s.a s.n s.c) [x,y,z]:=hx;obtain ⟨g,p,sY,mW,_,_⟩:=cD.at_ Bm;obtain ⟨A',c',hv,_,hA⟩:=cD.rd;simp only [Value.slice.injEq] at hv;obtain ⟨h1,h2,h3⟩:=hv;obtain ⟨g',p',bJ,_,aY⟩:=hA Bm;rw [<-h1,sY] at bJ;simp only [Option.some.injEq,Addr.mk.injEq,and_true] at bJ;obtain ⟨rfl,rfl⟩:=bJ;refine ⟨g,p,s.c,hb,bF _ (by rw [mW];simp),?_,?_,?_,?_⟩
 ·have:=hc 0 (Aa s.a s.n s.c) rfl
  rw [show o+i * (Dt.flats Nc).enc.sz+0=o+i from by show o+i * 1+0=o+i;omega,sY,h2] at this;exact this
 ·exact aY 0 Bm 0 _ rfl
 ·exact aY 1 Bm 0 _ rfl
 ·exact aY 2 Bm 0 _ rfl
theorem Vx {b:Nat} {w:World} {u0 u1 u2 u3:Value} (X:DBox b [u0,u1,u2,u3] w) {v0 v1 v3:Value} {rest:List Value} :
  (results Tryz.f147 (v0 :: v1 :: .pointer (Ac ⟨b,0,Ab⟩) :: v3 :: rest).toArray).run An w = .ok (.tuple #[.agg #[u0,u1,u2,u3],v3]) w:=by
 have c0:=X.cell 0 _ rfl;have c1:=X.cell 1 _ rfl;have c2:=X.cell 2 _ rfl;have c3:=X.cell 3 _ rfl;simp [results,Tryz.results147,go_sem,c0,c1,c2,c3]
theorem Yt (y:Yard) (s:Sl×Sl) (w:World) (hl:Ci y<=2000000) (h:Bu.rd w w y s) :
  Calls An 147 #[Du y s] w (Ma (K9 y) (Na y) w):=by
 have HR:=Bp (show ∀ W,Below w w W->Bu.rd W W y s from fun W hW=>Bu.rd_more (Bu.rd_below h hW) hW.size);obtain ⟨⟨A1,n1,c1⟩,⟨A2,n2,c2⟩⟩:=s;have CC:=Bp (fun W hW=>Er y (⟨A1,n1,c1⟩,⟨A2,n2,c2⟩) W hl (HR.out W hW));have CY:=Bp (fun W hW=>Gj y (⟨A1,n1,c1⟩,⟨A2,n2,c2⟩) W hl (HR.out W hW));clear h;obtain ⟨W,aH,X,RES,B0⟩:=bx2 w 31 [J U y.now,J U y.seq,Aa A1 n1 c1,Aa A2 n2 c2] 31 [J U 0,J U 0,Aa Ab 0 0,Aa Ab 0 0];go_enter Tryz.func147,Tryz.ntmps147;go_wp2_with fail
 rw [<-aH.out];clear aH;have jQ:w.heap.size+1<W.heap.size:=RES.lt;refine (CC.out _ B0).mono ?_;rintro e1 w1 ⟨⟨⟨B1,m1,e1⟩,⟨B2,m2,e2⟩⟩,F,rfl,oy,nF,b1⟩;have bL:=b1.size;have cL:=Bu.ow_lt (F:=F) (x:=y) (s:=(⟨B1,m1,e1⟩,⟨B2,m2,e2⟩)) oy;replace X:=X.below b1;replace RES:=RES.below b1;replace B0:=Bs B0 b1;clear b1;go_upto_region 2 with fail
 have OB:=DBox.new 31 [J U y.now,J U y.seq,Aa B1 m1 e1,Aa B2 m2 e2] w1 (b:=w1.heap.size) rfl;have b2:Below w1 w1 (w1.alloc (.cells #[J U y.now,J U y.seq,Aa B1 m1 e1,Aa B2 m2 e2] 31)):=(Bq _ _).alloc (Br _) _;replace X:=X.below b2;replace RES:=RES.below b2;replace oy:=Bu.ow_below (F:=F) (x:=y) (s:=(⟨B1,m1,e1⟩,⟨B2,m2,e2⟩)) oy b2;replace B0:=Bs B0 b2;have ow1:=OB.lt;clear b2;generalize w1.alloc (.cells #[J U y.now,J U y.seq,Aa B1 m1 e1,Aa B2 m2 e2] 31)=w2 at *
 generalize dQ:w1.heap.size=ob at *
 have X_:=X.g4;obtain ⟨OB_0,OB_1,OB_2,OB_3,OB_l⟩:=OB.g4;go_wp2_with fail
 refine (CY.out _ B0).mono ?_;rintro e1 w3 ⟨rfl,b3⟩;clear X_;clear OB_0 OB_1 OB_2 OB_3 OB_l;replace X:=X.below b3;replace OB:=OB.below b3;replace RES:=RES.below b3;replace oy:Bu.ow w3 F y (⟨B1,m1,e1⟩,⟨B2,m2,e2⟩):=owB oy b3;replace B0:=Bs B0 b3;clear b3;have X_:=X.g4;obtain ⟨OB_0,OB_1,OB_2,OB_3,OB_l⟩:=OB.g4;by_cases p0:Dn y;case neg =>
  rw [Ck p0];have H:=Bp (show Na y=8 by unfold Na;rw [if_pos p0]);have H2:=Bp (show K9 y=y by unfold K9;rw [H.out,if_neg Bo]);have RES_:=RES.g4;have rf:=RES.free;go_wp2;have en1:w.heap.size+1∉F:=fun hx=>by have:=nF _ hx;omega
  refine Aj (Vx (DBox.row4 RES rfl _ _ _ _)) rfl ⟨(⟨B1,m1,e1⟩,⟨B2,m2,e2⟩),F,by rw [H.out,H2.out],by rw [H2.out];exact (by (repeat (refine Dt.ow_set Bu ?_ en1 _));exact (show Bu.ow _ F y (⟨B1,m1,e1⟩,⟨B2,m2,e2⟩) from oy)),fun x hx=>by have:=nF x hx;omega,?_⟩;repeat (first | (with_reducible exact B0) | refine Ad ?_ Bn _)
 rw [D6 p0];have P0:=Bp p0;have kR:=p0.1;clear p0;have wr1:U.wrap (y.now+1)=y.now+1:=Ar _ Bk;by_cases p1:999999980<y.now+1;case pos =>
  have H:=Bp (show Na y=7 by unfold Na;rw [if_neg (fun h=>h P0.out),if_pos p1]);have H2:=Bp (show K9 y=y by unfold K9;rw [H.out,if_neg Bo]);have RES_:=RES.g4;have rf:=RES.free;go_wp2;have en1:w.heap.size+1∉F:=fun hx=>by have:=nF _ hx;omega
  refine Aj (Vx (DBox.row4 RES rfl _ _ _ _)) rfl ⟨(⟨B1,m1,e1⟩,⟨B2,m2,e2⟩),F,by rw [H.out,H2.out],by rw [H2.out];exact (by (repeat (refine Dt.ow_set Bu ?_ en1 _));exact (show Bu.ow _ F y (⟨B1,m1,e1⟩,⟨B2,m2,e2⟩) from oy)),fun x hx=>by have:=nF x hx;omega,?_⟩;repeat (first | (with_reducible exact B0) | refine Ad ?_ Bn _)
 have H:=Bp (show Na y=0 by unfold Na;rw [if_neg (fun h=>h P0.out),if_neg p1]);have H2:=Bp (show K9 y=⟨(Fz y (Gm y y.runs.length)).now+1,(Fz y (Gm y y.runs.length)).seq,(Fz y (Gm y y.runs.length)).shelf,(Fz y (Gm y y.runs.length)).runs⟩ by unfold K9;rw [if_pos H.out];rfl);have CL:=Bp (fun W hW=>Ys y (⟨A1,n1,c1⟩,⟨A2,n2,c2⟩) W hl P0.out (HR.out W hW));clear HR CC CY;go_wp2_with fail
 refine (CL.out _ B0).mono ?_;rintro e1 w4 ⟨⟨A9,n9,c9⟩,Fl,he,ol,nl,b4⟩;replace he:e1 = .returned (Aa A9 n9 c9):=he;subst he;clear X_;clear OB_0 OB_1 OB_2 OB_3 OB_l;clear X CL;have hB3:=B0.size;have kS:ob<w3:=OB.lt;have jK:=ol.lt;replace OB:=OB.below b4;replace RES:=RES.below b4;replace oy:Bu.ow w4 F y (⟨B1,m1,e1⟩,⟨B2,m2,e2⟩):=owB oy b4;replace B0:=Bs B0 b4;have jE:Hid ((∀ x∈F,w.heap.size+1<x)/\ob∉F /\ ∀ x∈Fl,x∉F):=⟨fun x hx=>by have:=nF x hx;omega,fun hx=>by have:=cL _ hx;omega,fun x hx bF=>by have h1:w3<=x:=nl x hx;have h2:=cL x bF;omega⟩
 have hFln:∀ x∈Fl,w3<=x:=nl;have hmemL:=Bp (fun p (hp:p∈Gm y y.runs.length)=>Rr hp);have fZ:w.heap.size+1<w3.heap.size:=Bk;have hw34:w3.heap.size<=w4.heap.size:=b4.size;clear nF nl b4;have hLs:=Bp (show (Gm y y.runs.length).length<=96 by have h1:=Mh (Qv P0.out) y.runs.length;have h2:=P0.out.2.2.2.2.2.2.1;omega);generalize Gm y y.runs.length=L at *
 obtain rfl:n9=L.length:=by have:=RdL.at1 (s:=⟨A9,n9,c9⟩) ol.rd;rw [Au] at this;exact this
 go_wp2;go_loopw [6,7] (fun iv u wr=>∃ (i:Nat) (Z:Yard) (s:Sl×Sl) (F:List Nat),i<=L.length/\iv = J U i/\Hid (Trn y i Z)/\Hid (Fz y (L.take i)=Z)/\Hid (Bu.ow wr F Z s)/\Hid ((∀ x∈F,w.heap.size+1<x)/\ob∉F /\ ∀ x∈Fl,x∉F)/\Hid (OwL (Dt.flats Nc) wr Fl (Aa A9 L.length c9) (L.map (Ns y)))/\DBox ob (Gz Z s) wr/\DBox (w.heap.size+1) [J U 0,J U 0,Aa Ab 0 0,Aa Ab 0 0] wr/\Below w w wr/\w4.heap.size<=wr.heap.size) (fun i _ _=>L.length - (intOf i).toNat);case atStart=>exact ⟨0,y,(⟨B1,m1,e1⟩,⟨B2,m2,e2⟩),F,Ag _,rfl,Trn.start P0.out,rfl,oy,jE,ol,OB,RES,B0,Br _⟩
 case round =>
  clear oy jE ol OB RES B0 cL jK;obtain ⟨i,Z,s,F,hi,rfl,hT,hZ,oy,hF,ol,OB,RES,hb,jS⟩:=hrel;obtain ⟨⟨B1,m1,e1⟩,⟨B2,m2,e2⟩⟩:=s;replace oy:Bu.ow wr F Z (⟨B1,m1,e1⟩,⟨B2,m2,e2⟩):=oy.out;have cJ:∀ x∈F,x<wr:=Bu.ow_lt (F:=F) (x:=Z) (s:=(⟨B1,m1,e1⟩,⟨B2,m2,e2⟩)) oy;have eD:=hLs.out;obtain ⟨OB_0,OB_1,OB_2,OB_3,OB_l⟩:=OB.g4;by_cases aA:i<L.length
  ·have aB:(i:Int)<(L.length:Int):=Bk;have aL:(0:Int)<=(i:Int):=Bk;have hp:=hmemL.out _ (Aw aA);have aE:Hid (Fz y (L.take (i+1))=Il Z L[i].1 L[i].2):=by
    show Fz y (L.take (i+1))=_;unfold Fz;rw [Ko (fun z p=>Il z p.1 p.2) y L i aA,<-hZ.out];rfl
   have bQ:(L.map (Ns y))[i]'(by rw [Au];exact aA)=[(Gp y L[i].1).id,(L[i].2:Int),(Bx (Gp y L[i].1) L[i].2).try_]:=by
    rw [List.getElem_map];rfl
   generalize L[i]=p at *
   obtain ⟨k,t⟩:=p;dsimp only at hp aE bQ;have rE:k<y.runs.length:=hp.1;have jC:k<Z.runs.length:=by rw [hT.out.len];exact rE
   rw [Fq rE] at hp bQ;have gC:=hT.out.run k jC rE;have nE:t<Z.runs[k].tasks.length:=by rw [gC.2.2];exact hp.2
   have eB:=Bp (show Dh Z y.runs[k].id=k from (hT.out.runAt _).trans (P0.out.2.2.2.2.2.2.2.1 k rE).2);have hcz:=hT.out.cnt Bk;have hN:=hT.out.fail jC nE;replace bQ:=Bp bQ;have hbln:∀ z∈Fl,z∉F:=hF.out.2.2;obtain ⟨bl,lo,rfl⟩:∃ b o,A9=Ac ⟨b,o,Ab⟩:=by
    obtain ⟨b,o,_,hA,_⟩:=RdL.at_ ol.out.rd i (by rw [Au];exact aA);exact ⟨b,o,hA⟩
   obtain ⟨gl,pl,cl,jR,gH,l0,l1,l2,-⟩:=Pq ol.out (i:=i) (by rw [Au];exact aA) bQ.out;have hblw:=ol.out.lt _ jR;have hglw:=ol.out.lt _ gH;have oyr:=(Bu.ow_rd (F:=F) (x:=Z) (s:=(⟨B1,m1,e1⟩,⟨B2,m2,e2⟩)) oy)
   have CA:=Bp (fun W (hW:Below wr wr W)=>Ew Z (⟨B1,m1,e1⟩,⟨B2,m2,e2⟩) y.runs[k].id W hcz (Bu.rd_more (Bu.rd_below (x:=Z) (s:=(⟨B1,m1,e1⟩,⟨B2,m2,e2⟩)) oyr hW) hW.size));clear oyr;have aJ:=Cy wr;go_wp2;refine Bv Bl Bl ?_;repeat (go_big_quiet_step ((go_at_call 80;rename_i x;have h1:=CA.out x.1 x.2;rw [eB.out] at h1;exact Ea h1)))
   refine Ak ?_;rintro w5 ⟨⟨_,b5⟩,rfl⟩;clear aJ CA l0 l1 l2 hblw hglw;clear OB_0 OB_1 OB_2 OB_3 OB_l;replace OB:=OB.below b5;replace RES:=RES.below b5;replace oy:Bu.ow w5 F Z (⟨B1,m1,e1⟩,⟨B2,m2,e2⟩):=owB oy b5;replace ol:=Bp (ol.out.below b5);replace hb:=Bs hb b5;replace jS:=Ah jS b5.size;replace cJ:∀ x∈F,x<w5:=Bu.ow_lt (F:=F) (x:=Z) (s:=(⟨B1,m1,e1⟩,⟨B2,m2,e2⟩)) oy;obtain ⟨gl,pl,cl,jR,gH,l0,l1,l2,-⟩:=Pq ol.out (i:=i) (by rw [Au];exact aA) bQ.out;have hblw:=ol.out.lt _ jR;have hglw:=ol.out.lt _ gH;obtain ⟨OB_0,OB_1,OB_2,OB_3,OB_l⟩:=OB.g4;have oyr:=(Bu.ow_rd (F:=F) (x:=Z) (s:=(⟨B1,m1,e1⟩,⟨B2,m2,e2⟩)) oy).2;have eN:=Bp (show m2=Z.runs.length from RdL.at1 (s:=⟨B2,m2,e2⟩) oyr);have eC:(k:Int)<(m2:Int):=by have:=eN.out;omega
   have cS:(0:Int)<=(k:Int):=Bk;obtain ⟨gr,orr,⟨sk1,⟨tka,tkn,tkc⟩⟩,rfl,cC,bP,c0,c1,c2,c3,c4,c5,c6,c7⟩:=RdL.run (show RdL Co w5 w5.heap.size (Aa B2 m2 e2) Z.runs from oyr) jC;have fU:tkn=Z.runs[k].tasks.length:=RdL.at1 (s:=⟨tka,tkn,tkc⟩) bP.2;have jU:(t:Int)<(tkn:Int):=Bk;have gQ:(0:Int)<=(t:Int):=Bk;obtain ⟨gt,ot,_,rfl,sP,_,d0,d1,d2,d3⟩:=RdL.task (show RdL Eo w5 w5.heap.size (Aa tka tkn tkc) Z.runs[k].tasks from bP.2) nE;have bH:=Bp gC.1;replace fU:=Bp fU;have aJ:=Cy w5;clear gC oyr d1 d2 d3;have hJ:=Bp (show Bx (Gp Z k) t=Z.runs[k].tasks[t] by rw [Fq jC,Cn nE]);have hJ2:=Bp (Fq jC);generalize mV:Z.runs[k]=r at *
   by_cases q:r.tasks[t].state=3;case neg =>
    have q1:(r.tasks[t].state == 3)=false:=by simp [q]
    have bR:=Bp (show Il Z k t=Z from Og (by rw [hJ.out];exact q));clear q;go_wp2;refine Bv Bl Bl ?_;repeat (go_big_quiet_step (fail))
    refine Ak ?_;rintro w6 ⟨⟨_,b6⟩,rfl⟩;clear aJ;go_wp2;exact ⟨⟨i+1,Z,(⟨B1,m1,e1⟩,⟨Ac ⟨gr,orr,Ab⟩,m2,e2⟩),F,Bk,by go_num,hT.out.mono Bk,aE.out.trans bR.out,Bu.ow_below (F:=F) (x:=Z) (s:=(⟨B1,m1,e1⟩,⟨Ac ⟨gr,orr,Ab⟩,m2,e2⟩)) oy b6,hF,ol.out.below b6,OB.below b6,RES.below b6,Bs hb b6,Ah jS b6.size⟩,by simp [intOf];omega⟩
   have q1:(r.tasks[t].state == 3)=true:=by simp [q]
   have eJ:Hid (J9 r t):=⟨bH.out,⟨Bk,Bk⟩,by rw [Ap,Cn nE];exact q⟩
   have bR:=Bp (show Il Z k t=Gr Z k (Eb r t) by rw [Mw (by rw [hJ.out];exact q),hJ2.out]);replace hN:Hid (Trn y (i+1) (Il Z k t)):=hN;clear q;go_wp2;refine Bv Bl Bl ?_;repeat (go_big_quiet_step (fail))
   refine Ak ?_;rintro w6 ⟨⟨_,b6⟩,rfl⟩;clear aJ l0 l1 l2 hblw hglw c0 c1 c2 c3 c4 c5 c6 c7 d0 sP;clear OB_0 OB_1 OB_2 OB_3 OB_l;replace OB:=OB.below b6;replace RES:=RES.below b6;replace oy:Bu.ow w6 F Z (⟨B1,m1,e1⟩,⟨Ac ⟨gr,orr,Ab⟩,m2,e2⟩):=owB oy b6;replace ol:=Bp (ol.out.below b6);replace hb:=Bs hb b6;replace jS:=Ah jS b6.size;replace cJ:∀ x∈F,x<w6:=Bu.ow_lt (F:=F) (x:=Z) (s:=(⟨B1,m1,e1⟩,⟨Ac ⟨gr,orr,Ab⟩,m2,e2⟩)) oy;obtain ⟨gl,pl,cl,jR,gH,l0,l1,l2,-⟩:=Pq ol.out (i:=i) (by rw [Au];exact aA) bQ.out;have hblw:=ol.out.lt _ jR;have hglw:=ol.out.lt _ gH;obtain ⟨OB_0,OB_1,OB_2,OB_3,OB_l⟩:=OB.g4;obtain ⟨_,_,sk,bX,hgrw6,bP,c0,c1,c2,c3,c4,c5,c6,c7⟩:=RdL.run (show RdL Co w6 w6.heap.size (Aa (Ac ⟨gr,orr,Ab⟩) m2 e2) Z.runs from (Bu.ow_rd (F:=F) (x:=Z) (s:=(⟨B1,m1,e1⟩,⟨Ac ⟨gr,orr,Ab⟩,m2,e2⟩)) oy).2) jC;simp only [Option.some.injEq,Addr.mk.injEq,and_true] at bX;obtain ⟨rfl,rfl⟩:=bX;rw [mV] at bP c0 c1 c2 c3 c4 c6;have CF:=Bp (Lp r sk t w6.drew (by have:=Kp bH.out;omega) eJ.out (Co.rd_below bP (Bq _ _).drew));have mI:=OB.lt;clear bP;go_wp2;refine Dj (fun w'=>w'.cell? ⟨ob,0,Ab⟩=Ac (J U Z.now)/\w'.cell? ⟨ob,1,Ab⟩=Ac (J U Z.seq)/\w'.cell? ⟨ob,2,Ab⟩=Ac (Aa B1 m1 e1)/\w'.cell? ⟨ob,3,Ab⟩=Ac (Aa (Ac ⟨gr,orr,Ab⟩) m2 e2)/\w'.cell? ⟨bl,lo+i,Ab⟩=Ac (Aa (Ac ⟨gl,pl,Ab⟩) 3 cl)/\w'.cell? ⟨gl,pl,Ab⟩=Ac (J U y.runs[k].id)/\w'.cell? ⟨gl,pl+1,Ab⟩=Ac (J U (t:Int))) 15 Bl ?_ (fun hHeld=>?_)
   ·exact ⟨OB_0,OB_1,OB_2,OB_3,l0,l1,l2⟩
   refine aT 0 hHeld ?_;try simp only [pS]
   refine aT 1 hHeld ?_;try simp only [pS]
   refine aT 2 hHeld ?_;try simp only [pS]
   refine aT 3 hHeld ?_;try simp only [pS]
   refine aT 4 hHeld ?_;try simp only [pS]
   refine aT 5 hHeld ?_;try simp only [pS]
   refine aT 7 hHeld ?_;try simp only [pS]
   refine aT 8 hHeld ?_;try simp only [pS]
   refine aT 9 hHeld ?_;try simp only [pS]
   refine aT 10 hHeld ?_;try simp only [pS]
   refine aT 11 hHeld ?_;try simp only [pS]
   refine aT 12 hHeld ?_;try simp only [pS]
   refine oT 6 (fun K hK=>?_);go_simp;refine hK.out _ _ (fun _=>?_) ?_
   ·exact ⟨OB_0,OB_1,OB_2,OB_3,l0,l1,l2⟩
   clear hK K;try simp only [pS]
   refine oT 13 (fun K hK=>?_)
   (go_simp;refine CF.out.mono ?_;rintro e5 wa ⟨sr,Fr,rfl,orn,nFr,ba⟩;have kK:∀ x∈Fr,w6<=x:=nFr;have oya:Bu.ow wa F Z (⟨B1,m1,e1⟩,⟨Ac ⟨gr,orr,Ab⟩,m2,e2⟩):=owB oy (Bs (Bq _ _).drew ba);have CT:=Bp (Kk Z (⟨B1,m1,e1⟩,⟨Ac ⟨gr,orr,Ab⟩,m2,e2⟩) k (Eb r t) sr wa F Fr hT.out.four (fun s hs=>by have:=hT.out.all s hs;omega) (by have:=hT.out.seq;omega) jC (by rw [Ho];have:=Fo bH.out;omega) (by rw [mV];have:=Fo bH.out;omega) oya orn (fun x hx bF=>by have h1:=kK x hx;have h2:=cJ x bF;omega)))
   refine hK.out _ _ (fun _=>?_) ?_
   ·exact ⟨(ba.cell (p:=⟨_,_,Ab⟩) (by show ob<w6;omega)).trans OB_0,(ba.cell (p:=⟨_,_,Ab⟩) (by show ob<w6;omega)).trans OB_1,(ba.cell (p:=⟨_,_,Ab⟩) (by show ob<w6;omega)).trans OB_2,(ba.cell (p:=⟨_,_,Ab⟩) (by show ob<w6;omega)).trans OB_3,(ba.cell (p:=⟨_,_,Ab⟩) (by show bl<w6;omega)).trans l0,(ba.cell (p:=⟨_,_,Ab⟩) (by show gl<w6;omega)).trans l1,(ba.cell (p:=⟨_,_,Ab⟩) (by show gl<w6;omega)).trans l2⟩
   clear hK K;try simp only [pS]
   refine oT 14 (fun K hK=>?_)
   (go_simp;refine CT.out.mono ?_;rintro e6 wb ⟨s6,F6,rfl,oy6,n6,cb⟩;have OB6:=(OB.below (Bs (Bq _ _).drew ba)).chg cb hF.out.2.1;have q0:=OB6.cell 0 _ rfl;have q1:=OB6.cell 1 _ rfl;have q2:=OB6.cell 2 _ rfl;have q3:=OB6.cell 3 _ rfl;have qf:=OB6.free;have ql:=OB6.lt;have u0:=(cb.cell (p:=⟨bl,_,Ab⟩) (by show bl<wa;have:=ba.size;have:w6.drew.heap.size=w6.heap.size:=rfl;omega) (hF.out.2.2 _ jR)).trans ((ba.cell (p:=⟨bl,_,Ab⟩) (by show bl<w6;omega)).trans l0);have u1:=(cb.cell (p:=⟨gl,_,Ab⟩) (by show gl<wa;have:=ba.size;have:w6.drew.heap.size=w6.heap.size:=rfl;omega) (hF.out.2.2 _ gH)).trans ((ba.cell (p:=⟨gl,_,Ab⟩) (by show gl<w6;omega)).trans l1);have u2:=(cb.cell (p:=⟨gl,_,Ab⟩) (by show gl<wa;have:=ba.size;have:w6.drew.heap.size=w6.heap.size:=rfl;omega) (hF.out.2.2 _ gH)).trans ((ba.cell (p:=⟨gl,_,Ab⟩) (by show gl<w6;omega)).trans l2);generalize Gr Z k (Eb r t)=Z1 at *)
   refine hK.out _ _ (fun _=>?_) ?_
   ·exact ⟨q0,q1,q2,q3,u0,u1,u2⟩
   clear hK K;try simp only [pS]
   refine oT 15 (fun K hK=>?_);go_simp;refine hK.out _ _ (fun aC=>absurd rfl aC) ?_;clear hK K;try simp only [pS]
   refine Ec Bl ?_ _;have ba':Below w6 w6 wa:=Bs (Bq _ _).drew ba;have hbas:=ba'.size;have hcbs:=cb.size;have gP:=OB.lt;have hRl7:=RES.lt;have cP:=Chg.cells4 wb ob 0 1 2 3 (J U Z1.now) (J U Z1.seq) (Aa s6.1.a s6.1.n s6.1.c) (Aa s6.2.a s6.2.n s6.2.c);have fC:=Bp (show ∀ x,x∈[ob]->x=ob from fun x hx=>by simpa using hx);have OB7:=DBox.row4 OB6 rfl (J U Z1.now) (J U Z1.seq) (Aa s6.1.a s6.1.n s6.1.c) (Aa s6.2.a s6.2.n s6.2.c);have RES7:=((RES.below ba').chg cb (fun hx=>by have:=hF.out.1 _ hx;omega)).chg cP (fun hx=>by have:=fC.out _ hx;omega);have hlw:=ol.out.lt;have ol7:=((ol.out.below ba').chg cb (fun x hx=>hF.out.2.2 x hx)).chg cP (fun x hx h2=>by have h3:=fC.out x h2;have h4:=hFln x hx;omega);have hb7:=((Bs hb ba').trans (cb.below (by have:=(Bs hb ba').size;omega) (fun x hx=>by have:=hF.out.1 x hx;omega))).trans (cP.below (by have:=hb.size;omega) (fun x hx=>by have:=fC.out x hx;omega));have nQ:∀ x∈F6,x∈F\/w6<=x:=fun x hx=>by
    rcases n6 x hx with h | h | h
    ·exact .inl h
    ·exact .inr (kK x h)
    ·exact .inr Bk
   have mA:ob∉F6:=fun hx=>by
    rcases nQ _ hx with h | h
    ·exact hF.out.2.1 h
    ·omega
   have oy7:=Bu.ow_chg (F:=F6) (x:=Z1) (s:=s6) oy6 cP (fun x hx h=>by have:=fC.out x h;subst this;exact mA hx);have pE:Hid ((∀ x∈F6,w.heap.size+1<x)/\ob∉F6 /\ ∀ x∈Fl,x∉F6):=⟨fun x hx=>by
    rcases nQ x hx with h | h
    ·exact hF.out.1 x h
    ·have:=hRl7;omega,mA,fun x hx hx6=>by
    rcases nQ x hx6 with h | h
    ·exact hF.out.2.2 x hx h
    ·have:=hlw x hx;omega⟩
   have hw7:=Ah jS (Ah (Ah hbas hcbs) cP.size);clear hHeld q0 q1 q2 q3 qf ql OB6 oy6 CT CF oya orn nFr n6 ba cb;clear OB_0 OB_1 OB_2 OB_3 OB_l;clear OB;generalize (((wb.setCell ⟨ob,0,Ab⟩ (J U Z1.now)).setCell ⟨ob,1,Ab⟩ (J U Z1.seq)).setCell ⟨ob,2,Ab⟩ (Aa s6.1.a s6.1.n s6.1.c)).setCell ⟨ob,3,Ab⟩ (Aa s6.2.a s6.2.n s6.2.c)=w7 at *
   go_wp2;exact ⟨⟨i+1,Z1,s6,F6,Bk,by go_num,by rw [<-bR.out];exact hN.out,aE.out.trans bR.out,oy7,pE,ol7,OB7,RES7,hb7,hw7⟩,by simp [intOf];omega⟩
  ·have aB:¬ (i:Int)<(L.length:Int):=Bk;have hzn:=Bp hT.out.now;have hZ1:=Bp (show Fz y L=Z by have:=hZ.out;rw [List.take_of_length_le Bk] at this;exact this);have wr2:U.wrap (Z.now+1)=Z.now+1:=Ar _ (by have:=hzn.out;omega);have H3:=Bp (show K9 y=⟨Z.now+1,Z.seq,Z.shelf,Z.runs⟩ by rw [H2.out,hZ1.out]);have obf:=OB.free;go_upto_region 14 with fail
   clear OB_0 OB_1 OB_2 OB_3 OB_l;clear obf;have hRl3:=RES.lt;replace OB:DBox ob [J U (Z.now+1),J U Z.seq,Aa B1 m1 e1,Aa B2 m2 e2] (wr.setCell ⟨ob,0,Ab⟩ (J U (Z.now+1))):=OB.set 0 Bm _;replace RES:=RES.setOther (a:=⟨ob,0,Ab⟩) (by show w.heap.size+1≠ob;omega) (J U (Z.now+1));have hobn:=hF.out.2.1;have oy8:Bu.ow (wr.setCell ⟨ob,0,Ab⟩ (J U (Z.now+1))) F ⟨Z.now+1,Z.seq,Z.shelf,Z.runs⟩ (⟨B1,m1,e1⟩,⟨B2,m2,e2⟩):=Bu.ow_set (F:=F) (x:=Z) (s:=(⟨B1,m1,e1⟩,⟨B2,m2,e2⟩)) oy (a:=⟨ob,0,Ab⟩) hobn _;have hb8:Below w w (wr.setCell ⟨ob,0,Ab⟩ (J U (Z.now+1))):=Ad hb (by show w.heap.size<=ob;omega) _;generalize wr.setCell ⟨ob,0,Ab⟩ (J U (Z.now+1))=w8 at *
   obtain ⟨OB_0,OB_1,OB_2,OB_3,OB_l⟩:=OB.g4;have RES_:=RES.g4;have rf:=RES.free;go_wp2;have en1:w.heap.size+1∉F:=fun hx=>by have:=hF.out.1 _ hx;omega
   refine Aj (Vx (DBox.row4 RES rfl _ _ _ _)) rfl ⟨(⟨B1,m1,e1⟩,⟨B2,m2,e2⟩),F,by rw [H.out,H3.out],by rw [H3.out];exact (by (repeat (refine Dt.ow_set Bu ?_ en1 _));exact (show Bu.ow _ F ⟨Z.now+1,Z.seq,Z.shelf,Z.runs⟩ (⟨B1,m1,e1⟩,⟨B2,m2,e2⟩) from oy8)),fun x hx=>by have:=hF.out.1 x hx;omega,?_⟩;repeat (first | (with_reducible exact hb8) | refine Ad ?_ Bn _)
end
section
def J6 (k n:Nat):List (Nat×Nat):=(List.range n).map fun t=>(k,t)
def Im (y:Yard) (k:Nat):List (Nat×Nat):=(List.range k).flatMap fun j=>J6 j (Gp y j).tasks.length
theorem Aaq (k n:Nat):J6 k (n+1)=J6 k n ++ [(k,n)]:=by
 unfold J6;rw [List.range_succ,List.map_append];rfl
theorem Sr (y:Yard) (k:Nat):Im y (k+1)=Im y k ++ J6 k (Gp y k).tasks.length:=by
 unfold Im;rw [List.range_succ,List.flatMap_append];simp
open Classical in
noncomputable def Nt (y:Yard):Yard:=if Dn y then Fz y (Im y y.runs.length) else y
theorem Ss {b:Nat} {w:World} {u0 u1 u2 u3:Value} (X:DBox b [u0,u1,u2,u3] w) {v0 v1:Value} {rest:List Value} :
  (results Tryz.f150 (v0 :: v1 :: .pointer (Ac ⟨b,0,Ab⟩) :: rest).toArray).run An w = .ok (.agg #[u0,u1,u2,u3]) w:=by
 have c0:=X.cell 0 _ rfl;have c1:=X.cell 1 _ rfl;have c2:=X.cell 2 _ rfl;have c3:=X.cell 3 _ rfl;simp [results,Tryz.results150,go_sem,c0,c1,c2,c3]
theorem Ts (y:Yard) (s:Sl×Sl) (w:World) (hl:Ci y<=2000000) (h:Bu.rd w w y s) :
  Calls An 150 #[Du y s] w (Fc Bu Du (Nt y) w):=by
 have HR:=Bp (show ∀ W,Below w w W->Bu.rd W W y s from fun W hW=>Bu.rd_more (Bu.rd_below h hW) hW.size);obtain ⟨⟨A1,n1,c1⟩,⟨A2,n2,c2⟩⟩:=s;have CC:=Bp (fun W hW=>Er y (⟨A1,n1,c1⟩,⟨A2,n2,c2⟩) W hl (HR.out W hW));have CY:=Bp (fun W hW=>Gj y (⟨A1,n1,c1⟩,⟨A2,n2,c2⟩) W hl (HR.out W hW));clear h;obtain ⟨W,aH,X,RES,B0⟩:=bx2 w 31 [J U y.now,J U y.seq,Aa A1 n1 c1,Aa A2 n2 c2] 31 [J U 0,J U 0,Aa Ab 0 0,Aa Ab 0 0];go_enter Tryz.func150,Tryz.ntmps150;go_wp2_with fail
 rw [<-aH.out];clear aH;have jQ:w.heap.size+1<W.heap.size:=RES.lt;refine (CC.out _ B0).mono ?_;rintro e1 w1 ⟨⟨⟨B1,m1,e1⟩,⟨B2,m2,e2⟩⟩,F,rfl,oy,nF,b1⟩;have bL:=b1.size;have cL:=Bu.ow_lt (F:=F) (x:=y) (s:=(⟨B1,m1,e1⟩,⟨B2,m2,e2⟩)) oy;replace X:=X.below b1;replace RES:=RES.below b1;replace B0:=Bs B0 b1;clear b1;go_upto_region 2 with fail
 have OB:=DBox.new 31 [J U y.now,J U y.seq,Aa B1 m1 e1,Aa B2 m2 e2] w1 (b:=w1.heap.size) rfl;have b2:Below w1 w1 (w1.alloc (.cells #[J U y.now,J U y.seq,Aa B1 m1 e1,Aa B2 m2 e2] 31)):=(Bq _ _).alloc (Br _) _;replace X:=X.below b2;replace RES:=RES.below b2;replace oy:=Bu.ow_below (F:=F) (x:=y) (s:=(⟨B1,m1,e1⟩,⟨B2,m2,e2⟩)) oy b2;replace B0:=Bs B0 b2;have ow1:=OB.lt;clear b2;generalize w1.alloc (.cells #[J U y.now,J U y.seq,Aa B1 m1 e1,Aa B2 m2 e2] 31)=w2 at *
 generalize dQ:w1.heap.size=ob at *
 have X_:=X.g4;obtain ⟨OB_0,OB_1,OB_2,OB_3,OB_l⟩:=OB.g4;go_wp2_with fail
 refine (CY.out _ B0).mono ?_;rintro e1 w3 ⟨rfl,b3⟩;clear X_;clear OB_0 OB_1 OB_2 OB_3 OB_l;replace X:=X.below b3;replace OB:=OB.below b3;replace RES:=RES.below b3;replace oy:Bu.ow w3 F y (⟨B1,m1,e1⟩,⟨B2,m2,e2⟩):=owB oy b3;replace B0:=Bs B0 b3;clear b3;have X_:=X.g4;obtain ⟨OB_0,OB_1,OB_2,OB_3,OB_l⟩:=OB.g4;by_cases p0:Dn y;case neg =>
  rw [Ck p0];have H2:=Bp (show Nt y=y from if_neg p0);clear p0;have RES_:=RES.g4;have rf:=RES.free;go_wp2;have en1:w.heap.size+1∉F:=fun hx=>by have:=nF _ hx;omega
  refine Aj (Ss (DBox.row4 RES rfl _ _ _ _)) rfl ⟨(⟨B1,m1,e1⟩,⟨B2,m2,e2⟩),F,by rw [H2.out],by rw [H2.out];exact (by (repeat (refine Dt.ow_set Bu ?_ en1 _));exact (show Bu.ow _ F y (⟨B1,m1,e1⟩,⟨B2,m2,e2⟩) from oy)),fun x hx=>by have:=nF x hx;omega,?_⟩;repeat (first | (with_reducible exact B0) | refine Ad ?_ Bn _)
 rw [D6 p0];have P0:=Bp p0;have H2:=Bp (show Nt y=Fz y (Im y y.runs.length) from if_pos p0);clear p0;have kS:ob<w3:=OB.lt;have hB3:=B0.size;have fZ:w.heap.size+1<w3.heap.size:=Bk;have hr8:y.runs.length<=8:=P0.out.2.2.2.2.2.2.1;have jE:Hid ((∀ x∈F,w.heap.size+1<x)/\ob∉F/\True):=⟨fun x hx=>by have:=nF x hx;omega,fun hx=>by have:=cL _ hx;omega,trivial⟩
 clear X_;clear OB_0 OB_1 OB_2 OB_3 OB_l;clear X HR CC CY nF cL;go_wp2;go_loopw [4] (fun iv wr=>∃ (k:Nat) (Z:Yard) (s:Sl×Sl) (F:List Nat),k<=y.runs.length/\iv = J U k/\Hid (Trn y (12 * k) Z)/\Hid (Fz y (Im y k)=Z)/\Hid (Bu.ow wr F Z s)/\Hid ((∀ x∈F,w.heap.size+1<x)/\ob∉F/\True)/\DBox ob (Gz Z s) wr/\DBox (w.heap.size+1) [J U 0,J U 0,Aa Ab 0 0,Aa Ab 0 0] wr/\Below w w wr/\w3.heap.size<=wr.heap.size) (fun i _=>y.runs.length - (intOf i).toNat);case atStart=>exact ⟨0,y,(⟨B1,m1,e1⟩,⟨B2,m2,e2⟩),F,Ag _,rfl,Trn.start P0.out,rfl,oy,jE,OB,RES,B0,Br _⟩
 case round =>
  clear oy jE OB RES B0;obtain ⟨k,Z,s,F,hk,rfl,hT,hZ,oy,hF,OB,RES,hb,jS⟩:=hrel;obtain ⟨⟨B1,m1,e1⟩,⟨B2,m2,e2⟩⟩:=s;have eN:=Bp (show m2=y.runs.length from (RdL.at1 (s:=⟨B2,m2,e2⟩) (Bu.ow_rd oy.out).2).trans hT.out.len);obtain ⟨OB_0,OB_1,OB_2,OB_3,OB_l⟩:=OB.g4;by_cases aA:k<y.runs.length
  ·have aB:(k:Int)<(m2:Int):=by have:=eN.out;omega
   have cS:(0:Int)<=(k:Int):=Bk;go_wp2;go_loopw [5] (fun iv wr=>∃ (t:Nat) (Z:Yard) (s:Sl×Sl) (F:List Nat),t<=y.runs[k].tasks.length/\iv = J U t/\Hid (Trn y (12 * k+t) Z)/\Hid (Fz y (Im y k ++ J6 k t)=Z)/\Hid (Bu.ow wr F Z s)/\Hid ((∀ x∈F,w.heap.size+1<x)/\ob∉F/\True)/\DBox ob (Gz Z s) wr/\DBox (w.heap.size+1) [J U 0,J U 0,Aa Ab 0 0,Aa Ab 0 0] wr/\Below w w wr/\w3.heap.size<=wr.heap.size) (fun i _=>y.runs[k].tasks.length - (intOf i).toNat);case atStart=>exact ⟨0,Z,(⟨B1,m1,e1⟩,⟨B2,m2,e2⟩),F,Ag _,rfl,hT,by rw [show J6 k 0=[] from rfl,List.append_nil];exact hZ,oy,hF,OB,RES,hb,jS⟩
   case round =>
    clear OB_0 OB_1 OB_2 OB_3 OB_l;clear oy hF OB RES hb jS hT hZ eN aB;obtain ⟨t,Z,s,F,ht,rfl,hT,hZ,oy,hF,OB,RES,hb,jS⟩:=hrel;obtain ⟨⟨B1,m1,e1⟩,⟨B2,m2,e2⟩⟩:=s;replace oy:Bu.ow wr F Z (⟨B1,m1,e1⟩,⟨B2,m2,e2⟩):=oy.out;have cJ:∀ x∈F,x<wr:=Bu.ow_lt (F:=F) (x:=Z) (s:=(⟨B1,m1,e1⟩,⟨B2,m2,e2⟩)) oy;have gR:=(Fo (E0 P0.out aA)).2;have jC:k<Z.runs.length:=by rw [hT.out.len];exact aA
    have gC:=hT.out.run k jC aA;have oyr:=(Bu.ow_rd (F:=F) (x:=Z) (s:=(⟨B1,m1,e1⟩,⟨B2,m2,e2⟩)) oy).2;have eN:=Bp (show m2=Z.runs.length from RdL.at1 (s:=⟨B2,m2,e2⟩) oyr);have eC:(k:Int)<(m2:Int):=by have:=eN.out;omega
    obtain ⟨gr,orr,⟨sk1,⟨tka,tkn,tkc⟩⟩,rfl,cC,bP,c0,c1,c2,c3,c4,c5,c6,c7⟩:=RdL.run (show RdL Co wr wr.heap.size (Aa B2 m2 e2) Z.runs from oyr) jC;have fU:=Bp (show tkn=Z.runs[k].tasks.length from RdL.at1 (s:=⟨tka,tkn,tkc⟩) bP.2);have cA:=Bp gC.2.2;have bH:=Bp gC.1;clear gC oyr;obtain ⟨OB_0,OB_1,OB_2,OB_3,OB_l⟩:=OB.g4;by_cases aX:t<y.runs[k].tasks.length
    ·have jU:(t:Int)<(tkn:Int):=by have:=fU.out;have:=cA.out;omega
     have gQ:(0:Int)<=(t:Int):=Bk;have nE:t<Z.runs[k].tasks.length:=by have:=cA.out;omega
     have hN:=Bp (hT.out.fail jC nE);have aE:Hid (Fz y (Im y k ++ J6 k (t+1))=Il Z k t):=by
      show Fz y (Im y k ++ J6 k (t+1))=_;rw [Aaq,<-List.append_assoc];unfold Fz;rw [List.foldl_append,<-hZ.out];rfl
     obtain ⟨gt,ot,_,rfl,sP,_,d0,d1,d2,d3⟩:=RdL.task (show RdL Eo wr wr.heap.size (Aa tka tkn tkc) Z.runs[k].tasks from bP.2) nE;have hJ:=Bp (show Bx (Gp Z k) t=Z.runs[k].tasks[t] by rw [Fq jC,Cn nE]);have hJ2:=Bp (Fq jC);clear d1 d2 d3;generalize mV:Z.runs[k]=r at *
     replace mV:=Bp mV;by_cases q:r.tasks[t].state=3;case neg =>
      have q1:(r.tasks[t].state == 3)=false:=by simp [q]
      have bR:=Bp (show Il Z k t=Z from Og (by rw [hJ.out];exact q));clear q;go_wp2;exact ⟨⟨t+1,Z,(⟨B1,m1,e1⟩,⟨Ac ⟨gr,orr,Ab⟩,m2,e2⟩),F,aX,by go_num,by rw [bR.out] at hN;exact hN,aE.out.trans bR.out,oy,hF,OB,RES,hb,jS⟩,by simp [intOf];omega⟩
     have q1:(r.tasks[t].state == 3)=true:=by simp [q]
     have eJ:Hid (J9 r t):=⟨bH.out,⟨Bk,Bk⟩,by rw [Ap,Cn nE];exact q⟩
     have bR:=Bp (show Il Z k t=Gr Z k (Eb r t) by rw [Mw (by rw [hJ.out];exact q),hJ2.out]);have CF:=Bp (Lp r (sk1,⟨Ac ⟨gt,ot,Ab⟩,tkn,tkc⟩) t wr.drew (by have:=Kp bH.out;omega) eJ.out (Co.rd_below bP (Bq _ _).drew));have mI:=OB.lt;clear q bP;go_wp2;refine Dj (fun w'=>w'.cell? ⟨ob,0,Ab⟩=Ac (J U Z.now)/\w'.cell? ⟨ob,1,Ab⟩=Ac (J U Z.seq)/\w'.cell? ⟨ob,2,Ab⟩=Ac (Aa B1 m1 e1)/\w'.cell? ⟨ob,3,Ab⟩=Ac (Aa (Ac ⟨gr,orr,Ab⟩) m2 e2)) 10 Bl ?_ (fun hHeld=>?_)
     ·exact ⟨OB_0,OB_1,OB_2,OB_3⟩
     refine aT 0 hHeld ?_;try simp only [pS]
     refine aT 1 hHeld ?_;try simp only [pS]
     refine aT 2 hHeld ?_;try simp only [pS]
     refine aT 3 hHeld ?_;try simp only [pS]
     refine aT 4 hHeld ?_;try simp only [pS]
     refine aT 5 hHeld ?_;try simp only [pS]
     refine aT 7 hHeld ?_;try simp only [pS]
     refine oT 6 (fun K hK=>?_);go_simp;refine hK.out _ _ (fun _=>?_) ?_
     ·exact ⟨OB_0,OB_1,OB_2,OB_3⟩
     clear hK K;try simp only [pS]
     refine oT 8 (fun K hK=>?_)
     (go_simp;refine CF.out.mono ?_;rintro e5 wa ⟨sr,Fr,rfl,orn,nFr,ba⟩;have kK:∀ x∈Fr,wr<=x:=nFr;have oya:Bu.ow wa F Z (⟨B1,m1,e1⟩,⟨Ac ⟨gr,orr,Ab⟩,m2,e2⟩):=owB oy (Bs (Bq _ _).drew ba);have CT:=Bp (Kk Z (⟨B1,m1,e1⟩,⟨Ac ⟨gr,orr,Ab⟩,m2,e2⟩) k (Eb r t) sr wa F Fr hT.out.four (fun s hs=>by have:=hT.out.all s hs;omega) (by have:=hT.out.seq;omega) jC (by rw [Ho];have:=Fo bH.out;omega) (by rw [mV.out];have:=Fo bH.out;omega) oya orn (fun x hx bF=>by have h1:=kK x hx;have h2:=cJ x bF;omega)))
     refine hK.out _ _ (fun _=>?_) ?_
     ·exact ⟨(ba.cell (p:=⟨_,_,Ab⟩) (by show ob<wr;omega)).trans OB_0,(ba.cell (p:=⟨_,_,Ab⟩) (by show ob<wr;omega)).trans OB_1,(ba.cell (p:=⟨_,_,Ab⟩) (by show ob<wr;omega)).trans OB_2,(ba.cell (p:=⟨_,_,Ab⟩) (by show ob<wr;omega)).trans OB_3⟩
     clear hK K;try simp only [pS]
     refine oT 9 (fun K hK=>?_)
     (go_simp;refine CT.out.mono ?_;rintro e6 wb ⟨s6,F6,rfl,oy6,n6,cb⟩;have OB6:=(OB.below (Bs (Bq _ _).drew ba)).chg cb hF.out.2.1;have q0:=OB6.cell 0 _ rfl;have q1:=OB6.cell 1 _ rfl;have q2:=OB6.cell 2 _ rfl;have q3:=OB6.cell 3 _ rfl;have qf:=OB6.free;have ql:=OB6.lt;generalize Gr Z k (Eb r t)=Z1 at *)
     refine hK.out _ _ (fun _=>?_) ?_
     ·exact ⟨q0,q1,q2,q3⟩
     clear hK K;try simp only [pS]
     refine oT 10 (fun K hK=>?_);go_simp;refine hK.out _ _ (fun aC=>absurd rfl aC) ?_;clear hK K;try simp only [pS]
     refine Ec Bl ?_ _;have ba':Below wr wr wa:=Bs (Bq _ _).drew ba;have hbas:=ba'.size;have hcbs:=cb.size;have gP:=OB.lt;have hRl7:=RES.lt;have cP:=Chg.cells4 wb ob 0 1 2 3 (J U Z1.now) (J U Z1.seq) (Aa s6.1.a s6.1.n s6.1.c) (Aa s6.2.a s6.2.n s6.2.c);have fC:=Bp (show ∀ x,x∈[ob]->x=ob from fun x hx=>by simpa using hx);have OB7:=DBox.row4 OB6 rfl (J U Z1.now) (J U Z1.seq) (Aa s6.1.a s6.1.n s6.1.c) (Aa s6.2.a s6.2.n s6.2.c);have RES7:=((RES.below ba').chg cb (fun hx=>by have:=hF.out.1 _ hx;omega)).chg cP (fun hx=>by have:=fC.out _ hx;omega);have hb7:=((Bs hb ba').trans (cb.below (by have:=(Bs hb ba').size;omega) (fun x hx=>by have:=hF.out.1 x hx;omega))).trans (cP.below (by have:=hb.size;omega) (fun x hx=>by have:=fC.out x hx;omega));have nQ:∀ x∈F6,x∈F\/wr<=x:=fun x hx=>by
      rcases n6 x hx with h | h | h
      ·exact .inl h
      ·exact .inr (kK x h)
      ·exact .inr Bk
     have mA:ob∉F6:=fun hx=>by
      rcases nQ _ hx with h | h
      ·exact hF.out.2.1 h
      ·omega
     have oy7:=Bu.ow_chg (F:=F6) (x:=Z1) (s:=s6) oy6 cP (fun x hx h=>by have:=fC.out x h;subst this;exact mA hx);have pE:Hid ((∀ x∈F6,w.heap.size+1<x)/\ob∉F6/\True):=⟨fun x hx=>by
      rcases nQ x hx with h | h
      ·exact hF.out.1 x h
      ·have:=hRl7;omega,mA,trivial⟩
     have hw7:=Ah jS (Ah (Ah hbas hcbs) cP.size);clear hHeld q0 q1 q2 q3 qf ql OB6 oy6 CT CF oya orn nFr n6 ba cb;clear OB_0 OB_1 OB_2 OB_3 OB_l;clear OB;generalize (((wb.setCell ⟨ob,0,Ab⟩ (J U Z1.now)).setCell ⟨ob,1,Ab⟩ (J U Z1.seq)).setCell ⟨ob,2,Ab⟩ (Aa s6.1.a s6.1.n s6.1.c)).setCell ⟨ob,3,Ab⟩ (Aa s6.2.a s6.2.n s6.2.c)=w7 at *
     go_wp2;exact ⟨⟨t+1,Z1,s6,F6,aX,by go_num,by rw [<-bR.out];exact hN,aE.out.trans bR.out,oy7,pE,OB7,RES7,hb7,hw7⟩,by simp [intOf];omega⟩
    ·have jU:¬ (t:Int)<(tkn:Int):=by have:=fU.out;have:=cA.out;omega
     have hS:=Bp (show Fz y (Im y (k+1))=Z by
      rw [Sr,show (Gp y k).tasks.length=t by rw [Fq aA];omega];exact hZ.out)
     have hM:=Bp (show Trn y (12 * (k+1)) Z from hT.out.mono Bk);go_wp2;exact ⟨⟨k+1,Z,(⟨B1,m1,e1⟩,⟨Ac ⟨gr,orr,Ab⟩,m2,e2⟩),F,Bk,by go_num,hM,hS,oy,hF,OB,RES,hb,jS⟩,by simp [intOf];omega⟩
  ·have aB:¬ (k:Int)<(m2:Int):=by have:=eN.out;omega
   have hkk:k=y.runs.length:=Bk;have H3:=Bp (show Nt y=Z by rw [H2.out,<-hZ.out,hkk]);clear hkk;replace oy:Bu.ow wr F Z (⟨B1,m1,e1⟩,⟨B2,m2,e2⟩):=oy.out;have rf:=RES.free;have RES_:=RES.g4;go_wp2;have en1:w.heap.size+1∉F:=fun hx=>by have:=hF.out.1 _ hx;omega
   refine Aj (Ss (DBox.row4 RES rfl _ _ _ _)) rfl ⟨(⟨B1,m1,e1⟩,⟨B2,m2,e2⟩),F,by rw [H3.out],by rw [H3.out];exact (by (repeat (refine Dt.ow_set Bu ?_ en1 _));exact (show Bu.ow _ F Z (⟨B1,m1,e1⟩,⟨B2,m2,e2⟩) from oy)),fun x hx=>by have:=hF.out.1 x hx;omega,?_⟩;repeat (first | (with_reducible exact hb) | refine Ad ?_ Bn _)
end
theorem Aby (y:Yard) (s:Sl×Sl) (p:Nat) (e:Entry) (w:World) (hl:Ci y<=2000000) (X:DBox p (Gz y s) w) (h:Bu.rd w w y s) :
  Calls An 134 #[H7 e (),.pointer (Ac ⟨p,0,Ab⟩)] w fun e' w'=>e' = .returned (.bool (!Dx y e))/\Below w w w':=by
 have CF:=Bp (fun W (hW:Below w w W)=>Oq y s e W hl (Bu.rd_more (Bu.rd_below h hW) hW.size));obtain ⟨⟨A1,n1,c1⟩,⟨A2,n2,c2⟩⟩:=s;have B0:Below w w (w.alloc (.cells #[J U e.prio,J U e.seq,J U e.run,J U e.task] 93)):=(Bq _ _).alloc (Br _) _;have E:=DBox.new 93 [J U e.prio,J U e.seq,J U e.run,J U e.task] w (b:=w.heap.size) rfl;have CF:=Bp (CF.out _ B0);replace X:=X.below B0;clear h hl;have X_:=X.g4;have E_:=E.g4;go_enter Tryz.func134,Tryz.ntmps134;go_wp2_with fail
 refine CF.out.mono ?_;rintro e1 w1 ⟨rfl,b1⟩;go_wp2;go_ret;exact ⟨rfl,Bs B0 b1⟩
theorem Abz {b:Nat} {w:World} {u0 u1 u2 u3:Value} (X:DBox b [u0,u1,u2,u3] w) {v0 v1 v2 v3:Value} {rest:List Value} :
  (results Tryz.f70 (v0 :: v1 :: v2 :: v3 :: .pointer (Ac ⟨b,0,Ab⟩) :: rest).toArray).run An w = .ok (.agg #[u0,u1,u2,u3]) w:=by
 obtain ⟨c0,c1,c2,c3,-⟩:=X.g4;simp [results,Tryz.results70,go_sem,c0,c1,c2,c3]
theorem O4 (y:Yard) (s:Sl×Sl) (i:Nat) (w:World) (hi:i<y.shelf.length) (hl:Ci y<=2000000) (h:Bu.rd w w y s) :
  Calls An 70 #[Du y s,J U i] w (Fc Bu Du (By y i) w):=by
 have HR:=Bp (show ∀ W,Below w w W->Bu.rd W W y s from fun W hW=>Bu.rd_more (Bu.rd_below h hW) hW.size);obtain ⟨⟨A1,n1,c1⟩,⟨A2,n2,c2⟩⟩:=s;obtain rfl:n1=y.shelf.length:=RdL.at1 (s:=⟨A1,n1,c1⟩) h.1;have CC:=Bp (fun W hW=>L8 y (⟨A1,y.shelf.length,c1⟩,⟨A2,n2,c2⟩) W hl (HR.out W hW));have mZ:y.shelf[i].length<=2000000:=by
  have h1:=Fk (cnt:=De) (Aw hi);have h2:y.shelf[i].length<=De y.shelf[i]:=Ct _ _;unfold Ci at hl;omega
 have hshl:y.shelf.length<=2000000:=Ah (Ct De _) (by unfold Ci at hl;omega);clear h;have hiI:(i:Int)<(y.shelf.length:Int):=Bk;have hi00:(0:Int)<=(i:Int):=Bk;obtain ⟨W,aH,X,RES,B0⟩:=bx2 w 31 [J U y.now,J U y.seq,Aa A1 y.shelf.length c1,Aa A2 n2 c2] 31 [J U 0,J U 0,Aa Ab 0 0,Aa Ab 0 0];go_enter Tryz.func70,Tryz.ntmps70;go_wp2_with fail
 rw [<-aH.out];clear aH;refine (CC.out _ B0).mono ?_;rintro e1 w1 ⟨⟨⟨B1,m1,e1⟩,⟨B2,m2,e2⟩⟩,F,rfl,oy,nF,b1⟩;have jQ:=RES.lt;have b2:Below w1 w1 (w1.alloc (.cells #[J U y.now,J U y.seq,Aa B1 m1 e1,Aa B2 m2 e2] 31)):=(Bq _ _).alloc (Br _) _;have OB:DBox w1 (Gz y (⟨B1,m1,e1⟩,⟨B2,m2,e2⟩)) _:=DBox.new 31 [J U y.now,J U y.seq,Aa B1 m1 e1,Aa B2 m2 e2] w1 (b:=w1.heap.size) rfl;have cJ:=Bp (Bu.ow_lt (F:=F) (x:=y) (s:=(⟨B1,m1,e1⟩,⟨B2,m2,e2⟩)) oy);have fI:=Bp (show ∀ x∈F,w.heap.size+1<x from fun x hx=>by have:=nF x hx;omega);replace oy:Bu.ow _ F y (⟨B1,m1,e1⟩,⟨B2,m2,e2⟩):=owB oy b2;have b12:=Bs b1 b2;replace X:=X.below b12;replace RES:=RES.below b12;replace B0:=Bs B0 b12;have bL:=b1.size;clear b1 b2 b12 CC nF;go_upto_region 2 with fail
 have dQ:w1.heap.size∉F:=fun h=>by have:=cJ.out _ h;omega
 have hobR:w.heap.size+1<w1.heap.size:=Bk;generalize w1.heap.size=ob at *
 generalize w1.alloc (.cells #[J U y.now,J U y.seq,Aa B1 m1 e1,Aa B2 m2 e2] 31)=w2 at *
 have wr1:U.wrap ((y.shelf.length:Int) - 1)=(y.shelf.length:Int) - 1:=Ar _ Bk;have q:inB (i:Int) 0 ((y.shelf.length:Int) - 1)=true:=Cp.2 Bk;have X_:=X.g4;go_wp2_with (go_at_call 58;refine (Cs _ _ _ _).mono ?_;rintro e w9 ⟨rfl,rfl⟩;rw [q])
 clear X_;have dS:=Bp hl;have bd:Below w2 w2 w2.drew:=(Bq _ _).drew;obtain ⟨F1,F2,rfl,bM,os,orr⟩:=oy;replace os:OwL (Dt.list Cg) w2 F1 (Aa B1 m1 e1) y.shelf:=os;replace orr:OwL Co w2 F2 (Aa B2 m2 e2) y.runs:=orr;obtain rfl:m1=y.shelf.length:=RdL.at1 (s:=⟨B1,m1,e1⟩) os.rd;obtain ⟨g,o,_,rfl,hg,_,_⟩:=os.rd.entryS hi;obtain ⟨OB_0,OB_1,OB_2,OB_3,OB_l⟩:=OB.g4;obtain ⟨⟨A9,n9,c9⟩,Fx,rR,bF,nP,fJ,fL,aY,cG⟩:=OwL.trade (os.below bd) hi;replace rR:OwL Cg w2.drew Fx (Aa A9 n9 c9) y.shelf[i]:=rR;obtain rfl:n9=y.shelf[i].length:=RdL.at1 (s:=⟨A9,n9,c9⟩) rR.rd;have ck:w2.drew.cell? ⟨g,o+i,Ab⟩=Ac (Aa A9 y.shelf[i].length c9):=by
  have:=aY 0 _ rfl
  rw [show o+i * (Dt.list Cg).enc.sz+0=o+i from by show o+i * 1+0=o+i;omega] at this;exact this
 have hXn:w.heap.size∉Fx:=fun hx=>by have:=fI.out _ (Be _ (bF _ hx));omega
 have mR:=Bs B0 bd;have Xd:=X.below bd;have mM:∀ (W:World) (x:Entry),Below w w W->DBox w [J U y.now,J U y.seq,Aa A1 y.shelf.length c1,Aa A2 n2 c2] W->Calls An 134 #[H7 x (),.pointer (Ac ⟨w,0,Ab⟩)] W fun e w'=>e = .returned (.bool (!Dx y x))/\Below W W w' :=
  fun W x hW hX=>Aby y (⟨A1,y.shelf.length,c1⟩,⟨A2,n2,c2⟩) w x W dS.out hX (HR.out W hW)
 have CD:=Bp (Zz y.shelf[i] A9 y.shelf[i].length c9 Fx 134 w.heap.size (fun e=>!Dx y e) (Abo Tryz.func134 Bl Bl) w2.drew mZ
  (fun W x hW=>mM W x (mR.trans (hW.below mR.size (fun z hz=>by have:=fI.out _ (Be _ (bF _ hz));omega))) (Xd.chg hW hXn))
  (Vh 134 w (fun e=>!Dx y e) (Abo Tryz.func134 Bl Bl) y.shelf[i] A9 y.shelf[i].length c9 w2.drew mZ (Aab rR).rd (fun W x hW=>mM W x (mR.trans (hW.mono mR.size)) (Xd.below hW)))
  (Aab rR))
 clear mM dS;refine Dj (fun w'=>w'.cell? ⟨ob,2,Ab⟩=Ac (Aa (Ac ⟨g,o,Ab⟩) y.shelf.length e1)/\w'.cell? ⟨g,o+i,Ab⟩=Ac (Aa A9 y.shelf[i].length c9)) 11 Bl ?_ (fun hHeld=>?_)
 ·exact ⟨OB_2,ck⟩
 refine aT 0 hHeld ?_;try simp only [pS]
 refine aT 1 hHeld ?_;try simp only [pS]
 refine aT 2 hHeld ?_;try simp only [pS]
 refine aT 3 hHeld ?_;try simp only [pS]
 refine aT 4 hHeld ?_;try simp only [pS]
 refine aT 5 hHeld ?_;try simp only [pS]
 refine aT 6 hHeld ?_;try simp only [pS]
 refine aT 7 hHeld ?_;try simp only [pS]
 refine aT 8 hHeld ?_;try simp only [pS]
 refine oT 9 (fun K hK=>?_)
 (go_simp;refine CD.out.mono ?_;rintro e7 wa ⟨k9,F',rfl,hH,dE,hC⟩)
 have gV:g<w2.drew:=os.lt g fJ;have mI:ob<w2.drew:=OB.lt;have hobx:ob∉Fx:=fun hx=>dQ (Be _ (bF _ hx));have eF:ob≠g:=fun e=>dQ (by rw [e];exact Be _ fJ);have hgn:=fI.out g (Be _ fJ);have h2a:=(hC.cell (p:=⟨ob,2,Ab⟩) mI hobx).trans hHeld.1;have ck2:=(hC.cell (p:=⟨g,_,Ab⟩) gV nP).trans ck;have hgf2:∀ j,wa.frozen? ⟨g,j,Ab⟩=false:=fun j=>(hC.frozen (p:=⟨g,_,Ab⟩) gV nP).trans (fL j);refine hK.out _ _ (fun _=>⟨h2a,ck2⟩) ?_;clear hK K;try simp only [pS]
 refine oT 10 (fun K hK=>?_);go_simp;refine hK.out _ _ (fun _=>⟨h2a,ck2⟩) ?_;clear hK K;try simp only [pS]
 have hga:=hC.size;refine oT 11 (fun K hK=>?_);go_simp;refine hK.out _ _ (fun aC=>absurd rfl aC) ?_;clear hK K hHeld;try simp only [pS]
 refine Ec Bl ?_ _;obtain ⟨F3,o3,h3s,jX⟩:=cG wa (y.shelf[i].filter fun x=>!!Dx y x) ⟨A9,k9,c9⟩ F' hC (Adl hH) dE;have fZ:Io wa g (o+i * (Dt.list Cg).enc.sz) ((Dt.list Cg).enc.cells ((y.shelf[i].filter fun x=>!!Dx y x),(⟨A9,k9,c9⟩:Sl)))=wa.setCell ⟨g,o+i,Ab⟩ (Aa A9 k9 c9):=by
  show Io wa g (o+i * 1) [Aa A9 k9 c9]=_;rw [Nat.mul_one];rfl
 rw [fZ] at o3;have hd12:∀ x∈F1,x∉F2:=fun x hx aN=>(Ax.1 bM).2.2 x hx x aN rfl;have hS:=Chg.setCell wa g (o+i) (Aa A9 k9 c9);have bK:=Bp (show ∀ x,x∈[g]->x=g from fun x hx=>by simpa using hx);have orr3:=((orr.below bd).chg hC (fun x hx aN=>hd12 x (bF x aN) hx)).chg hS (fun x hx aN=>by have:=bK.out x aN;subst this;exact hd12 x fJ hx);have hX3:w.heap.size+1∉Fx:=fun hx=>by have:=fI.out _ (Be _ (bF _ hx));omega
 have RES3:=((RES.below bd).chg hC hX3).chg hS (fun hx=>by have:=bK.out _ hx;omega);have OB3:=((OB.below bd).chg hC hobx).chg hS (fun hx=>eF (bK.out _ hx));have B3:=(mR.trans (hC.below mR.size (fun z hz=>by have:=fI.out _ (Be _ (bF _ hz));omega))).trans (hS.below (base:=w.heap.size) (by have:=mR.size;omega) (fun x hx=>by have:=bK.out x hx;omega));have oyF:Bu.ow (wa.setCell ⟨g,o+i,Ab⟩ (Aa A9 k9 c9)) (F3 ++ F2) (By y i) (⟨Ac ⟨g,o,Ab⟩,y.shelf.length,e1⟩,⟨B2,m2,e2⟩):=by
  refine ⟨F3,F2,rfl,?_,?_,orr3⟩
  ·rw [Ax] at bM ⊢;exact ⟨o3.nodup,bM.2.1,fun a ha b hb e=>hd12 a (h3s a ha) (by rw [e];exact hb)⟩
  ·have hE:(By y i).shelf=y.shelf.set i (y.shelf[i].filter fun x=>!!Dx y x):=by
    show y.shelf.set i ((y.shelf.getD i []).filter fun e=>Dx y e)=_;rw [List.getD_eq_getElem?_getD,List.getElem?_eq_getElem hi];simp
   show OwL (Dt.list Cg) _ F3 (Aa (Ac ⟨g,o,Ab⟩) y.shelf.length e1) (By y i).shelf;rw [hE];exact o3
 have mT:∀ x∈F3 ++ F2,w.heap.size+1<x:=fun x hx=>by
  rcases List.mem_append.1 hx with hx | hx
  ·exact fI.out x (Be _ (h3s x hx))
  ·exact fI.out x (List.mem_append_right _ hx)
 have mT:=Bp mT;clear o3 h3s jX cG hC hH dE CD os orr orr3 rR aY ck ck2 h2a hgf2 fL hd12 bF fI hX3 hS RES X Xd B0 mR bd;clear OB_0 OB_1 OB_2 OB_3 OB_l;clear OB;generalize wa.setCell ⟨g,o+i,Ab⟩ (Aa A9 k9 c9)=w6 at *
 have OB:=OB3;have RES:=RES3;obtain ⟨OB_0,OB_1,OB_2,OB_3,OB_l⟩:=OB.g4;have RES_:=RES.g4;have rf:=RES.free;go_wp2;have en1:w.heap.size+1∉F3 ++ F2:=fun hx=>by have:=mT.out _ hx;omega
 refine Aj (Abz (DBox.row4 RES rfl _ _ _ _)) rfl ⟨(⟨Ac ⟨g,o,Ab⟩,y.shelf.length,e1⟩,⟨B2,m2,e2⟩),F3 ++ F2,rfl,Bu.set4 (F:=F3 ++ F2) (x:=By y i) (s:=(⟨Ac ⟨g,o,Ab⟩,y.shelf.length,e1⟩,⟨B2,m2,e2⟩)) oyF en1,fun x hx=>by have:=mT.out x hx;omega,?_⟩;repeat (first | (with_reducible exact B3) | refine Ad ?_ Bn _)
section
open Classical in
noncomputable def Acq (y:Yard):Int:=if Dn y then 0 else 8
noncomputable def doO (y:Yard) (d:Deed):Yard×Reply :=
 if Dr d=false then (y,⟨5,0,0,0⟩) else
 match d.kind with
 | 1=>(Mg y d.run d.plan,⟨Mu y d.run d.plan,0,0,0⟩)
 | 2=>Gv y d.worker d.draw
 | 3=>(M9 y d.run d.task d.try_,⟨Iq y d.run d.task d.try_,0,0,0⟩)
 | 4=>(M7 y d.run d.task d.try_,⟨Iq y d.run d.task d.try_,0,0,0⟩)
 | 5=>(K9 y,⟨Na y,0,0,0⟩)
 | 6=>(Ka y d.run,⟨K6 y d.run,0,0,0⟩)
 | 7=>(Kb y d.run,⟨K7 y d.run,0,0,0⟩)
 | _=>(Nt y,⟨Acq y,0,0,0⟩)
theorem Vy {b c:Nat} {w:World} {u0 u1 u2 u3 v0 v1 v2 v3:Value} (X:DBox b [u0,u1,u2,u3] w) (Y:DBox c [v0,v1,v2,v3] w) {x0 x1 x2 x3:Value} {rest:List Value} :
  (results Tryz.f79 (x0 :: x1 :: x2 :: x3 :: .pointer (Ac ⟨b,0,Ab⟩) :: .pointer (Ac ⟨c,0,Ab⟩) :: rest).toArray).run An w = .ok (.tuple #[.agg #[u0,u1,u2,u3],.agg #[v0,v1,v2,v3]]) w:=by
 have c0:=X.cell 0 _ rfl;have c1:=X.cell 1 _ rfl;have c2:=X.cell 2 _ rfl;have c3:=X.cell 3 _ rfl;have d0:=Y.cell 0 _ rfl;have d1:=Y.cell 1 _ rfl;have d2:=Y.cell 2 _ rfl;have d3:=Y.cell 3 _ rfl;simp [results,Tryz.results79,go_sem,c0,c1,c2,c3,d0,d1,d2,d3]
theorem Aar {d:Deed} (h:Dr d=true):inB d.kind 1 8=true:=by
 unfold Dr at h;simp only [Bool.and_eq_true] at h;exact h.1.1.1.1
theorem Aas {rn tk ty wk dr:Int} {p:Plan} (h:Dr ⟨2,rn,p,tk,ty,wk,dr⟩=true):0<=dr/\dr<=1000000000:=by
 unfold Dr at h;simp only [Bool.and_eq_true] at h;have h2:=h.1.2;simp at h2;exact Cp.1 (show inB dr 0 1000000000=true from h2.2)
theorem Ab0 (y:Yard) (s:Sl×Sl) (d:Deed) (sd:Sl) (w:World) (hl:Ci y<=2000000) (hp:d.plan.edges.length<=2000000) (h:Bu.rd w w y s) (sH:I8.rd w w d sd) :
  Calls An 79 #[Du y s,Nl d sd] w (T0 (doO y d) w):=by
 obtain ⟨⟨A1,n1,c1⟩,⟨A2,n2,c2⟩⟩:=s;obtain ⟨A3,n3,c3⟩:=sd;have hdp:Cm.rd w w d.plan ⟨A3,n3,c3⟩:=sH;obtain rfl:n3=d.plan.edges.length:=RdL.at1 (s:=⟨A3,n3,c3⟩) hdp;have HR:=Bp (show ∀ W,Below w w W->Bu.rd W W y (⟨A1,n1,c1⟩,⟨A2,n2,c2⟩) from fun W hW=>Bu.rd_more (Bu.rd_below h hW) hW.size);have HP:=Bp (show ∀ W,Below w w W->Cm.rd W W d.plan ⟨A3,d.plan.edges.length,c3⟩ from fun W hW=>Cm.rd_more (Cm.rd_below hdp hW) hW.size);have CD:=Bp (fun W (hW:Below w w W)=>Vi d ⟨A3,d.plan.edges.length,c3⟩ W (I8.rd_more (I8.rd_below sH hW) hW.size));have CC:=Bp (fun W hW=>Er y (⟨A1,n1,c1⟩,⟨A2,n2,c2⟩) W hl (HR.out W hW));clear h sH hdp;obtain ⟨kd,rn,p,tk,ty,wk,dr⟩:=d;replace hp:p.edges.length<=2000000:=hp;replace HP:Hid (∀ W,Below w w W->Cm.rd W W p ⟨A3,p.edges.length,c3⟩):=HP;obtain ⟨W,aH,X,D,RES,RP,OB,B0⟩:=bx5 w 31 [J U y.now,J U y.seq,Aa A1 n1 c1,Aa A2 n2 c2] 45 [J U kd,J U rn,J U p.prio,J U p.most,J U p.wait,J U p.tasks,Aa A3 p.edges.length c3,J U tk,J U ty,J U wk,J U dr] 31 [J U 0,J U 0,Aa Ab 0 0,Aa Ab 0 0] 69 [J U 0,J U 0,J U 0,J U 0] 31 [J U 0,J U 0,Aa Ab 0 0,Aa Ab 0 0];go_enter Tryz.func79,Tryz.ntmps79;go_wp2_with fail
 rw [<-aH.out];clear aH;have hWs:w.heap.size+1+1+1+1<W.heap.size:=OB.lt;refine (CD.out _ B0).mono ?_;rintro e1 w1 ⟨rfl,b1⟩;replace X:=X.below b1;replace D:=D.below b1;replace OB:=OB.below b1;replace RES:=RES.below b1;replace RP:=RP.below b1;have bL:=b1.size;replace B0:=Bs B0 b1;clear b1 CD;have X_:=X.g4;have D_:=D.g11;have OB_:=OB.g4;cases hd:Dr ⟨kd,rn,p,tk,ty,wk,dr⟩;case false =>
  have H:=Bp (show doO y ⟨kd,rn,p,tk,ty,wk,dr⟩=(y,⟨5,0,0,0⟩) from if_pos hd);clear hd;go_wp2_with fail
  refine (CC.out _ B0).mono ?_;rintro e2 w2 ⟨s2,F,rfl,oy,nF,b2⟩;have dH:∀ x∈F,w.heap.size+1+1+1+1<x:=fun x hx=>by have h1:=nF x hx;omega
  clear X_;clear D_;clear OB_;clear X D OB;replace RES:=RES.below b2;replace RP:=RP.below b2;replace B0:=Bs B0 b2;clear nF b2;have RES_:=RES.g4;have RP_:=RP.g4;have rf:=RES.free;have pf:=RP.free;have aC:w.heap.size+1+1+1≠w.heap.size+1+1:=Bk;go_wp2;have RES2:=DBox.row4 RES rfl (J U y.now) (J U y.seq) (Aa s2.1.a s2.1.n s2.1.c) (Aa s2.2.a s2.2.n s2.2.c);have RP2:=DBox.row4 ((((RP.setOther (a:=⟨w.heap.size+1+1,0,Ab⟩) aC (J U y.now)).setOther (a:=⟨w.heap.size+1+1,1,Ab⟩) aC (J U y.seq)).setOther (a:=⟨w.heap.size+1+1,2,Ab⟩) aC (Aa s2.1.a s2.1.n s2.1.c)).setOther (a:=⟨w.heap.size+1+1,3,Ab⟩) aC (Aa s2.2.a s2.2.n s2.2.c)) rfl (J U 5) (J U 0) (J U 0) (J U 0);have RES3:=((((RES2.setOther (a:=⟨w.heap.size+1+1+1,0,Ab⟩) aC.symm (J U 5)).setOther (a:=⟨w.heap.size+1+1+1,1,Ab⟩) aC.symm (J U 0)).setOther (a:=⟨w.heap.size+1+1+1,2,Ab⟩) aC.symm (J U 0)).setOther (a:=⟨w.heap.size+1+1+1,3,Ab⟩) aC.symm (J U 0))
  have en1:w.heap.size+1+1∉F:=fun hx=>by have:=dH _ hx;omega
  have en2:w.heap.size+1+1+1∉F:=fun hx=>by have:=dH _ hx;omega
  refine Aj (Vy RES3 RP2) rfl ⟨s2,F,by rw [H.out],by rw [H.out];exact (by (repeat (refine Dt.ow_set Bu ?_ (by first | exact en1 | exact en2) _));exact (show Bu.ow _ F y s2 from oy)),fun x hx=>by have:=dH x hx;omega,?_⟩;repeat (first | (with_reducible exact B0) | refine Ad ?_ Bn _)
 replace hd:=Bp hd;have hkd:=Cp.1 (Aar hd.out);dsimp only at hkd;clear CC;rcases (show kd=1\/kd=2\/kd=3\/kd=4\/kd=5\/kd=6\/kd=7\/kd=8 by omega) with rfl | rfl | rfl | rfl | rfl | rfl | rfl | rfl
 have H:=Bp (show doO y ⟨1,rn,p,tk,ty,wk,dr⟩=(Mg y rn p,⟨Mu y rn p,0,0,0⟩) by unfold doO;rw [if_neg (by rw [hd.out];simp)];rfl);have CS:=Bp (Vt y (⟨A1,n1,c1⟩,⟨A2,n2,c2⟩) rn p ⟨A3,p.edges.length,c3⟩ w1 hl hp (HR.out _ B0) (HP.out _ B0));generalize Mg y rn p=z at *
 generalize Mu y rn p=c at *
 rotate_left
 ·have H:Hid (doO y ⟨2,rn,p,tk,ty,wk,dr⟩=Gv y wk dr):=by
   show doO y ⟨2,rn,p,tk,ty,wk,dr⟩=_;unfold doO;rw [if_neg (by rw [hd.out];simp)];rfl
  have mY:=Bp (Aas hd.out);obtain ⟨dn,rfl⟩:=Int.eq_ofNat_of_zero_le mY.out.1;have CS:=Bp (Yq y (⟨A1,n1,c1⟩,⟨A2,n2,c2⟩) wk dn w1 hl (by have:=mY.out;omega) (HR.out _ B0));generalize Gv y wk (dn:Int)=o at *
  obtain ⟨z,⟨o0,o1,o2,o3⟩⟩:=o;go_wp2_with fail
  refine CS.out.mono ?_;rintro e2 w2 ⟨s2,F,rfl,oy,nF,b2⟩;replace oy:Bu.ow w2 F z s2:=oy;have dH:∀ x∈F,w.heap.size+1+1+1+1<x:=fun x hx=>by have h1:=nF x hx;omega
  clear X_;clear D_;clear OB_;clear X D OB;replace RES:=RES.below b2;replace RP:=RP.below b2;replace B0:=Bs B0 b2;clear nF b2;have RES_:=RES.g4;have RP_:=RP.g4;have rf:=RES.free;have pf:=RP.free;have aC:w.heap.size+1+1+1≠w.heap.size+1+1:=Bk;go_wp2;have RES2:=DBox.row4 RES rfl (J U z.now) (J U z.seq) (Aa s2.1.a s2.1.n s2.1.c) (Aa s2.2.a s2.2.n s2.2.c);have RP2:=DBox.row4 ((((RP.setOther (a:=⟨w.heap.size+1+1,0,Ab⟩) aC (J U z.now)).setOther (a:=⟨w.heap.size+1+1,1,Ab⟩) aC (J U z.seq)).setOther (a:=⟨w.heap.size+1+1,2,Ab⟩) aC (Aa s2.1.a s2.1.n s2.1.c)).setOther (a:=⟨w.heap.size+1+1,3,Ab⟩) aC (Aa s2.2.a s2.2.n s2.2.c)) rfl (J U o0) (J U o1) (J U o2) (J U o3);have RES3:=((((RES2.setOther (a:=⟨w.heap.size+1+1+1,0,Ab⟩) aC.symm (J U o0)).setOther (a:=⟨w.heap.size+1+1+1,1,Ab⟩) aC.symm (J U o1)).setOther (a:=⟨w.heap.size+1+1+1,2,Ab⟩) aC.symm (J U o2)).setOther (a:=⟨w.heap.size+1+1+1,3,Ab⟩) aC.symm (J U o3))
  have en1:w.heap.size+1+1∉F:=fun hx=>by have:=dH _ hx;omega
  have en2:w.heap.size+1+1+1∉F:=fun hx=>by have:=dH _ hx;omega
  refine Aj (Vy RES3 RP2) rfl ⟨s2,F,by rw [H.out],by rw [H.out];exact (by (repeat (refine Dt.ow_set Bu ?_ (by first | exact en1 | exact en2) _));exact (show Bu.ow _ F z s2 from oy)),fun x hx=>by have:=dH x hx;omega,?_⟩;repeat (first | (with_reducible exact B0) | refine Ad ?_ Bn _)
 have H:=Bp (show doO y ⟨3,rn,p,tk,ty,wk,dr⟩=(M9 y rn tk ty,⟨Iq y rn tk ty,0,0,0⟩) by unfold doO;rw [if_neg (by rw [hd.out];simp)];rfl);have CS:=Bp (Rp y (⟨A1,n1,c1⟩,⟨A2,n2,c2⟩) rn tk ty w1 hl (HR.out _ B0));generalize M9 y rn tk ty=z at *
 generalize Iq y rn tk ty=c at *
 rotate_left;have H:=Bp (show doO y ⟨4,rn,p,tk,ty,wk,dr⟩=(M7 y rn tk ty,⟨Iq y rn tk ty,0,0,0⟩) by unfold doO;rw [if_neg (by rw [hd.out];simp)];rfl);have CS:=Bp (Yl y (⟨A1,n1,c1⟩,⟨A2,n2,c2⟩) rn tk ty w1 hl (HR.out _ B0));generalize M7 y rn tk ty=z at *
 generalize Iq y rn tk ty=c at *
 rotate_left;have H:=Bp (show doO y ⟨5,rn,p,tk,ty,wk,dr⟩=(K9 y,⟨Na y,0,0,0⟩) by unfold doO;rw [if_neg (by rw [hd.out];simp)];rfl);have CS:=Bp (Yt y (⟨A1,n1,c1⟩,⟨A2,n2,c2⟩) w1 hl (HR.out _ B0));generalize K9 y=z at *
 generalize Na y=c at *
 rotate_left;have H:=Bp (show doO y ⟨6,rn,p,tk,ty,wk,dr⟩=(Ka y rn,⟨K6 y rn,0,0,0⟩) by unfold doO;rw [if_neg (by rw [hd.out];simp)];rfl);have CS:=Bp (Vu y (⟨A1,n1,c1⟩,⟨A2,n2,c2⟩) rn w1 hl (HR.out _ B0));generalize Ka y rn=z at *
 generalize K6 y rn=c at *
 rotate_left;have H:=Bp (show doO y ⟨7,rn,p,tk,ty,wk,dr⟩=(Kb y rn,⟨K7 y rn,0,0,0⟩) by unfold doO;rw [if_neg (by rw [hd.out];simp)];rfl);have CS:=Bp (Vw y (⟨A1,n1,c1⟩,⟨A2,n2,c2⟩) rn w1 hl (HR.out _ B0));generalize Kb y rn=z at *
 generalize K7 y rn=c at *
 rotate_left
 ·have H:Hid (doO y ⟨8,rn,p,tk,ty,wk,dr⟩=(Nt y,⟨Acq y,0,0,0⟩)):=by
   show doO y ⟨8,rn,p,tk,ty,wk,dr⟩=_;unfold doO;rw [if_neg (by rw [hd.out];simp)];rfl
  have CS:=Bp (Ts y (⟨A1,n1,c1⟩,⟨A2,n2,c2⟩) w1 hl (HR.out _ B0));have CY:=Bp (fun W hW=>Gj y (⟨A1,n1,c1⟩,⟨A2,n2,c2⟩) W hl (HR.out W hW));generalize Nt y=z at *
  go_wp2_with fail
  refine CS.out.mono ?_;rintro e2 w2 ⟨s2,F,rfl,oy,nF,b2⟩;replace oy:Bu.ow w2 F z s2:=oy;have dH:∀ x∈F,w.heap.size+1+1+1+1<x:=fun x hx=>by have h1:=nF x hx;omega
  clear X_;clear D_;clear OB_;replace X:=X.below b2;replace D:=D.below b2;replace OB:=OB.below b2;replace RES:=RES.below b2;replace RP:=RP.below b2;have X_:=X.g4;have D_:=D.g11;have OB_:=OB.g4;have OBf:=OB.free;replace B0:=Bs B0 b2;clear nF b2;go_upto_region 7 with fail
  clear X_;clear D_;have X9:=X;clear D OBf;have cP:=Chg.cells4 w2 (w.heap.size+1+1+1+1) 0 1 2 3 (J U z.now) (J U z.seq) (Aa s2.1.a s2.1.n s2.1.c) (Aa s2.2.a s2.2.n s2.2.c);have fC:=Bp (show ∀ x,x∈[w.heap.size+1+1+1+1]->x=w.heap.size+1+1+1+1 from fun x hx=>by simpa using hx);clear OB_;replace OB:=DBox.row4 OB rfl (J U z.now) (J U z.seq) (Aa s2.1.a s2.1.n s2.1.c) (Aa s2.2.a s2.2.n s2.2.c);replace RES:=RES.chg cP (fun hx=>by have:=fC.out _ hx;omega);replace RP:=RP.chg cP (fun hx=>by have:=fC.out _ hx;omega);replace oy:Bu.ow _ F z s2:=owC oy cP (fun x hx h=>by have h1:=fC.out x h;have h2:=dH x hx;omega);replace B0:=B0.trans (cP.below (by have:=B0.size;omega) (fun x hx=>by have:=fC.out x hx;omega));have hCo9:=cP;clear cP;replace X:=X9.chg hCo9 (fun hx=>by have:=fC.out _ hx;omega);clear X9;generalize (((w2.setCell ⟨w.heap.size+1+1+1+1,0,Ab⟩ (J U z.now)).setCell ⟨w.heap.size+1+1+1+1,1,Ab⟩ (J U z.seq)).setCell ⟨w.heap.size+1+1+1+1,2,Ab⟩ (Aa s2.1.a s2.1.n s2.1.c)).setCell ⟨w.heap.size+1+1+1+1,3,Ab⟩ (Aa s2.2.a s2.2.n s2.2.c)=w3 at *
  have OB_:=OB.g4;have X_:=X.g4;go_wp2_with fail
  refine (CY.out _ B0).mono ?_;rintro e3 w4 ⟨rfl,b4⟩;clear X_;clear OB_;clear X;replace OB:=OB.below b4;replace RES:=RES.below b4;replace RP:=RP.below b4;replace oy:Bu.ow w4 F z s2:=owB oy b4;replace B0:=Bs B0 b4;clear b4;have OB_:=OB.g4;by_cases q:Dn y
  ·rw [D6 q];replace H:=Bp (H.out.trans (by rw [show Acq y=0 from if_pos q]));clear q;have RES_:=RES.g4;have RP_:=RP.g4;have rf:=RES.free;have pf:=RP.free;have aC:w.heap.size+1+1+1≠w.heap.size+1+1:=Bk;go_wp2;have RES2:=DBox.row4 RES rfl (J U z.now) (J U z.seq) (Aa s2.1.a s2.1.n s2.1.c) (Aa s2.2.a s2.2.n s2.2.c);have RP2:=DBox.row4 ((((RP.setOther (a:=⟨w.heap.size+1+1,0,Ab⟩) aC (J U z.now)).setOther (a:=⟨w.heap.size+1+1,1,Ab⟩) aC (J U z.seq)).setOther (a:=⟨w.heap.size+1+1,2,Ab⟩) aC (Aa s2.1.a s2.1.n s2.1.c)).setOther (a:=⟨w.heap.size+1+1,3,Ab⟩) aC (Aa s2.2.a s2.2.n s2.2.c)) rfl (J U 0) (J U 0) (J U 0) (J U 0);have RES3:=((((RES2.setOther (a:=⟨w.heap.size+1+1+1,0,Ab⟩) aC.symm (J U 0)).setOther (a:=⟨w.heap.size+1+1+1,1,Ab⟩) aC.symm (J U 0)).setOther (a:=⟨w.heap.size+1+1+1,2,Ab⟩) aC.symm (J U 0)).setOther (a:=⟨w.heap.size+1+1+1,3,Ab⟩) aC.symm (J U 0))
   have en1:w.heap.size+1+1∉F:=fun hx=>by have:=dH _ hx;omega
   have en2:w.heap.size+1+1+1∉F:=fun hx=>by have:=dH _ hx;omega
   refine Aj (Vy RES3 RP2) rfl ⟨s2,F,by rw [H.out],by rw [H.out];exact (by (repeat (refine Dt.ow_set Bu ?_ (by first | exact en1 | exact en2) _));exact (show Bu.ow _ F z s2 from oy)),fun x hx=>by have:=dH x hx;omega,?_⟩;repeat (first | (with_reducible exact B0) | refine Ad ?_ Bn _)
  ·rw [Ck q];replace H:=Bp (H.out.trans (by rw [show Acq y=8 from if_neg q]));clear q;have RES_:=RES.g4;have RP_:=RP.g4;have rf:=RES.free;have pf:=RP.free;have aC:w.heap.size+1+1+1≠w.heap.size+1+1:=Bk;go_wp2;have RES2:=DBox.row4 RES rfl (J U z.now) (J U z.seq) (Aa s2.1.a s2.1.n s2.1.c) (Aa s2.2.a s2.2.n s2.2.c);have RP2:=DBox.row4 ((((RP.setOther (a:=⟨w.heap.size+1+1,0,Ab⟩) aC (J U z.now)).setOther (a:=⟨w.heap.size+1+1,1,Ab⟩) aC (J U z.seq)).setOther (a:=⟨w.heap.size+1+1,2,Ab⟩) aC (Aa s2.1.a s2.1.n s2.1.c)).setOther (a:=⟨w.heap.size+1+1,3,Ab⟩) aC (Aa s2.2.a s2.2.n s2.2.c)) rfl (J U 8) (J U 0) (J U 0) (J U 0);have RES3:=((((RES2.setOther (a:=⟨w.heap.size+1+1+1,0,Ab⟩) aC.symm (J U 8)).setOther (a:=⟨w.heap.size+1+1+1,1,Ab⟩) aC.symm (J U 0)).setOther (a:=⟨w.heap.size+1+1+1,2,Ab⟩) aC.symm (J U 0)).setOther (a:=⟨w.heap.size+1+1+1,3,Ab⟩) aC.symm (J U 0))
   have en1:w.heap.size+1+1∉F:=fun hx=>by have:=dH _ hx;omega
   have en2:w.heap.size+1+1+1∉F:=fun hx=>by have:=dH _ hx;omega
   refine Aj (Vy RES3 RP2) rfl ⟨s2,F,by rw [H.out],by rw [H.out];exact (by (repeat (refine Dt.ow_set Bu ?_ (by first | exact en1 | exact en2) _));exact (show Bu.ow _ F z s2 from oy)),fun x hx=>by have:=dH x hx;omega,?_⟩;repeat (first | (with_reducible exact B0) | refine Ad ?_ Bn _)
 all_goals
  go_wp2_with fail
  refine CS.out.mono ?_;rintro e2 w2 ⟨s2,F,rfl,oy,nF,b2⟩;replace oy:Bu.ow w2 F z s2:=oy;have dH:∀ x∈F,w.heap.size+1+1+1+1<x:=fun x hx=>by have h1:=nF x hx;omega
  clear X_;clear D_;clear OB_;replace X:=X.below b2;replace D:=D.below b2;replace OB:=OB.below b2;replace RES:=RES.below b2;replace RP:=RP.below b2;have X_:=X.g4;have D_:=D.g11;have OB_:=OB.g4;have OBf:=OB.free;replace B0:=Bs B0 b2;clear nF b2;go_upto_region 23 with fail
  clear X_;clear D_;clear X D OBf;have cP:=Chg.cells4 w2 (w.heap.size+1+1+1+1) 0 1 2 3 (J U z.now) (J U z.seq) (Aa s2.1.a s2.1.n s2.1.c) (Aa s2.2.a s2.2.n s2.2.c);have fC:=Bp (show ∀ x,x∈[w.heap.size+1+1+1+1]->x=w.heap.size+1+1+1+1 from fun x hx=>by simpa using hx);clear OB_;replace OB:=DBox.row4 OB rfl (J U z.now) (J U z.seq) (Aa s2.1.a s2.1.n s2.1.c) (Aa s2.2.a s2.2.n s2.2.c);replace RES:=RES.chg cP (fun hx=>by have:=fC.out _ hx;omega);replace RP:=RP.chg cP (fun hx=>by have:=fC.out _ hx;omega);replace oy:Bu.ow _ F z s2:=owC oy cP (fun x hx h=>by have h1:=fC.out x h;have h2:=dH x hx;omega);replace B0:=B0.trans (cP.below (by have:=B0.size;omega) (fun x hx=>by have:=fC.out x hx;omega));clear cP;generalize (((w2.setCell ⟨w.heap.size+1+1+1+1,0,Ab⟩ (J U z.now)).setCell ⟨w.heap.size+1+1+1+1,1,Ab⟩ (J U z.seq)).setCell ⟨w.heap.size+1+1+1+1,2,Ab⟩ (Aa s2.1.a s2.1.n s2.1.c)).setCell ⟨w.heap.size+1+1+1+1,3,Ab⟩ (Aa s2.2.a s2.2.n s2.2.c)=w3 at *
  have OB_:=OB.g4;have RES_:=RES.g4;have RP_:=RP.g4;have rf:=RES.free;have pf:=RP.free;have aC:w.heap.size+1+1+1≠w.heap.size+1+1:=Bk;go_wp2;have RES2:=DBox.row4 RES rfl (J U z.now) (J U z.seq) (Aa s2.1.a s2.1.n s2.1.c) (Aa s2.2.a s2.2.n s2.2.c);have RP2:=DBox.row4 ((((RP.setOther (a:=⟨w.heap.size+1+1,0,Ab⟩) aC (J U z.now)).setOther (a:=⟨w.heap.size+1+1,1,Ab⟩) aC (J U z.seq)).setOther (a:=⟨w.heap.size+1+1,2,Ab⟩) aC (Aa s2.1.a s2.1.n s2.1.c)).setOther (a:=⟨w.heap.size+1+1,3,Ab⟩) aC (Aa s2.2.a s2.2.n s2.2.c)) rfl (J U c) (J U 0) (J U 0) (J U 0);have RES3:=((((RES2.setOther (a:=⟨w.heap.size+1+1+1,0,Ab⟩) aC.symm (J U c)).setOther (a:=⟨w.heap.size+1+1+1,1,Ab⟩) aC.symm (J U 0)).setOther (a:=⟨w.heap.size+1+1+1,2,Ab⟩) aC.symm (J U 0)).setOther (a:=⟨w.heap.size+1+1+1,3,Ab⟩) aC.symm (J U 0))
  have en1:w.heap.size+1+1∉F:=fun hx=>by have:=dH _ hx;omega
  have en2:w.heap.size+1+1+1∉F:=fun hx=>by have:=dH _ hx;omega
  refine Aj (Vy RES3 RP2) rfl ⟨s2,F,by rw [H.out],by rw [H.out];exact (by (repeat (refine Dt.ow_set Bu ?_ (by first | exact en1 | exact en2) _));exact (show Bu.ow _ F z s2 from oy)),fun x hx=>by have:=dH x hx;omega,?_⟩;repeat (first | (with_reducible exact B0) | refine Ad ?_ Bn _)
end
theorem Vz (z:Yard) (k:Nat) (r:Run):(Gr z k r).runs=z.runs.set k r:=by
 unfold Gr Qk;rw [(Nq _ _ _).2.1]
theorem Xi (z:Yard) (k j:Nat) (r:Run) (hk:k<z.runs.length):Gp (Gr z k r) j=if k=j then r else Gp z j:=by
 unfold Gp;rw [Vz];simp only [List.getD_eq_getElem?_getD,List.getElem?_set];by_cases h:k=j
 ·subst h;simp [hk]
 ·simp [h]
end Go.Proofs.YtonlnjdempbfoaaGreat
