/-
  slices.IndexFunc and slices.DeleteFunc at entries, with any closure over one variable. Written by program (df.py). DeedOk of the reference. Written by program (
-/
import Derived.Test.YtonlnjdempbfoaaGreatZSl0
import Derived.Test.YtonlnjdempbfoaaGreatZSl1
import Derived.Test.YtonlnjdempbfoaaGreatZSl3
import Derived.Test.YtonlnjdempbfoaaGreatZSl4
import Derived.Test.YtonlnjdempbfoaaGreatZSl6
import Derived.Deep.Cut
namespace Go.Proofs.YtonlnjdempbfoaaGreat
open Go.RowKit
set_option maxRecDepth 100000
set_option maxHeartbeats 4000000
set_option linter.unusedVariables false
set_option linter.unusedSimpArgs false
open Value renaming int->J,slice->Aa
open IntKind renaming i64->U
open Option renaming none->Ab,some->Ac
open Below renaming setCell->Ad,alloc->Ae
open Nat renaming zero_le->Ag,le_trans->Ah,lt_of_lt_of_le->Ai
open Go renaming bodyPost_ret->Aj,wpQuiet_nil->Ak,wpAnyH_done->Al
open Go.Proofs.Tryz renaming prog->Am
open IntWalk renaming i64_in->Aq
open List renaming length_map->Ar,getElem_mem->Aw,length_take->Az,length_append->Bd,take_of_length_le->Bg
theorem Rd.ent_ {w:World} {B:Nat} {A:Option Addr} {n c:Nat} {l:List Entry} (h:Rd Ct w B (Aa A n c) l) {k:Nat} (hk:k<l.length) :
  ∃ b o,A=Ac ⟨b,o,Ab⟩/\b<B/\w.cell? ⟨b,o+k * 4,Ab⟩=Ac (J U l[k].prio)/\w.cell? ⟨b,o+k * 4+1,Ab⟩=Ac (J U l[k].seq)/\w.cell? ⟨b,o+k * 4+2,Ab⟩=Ac (J U l[k].run)/\w.cell? ⟨b,o+k * 4+3,Ab⟩=Ac (J U l[k].task):=by
 obtain ⟨A',c',hv,_,hA⟩:=h;simp only [Value.slice.injEq] at hv;obtain ⟨rfl,_,_⟩:=hv;obtain ⟨b,o,rfl,hb,hc⟩:=hA Bl;exact ⟨b,o,rfl,hb,hc k hk 0 _ rfl,hc k hk 1 _ rfl,hc k hk 2 _ rfl,hc k hk 3 _ rfl⟩
theorem Mn {f:FuncId} {fn:Func} (hf:Am.funcs[f]? = Ac fn) (hname:(fn.name == "runtime.NumGoroutine")=false) (hb:fn.body.isNone=false):∀ (args:Array Value) (w:World),(callFunc f args).run Am w = .ok (.enter f args) w:=fun args w=>by
 have h1:fn.name ≠ "runtime.NumGoroutine" := by simpa using hname
 cases h:fn.body with
 | none=>rw [h] at hb;cases hb
 | some c=>simp [callFunc,hf,h1,h]
theorem Oz (FN p:Nat) (pred:Entry->Bool) (hF:∀ (args:Array Value) (w:World),(callFunc FN args).run Am w = .ok (.enter FN args) w) (l:List Entry) (A:Option Addr) (n c:Nat) (w:World) (hl:l.length<=2000000) (h:Rd Ct w w (Aa A n c) l)
  (hf:∀ (W:World) (x:Entry),Below w w W->Calls Am FN #[Hd x (),.pointer (Ac ⟨p,0,Ab⟩)] W fun e w'=>e = .returned (.bool (pred x))/\Below W W w') :
  Calls Am 192 #[Aa A n c,.func (.func FN) #[] #[.pointer (Ac ⟨p,0,Ab⟩)]] w fun e w'=>e = .returned (J U (Gs pred l))/\Below w w w':=by
 obtain rfl:n=l.length:=by obtain ⟨A',c',hv,_⟩:=id h;simp only [Value.slice.injEq] at hv;exact hv.2.1
 have HF:=Bq hf;clear hf;go_enter Tryz.func192,Tryz.ntmps192;go_wp2;go_loopw [8] (fun i wr=>∃ k:Nat,k<=l.length/\i = J U k/\Hid (∀ j (hj:j<k) (hj':j<l.length),pred l[j]=false)/\Below w w wr) (fun i _=>l.length - (intOf i).toNat);case atStart=>exact ⟨0,Ag _,rfl,fun j hj=>absurd hj Bl,Br _ _⟩
 case round =>
  obtain ⟨k,hk,rfl,dI,hb⟩:=hrel;by_cases aA:k<l.length
  ·obtain ⟨b,o,rfl,aH,c0,c1,c2,c3⟩:=(h.below hb).ent_ aA;have aB:(k:Int)<(l.length:Int):=Bl;have hs:=hb.size;have C:=HF.out wr l[k] hb;cases t1:pred l[k]
   ·have S:Hid (∀ j (hj:j<k+1) (hj':j<l.length),pred l[j]=false):=by
     intro j hj hj';by_cases e:j=k
     ·subst e;exact t1
     ·exact dI.out j Bl hj'
    rw [t1] at C;go_wp2_with fail
    refine C.mono ?_;rintro e w1 ⟨rfl,aN⟩;have hE:=Bt hb aN;go_wp2;first
     | exact ⟨⟨k+1,Bl,by go_num,S,hE⟩,by simp [intOf];omega⟩
     | (refine ⟨?_,by simp [intOf];omega⟩;(repeat apply Exists.intro);first | exact ⟨⟨k+1,Bl,by go_num,S,hE⟩,rfl⟩ | exact ⟨⟨k+1,Bl,by go_num,S,hE⟩,rfl,rfl⟩ | exact ⟨⟨k+1,Bl,by go_num,S,hE⟩,rfl,rfl,rfl⟩ | exact ⟨⟨k+1,Bl,by go_num,S,hE⟩,rfl,rfl,rfl,rfl⟩ | exact ⟨⟨k+1,Bl,by go_num,S,hE⟩,rfl,rfl,rfl,rfl,rfl⟩ | exact ⟨⟨k+1,Bl,by go_num,S,hE⟩,rfl,rfl,rfl,rfl,rfl,rfl⟩ | exact ⟨⟨k+1,Bl,by go_num,S,hE⟩,rfl,rfl,rfl,rfl,rfl,rfl,rfl⟩)
   ·have H:=Bq (I8 aA (fun j hj=>dI.out j hj Bl) t1);rw [t1] at C;go_wp2_with fail
    refine C.mono ?_;rintro e w1 ⟨rfl,aN⟩;have hE:=Bt hb aN;go_wp2;go_ret;exact ⟨Dc (by rw [H.out]),hE⟩
  ·have aB:¬ (k:Int)<(l.length:Int):=Bl;have H:=Bq (Jq (p:=pred) (l:=l) (fun j hj=>dI.out j Bl hj));go_wp2;go_ret;exact ⟨Dc (by rw [H.out]),hb⟩
theorem Rg (l:List Entry) (A:Option Addr) (n c:Nat) (F:List Nat) (FN p:Nat) (pred:Entry->Bool) (hF:∀ (args:Array Value) (w:World),(callFunc FN args).run Am w = .ok (.enter FN args) w) (w:World) (hl:l.length<=2000000)
  (hdel:∀ (W:World) (x:Entry),Chg F w W->Calls Am FN #[Hd x (),.pointer (Ac ⟨p,0,Ab⟩)] W fun e w'=>e = .returned (.bool (pred x))/\Below W W w')
  (hidx:Calls Am 192 #[.slice A n c,.func (.func FN) #[] #[.pointer (Ac ⟨p,0,Ab⟩)]] w fun e w'=>e = .returned (.int .i64 (Gs pred l))/\Below w w w')
  (h:Hw Ct w F (.slice A n c) l) :
  Calls Am 133 #[.slice A n c,.func (.func FN) #[] #[.pointer (Ac ⟨p,0,Ab⟩)]] w (Aee Ct A c F (l.filter fun x=>!pred x) w):=by
 obtain rfl:n=l.length:=by obtain ⟨A',c',hv,_⟩:=h.1;simp only [Value.slice.injEq] at hv;exact hv.2.1
 have HDel:=Bq hdel;clear hdel;rcases Lm pred l with hr | ⟨k,hk,hr⟩
 ·have HN:Hid (∀ j (hj:j<l.length),pred l[j]=false):=fun j hj=>by
   cases hp:pred l[j] with
   | false=>rfl
   | true=>exact absurd (Qi.2 ⟨_,Aw hj,hp⟩) Bl
  rw [hr] at hidx;clear hr;go_enter Tryz.func133,Tryz.ntmps133;go_wp2_with fail
  refine hidx.mono ?_;rintro e w1 ⟨rfl,b1⟩;go_wp2;go_ret;exact ⟨l.length,F,rfl,by rw [Adt HN.out];exact h.below b1,fun b hb=>hb,Chg.of_below F b1⟩
 have HK:=Bq (show Kept pred l l k (k+1) from by
  obtain ⟨h1,h2⟩:(∀ j (hj:j<l.length),j<k->pred l[j]=false)/\pred l[k]=true:=by
   unfold Gs at hr;cases hf:l.findIdx? pred with
   | none=>rw [hf] at hr;simp only at hr;omega
   | some i =>
    rw [hf] at hr;simp only at hr;obtain ⟨hi,hp,hb⟩:=List.findIdx?_eq_some_iff_getElem.1 hf;obtain rfl:i=k:=Bl;exact ⟨fun j hj fK=>by simpa using hb j fK,hp⟩
  exact Aa7 hk h1 h2)
 obtain ⟨b,o,rfl,rfl,hb,fU⟩:=h.at_ Bl;have HRd:=h.rd;clear h;rw [hr] at hidx;clear hr;have cG:((k:Int) == -1)=false:=beq_eq_false_iff_ne.2 Bl;go_enter Tryz.func133,Tryz.ntmps133;go_wp2_with fail
 refine hidx.mono ?_;rintro e w1 ⟨rfl,b1⟩;have HR1:=(HRd.below b1).more b1.size;have hf1:∀ j,w1.frozen? ⟨b,j,Ab⟩=false:=fun j=>(b1.frozen (p:=⟨b,j,Ab⟩) hb).trans (fU j);have C1:=Chg.of_below [b] b1;go_wp2;clear cG;go_loopw [5,6] (fun vi vj wr=>∃ (i j:Nat) (M:List Entry),i<j/\j<=l.length/\vi = .int .i64 i/\vj = .int .i64 j/\Hid (Kept pred l M i j)/\Rd Ct wr wr (.slice (Ac ⟨b,o,Ab⟩) l.length c) M/\Hid (∀ t,wr.frozen? ⟨b,t,Ab⟩=false)/\Chg [b] w wr) (fun _ vj _=>l.length - (intOf vj).toNat);case atStart=>exact ⟨k,k+1,l,Nat.lt_succ_self _,hk,rfl,by go_num,HK,HR1,hf1,C1⟩
 case round =>
  clear HR1 hf1 C1 HK b1 HRd fU hk;obtain ⟨i,j,M,qW,hj,rfl,rfl,hK,hR,hF,hC⟩:=hrel;have hML:=hK.out.len;have cC:b<wr:=Ai hb hC.size;by_cases aA:j<l.length
  ·have aB:(j:Int)<(l.length:Int):=Bl;have hiI:(i:Int)<(l.length:Int):=Bl;obtain ⟨b',o',hA,_,d0,d1,d2,d3⟩:=hR.ent_ (k:=j) Bl;simp only [Option.some.injEq,Addr.mk.injEq,and_true] at hA;obtain ⟨rfl,rfl⟩:=hA;have hMj:=hK.out.tail j aA Bl (Bs _);rw [hMj] at d0 d1 d2 d3;clear hMj;have ha:=(Br wr wr).alloc (Bs _) (.cells #[.int .i64 l[j].prio,.int .i64 l[j].seq,.int .i64 l[j].run,.int .i64 l[j].task] 93);have V:=DBox.new 93 [.int .i64 l[j].prio,.int .i64 l[j].seq,.int .i64 l[j].run,.int .i64 l[j].task] wr rfl;have C:=HDel.out _ l[j] (hC.trans (Chg.of_below [b] ha));have HMl:=Bq hML;clear hML;cases q:pred l[j]
   ·have S:=Bq (hK.out.keep aA qW q);rw [q] at C;go_wp2_with fail
    refine C.mono ?_;rintro e w3 ⟨rfl,b3⟩;replace V:=V.below b3;have qN:=Bt ha b3;have V_:=V.g4;have R3:=(hR.below qN).more qN.size;have F3:∀ t,w3.frozen? ⟨b,t,Ab⟩=false:=fun t=>(qN.frozen (p:=⟨b,t,Ab⟩) cC).trans (hF.out t);obtain ⟨b',o',hA,cA,f0,f1,f2,f3⟩:=R3.ent_ (k:=i) (by rw [HMl.out];omega);simp only [Option.some.injEq,Addr.mk.injEq,and_true] at hA;obtain ⟨rfl,rfl⟩:=hA;have R4:=Bq (R3.part i (by rw [HMl.out];omega) l[j] 0 (Ct.cells l[j]) (by rw [Ct.len];omega) (fun t ht=>by rw [Nat.zero_add];exact List.getElem?_eq_getElem ht) (fun t ht h=>by rw [Ct.len] at h;omega));go_wp2;have hw:G9 w3 b (o+i * Ct.sz+0) (Ct.cells l[j])=((((w3.setCell ⟨b,o+i * 4,Ab⟩ (.int .i64 l[j].prio)).setCell ⟨b,o+i * 4+1,Ab⟩ (.int .i64 l[j].seq)).setCell ⟨b,o+i * 4+2,Ab⟩ (.int .i64 l[j].run)).setCell ⟨b,o+i * 4+3,Ab⟩ (.int .i64 l[j].task)):=rfl;have R5:=R4.out;have C4:=Ie (Ct.cells l[j]) w3 b (o+i * Ct.sz+0);have Z4:=I9 (Ct.cells l[j]) w3 b (o+i * Ct.sz+0);have F4:∀ t,(G9 w3 b (o+i * Ct.sz+0) (Ct.cells l[j])).frozen? ⟨b,t,Ab⟩=false:=fun t=>by rw [Ih];exact F3 t
    rw [hw] at R5 C4 Z4 F4;have C5:=(hC.trans (Chg.of_below [b] qN)).trans C4;have R6:=R5.more (Nat.le_of_eq Z4.symm);first
     | exact ⟨⟨i+1,Bl,j+1,Bl,by go_num,by go_num,_,S,R6,F4,C5⟩,by simp [intOf];omega⟩
     | exact ⟨⟨i+1,j+1,_,Bl,Bl,by go_num,by go_num,S,R6,F4,C5⟩,by simp [intOf];omega⟩
     | (refine ⟨?_,by simp [intOf];omega⟩;(repeat apply Exists.intro);first | exact ⟨⟨i+1,j+1,_,Bl,Bl,by go_num,by go_num,S,R6,F4,C5⟩,rfl⟩ | exact ⟨⟨i+1,j+1,_,Bl,Bl,by go_num,by go_num,S,R6,F4,C5⟩,rfl,rfl⟩ | exact ⟨⟨i+1,j+1,_,Bl,Bl,by go_num,by go_num,S,R6,F4,C5⟩,rfl,rfl,rfl⟩ | exact ⟨⟨i+1,j+1,_,Bl,Bl,by go_num,by go_num,S,R6,F4,C5⟩,rfl,rfl,rfl,rfl⟩ | exact ⟨⟨i+1,j+1,_,Bl,Bl,by go_num,by go_num,S,R6,F4,C5⟩,rfl,rfl,rfl,rfl,rfl⟩ | exact ⟨⟨i+1,j+1,_,Bl,Bl,by go_num,by go_num,S,R6,F4,C5⟩,rfl,rfl,rfl,rfl,rfl,rfl⟩ | exact ⟨⟨i+1,j+1,_,Bl,Bl,by go_num,by go_num,S,R6,F4,C5⟩,rfl,rfl,rfl,rfl,rfl,rfl,rfl⟩)
   ·have S:=Bq (hK.out.drop aA q);rw [q] at C;go_wp2_with fail
    refine C.mono ?_;rintro e w3 ⟨rfl,b3⟩;have qN:=Bt ha b3;have R3:=(hR.below qN).more qN.size;have F3:Hid (∀ t,w3.frozen? ⟨b,t,Ab⟩=false):=fun t=>(qN.frozen (p:=⟨b,t,Ab⟩) cC).trans (hF.out t);have C5:=hC.trans (Chg.of_below [b] qN);go_wp2;first
     | exact ⟨⟨i,j+1,M,Bl,Bl,rfl,by go_num,S,R3,F3,C5⟩,by simp [intOf];omega⟩
     | (refine ⟨?_,by simp [intOf];omega⟩;(repeat apply Exists.intro);first | exact ⟨⟨i,j+1,M,Bl,Bl,rfl,by go_num,S,R3,F3,C5⟩,rfl⟩ | exact ⟨⟨i,j+1,M,Bl,Bl,rfl,by go_num,S,R3,F3,C5⟩,rfl,rfl⟩ | exact ⟨⟨i,j+1,M,Bl,Bl,rfl,by go_num,S,R3,F3,C5⟩,rfl,rfl,rfl⟩ | exact ⟨⟨i,j+1,M,Bl,Bl,rfl,by go_num,S,R3,F3,C5⟩,rfl,rfl,rfl,rfl⟩ | exact ⟨⟨i,j+1,M,Bl,Bl,rfl,by go_num,S,R3,F3,C5⟩,rfl,rfl,rfl,rfl,rfl⟩ | exact ⟨⟨i,j+1,M,Bl,Bl,rfl,by go_num,S,R3,F3,C5⟩,rfl,rfl,rfl,rfl,rfl,rfl⟩ | exact ⟨⟨i,j+1,M,Bl,Bl,rfl,by go_num,S,R3,F3,C5⟩,rfl,rfl,rfl,rfl,rfl,rfl,rfl⟩)
  ·have aB:¬ (j:Int)<(l.length:Int):=Bl;have HH:=Bq (show M.take i=l.filter fun x=>!pred x by rw [hK.out.head,Bg Bl]);have hcl:l.length<=c:=by have:=hR.cap;omega
   have kz:∀ w,(zeroValue 93).run Am w = .ok (.agg #[.int .i64 0,.int .i64 0,.int .i64 0,.int .i64 0]) w:=fun w=>by
    obtain ⟨i0,aL,aS,aP,aQ⟩:=info_parts Fc;simp [zeroValue,typeInfo,aL,aS]
   have kc:=M3 (P:=Am) wr 96 93 0 (.agg #[.int .i64 0,.int .i64 0,.int .i64 0,.int .i64 0]) Tryz.underlying96 kz b (o+i * 4) (l.length - i) (c - i) Bl (fun v hv=>by
     simp [Value.cells] at hv;try subst hv
     rfl) (fun q hq=>by
     have hq':q<(l.length - i) * 4:=hq
     have:=hR.some_ Bp (i * 4+q) (by
      show _<M.length * 4;rw [hML];have h3:l.length * 4=i * 4+(l.length - i) * 4:=by rw [<-Nat.add_mul];congr 1;omega
      omega)
     rw [Nat.add_assoc];exact this) hF.out
   go_wp2;clear kc;go_ret;have Rc:=hR.clear i Bl (Builtin.zeroCells #[.int .i64 0,.int .i64 0,.int .i64 0,.int .i64 0] (l.length - i)).toList;rw [HH.out] at Rc;have Cc:=hC.trans (Ie (Builtin.zeroCells #[.int .i64 0,.int .i64 0,.int .i64 0,.int .i64 0] (l.length - i)).toList wr b (o+i * 4));have Rw:=Hw.of_rd (Rc.more (Nat.le_of_eq (I9 _ _ _ _).symm)) (fun t=>by rw [Ih];exact hF.out t);refine ⟨i,_,rfl,Rw,fun x hx=>?_,Cc⟩
   have:=G4 _ _ _ hx
   have:b=x:=by simpa [Value.ownBlock] using this
   simp [this]
theorem Zd (d:Deed) (s:Sl) (w:World) (hk:d.kind=1) (h:Cg.rd w w d s) :
  Calls Am 141 #[Cy d s] w fun e w'=>e = .returned (.bool (Db d))/\Below w w w':=by
 have h2:Ca.rd w w d.plan s:=h;have HR:=Bq (show ∀ W,Below w w W->Ca.rd W W d.plan s from fun W hW=>Ca.rd_more (Ca.rd_below h2 hW) hW.size);clear h h2;obtain ⟨A,n,c⟩:=s;obtain ⟨kd,rn,p,tk,ty,wk,dr⟩:=d;obtain rfl:kd=1:=hk;have X:=DBox.new 45 [J U 1,J U rn,J U p.prio,J U p.most,J U p.wait,J U p.tasks,Aa A n c,J U tk,J U ty,J U wk,J U dr] w (b:=w.heap.size) rfl;have B0:Below w w (w.alloc (.cells #[J U 1,J U rn,J U p.prio,J U p.most,J U p.wait,J U p.tasks,Aa A n c,J U tk,J U ty,J U wk,J U dr] 45)):=by repeat (first | exact Br _ _ | refine Ae ?_ Bo _)
 have e0:inB 1 1 8=true:=rfl;have HD:=Bq (show Db ⟨1,rn,p,tk,ty,wk,dr⟩=(Eu rn && (tk == 0) && (ty == 0) && (wk == 0) && (dr == 0) && Ep p) by simp [Db,inB,Bool.and_assoc]);by_cases a0:inB rn 0 1000000000=false;rotate_left;replace a0:inB rn 0 1000000000=true:=by simpa using a0
 by_cases a1:(tk != 0)=true;rotate_left;replace a1:(tk != 0)=false:=by simpa using a1
 by_cases a2:(ty != 0)=true;rotate_left;replace a2:(ty != 0)=false:=by simpa using a2
 by_cases a3:(wk != 0)=true;rotate_left;replace a3:(wk != 0)=false:=by simpa using a3
 by_cases a4:(dr != 0)=true;rotate_left;replace a4:(dr != 0)=false:=by simpa using a4
 ·have H:=Bq (show Db ⟨1,rn,p,tk,ty,wk,dr⟩=Ep p by rw [HD.out];simp only [bne_eq_false_iff_eq] at a0 a1 a2 a3 a4;simp [Eu, *]);have C:=R7 p ⟨A,n,c⟩ _ (HR.out _ B0);go_enter Tryz.func141,Tryz.ntmps141;go_upto_region 6 with (first | (go_at_call 191;refine (Cp _ _).mono ?_;rintro e w9 ⟨rfl,rfl⟩;(try (with_reducible first | rw [e0] | rw [a0] | rw [a1] | rw [a2] | rw [a3] | rw [a4]));dsimp only) | (go_at_call 155;refine (Ce _ _ _ _).mono ?_;rintro e w9 ⟨rfl,rfl⟩;(try (with_reducible first | rw [e0] | rw [a0] | rw [a1] | rw [a2] | rw [a3] | rw [a4]));dsimp only) | (go_at_call 196;refine C.mono ?_;rintro e w1 ⟨rfl,b1⟩))
  dsimp only [List.append];go_wp2_with (first | (go_at_call 191;refine (Cp _ _).mono ?_;rintro e w9 ⟨rfl,rfl⟩;(try (with_reducible first | rw [e0] | rw [a0] | rw [a1] | rw [a2] | rw [a3] | rw [a4]));dsimp only) | (go_at_call 155;refine (Ce _ _ _ _).mono ?_;rintro e w9 ⟨rfl,rfl⟩;(try (with_reducible first | rw [e0] | rw [a0] | rw [a1] | rw [a2] | rw [a3] | rw [a4]));dsimp only) | (go_at_call 196;refine C.mono ?_;rintro e w1 ⟨rfl,b1⟩))
  go_ret;exact ⟨Bv H.out.symm,Bt B0 b1⟩
 all_goals
  have H:=Bq (show Db ⟨1,rn,p,tk,ty,wk,dr⟩=false by rw [HD.out];simp only [bne_eq_false_iff_eq,bne_iff_ne] at *;simp [Eu, *]);go_enter Tryz.func141,Tryz.ntmps141;go_upto_region 6 with (first | (go_at_call 191;refine (Cp _ _).mono ?_;rintro e w9 ⟨rfl,rfl⟩;(try (with_reducible first | rw [e0] | rw [a0] | rw [a1] | rw [a2] | rw [a3] | rw [a4]));dsimp only) | (go_at_call 155;refine (Ce _ _ _ _).mono ?_;rintro e w9 ⟨rfl,rfl⟩;(try (with_reducible first | rw [e0] | rw [a0] | rw [a1] | rw [a2] | rw [a3] | rw [a4]));dsimp only))
  dsimp only [List.append];go_wp2_with (first | (go_at_call 191;refine (Cp _ _).mono ?_;rintro e w9 ⟨rfl,rfl⟩;(try (with_reducible first | rw [e0] | rw [a0] | rw [a1] | rw [a2] | rw [a3] | rw [a4]));dsimp only) | (go_at_call 155;refine (Ce _ _ _ _).mono ?_;rintro e w9 ⟨rfl,rfl⟩;(try (with_reducible first | rw [e0] | rw [a0] | rw [a1] | rw [a2] | rw [a3] | rw [a4]));dsimp only))
  go_ret;exact ⟨Bv H.out.symm,B0⟩
theorem Ze (d:Deed) (s:Sl) (w:World) (hk:d.kind=2) (h:Cg.rd w w d s) :
  Calls Am 141 #[Cy d s] w fun e w'=>e = .returned (.bool (Db d))/\Below w w w':=by
 have h2:Ca.rd w w d.plan s:=h;have HR:=Bq (show ∀ W,Below w w W->Ca.rd W W d.plan s from fun W hW=>Ca.rd_more (Ca.rd_below h2 hW) hW.size);clear h h2;obtain ⟨A,n,c⟩:=s;obtain ⟨kd,rn,p,tk,ty,wk,dr⟩:=d;obtain rfl:kd=2:=hk;have X:=DBox.new 45 [J U 2,J U rn,J U p.prio,J U p.most,J U p.wait,J U p.tasks,Aa A n c,J U tk,J U ty,J U wk,J U dr] w (b:=w.heap.size) rfl;have B0:Below w w (w.alloc (.cells #[J U 2,J U rn,J U p.prio,J U p.most,J U p.wait,J U p.tasks,Aa A n c,J U tk,J U ty,J U wk,J U dr] 45)):=by repeat (first | exact Br _ _ | refine Ae ?_ Bo _)
 have e0:inB 2 1 8=true:=rfl;have HD:=Bq (show Db ⟨2,rn,p,tk,ty,wk,dr⟩=((rn == 0) && (tk == 0) && (ty == 0) && Eu wk && Eu dr && Ev p) by simp [Db,inB,Bool.and_assoc]);by_cases a0:(rn != 0)=true;rotate_left;replace a0:(rn != 0)=false:=by simpa using a0
 by_cases a1:(tk != 0)=true;rotate_left;replace a1:(tk != 0)=false:=by simpa using a1
 by_cases a2:(ty != 0)=true;rotate_left;replace a2:(ty != 0)=false:=by simpa using a2
 by_cases a3:inB wk 0 1000000000=false;rotate_left;replace a3:inB wk 0 1000000000=true:=by simpa using a3
 by_cases a4:inB dr 0 1000000000=false;rotate_left;replace a4:inB dr 0 1000000000=true:=by simpa using a4
 ·have H:=Bq (show Db ⟨2,rn,p,tk,ty,wk,dr⟩=Ev p by rw [HD.out];simp only [bne_eq_false_iff_eq] at a0 a1 a2 a3 a4;simp [Eu, *]);have C:=Gq p ⟨A,n,c⟩ _ (HR.out _ B0);go_enter Tryz.func141,Tryz.ntmps141;go_upto_region 6 with (first | (go_at_call 191;refine (Cp _ _).mono ?_;rintro e w9 ⟨rfl,rfl⟩;(try (with_reducible first | rw [e0] | rw [a0] | rw [a1] | rw [a2] | rw [a3] | rw [a4]));dsimp only) | (go_at_call 155;refine (Ce _ _ _ _).mono ?_;rintro e w9 ⟨rfl,rfl⟩;(try (with_reducible first | rw [e0] | rw [a0] | rw [a1] | rw [a2] | rw [a3] | rw [a4]));dsimp only) | (go_at_call 197;refine C.mono ?_;rintro e w1 ⟨rfl,b1⟩))
  dsimp only [List.append];go_wp2_with (first | (go_at_call 191;refine (Cp _ _).mono ?_;rintro e w9 ⟨rfl,rfl⟩;(try (with_reducible first | rw [e0] | rw [a0] | rw [a1] | rw [a2] | rw [a3] | rw [a4]));dsimp only) | (go_at_call 155;refine (Ce _ _ _ _).mono ?_;rintro e w9 ⟨rfl,rfl⟩;(try (with_reducible first | rw [e0] | rw [a0] | rw [a1] | rw [a2] | rw [a3] | rw [a4]));dsimp only) | (go_at_call 197;refine C.mono ?_;rintro e w1 ⟨rfl,b1⟩))
  go_ret;exact ⟨Bv H.out.symm,Bt B0 b1⟩
 all_goals
  have H:=Bq (show Db ⟨2,rn,p,tk,ty,wk,dr⟩=false by rw [HD.out];simp only [bne_eq_false_iff_eq,bne_iff_ne] at *;simp [Eu, *]);go_enter Tryz.func141,Tryz.ntmps141;go_upto_region 6 with (first | (go_at_call 191;refine (Cp _ _).mono ?_;rintro e w9 ⟨rfl,rfl⟩;(try (with_reducible first | rw [e0] | rw [a0] | rw [a1] | rw [a2] | rw [a3] | rw [a4]));dsimp only) | (go_at_call 155;refine (Ce _ _ _ _).mono ?_;rintro e w9 ⟨rfl,rfl⟩;(try (with_reducible first | rw [e0] | rw [a0] | rw [a1] | rw [a2] | rw [a3] | rw [a4]));dsimp only))
  dsimp only [List.append];go_wp2_with (first | (go_at_call 191;refine (Cp _ _).mono ?_;rintro e w9 ⟨rfl,rfl⟩;(try (with_reducible first | rw [e0] | rw [a0] | rw [a1] | rw [a2] | rw [a3] | rw [a4]));dsimp only) | (go_at_call 155;refine (Ce _ _ _ _).mono ?_;rintro e w9 ⟨rfl,rfl⟩;(try (with_reducible first | rw [e0] | rw [a0] | rw [a1] | rw [a2] | rw [a3] | rw [a4]));dsimp only))
  go_ret;exact ⟨Bv H.out.symm,B0⟩
theorem Zf (d:Deed) (s:Sl) (w:World) (hk:d.kind=3) (h:Cg.rd w w d s) :
  Calls Am 141 #[Cy d s] w fun e w'=>e = .returned (.bool (Db d))/\Below w w w':=by
 have h2:Ca.rd w w d.plan s:=h;have HR:=Bq (show ∀ W,Below w w W->Ca.rd W W d.plan s from fun W hW=>Ca.rd_more (Ca.rd_below h2 hW) hW.size);clear h h2;obtain ⟨A,n,c⟩:=s;obtain ⟨kd,rn,p,tk,ty,wk,dr⟩:=d;obtain rfl:kd=3:=hk;have X:=DBox.new 45 [J U 3,J U rn,J U p.prio,J U p.most,J U p.wait,J U p.tasks,Aa A n c,J U tk,J U ty,J U wk,J U dr] w (b:=w.heap.size) rfl;have B0:Below w w (w.alloc (.cells #[J U 3,J U rn,J U p.prio,J U p.most,J U p.wait,J U p.tasks,Aa A n c,J U tk,J U ty,J U wk,J U dr] 45)):=by repeat (first | exact Br _ _ | refine Ae ?_ Bo _)
 have e0:inB 3 1 8=true:=rfl;have HD:=Bq (show Db ⟨3,rn,p,tk,ty,wk,dr⟩=(Eu rn && Eu tk && Eu ty && (wk == 0) && (dr == 0) && Ev p) by simp [Db,inB,Bool.and_assoc]);by_cases a0:inB rn 0 1000000000=false;rotate_left;replace a0:inB rn 0 1000000000=true:=by simpa using a0
 by_cases a1:inB tk 0 1000000000=false;rotate_left;replace a1:inB tk 0 1000000000=true:=by simpa using a1
 by_cases a2:inB ty 0 1000000000=false;rotate_left;replace a2:inB ty 0 1000000000=true:=by simpa using a2
 by_cases a3:(wk != 0)=true;rotate_left;replace a3:(wk != 0)=false:=by simpa using a3
 by_cases a4:(dr != 0)=true;rotate_left;replace a4:(dr != 0)=false:=by simpa using a4
 ·have H:=Bq (show Db ⟨3,rn,p,tk,ty,wk,dr⟩=Ev p by rw [HD.out];simp only [bne_eq_false_iff_eq] at a0 a1 a2 a3 a4;simp [Eu, *]);have C:=Gq p ⟨A,n,c⟩ _ (HR.out _ B0);go_enter Tryz.func141,Tryz.ntmps141;go_upto_region 6 with (first | (go_at_call 191;refine (Cp _ _).mono ?_;rintro e w9 ⟨rfl,rfl⟩;(try (with_reducible first | rw [e0] | rw [a0] | rw [a1] | rw [a2] | rw [a3] | rw [a4]));dsimp only) | (go_at_call 155;refine (Ce _ _ _ _).mono ?_;rintro e w9 ⟨rfl,rfl⟩;(try (with_reducible first | rw [e0] | rw [a0] | rw [a1] | rw [a2] | rw [a3] | rw [a4]));dsimp only) | (go_at_call 197;refine C.mono ?_;rintro e w1 ⟨rfl,b1⟩))
  dsimp only [List.append];go_wp2_with (first | (go_at_call 191;refine (Cp _ _).mono ?_;rintro e w9 ⟨rfl,rfl⟩;(try (with_reducible first | rw [e0] | rw [a0] | rw [a1] | rw [a2] | rw [a3] | rw [a4]));dsimp only) | (go_at_call 155;refine (Ce _ _ _ _).mono ?_;rintro e w9 ⟨rfl,rfl⟩;(try (with_reducible first | rw [e0] | rw [a0] | rw [a1] | rw [a2] | rw [a3] | rw [a4]));dsimp only) | (go_at_call 197;refine C.mono ?_;rintro e w1 ⟨rfl,b1⟩))
  go_ret;exact ⟨Bv H.out.symm,Bt B0 b1⟩
 all_goals
  have H:=Bq (show Db ⟨3,rn,p,tk,ty,wk,dr⟩=false by rw [HD.out];simp only [bne_eq_false_iff_eq,bne_iff_ne] at *;simp [Eu, *]);go_enter Tryz.func141,Tryz.ntmps141;go_upto_region 6 with (first | (go_at_call 191;refine (Cp _ _).mono ?_;rintro e w9 ⟨rfl,rfl⟩;(try (with_reducible first | rw [e0] | rw [a0] | rw [a1] | rw [a2] | rw [a3] | rw [a4]));dsimp only) | (go_at_call 155;refine (Ce _ _ _ _).mono ?_;rintro e w9 ⟨rfl,rfl⟩;(try (with_reducible first | rw [e0] | rw [a0] | rw [a1] | rw [a2] | rw [a3] | rw [a4]));dsimp only))
  dsimp only [List.append];go_wp2_with (first | (go_at_call 191;refine (Cp _ _).mono ?_;rintro e w9 ⟨rfl,rfl⟩;(try (with_reducible first | rw [e0] | rw [a0] | rw [a1] | rw [a2] | rw [a3] | rw [a4]));dsimp only) | (go_at_call 155;refine (Ce _ _ _ _).mono ?_;rintro e w9 ⟨rfl,rfl⟩;(try (with_reducible first | rw [e0] | rw [a0] | rw [a1] | rw [a2] | rw [a3] | rw [a4]));dsimp only))
  go_ret;exact ⟨Bv H.out.symm,B0⟩
theorem Zg (d:Deed) (s:Sl) (w:World) (hk:d.kind=4) (h:Cg.rd w w d s) :
  Calls Am 141 #[Cy d s] w fun e w'=>e = .returned (.bool (Db d))/\Below w w w':=by
 have h2:Ca.rd w w d.plan s:=h;have HR:=Bq (show ∀ W,Below w w W->Ca.rd W W d.plan s from fun W hW=>Ca.rd_more (Ca.rd_below h2 hW) hW.size);clear h h2;obtain ⟨A,n,c⟩:=s;obtain ⟨kd,rn,p,tk,ty,wk,dr⟩:=d;obtain rfl:kd=4:=hk;have X:=DBox.new 45 [J U 4,J U rn,J U p.prio,J U p.most,J U p.wait,J U p.tasks,Aa A n c,J U tk,J U ty,J U wk,J U dr] w (b:=w.heap.size) rfl;have B0:Below w w (w.alloc (.cells #[J U 4,J U rn,J U p.prio,J U p.most,J U p.wait,J U p.tasks,Aa A n c,J U tk,J U ty,J U wk,J U dr] 45)):=by repeat (first | exact Br _ _ | refine Ae ?_ Bo _)
 have e0:inB 4 1 8=true:=rfl;have HD:=Bq (show Db ⟨4,rn,p,tk,ty,wk,dr⟩=(Eu rn && Eu tk && Eu ty && (wk == 0) && (dr == 0) && Ev p) by simp [Db,inB,Bool.and_assoc]);by_cases a0:inB rn 0 1000000000=false;rotate_left;replace a0:inB rn 0 1000000000=true:=by simpa using a0
 by_cases a1:inB tk 0 1000000000=false;rotate_left;replace a1:inB tk 0 1000000000=true:=by simpa using a1
 by_cases a2:inB ty 0 1000000000=false;rotate_left;replace a2:inB ty 0 1000000000=true:=by simpa using a2
 by_cases a3:(wk != 0)=true;rotate_left;replace a3:(wk != 0)=false:=by simpa using a3
 by_cases a4:(dr != 0)=true;rotate_left;replace a4:(dr != 0)=false:=by simpa using a4
 ·have H:=Bq (show Db ⟨4,rn,p,tk,ty,wk,dr⟩=Ev p by rw [HD.out];simp only [bne_eq_false_iff_eq] at a0 a1 a2 a3 a4;simp [Eu, *]);have C:=Gq p ⟨A,n,c⟩ _ (HR.out _ B0);go_enter Tryz.func141,Tryz.ntmps141;go_upto_region 6 with (first | (go_at_call 191;refine (Cp _ _).mono ?_;rintro e w9 ⟨rfl,rfl⟩;(try (with_reducible first | rw [e0] | rw [a0] | rw [a1] | rw [a2] | rw [a3] | rw [a4]));dsimp only) | (go_at_call 155;refine (Ce _ _ _ _).mono ?_;rintro e w9 ⟨rfl,rfl⟩;(try (with_reducible first | rw [e0] | rw [a0] | rw [a1] | rw [a2] | rw [a3] | rw [a4]));dsimp only) | (go_at_call 197;refine C.mono ?_;rintro e w1 ⟨rfl,b1⟩))
  dsimp only [List.append];go_wp2_with (first | (go_at_call 191;refine (Cp _ _).mono ?_;rintro e w9 ⟨rfl,rfl⟩;(try (with_reducible first | rw [e0] | rw [a0] | rw [a1] | rw [a2] | rw [a3] | rw [a4]));dsimp only) | (go_at_call 155;refine (Ce _ _ _ _).mono ?_;rintro e w9 ⟨rfl,rfl⟩;(try (with_reducible first | rw [e0] | rw [a0] | rw [a1] | rw [a2] | rw [a3] | rw [a4]));dsimp only) | (go_at_call 197;refine C.mono ?_;rintro e w1 ⟨rfl,b1⟩))
  go_ret;exact ⟨Bv H.out.symm,Bt B0 b1⟩
 all_goals
  have H:=Bq (show Db ⟨4,rn,p,tk,ty,wk,dr⟩=false by rw [HD.out];simp only [bne_eq_false_iff_eq,bne_iff_ne] at *;simp [Eu, *]);go_enter Tryz.func141,Tryz.ntmps141;go_upto_region 6 with (first | (go_at_call 191;refine (Cp _ _).mono ?_;rintro e w9 ⟨rfl,rfl⟩;(try (with_reducible first | rw [e0] | rw [a0] | rw [a1] | rw [a2] | rw [a3] | rw [a4]));dsimp only) | (go_at_call 155;refine (Ce _ _ _ _).mono ?_;rintro e w9 ⟨rfl,rfl⟩;(try (with_reducible first | rw [e0] | rw [a0] | rw [a1] | rw [a2] | rw [a3] | rw [a4]));dsimp only))
  dsimp only [List.append];go_wp2_with (first | (go_at_call 191;refine (Cp _ _).mono ?_;rintro e w9 ⟨rfl,rfl⟩;(try (with_reducible first | rw [e0] | rw [a0] | rw [a1] | rw [a2] | rw [a3] | rw [a4]));dsimp only) | (go_at_call 155;refine (Ce _ _ _ _).mono ?_;rintro e w9 ⟨rfl,rfl⟩;(try (with_reducible first | rw [e0] | rw [a0] | rw [a1] | rw [a2] | rw [a3] | rw [a4]));dsimp only))
  go_ret;exact ⟨Bv H.out.symm,B0⟩
theorem Zh (d:Deed) (s:Sl) (w:World) (hk:d.kind=5) (h:Cg.rd w w d s) :
  Calls Am 141 #[Cy d s] w fun e w'=>e = .returned (.bool (Db d))/\Below w w w':=by
 have h2:Ca.rd w w d.plan s:=h;have HR:=Bq (show ∀ W,Below w w W->Ca.rd W W d.plan s from fun W hW=>Ca.rd_more (Ca.rd_below h2 hW) hW.size);clear h h2;obtain ⟨A,n,c⟩:=s;obtain ⟨kd,rn,p,tk,ty,wk,dr⟩:=d;obtain rfl:kd=5:=hk;have X:=DBox.new 45 [J U 5,J U rn,J U p.prio,J U p.most,J U p.wait,J U p.tasks,Aa A n c,J U tk,J U ty,J U wk,J U dr] w (b:=w.heap.size) rfl;have B0:Below w w (w.alloc (.cells #[J U 5,J U rn,J U p.prio,J U p.most,J U p.wait,J U p.tasks,Aa A n c,J U tk,J U ty,J U wk,J U dr] 45)):=by repeat (first | exact Br _ _ | refine Ae ?_ Bo _)
 have e0:inB 5 1 8=true:=rfl;have HD:=Bq (show Db ⟨5,rn,p,tk,ty,wk,dr⟩=((rn == 0) && (tk == 0) && (ty == 0) && (wk == 0) && (dr == 0) && Ev p) by simp [Db,inB,Bool.and_assoc]);by_cases a0:(rn != 0)=true;rotate_left;replace a0:(rn != 0)=false:=by simpa using a0
 by_cases a1:(tk != 0)=true;rotate_left;replace a1:(tk != 0)=false:=by simpa using a1
 by_cases a2:(ty != 0)=true;rotate_left;replace a2:(ty != 0)=false:=by simpa using a2
 by_cases a3:(wk != 0)=true;rotate_left;replace a3:(wk != 0)=false:=by simpa using a3
 by_cases a4:(dr != 0)=true;rotate_left;replace a4:(dr != 0)=false:=by simpa using a4
 ·have H:=Bq (show Db ⟨5,rn,p,tk,ty,wk,dr⟩=Ev p by rw [HD.out];simp only [bne_eq_false_iff_eq] at a0 a1 a2 a3 a4;simp [Eu, *]);have C:=Gq p ⟨A,n,c⟩ _ (HR.out _ B0);go_enter Tryz.func141,Tryz.ntmps141;go_upto_region 6 with (first | (go_at_call 191;refine (Cp _ _).mono ?_;rintro e w9 ⟨rfl,rfl⟩;(try (with_reducible first | rw [e0] | rw [a0] | rw [a1] | rw [a2] | rw [a3] | rw [a4]));dsimp only) | (go_at_call 155;refine (Ce _ _ _ _).mono ?_;rintro e w9 ⟨rfl,rfl⟩;(try (with_reducible first | rw [e0] | rw [a0] | rw [a1] | rw [a2] | rw [a3] | rw [a4]));dsimp only) | (go_at_call 197;refine C.mono ?_;rintro e w1 ⟨rfl,b1⟩))
  dsimp only [List.append];go_wp2_with (first | (go_at_call 191;refine (Cp _ _).mono ?_;rintro e w9 ⟨rfl,rfl⟩;(try (with_reducible first | rw [e0] | rw [a0] | rw [a1] | rw [a2] | rw [a3] | rw [a4]));dsimp only) | (go_at_call 155;refine (Ce _ _ _ _).mono ?_;rintro e w9 ⟨rfl,rfl⟩;(try (with_reducible first | rw [e0] | rw [a0] | rw [a1] | rw [a2] | rw [a3] | rw [a4]));dsimp only) | (go_at_call 197;refine C.mono ?_;rintro e w1 ⟨rfl,b1⟩))
  go_ret;exact ⟨Bv H.out.symm,Bt B0 b1⟩
 all_goals
  have H:=Bq (show Db ⟨5,rn,p,tk,ty,wk,dr⟩=false by rw [HD.out];simp only [bne_eq_false_iff_eq,bne_iff_ne] at *;simp [Eu, *]);go_enter Tryz.func141,Tryz.ntmps141;go_upto_region 6 with (first | (go_at_call 191;refine (Cp _ _).mono ?_;rintro e w9 ⟨rfl,rfl⟩;(try (with_reducible first | rw [e0] | rw [a0] | rw [a1] | rw [a2] | rw [a3] | rw [a4]));dsimp only) | (go_at_call 155;refine (Ce _ _ _ _).mono ?_;rintro e w9 ⟨rfl,rfl⟩;(try (with_reducible first | rw [e0] | rw [a0] | rw [a1] | rw [a2] | rw [a3] | rw [a4]));dsimp only))
  dsimp only [List.append];go_wp2_with (first | (go_at_call 191;refine (Cp _ _).mono ?_;rintro e w9 ⟨rfl,rfl⟩;(try (with_reducible first | rw [e0] | rw [a0] | rw [a1] | rw [a2] | rw [a3] | rw [a4]));dsimp only) | (go_at_call 155;refine (Ce _ _ _ _).mono ?_;rintro e w9 ⟨rfl,rfl⟩;(try (with_reducible first | rw [e0] | rw [a0] | rw [a1] | rw [a2] | rw [a3] | rw [a4]));dsimp only))
  go_ret;exact ⟨Bv H.out.symm,B0⟩
theorem Zi (d:Deed) (s:Sl) (w:World) (hk:d.kind=8) (h:Cg.rd w w d s) :
  Calls Am 141 #[Cy d s] w fun e w'=>e = .returned (.bool (Db d))/\Below w w w':=by
 have h2:Ca.rd w w d.plan s:=h;have HR:=Bq (show ∀ W,Below w w W->Ca.rd W W d.plan s from fun W hW=>Ca.rd_more (Ca.rd_below h2 hW) hW.size);clear h h2;obtain ⟨A,n,c⟩:=s;obtain ⟨kd,rn,p,tk,ty,wk,dr⟩:=d;obtain rfl:kd=8:=hk;have X:=DBox.new 45 [J U 8,J U rn,J U p.prio,J U p.most,J U p.wait,J U p.tasks,Aa A n c,J U tk,J U ty,J U wk,J U dr] w (b:=w.heap.size) rfl;have B0:Below w w (w.alloc (.cells #[J U 8,J U rn,J U p.prio,J U p.most,J U p.wait,J U p.tasks,Aa A n c,J U tk,J U ty,J U wk,J U dr] 45)):=by repeat (first | exact Br _ _ | refine Ae ?_ Bo _)
 have e0:inB 8 1 8=true:=rfl;have HD:=Bq (show Db ⟨8,rn,p,tk,ty,wk,dr⟩=((rn == 0) && (tk == 0) && (ty == 0) && (wk == 0) && (dr == 0) && Ev p) by simp [Db,inB,Bool.and_assoc]);by_cases a0:(rn != 0)=true;rotate_left;replace a0:(rn != 0)=false:=by simpa using a0
 by_cases a1:(tk != 0)=true;rotate_left;replace a1:(tk != 0)=false:=by simpa using a1
 by_cases a2:(ty != 0)=true;rotate_left;replace a2:(ty != 0)=false:=by simpa using a2
 by_cases a3:(wk != 0)=true;rotate_left;replace a3:(wk != 0)=false:=by simpa using a3
 by_cases a4:(dr != 0)=true;rotate_left;replace a4:(dr != 0)=false:=by simpa using a4
 ·have H:=Bq (show Db ⟨8,rn,p,tk,ty,wk,dr⟩=Ev p by rw [HD.out];simp only [bne_eq_false_iff_eq] at a0 a1 a2 a3 a4;simp [Eu, *]);have C:=Gq p ⟨A,n,c⟩ _ (HR.out _ B0);go_enter Tryz.func141,Tryz.ntmps141;go_upto_region 6 with (first | (go_at_call 191;refine (Cp _ _).mono ?_;rintro e w9 ⟨rfl,rfl⟩;(try (with_reducible first | rw [e0] | rw [a0] | rw [a1] | rw [a2] | rw [a3] | rw [a4]));dsimp only) | (go_at_call 155;refine (Ce _ _ _ _).mono ?_;rintro e w9 ⟨rfl,rfl⟩;(try (with_reducible first | rw [e0] | rw [a0] | rw [a1] | rw [a2] | rw [a3] | rw [a4]));dsimp only) | (go_at_call 197;refine C.mono ?_;rintro e w1 ⟨rfl,b1⟩))
  dsimp only [List.append];go_wp2_with (first | (go_at_call 191;refine (Cp _ _).mono ?_;rintro e w9 ⟨rfl,rfl⟩;(try (with_reducible first | rw [e0] | rw [a0] | rw [a1] | rw [a2] | rw [a3] | rw [a4]));dsimp only) | (go_at_call 155;refine (Ce _ _ _ _).mono ?_;rintro e w9 ⟨rfl,rfl⟩;(try (with_reducible first | rw [e0] | rw [a0] | rw [a1] | rw [a2] | rw [a3] | rw [a4]));dsimp only) | (go_at_call 197;refine C.mono ?_;rintro e w1 ⟨rfl,b1⟩))
  go_ret;exact ⟨Bv H.out.symm,Bt B0 b1⟩
 all_goals
  have H:=Bq (show Db ⟨8,rn,p,tk,ty,wk,dr⟩=false by rw [HD.out];simp only [bne_eq_false_iff_eq,bne_iff_ne] at *;simp [Eu, *]);go_enter Tryz.func141,Tryz.ntmps141;go_upto_region 6 with (first | (go_at_call 191;refine (Cp _ _).mono ?_;rintro e w9 ⟨rfl,rfl⟩;(try (with_reducible first | rw [e0] | rw [a0] | rw [a1] | rw [a2] | rw [a3] | rw [a4]));dsimp only) | (go_at_call 155;refine (Ce _ _ _ _).mono ?_;rintro e w9 ⟨rfl,rfl⟩;(try (with_reducible first | rw [e0] | rw [a0] | rw [a1] | rw [a2] | rw [a3] | rw [a4]));dsimp only))
  dsimp only [List.append];go_wp2_with (first | (go_at_call 191;refine (Cp _ _).mono ?_;rintro e w9 ⟨rfl,rfl⟩;(try (with_reducible first | rw [e0] | rw [a0] | rw [a1] | rw [a2] | rw [a3] | rw [a4]));dsimp only) | (go_at_call 155;refine (Ce _ _ _ _).mono ?_;rintro e w9 ⟨rfl,rfl⟩;(try (with_reducible first | rw [e0] | rw [a0] | rw [a1] | rw [a2] | rw [a3] | rw [a4]));dsimp only))
  go_ret;exact ⟨Bv H.out.symm,B0⟩
theorem Zj (d:Deed) (s:Sl) (w:World) (hk:d.kind=6) (h:Cg.rd w w d s) :
  Calls Am 141 #[Cy d s] w fun e w'=>e = .returned (.bool (Db d))/\Below w w w':=by
 have h2:Ca.rd w w d.plan s:=h;have HR:=Bq (show ∀ W,Below w w W->Ca.rd W W d.plan s from fun W hW=>Ca.rd_more (Ca.rd_below h2 hW) hW.size);clear h h2;obtain ⟨A,n,c⟩:=s;obtain ⟨kd,rn,p,tk,ty,wk,dr⟩:=d;obtain rfl:kd=6:=hk;have X:=DBox.new 45 [J U 6,J U rn,J U p.prio,J U p.most,J U p.wait,J U p.tasks,Aa A n c,J U tk,J U ty,J U wk,J U dr] w (b:=w.heap.size) rfl;have B0:Below w w (w.alloc (.cells #[J U 6,J U rn,J U p.prio,J U p.most,J U p.wait,J U p.tasks,Aa A n c,J U tk,J U ty,J U wk,J U dr] 45)):=by repeat (first | exact Br _ _ | refine Ae ?_ Bo _)
 have e0:inB 6 1 8=true:=rfl;have HD:=Bq (show Db ⟨6,rn,p,tk,ty,wk,dr⟩=(Eu rn && (tk == 0) && (ty == 0) && (wk == 0) && (dr == 0) && Ev p) by simp [Db,inB,Bool.and_assoc]);by_cases a0:inB rn 0 1000000000=false;rotate_left;replace a0:inB rn 0 1000000000=true:=by simpa using a0
 by_cases a1:(tk != 0)=true;rotate_left;replace a1:(tk != 0)=false:=by simpa using a1
 by_cases a2:(ty != 0)=true;rotate_left;replace a2:(ty != 0)=false:=by simpa using a2
 by_cases a3:(wk != 0)=true;rotate_left;replace a3:(wk != 0)=false:=by simpa using a3
 by_cases a4:(dr != 0)=true;rotate_left;replace a4:(dr != 0)=false:=by simpa using a4
 ·have H:=Bq (show Db ⟨6,rn,p,tk,ty,wk,dr⟩=Ev p by rw [HD.out];simp only [bne_eq_false_iff_eq] at a0 a1 a2 a3 a4;simp [Eu, *]);have C:=Gq p ⟨A,n,c⟩ _ (HR.out _ B0);go_enter Tryz.func141,Tryz.ntmps141;go_upto_region 6 with (first | (go_at_call 191;refine (Cp _ _).mono ?_;rintro e w9 ⟨rfl,rfl⟩;(try (with_reducible first | rw [e0] | rw [a0] | rw [a1] | rw [a2] | rw [a3] | rw [a4]));dsimp only) | (go_at_call 155;refine (Ce _ _ _ _).mono ?_;rintro e w9 ⟨rfl,rfl⟩;(try (with_reducible first | rw [e0] | rw [a0] | rw [a1] | rw [a2] | rw [a3] | rw [a4]));dsimp only) | (go_at_call 197;refine C.mono ?_;rintro e w1 ⟨rfl,b1⟩))
  dsimp only [List.append];go_wp2_with (first | (go_at_call 191;refine (Cp _ _).mono ?_;rintro e w9 ⟨rfl,rfl⟩;(try (with_reducible first | rw [e0] | rw [a0] | rw [a1] | rw [a2] | rw [a3] | rw [a4]));dsimp only) | (go_at_call 155;refine (Ce _ _ _ _).mono ?_;rintro e w9 ⟨rfl,rfl⟩;(try (with_reducible first | rw [e0] | rw [a0] | rw [a1] | rw [a2] | rw [a3] | rw [a4]));dsimp only) | (go_at_call 197;refine C.mono ?_;rintro e w1 ⟨rfl,b1⟩))
  go_ret;exact ⟨Bv H.out.symm,Bt B0 b1⟩
 all_goals
  have H:=Bq (show Db ⟨6,rn,p,tk,ty,wk,dr⟩=false by rw [HD.out];simp only [bne_eq_false_iff_eq,bne_iff_ne] at *;simp [Eu, *]);go_enter Tryz.func141,Tryz.ntmps141;go_upto_region 6 with (first | (go_at_call 191;refine (Cp _ _).mono ?_;rintro e w9 ⟨rfl,rfl⟩;(try (with_reducible first | rw [e0] | rw [a0] | rw [a1] | rw [a2] | rw [a3] | rw [a4]));dsimp only) | (go_at_call 155;refine (Ce _ _ _ _).mono ?_;rintro e w9 ⟨rfl,rfl⟩;(try (with_reducible first | rw [e0] | rw [a0] | rw [a1] | rw [a2] | rw [a3] | rw [a4]));dsimp only))
  dsimp only [List.append];go_wp2_with (first | (go_at_call 191;refine (Cp _ _).mono ?_;rintro e w9 ⟨rfl,rfl⟩;(try (with_reducible first | rw [e0] | rw [a0] | rw [a1] | rw [a2] | rw [a3] | rw [a4]));dsimp only) | (go_at_call 155;refine (Ce _ _ _ _).mono ?_;rintro e w9 ⟨rfl,rfl⟩;(try (with_reducible first | rw [e0] | rw [a0] | rw [a1] | rw [a2] | rw [a3] | rw [a4]));dsimp only))
  go_ret;exact ⟨Bv H.out.symm,B0⟩
theorem Zl (d:Deed) (s:Sl) (w:World) (hk:d.kind=7) (h:Cg.rd w w d s) :
  Calls Am 141 #[Cy d s] w fun e w'=>e = .returned (.bool (Db d))/\Below w w w':=by
 have h2:Ca.rd w w d.plan s:=h;have HR:=Bq (show ∀ W,Below w w W->Ca.rd W W d.plan s from fun W hW=>Ca.rd_more (Ca.rd_below h2 hW) hW.size);clear h h2;obtain ⟨A,n,c⟩:=s;obtain ⟨kd,rn,p,tk,ty,wk,dr⟩:=d;obtain rfl:kd=7:=hk;have X:=DBox.new 45 [J U 7,J U rn,J U p.prio,J U p.most,J U p.wait,J U p.tasks,Aa A n c,J U tk,J U ty,J U wk,J U dr] w (b:=w.heap.size) rfl;have B0:Below w w (w.alloc (.cells #[J U 7,J U rn,J U p.prio,J U p.most,J U p.wait,J U p.tasks,Aa A n c,J U tk,J U ty,J U wk,J U dr] 45)):=by repeat (first | exact Br _ _ | refine Ae ?_ Bo _)
 have e0:inB 7 1 8=true:=rfl;have HD:=Bq (show Db ⟨7,rn,p,tk,ty,wk,dr⟩=(Eu rn && (tk == 0) && (ty == 0) && (wk == 0) && (dr == 0) && Ev p) by simp [Db,inB,Bool.and_assoc]);by_cases a0:inB rn 0 1000000000=false;rotate_left;replace a0:inB rn 0 1000000000=true:=by simpa using a0
 by_cases a1:(tk != 0)=true;rotate_left;replace a1:(tk != 0)=false:=by simpa using a1
 by_cases a2:(ty != 0)=true;rotate_left;replace a2:(ty != 0)=false:=by simpa using a2
 by_cases a3:(wk != 0)=true;rotate_left;replace a3:(wk != 0)=false:=by simpa using a3
 by_cases a4:(dr != 0)=true;rotate_left;replace a4:(dr != 0)=false:=by simpa using a4
 ·have H:=Bq (show Db ⟨7,rn,p,tk,ty,wk,dr⟩=Ev p by rw [HD.out];simp only [bne_eq_false_iff_eq] at a0 a1 a2 a3 a4;simp [Eu, *]);have C:=Gq p ⟨A,n,c⟩ _ (HR.out _ B0);go_enter Tryz.func141,Tryz.ntmps141;go_upto_region 6 with (first | (go_at_call 191;refine (Cp _ _).mono ?_;rintro e w9 ⟨rfl,rfl⟩;(try (with_reducible first | rw [e0] | rw [a0] | rw [a1] | rw [a2] | rw [a3] | rw [a4]));dsimp only) | (go_at_call 155;refine (Ce _ _ _ _).mono ?_;rintro e w9 ⟨rfl,rfl⟩;(try (with_reducible first | rw [e0] | rw [a0] | rw [a1] | rw [a2] | rw [a3] | rw [a4]));dsimp only) | (go_at_call 197;refine C.mono ?_;rintro e w1 ⟨rfl,b1⟩))
  dsimp only [List.append];go_wp2_with (first | (go_at_call 191;refine (Cp _ _).mono ?_;rintro e w9 ⟨rfl,rfl⟩;(try (with_reducible first | rw [e0] | rw [a0] | rw [a1] | rw [a2] | rw [a3] | rw [a4]));dsimp only) | (go_at_call 155;refine (Ce _ _ _ _).mono ?_;rintro e w9 ⟨rfl,rfl⟩;(try (with_reducible first | rw [e0] | rw [a0] | rw [a1] | rw [a2] | rw [a3] | rw [a4]));dsimp only) | (go_at_call 197;refine C.mono ?_;rintro e w1 ⟨rfl,b1⟩))
  go_ret;exact ⟨Bv H.out.symm,Bt B0 b1⟩
 all_goals
  have H:=Bq (show Db ⟨7,rn,p,tk,ty,wk,dr⟩=false by rw [HD.out];simp only [bne_eq_false_iff_eq,bne_iff_ne] at *;simp [Eu, *]);go_enter Tryz.func141,Tryz.ntmps141;go_upto_region 6 with (first | (go_at_call 191;refine (Cp _ _).mono ?_;rintro e w9 ⟨rfl,rfl⟩;(try (with_reducible first | rw [e0] | rw [a0] | rw [a1] | rw [a2] | rw [a3] | rw [a4]));dsimp only) | (go_at_call 155;refine (Ce _ _ _ _).mono ?_;rintro e w9 ⟨rfl,rfl⟩;(try (with_reducible first | rw [e0] | rw [a0] | rw [a1] | rw [a2] | rw [a3] | rw [a4]));dsimp only))
  dsimp only [List.append];go_wp2_with (first | (go_at_call 191;refine (Cp _ _).mono ?_;rintro e w9 ⟨rfl,rfl⟩;(try (with_reducible first | rw [e0] | rw [a0] | rw [a1] | rw [a2] | rw [a3] | rw [a4]));dsimp only) | (go_at_call 155;refine (Ce _ _ _ _).mono ?_;rintro e w9 ⟨rfl,rfl⟩;(try (with_reducible first | rw [e0] | rw [a0] | rw [a1] | rw [a2] | rw [a3] | rw [a4]));dsimp only))
  go_ret;exact ⟨Bv H.out.symm,B0⟩
def Jj (y:Yard):Prop:=y.shelf.length=4/\(∀ l∈y.shelf,Hf l)/\(∀ e∈Cd y,1<=e.seq/\e.seq<=y.seq - 1)/\((Cd y).map (·.seq)).Nodup
theorem Aa9 {y:Yard} (h3:y.shelf.length=4) (h4:∀ k (hk:k<y.shelf.length),Hf y.shelf[k]) (h5:Ml y.seq (Cd y) (Cd y).length):Jj y:=by
 refine ⟨h3,fun l hl=>?_,fun e he=>?_,Re (fun j hj=>(h5 j hj hj).2)⟩
 ·obtain ⟨k,hk,rfl⟩:=List.getElem_of_mem hl;exact h4 k hk
 ·obtain ⟨k,hk,rfl⟩:=List.getElem_of_mem he;exact (h5 k hk hk).1
theorem W6 {y:Yard} (h:Jj y) {k:Nat} (hk:k<=(Cd y).length):Ml y.seq (Cd y) k:=fun j hj _ =>
 ⟨h.2.2.1 _ (Aw hj),Rf h.2.2.2 (fun e he=>(h.2.2.1 e he).1) hj⟩
def W7 (l:List Entry) (k m:Nat):Prop:=∀ j (hj:j<l.length) (hk:k<l.length),j<m->l[j].seq≠l[k].seq
theorem Zm {l:List Entry} {k:Nat} (hk:k<l.length) (h:W7 l k k) (hp:∀ j (hj:j<l.length),j<=k->1<=l[j].seq):l[k].seq.toNat∉Il l k:=by
 intro hm;unfold Il at hm;obtain ⟨x,hx,he⟩:=List.mem_map.1 hm;obtain ⟨j,hj,rfl⟩:=List.getElem_of_mem hx;rw [Az] at hj;rw [List.getElem_take] at he;have h1:=hp j Bl Bl;have h2:=hp k hk (Bs _);exact h j Bl hk Bl Bl
theorem R8 (y:Yard) (s:Sl×Sl) (w:World) (hl:Cb y<=2000000) (hq:1<=y.seq/\y.seq<=1000000000) (h:Bu.rd w w y s) :
  Calls Am 215 #[Dg y s] w fun e w'=>e = .returned (.bool (tf (Jj y)))/\Below w w w':=by
 have HR:=Bq (show ∀ W,Below w w W->Bu.rd W W y s from fun W hW=>Bu.rd_more (Bu.rd_below h hW) hW.size);obtain ⟨⟨A1,n1,c1⟩,⟨A2,n2,c2⟩⟩:=s;obtain rfl:n1=y.shelf.length:=RdL.at1 (s:=⟨A1,n1,c1⟩) h.1;have h1:RdL (Dt.list Bx) w w (Aa A1 y.shelf.length c1) y.shelf:=h.1;have hls:y.shelf.length<=2000000:=Ah (Ck C8 _) (by unfold Cb at hl;omega);have HE:=Bq (show ∀ k (hk:k<y.shelf.length),y.shelf[k].length<=2000000 from fun k hk=>by
  have:=Ds (cnt:=C8) (Aw hk)
  have h2:y.shelf[k].length<=C8 y.shelf[k]:=Ck Jh _;unfold Cb at hl;omega)
 have HEn:=Bq (show (Cd y).length<=2000000 by
  have:=Hi y.shelf y.shelf.length
  rw [List.take_length] at this;unfold Cb at hl;unfold Cd;omega)
 clear h;have X:=DBox.new 31 [J U y.now,J U y.seq,Aa A1 y.shelf.length c1,Aa A2 n2 c2] w (b:=w.heap.size) rfl;have B0:Below w w (w.alloc (.cells #[J U y.now,J U y.seq,Aa A1 y.shelf.length c1,Aa A2 n2 c2] 31)):=by repeat (first | exact Br _ _ | refine Ae ?_ Bo _)
 by_cases a3:y.shelf.length=4;case neg =>
  have a3':((y.shelf.length:Int) != 4)=true:=by simp;omega
  have H:=Bq (Cf (show ¬ Jj y from fun h=>a3 h.1));clear a3;go_enter Tryz.func215,Tryz.ntmps215;go_wp2;go_ret;exact ⟨Bv H.out.symm,B0⟩
 have a3':((y.shelf.length:Int) != 4)=false:=by simp [a3]
 have A3_:=Bq a3;clear a3;go_enter Tryz.func215,Tryz.ntmps215;go_wp2;generalize (w.alloc (.cells #[J U y.now,J U y.seq,Aa A1 y.shelf.length c1,Aa A2 n2 c2] 31))=W at *
 clear a3';go_loopw [3] (fun i wr=>∃ k:Nat,k<=y.shelf.length/\i = J U k/\Hid (∀ j (hj:j<y.shelf.length),j<k->Hf y.shelf[j])/\Below W W wr) (fun i _=>y.shelf.length - (intOf i).toNat);case atStart=>exact ⟨0,Ag _,rfl,fun j _ h0=>absurd h0 Bl,Br _ _⟩
 case round =>
  obtain ⟨k,hk,rfl,bE,hb⟩:=hrel;replace X:=X.below hb;replace B0:=Bt B0 hb;obtain ⟨X_0,X_1,X_2,X_3,X_l⟩:=X.g4;by_cases aA:k<y.shelf.length
  ·have aB:(k:Int)<(y.shelf.length:Int):=Bl;obtain ⟨b,o,⟨As,ns,cs⟩,mT,aH,hr,d0⟩:=(h1.below B0).entryS aA;obtain rfl:ns=y.shelf[k].length:=RdL.at1 (s:=⟨As,ns,cs⟩) hr;subst mT;have C:=Ry y.shelf[k] ⟨As,y.shelf[k].length,cs⟩ wr (HE.out k aA) (hr.more B0.size);by_cases q:Hf y.shelf[k]
   ·have S:Hid (∀ j (hj:j<y.shelf.length),j<k+1->Hf y.shelf[j]):=fun j hj fK=>by
     by_cases e:j=k
     ·subst e;exact q
     ·exact bE.out j hj Bl
    rw [Dj q] at C;clear q;go_wp2_with fail
    refine C.mono ?_;rintro e w2 ⟨rfl,b2⟩;go_wp2;first
     | exact ⟨⟨k+1,Bl,by go_num,S,Bt hb b2⟩,by simp [intOf];omega⟩
     | (refine ⟨?_,by simp [intOf];omega⟩;(repeat apply Exists.intro);first | exact ⟨⟨k+1,Bl,by go_num,S,Bt hb b2⟩,rfl⟩ | exact ⟨⟨k+1,Bl,by go_num,S,Bt hb b2⟩,rfl,rfl⟩ | exact ⟨⟨k+1,Bl,by go_num,S,Bt hb b2⟩,rfl,rfl,rfl⟩ | exact ⟨⟨k+1,Bl,by go_num,S,Bt hb b2⟩,rfl,rfl,rfl,rfl⟩ | exact ⟨⟨k+1,Bl,by go_num,S,Bt hb b2⟩,rfl,rfl,rfl,rfl,rfl⟩ | exact ⟨⟨k+1,Bl,by go_num,S,Bt hb b2⟩,rfl,rfl,rfl,rfl,rfl,rfl⟩ | exact ⟨⟨k+1,Bl,by go_num,S,Bt hb b2⟩,rfl,rfl,rfl,rfl,rfl,rfl,rfl⟩)
   ·have H:=Bq (Cf (show ¬ Jj y from fun h=>q (h.2.1 _ (Aw aA))));rw [Cf q] at C;clear q;go_wp2_with fail
    refine C.mono ?_;rintro e w2 ⟨rfl,b2⟩;go_wp2;go_ret;exact ⟨Bv H.out.symm,Bt B0 b2⟩
  ·have aB:¬ (k:Int)<(y.shelf.length:Int):=Bl;have HS:Hid (∀ k (hk:k<y.shelf.length),Hf y.shelf[k]):=fun j hj=>bE.out j hj Bl;have C:=Mz y (⟨A1,y.shelf.length,c1⟩,⟨A2,n2,c2⟩) wr hl (HR.out _ B0);go_wp2_with fail
   refine C.mono ?_;rintro e w2 ⟨v,rfl,o2,b2⟩;replace X:=X.below b2;replace B0:=Bt B0 b2;clear X_0 X_1 X_2 X_3 X_l bE aA aB hb;have O2:=Rd.of_own o2;clear o2;obtain ⟨A3,c3,rfl,-⟩:=id O2;have qG:=HEn.out;go_wp2;go_loopw [5] (fun i wr=>∃ k:Nat,k<=(Cd y).length/\i = J U k/\Hid (Ml y.seq (Cd y) k)/\Below w2 w2 wr) (fun i _=>(Cd y).length - (intOf i).toNat);case atStart=>exact ⟨0,Ag _,rfl,fun j _ h0=>absurd h0 Bl,Br _ _⟩
   case round =>
    obtain ⟨k,hk,rfl,bE,hb⟩:=hrel;have X1:=X.below hb;obtain ⟨X1_0,X1_1,X1_2,X1_3,X1_l⟩:=X1.g4;by_cases aA:k<(Cd y).length
    ·have aB:(k:Int)<((Cd y).length:Int):=Bl;obtain ⟨b,o,_,kG,aH,_,d0,d1,d2,d3⟩:=RdL.entry (Kq (O2.below hb)) aA;subst kG;have bL:b<wr:=Ai aH hb.size;have w1':U.wrap (y.seq - 1)=y.seq - 1:=Aq _ Bl;have aR:=C7 wr;have B1:=Bt B0 hb;cases q1:inB (Cd y)[k].seq 1 (y.seq - 1)
     ·have H:=Bq (Cf (show ¬ Jj y from fun h=>by
       have:=Cv.2 (h.2.2.1 _ (Aw aA))
       rw [q1] at this;cases this))
      go_wp2;refine Bw Bm Bm ?_;repeat (go_big_quiet_step ((go_at_call 155;exact Dk (fun u=>Ce _ _ _ u.1))))
      refine Ak ?_;rintro _ ⟨⟨w3,b3⟩,rfl⟩;clear aR;go_wp2;go_ret;exact ⟨Bv H.out.symm,Bt B1 b3⟩
     have HQ:=Bq (Cv.1 q1);go_wp2;refine Bw Bm Bm ?_;repeat (go_big_quiet_step ((go_at_call 155;exact Dk (fun u=>Ce _ _ _ u.1))))
     refine Ak ?_;rintro _ ⟨⟨w3,b3⟩,rfl⟩;clear aR;go_wp2;clear d0 d1 d2 d3 bL X1_0 X1_1 X1_2 X1_3 X1_l X1 q1 w1';go_loopw [6] (fun i wq=>∃ m:Nat,m<=k/\i = J U m/\Hid (W7 (Cd y) k m)/\Below wr wr wq) (fun i _=>k - (intOf i).toNat);case atStart=>exact ⟨0,Ag _,rfl,fun j _ _ h0=>absurd h0 Bl,b3⟩
     case round =>
      obtain ⟨m,hm,rfl,dI,bR⟩:=hrel;by_cases mN:m<k
      ·have pM:(m:Int)<(k:Int):=Bl;obtain ⟨b',o',_,bT,bI,_,d0,d1,d2,d3⟩:=RdL.entry (Kq (O2.below (Bt hb bR))) aA;simp only [Option.some.injEq,Addr.mk.injEq,and_true] at bT;obtain ⟨rfl,rfl⟩:=bT;obtain ⟨b',o',_,bT,_,_,f0,f1,f2,f3⟩:=RdL.entry (Kq (O2.below (Bt hb bR))) (show m<(Cd y).length by omega);simp only [Option.some.injEq,Addr.mk.injEq,and_true] at bT;obtain ⟨rfl,rfl⟩:=bT;have hmJ:(m:Int)<((Cd y).length:Int):=Bl;have eL:=bR.size;by_cases q2:(Cd y)[m].seq=(Cd y)[k].seq
       ·have H:=Bq (Cf (show ¬ Jj y from fun h=>by
         have h3:=List.pairwise_iff_getElem.1 h.2.2.2 m k (by rw [Ar];omega) (by rw [Ar];omega) Bl;rw [List.getElem_map,List.getElem_map] at h3;exact h3 q2))
        have q2':((Cd y)[m].seq == (Cd y)[k].seq)=true:=beq_iff_eq.2 q2;clear q2;go_wp2;go_quiet (fail);go_wp2;go_ret;exact ⟨Bv H.out.symm,Cj (Bt B1 bR) _⟩
       ·have S:Hid (W7 (Cd y) k (m+1)):=fun j hj bJ hjm=>by
         by_cases e:j=m
         ·subst e;exact q2
         ·exact dI.out j hj bJ Bl
        have q2':((Cd y)[m].seq == (Cd y)[k].seq)=false:=beq_eq_false_iff_ne.2 q2;clear q2;go_wp2;go_quiet (fail);go_wp2;first
         | exact ⟨⟨m+1,Bl,by go_num,S,Cj bR _⟩,by simp [intOf];omega⟩
         | (refine ⟨?_,by simp [intOf];omega⟩;(repeat apply Exists.intro);first | exact ⟨⟨m+1,Bl,by go_num,S,Cj bR _⟩,rfl⟩ | exact ⟨⟨m+1,Bl,by go_num,S,Cj bR _⟩,rfl,rfl⟩ | exact ⟨⟨m+1,Bl,by go_num,S,Cj bR _⟩,rfl,rfl,rfl⟩ | exact ⟨⟨m+1,Bl,by go_num,S,Cj bR _⟩,rfl,rfl,rfl,rfl⟩ | exact ⟨⟨m+1,Bl,by go_num,S,Cj bR _⟩,rfl,rfl,rfl,rfl,rfl⟩ | exact ⟨⟨m+1,Bl,by go_num,S,Cj bR _⟩,rfl,rfl,rfl,rfl,rfl,rfl⟩ | exact ⟨⟨m+1,Bl,by go_num,S,Cj bR _⟩,rfl,rfl,rfl,rfl,rfl,rfl,rfl⟩)
      ·have pM:¬ (m:Int)<(k:Int):=Bl;have S:Hid (Ml y.seq (Cd y) (k+1)):=V5 bE.out aA (Cv.2 HQ.out) (Zm aA (fun j hj bJ hjm=>dI.out j hj bJ Bl) (fun j hj fK=>by
        by_cases e:j=k
        ·subst e;exact HQ.out.1
        ·exact (bE.out j hj Bl).1.1))
       go_wp2;first
        | exact ⟨⟨k+1,Bl,by go_num,S,Bt hb bR⟩,by simp [intOf];omega⟩
        | (refine ⟨?_,by simp [intOf];omega⟩;(repeat apply Exists.intro);first | exact ⟨⟨k+1,Bl,by go_num,S,Bt hb bR⟩,rfl⟩ | exact ⟨⟨k+1,Bl,by go_num,S,Bt hb bR⟩,rfl,rfl⟩ | exact ⟨⟨k+1,Bl,by go_num,S,Bt hb bR⟩,rfl,rfl,rfl⟩ | exact ⟨⟨k+1,Bl,by go_num,S,Bt hb bR⟩,rfl,rfl,rfl,rfl⟩ | exact ⟨⟨k+1,Bl,by go_num,S,Bt hb bR⟩,rfl,rfl,rfl,rfl,rfl⟩ | exact ⟨⟨k+1,Bl,by go_num,S,Bt hb bR⟩,rfl,rfl,rfl,rfl,rfl,rfl⟩ | exact ⟨⟨k+1,Bl,by go_num,S,Bt hb bR⟩,rfl,rfl,rfl,rfl,rfl,rfl,rfl⟩)
    ·have aB:¬ (k:Int)<((Cd y).length:Int):=Bl;have H:=Bq (Dj (Aa9 A3_.out HS.out (fun j hj hj2=>bE.out j hj Bl)));go_wp2;go_ret;exact ⟨Bv H.out.symm,Bt B0 hb⟩
theorem Abz {l:List UInt8} (h:l.length≠0):l.isEmpty=false:=by cases l with
 | nil=>exact absurd rfl h
 | cons a l=>rfl
theorem Aey (n:Int) (h:0<=n):n.tmod 4=n % 4:=Int.tmod_eq_emod_of_nonneg h
theorem Aet (n:Int) (h:0<=n):U.wrap (n % 4)=n % 4:=Aq _ (by have:=Int.emod_nonneg n (show (4:Int)≠0 by decide);have:=Int.emod_lt_of_pos n (show (0:Int)<4 by decide);omega)
theorem R9 (id:Int) (w:World) :
  Calls Am 238 #[J U id] w fun e w'=>e = .returned (J U (Cu id))/\Below w w w':=by
 have rI:=Q8 id;have aN:=Yx (D6 id);have C:=Bq (Rv id w);by_cases h0:(D6 id).length=0
 ·have H:=Bq (show (Cu id:Int)=0 by unfold Cu;rw [if_pos h0];rfl);have hE:D6 id=[]:=List.eq_nil_of_length_eq_zero h0;rw [hE] at C;clear aN h0;go_enter Tryz.func238,Tryz.ntmps238;go_wp2_with (go_at_call 253;refine C.out.mono ?_;rintro e w1 ⟨rfl,b1⟩)
  go_ret;exact ⟨by rw [H.out];rfl,b1⟩
 ·have H:=Bq (show (Cu id:Int)=Kj (D6 id) % 4 by
   unfold Cu;rw [if_neg h0];exact Int.toNat_of_nonneg (Int.emod_nonneg _ Bp))
  have hem:=Abz h0;have CS:=Bq (fun W=>Ve (D6 id) W Bl);have r4:=Aey _ aN.1;have w4:=Aet _ aN.1;generalize Kj (D6 id)=sm at *
  generalize D6 id=L at *
  go_enter Tryz.func238,Tryz.ntmps238;go_wp2_with (first | (go_at_call 253;refine C.out.mono ?_;rintro e w1 ⟨rfl,b1⟩) | (go_at_call 254;refine (CS.out _).mono ?_;rintro e w2 ⟨rfl,b2⟩))
  go_ret;exact ⟨by rw [H.out];rfl,Bt b1 b2⟩
theorem Rd.fromL {α:Type} {e:Enc α} {w:World} {B:Nat} {b o n c:Nat} {l:List α} (h:Rd e w B (Aa (Ac ⟨b,o,Ab⟩) n c) l) (k:Nat) (hk:k<=l.length):Rd e w B (Aa (Ac ⟨b,o+k * e.sz,Ab⟩) (l.length - k) (c - k)) (l.drop k):=by
 obtain ⟨A',c0,hv,hc,hA⟩:=h;simp only [Value.slice.injEq] at hv;obtain ⟨rfl,rfl,rfl⟩:=hv;refine ⟨_,c - k,by rw [List.length_drop],by rw [List.length_drop];omega,fun hl=>?_⟩;rw [List.length_drop] at hl;obtain ⟨b',o',hb,aA,aX⟩:=hA Bl;simp only [Option.some.injEq,Addr.mk.injEq,and_true] at hb;obtain ⟨rfl,rfl⟩:=hb;refine ⟨b,o+k * e.sz,rfl,aA,fun i hi j u hu=>?_⟩;rw [List.length_drop] at hi;rw [List.getElem_drop] at hu
 have:=aX (k+i) Bl j u hu
 rw [show o+k * e.sz+i * e.sz+j=o+(k+i) * e.sz+j from by rw [Nat.add_mul,<-Nat.add_assoc]];exact this
theorem Rd.fromNone {α:Type} {e:Enc α} {w:World} {B:Nat} {A:Option Addr} {n c:Nat} {l:List α} (k:Nat) (hk:l.length<=k) (hn:n=0):Rd e w B (Aa A n c) (l.drop k):=by
 subst hn;rw [List.drop_eq_nil_of_le hk];exact ⟨_,c,rfl,Ag _,fun h=>absurd h Bn⟩
theorem J1 (l:List Entry) (s:Sl) (e:Entry) (w:World) (hl:l.length<=2000000) (h:RdL Bx w w s.v l) :
  Calls Am 239 #[.slice s.a s.n s.c,Hd e ()] w (Di (Dt.list Bx) slV (Iw l e) w):=by
 obtain ⟨A,n,c⟩:=s;obtain rfl:n=l.length:=RdL.at1 (s:=⟨A,n,c⟩) h;obtain ⟨i0,aL,aS,aP,aQ⟩:=info_parts Fc;have h0:=Bq (fun W (hW:Below w w W)=>((I5 h).below hW).more hW.size);have X:=DBox.new 93 [.int .i64 e.prio,.int .i64 e.seq,.int .i64 e.run,.int .i64 e.task] w (b:=w.heap.size) rfl;have B0:Below w w (w.alloc (.cells #[.int .i64 e.prio,.int .i64 e.seq,.int .i64 e.run,.int .i64 e.task] 93)):=by repeat (first | exact Br _ _ | refine Ae ?_ Bo _)
 go_enter Tryz.func239,Tryz.ntmps239;go_wp2;generalize Hd e ()=ev;go_loopw [5] (fun i wr=>∃ k:Nat,k<=l.length/\i = .int .i64 k/\Hid (∀ j (hj:j<l.length),j<k->Er l[j] e=true)/\DBox w [.int .i64 e.prio,.int .i64 e.seq,.int .i64 e.run,.int .i64 e.task] wr/\Below w w wr) (fun i _=>l.length - (intOf i).toNat);case atStart=>exact ⟨0,Ag _,rfl,fun j hj h0=>absurd h0 Bl,X,B0⟩
 case round =>
  clear X B0;obtain ⟨k,hk,rfl,bE,X,hb⟩:=hrel;have X_:=X.g4;have aR:=C7 wr;by_cases aA:k<l.length
  ·have aB:(k:Int)<(l.length:Int):=Bl;have dB:(0:Int)<=(k:Int):=Bl;obtain ⟨b,o,_,rfl,aH,_,c0,c1,c2,c3⟩:=(h.below hb).entry aA;have hs:b<wr:=Ai aH hb.size;cases t2:Er l[k] e;case true =>
    have S:=Bq (show ∀ j (hj:j<l.length),j<k+1->Er l[j] e=true from fun j hj fK=>by
     by_cases hjk2:j=k
     ·subst hjk2;exact t2
     ·exact bE.out j hj Bl)
    go_wp2;refine Bw Bm Bm ?_;repeat (go_big_quiet_step ((go_at_call 255;rename_i x;have h1:=Ka l[k] e x.1;exact Ey h1)))
    refine Ak ?_;rintro _ ⟨⟨w1,b1⟩,rfl⟩;clear aR;go_wp2;exact ⟨⟨k+1,Bl,by go_num,S,X.below b1,Bt hb b1⟩,by simp [intOf];omega⟩
   case false =>
    have HP:=Bq (Sp hk bE.out (fun _=>t2));go_wp2;refine Bw Bm Bm ?_;repeat (go_big_quiet_step ((go_at_call 255;rename_i x;have h1:=Ka l[k] e x.1;exact Ey h1)))
    refine Ak ?_;rintro w0 ⟨⟨_,b1⟩,rfl⟩;clear aR;clear X_;replace X:=X.below b1;have BB:=(Bt hb b1)
    have mW:k<=c:=Ah hk (h0.out _ BB).cap;have hkcI:(k:Int)<=(c:Int):=Bl;have a0:=Bq (show ∀ W,Below w w W->Rd Ct W W (.slice (Ac ⟨b,o,Ab⟩) k c) (l.take k) from fun W hW=>(h0.out _ hW).take hk c mW);have q1:Below w0 w0 (w0.alloc (.cells #[] 93)):=(Br _ _).alloc (Bs _) _;have bX:=Bq (show (l.take k).length<=2000000 by simp;omega);have aW:=Bq (show (l.take k ++ [e]).length<=2000001 by simp;omega);have hlt3:=Bq (show (l.drop k).length<=2000000 by simp;omega);rcases Nat.lt_or_ge k c with hkc2 | hkc2
    ·have rG:¬ c=k:=Bl;go_wp2_with (first | (at_builtin;refine By _ Ct Bp rfl (.tmp 21) (.tmp 24) rfl Tryz.underlying96 aL aS aP aQ rfl (base:=w0.heap.size) (v:=.slice (Ac ⟨w0,0,Ab⟩) 0 0) (l:=[]) rfl (Ow.empty Ct 93 w0 (g:=w0.heap.size) rfl) (A:=(Ac ⟨b,o,Ab⟩)) (m:=k) (c:=_) (ys:=l.take k) rfl (a0.out _ (Bt BB q1)) Bn (by have:=bX.out;omega) Bp q1.size ?_;intro v1 w1 o1 g1 _;rw [List.nil_append] at o1;have d1:Below w0 w0 w1:=q1.grown g1 q1.size (fun g hg=>Nat.le_of_eq (Option.some.inj hg));have X1:=X.below d1;have x0:=X1.cell 0 _ rfl;have x1:=X1.cell 1 _ rfl;have x2:=X1.cell 2 _ rfl;have x3:=X1.cell 3 _ rfl;have xl:=X1.lt;have uR:=d1.size) | (at_builtin;refine By _ Ct Bp rfl (.tmp 26) (.tmp 28) rfl Tryz.underlying96 aL aS aP aQ rfl (base:=w0.heap.size) (v:=v1) (l:=l.take k) rfl (o1.below ((Br _ _).alloc (Bs _) _)) (A:=Ac ⟨w1,0,Ab⟩) (m:=1) (c:=1) (ys:=[e]) rfl (Rd.one Ct w1 _ e rfl rfl 1 (Bs _) (Nat.lt_succ_self _)) (by have:=bX.out;omega) Bn Bp (d1.alloc d1.size _).size ?_;intro v2 w2 o2 g2 _;have d2:Below w0 w0 w2:=(d1.alloc d1.size _).grown g2 (d1.alloc d1.size _).size (fun g hg=>(o1.within g hg).1)) | (at_builtin;refine By _ Ct Bp rfl (.tmp 30) (.tmp 33) rfl Tryz.underlying96 aL aS aP aQ rfl (base:=w0.heap.size) (v:=v2) (l:=l.take k ++ [e]) rfl o2 (A:=Ac ⟨b,o+k * 4,Ab⟩) (m:=l.length - k) (c:=c - k) (ys:=l.drop k) rfl ((h0.out _ (Bt BB d2)).fromL k hk) (by have:=aW.out;omega) (by have:=hlt3.out;omega) Bp d2.size ?_;intro v3 w3 o3 g3 _;have d3:Below w0 w0 w3:=d2.grown g3 d2.size (fun g hg=>(o2.within g hg).1)))
     obtain ⟨s9,F9,rfl,o9,n9⟩:=Gy o3;go_ret;exact ⟨s9,F9,rfl,by rw [HP.out];exact o9,fun x hx=>Ah BB.size (n9 x hx),Bt BB d3⟩
    ·exact absurd (h0.out _ BB).cap (by show ¬ l.length<=c;omega)
  ·have aB:¬ (k:Int)<(l.length:Int):=Bl;have HP:=Bq (Sp hk bE.out (fun hh=>absurd hh aA));go_wp2;refine Bw Bm Bm ?_;repeat (go_big_quiet_step (fail))
   refine Ak ?_;rintro w0 ⟨⟨_,b1⟩,rfl⟩;clear aR;clear X_;replace X:=X.below b1;have BB:=(Bt hb b1)
   have mW:k<=c:=Ah hk (h0.out _ BB).cap;have hkcI:(k:Int)<=(c:Int):=Bl;have a0:=Bq (show ∀ W,Below w w W->Rd Ct W W (.slice A k c) (l.take k) from fun W hW=>(h0.out _ hW).take hk c mW);have q1:Below w0 w0 (w0.alloc (.cells #[] 93)):=(Br _ _).alloc (Bs _) _;have bX:=Bq (show (l.take k).length<=2000000 by simp;omega);have aW:=Bq (show (l.take k ++ [e]).length<=2000001 by simp;omega);have hlt3:=Bq (show (l.drop k).length<=2000000 by simp;omega);rcases Nat.lt_or_ge k c with hkc2 | hkc2
   ·have rG:¬ c=k:=Bl;go_wp2_with (first | (at_builtin;refine By _ Ct Bp rfl (.tmp 21) (.tmp 24) rfl Tryz.underlying96 aL aS aP aQ rfl (base:=w0.heap.size) (v:=.slice (Ac ⟨w0,0,Ab⟩) 0 0) (l:=[]) rfl (Ow.empty Ct 93 w0 (g:=w0.heap.size) rfl) (A:=A) (m:=k) (c:=_) (ys:=l.take k) rfl (a0.out _ (Bt BB q1)) Bn (by have:=bX.out;omega) Bp q1.size ?_;intro v1 w1 o1 g1 _;rw [List.nil_append] at o1;have d1:Below w0 w0 w1:=q1.grown g1 q1.size (fun g hg=>Nat.le_of_eq (Option.some.inj hg));have X1:=X.below d1;have x0:=X1.cell 0 _ rfl;have x1:=X1.cell 1 _ rfl;have x2:=X1.cell 2 _ rfl;have x3:=X1.cell 3 _ rfl;have xl:=X1.lt;have uR:=d1.size) | (at_builtin;refine By _ Ct Bp rfl (.tmp 26) (.tmp 28) rfl Tryz.underlying96 aL aS aP aQ rfl (base:=w0.heap.size) (v:=v1) (l:=l.take k) rfl (o1.below ((Br _ _).alloc (Bs _) _)) (A:=Ac ⟨w1,0,Ab⟩) (m:=1) (c:=1) (ys:=[e]) rfl (Rd.one Ct w1 _ e rfl rfl 1 (Bs _) (Nat.lt_succ_self _)) (by have:=bX.out;omega) Bn Bp (d1.alloc d1.size _).size ?_;intro v2 w2 o2 g2 _;have d2:Below w0 w0 w2:=(d1.alloc d1.size _).grown g2 (d1.alloc d1.size _).size (fun g hg=>(o1.within g hg).1)) | (at_builtin;refine By _ Ct Bp rfl (.tmp 30) (.tmp 33) rfl Tryz.underlying96 aL aS aP aQ rfl (base:=w0.heap.size) (v:=v2) (l:=l.take k ++ [e]) rfl o2 (A:=A.map fun x=>x.add (k * 4)) (m:=l.length - k) (c:=c - k) (ys:=l.drop k) rfl (Rd.fromNone (B:=0) k Bl Bl) (by have:=aW.out;omega) (by have:=hlt3.out;omega) Bp d2.size ?_;intro v3 w3 o3 g3 _;have d3:Below w0 w0 w3:=d2.grown g3 d2.size (fun g hg=>(o2.within g hg).1)))
    obtain ⟨s9,F9,rfl,o9,n9⟩:=Gy o3;go_ret;exact ⟨s9,F9,rfl,by rw [HP.out];exact o9,fun x hx=>Ah BB.size (n9 x hx),Bt BB d3⟩
   ·obtain rfl:k=c:=Bl;go_wp2_with (first | (at_builtin;refine By _ Ct Bp rfl (.tmp 21) (.tmp 24) rfl Tryz.underlying96 aL aS aP aQ rfl (base:=w0.heap.size) (v:=.slice (Ac ⟨w0,0,Ab⟩) 0 0) (l:=[]) rfl (Ow.empty Ct 93 w0 (g:=w0.heap.size) rfl) (A:=A) (m:=k) (c:=_) (ys:=l.take k) rfl (a0.out _ (Bt BB q1)) Bn (by have:=bX.out;omega) Bp q1.size ?_;intro v1 w1 o1 g1 _;rw [List.nil_append] at o1;have d1:Below w0 w0 w1:=q1.grown g1 q1.size (fun g hg=>Nat.le_of_eq (Option.some.inj hg));have X1:=X.below d1;have x0:=X1.cell 0 _ rfl;have x1:=X1.cell 1 _ rfl;have x2:=X1.cell 2 _ rfl;have x3:=X1.cell 3 _ rfl;have xl:=X1.lt;have uR:=d1.size) | (at_builtin;refine By _ Ct Bp rfl (.tmp 26) (.tmp 28) rfl Tryz.underlying96 aL aS aP aQ rfl (base:=w0.heap.size) (v:=v1) (l:=l.take k) rfl (o1.below ((Br _ _).alloc (Bs _) _)) (A:=Ac ⟨w1,0,Ab⟩) (m:=1) (c:=1) (ys:=[e]) rfl (Rd.one Ct w1 _ e rfl rfl 1 (Bs _) (Nat.lt_succ_self _)) (by have:=bX.out;omega) Bn Bp (d1.alloc d1.size _).size ?_;intro v2 w2 o2 g2 _;have d2:Below w0 w0 w2:=(d1.alloc d1.size _).grown g2 (d1.alloc d1.size _).size (fun g hg=>(o1.within g hg).1)) | (at_builtin;refine By _ Ct Bp rfl (.tmp 30) (.tmp 33) rfl Tryz.underlying96 aL aS aP aQ rfl (base:=w0.heap.size) (v:=v2) (l:=l.take k ++ [e]) rfl o2 (A:=A) (m:=l.length - k) (c:=0) (ys:=l.drop k) rfl (Rd.fromNone (B:=0) k Bl Bl) (by have:=aW.out;omega) (by have:=hlt3.out;omega) Bp d2.size ?_;intro v3 w3 o3 g3 _;have d3:Below w0 w0 w3:=d2.grown g3 d2.size (fun g hg=>(o2.within g hg).1)))
    obtain ⟨s9,F9,rfl,o9,n9⟩:=Gy o3;go_ret;exact ⟨s9,F9,rfl,by rw [HP.out];exact o9,fun x hx=>Ah BB.size (n9 x hx),Bt BB d3⟩
theorem DBox.drew4 {b:Nat} {cs:List Value} {w:World} (h:DBox b cs w):DBox b cs w.drew:=⟨h.cell,h.free,h.lt⟩
theorem DBox.row4 {b:Nat} {cs:List Value} {w:World} (h:DBox b cs w) (hn:cs.length=4) (u0 u1 u2 u3:Value) :
  DBox b [u0,u1,u2,u3] ((((w.setCell ⟨b,0,Ab⟩ u0).setCell ⟨b,1,Ab⟩ u1).setCell ⟨b,2,Ab⟩ u2).setCell ⟨b,3,Ab⟩ u3):=by
 obtain ⟨c0,c1,c2,c3,rfl⟩:∃ c0 c1 c2 c3,cs=[c0,c1,c2,c3]:=by
  match cs,hn with
  | [c0,c1,c2,c3],_=>exact ⟨c0,c1,c2,c3,rfl⟩
 exact (((h.set 0 Bn u0).set 1 Bn u1).set 2 Bn u2).set 3 Bn u3
theorem Ub {b:Nat} {w:World} {u0 u1 u2 u3:Value} (X:DBox b [u0,u1,u2,u3] w) {v0 v1 v3 v4:Value} {rest:List Value} :
  (results Tryz.f207 (v0 :: v1 :: .pointer (Ac ⟨b,0,Ab⟩) :: v3 :: v4 :: rest).toArray).run Am w = .ok (.tuple #[.agg #[u0,u1,u2,u3],v3,v4]) w:=by
 have c0:=X.cell 0 _ rfl;have c1:=X.cell 1 _ rfl;have c2:=X.cell 2 _ rfl;have c3:=X.cell 3 _ rfl;simp [results,Tryz.results207,go_sem,c0,c1,c2,c3]
def Zn (l:List Entry) (w:World) (e:Ending) (w':World):Prop :=
 ∃ (s:Sl) (F:List Nat),e = .returned (.tuple #[Hd (l.headD ⟨0,0,0,0⟩) (),Aa s.a s.n s.c,.bool (!l.isEmpty)])/\OwL Bx w' F s.v l.tail/\(∀ x∈F,w<=x)/\Below w w w'
theorem Pp (l:List Entry) (s:Sl) (w:World) (hl:l.length<=2000000) (h:RdL Bx w w s.v l) :
  Calls Am 207 #[.slice s.a s.n s.c] w (Zn l w):=by
 obtain ⟨A,n,c⟩:=s;obtain rfl:n=l.length:=RdL.at1 (s:=⟨A,n,c⟩) h;obtain ⟨i0,aL,aS,aP,aQ⟩:=info_parts Fc;have h0:=Bq (fun W (hW:Below w w W)=>((I5 h).below hW).more hW.size);cases l with
 | nil =>
  have R:=DBox.new 93 [.int .i64 0,.int .i64 0,.int .i64 0,.int .i64 0] w (b:=w.heap.size) rfl;have B0:Below w w (w.alloc (.cells #[.int .i64 0,.int .i64 0,.int .i64 0,.int .i64 0] 93)):=by repeat (first | exact Br _ _ | refine Ae ?_ Bo _)
  go_enter Tryz.func207,Tryz.ntmps207;go_wp2;have R1:=R.below ((Br _ _).alloc (Bs _) (.cells #[] 93));refine Aj (v:=.tuple #[.agg #[.int .i64 0,.int .i64 0,.int .i64 0,.int .i64 0],.slice (Ac ⟨w.heap.size+1,0,Ab⟩) 0 0,.bool false]) (Ub R1) rfl ⟨⟨Ac ⟨w.heap.size+1,0,Ab⟩,0,0⟩,[],rfl,OwL.nil _ _ _ _,Bn,?_⟩;repeat (first | (with_reducible exact B0) | refine Ad ?_ Bo _ | refine Ae ?_ Bo _)
 | cons e tl =>
  have h1:((((e :: tl).length:Nat):Int) == 0)=false:=by rw [beq_eq_false_iff_ne];simp;omega
  obtain ⟨b,o,_,rfl,aH,_,c0,c1,c2,c3⟩:=h.entry (k:=0) (by simp);simp only [Nat.zero_mul,Nat.add_zero,List.getElem_cons_zero] at c0 c1 c2 c3;have fQ:1<=(e :: tl).length:=Bn;have bX:=Bq (show tl.length<=3000000 by simp at hl;omega);have pX:=Bq (show (e :: tl).drop 1=tl from rfl);have bZ:(e :: tl).length<=c:=(h0.out w (Br _ _)).cap;generalize hL:(e :: tl).length=L at *
  have hLI:(0:Int)<(L:Int):=Bl;have hLI1:(1:Int)<=(L:Int):=Bl;have hLN:0<L:=Bl;obtain ⟨W,aG,R,B0⟩:=bx1 w 93 [.int .i64 0,.int .i64 0,.int .i64 0,.int .i64 0];go_enter Tryz.func207,Tryz.ntmps207;go_wp2;rw [<-aG.out];clear aG;have hs:=B0.size;have hbW:b<W:=Bl;have HS0:=Bq (show ∀ W',Below w w W'->(fun w'=>w'.cell? ⟨b,o,Ab⟩=Ac (.int .i64 e.prio)/\w'.cell? ⟨b,o+1,Ab⟩=Ac (.int .i64 e.seq)/\w'.cell? ⟨b,o+2,Ab⟩=Ac (.int .i64 e.run)/\w'.cell? ⟨b,o+3,Ab⟩=Ac (.int .i64 e.task)) W' from fun W' kZ=>⟨(kZ.cell (p:=⟨b,_,Ab⟩) aH).trans c0,(kZ.cell (p:=⟨b,_,Ab⟩) aH).trans c1,(kZ.cell (p:=⟨b,_,Ab⟩) aH).trans c2,(kZ.cell (p:=⟨b,_,Ab⟩) aH).trans c3⟩);have B1:=B0.drew;replace R:=DBox.drew4 R;rcases Nat.lt_or_ge 1 c with hkc2 | hkc2
  ·have rG:¬ c=1:=Bl;have hcI:(1:Int)<=(c:Int):=Bl;refine Go.wp_region_noPanic ?_;refine wp_region_held_drew (S:=(fun w'=>w'.cell? ⟨b,o,Ab⟩=Ac (.int .i64 e.prio)/\w'.cell? ⟨b,o+1,Ab⟩=Ac (.int .i64 e.seq)/\w'.cell? ⟨b,o+2,Ab⟩=Ac (.int .i64 e.run)/\w'.cell? ⟨b,o+3,Ab⟩=Ac (.int .i64 e.task))) Bm (HS0.out _ B1) (fun hHeld=>?_);generalize W.drew=w1 at *
   refine tV 0 ?_
   (try simp only [pS])
   refine tV 1 ?_
   (try simp only [pS])
   refine tV 2 ?_
   (try simp only [pS])
   refine tV 4 ?_
   (try simp only [pS])
   refine tV 5 ?_
   (try simp only [pS])
   refine rC 3 (fun K_ hK=>?_);go_simp;have o2:=Ow.empty Ct 93 w1 (g:=w1.heap.size) rfl;have b2:Below w1 w1 (w1.alloc (.cells #[] 93)):=(Br _ _).alloc (Bs _) _;have B2:=Bt B1 b2;have R2:=R.below b2;generalize w1.alloc (.cells #[] 93)=w2 at *
   refine hK.out _ _ (HS0.out _ B2) (fun hHeld=>?_);clear hK K_
   (try simp only [pS])
   refine rC 6 (fun K_ hK=>?_);have rd1:=(h0.out _ B2).fromL 1 (by show 1<=(e :: tl).length;simp);rw [hL,pX.out] at rd1;refine Em _ Ct Bp (.tmp 13) (.tmp 15) 96 rfl w1.heap.size 93 _ _ _ Tryz.underlying96 aL aS aP aQ rfl _ [] rfl o2 _ _ _ _ tl rfl rd1 Bn bX.out Bp b2.size ?_;intro v3 w3 o3 g3 _;rw [List.nil_append] at o3;have b3:Below w1 w1 w3:=b2.grown g3 b2.size (fun g hg=>Nat.le_of_eq (Option.some.inj hg));have B3:=Bt B1 b3;have R3:=R.below b3;refine hK.out _ _ (HS0.out _ B3) (fun hHeld=>?_);clear hK K_
   (try simp only [pS])
   have e0:=R3.cell 0 _ rfl;have e1:=R3.cell 1 _ rfl;have e2:=R3.cell 2 _ rfl;have e3:=R3.cell 3 _ rfl;have ef:=R3.free;have el:=R3.lt;refine rC 7 (fun K_ hK=>?_);go_simp;have R4:=DBox.row4 R3 rfl (.int .i64 e.prio) (.int .i64 e.seq) (.int .i64 e.run) (.int .i64 e.task);have B4:Below w w ((((w3.setCell ⟨w,0,Ab⟩ (.int .i64 e.prio)).setCell ⟨w,1,Ab⟩ (.int .i64 e.seq)).setCell ⟨w,2,Ab⟩ (.int .i64 e.run)).setCell ⟨w,3,Ab⟩ (.int .i64 e.task)):=by
    repeat (first | (with_reducible exact B3) | refine Ad ?_ Bo _)
   have o4:=(((o3.setLow (a:=⟨w,0,Ab⟩) (by show w.heap.size<w1.heap.size;have:=R.lt;omega) (.int .i64 e.prio)).setLow (a:=⟨w,1,Ab⟩) (by show w.heap.size<w1.heap.size;have:=R.lt;omega) (.int .i64 e.seq)).setLow (a:=⟨w,2,Ab⟩) (by show w.heap.size<w1.heap.size;have:=R.lt;omega) (.int .i64 e.run)).setLow (a:=⟨w,3,Ab⟩) (by show w.heap.size<w1.heap.size;have:=R.lt;omega) (.int .i64 e.task);generalize ((((w3.setCell ⟨w,0,Ab⟩ (.int .i64 e.prio)).setCell ⟨w,1,Ab⟩ (.int .i64 e.seq)).setCell ⟨w,2,Ab⟩ (.int .i64 e.run)).setCell ⟨w,3,Ab⟩ (.int .i64 e.task))=w4 at *
   clear e0 e1 e2 e3 ef el;refine hK.out _ _ (HS0.out _ B4) (fun hHeld=>?_);clear hK K_
   (try simp only [pS])
   refine rC 8 (fun K_ hK=>?_);go_simp;refine hK.out _ _ (HS0.out _ B4) (fun hHeld=>?_);clear hK K_
   (try simp only [pS])
   refine rC 9 (fun K_ hK=>?_);go_simp;refine hK.out _ _ (HS0.out _ B4) (fun hHeld=>?_);clear hK K_
   (try simp only [pS])
   refine Al Bm ?_ _;refine NoPanic.normal ?_;clear hHeld;obtain ⟨s9,F9,rfl,o9,n9⟩:=Gy o4;go_wp2;refine Aj (v:=.tuple #[Hd e (),.slice s9.a s9.n s9.c,.bool true]) (Ub R4) rfl ⟨s9,F9,rfl,o9,fun x hx=>Ah (by have:=R.lt;omega) (n9 x hx),B4⟩
  ·obtain rfl:c=1:=Bl;obtain rfl:L=1:=Bl;refine Go.wp_region_noPanic ?_;refine wp_region_held_drew (S:=(fun w'=>w'.cell? ⟨b,o,Ab⟩=Ac (.int .i64 e.prio)/\w'.cell? ⟨b,o+1,Ab⟩=Ac (.int .i64 e.seq)/\w'.cell? ⟨b,o+2,Ab⟩=Ac (.int .i64 e.run)/\w'.cell? ⟨b,o+3,Ab⟩=Ac (.int .i64 e.task))) Bm (HS0.out _ B1) (fun hHeld=>?_);generalize W.drew=w1 at *
   refine tV 0 ?_
   (try simp only [pS])
   refine tV 1 ?_
   (try simp only [pS])
   refine tV 2 ?_
   (try simp only [pS])
   refine tV 4 ?_
   (try simp only [pS])
   refine tV 5 ?_
   (try simp only [pS])
   refine rC 3 (fun K_ hK=>?_);go_simp;have o2:=Ow.empty Ct 93 w1 (g:=w1.heap.size) rfl;have b2:Below w1 w1 (w1.alloc (.cells #[] 93)):=(Br _ _).alloc (Bs _) _;have B2:=Bt B1 b2;have R2:=R.below b2;generalize w1.alloc (.cells #[] 93)=w2 at *
   refine hK.out _ _ (HS0.out _ B2) (fun hHeld=>?_);clear hK K_
   (try simp only [pS])
   refine rC 6 (fun K_ hK=>?_);have rd1:Rd Ct w2 0 (.slice (Ac ⟨b,o,Ab⟩) 0 0) tl:=Rd.fromNone (B:=0) (l:=e :: tl) 1 (by show (e :: tl).length<=1;rw [hL];exact Bs _) rfl;refine Em _ Ct Bp (.tmp 13) (.tmp 15) 96 rfl w1.heap.size 93 _ _ _ Tryz.underlying96 aL aS aP aQ rfl _ [] rfl o2 _ _ _ _ tl rfl rd1 Bn bX.out Bp b2.size ?_;intro v3 w3 o3 g3 _;rw [List.nil_append] at o3;have b3:Below w1 w1 w3:=b2.grown g3 b2.size (fun g hg=>Nat.le_of_eq (Option.some.inj hg));have B3:=Bt B1 b3;have R3:=R.below b3;refine hK.out _ _ (HS0.out _ B3) (fun hHeld=>?_);clear hK K_
   (try simp only [pS])
   have e0:=R3.cell 0 _ rfl;have e1:=R3.cell 1 _ rfl;have e2:=R3.cell 2 _ rfl;have e3:=R3.cell 3 _ rfl;have ef:=R3.free;have el:=R3.lt;refine rC 7 (fun K_ hK=>?_);go_simp;have R4:=DBox.row4 R3 rfl (.int .i64 e.prio) (.int .i64 e.seq) (.int .i64 e.run) (.int .i64 e.task);have B4:Below w w ((((w3.setCell ⟨w,0,Ab⟩ (.int .i64 e.prio)).setCell ⟨w,1,Ab⟩ (.int .i64 e.seq)).setCell ⟨w,2,Ab⟩ (.int .i64 e.run)).setCell ⟨w,3,Ab⟩ (.int .i64 e.task)):=by
    repeat (first | (with_reducible exact B3) | refine Ad ?_ Bo _)
   have o4:=(((o3.setLow (a:=⟨w,0,Ab⟩) (by show w.heap.size<w1.heap.size;have:=R.lt;omega) (.int .i64 e.prio)).setLow (a:=⟨w,1,Ab⟩) (by show w.heap.size<w1.heap.size;have:=R.lt;omega) (.int .i64 e.seq)).setLow (a:=⟨w,2,Ab⟩) (by show w.heap.size<w1.heap.size;have:=R.lt;omega) (.int .i64 e.run)).setLow (a:=⟨w,3,Ab⟩) (by show w.heap.size<w1.heap.size;have:=R.lt;omega) (.int .i64 e.task);generalize ((((w3.setCell ⟨w,0,Ab⟩ (.int .i64 e.prio)).setCell ⟨w,1,Ab⟩ (.int .i64 e.seq)).setCell ⟨w,2,Ab⟩ (.int .i64 e.run)).setCell ⟨w,3,Ab⟩ (.int .i64 e.task))=w4 at *
   clear e0 e1 e2 e3 ef el;refine hK.out _ _ (HS0.out _ B4) (fun hHeld=>?_);clear hK K_
   (try simp only [pS])
   refine rC 8 (fun K_ hK=>?_);go_simp;refine hK.out _ _ (HS0.out _ B4) (fun hHeld=>?_);clear hK K_
   (try simp only [pS])
   refine rC 9 (fun K_ hK=>?_);go_simp;refine hK.out _ _ (HS0.out _ B4) (fun hHeld=>?_);clear hK K_
   (try simp only [pS])
   refine Al Bm ?_ _;refine NoPanic.normal ?_;clear hHeld;obtain ⟨s9,F9,rfl,o9,n9⟩:=Gy o4;go_wp2;refine Aj (v:=.tuple #[Hd e (),.slice s9.a s9.n s9.c,.bool true]) (Ub R4) rfl ⟨s9,F9,rfl,o9,fun x hx=>Ah (by have:=R.lt;omega) (n9 x hx),B4⟩
def Uc (l:List Entry) (w:World) (e:Ending) (w':World):Prop :=
 ∃ (s1:Sl) (F1:List Nat) (s2:Sl) (F2:List Nat),e = .returned (.tuple #[Aa s1.a s1.n s1.c,Aa s2.a s2.n s2.c])/\OwL Bx w' F1 s1.v (l.take (Cx l))/\OwL Bx w' F2 s2.v (l.drop (Cx l))/\(∀ x∈F1,w<=x)/\(∀ x∈F2,w<=x)/\(∀ x∈F1,x∉F2)/\Below w w w'
theorem Jb {w:World} {E:TypeId} {base:Nat} {v:Value} {l:List Entry} (h:Ow Ct E w base v l):∃ (s:Sl) (F:List Nat),v = Aa s.a s.n s.c/\OwL Bx w F s.v l/\(∀ b∈F,base<=b)/\(∀ b∈F,v.ownBlock=Ac b):=by
 obtain ⟨h1,h2⟩:=Hw.of_ow h;obtain ⟨⟨A,c,hv,hc,hA⟩,hF,hf⟩:=id h1;subst hv;refine ⟨⟨A,l.length,c⟩,_,rfl,⟨l.map fun x=>(x,()),Dz (Aa A l.length c) l.length,[],by rw [List.map_map];exact List.map_id _,⟨⟨A,c,by rw [Ar],by rw [Ar];exact hc,fun hl=>?_⟩,by rw [Ar],hf⟩,Qp w l,(List.append_nil _).symm,h1.nodup⟩,h2,G4 _ _⟩;rw [Ar] at hl;obtain ⟨b,o,h3,h4,h5⟩:=hA hl;refine ⟨b,o,h3,h4,fun k hk j u hu=>?_⟩;rw [List.getElem_map] at hu;exact h5 k (by rw [Ar] at hk;exact hk) j u hu
theorem Zo (n:Nat):((n:Int)+1).tdiv 2=((n+1) / 2:Nat):=by
 rw [Int.tdiv_eq_ediv_of_nonneg Bl];omega
theorem Rd.dropM {α:Type} {e:Enc α} {w:World} {B:Nat} {A:Option Addr} {n c:Nat} {l:List α} (h:Rd e w B (Aa A n c) l) (k:Nat) (hk:k<=l.length):Rd e w B (Aa (A.map fun x=>x.add (k * e.sz)) (l.length - k) (c - k)) (l.drop k):=by
 obtain ⟨A',c0,hv,hc,hA⟩:=h;simp only [Value.slice.injEq] at hv;obtain ⟨rfl,rfl,rfl⟩:=hv;refine ⟨_,c - k,by rw [List.length_drop],by rw [List.length_drop];omega,fun hl=>?_⟩;rw [List.length_drop] at hl;obtain ⟨b,o,hb,aA,aX⟩:=hA Bl;refine ⟨b,o+k * e.sz,by rw [hb];simp only [Option.map_some,Option.some.injEq];unfold Addr.add;split<;>simp_all,aA,fun i hi j u hu=>?_⟩;rw [List.length_drop] at hi;rw [List.getElem_drop] at hu
 have:=aX (k+i) Bl j u hu
 rw [show o+k * e.sz+i * e.sz+j=o+(k+i) * e.sz+j from by rw [Nat.add_mul,<-Nat.add_assoc]];exact this
theorem W8 (l:List Entry) (s:Sl) (w:World) (hl:l.length<=2000000) (h:RdL Bx w w s.v l) :
  Calls Am 205 #[.slice s.a s.n s.c] w (Uc l w):=by
 obtain ⟨A,n,c⟩:=s;obtain rfl:n=l.length:=RdL.at1 (s:=⟨A,n,c⟩) h;obtain ⟨i0,aL,aS,aP,aQ⟩:=info_parts Fc;have h0:=Bq (fun W (hW:Below w w W)=>((I5 h).below hW).more hW.size);have hd:=Zo l.length;rw [show (l.length+1) / 2=Cx l from rfl] at hd;have kH:=Zc l;have hw1:U.wrap ((l.length:Int)+1)=(l.length:Int)+1:=Aq _ Bl;have sS:U.wrap (Cx l:Int)=(Cx l:Int):=Aq _ Bl;have bZ:l.length<=c:=(h0.out w (Br _ _)).cap;have mW:Cx l<=c:=Bl;have hkcI:(Cx l:Int)<=(c:Int):=Bl;have hklI:(Cx l:Int)<=(l.length:Int):=Bl;have hk0I:(0:Int)<=(Cx l:Int):=Bl;have a0:=Bq (show ∀ W,Below w w W->Rd Ct W W (.slice A (Cx l) c) (l.take (Cx l)) from fun W hW=>(h0.out _ hW).take kH c mW);have bX:=Bq (show (l.take (Cx l)).length<=3000000 by simp;omega);have aW:=Bq (show (l.drop (Cx l)).length<=3000000 by simp;omega);have a1:=((h0.out w (Br _ _)).dropM (Cx l) kH)
 go_enter Tryz.func205,Tryz.ntmps205;go_upto_region 2 with fail
 rcases Nat.lt_or_ge (Cx l) c with hk2 | hk2
 have rG:¬ c=Cx l:=Bl;have r0:=a0;have rr:=Bq (show ∀ W,Below w w W->Rd Ct W W (.slice (A.map fun x=>x.add (Cx l * 4)) (l.length - Cx l) (c - Cx l)) (l.drop (Cx l)) from fun W hW=>(a1.below hW).more hW.size);rotate_left;have rG:c=Cx l:=Bl;have hcl:l.length=Cx l:=Bl;have r0:=Bq (show ∀ W,Below w w W->Rd Ct W W (.slice A (Cx l) (Cx l)) (l.take (Cx l)) from fun W hW=>by have h9:=a0.out W hW;rw [rG] at h9;exact h9);have rr:=Bq (show ∀ W,Below w w W->Rd Ct W W (.slice A 0 0) (l.drop (Cx l)) from fun W hW=>by
  rw [List.drop_eq_nil_of_le Bl];exact ⟨A,0,rfl,Ag _,fun h=>absurd h Bn⟩)
 all_goals
  clear a1;refine Go.wp_region_noPanic ?_;refine wp_region_held_drew (S:=fun _=>True) Bm trivial (fun hHeld=>?_);have B1:Below w w w.drew:=(Br _ _).drew;generalize w.drew=w1 at *
  refine tY 1 ?_
  (try simp only [pS])
  refine tY 2 ?_
  (try simp only [pS])
  refine tY 3 ?_
  (try simp only [pS])
  refine tY 6 ?_
  (try simp only [pS])
  refine tY 7 ?_
  (try simp only [pS])
  refine tY 8 ?_
  (try simp only [pS])
  refine Wn 0 5 rfl rfl Bm (by rfl) (by rfl) (fun K_ hK=>?_) (fun K_ hK=>?_)
  ·go_simp;obtain ⟨g9,gP⟩:∃ g,g=w1.heap.size:=⟨_,rfl⟩
   rw [<-gP];have bb:Below w1 w1 (w1.alloc (.cells #[] 93)):=(Br _ _).alloc (Bs _) _;have o9:Ow Ct 93 (w1.alloc (.cells #[] 93)) w (.slice (Ac ⟨g9,0,Ab⟩) 0 0) []:=(Ow.empty Ct 93 w1 gP).more (by have:=B1.size;omega);have z9:g9<(w1.alloc (.cells #[] 93)):=by simp;omega
   have Bw1a:=Bt B1 bb;have y9:=bb.size;have ga9:=Nat.le_of_eq gP;have gb9:=Nat.le_of_eq gP.symm;clear bb gP;generalize w1.alloc (.cells #[] 93)=w1a at *
   refine hK.out _ _ trivial (fun hHeld=>?_);clear hK K_
   (try simp only [pS])
   refine Wn 4 5 rfl rfl Bm (by rfl) (by rfl) (fun K_ hK=>?_) (fun K_ hK=>?_)
   ·obtain ⟨n13,dX⟩:∃ n,n=w1a.heap.size:=⟨_,rfl⟩
    refine Em _ Ct Bp (.tmp 9) (.tmp 12) 96 rfl w.heap.size 93 _ _ _ Tryz.underlying96 aL aS aP aQ rfl _ [] rfl o9 _ _ _ _ (l.take (Cx l)) rfl (r0.out _ Bw1a) Bn bX.out Bp Bw1a.size ?_;intro v13 w1ap o13 gg e13;rw [List.nil_append] at o13;rw [<-dX] at e13;have na13:=Nat.le_of_eq dX;have nb13:=Nat.le_of_eq dX.symm;clear dX;have t13:∀ g,v13.ownBlock=Ac g->g<w1ap.heap.size:=fun g h=>(o13.within g h).2;replace e13:v13.ownBlock=Ac g9\/v13.ownBlock=Ac n13:=e13;have Bw1ap:Below w w w1ap:=Bw1a.grown gg Bw1a.size (fun g hg=>(o9.within g hg).1);have y13:=gg.size;clear gg;refine hK.out _ _ trivial (fun hHeld=>?_);clear hK K_
    (try simp only [pS])
    refine rC 5 (fun K_ hK=>?_);go_simp;obtain ⟨g14,dH⟩:∃ g,g=w1ap.heap.size:=⟨_,rfl⟩
    rw [<-dH];have bb:Below w1ap w1ap (w1ap.alloc (.cells #[] 93)):=(Br _ _).alloc (Bs _) _;have o14:Ow Ct 93 (w1ap.alloc (.cells #[] 93)) w (.slice (Ac ⟨g14,0,Ab⟩) 0 0) []:=(Ow.empty Ct 93 w1ap dH).more (by have:=Bw1ap.size;omega);have z14:g14<(w1ap.alloc (.cells #[] 93)):=by simp;omega
    have Bw1apa:=Bt Bw1ap bb;replace o13:=o13.below bb;have y14:=bb.size;have ga14:=Nat.le_of_eq dH;have gb14:=Nat.le_of_eq dH.symm;clear bb dH;generalize w1ap.alloc (.cells #[] 93)=w1apa at *
    refine hK.out _ _ trivial (fun hHeld=>?_);clear hK K_
    (try simp only [pS])
    refine rC 9 (fun K_ hK=>?_);obtain ⟨n18,dS⟩:∃ n,n=w1apa.heap.size:=⟨_,rfl⟩
    refine Em _ Ct Bp (.tmp 14) (.tmp 17) 96 rfl w.heap.size 93 _ _ _ Tryz.underlying96 aL aS aP aQ rfl _ [] rfl o14 _ _ _ _ (l.drop (Cx l)) rfl (rr.out _ Bw1apa) Bn aW.out Bp Bw1apa.size ?_;intro v18 w1apap o18 gg e18;rw [List.nil_append] at o18;rw [<-dS] at e18;have na18:=Nat.le_of_eq dS;have nb18:=Nat.le_of_eq dS.symm;clear dS;have t18:∀ g,v18.ownBlock=Ac g->g<w1apap.heap.size:=fun g h=>(o18.within g h).2;replace e18:v18.ownBlock=Ac g14\/v18.ownBlock=Ac n18:=e18;have Bw1apap:Below w w w1apap:=Bw1apa.grown gg Bw1apa.size (fun g hg=>(o14.within g hg).1);have y18:=gg.size;replace o13:=o13.grown gg (Or.inr (fun h=>by have:=t13 g14 h;rcases e13 with h2 | h2<;>(rw [h2] at h;have:=Option.some.inj (show Ac _=Ac g14 from h);omega)));clear gg;refine hK.out _ _ trivial (fun hHeld=>?_);clear hK K_
    (try simp only [pS])
    refine rC 10 (fun K_ hK=>?_);go_simp;refine hK.out _ _ trivial (fun hHeld=>?_);clear hK K_
    (try simp only [pS])
    refine rC 11 (fun K_ hK=>?_);go_simp;refine hK.out _ _ trivial (fun hHeld=>?_);clear hK K_
    (try simp only [pS])
    refine Al Bm ?_ _;refine NoPanic.normal ?_;obtain ⟨s1,F1,rfl,p1,q1,r1⟩:=Jb o13;obtain ⟨s2,F2,rfl,p2,q2,r2⟩:=Jb o18;go_wp2;go_ret2;exact ⟨s1,F1,s2,F2,rfl,p1,p2,q1,q2,fun x hx hy=>by
     have a1:=r1 x hx;have a2:=r2 x hy;have a3:=t13 x a1;have a4:=t18 x a2;rcases e13 with h | h<;>rcases e18 with h' | h'<;>(rw [a1] at h;rw [a2] at h';have:=Option.some.inj h;have:=Option.some.inj h';omega),Bw1apap⟩
   ·go_simp;obtain ⟨g14,dH⟩:∃ g,g=w1a.heap.size:=⟨_,rfl⟩
    rw [<-dH];have bb:Below w1a w1a (w1a.alloc (.cells #[] 93)):=(Br _ _).alloc (Bs _) _;have o14:Ow Ct 93 (w1a.alloc (.cells #[] 93)) w (.slice (Ac ⟨g14,0,Ab⟩) 0 0) []:=(Ow.empty Ct 93 w1a dH).more (by have:=Bw1a.size;omega);have z14:g14<(w1a.alloc (.cells #[] 93)):=by simp;omega
    have Bw1aa:=Bt Bw1a bb;replace o9:=o9.below bb;have y14:=bb.size;have ga14:=Nat.le_of_eq dH;have gb14:=Nat.le_of_eq dH.symm;clear bb dH;generalize w1a.alloc (.cells #[] 93)=w1aa at *
    refine hK.out _ _ trivial (fun hHeld=>?_);clear hK K_
    (try simp only [pS])
    refine rC 4 (fun K_ hK=>?_);obtain ⟨n13,dX⟩:∃ n,n=w1aa.heap.size:=⟨_,rfl⟩
    refine Em _ Ct Bp (.tmp 9) (.tmp 12) 96 rfl w.heap.size 93 _ _ _ Tryz.underlying96 aL aS aP aQ rfl _ [] rfl o9 _ _ _ _ (l.take (Cx l)) rfl (r0.out _ Bw1aa) Bn bX.out Bp Bw1aa.size ?_;intro v13 w1aap o13 gg e13;rw [List.nil_append] at o13;rw [<-dX] at e13;have na13:=Nat.le_of_eq dX;have nb13:=Nat.le_of_eq dX.symm;clear dX;have t13:∀ g,v13.ownBlock=Ac g->g<w1aap.heap.size:=fun g h=>(o13.within g h).2;replace e13:v13.ownBlock=Ac g9\/v13.ownBlock=Ac n13:=e13;have Bw1aap:Below w w w1aap:=Bw1aa.grown gg Bw1aa.size (fun g hg=>(o9.within g hg).1);have y13:=gg.size;replace o14:=o14.grown gg (Or.inr (fun h=>by have:=Option.some.inj (show Ac g14=Ac g9 from h);omega));clear gg;refine hK.out _ _ trivial (fun hHeld=>?_);clear hK K_
    (try simp only [pS])
    refine rC 9 (fun K_ hK=>?_);obtain ⟨n18,dS⟩:∃ n,n=w1aap.heap.size:=⟨_,rfl⟩
    refine Em _ Ct Bp (.tmp 14) (.tmp 17) 96 rfl w.heap.size 93 _ _ _ Tryz.underlying96 aL aS aP aQ rfl _ [] rfl o14 _ _ _ _ (l.drop (Cx l)) rfl (rr.out _ Bw1aap) Bn aW.out Bp Bw1aap.size ?_;intro v18 w1aapp o18 gg e18;rw [List.nil_append] at o18;rw [<-dS] at e18;have na18:=Nat.le_of_eq dS;have nb18:=Nat.le_of_eq dS.symm;clear dS;have t18:∀ g,v18.ownBlock=Ac g->g<w1aapp.heap.size:=fun g h=>(o18.within g h).2;replace e18:v18.ownBlock=Ac g14\/v18.ownBlock=Ac n18:=e18;have Bw1aapp:Below w w w1aapp:=Bw1aap.grown gg Bw1aap.size (fun g hg=>(o14.within g hg).1);have y18:=gg.size;replace o13:=o13.grown gg (Or.inr (fun h=>by have:=t13 g14 h;rcases e13 with h2 | h2<;>(rw [h2] at h;have:=Option.some.inj (show Ac _=Ac g14 from h);omega)));clear gg;refine hK.out _ _ trivial (fun hHeld=>?_);clear hK K_
    (try simp only [pS])
    refine rC 10 (fun K_ hK=>?_);go_simp;refine hK.out _ _ trivial (fun hHeld=>?_);clear hK K_
    (try simp only [pS])
    refine rC 11 (fun K_ hK=>?_);go_simp;refine hK.out _ _ trivial (fun hHeld=>?_);clear hK K_
    (try simp only [pS])
    refine Al Bm ?_ _;refine NoPanic.normal ?_;obtain ⟨s1,F1,rfl,p1,q1,r1⟩:=Jb o13;obtain ⟨s2,F2,rfl,p2,q2,r2⟩:=Jb o18;go_wp2;go_ret2;exact ⟨s1,F1,s2,F2,rfl,p1,p2,q1,q2,fun x hx hy=>by
     have a1:=r1 x hx;have a2:=r2 x hy;have a3:=t13 x a1;have a4:=t18 x a2;rcases e13 with h | h<;>rcases e18 with h' | h'<;>(rw [a1] at h;rw [a2] at h';have:=Option.some.inj h;have:=Option.some.inj h';omega),Bw1aapp⟩
  ·go_simp;obtain ⟨g14,dH⟩:∃ g,g=w1.heap.size:=⟨_,rfl⟩
   rw [<-dH];have bb:Below w1 w1 (w1.alloc (.cells #[] 93)):=(Br _ _).alloc (Bs _) _;have o14:Ow Ct 93 (w1.alloc (.cells #[] 93)) w (.slice (Ac ⟨g14,0,Ab⟩) 0 0) []:=(Ow.empty Ct 93 w1 dH).more (by have:=B1.size;omega);have z14:g14<(w1.alloc (.cells #[] 93)):=by simp;omega
   have Bw1a:=Bt B1 bb;have y14:=bb.size;have ga14:=Nat.le_of_eq dH;have gb14:=Nat.le_of_eq dH.symm;clear bb dH;generalize w1.alloc (.cells #[] 93)=w1a at *
   refine hK.out _ _ trivial (fun hHeld=>?_);clear hK K_
   (try simp only [pS])
   refine rC 0 (fun K_ hK=>?_);go_simp;obtain ⟨g9,gP⟩:∃ g,g=w1a.heap.size:=⟨_,rfl⟩
   rw [<-gP];have bb:Below w1a w1a (w1a.alloc (.cells #[] 93)):=(Br _ _).alloc (Bs _) _;have o9:Ow Ct 93 (w1a.alloc (.cells #[] 93)) w (.slice (Ac ⟨g9,0,Ab⟩) 0 0) []:=(Ow.empty Ct 93 w1a gP).more (by have:=Bw1a.size;omega);have z9:g9<(w1a.alloc (.cells #[] 93)):=by simp;omega
   have Bw1aa:=Bt Bw1a bb;replace o14:=o14.below bb;have y9:=bb.size;have ga9:=Nat.le_of_eq gP;have gb9:=Nat.le_of_eq gP.symm;clear bb gP;generalize w1a.alloc (.cells #[] 93)=w1aa at *
   refine hK.out _ _ trivial (fun hHeld=>?_);clear hK K_
   (try simp only [pS])
   refine rC 4 (fun K_ hK=>?_);obtain ⟨n13,dX⟩:∃ n,n=w1aa.heap.size:=⟨_,rfl⟩
   refine Em _ Ct Bp (.tmp 9) (.tmp 12) 96 rfl w.heap.size 93 _ _ _ Tryz.underlying96 aL aS aP aQ rfl _ [] rfl o9 _ _ _ _ (l.take (Cx l)) rfl (r0.out _ Bw1aa) Bn bX.out Bp Bw1aa.size ?_;intro v13 w1aap o13 gg e13;rw [List.nil_append] at o13;rw [<-dX] at e13;have na13:=Nat.le_of_eq dX;have nb13:=Nat.le_of_eq dX.symm;clear dX;have t13:∀ g,v13.ownBlock=Ac g->g<w1aap.heap.size:=fun g h=>(o13.within g h).2;replace e13:v13.ownBlock=Ac g9\/v13.ownBlock=Ac n13:=e13;have Bw1aap:Below w w w1aap:=Bw1aa.grown gg Bw1aa.size (fun g hg=>(o9.within g hg).1);have y13:=gg.size;replace o14:=o14.grown gg (Or.inr (fun h=>by have:=Option.some.inj (show Ac g14=Ac g9 from h);omega));clear gg;refine hK.out _ _ trivial (fun hHeld=>?_);clear hK K_
   (try simp only [pS])
   refine rC 9 (fun K_ hK=>?_);obtain ⟨n18,dS⟩:∃ n,n=w1aap.heap.size:=⟨_,rfl⟩
   refine Em _ Ct Bp (.tmp 14) (.tmp 17) 96 rfl w.heap.size 93 _ _ _ Tryz.underlying96 aL aS aP aQ rfl _ [] rfl o14 _ _ _ _ (l.drop (Cx l)) rfl (rr.out _ Bw1aap) Bn aW.out Bp Bw1aap.size ?_;intro v18 w1aapp o18 gg e18;rw [List.nil_append] at o18;rw [<-dS] at e18;have na18:=Nat.le_of_eq dS;have nb18:=Nat.le_of_eq dS.symm;clear dS;have t18:∀ g,v18.ownBlock=Ac g->g<w1aapp.heap.size:=fun g h=>(o18.within g h).2;replace e18:v18.ownBlock=Ac g14\/v18.ownBlock=Ac n18:=e18;have Bw1aapp:Below w w w1aapp:=Bw1aap.grown gg Bw1aap.size (fun g hg=>(o14.within g hg).1);have y18:=gg.size;replace o13:=o13.grown gg (Or.inr (fun h=>by have:=t13 g14 h;rcases e13 with h2 | h2<;>(rw [h2] at h;have:=Option.some.inj (show Ac _=Ac g14 from h);omega)));clear gg;refine hK.out _ _ trivial (fun hHeld=>?_);clear hK K_
   (try simp only [pS])
   refine rC 10 (fun K_ hK=>?_);go_simp;refine hK.out _ _ trivial (fun hHeld=>?_);clear hK K_
   (try simp only [pS])
   refine rC 11 (fun K_ hK=>?_);go_simp;refine hK.out _ _ trivial (fun hHeld=>?_);clear hK K_
   (try simp only [pS])
   refine Al Bm ?_ _;refine NoPanic.normal ?_;obtain ⟨s1,F1,rfl,p1,q1,r1⟩:=Jb o13;obtain ⟨s2,F2,rfl,p2,q2,r2⟩:=Jb o18;go_wp2;go_ret2;exact ⟨s1,F1,s2,F2,rfl,p1,p2,q1,q2,fun x hx hy=>by
    have a1:=r1 x hx;have a2:=r2 x hy;have a3:=t13 x a1;have a4:=t18 x a2;rcases e13 with h | h<;>rcases e18 with h' | h'<;>(rw [a1] at h;rw [a2] at h';have:=Option.some.inj h;have:=Option.some.inj h';omega),Bw1aapp⟩
theorem Acp:(Am.info? 3).map (fun i=>(i.zero,i.size,i.bytes))=Ac (Ac (J U 0),1,8):=Bm
theorem Ud (d:Deed) (s:Sl) (w:World) (h:Cg.rd w w d s) :
  Calls Am 141 #[Cy d s] w fun e w'=>e = .returned (.bool (Db d))/\Below w w w':=by
 cases a0:inB d.kind 1 8;case true =>
  have:d.kind=1\/d.kind=2\/d.kind=3\/d.kind=4\/d.kind=5\/d.kind=6\/d.kind=7\/d.kind=8:=by
   simp [inB] at a0;omega
  rcases this with e | e | e | e | e | e | e | e
  ·exact Zd d s w e h
  ·exact Ze d s w e h
  ·exact Zf d s w e h
  ·exact Zg d s w e h
  ·exact Zh d s w e h
  ·exact Zj d s w e h
  ·exact Zl d s w e h
  ·exact Zi d s w e h
 have H:=Bq (show Db d=false by simp [Db,a0]);clear h;obtain ⟨A,n,c⟩:=s;obtain ⟨kd,rn,p,tk,ty,wk,dr⟩:=d;replace a0:inB kd 1 8=false:=a0;have X:=DBox.new 45 [J U kd,J U rn,J U p.prio,J U p.most,J U p.wait,J U p.tasks,Aa A n c,J U tk,J U ty,J U wk,J U dr] w (b:=w.heap.size) rfl;have B0:Below w w (w.alloc (.cells #[J U kd,J U rn,J U p.prio,J U p.most,J U p.wait,J U p.tasks,Aa A n c,J U tk,J U ty,J U wk,J U dr] 45)):=by repeat (first | exact Br _ _ | refine Ae ?_ Bo _)
 go_enter Tryz.func141,Tryz.ntmps141;go_wp2_with (go_at_call 155;refine (Ce _ _ _ _).mono ?_;rintro e w9 ⟨rfl,rfl⟩;(try (with_reducible rw [a0]));dsimp only)
 go_ret;exact ⟨Bv H.out.symm,B0⟩
def Gz (l:List Edge):List Int:=l.flatMap fun e=>[e.fr,e.to]
def Ej (d:Deed):List Int :=
 if d.kind=1 then [d.run,d.plan.prio,d.plan.most,d.plan.wait,d.plan.tasks,d.plan.edges.length] ++ Gz d.plan.edges
 else if d.kind=2 then [d.worker,d.draw]
 else if d.kind=3\/d.kind=4 then [d.run,d.task,d.try_]
 else if d.kind=6\/d.kind=7 then [d.run]
 else []
theorem Pq (l:List Edge):(Gz l).length=2 * l.length:=by
 induction l with
 | nil=>rfl
 | cons a l ih =>
  rw [show Gz (a :: l)=[a.fr,a.to] ++ Gz l from rfl,Bd,List.length_cons,ih];simp;omega
theorem Vi (l:List Edge) (k:Nat) (h:k<l.length):Gz (l.take (k+1))=Gz (l.take k) ++ [l[k].fr,l[k].to]:=by
 rw [List.take_succ_eq_append_getElem h];simp only [Gz,List.flatMap_append,List.flatMap_cons,List.flatMap_nil,List.append_nil]
theorem Vj (d:Deed):(Ej d).length<=6+2 * d.plan.edges.length:=by
 unfold Ej;split
 ·rw [Bd,Pq];simp
 split
 ·simp;omega
 split
 ·simp;omega
 split<;>(simp;try omega)
theorem Acq (l:List Int):l.flatMap Hn.cells=l.map (Value.int .i64):=by
 induction l with
 | nil=>rfl
 | cons a l ih=>rw [List.flatMap_cons,ih];rfl
theorem Ow.ints (w:World) (E:TypeId) (l:List Int) {cs:Array Value} (sB:cs=(l.map (Value.int .i64)).toArray) {n g base:Nat} (hn:n=l.length) (hg:g=w) (hb:base<=w.heap.size) (hl:l.length<=1000) :
  Ow Hn E (w.alloc (.cells cs E)) base (Aa (Ac ⟨g,0,Ab⟩) n n) l:=by
 subst hn hg sB
 have:=World.ownsRow_lit (base:=base) (e:=E) (size:=Hn.sz) w (l.map (Value.int .i64)).toArray l.length hb (by simp [maxLen];omega) (by simp [Hn])
 unfold Ow;rw [Acq];exact this
theorem Sa (d:Deed) (s:Sl) (w:World) (hl:d.plan.edges.length<=1000000) (h:Cg.rd w w d s) :
  Calls Am 103 #[Cy d s] w fun e w'=>∃ v,e = .returned v/\Ow Hn 3 w' w v (Ej d)/\Below w w w':=by
 obtain ⟨i0,aL,aS,aP,aQ⟩:=info_parts Acp;obtain ⟨A,n,c⟩:=s;obtain ⟨kd,rn,p,tk,ty,wk,dr⟩:=d;replace hl:p.edges.length<=1000000:=hl;have h0:Ca.rd w w p ⟨A,n,c⟩:=h;obtain rfl:n=p.edges.length:=RdL.at1 (s:=⟨A,n,c⟩) h0;have h2:Rd Gd w w (.slice A p.edges.length c) p.edges:=H8 h0;clear h h0;have X:=DBox.new 45 [.int .i64 kd,.int .i64 rn,.int .i64 p.prio,.int .i64 p.most,.int .i64 p.wait,.int .i64 p.tasks,.slice A p.edges.length c,.int .i64 tk,.int .i64 ty,.int .i64 wk,.int .i64 dr] w (b:=w.heap.size) rfl;have B0:Below w w (w.alloc (.cells #[.int .i64 kd,.int .i64 rn,.int .i64 p.prio,.int .i64 p.most,.int .i64 p.wait,.int .i64 p.tasks,.slice A p.edges.length c,.int .i64 tk,.int .i64 ty,.int .i64 wk,.int .i64 dr] 45)):=by repeat (first | exact Br _ _ | refine Ae ?_ Bo _)
 by_cases k2:kd=2
 ·have H:=Bq (show Ej ⟨kd,rn,p,tk,ty,wk,dr⟩=[wk,dr] by simp [Ej,k2]);rw [H.out];clear H;subst k2;go_enter Tryz.func103,Tryz.ntmps103;go_wp2;go_ret;exact ⟨_,rfl,Ow.ints _ _ _ rfl rfl Bn B0.size Bn,B0.alloc B0.size _⟩
 by_cases k3:kd=3
 ·have H:=Bq (show Ej ⟨kd,rn,p,tk,ty,wk,dr⟩=[rn,tk,ty] by simp [Ej,k3]);rw [H.out];clear H;subst k3;go_enter Tryz.func103,Tryz.ntmps103;go_wp2;go_ret;exact ⟨_,rfl,Ow.ints _ _ _ rfl rfl Bn B0.size Bn,B0.alloc B0.size _⟩
 by_cases k4:kd=4
 ·have H:=Bq (show Ej ⟨kd,rn,p,tk,ty,wk,dr⟩=[rn,tk,ty] by simp [Ej,k4]);rw [H.out];clear H;subst k4;go_enter Tryz.func103,Tryz.ntmps103;go_wp2;go_ret;exact ⟨_,rfl,Ow.ints _ _ _ rfl rfl Bn B0.size Bn,B0.alloc B0.size _⟩
 by_cases k6:kd=6
 ·have H:=Bq (show Ej ⟨kd,rn,p,tk,ty,wk,dr⟩=[rn] by simp [Ej,k6]);rw [H.out];clear H;subst k6;go_enter Tryz.func103,Tryz.ntmps103;go_wp2;go_ret;exact ⟨_,rfl,Ow.ints _ _ _ rfl rfl Bn B0.size Bn,B0.alloc B0.size _⟩
 by_cases k7:kd=7
 ·have H:=Bq (show Ej ⟨kd,rn,p,tk,ty,wk,dr⟩=[rn] by simp [Ej,k7]);rw [H.out];clear H;subst k7;go_enter Tryz.func103,Tryz.ntmps103;go_wp2;go_ret;exact ⟨_,rfl,Ow.ints _ _ _ rfl rfl Bn B0.size Bn,B0.alloc B0.size _⟩
 by_cases k1:kd=1;case neg =>
  have H:=Bq (show Ej ⟨kd,rn,p,tk,ty,wk,dr⟩=[] by simp [Ej,k1,k2,k3,k4,k6,k7]);rw [H.out];clear H;have b1:(kd == 1)=false:=beq_eq_false_iff_ne.2 k1;have b2:(kd == 2)=false:=beq_eq_false_iff_ne.2 k2;have b3:(kd == 3)=false:=beq_eq_false_iff_ne.2 k3;have b4:(kd == 4)=false:=beq_eq_false_iff_ne.2 k4;have b6:(kd == 6)=false:=beq_eq_false_iff_ne.2 k6;have b7:(kd == 7)=false:=beq_eq_false_iff_ne.2 k7;clear k1 k2 k3 k4 k6 k7;go_enter Tryz.func103,Tryz.ntmps103;go_wp2;go_ret;exact ⟨_,rfl,Ow.nil _ _ _ _,B0⟩
 clear k2 k3 k4 k6 k7;have H:=Bq (show ∀ k,p.edges.length<=k->Ej ⟨kd,rn,p,tk,ty,wk,dr⟩=[rn,p.prio,p.most,p.wait,p.tasks,p.edges.length] ++ Gz (p.edges.take k) from fun k hk=>by simp [Ej,k1,Bg hk]);subst k1;go_enter Tryz.func103,Tryz.ntmps103;go_wp2;generalize Cy (⟨1,rn,p,tk,ty,wk,dr⟩:Deed) (⟨A,p.edges.length,c⟩:Sl)=dv;clear X;go_loopw [3,33] (fun vl i wr=>∃ (k:Nat) (v:Value),v=vl/\k<=p.edges.length/\i = .int .i64 k/\Hid (Ow Hn 3 wr w v ([rn,p.prio,p.most,p.wait,p.tasks,p.edges.length] ++ Gz (p.edges.take k)))/\Below w w wr) (fun _ i _=>p.edges.length - (intOf i).toNat);case atStart=>exact ⟨0,_,rfl,Ag _,rfl,Ow.ints _ _ _ rfl rfl Bn B0.size (by simp [Gz]),B0.alloc B0.size _⟩
 case round =>
  clear B0;obtain ⟨k,v,rfl,hk,rfl,hO,hb⟩:=hrel;by_cases aA:k<p.edges.length
  ·have aB:(k:Int)<(p.edges.length:Int):=Bl;obtain ⟨b,o,rfl,aH,d0,d1⟩:=(h2.below hb).edge aA;have HT:=Bq (Vi p.edges k aA);have HL:=Pq (p.edges.take k);rw [Az] at HL;generalize p.edges[k].fr=fx at *
   generalize p.edges[k].to=tx at *
   have ha:Hid (∀ w:World,Below w w ((w.alloc (.cells #[.int .i64 fx,.int .i64 tx] 199)).alloc (.cells #[.int .i64 fx,.int .i64 tx] 3))):=fun w=>((Br _ _).alloc (Bs _) _).alloc Bn _;generalize Gz (p.edges.take k)=L at *
   go_wp2_with (at_builtin;refine By _ Hn Bp rfl (.tmp 37) (.tmp 42) rfl Tryz.underlying26 aL aS aP aQ rfl (v:=v) (l:=[rn,p.prio,p.most,p.wait,p.tasks,p.edges.length] ++ L) rfl (hO.out.below (ha.out wr)) rfl (Rd.of_own (Ow.ints _ _ [fx,tx] rfl Bn Bn (Bs _) Bn)) (by simp;omega) Bn Bp (by simp;have:=hb.size;omega) ?_;intro v5 w5 o5 g5 _)
   have aU:=Bt hb (ha.out wr);have W5:=aU.grown g5 aU.size (fun g hg=>(hO.out.within g hg).1);refine ⟨⟨k+1,_,rfl,Bl,by go_num,?_,W5⟩,by simp [intOf];omega⟩;rw [HT.out,<-List.append_assoc];exact o5
  ·have aB:¬ (k:Int)<(p.edges.length:Int):=Bl;have HO:=hO.out;rw [<-H.out k Bl] at HO;clear H hO;obtain ⟨A9,c9,rfl,-⟩:=id (Rd.of_own HO);go_wp2;go_ret;exact ⟨_,rfl,HO,hb⟩
end Go.Proofs.YtonlnjdempbfoaaGreat
