/-
  slices.IndexFunc and slices.DeleteFunc at entries, with any closure over one variable. Written by program (df.py). DeedOk of the reference. Written by program (
-/
import Derived.Test.YtonlnjdempbfoabGreatZFd0
import Derived.Test.YtonlnjdempbfoabGreatZFd1
import Derived.Test.YtonlnjdempbfoabGreatZFd4
import Derived.Test.YtonlnjdempbfoabGreatZFd5
import Derived.Test.YtonlnjdempbfoabGreatZFd7
import Derived.Deep.Cut
namespace Go.Proofs.YtonlnjdempbfoabGreat
open Go.RowKit
set_option maxRecDepth 100000
set_option maxHeartbeats 4000000
set_option linter.unusedVariables false
set_option linter.unusedSimpArgs false
open Value renaming int->J,slice->Aa
open IntKind renaming i64->U
open Option renaming none->Ab,some->Ac
open Below renaming setCell->Ad,alloc->Ae
open Nat renaming zero_le->Ag,le_trans->Ah,lt_of_lt_of_le->Ai
open Go renaming bodyPost_ret->Aj,wpQuiet_nil->Ak,wpAnyH_done->Al
open Go.Proofs.Tryz renaming prog->Am
open IntWalk renaming i64_in->Aq
open List renaming length_map->Ar,getElem_mem->Aw,length_take->Az,length_append->Bd,take_of_length_le->Bg
open Go.Proofs.Tryz
theorem Rd.ent_ {w:World} {B:Nat} {A:Option Addr} {n c:Nat} {l:List Entry} (h:Rd Cy w B (Aa A n c) l) {k:Nat} (hk:k<l.length) :
  ∃ b o,A=Ac ⟨b,o,Ab⟩/\b<B/\w.cell? ⟨b,o+k * 4,Ab⟩=Ac (J U l[k].prio)/\w.cell? ⟨b,o+k * 4+1,Ab⟩=Ac (J U l[k].seq)/\w.cell? ⟨b,o+k * 4+2,Ab⟩=Ac (J U l[k].run)/\w.cell? ⟨b,o+k * 4+3,Ab⟩=Ac (J U l[k].task):=by
 obtain ⟨A',c',hv,_,hA⟩:=h;simp only [Value.slice.injEq] at hv;obtain ⟨rfl,_,_⟩:=hv;obtain ⟨b,o,rfl,hb,hc⟩:=hA Bl;exact ⟨b,o,rfl,hb,hc k hk 0 _ rfl,hc k hk 1 _ rfl,hc k hk 2 _ rfl,hc k hk 3 _ rfl⟩
theorem Nk {f:FuncId} {fn:Func} (hf:Am.funcs[f]? = Ac fn) (hname:(fn.name == "runtime.NumGoroutine")=false) (hb:fn.body.isNone=false):∀ (args:Array Value) (w:World),(callFunc f args).run Am w = .ok (.enter f args) w:=fun args w=>by
 have h1:fn.name ≠ "runtime.NumGoroutine" := by simpa using hname
 cases h:fn.body with
 | none=>rw [h] at hb;cases hb
 | some c=>simp [callFunc,hf,h1,h]
theorem P9 (FN p:Nat) (pred:Entry->Bool) (hF:∀ (args:Array Value) (w:World),(callFunc FN args).run Am w = .ok (.enter FN args) w) (l:List Entry) (A:Option Addr) (n c:Nat) (w:World) (hl:l.length<=2000000) (h:Rd Cy w w (Aa A n c) l)
  (hf:∀ (W:World) (x:Entry),Below w w W->Calls Am FN #[Gs x (),.pointer (Ac ⟨p,0,Ab⟩)] W fun e w'=>e = .returned (.bool (pred x))/\Below W W w') :
  Calls Am 256 #[Aa A n c,.func (.func FN) #[] #[.pointer (Ac ⟨p,0,Ab⟩)]] w fun e w'=>e = .returned (J U (Hj pred l))/\Below w w w':=by
 obtain rfl:n=l.length:=by obtain ⟨A',c',hv,_⟩:=id h;simp only [Value.slice.injEq] at hv;exact hv.2.1
 have HF:=Bq hf;clear hf;go_enter func256,ntmps256;go_wp2;go_loopw [8] (fun i wr=>∃ k:Nat,k<=l.length/\i = J U k/\Hid (∀ j (hj:j<k) (hj':j<l.length),pred l[j]=false)/\Below w w wr) (fun i _=>l.length - (intOf i).toNat);case atStart=>exact ⟨0,Ag _,rfl,fun j hj=>absurd hj Bl,Br _ _⟩
 case round =>
  obtain ⟨k,hk,rfl,dX,hb⟩:=hrel;by_cases aA:k<l.length
  ·obtain ⟨b,o,rfl,aK,c0,c1,c2,c3⟩:=(h.below hb).ent_ aA;have aB:(k:Int)<(l.length:Int):=Bl;have hs:=hb.size;have C:=HF.out wr l[k] hb;cases t1:pred l[k]
   ·have S:Hid (∀ j (hj:j<k+1) (hj':j<l.length),pred l[j]=false):=by
     intro j hj hj';by_cases e:j=k
     ·subst e;exact t1
     ·exact dX.out j Bl hj'
    rw [t1] at C;go_wp2_with fail
    refine C.mono ?_;rintro e w1 ⟨rfl,aJ⟩;have hE:=Bu hb aJ;go_wp2;first
     | exact ⟨⟨k+1,Bl,by go_num,S,hE⟩,by simp [intOf];omega⟩
     | (refine ⟨?_,by simp [intOf];omega⟩;(repeat apply Exists.intro);first | exact ⟨⟨k+1,Bl,by go_num,S,hE⟩,rfl⟩ | exact ⟨⟨k+1,Bl,by go_num,S,hE⟩,rfl,rfl⟩ | exact ⟨⟨k+1,Bl,by go_num,S,hE⟩,rfl,rfl,rfl⟩ | exact ⟨⟨k+1,Bl,by go_num,S,hE⟩,rfl,rfl,rfl,rfl⟩ | exact ⟨⟨k+1,Bl,by go_num,S,hE⟩,rfl,rfl,rfl,rfl,rfl⟩ | exact ⟨⟨k+1,Bl,by go_num,S,hE⟩,rfl,rfl,rfl,rfl,rfl,rfl⟩ | exact ⟨⟨k+1,Bl,by go_num,S,hE⟩,rfl,rfl,rfl,rfl,rfl,rfl,rfl⟩)
   ·have H:=Bq (Jp aA (fun j hj=>dX.out j hj Bl) t1);rw [t1] at C;go_wp2_with fail
    refine C.mono ?_;rintro e w1 ⟨rfl,aJ⟩;have hE:=Bu hb aJ;go_wp2;go_ret;exact ⟨C8 (by rw [H.out]),hE⟩
  ·have aB:¬ (k:Int)<(l.length:Int):=Bl;have H:=Bq (Kd (p:=pred) (l:=l) (fun j hj=>dX.out j Bl hj));go_wp2;go_ret;exact ⟨C8 (by rw [H.out]),hb⟩
theorem Sg (l:List Entry) (A:Option Addr) (n c:Nat) (F:List Nat) (FN p:Nat) (pred:Entry->Bool) (hF:∀ (args:Array Value) (w:World),(callFunc FN args).run Am w = .ok (.enter FN args) w) (w:World) (hl:l.length<=2000000)
  (hdel:∀ (W:World) (x:Entry),Chg F w W->Calls Am FN #[Gs x (),.pointer (Ac ⟨p,0,Ab⟩)] W fun e w'=>e = .returned (.bool (pred x))/\Below W W w')
  (hidx:Calls Am 256 #[Aa A n c,.func (.func FN) #[] #[.pointer (Ac ⟨p,0,Ab⟩)]] w fun e w'=>e = .returned (J U (Hj pred l))/\Below w w w')
  (h:Hw Cy w F (Aa A n c) l) :
  Calls Am 197 #[Aa A n c,.func (.func FN) #[] #[.pointer (Ac ⟨p,0,Ab⟩)]] w (Agr Cy A c F (l.filter fun x=>!pred x) w):=by
 obtain rfl:n=l.length:=by obtain ⟨A',c',hv,_⟩:=h.1;simp only [Value.slice.injEq] at hv;exact hv.2.1
 have HDel:=Bq hdel;clear hdel;rcases Me pred l with hr | ⟨k,hk,hr⟩
 ·have HN:Hid (∀ j (hj:j<l.length),pred l[j]=false):=fun j hj=>by
   cases hp:pred l[j] with
   | false=>rfl
   | true=>exact absurd (Ri.2 ⟨_,Aw hj,hp⟩) Bl
  rw [hr] at hidx;clear hr;go_enter func197,ntmps197;go_wp2_with fail
  refine hidx.mono ?_;rintro e w1 ⟨rfl,b1⟩;go_wp2;go_ret;exact ⟨l.length,F,rfl,by rw [Af5 HN.out];exact h.below b1,fun b hb=>hb,Chg.of_below F b1⟩
 have HK:=Bq (show Kept pred l l k (k+1) from by
  obtain ⟨h1,h2⟩:(∀ j (hj:j<l.length),j<k->pred l[j]=false)/\pred l[k]=true:=by
   unfold Hj at hr;cases hf:l.findIdx? pred with
   | none=>rw [hf] at hr;simp only at hr;omega
   | some i =>
    rw [hf] at hr;simp only at hr;obtain ⟨hi,hp,hb⟩:=List.findIdx?_eq_some_iff_getElem.1 hf;obtain rfl:i=k:=Bl;exact ⟨fun j hj fS=>by simpa using hb j fS,hp⟩
  exact Adl hk h1 h2)
 obtain ⟨b,o,rfl,rfl,hb,fZ⟩:=h.at_ Bl;have HRd:=h.rd;clear h;rw [hr] at hidx;clear hr;have bU:((k:Int) == -1)=false:=beq_eq_false_iff_ne.2 Bl;go_enter func197,ntmps197;go_wp2_with fail
 refine hidx.mono ?_;rintro e w1 ⟨rfl,b1⟩;have HR1:=(HRd.below b1).more b1.size;have hf1:∀ j,w1.frozen? ⟨b,j,Ab⟩=false:=fun j=>(b1.frozen (p:=⟨b,j,Ab⟩) hb).trans (fZ j);have C1:=Chg.of_below [b] b1;go_wp2;clear bU;go_loopw [5,6] (fun vi vj wr=>∃ (i j:Nat) (M:List Entry),i<j/\j<=l.length/\vi = J U i/\vj = J U j/\Hid (Kept pred l M i j)/\Rd Cy wr wr (Aa (Ac ⟨b,o,Ab⟩) l.length c) M/\Hid (∀ t,wr.frozen? ⟨b,t,Ab⟩=false)/\Chg [b] w wr) (fun _ vj _=>l.length - (intOf vj).toNat);case atStart=>exact ⟨k,k+1,l,Nat.lt_succ_self _,hk,rfl,by go_num,HK,HR1,hf1,C1⟩
 case round =>
  clear HR1 hf1 C1 HK b1 HRd fZ hk;obtain ⟨i,j,M,rJ,hj,rfl,rfl,hK,hR,hF,hC⟩:=hrel;have hML:=hK.out.len;have cQ:b<wr:=Ai hb hC.size;by_cases aA:j<l.length
  ·have aB:(j:Int)<(l.length:Int):=Bl;have hiI:(i:Int)<(l.length:Int):=Bl;obtain ⟨b',o',hA,_,d0,d1,d2,d3⟩:=hR.ent_ (k:=j) Bl;simp only [Option.some.injEq,Addr.mk.injEq,and_true] at hA;obtain ⟨rfl,rfl⟩:=hA;have hMj:=hK.out.tail j aA Bl (Bs _);rw [hMj] at d0 d1 d2 d3;clear hMj;have ha:=(Br wr wr).alloc (Bs _) (.cells #[J U l[j].prio,J U l[j].seq,J U l[j].run,J U l[j].task] 163);have V:=DBox.new 163 [J U l[j].prio,J U l[j].seq,J U l[j].run,J U l[j].task] wr rfl;have C:=HDel.out _ l[j] (hC.trans (Chg.of_below [b] ha));have HMl:=Bq hML;clear hML;cases q:pred l[j]
   ·have S:=Bq (hK.out.keep aA rJ q);rw [q] at C;go_wp2_with fail
    refine C.mono ?_;rintro e w3 ⟨rfl,b3⟩;replace V:=V.below b3;have qD:=Bu ha b3;have V_:=V.g4;have R3:=(hR.below qD).more qD.size;have F3:∀ t,w3.frozen? ⟨b,t,Ab⟩=false:=fun t=>(qD.frozen (p:=⟨b,t,Ab⟩) cQ).trans (hF.out t);obtain ⟨b',o',hA,cD,f0,f1,f2,f3⟩:=R3.ent_ (k:=i) (by rw [HMl.out];omega);simp only [Option.some.injEq,Addr.mk.injEq,and_true] at hA;obtain ⟨rfl,rfl⟩:=hA;have R4:=Bq (R3.part i (by rw [HMl.out];omega) l[j] 0 (Cy.cells l[j]) (by rw [Cy.len];omega) (fun t ht=>by rw [Nat.zero_add];exact List.getElem?_eq_getElem ht) (fun t ht h=>by rw [Cy.len] at h;omega));go_wp2;have hw:Hz w3 b (o+i * Cy.sz+0) (Cy.cells l[j])=((((w3.setCell ⟨b,o+i * 4,Ab⟩ (J U l[j].prio)).setCell ⟨b,o+i * 4+1,Ab⟩ (J U l[j].seq)).setCell ⟨b,o+i * 4+2,Ab⟩ (J U l[j].run)).setCell ⟨b,o+i * 4+3,Ab⟩ (J U l[j].task)):=rfl;have R5:=R4.out;have C4:=Iv (Cy.cells l[j]) w3 b (o+i * Cy.sz+0);have Z4:=Jq (Cy.cells l[j]) w3 b (o+i * Cy.sz+0);have F4:∀ t,(Hz w3 b (o+i * Cy.sz+0) (Cy.cells l[j])).frozen? ⟨b,t,Ab⟩=false:=fun t=>by rw [Iw];exact F3 t
    rw [hw] at R5 C4 Z4 F4;have C5:=(hC.trans (Chg.of_below [b] qD)).trans C4;have R6:=R5.more (Nat.le_of_eq Z4.symm);first
     | exact ⟨⟨i+1,Bl,j+1,Bl,by go_num,by go_num,_,S,R6,F4,C5⟩,by simp [intOf];omega⟩
     | exact ⟨⟨i+1,j+1,_,Bl,Bl,by go_num,by go_num,S,R6,F4,C5⟩,by simp [intOf];omega⟩
     | (refine ⟨?_,by simp [intOf];omega⟩;(repeat apply Exists.intro);first | exact ⟨⟨i+1,j+1,_,Bl,Bl,by go_num,by go_num,S,R6,F4,C5⟩,rfl⟩ | exact ⟨⟨i+1,j+1,_,Bl,Bl,by go_num,by go_num,S,R6,F4,C5⟩,rfl,rfl⟩ | exact ⟨⟨i+1,j+1,_,Bl,Bl,by go_num,by go_num,S,R6,F4,C5⟩,rfl,rfl,rfl⟩ | exact ⟨⟨i+1,j+1,_,Bl,Bl,by go_num,by go_num,S,R6,F4,C5⟩,rfl,rfl,rfl,rfl⟩ | exact ⟨⟨i+1,j+1,_,Bl,Bl,by go_num,by go_num,S,R6,F4,C5⟩,rfl,rfl,rfl,rfl,rfl⟩ | exact ⟨⟨i+1,j+1,_,Bl,Bl,by go_num,by go_num,S,R6,F4,C5⟩,rfl,rfl,rfl,rfl,rfl,rfl⟩ | exact ⟨⟨i+1,j+1,_,Bl,Bl,by go_num,by go_num,S,R6,F4,C5⟩,rfl,rfl,rfl,rfl,rfl,rfl,rfl⟩)
   ·have S:=Bq (hK.out.drop aA q);rw [q] at C;go_wp2_with fail
    refine C.mono ?_;rintro e w3 ⟨rfl,b3⟩;have qD:=Bu ha b3;have R3:=(hR.below qD).more qD.size;have F3:Hid (∀ t,w3.frozen? ⟨b,t,Ab⟩=false):=fun t=>(qD.frozen (p:=⟨b,t,Ab⟩) cQ).trans (hF.out t);have C5:=hC.trans (Chg.of_below [b] qD);go_wp2;first
     | exact ⟨⟨i,j+1,M,Bl,Bl,rfl,by go_num,S,R3,F3,C5⟩,by simp [intOf];omega⟩
     | (refine ⟨?_,by simp [intOf];omega⟩;(repeat apply Exists.intro);first | exact ⟨⟨i,j+1,M,Bl,Bl,rfl,by go_num,S,R3,F3,C5⟩,rfl⟩ | exact ⟨⟨i,j+1,M,Bl,Bl,rfl,by go_num,S,R3,F3,C5⟩,rfl,rfl⟩ | exact ⟨⟨i,j+1,M,Bl,Bl,rfl,by go_num,S,R3,F3,C5⟩,rfl,rfl,rfl⟩ | exact ⟨⟨i,j+1,M,Bl,Bl,rfl,by go_num,S,R3,F3,C5⟩,rfl,rfl,rfl,rfl⟩ | exact ⟨⟨i,j+1,M,Bl,Bl,rfl,by go_num,S,R3,F3,C5⟩,rfl,rfl,rfl,rfl,rfl⟩ | exact ⟨⟨i,j+1,M,Bl,Bl,rfl,by go_num,S,R3,F3,C5⟩,rfl,rfl,rfl,rfl,rfl,rfl⟩ | exact ⟨⟨i,j+1,M,Bl,Bl,rfl,by go_num,S,R3,F3,C5⟩,rfl,rfl,rfl,rfl,rfl,rfl,rfl⟩)
  ·have aB:¬ (j:Int)<(l.length:Int):=Bl;have HH:=Bq (show M.take i=l.filter fun x=>!pred x by rw [hK.out.head,Bg Bl]);have hcl:l.length<=c:=by have:=hR.cap;omega
   have kz:∀ w,(zeroValue 163).run Am w = .ok (.agg #[J U 0,J U 0,J U 0,J U 0]) w:=fun w=>by
    obtain ⟨i0,aR,aX,aW,aU⟩:=info_parts Gg;simp [zeroValue,typeInfo,aR,aX]
   have kc:=Ny (P:=Am) wr 122 163 0 (.agg #[J U 0,J U 0,J U 0,J U 0]) underlying122 kz b (o+i * 4) (l.length - i) (c - i) Bl (fun v hv=>by
     simp [Value.cells] at hv;try subst hv
     rfl) (fun q hq=>by
     have hq':q<(l.length - i) * 4:=hq
     have:=hR.some_ Bp (i * 4+q) (by
      show _<M.length * 4;rw [hML];have h3:l.length * 4=i * 4+(l.length - i) * 4:=by rw [<-Nat.add_mul];congr 1;omega
      omega)
     rw [Nat.add_assoc];exact this) hF.out
   go_wp2;clear kc;go_ret;have Rc:=hR.clear i Bl (Builtin.zeroCells #[J U 0,J U 0,J U 0,J U 0] (l.length - i)).toList;rw [HH.out] at Rc;have Cc:=hC.trans (Iv (Builtin.zeroCells #[J U 0,J U 0,J U 0,J U 0] (l.length - i)).toList wr b (o+i * 4));have Rw:=Hw.of_rd (Rc.more (Nat.le_of_eq (Jq _ _ _ _).symm)) (fun t=>by rw [Iw];exact hF.out t);refine ⟨i,_,rfl,Rw,fun x hx=>?_,Cc⟩
   have:=Ht _ _ _ hx
   have:b=x:=by simpa [Value.ownBlock] using this
   simp [this]
theorem Aba (d:Deed) (s:Sl) (w:World) (hk:d.kind=1) (h:Ec.rd w w d s) :
  Calls Am 64 #[De d s] w fun e w'=>e = .returned (.bool (Dl d))/\Below w w w':=by
 have h2:Cd.rd w w d.plan s:=h;have HR:=Bq (show ∀ W,Below w w W->Cd.rd W W d.plan s from fun W hW=>Cd.rd_more (Cd.rd_below h2 hW) hW.size);clear h h2;obtain ⟨A,n,c⟩:=s;obtain ⟨kd,rn,p,tk,ty,wk,dr⟩:=d;obtain rfl:kd=1:=hk;have X:=DBox.new 38 [J U 1,J U rn,J U p.prio,J U p.most,J U p.wait,J U p.tasks,Aa A n c,J U tk,J U ty,J U wk,J U dr] w (b:=w) rfl;have B0:Below w w (w.alloc (.cells #[J U 1,J U rn,J U p.prio,J U p.most,J U p.wait,J U p.tasks,Aa A n c,J U tk,J U ty,J U wk,J U dr] 38)):=by repeat (first | exact Br _ _ | refine Ae ?_ Bo _)
 have e0:inB 1 1 8=true:=rfl;have HD:=Bq (show Dl ⟨1,rn,p,tk,ty,wk,dr⟩=(Fc rn && (tk == 0) && (ty == 0) && (wk == 0) && (dr == 0) && E6 p) by simp [Dl,inB,Bool.and_assoc]);by_cases a0:inB rn 0 1000000000=false;rotate_left;replace a0:inB rn 0 1000000000=true:=by simpa using a0
 by_cases a1:(tk != 0)=true;rotate_left;replace a1:(tk != 0)=false:=by simpa using a1
 by_cases a2:(ty != 0)=true;rotate_left;replace a2:(ty != 0)=false:=by simpa using a2
 by_cases a3:(wk != 0)=true;rotate_left;replace a3:(wk != 0)=false:=by simpa using a3
 by_cases a4:(dr != 0)=true;rotate_left;replace a4:(dr != 0)=false:=by simpa using a4
 ·have H:=Bq (show Dl ⟨1,rn,p,tk,ty,wk,dr⟩=E6 p by rw [HD.out];simp only [bne_eq_false_iff_eq] at a0 a1 a2 a3 a4;simp [Fc, *]);have C:=S8 p ⟨A,n,c⟩ _ (HR.out _ B0);go_enter func64,ntmps64;go_upto_region 6 with (first | (go_at_call 84;refine (Cr _ _).mono ?_;rintro e w9 ⟨rfl,rfl⟩;(try (with_reducible first | rw [e0] | rw [a0] | rw [a1] | rw [a2] | rw [a3] | rw [a4]));dsimp only) | (go_at_call 63;refine (Cg _ _ _ _).mono ?_;rintro e w9 ⟨rfl,rfl⟩;(try (with_reducible first | rw [e0] | rw [a0] | rw [a1] | rw [a2] | rw [a3] | rw [a4]));dsimp only) | (go_at_call 121;refine C.mono ?_;rintro e w1 ⟨rfl,b1⟩))
  dsimp only [List.append];go_wp2_with (first | (go_at_call 84;refine (Cr _ _).mono ?_;rintro e w9 ⟨rfl,rfl⟩;(try (with_reducible first | rw [e0] | rw [a0] | rw [a1] | rw [a2] | rw [a3] | rw [a4]));dsimp only) | (go_at_call 63;refine (Cg _ _ _ _).mono ?_;rintro e w9 ⟨rfl,rfl⟩;(try (with_reducible first | rw [e0] | rw [a0] | rw [a1] | rw [a2] | rw [a3] | rw [a4]));dsimp only) | (go_at_call 121;refine C.mono ?_;rintro e w1 ⟨rfl,b1⟩))
  go_ret;exact ⟨Bw H.out.symm,Bu B0 b1⟩
 all_goals
  have H:=Bq (show Dl ⟨1,rn,p,tk,ty,wk,dr⟩=false by rw [HD.out];simp only [bne_eq_false_iff_eq,bne_iff_ne] at *;simp [Fc, *]);go_enter func64,ntmps64;go_upto_region 6 with (first | (go_at_call 84;refine (Cr _ _).mono ?_;rintro e w9 ⟨rfl,rfl⟩;(try (with_reducible first | rw [e0] | rw [a0] | rw [a1] | rw [a2] | rw [a3] | rw [a4]));dsimp only) | (go_at_call 63;refine (Cg _ _ _ _).mono ?_;rintro e w9 ⟨rfl,rfl⟩;(try (with_reducible first | rw [e0] | rw [a0] | rw [a1] | rw [a2] | rw [a3] | rw [a4]));dsimp only))
  dsimp only [List.append];go_wp2_with (first | (go_at_call 84;refine (Cr _ _).mono ?_;rintro e w9 ⟨rfl,rfl⟩;(try (with_reducible first | rw [e0] | rw [a0] | rw [a1] | rw [a2] | rw [a3] | rw [a4]));dsimp only) | (go_at_call 63;refine (Cg _ _ _ _).mono ?_;rintro e w9 ⟨rfl,rfl⟩;(try (with_reducible first | rw [e0] | rw [a0] | rw [a1] | rw [a2] | rw [a3] | rw [a4]));dsimp only))
  go_ret;exact ⟨Bw H.out.symm,B0⟩
theorem Abb (d:Deed) (s:Sl) (w:World) (hk:d.kind=2) (h:Ec.rd w w d s) :
  Calls Am 64 #[De d s] w fun e w'=>e = .returned (.bool (Dl d))/\Below w w w':=by
 have h2:Cd.rd w w d.plan s:=h;have HR:=Bq (show ∀ W,Below w w W->Cd.rd W W d.plan s from fun W hW=>Cd.rd_more (Cd.rd_below h2 hW) hW.size);clear h h2;obtain ⟨A,n,c⟩:=s;obtain ⟨kd,rn,p,tk,ty,wk,dr⟩:=d;obtain rfl:kd=2:=hk;have X:=DBox.new 38 [J U 2,J U rn,J U p.prio,J U p.most,J U p.wait,J U p.tasks,Aa A n c,J U tk,J U ty,J U wk,J U dr] w (b:=w) rfl;have B0:Below w w (w.alloc (.cells #[J U 2,J U rn,J U p.prio,J U p.most,J U p.wait,J U p.tasks,Aa A n c,J U tk,J U ty,J U wk,J U dr] 38)):=by repeat (first | exact Br _ _ | refine Ae ?_ Bo _)
 have e0:inB 2 1 8=true:=rfl;have HD:=Bq (show Dl ⟨2,rn,p,tk,ty,wk,dr⟩=((rn == 0) && (tk == 0) && (ty == 0) && Fc wk && Fc dr && Fd p) by simp [Dl,inB,Bool.and_assoc]);by_cases a0:(rn != 0)=true;rotate_left;replace a0:(rn != 0)=false:=by simpa using a0
 by_cases a1:(tk != 0)=true;rotate_left;replace a1:(tk != 0)=false:=by simpa using a1
 by_cases a2:(ty != 0)=true;rotate_left;replace a2:(ty != 0)=false:=by simpa using a2
 by_cases a3:inB wk 0 1000000000=false;rotate_left;replace a3:inB wk 0 1000000000=true:=by simpa using a3
 by_cases a4:inB dr 0 1000000000=false;rotate_left;replace a4:inB dr 0 1000000000=true:=by simpa using a4
 ·have H:=Bq (show Dl ⟨2,rn,p,tk,ty,wk,dr⟩=Fd p by rw [HD.out];simp only [bne_eq_false_iff_eq] at a0 a1 a2 a3 a4;simp [Fc, *]);have C:=Hf p ⟨A,n,c⟩ _ (HR.out _ B0);go_enter func64,ntmps64;go_upto_region 6 with (first | (go_at_call 84;refine (Cr _ _).mono ?_;rintro e w9 ⟨rfl,rfl⟩;(try (with_reducible first | rw [e0] | rw [a0] | rw [a1] | rw [a2] | rw [a3] | rw [a4]));dsimp only) | (go_at_call 63;refine (Cg _ _ _ _).mono ?_;rintro e w9 ⟨rfl,rfl⟩;(try (with_reducible first | rw [e0] | rw [a0] | rw [a1] | rw [a2] | rw [a3] | rw [a4]));dsimp only) | (go_at_call 122;refine C.mono ?_;rintro e w1 ⟨rfl,b1⟩))
  dsimp only [List.append];go_wp2_with (first | (go_at_call 84;refine (Cr _ _).mono ?_;rintro e w9 ⟨rfl,rfl⟩;(try (with_reducible first | rw [e0] | rw [a0] | rw [a1] | rw [a2] | rw [a3] | rw [a4]));dsimp only) | (go_at_call 63;refine (Cg _ _ _ _).mono ?_;rintro e w9 ⟨rfl,rfl⟩;(try (with_reducible first | rw [e0] | rw [a0] | rw [a1] | rw [a2] | rw [a3] | rw [a4]));dsimp only) | (go_at_call 122;refine C.mono ?_;rintro e w1 ⟨rfl,b1⟩))
  go_ret;exact ⟨Bw H.out.symm,Bu B0 b1⟩
 all_goals
  have H:=Bq (show Dl ⟨2,rn,p,tk,ty,wk,dr⟩=false by rw [HD.out];simp only [bne_eq_false_iff_eq,bne_iff_ne] at *;simp [Fc, *]);go_enter func64,ntmps64;go_upto_region 6 with (first | (go_at_call 84;refine (Cr _ _).mono ?_;rintro e w9 ⟨rfl,rfl⟩;(try (with_reducible first | rw [e0] | rw [a0] | rw [a1] | rw [a2] | rw [a3] | rw [a4]));dsimp only) | (go_at_call 63;refine (Cg _ _ _ _).mono ?_;rintro e w9 ⟨rfl,rfl⟩;(try (with_reducible first | rw [e0] | rw [a0] | rw [a1] | rw [a2] | rw [a3] | rw [a4]));dsimp only))
  dsimp only [List.append];go_wp2_with (first | (go_at_call 84;refine (Cr _ _).mono ?_;rintro e w9 ⟨rfl,rfl⟩;(try (with_reducible first | rw [e0] | rw [a0] | rw [a1] | rw [a2] | rw [a3] | rw [a4]));dsimp only) | (go_at_call 63;refine (Cg _ _ _ _).mono ?_;rintro e w9 ⟨rfl,rfl⟩;(try (with_reducible first | rw [e0] | rw [a0] | rw [a1] | rw [a2] | rw [a3] | rw [a4]));dsimp only))
  go_ret;exact ⟨Bw H.out.symm,B0⟩
theorem Abc (d:Deed) (s:Sl) (w:World) (hk:d.kind=3) (h:Ec.rd w w d s) :
  Calls Am 64 #[De d s] w fun e w'=>e = .returned (.bool (Dl d))/\Below w w w':=by
 have h2:Cd.rd w w d.plan s:=h;have HR:=Bq (show ∀ W,Below w w W->Cd.rd W W d.plan s from fun W hW=>Cd.rd_more (Cd.rd_below h2 hW) hW.size);clear h h2;obtain ⟨A,n,c⟩:=s;obtain ⟨kd,rn,p,tk,ty,wk,dr⟩:=d;obtain rfl:kd=3:=hk;have X:=DBox.new 38 [J U 3,J U rn,J U p.prio,J U p.most,J U p.wait,J U p.tasks,Aa A n c,J U tk,J U ty,J U wk,J U dr] w (b:=w) rfl;have B0:Below w w (w.alloc (.cells #[J U 3,J U rn,J U p.prio,J U p.most,J U p.wait,J U p.tasks,Aa A n c,J U tk,J U ty,J U wk,J U dr] 38)):=by repeat (first | exact Br _ _ | refine Ae ?_ Bo _)
 have e0:inB 3 1 8=true:=rfl;have HD:=Bq (show Dl ⟨3,rn,p,tk,ty,wk,dr⟩=(Fc rn && Fc tk && Fc ty && (wk == 0) && (dr == 0) && Fd p) by simp [Dl,inB,Bool.and_assoc]);by_cases a0:inB rn 0 1000000000=false;rotate_left;replace a0:inB rn 0 1000000000=true:=by simpa using a0
 by_cases a1:inB tk 0 1000000000=false;rotate_left;replace a1:inB tk 0 1000000000=true:=by simpa using a1
 by_cases a2:inB ty 0 1000000000=false;rotate_left;replace a2:inB ty 0 1000000000=true:=by simpa using a2
 by_cases a3:(wk != 0)=true;rotate_left;replace a3:(wk != 0)=false:=by simpa using a3
 by_cases a4:(dr != 0)=true;rotate_left;replace a4:(dr != 0)=false:=by simpa using a4
 ·have H:=Bq (show Dl ⟨3,rn,p,tk,ty,wk,dr⟩=Fd p by rw [HD.out];simp only [bne_eq_false_iff_eq] at a0 a1 a2 a3 a4;simp [Fc, *]);have C:=Hf p ⟨A,n,c⟩ _ (HR.out _ B0);go_enter func64,ntmps64;go_upto_region 6 with (first | (go_at_call 84;refine (Cr _ _).mono ?_;rintro e w9 ⟨rfl,rfl⟩;(try (with_reducible first | rw [e0] | rw [a0] | rw [a1] | rw [a2] | rw [a3] | rw [a4]));dsimp only) | (go_at_call 63;refine (Cg _ _ _ _).mono ?_;rintro e w9 ⟨rfl,rfl⟩;(try (with_reducible first | rw [e0] | rw [a0] | rw [a1] | rw [a2] | rw [a3] | rw [a4]));dsimp only) | (go_at_call 122;refine C.mono ?_;rintro e w1 ⟨rfl,b1⟩))
  dsimp only [List.append];go_wp2_with (first | (go_at_call 84;refine (Cr _ _).mono ?_;rintro e w9 ⟨rfl,rfl⟩;(try (with_reducible first | rw [e0] | rw [a0] | rw [a1] | rw [a2] | rw [a3] | rw [a4]));dsimp only) | (go_at_call 63;refine (Cg _ _ _ _).mono ?_;rintro e w9 ⟨rfl,rfl⟩;(try (with_reducible first | rw [e0] | rw [a0] | rw [a1] | rw [a2] | rw [a3] | rw [a4]));dsimp only) | (go_at_call 122;refine C.mono ?_;rintro e w1 ⟨rfl,b1⟩))
  go_ret;exact ⟨Bw H.out.symm,Bu B0 b1⟩
 all_goals
  have H:=Bq (show Dl ⟨3,rn,p,tk,ty,wk,dr⟩=false by rw [HD.out];simp only [bne_eq_false_iff_eq,bne_iff_ne] at *;simp [Fc, *]);go_enter func64,ntmps64;go_upto_region 6 with (first | (go_at_call 84;refine (Cr _ _).mono ?_;rintro e w9 ⟨rfl,rfl⟩;(try (with_reducible first | rw [e0] | rw [a0] | rw [a1] | rw [a2] | rw [a3] | rw [a4]));dsimp only) | (go_at_call 63;refine (Cg _ _ _ _).mono ?_;rintro e w9 ⟨rfl,rfl⟩;(try (with_reducible first | rw [e0] | rw [a0] | rw [a1] | rw [a2] | rw [a3] | rw [a4]));dsimp only))
  dsimp only [List.append];go_wp2_with (first | (go_at_call 84;refine (Cr _ _).mono ?_;rintro e w9 ⟨rfl,rfl⟩;(try (with_reducible first | rw [e0] | rw [a0] | rw [a1] | rw [a2] | rw [a3] | rw [a4]));dsimp only) | (go_at_call 63;refine (Cg _ _ _ _).mono ?_;rintro e w9 ⟨rfl,rfl⟩;(try (with_reducible first | rw [e0] | rw [a0] | rw [a1] | rw [a2] | rw [a3] | rw [a4]));dsimp only))
  go_ret;exact ⟨Bw H.out.symm,B0⟩
theorem Abd (d:Deed) (s:Sl) (w:World) (hk:d.kind=4) (h:Ec.rd w w d s) :
  Calls Am 64 #[De d s] w fun e w'=>e = .returned (.bool (Dl d))/\Below w w w':=by
 have h2:Cd.rd w w d.plan s:=h;have HR:=Bq (show ∀ W,Below w w W->Cd.rd W W d.plan s from fun W hW=>Cd.rd_more (Cd.rd_below h2 hW) hW.size);clear h h2;obtain ⟨A,n,c⟩:=s;obtain ⟨kd,rn,p,tk,ty,wk,dr⟩:=d;obtain rfl:kd=4:=hk;have X:=DBox.new 38 [J U 4,J U rn,J U p.prio,J U p.most,J U p.wait,J U p.tasks,Aa A n c,J U tk,J U ty,J U wk,J U dr] w (b:=w) rfl;have B0:Below w w (w.alloc (.cells #[J U 4,J U rn,J U p.prio,J U p.most,J U p.wait,J U p.tasks,Aa A n c,J U tk,J U ty,J U wk,J U dr] 38)):=by repeat (first | exact Br _ _ | refine Ae ?_ Bo _)
 have e0:inB 4 1 8=true:=rfl;have HD:=Bq (show Dl ⟨4,rn,p,tk,ty,wk,dr⟩=(Fc rn && Fc tk && Fc ty && (wk == 0) && (dr == 0) && Fd p) by simp [Dl,inB,Bool.and_assoc]);by_cases a0:inB rn 0 1000000000=false;rotate_left;replace a0:inB rn 0 1000000000=true:=by simpa using a0
 by_cases a1:inB tk 0 1000000000=false;rotate_left;replace a1:inB tk 0 1000000000=true:=by simpa using a1
 by_cases a2:inB ty 0 1000000000=false;rotate_left;replace a2:inB ty 0 1000000000=true:=by simpa using a2
 by_cases a3:(wk != 0)=true;rotate_left;replace a3:(wk != 0)=false:=by simpa using a3
 by_cases a4:(dr != 0)=true;rotate_left;replace a4:(dr != 0)=false:=by simpa using a4
 ·have H:=Bq (show Dl ⟨4,rn,p,tk,ty,wk,dr⟩=Fd p by rw [HD.out];simp only [bne_eq_false_iff_eq] at a0 a1 a2 a3 a4;simp [Fc, *]);have C:=Hf p ⟨A,n,c⟩ _ (HR.out _ B0);go_enter func64,ntmps64;go_upto_region 6 with (first | (go_at_call 84;refine (Cr _ _).mono ?_;rintro e w9 ⟨rfl,rfl⟩;(try (with_reducible first | rw [e0] | rw [a0] | rw [a1] | rw [a2] | rw [a3] | rw [a4]));dsimp only) | (go_at_call 63;refine (Cg _ _ _ _).mono ?_;rintro e w9 ⟨rfl,rfl⟩;(try (with_reducible first | rw [e0] | rw [a0] | rw [a1] | rw [a2] | rw [a3] | rw [a4]));dsimp only) | (go_at_call 122;refine C.mono ?_;rintro e w1 ⟨rfl,b1⟩))
  dsimp only [List.append];go_wp2_with (first | (go_at_call 84;refine (Cr _ _).mono ?_;rintro e w9 ⟨rfl,rfl⟩;(try (with_reducible first | rw [e0] | rw [a0] | rw [a1] | rw [a2] | rw [a3] | rw [a4]));dsimp only) | (go_at_call 63;refine (Cg _ _ _ _).mono ?_;rintro e w9 ⟨rfl,rfl⟩;(try (with_reducible first | rw [e0] | rw [a0] | rw [a1] | rw [a2] | rw [a3] | rw [a4]));dsimp only) | (go_at_call 122;refine C.mono ?_;rintro e w1 ⟨rfl,b1⟩))
  go_ret;exact ⟨Bw H.out.symm,Bu B0 b1⟩
 all_goals
  have H:=Bq (show Dl ⟨4,rn,p,tk,ty,wk,dr⟩=false by rw [HD.out];simp only [bne_eq_false_iff_eq,bne_iff_ne] at *;simp [Fc, *]);go_enter func64,ntmps64;go_upto_region 6 with (first | (go_at_call 84;refine (Cr _ _).mono ?_;rintro e w9 ⟨rfl,rfl⟩;(try (with_reducible first | rw [e0] | rw [a0] | rw [a1] | rw [a2] | rw [a3] | rw [a4]));dsimp only) | (go_at_call 63;refine (Cg _ _ _ _).mono ?_;rintro e w9 ⟨rfl,rfl⟩;(try (with_reducible first | rw [e0] | rw [a0] | rw [a1] | rw [a2] | rw [a3] | rw [a4]));dsimp only))
  dsimp only [List.append];go_wp2_with (first | (go_at_call 84;refine (Cr _ _).mono ?_;rintro e w9 ⟨rfl,rfl⟩;(try (with_reducible first | rw [e0] | rw [a0] | rw [a1] | rw [a2] | rw [a3] | rw [a4]));dsimp only) | (go_at_call 63;refine (Cg _ _ _ _).mono ?_;rintro e w9 ⟨rfl,rfl⟩;(try (with_reducible first | rw [e0] | rw [a0] | rw [a1] | rw [a2] | rw [a3] | rw [a4]));dsimp only))
  go_ret;exact ⟨Bw H.out.symm,B0⟩
theorem Abe (d:Deed) (s:Sl) (w:World) (hk:d.kind=5) (h:Ec.rd w w d s) :
  Calls Am 64 #[De d s] w fun e w'=>e = .returned (.bool (Dl d))/\Below w w w':=by
 have h2:Cd.rd w w d.plan s:=h;have HR:=Bq (show ∀ W,Below w w W->Cd.rd W W d.plan s from fun W hW=>Cd.rd_more (Cd.rd_below h2 hW) hW.size);clear h h2;obtain ⟨A,n,c⟩:=s;obtain ⟨kd,rn,p,tk,ty,wk,dr⟩:=d;obtain rfl:kd=5:=hk;have X:=DBox.new 38 [J U 5,J U rn,J U p.prio,J U p.most,J U p.wait,J U p.tasks,Aa A n c,J U tk,J U ty,J U wk,J U dr] w (b:=w) rfl;have B0:Below w w (w.alloc (.cells #[J U 5,J U rn,J U p.prio,J U p.most,J U p.wait,J U p.tasks,Aa A n c,J U tk,J U ty,J U wk,J U dr] 38)):=by repeat (first | exact Br _ _ | refine Ae ?_ Bo _)
 have e0:inB 5 1 8=true:=rfl;have HD:=Bq (show Dl ⟨5,rn,p,tk,ty,wk,dr⟩=((rn == 0) && (tk == 0) && (ty == 0) && (wk == 0) && (dr == 0) && Fd p) by simp [Dl,inB,Bool.and_assoc]);by_cases a0:(rn != 0)=true;rotate_left;replace a0:(rn != 0)=false:=by simpa using a0
 by_cases a1:(tk != 0)=true;rotate_left;replace a1:(tk != 0)=false:=by simpa using a1
 by_cases a2:(ty != 0)=true;rotate_left;replace a2:(ty != 0)=false:=by simpa using a2
 by_cases a3:(wk != 0)=true;rotate_left;replace a3:(wk != 0)=false:=by simpa using a3
 by_cases a4:(dr != 0)=true;rotate_left;replace a4:(dr != 0)=false:=by simpa using a4
 ·have H:=Bq (show Dl ⟨5,rn,p,tk,ty,wk,dr⟩=Fd p by rw [HD.out];simp only [bne_eq_false_iff_eq] at a0 a1 a2 a3 a4;simp [Fc, *]);have C:=Hf p ⟨A,n,c⟩ _ (HR.out _ B0);go_enter func64,ntmps64;go_upto_region 6 with (first | (go_at_call 84;refine (Cr _ _).mono ?_;rintro e w9 ⟨rfl,rfl⟩;(try (with_reducible first | rw [e0] | rw [a0] | rw [a1] | rw [a2] | rw [a3] | rw [a4]));dsimp only) | (go_at_call 63;refine (Cg _ _ _ _).mono ?_;rintro e w9 ⟨rfl,rfl⟩;(try (with_reducible first | rw [e0] | rw [a0] | rw [a1] | rw [a2] | rw [a3] | rw [a4]));dsimp only) | (go_at_call 122;refine C.mono ?_;rintro e w1 ⟨rfl,b1⟩))
  dsimp only [List.append];go_wp2_with (first | (go_at_call 84;refine (Cr _ _).mono ?_;rintro e w9 ⟨rfl,rfl⟩;(try (with_reducible first | rw [e0] | rw [a0] | rw [a1] | rw [a2] | rw [a3] | rw [a4]));dsimp only) | (go_at_call 63;refine (Cg _ _ _ _).mono ?_;rintro e w9 ⟨rfl,rfl⟩;(try (with_reducible first | rw [e0] | rw [a0] | rw [a1] | rw [a2] | rw [a3] | rw [a4]));dsimp only) | (go_at_call 122;refine C.mono ?_;rintro e w1 ⟨rfl,b1⟩))
  go_ret;exact ⟨Bw H.out.symm,Bu B0 b1⟩
 all_goals
  have H:=Bq (show Dl ⟨5,rn,p,tk,ty,wk,dr⟩=false by rw [HD.out];simp only [bne_eq_false_iff_eq,bne_iff_ne] at *;simp [Fc, *]);go_enter func64,ntmps64;go_upto_region 6 with (first | (go_at_call 84;refine (Cr _ _).mono ?_;rintro e w9 ⟨rfl,rfl⟩;(try (with_reducible first | rw [e0] | rw [a0] | rw [a1] | rw [a2] | rw [a3] | rw [a4]));dsimp only) | (go_at_call 63;refine (Cg _ _ _ _).mono ?_;rintro e w9 ⟨rfl,rfl⟩;(try (with_reducible first | rw [e0] | rw [a0] | rw [a1] | rw [a2] | rw [a3] | rw [a4]));dsimp only))
  dsimp only [List.append];go_wp2_with (first | (go_at_call 84;refine (Cr _ _).mono ?_;rintro e w9 ⟨rfl,rfl⟩;(try (with_reducible first | rw [e0] | rw [a0] | rw [a1] | rw [a2] | rw [a3] | rw [a4]));dsimp only) | (go_at_call 63;refine (Cg _ _ _ _).mono ?_;rintro e w9 ⟨rfl,rfl⟩;(try (with_reducible first | rw [e0] | rw [a0] | rw [a1] | rw [a2] | rw [a3] | rw [a4]));dsimp only))
  go_ret;exact ⟨Bw H.out.symm,B0⟩
theorem Abf (d:Deed) (s:Sl) (w:World) (hk:d.kind=8) (h:Ec.rd w w d s) :
  Calls Am 64 #[De d s] w fun e w'=>e = .returned (.bool (Dl d))/\Below w w w':=by
 have h2:Cd.rd w w d.plan s:=h;have HR:=Bq (show ∀ W,Below w w W->Cd.rd W W d.plan s from fun W hW=>Cd.rd_more (Cd.rd_below h2 hW) hW.size);clear h h2;obtain ⟨A,n,c⟩:=s;obtain ⟨kd,rn,p,tk,ty,wk,dr⟩:=d;obtain rfl:kd=8:=hk;have X:=DBox.new 38 [J U 8,J U rn,J U p.prio,J U p.most,J U p.wait,J U p.tasks,Aa A n c,J U tk,J U ty,J U wk,J U dr] w (b:=w) rfl;have B0:Below w w (w.alloc (.cells #[J U 8,J U rn,J U p.prio,J U p.most,J U p.wait,J U p.tasks,Aa A n c,J U tk,J U ty,J U wk,J U dr] 38)):=by repeat (first | exact Br _ _ | refine Ae ?_ Bo _)
 have e0:inB 8 1 8=true:=rfl;have HD:=Bq (show Dl ⟨8,rn,p,tk,ty,wk,dr⟩=((rn == 0) && (tk == 0) && (ty == 0) && (wk == 0) && (dr == 0) && Fd p) by simp [Dl,inB,Bool.and_assoc]);by_cases a0:(rn != 0)=true;rotate_left;replace a0:(rn != 0)=false:=by simpa using a0
 by_cases a1:(tk != 0)=true;rotate_left;replace a1:(tk != 0)=false:=by simpa using a1
 by_cases a2:(ty != 0)=true;rotate_left;replace a2:(ty != 0)=false:=by simpa using a2
 by_cases a3:(wk != 0)=true;rotate_left;replace a3:(wk != 0)=false:=by simpa using a3
 by_cases a4:(dr != 0)=true;rotate_left;replace a4:(dr != 0)=false:=by simpa using a4
 ·have H:=Bq (show Dl ⟨8,rn,p,tk,ty,wk,dr⟩=Fd p by rw [HD.out];simp only [bne_eq_false_iff_eq] at a0 a1 a2 a3 a4;simp [Fc, *]);have C:=Hf p ⟨A,n,c⟩ _ (HR.out _ B0);go_enter func64,ntmps64;go_upto_region 6 with (first | (go_at_call 84;refine (Cr _ _).mono ?_;rintro e w9 ⟨rfl,rfl⟩;(try (with_reducible first | rw [e0] | rw [a0] | rw [a1] | rw [a2] | rw [a3] | rw [a4]));dsimp only) | (go_at_call 63;refine (Cg _ _ _ _).mono ?_;rintro e w9 ⟨rfl,rfl⟩;(try (with_reducible first | rw [e0] | rw [a0] | rw [a1] | rw [a2] | rw [a3] | rw [a4]));dsimp only) | (go_at_call 122;refine C.mono ?_;rintro e w1 ⟨rfl,b1⟩))
  dsimp only [List.append];go_wp2_with (first | (go_at_call 84;refine (Cr _ _).mono ?_;rintro e w9 ⟨rfl,rfl⟩;(try (with_reducible first | rw [e0] | rw [a0] | rw [a1] | rw [a2] | rw [a3] | rw [a4]));dsimp only) | (go_at_call 63;refine (Cg _ _ _ _).mono ?_;rintro e w9 ⟨rfl,rfl⟩;(try (with_reducible first | rw [e0] | rw [a0] | rw [a1] | rw [a2] | rw [a3] | rw [a4]));dsimp only) | (go_at_call 122;refine C.mono ?_;rintro e w1 ⟨rfl,b1⟩))
  go_ret;exact ⟨Bw H.out.symm,Bu B0 b1⟩
 all_goals
  have H:=Bq (show Dl ⟨8,rn,p,tk,ty,wk,dr⟩=false by rw [HD.out];simp only [bne_eq_false_iff_eq,bne_iff_ne] at *;simp [Fc, *]);go_enter func64,ntmps64;go_upto_region 6 with (first | (go_at_call 84;refine (Cr _ _).mono ?_;rintro e w9 ⟨rfl,rfl⟩;(try (with_reducible first | rw [e0] | rw [a0] | rw [a1] | rw [a2] | rw [a3] | rw [a4]));dsimp only) | (go_at_call 63;refine (Cg _ _ _ _).mono ?_;rintro e w9 ⟨rfl,rfl⟩;(try (with_reducible first | rw [e0] | rw [a0] | rw [a1] | rw [a2] | rw [a3] | rw [a4]));dsimp only))
  dsimp only [List.append];go_wp2_with (first | (go_at_call 84;refine (Cr _ _).mono ?_;rintro e w9 ⟨rfl,rfl⟩;(try (with_reducible first | rw [e0] | rw [a0] | rw [a1] | rw [a2] | rw [a3] | rw [a4]));dsimp only) | (go_at_call 63;refine (Cg _ _ _ _).mono ?_;rintro e w9 ⟨rfl,rfl⟩;(try (with_reducible first | rw [e0] | rw [a0] | rw [a1] | rw [a2] | rw [a3] | rw [a4]));dsimp only))
  go_ret;exact ⟨Bw H.out.symm,B0⟩
theorem Abg (d:Deed) (s:Sl) (w:World) (hk:d.kind=6) (h:Ec.rd w w d s) :
  Calls Am 64 #[De d s] w fun e w'=>e = .returned (.bool (Dl d))/\Below w w w':=by
 have h2:Cd.rd w w d.plan s:=h;have HR:=Bq (show ∀ W,Below w w W->Cd.rd W W d.plan s from fun W hW=>Cd.rd_more (Cd.rd_below h2 hW) hW.size);clear h h2;obtain ⟨A,n,c⟩:=s;obtain ⟨kd,rn,p,tk,ty,wk,dr⟩:=d;obtain rfl:kd=6:=hk;have X:=DBox.new 38 [J U 6,J U rn,J U p.prio,J U p.most,J U p.wait,J U p.tasks,Aa A n c,J U tk,J U ty,J U wk,J U dr] w (b:=w) rfl;have B0:Below w w (w.alloc (.cells #[J U 6,J U rn,J U p.prio,J U p.most,J U p.wait,J U p.tasks,Aa A n c,J U tk,J U ty,J U wk,J U dr] 38)):=by repeat (first | exact Br _ _ | refine Ae ?_ Bo _)
 have e0:inB 6 1 8=true:=rfl;have HD:=Bq (show Dl ⟨6,rn,p,tk,ty,wk,dr⟩=(Fc rn && (tk == 0) && (ty == 0) && (wk == 0) && (dr == 0) && Fd p) by simp [Dl,inB,Bool.and_assoc]);by_cases a0:inB rn 0 1000000000=false;rotate_left;replace a0:inB rn 0 1000000000=true:=by simpa using a0
 by_cases a1:(tk != 0)=true;rotate_left;replace a1:(tk != 0)=false:=by simpa using a1
 by_cases a2:(ty != 0)=true;rotate_left;replace a2:(ty != 0)=false:=by simpa using a2
 by_cases a3:(wk != 0)=true;rotate_left;replace a3:(wk != 0)=false:=by simpa using a3
 by_cases a4:(dr != 0)=true;rotate_left;replace a4:(dr != 0)=false:=by simpa using a4
 ·have H:=Bq (show Dl ⟨6,rn,p,tk,ty,wk,dr⟩=Fd p by rw [HD.out];simp only [bne_eq_false_iff_eq] at a0 a1 a2 a3 a4;simp [Fc, *]);have C:=Hf p ⟨A,n,c⟩ _ (HR.out _ B0);go_enter func64,ntmps64;go_upto_region 6 with (first | (go_at_call 84;refine (Cr _ _).mono ?_;rintro e w9 ⟨rfl,rfl⟩;(try (with_reducible first | rw [e0] | rw [a0] | rw [a1] | rw [a2] | rw [a3] | rw [a4]));dsimp only) | (go_at_call 63;refine (Cg _ _ _ _).mono ?_;rintro e w9 ⟨rfl,rfl⟩;(try (with_reducible first | rw [e0] | rw [a0] | rw [a1] | rw [a2] | rw [a3] | rw [a4]));dsimp only) | (go_at_call 122;refine C.mono ?_;rintro e w1 ⟨rfl,b1⟩))
  dsimp only [List.append];go_wp2_with (first | (go_at_call 84;refine (Cr _ _).mono ?_;rintro e w9 ⟨rfl,rfl⟩;(try (with_reducible first | rw [e0] | rw [a0] | rw [a1] | rw [a2] | rw [a3] | rw [a4]));dsimp only) | (go_at_call 63;refine (Cg _ _ _ _).mono ?_;rintro e w9 ⟨rfl,rfl⟩;(try (with_reducible first | rw [e0] | rw [a0] | rw [a1] | rw [a2] | rw [a3] | rw [a4]));dsimp only) | (go_at_call 122;refine C.mono ?_;rintro e w1 ⟨rfl,b1⟩))
  go_ret;exact ⟨Bw H.out.symm,Bu B0 b1⟩
 all_goals
  have H:=Bq (show Dl ⟨6,rn,p,tk,ty,wk,dr⟩=false by rw [HD.out];simp only [bne_eq_false_iff_eq,bne_iff_ne] at *;simp [Fc, *]);go_enter func64,ntmps64;go_upto_region 6 with (first | (go_at_call 84;refine (Cr _ _).mono ?_;rintro e w9 ⟨rfl,rfl⟩;(try (with_reducible first | rw [e0] | rw [a0] | rw [a1] | rw [a2] | rw [a3] | rw [a4]));dsimp only) | (go_at_call 63;refine (Cg _ _ _ _).mono ?_;rintro e w9 ⟨rfl,rfl⟩;(try (with_reducible first | rw [e0] | rw [a0] | rw [a1] | rw [a2] | rw [a3] | rw [a4]));dsimp only))
  dsimp only [List.append];go_wp2_with (first | (go_at_call 84;refine (Cr _ _).mono ?_;rintro e w9 ⟨rfl,rfl⟩;(try (with_reducible first | rw [e0] | rw [a0] | rw [a1] | rw [a2] | rw [a3] | rw [a4]));dsimp only) | (go_at_call 63;refine (Cg _ _ _ _).mono ?_;rintro e w9 ⟨rfl,rfl⟩;(try (with_reducible first | rw [e0] | rw [a0] | rw [a1] | rw [a2] | rw [a3] | rw [a4]));dsimp only))
  go_ret;exact ⟨Bw H.out.symm,B0⟩
theorem Abh (d:Deed) (s:Sl) (w:World) (hk:d.kind=7) (h:Ec.rd w w d s) :
  Calls Am 64 #[De d s] w fun e w'=>e = .returned (.bool (Dl d))/\Below w w w':=by
 have h2:Cd.rd w w d.plan s:=h;have HR:=Bq (show ∀ W,Below w w W->Cd.rd W W d.plan s from fun W hW=>Cd.rd_more (Cd.rd_below h2 hW) hW.size);clear h h2;obtain ⟨A,n,c⟩:=s;obtain ⟨kd,rn,p,tk,ty,wk,dr⟩:=d;obtain rfl:kd=7:=hk;have X:=DBox.new 38 [J U 7,J U rn,J U p.prio,J U p.most,J U p.wait,J U p.tasks,Aa A n c,J U tk,J U ty,J U wk,J U dr] w (b:=w) rfl;have B0:Below w w (w.alloc (.cells #[J U 7,J U rn,J U p.prio,J U p.most,J U p.wait,J U p.tasks,Aa A n c,J U tk,J U ty,J U wk,J U dr] 38)):=by repeat (first | exact Br _ _ | refine Ae ?_ Bo _)
 have e0:inB 7 1 8=true:=rfl;have HD:=Bq (show Dl ⟨7,rn,p,tk,ty,wk,dr⟩=(Fc rn && (tk == 0) && (ty == 0) && (wk == 0) && (dr == 0) && Fd p) by simp [Dl,inB,Bool.and_assoc]);by_cases a0:inB rn 0 1000000000=false;rotate_left;replace a0:inB rn 0 1000000000=true:=by simpa using a0
 by_cases a1:(tk != 0)=true;rotate_left;replace a1:(tk != 0)=false:=by simpa using a1
 by_cases a2:(ty != 0)=true;rotate_left;replace a2:(ty != 0)=false:=by simpa using a2
 by_cases a3:(wk != 0)=true;rotate_left;replace a3:(wk != 0)=false:=by simpa using a3
 by_cases a4:(dr != 0)=true;rotate_left;replace a4:(dr != 0)=false:=by simpa using a4
 ·have H:=Bq (show Dl ⟨7,rn,p,tk,ty,wk,dr⟩=Fd p by rw [HD.out];simp only [bne_eq_false_iff_eq] at a0 a1 a2 a3 a4;simp [Fc, *]);have C:=Hf p ⟨A,n,c⟩ _ (HR.out _ B0);go_enter func64,ntmps64;go_upto_region 6 with (first | (go_at_call 84;refine (Cr _ _).mono ?_;rintro e w9 ⟨rfl,rfl⟩;(try (with_reducible first | rw [e0] | rw [a0] | rw [a1] | rw [a2] | rw [a3] | rw [a4]));dsimp only) | (go_at_call 63;refine (Cg _ _ _ _).mono ?_;rintro e w9 ⟨rfl,rfl⟩;(try (with_reducible first | rw [e0] | rw [a0] | rw [a1] | rw [a2] | rw [a3] | rw [a4]));dsimp only) | (go_at_call 122;refine C.mono ?_;rintro e w1 ⟨rfl,b1⟩))
  dsimp only [List.append];go_wp2_with (first | (go_at_call 84;refine (Cr _ _).mono ?_;rintro e w9 ⟨rfl,rfl⟩;(try (with_reducible first | rw [e0] | rw [a0] | rw [a1] | rw [a2] | rw [a3] | rw [a4]));dsimp only) | (go_at_call 63;refine (Cg _ _ _ _).mono ?_;rintro e w9 ⟨rfl,rfl⟩;(try (with_reducible first | rw [e0] | rw [a0] | rw [a1] | rw [a2] | rw [a3] | rw [a4]));dsimp only) | (go_at_call 122;refine C.mono ?_;rintro e w1 ⟨rfl,b1⟩))
  go_ret;exact ⟨Bw H.out.symm,Bu B0 b1⟩
 all_goals
  have H:=Bq (show Dl ⟨7,rn,p,tk,ty,wk,dr⟩=false by rw [HD.out];simp only [bne_eq_false_iff_eq,bne_iff_ne] at *;simp [Fc, *]);go_enter func64,ntmps64;go_upto_region 6 with (first | (go_at_call 84;refine (Cr _ _).mono ?_;rintro e w9 ⟨rfl,rfl⟩;(try (with_reducible first | rw [e0] | rw [a0] | rw [a1] | rw [a2] | rw [a3] | rw [a4]));dsimp only) | (go_at_call 63;refine (Cg _ _ _ _).mono ?_;rintro e w9 ⟨rfl,rfl⟩;(try (with_reducible first | rw [e0] | rw [a0] | rw [a1] | rw [a2] | rw [a3] | rw [a4]));dsimp only))
  dsimp only [List.append];go_wp2_with (first | (go_at_call 84;refine (Cr _ _).mono ?_;rintro e w9 ⟨rfl,rfl⟩;(try (with_reducible first | rw [e0] | rw [a0] | rw [a1] | rw [a2] | rw [a3] | rw [a4]));dsimp only) | (go_at_call 63;refine (Cg _ _ _ _).mono ?_;rintro e w9 ⟨rfl,rfl⟩;(try (with_reducible first | rw [e0] | rw [a0] | rw [a1] | rw [a2] | rw [a3] | rw [a4]));dsimp only))
  go_ret;exact ⟨Bw H.out.symm,B0⟩
def J5 (y:Yard):Prop:=y.shelf.length=4/\(∀ l∈y.shelf,H9 l)/\(∀ e∈Cf y,1<=e.seq/\e.seq<=y.seq - 1)/\((Cf y).map (·.seq)).Nodup
theorem Adn {y:Yard} (h3:y.shelf.length=4) (h4:∀ k (hk:k<y.shelf.length),H9 y.shelf[k]) (h5:Ni y.seq (Cf y) (Cf y).length):J5 y:=by
 refine ⟨h3,fun l hl=>?_,fun e he=>?_,Se (fun j hj=>(h5 j hj hj).2)⟩
 ·obtain ⟨k,hk,rfl⟩:=List.getElem_of_mem hl;exact h4 k hk
 ·obtain ⟨k,hk,rfl⟩:=List.getElem_of_mem he;exact (h5 k hk hk).1
theorem Y1 {y:Yard} (h:J5 y) {k:Nat} (hk:k<=(Cf y).length):Ni y.seq (Cf y) k:=fun j hj _ =>
 ⟨h.2.2.1 _ (Aw hj),Sf h.2.2.2 (fun e he=>(h.2.2.1 e he).1) hj⟩
def Y2 (l:List Entry) (k m:Nat):Prop:=∀ j (hj:j<l.length) (hk:k<l.length),j<m->l[j].seq≠l[k].seq
theorem Abi {l:List Entry} {k:Nat} (hk:k<l.length) (h:Y2 l k k) (hp:∀ j (hj:j<l.length),j<=k->1<=l[j].seq):l[k].seq.toNat∉I2 l k:=by
 intro hm;unfold I2 at hm;obtain ⟨x,hx,he⟩:=List.mem_map.1 hm;obtain ⟨j,hj,rfl⟩:=List.getElem_of_mem hx;rw [Az] at hj;rw [List.getElem_take] at he;have h1:=hp j Bl Bl;have h2:=hp k hk (Bs _);exact h j Bl hk Bl Bl
theorem S9 (y:Yard) (s:Sl×Sl) (w:World) (hl:Ca y<=2000000) (hq:1<=y.seq/\y.seq<=1000000000) (h:Bv.rd w w y s) :
  Calls Am 151 #[Dm y s] w fun e w'=>e = .returned (.bool (tf (J5 y)))/\Below w w w':=by
 have HR:=Bq (show ∀ W,Below w w W->Bv.rd W W y s from fun W hW=>Bv.rd_more (Bv.rd_below h hW) hW.size);obtain ⟨⟨A1,n1,c1⟩,⟨A2,n2,c2⟩⟩:=s;obtain rfl:n1=y.shelf.length:=RdL.at1 (s:=⟨A1,n1,c1⟩) h.1;have h1:RdL (Dt.list Bx) w w (Aa A1 y.shelf.length c1) y.shelf:=h.1;have hls:y.shelf.length<=2000000:=Ah (Cj Cl _) (by unfold Ca at hl;omega);have HE:=Bq (show ∀ k (hk:k<y.shelf.length),y.shelf[k].length<=2000000 from fun k hk=>by
  have:=C9 (cnt:=Cl) (Aw hk)
  have h2:y.shelf[k].length<=Cl y.shelf[k]:=Cj Dw _;unfold Ca at hl;omega)
 have HEn:=Bq (show (Cf y).length<=2000000 by
  have:=Ib y.shelf y.shelf.length
  rw [List.take_length] at this;unfold Ca at hl;unfold Cf;omega)
 clear h;have X:=DBox.new 27 [J U y.now,J U y.seq,Aa A1 y.shelf.length c1,Aa A2 n2 c2] w (b:=w) rfl;have B0:Below w w (w.alloc (.cells #[J U y.now,J U y.seq,Aa A1 y.shelf.length c1,Aa A2 n2 c2] 27)):=by repeat (first | exact Br _ _ | refine Ae ?_ Bo _)
 by_cases a3:y.shelf.length=4;case neg =>
  have a3':((y.shelf.length:Int) != 4)=true:=by simp;omega
  have H:=Bq (Ci (show ¬ J5 y from fun h=>a3 h.1));clear a3;go_enter func151,ntmps151;go_wp2;go_ret;exact ⟨Bw H.out.symm,B0⟩
 have a3':((y.shelf.length:Int) != 4)=false:=by simp [a3]
 have A3_:=Bq a3;clear a3;go_enter func151,ntmps151;go_wp2;generalize (w.alloc (.cells #[J U y.now,J U y.seq,Aa A1 y.shelf.length c1,Aa A2 n2 c2] 27))=W at *
 clear a3';go_loopw [3] (fun i wr=>∃ k:Nat,k<=y.shelf.length/\i = J U k/\Hid (∀ j (hj:j<y.shelf.length),j<k->H9 y.shelf[j])/\Below W W wr) (fun i _=>y.shelf.length - (intOf i).toNat);case atStart=>exact ⟨0,Ag _,rfl,fun j _ h0=>absurd h0 Bl,Br _ _⟩
 case round =>
  obtain ⟨k,hk,rfl,bL,hb⟩:=hrel;replace X:=X.below hb;replace B0:=Bu B0 hb;obtain ⟨X_0,X_1,X_2,X_3,X_l⟩:=X.g4;by_cases aA:k<y.shelf.length
  ·have aB:(k:Int)<(y.shelf.length:Int):=Bl;obtain ⟨b,o,⟨As,ns,cs⟩,mM,aK,hr,d0⟩:=(h1.below B0).entryS aA;obtain rfl:ns=y.shelf[k].length:=RdL.at1 (s:=⟨As,ns,cs⟩) hr;subst mM;have C:=S7 y.shelf[k] ⟨As,y.shelf[k].length,cs⟩ wr (HE.out k aA) (hr.more B0.size);by_cases q:H9 y.shelf[k]
   ·have S:Hid (∀ j (hj:j<y.shelf.length),j<k+1->H9 y.shelf[j]):=fun j hj fS=>by
     by_cases e:j=k
     ·subst e;exact q
     ·exact bL.out j hj Bl
    rw [Dp q] at C;clear q;go_wp2_with fail
    refine C.mono ?_;rintro e w2 ⟨rfl,b2⟩;go_wp2;first
     | exact ⟨⟨k+1,Bl,by go_num,S,Bu hb b2⟩,by simp [intOf];omega⟩
     | (refine ⟨?_,by simp [intOf];omega⟩;(repeat apply Exists.intro);first | exact ⟨⟨k+1,Bl,by go_num,S,Bu hb b2⟩,rfl⟩ | exact ⟨⟨k+1,Bl,by go_num,S,Bu hb b2⟩,rfl,rfl⟩ | exact ⟨⟨k+1,Bl,by go_num,S,Bu hb b2⟩,rfl,rfl,rfl⟩ | exact ⟨⟨k+1,Bl,by go_num,S,Bu hb b2⟩,rfl,rfl,rfl,rfl⟩ | exact ⟨⟨k+1,Bl,by go_num,S,Bu hb b2⟩,rfl,rfl,rfl,rfl,rfl⟩ | exact ⟨⟨k+1,Bl,by go_num,S,Bu hb b2⟩,rfl,rfl,rfl,rfl,rfl,rfl⟩ | exact ⟨⟨k+1,Bl,by go_num,S,Bu hb b2⟩,rfl,rfl,rfl,rfl,rfl,rfl,rfl⟩)
   ·have H:=Bq (Ci (show ¬ J5 y from fun h=>q (h.2.1 _ (Aw aA))));rw [Ci q] at C;clear q;go_wp2_with fail
    refine C.mono ?_;rintro e w2 ⟨rfl,b2⟩;go_wp2;go_ret;exact ⟨Bw H.out.symm,Bu B0 b2⟩
  ·have aB:¬ (k:Int)<(y.shelf.length:Int):=Bl;have HS:Hid (∀ k (hk:k<y.shelf.length),H9 y.shelf[k]):=fun j hj=>bL.out j hj Bl;have C:=Nw y (⟨A1,y.shelf.length,c1⟩,⟨A2,n2,c2⟩) wr hl (HR.out _ B0);go_wp2_with fail
   refine C.mono ?_;rintro e w2 ⟨v,rfl,o2,b2⟩;replace X:=X.below b2;replace B0:=Bu B0 b2;clear X_0 X_1 X_2 X_3 X_l bL aA aB hb;have O2:=Rd.of_own o2;clear o2;obtain ⟨A3,c3,rfl,-⟩:=id O2;have qK:=HEn.out;go_wp2;go_loopw [5] (fun i wr=>∃ k:Nat,k<=(Cf y).length/\i = J U k/\Hid (Ni y.seq (Cf y) k)/\Below w2 w2 wr) (fun i _=>(Cf y).length - (intOf i).toNat);case atStart=>exact ⟨0,Ag _,rfl,fun j _ h0=>absurd h0 Bl,Br _ _⟩
   case round =>
    obtain ⟨k,hk,rfl,bL,hb⟩:=hrel;have X1:=X.below hb;obtain ⟨X1_0,X1_1,X1_2,X1_3,X1_l⟩:=X1.g4;by_cases aA:k<(Cf y).length
    ·have aB:(k:Int)<((Cf y).length:Int):=Bl;obtain ⟨b,o,_,kK,aK,_,d0,d1,d2,d3⟩:=RdL.entry (Lc (O2.below hb)) aA;subst kK;have bS:b<wr:=Ai aK hb.size;have w1':U.wrap (y.seq - 1)=y.seq - 1:=Aq _ Bl;have aQ:=Di wr;have B1:=Bu B0 hb;cases q1:inB (Cf y)[k].seq 1 (y.seq - 1)
     ·have H:=Bq (Ci (show ¬ J5 y from fun h=>by
       have:=Cw.2 (h.2.2.1 _ (Aw aA))
       rw [q1] at this;cases this))
      go_wp2;refine Bz Bm Bm ?_;repeat (go_big_quiet_step ((go_at_call 63;exact Ds (fun u=>Cg _ _ _ u.1))))
      refine Ak ?_;rintro _ ⟨⟨w3,b3⟩,rfl⟩;clear aQ;go_wp2;go_ret;exact ⟨Bw H.out.symm,Bu B1 b3⟩
     have HQ:=Bq (Cw.1 q1);go_wp2;refine Bz Bm Bm ?_;repeat (go_big_quiet_step ((go_at_call 63;exact Ds (fun u=>Cg _ _ _ u.1))))
     refine Ak ?_;rintro _ ⟨⟨w3,b3⟩,rfl⟩;clear aQ;go_wp2;clear d0 d1 d2 d3 bS X1_0 X1_1 X1_2 X1_3 X1_l X1 q1 w1';go_loopw [6] (fun i wq=>∃ m:Nat,m<=k/\i = J U m/\Hid (Y2 (Cf y) k m)/\Below wr wr wq) (fun i _=>k - (intOf i).toNat);case atStart=>exact ⟨0,Ag _,rfl,fun j _ _ h0=>absurd h0 Bl,b3⟩
     case round =>
      obtain ⟨m,hm,rfl,dX,bY⟩:=hrel;by_cases kE:m<k
      ·have pR:(m:Int)<(k:Int):=Bl;obtain ⟨b',o',_,cC,bI,_,d0,d1,d2,d3⟩:=RdL.entry (Lc (O2.below (Bu hb bY))) aA;simp only [Option.some.injEq,Addr.mk.injEq,and_true] at cC;obtain ⟨rfl,rfl⟩:=cC;obtain ⟨b',o',_,cC,_,_,f0,f1,f2,f3⟩:=RdL.entry (Lc (O2.below (Bu hb bY))) (show m<(Cf y).length by omega);simp only [Option.some.injEq,Addr.mk.injEq,and_true] at cC;obtain ⟨rfl,rfl⟩:=cC;have hmJ:(m:Int)<((Cf y).length:Int):=Bl;have eV:=bY.size;by_cases q2:(Cf y)[m].seq=(Cf y)[k].seq
       ·have H:=Bq (Ci (show ¬ J5 y from fun h=>by
         have h3:=List.pairwise_iff_getElem.1 h.2.2.2 m k (by rw [Ar];omega) (by rw [Ar];omega) Bl;rw [List.getElem_map,List.getElem_map] at h3;exact h3 q2))
        have q2':((Cf y)[m].seq == (Cf y)[k].seq)=true:=beq_iff_eq.2 q2;clear q2;go_wp2;go_quiet (fail);go_wp2;go_ret;exact ⟨Bw H.out.symm,Cm (Bu B1 bY) _⟩
       ·have S:Hid (Y2 (Cf y) k (m+1)):=fun j hj bF hjm=>by
         by_cases e:j=m
         ·subst e;exact q2
         ·exact dX.out j hj bF Bl
        have q2':((Cf y)[m].seq == (Cf y)[k].seq)=false:=beq_eq_false_iff_ne.2 q2;clear q2;go_wp2;go_quiet (fail);go_wp2;first
         | exact ⟨⟨m+1,Bl,by go_num,S,Cm bY _⟩,by simp [intOf];omega⟩
         | (refine ⟨?_,by simp [intOf];omega⟩;(repeat apply Exists.intro);first | exact ⟨⟨m+1,Bl,by go_num,S,Cm bY _⟩,rfl⟩ | exact ⟨⟨m+1,Bl,by go_num,S,Cm bY _⟩,rfl,rfl⟩ | exact ⟨⟨m+1,Bl,by go_num,S,Cm bY _⟩,rfl,rfl,rfl⟩ | exact ⟨⟨m+1,Bl,by go_num,S,Cm bY _⟩,rfl,rfl,rfl,rfl⟩ | exact ⟨⟨m+1,Bl,by go_num,S,Cm bY _⟩,rfl,rfl,rfl,rfl,rfl⟩ | exact ⟨⟨m+1,Bl,by go_num,S,Cm bY _⟩,rfl,rfl,rfl,rfl,rfl,rfl⟩ | exact ⟨⟨m+1,Bl,by go_num,S,Cm bY _⟩,rfl,rfl,rfl,rfl,rfl,rfl,rfl⟩)
      ·have pR:¬ (m:Int)<(k:Int):=Bl;have S:Hid (Ni y.seq (Cf y) (k+1)):=Xq bL.out aA (Cw.2 HQ.out) (Abi aA (fun j hj bF hjm=>dX.out j hj bF Bl) (fun j hj fS=>by
        by_cases e:j=k
        ·subst e;exact HQ.out.1
        ·exact (bL.out j hj Bl).1.1))
       go_wp2;first
        | exact ⟨⟨k+1,Bl,by go_num,S,Bu hb bY⟩,by simp [intOf];omega⟩
        | (refine ⟨?_,by simp [intOf];omega⟩;(repeat apply Exists.intro);first | exact ⟨⟨k+1,Bl,by go_num,S,Bu hb bY⟩,rfl⟩ | exact ⟨⟨k+1,Bl,by go_num,S,Bu hb bY⟩,rfl,rfl⟩ | exact ⟨⟨k+1,Bl,by go_num,S,Bu hb bY⟩,rfl,rfl,rfl⟩ | exact ⟨⟨k+1,Bl,by go_num,S,Bu hb bY⟩,rfl,rfl,rfl,rfl⟩ | exact ⟨⟨k+1,Bl,by go_num,S,Bu hb bY⟩,rfl,rfl,rfl,rfl,rfl⟩ | exact ⟨⟨k+1,Bl,by go_num,S,Bu hb bY⟩,rfl,rfl,rfl,rfl,rfl,rfl⟩ | exact ⟨⟨k+1,Bl,by go_num,S,Bu hb bY⟩,rfl,rfl,rfl,rfl,rfl,rfl,rfl⟩)
    ·have aB:¬ (k:Int)<((Cf y).length:Int):=Bl;have H:=Bq (Dp (Adn A3_.out HS.out (fun j hj hj2=>bL.out j hj Bl)));go_wp2;go_ret;exact ⟨Bw H.out.symm,Bu B0 hb⟩
theorem Aea {l:List UInt8} (h:l.length≠0):l.isEmpty=false:=by cases l with
 | nil=>exact absurd rfl h
 | cons a l=>rfl
theorem Ahd (n:Int) (h:0<=n):n.tmod 4=n % 4:=Int.tmod_eq_emod_of_nonneg h
theorem Ag7 (n:Int) (h:0<=n):U.wrap (n % 4)=n % 4:=Aq _ (by have:=Int.emod_nonneg n (show (4:Int)≠0 by decide);have:=Int.emod_lt_of_pos n (show (0:Int)<4 by decide);omega)
theorem Ta (id:Int) (w:World) :
  Calls Am 261 #[J U id] w fun e w'=>e = .returned (J U (C6 id))/\Below w w w':=by
 have rR:=Sa id;have aJ:=Aat (En id);have C:=Bq (Sz id w);by_cases h0:(En id).length=0
 ·have H:=Bq (show (C6 id:Int)=0 by unfold C6;rw [if_pos h0];rfl);have hE:En id=[]:=List.eq_nil_of_length_eq_zero h0;rw [hE] at C;clear aJ h0;go_enter func261,ntmps261;go_wp2_with (go_at_call 281;refine C.out.mono ?_;rintro e w1 ⟨rfl,b1⟩)
  go_ret;exact ⟨by rw [H.out];rfl,b1⟩
 ·have H:=Bq (show (C6 id:Int)=K8 (En id) % 4 by
   unfold C6;rw [if_neg h0];exact Int.toNat_of_nonneg (Int.emod_nonneg _ Bp))
  have hem:=Aea h0;have CS:=Bq (fun W=>Wp (En id) W Bl);have r4:=Ahd _ aJ.1;have w4:=Ag7 _ aJ.1;generalize K8 (En id)=sm at *
  generalize En id=L at *
  go_enter func261,ntmps261;go_wp2_with (first | (go_at_call 281;refine C.out.mono ?_;rintro e w1 ⟨rfl,b1⟩) | (go_at_call 282;refine (CS.out _).mono ?_;rintro e w2 ⟨rfl,b2⟩))
  go_ret;exact ⟨by rw [H.out];rfl,Bu b1 b2⟩
theorem Rd.fromL {α:Type} {e:Enc α} {w:World} {B:Nat} {b o n c:Nat} {l:List α} (h:Rd e w B (Aa (Ac ⟨b,o,Ab⟩) n c) l) (k:Nat) (hk:k<=l.length):Rd e w B (Aa (Ac ⟨b,o+k * e.sz,Ab⟩) (l.length - k) (c - k)) (l.drop k):=by
 obtain ⟨A',c0,hv,hc,hA⟩:=h;simp only [Value.slice.injEq] at hv;obtain ⟨rfl,rfl,rfl⟩:=hv;refine ⟨_,c - k,by rw [List.length_drop],by rw [List.length_drop];omega,fun hl=>?_⟩;rw [List.length_drop] at hl;obtain ⟨b',o',hb,aA,aN⟩:=hA Bl;simp only [Option.some.injEq,Addr.mk.injEq,and_true] at hb;obtain ⟨rfl,rfl⟩:=hb;refine ⟨b,o+k * e.sz,rfl,aA,fun i hi j u hu=>?_⟩;rw [List.length_drop] at hi;rw [List.getElem_drop] at hu
 have:=aN (k+i) Bl j u hu
 rw [show o+k * e.sz+i * e.sz+j=o+(k+i) * e.sz+j from by rw [Nat.add_mul,<-Nat.add_assoc]];exact this
theorem Rd.fromNone {α:Type} {e:Enc α} {w:World} {B:Nat} {A:Option Addr} {n c:Nat} {l:List α} (k:Nat) (hk:l.length<=k) (hn:n=0):Rd e w B (Aa A n c) (l.drop k):=by
 subst hn;rw [List.drop_eq_nil_of_le hk];exact ⟨_,c,rfl,Ag _,fun h=>absurd h Bn⟩
theorem Kp (l:List Entry) (s:Sl) (e:Entry) (w:World) (hl:l.length<=2000000) (h:RdL Bx w w s.v l) :
  Calls Am 262 #[Aa s.a s.n s.c,Gs e ()] w (Df (Dt.list Bx) slV (Jd l e) w):=by
 obtain ⟨A,n,c⟩:=s;obtain rfl:n=l.length:=RdL.at1 (s:=⟨A,n,c⟩) h;obtain ⟨i0,aR,aX,aW,aU⟩:=info_parts Gg;have h0:=Bq (fun W (hW:Below w w W)=>((Jm h).below hW).more hW.size);have X:=DBox.new 163 [J U e.prio,J U e.seq,J U e.run,J U e.task] w (b:=w) rfl;have B0:Below w w (w.alloc (.cells #[J U e.prio,J U e.seq,J U e.run,J U e.task] 163)):=by repeat (first | exact Br _ _ | refine Ae ?_ Bo _)
 go_enter func262,ntmps262;go_wp2;generalize Gs e ()=ev;go_loopw [5] (fun i wr=>∃ k:Nat,k<=l.length/\i = J U k/\Hid (∀ j (hj:j<l.length),j<k->E7 l[j] e=true)/\DBox w [J U e.prio,J U e.seq,J U e.run,J U e.task] wr/\Below w w wr) (fun i _=>l.length - (intOf i).toNat);case atStart=>exact ⟨0,Ag _,rfl,fun j hj h0=>absurd h0 Bl,X,B0⟩
 case round =>
  clear X B0;obtain ⟨k,hk,rfl,bL,X,hb⟩:=hrel;have X_:=X.g4;have aQ:=Di wr;by_cases aA:k<l.length
  ·have aB:(k:Int)<(l.length:Int):=Bl;have cL:(0:Int)<=(k:Int):=Bl;obtain ⟨b,o,_,rfl,aK,_,c0,c1,c2,c3⟩:=(h.below hb).entry aA;have hs:b<wr:=Ai aK hb.size;cases t2:E7 l[k] e;case true =>
    have S:=Bq (show ∀ j (hj:j<l.length),j<k+1->E7 l[j] e=true from fun j hj fS=>by
     by_cases hjk2:j=k
     ·subst hjk2;exact t2
     ·exact bL.out j hj Bl)
    go_wp2;refine Bz Bm Bm ?_;repeat (go_big_quiet_step ((go_at_call 272;rename_i x;have h1:=Ky l[k] e x.1;exact Fg h1)))
    refine Ak ?_;rintro _ ⟨⟨w1,b1⟩,rfl⟩;clear aQ;go_wp2;exact ⟨⟨k+1,Bl,by go_num,S,X.below b1,Bu hb b1⟩,by simp [intOf];omega⟩
   case false =>
    have HP:=Bq (Tp hk bL.out (fun _=>t2));go_wp2;refine Bz Bm Bm ?_;repeat (go_big_quiet_step ((go_at_call 272;rename_i x;have h1:=Ky l[k] e x.1;exact Fg h1)))
    refine Ak ?_;rintro w0 ⟨⟨_,b1⟩,rfl⟩;clear aQ;clear X_;replace X:=X.below b1;have BB:=(Bu hb b1)
    have nE:k<=c:=Ah hk (h0.out _ BB).cap;have hkcI:(k:Int)<=(c:Int):=Bl;have a0:=Bq (show ∀ W,Below w w W->Rd Cy W W (Aa (Ac ⟨b,o,Ab⟩) k c) (l.take k) from fun W hW=>(h0.out _ hW).take hk c nE);have q1:Below w0 w0 (w0.alloc (.cells #[] 163)):=Bt;have dL:=Bq (show (l.take k).length<=2000000 by simp;omega);have aZ:=Bq (show (l.take k ++ [e]).length<=2000001 by simp;omega);have hlt3:=Bq (show (l.drop k).length<=2000000 by simp;omega);rcases Nat.lt_or_ge k c with hkc2 | hkc2
    ·have qY:¬ c=k:=Bl;go_wp2_with (first | (at_builtin;refine Ch _ Cy Bp rfl (.tmp 21) (.tmp 24) rfl underlying122 aR aX aW aU rfl (base:=w0) (v:=Aa (Ac ⟨w0,0,Ab⟩) 0 0) (l:=[]) rfl (Ow.empty Cy 163 w0 (g:=w0) rfl) (A:=(Ac ⟨b,o,Ab⟩)) (m:=k) (c:=_) (ys:=l.take k) rfl (a0.out _ (Bu BB q1)) Bn (by have:=dL.out;omega) Bp q1.size ?_;intro v1 w1 o1 g1 _;rw [List.nil_append] at o1;have d1:Below w0 w0 w1:=q1.grown g1 q1.size (fun g hg=>Nat.le_of_eq (Option.some.inj hg));have X1:=X.below d1;have x0:=X1.cell 0 _ rfl;have x1:=X1.cell 1 _ rfl;have x2:=X1.cell 2 _ rfl;have x3:=X1.cell 3 _ rfl;have xl:=X1.lt;have uG:=d1.size) | (at_builtin;refine Ch _ Cy Bp rfl (.tmp 26) (.tmp 28) rfl underlying122 aR aX aW aU rfl (base:=w0) (v:=v1) (l:=l.take k) rfl (o1.below (Bt)) (A:=Ac ⟨w1,0,Ab⟩) (m:=1) (c:=1) (ys:=[e]) rfl (Rd.one Cy w1 _ e rfl rfl 1 (Bs _) (Nat.lt_succ_self _)) (by have:=dL.out;omega) Bn Bp (d1.alloc d1.size _).size ?_;intro v2 w2 o2 g2 _;have d2:Below w0 w0 w2:=(d1.alloc d1.size _).grown g2 (d1.alloc d1.size _).size (fun g hg=>(o1.within g hg).1)) | (at_builtin;refine Ch _ Cy Bp rfl (.tmp 30) (.tmp 33) rfl underlying122 aR aX aW aU rfl (base:=w0) (v:=v2) (l:=l.take k ++ [e]) rfl o2 (A:=Ac ⟨b,o+k * 4,Ab⟩) (m:=l.length - k) (c:=c - k) (ys:=l.drop k) rfl ((h0.out _ (Bu BB d2)).fromL k hk) (by have:=aZ.out;omega) (by have:=hlt3.out;omega) Bp d2.size ?_;intro v3 w3 o3 g3 _;have d3:Below w0 w0 w3:=d2.grown g3 d2.size (fun g hg=>(o2.within g hg).1)))
     obtain ⟨s9,F9,rfl,o9,n9⟩:=Hr o3;go_ret;exact ⟨s9,F9,rfl,by rw [HP.out];exact o9,fun x hx=>Ah BB.size (n9 x hx),Bu BB d3⟩
    ·exact absurd (h0.out _ BB).cap (by show ¬ l.length<=c;omega)
  ·have aB:¬ (k:Int)<(l.length:Int):=Bl;have HP:=Bq (Tp hk bL.out (fun hh=>absurd hh aA));go_wp2;refine Bz Bm Bm ?_;repeat (go_big_quiet_step (fail))
   refine Ak ?_;rintro w0 ⟨⟨_,b1⟩,rfl⟩;clear aQ;clear X_;replace X:=X.below b1;have BB:=(Bu hb b1)
   have nE:k<=c:=Ah hk (h0.out _ BB).cap;have hkcI:(k:Int)<=(c:Int):=Bl;have a0:=Bq (show ∀ W,Below w w W->Rd Cy W W (Aa A k c) (l.take k) from fun W hW=>(h0.out _ hW).take hk c nE);have q1:Below w0 w0 (w0.alloc (.cells #[] 163)):=Bt;have dL:=Bq (show (l.take k).length<=2000000 by simp;omega);have aZ:=Bq (show (l.take k ++ [e]).length<=2000001 by simp;omega);have hlt3:=Bq (show (l.drop k).length<=2000000 by simp;omega);rcases Nat.lt_or_ge k c with hkc2 | hkc2
   ·have qY:¬ c=k:=Bl;go_wp2_with (first | (at_builtin;refine Ch _ Cy Bp rfl (.tmp 21) (.tmp 24) rfl underlying122 aR aX aW aU rfl (base:=w0) (v:=Aa (Ac ⟨w0,0,Ab⟩) 0 0) (l:=[]) rfl (Ow.empty Cy 163 w0 (g:=w0) rfl) (A:=A) (m:=k) (c:=_) (ys:=l.take k) rfl (a0.out _ (Bu BB q1)) Bn (by have:=dL.out;omega) Bp q1.size ?_;intro v1 w1 o1 g1 _;rw [List.nil_append] at o1;have d1:Below w0 w0 w1:=q1.grown g1 q1.size (fun g hg=>Nat.le_of_eq (Option.some.inj hg));have X1:=X.below d1;have x0:=X1.cell 0 _ rfl;have x1:=X1.cell 1 _ rfl;have x2:=X1.cell 2 _ rfl;have x3:=X1.cell 3 _ rfl;have xl:=X1.lt;have uG:=d1.size) | (at_builtin;refine Ch _ Cy Bp rfl (.tmp 26) (.tmp 28) rfl underlying122 aR aX aW aU rfl (base:=w0) (v:=v1) (l:=l.take k) rfl (o1.below (Bt)) (A:=Ac ⟨w1,0,Ab⟩) (m:=1) (c:=1) (ys:=[e]) rfl (Rd.one Cy w1 _ e rfl rfl 1 (Bs _) (Nat.lt_succ_self _)) (by have:=dL.out;omega) Bn Bp (d1.alloc d1.size _).size ?_;intro v2 w2 o2 g2 _;have d2:Below w0 w0 w2:=(d1.alloc d1.size _).grown g2 (d1.alloc d1.size _).size (fun g hg=>(o1.within g hg).1)) | (at_builtin;refine Ch _ Cy Bp rfl (.tmp 30) (.tmp 33) rfl underlying122 aR aX aW aU rfl (base:=w0) (v:=v2) (l:=l.take k ++ [e]) rfl o2 (A:=A.map fun x=>x.add (k * 4)) (m:=l.length - k) (c:=c - k) (ys:=l.drop k) rfl (Rd.fromNone (B:=0) k Bl Bl) (by have:=aZ.out;omega) (by have:=hlt3.out;omega) Bp d2.size ?_;intro v3 w3 o3 g3 _;have d3:Below w0 w0 w3:=d2.grown g3 d2.size (fun g hg=>(o2.within g hg).1)))
    obtain ⟨s9,F9,rfl,o9,n9⟩:=Hr o3;go_ret;exact ⟨s9,F9,rfl,by rw [HP.out];exact o9,fun x hx=>Ah BB.size (n9 x hx),Bu BB d3⟩
   ·obtain rfl:k=c:=Bl;go_wp2_with (first | (at_builtin;refine Ch _ Cy Bp rfl (.tmp 21) (.tmp 24) rfl underlying122 aR aX aW aU rfl (base:=w0) (v:=Aa (Ac ⟨w0,0,Ab⟩) 0 0) (l:=[]) rfl (Ow.empty Cy 163 w0 (g:=w0) rfl) (A:=A) (m:=k) (c:=_) (ys:=l.take k) rfl (a0.out _ (Bu BB q1)) Bn (by have:=dL.out;omega) Bp q1.size ?_;intro v1 w1 o1 g1 _;rw [List.nil_append] at o1;have d1:Below w0 w0 w1:=q1.grown g1 q1.size (fun g hg=>Nat.le_of_eq (Option.some.inj hg));have X1:=X.below d1;have x0:=X1.cell 0 _ rfl;have x1:=X1.cell 1 _ rfl;have x2:=X1.cell 2 _ rfl;have x3:=X1.cell 3 _ rfl;have xl:=X1.lt;have uG:=d1.size) | (at_builtin;refine Ch _ Cy Bp rfl (.tmp 26) (.tmp 28) rfl underlying122 aR aX aW aU rfl (base:=w0) (v:=v1) (l:=l.take k) rfl (o1.below (Bt)) (A:=Ac ⟨w1,0,Ab⟩) (m:=1) (c:=1) (ys:=[e]) rfl (Rd.one Cy w1 _ e rfl rfl 1 (Bs _) (Nat.lt_succ_self _)) (by have:=dL.out;omega) Bn Bp (d1.alloc d1.size _).size ?_;intro v2 w2 o2 g2 _;have d2:Below w0 w0 w2:=(d1.alloc d1.size _).grown g2 (d1.alloc d1.size _).size (fun g hg=>(o1.within g hg).1)) | (at_builtin;refine Ch _ Cy Bp rfl (.tmp 30) (.tmp 33) rfl underlying122 aR aX aW aU rfl (base:=w0) (v:=v2) (l:=l.take k ++ [e]) rfl o2 (A:=A) (m:=l.length - k) (c:=0) (ys:=l.drop k) rfl (Rd.fromNone (B:=0) k Bl Bl) (by have:=aZ.out;omega) (by have:=hlt3.out;omega) Bp d2.size ?_;intro v3 w3 o3 g3 _;have d3:Below w0 w0 w3:=d2.grown g3 d2.size (fun g hg=>(o2.within g hg).1)))
    obtain ⟨s9,F9,rfl,o9,n9⟩:=Hr o3;go_ret;exact ⟨s9,F9,rfl,by rw [HP.out];exact o9,fun x hx=>Ah BB.size (n9 x hx),Bu BB d3⟩
theorem DBox.drew4 {b:Nat} {cs:List Value} {w:World} (h:DBox b cs w):DBox b cs w.drew:=⟨h.cell,h.free,h.lt⟩
theorem DBox.row4 {b:Nat} {cs:List Value} {w:World} (h:DBox b cs w) (hn:cs.length=4) (u0 u1 u2 u3:Value) :
  DBox b [u0,u1,u2,u3] ((((w.setCell ⟨b,0,Ab⟩ u0).setCell ⟨b,1,Ab⟩ u1).setCell ⟨b,2,Ab⟩ u2).setCell ⟨b,3,Ab⟩ u3):=by
 obtain ⟨c0,c1,c2,c3,rfl⟩:∃ c0 c1 c2 c3,cs=[c0,c1,c2,c3]:=by
  match cs,hn with
  | [c0,c1,c2,c3],_=>exact ⟨c0,c1,c2,c3,rfl⟩
 exact (((h.set 0 Bn u0).set 1 Bn u1).set 2 Bn u2).set 3 Bn u3
theorem Ve {b:Nat} {w:World} {u0 u1 u2 u3:Value} (X:DBox b [u0,u1,u2,u3] w) {v0 v1 v3 v4:Value} {rest:List Value} :
  (results Tryz.f209 (v0 :: v1 :: .pointer (Ac ⟨b,0,Ab⟩) :: v3 :: v4 :: rest).toArray).run Am w = .ok (.tuple #[.agg #[u0,u1,u2,u3],v3,v4]) w:=by
 have c0:=X.cell 0 _ rfl;have c1:=X.cell 1 _ rfl;have c2:=X.cell 2 _ rfl;have c3:=X.cell 3 _ rfl;simp [results,results209,go_sem,c0,c1,c2,c3]
def Abj (l:List Entry) (w:World) (e:Ending) (w':World):Prop :=
 ∃ (s:Sl) (F:List Nat),e = .returned (.tuple #[Gs (l.headD ⟨0,0,0,0⟩) (),Aa s.a s.n s.c,.bool (!l.isEmpty)])/\OwL Bx w' F s.v l.tail/\(∀ x∈F,w<=x)/\Below w w w'
theorem Qs (l:List Entry) (s:Sl) (w:World) (hl:l.length<=2000000) (h:RdL Bx w w s.v l) :
  Calls Am 209 #[Aa s.a s.n s.c] w (Abj l w):=by
 obtain ⟨A,n,c⟩:=s;obtain rfl:n=l.length:=RdL.at1 (s:=⟨A,n,c⟩) h;obtain ⟨i0,aR,aX,aW,aU⟩:=info_parts Gg;have h0:=Bq (fun W (hW:Below w w W)=>((Jm h).below hW).more hW.size);cases l with
 | nil =>
  have R:=DBox.new 163 [J U 0,J U 0,J U 0,J U 0] w (b:=w) rfl;have B0:Below w w (w.alloc (.cells #[J U 0,J U 0,J U 0,J U 0] 163)):=by repeat (first | exact Br _ _ | refine Ae ?_ Bo _)
  go_enter func209,ntmps209;go_wp2;have R1:=R.below ((Br _ _).alloc (Bs _) (.cells #[] 163));refine Aj (v:=.tuple #[.agg #[J U 0,J U 0,J U 0,J U 0],Aa (Ac ⟨w+1,0,Ab⟩) 0 0,.bool false]) (Ve R1) rfl ⟨⟨Ac ⟨w+1,0,Ab⟩,0,0⟩,[],rfl,OwL.nil _ _ _ _,Bn,?_⟩;repeat (first | (with_reducible exact B0) | refine Ad ?_ Bo _ | refine Ae ?_ Bo _)
 | cons e tl =>
  have h1:((((e :: tl).length:Nat):Int) == 0)=false:=by rw [beq_eq_false_iff_ne];simp;omega
  obtain ⟨b,o,_,rfl,aK,_,c0,c1,c2,c3⟩:=h.entry (k:=0) (by simp);simp only [Nat.zero_mul,Nat.add_zero,List.getElem_cons_zero] at c0 c1 c2 c3;have jX:1<=(e :: tl).length:=Bn;have dL:=Bq (show tl.length<=3000000 by simp at hl;omega);have qA:=Bq (show (e :: tl).drop 1=tl from rfl);have cI:(e :: tl).length<=c:=(h0.out w (Br _ _)).cap;generalize hL:(e :: tl).length=L at *
  have hLI:(0:Int)<(L:Int):=Bl;have hLI1:(1:Int)<=(L:Int):=Bl;have hLN:0<L:=Bl;obtain ⟨W,aH,R,B0⟩:=bx1 w 163 [J U 0,J U 0,J U 0,J U 0];go_enter func209,ntmps209;go_wp2;rw [<-aH.out];clear aH;have hs:=B0.size;have hbW:b<W:=Bl;have HS0:=Bq (show ∀ W',Below w w W'->(fun w'=>w'.cell? ⟨b,o,Ab⟩=Ac (J U e.prio)/\w'.cell? ⟨b,o+1,Ab⟩=Ac (J U e.seq)/\w'.cell? ⟨b,o+2,Ab⟩=Ac (J U e.run)/\w'.cell? ⟨b,o+3,Ab⟩=Ac (J U e.task)) W' from fun W' kX=>⟨(kX.cell (p:=⟨b,_,Ab⟩) aK).trans c0,(kX.cell (p:=⟨b,_,Ab⟩) aK).trans c1,(kX.cell (p:=⟨b,_,Ab⟩) aK).trans c2,(kX.cell (p:=⟨b,_,Ab⟩) aK).trans c3⟩);have B1:=B0.drew;replace R:=DBox.drew4 R;rcases Nat.lt_or_ge 1 c with hkc2 | hkc2
  ·have qY:¬ c=1:=Bl;have hcI:(1:Int)<=(c:Int):=Bl;refine Go.wp_region_noPanic ?_;refine wp_region_held_drew (S:=(fun w'=>w'.cell? ⟨b,o,Ab⟩=Ac (J U e.prio)/\w'.cell? ⟨b,o+1,Ab⟩=Ac (J U e.seq)/\w'.cell? ⟨b,o+2,Ab⟩=Ac (J U e.run)/\w'.cell? ⟨b,o+3,Ab⟩=Ac (J U e.task))) Bm (HS0.out _ B1) (fun hHeld=>?_);generalize W.drew=w1 at *
   refine tV 0 ?_
   (try simp only [pS])
   refine tV 1 ?_
   (try simp only [pS])
   refine tV 2 ?_
   (try simp only [pS])
   refine tV 4 ?_
   (try simp only [pS])
   refine tV 5 ?_
   (try simp only [pS])
   refine rC 3 (fun K_ hK=>?_);go_simp;have o2:=Ow.empty Cy 163 w1 (g:=w1) rfl;have b2:Below w1 w1 (w1.alloc (.cells #[] 163)):=Bt;have B2:=Bu B1 b2;have R2:=R.below b2;generalize w1.alloc (.cells #[] 163)=w2 at *
   refine hK.out _ _ (HS0.out _ B2) (fun hHeld=>?_);clear hK K_
   (try simp only [pS])
   refine rC 6 (fun K_ hK=>?_);have rd1:=(h0.out _ B2).fromL 1 (by show 1<=(e :: tl).length;simp);rw [hL,qA.out] at rd1;refine E1 _ Cy Bp (.tmp 13) (.tmp 15) 122 rfl w1.heap.size 163 _ _ _ underlying122 aR aX aW aU rfl _ [] rfl o2 _ _ _ _ tl rfl rd1 Bn dL.out Bp b2.size ?_;intro v3 w3 o3 g3 _;rw [List.nil_append] at o3;have b3:Below w1 w1 w3:=b2.grown g3 b2.size (fun g hg=>Nat.le_of_eq (Option.some.inj hg));have B3:=Bu B1 b3;have R3:=R.below b3;refine hK.out _ _ (HS0.out _ B3) (fun hHeld=>?_);clear hK K_
   (try simp only [pS])
   have e0:=R3.cell 0 _ rfl;have e1:=R3.cell 1 _ rfl;have e2:=R3.cell 2 _ rfl;have e3:=R3.cell 3 _ rfl;have ef:=R3.free;have el:=R3.lt;refine rC 7 (fun K_ hK=>?_);go_simp;have R4:=DBox.row4 R3 rfl (J U e.prio) (J U e.seq) (J U e.run) (J U e.task);have B4:Below w w ((((w3.setCell ⟨w,0,Ab⟩ (J U e.prio)).setCell ⟨w,1,Ab⟩ (J U e.seq)).setCell ⟨w,2,Ab⟩ (J U e.run)).setCell ⟨w,3,Ab⟩ (J U e.task)):=by
    repeat (first | (with_reducible exact B3) | refine Ad ?_ Bo _)
   have o4:=(((o3.setLow (a:=⟨w,0,Ab⟩) (by show w.heap.size<w1.heap.size;have:=R.lt;omega) (J U e.prio)).setLow (a:=⟨w,1,Ab⟩) (by show w.heap.size<w1.heap.size;have:=R.lt;omega) (J U e.seq)).setLow (a:=⟨w,2,Ab⟩) (by show w.heap.size<w1.heap.size;have:=R.lt;omega) (J U e.run)).setLow (a:=⟨w,3,Ab⟩) (by show w.heap.size<w1.heap.size;have:=R.lt;omega) (J U e.task);generalize ((((w3.setCell ⟨w,0,Ab⟩ (J U e.prio)).setCell ⟨w,1,Ab⟩ (J U e.seq)).setCell ⟨w,2,Ab⟩ (J U e.run)).setCell ⟨w,3,Ab⟩ (J U e.task))=w4 at *
   clear e0 e1 e2 e3 ef el;refine hK.out _ _ (HS0.out _ B4) (fun hHeld=>?_);clear hK K_
   (try simp only [pS])
   refine rC 8 (fun K_ hK=>?_);go_simp;refine hK.out _ _ (HS0.out _ B4) (fun hHeld=>?_);clear hK K_
   (try simp only [pS])
   refine rC 9 (fun K_ hK=>?_);go_simp;refine hK.out _ _ (HS0.out _ B4) (fun hHeld=>?_);clear hK K_
   (try simp only [pS])
   refine Al Bm ?_ _;refine NoPanic.normal ?_;clear hHeld;obtain ⟨s9,F9,rfl,o9,n9⟩:=Hr o4;go_wp2;refine Aj (v:=.tuple #[Gs e (),Aa s9.a s9.n s9.c,.bool true]) (Ve R4) rfl ⟨s9,F9,rfl,o9,fun x hx=>Ah (by have:=R.lt;omega) (n9 x hx),B4⟩
  ·obtain rfl:c=1:=Bl;obtain rfl:L=1:=Bl;refine Go.wp_region_noPanic ?_;refine wp_region_held_drew (S:=(fun w'=>w'.cell? ⟨b,o,Ab⟩=Ac (J U e.prio)/\w'.cell? ⟨b,o+1,Ab⟩=Ac (J U e.seq)/\w'.cell? ⟨b,o+2,Ab⟩=Ac (J U e.run)/\w'.cell? ⟨b,o+3,Ab⟩=Ac (J U e.task))) Bm (HS0.out _ B1) (fun hHeld=>?_);generalize W.drew=w1 at *
   refine tV 0 ?_
   (try simp only [pS])
   refine tV 1 ?_
   (try simp only [pS])
   refine tV 2 ?_
   (try simp only [pS])
   refine tV 4 ?_
   (try simp only [pS])
   refine tV 5 ?_
   (try simp only [pS])
   refine rC 3 (fun K_ hK=>?_);go_simp;have o2:=Ow.empty Cy 163 w1 (g:=w1) rfl;have b2:Below w1 w1 (w1.alloc (.cells #[] 163)):=Bt;have B2:=Bu B1 b2;have R2:=R.below b2;generalize w1.alloc (.cells #[] 163)=w2 at *
   refine hK.out _ _ (HS0.out _ B2) (fun hHeld=>?_);clear hK K_
   (try simp only [pS])
   refine rC 6 (fun K_ hK=>?_);have rd1:Rd Cy w2 0 (Aa (Ac ⟨b,o,Ab⟩) 0 0) tl:=Rd.fromNone (B:=0) (l:=e :: tl) 1 (by show (e :: tl).length<=1;rw [hL];exact Bs _) rfl;refine E1 _ Cy Bp (.tmp 13) (.tmp 15) 122 rfl w1.heap.size 163 _ _ _ underlying122 aR aX aW aU rfl _ [] rfl o2 _ _ _ _ tl rfl rd1 Bn dL.out Bp b2.size ?_;intro v3 w3 o3 g3 _;rw [List.nil_append] at o3;have b3:Below w1 w1 w3:=b2.grown g3 b2.size (fun g hg=>Nat.le_of_eq (Option.some.inj hg));have B3:=Bu B1 b3;have R3:=R.below b3;refine hK.out _ _ (HS0.out _ B3) (fun hHeld=>?_);clear hK K_
   (try simp only [pS])
   have e0:=R3.cell 0 _ rfl;have e1:=R3.cell 1 _ rfl;have e2:=R3.cell 2 _ rfl;have e3:=R3.cell 3 _ rfl;have ef:=R3.free;have el:=R3.lt;refine rC 7 (fun K_ hK=>?_);go_simp;have R4:=DBox.row4 R3 rfl (J U e.prio) (J U e.seq) (J U e.run) (J U e.task);have B4:Below w w ((((w3.setCell ⟨w,0,Ab⟩ (J U e.prio)).setCell ⟨w,1,Ab⟩ (J U e.seq)).setCell ⟨w,2,Ab⟩ (J U e.run)).setCell ⟨w,3,Ab⟩ (J U e.task)):=by
    repeat (first | (with_reducible exact B3) | refine Ad ?_ Bo _)
   have o4:=(((o3.setLow (a:=⟨w,0,Ab⟩) (by show w.heap.size<w1.heap.size;have:=R.lt;omega) (J U e.prio)).setLow (a:=⟨w,1,Ab⟩) (by show w.heap.size<w1.heap.size;have:=R.lt;omega) (J U e.seq)).setLow (a:=⟨w,2,Ab⟩) (by show w.heap.size<w1.heap.size;have:=R.lt;omega) (J U e.run)).setLow (a:=⟨w,3,Ab⟩) (by show w.heap.size<w1.heap.size;have:=R.lt;omega) (J U e.task);generalize ((((w3.setCell ⟨w,0,Ab⟩ (J U e.prio)).setCell ⟨w,1,Ab⟩ (J U e.seq)).setCell ⟨w,2,Ab⟩ (J U e.run)).setCell ⟨w,3,Ab⟩ (J U e.task))=w4 at *
   clear e0 e1 e2 e3 ef el;refine hK.out _ _ (HS0.out _ B4) (fun hHeld=>?_);clear hK K_
   (try simp only [pS])
   refine rC 8 (fun K_ hK=>?_);go_simp;refine hK.out _ _ (HS0.out _ B4) (fun hHeld=>?_);clear hK K_
   (try simp only [pS])
   refine rC 9 (fun K_ hK=>?_);go_simp;refine hK.out _ _ (HS0.out _ B4) (fun hHeld=>?_);clear hK K_
   (try simp only [pS])
   refine Al Bm ?_ _;refine NoPanic.normal ?_;clear hHeld;obtain ⟨s9,F9,rfl,o9,n9⟩:=Hr o4;go_wp2;refine Aj (v:=.tuple #[Gs e (),Aa s9.a s9.n s9.c,.bool true]) (Ve R4) rfl ⟨s9,F9,rfl,o9,fun x hx=>Ah (by have:=R.lt;omega) (n9 x hx),B4⟩
def Vf (l:List Entry) (w:World) (e:Ending) (w':World):Prop :=
 ∃ (s1:Sl) (F1:List Nat) (s2:Sl) (F2:List Nat),e = .returned (.tuple #[Aa s1.a s1.n s1.c,Aa s2.a s2.n s2.c])/\OwL Bx w' F1 s1.v (l.take (Dd l))/\OwL Bx w' F2 s2.v (l.drop (Dd l))/\(∀ x∈F1,w<=x)/\(∀ x∈F2,w<=x)/\(∀ x∈F1,x∉F2)/\Below w w w'
theorem Js {w:World} {E:TypeId} {base:Nat} {v:Value} {l:List Entry} (h:Ow Cy E w base v l):∃ (s:Sl) (F:List Nat),v = Aa s.a s.n s.c/\OwL Bx w F s.v l/\(∀ b∈F,base<=b)/\(∀ b∈F,v.ownBlock=Ac b):=by
 obtain ⟨h1,h2⟩:=Hw.of_ow h;obtain ⟨⟨A,c,hv,hc,hA⟩,hF,hf⟩:=id h1;subst hv;refine ⟨⟨A,l.length,c⟩,_,rfl,⟨l.map fun x=>(x,()),Ek (Aa A l.length c) l.length,[],by rw [List.map_map];exact List.map_id _,⟨⟨A,c,by rw [Ar],by rw [Ar];exact hc,fun hl=>?_⟩,by rw [Ar],hf⟩,Rn w l,(List.append_nil _).symm,h1.nodup⟩,h2,Ht _ _⟩;rw [Ar] at hl;obtain ⟨b,o,h3,h4,h5⟩:=hA hl;refine ⟨b,o,h3,h4,fun k hk j u hu=>?_⟩;rw [List.getElem_map] at hu;exact h5 k (by rw [Ar] at hk;exact hk) j u hu
theorem Abk (n:Nat):((n:Int)+1).tdiv 2=((n+1) / 2:Nat):=by
 rw [Int.tdiv_eq_ediv_of_nonneg Bl];omega
theorem Rd.dropM {α:Type} {e:Enc α} {w:World} {B:Nat} {A:Option Addr} {n c:Nat} {l:List α} (h:Rd e w B (Aa A n c) l) (k:Nat) (hk:k<=l.length):Rd e w B (Aa (A.map fun x=>x.add (k * e.sz)) (l.length - k) (c - k)) (l.drop k):=by
 obtain ⟨A',c0,hv,hc,hA⟩:=h;simp only [Value.slice.injEq] at hv;obtain ⟨rfl,rfl,rfl⟩:=hv;refine ⟨_,c - k,by rw [List.length_drop],by rw [List.length_drop];omega,fun hl=>?_⟩;rw [List.length_drop] at hl;obtain ⟨b,o,hb,aA,aN⟩:=hA Bl;refine ⟨b,o+k * e.sz,by rw [hb];simp only [Option.map_some,Option.some.injEq];unfold Addr.add;split<;>simp_all,aA,fun i hi j u hu=>?_⟩;rw [List.length_drop] at hi;rw [List.getElem_drop] at hu
 have:=aN (k+i) Bl j u hu
 rw [show o+k * e.sz+i * e.sz+j=o+(k+i) * e.sz+j from by rw [Nat.add_mul,<-Nat.add_assoc]];exact this
theorem Y5 (l:List Entry) (s:Sl) (w:World) (hl:l.length<=2000000) (h:RdL Bx w w s.v l) :
  Calls Am 207 #[Aa s.a s.n s.c] w (Vf l w):=by
 obtain ⟨A,n,c⟩:=s;obtain rfl:n=l.length:=RdL.at1 (s:=⟨A,n,c⟩) h;obtain ⟨i0,aR,aX,aW,aU⟩:=info_parts Gg;have h0:=Bq (fun W (hW:Below w w W)=>((Jm h).below hW).more hW.size);have hd:=Abk l.length;rw [show (l.length+1) / 2=Dd l from rfl] at hd;have kU:=Aa9 l;have rF:U.wrap ((l.length:Int)+1)=(l.length:Int)+1:=Aq _ Bl;have hw2:U.wrap (Dd l:Int)=(Dd l:Int):=Aq _ Bl;have cI:l.length<=c:=(h0.out w (Br _ _)).cap;have nE:Dd l<=c:=Bl;have hkcI:(Dd l:Int)<=(c:Int):=Bl;have hklI:(Dd l:Int)<=(l.length:Int):=Bl;have hk0I:(0:Int)<=(Dd l:Int):=Bl;have a0:=Bq (show ∀ W,Below w w W->Rd Cy W W (Aa A (Dd l) c) (l.take (Dd l)) from fun W hW=>(h0.out _ hW).take kU c nE);have dL:=Bq (show (l.take (Dd l)).length<=3000000 by simp;omega);have aZ:=Bq (show (l.drop (Dd l)).length<=3000000 by simp;omega);have a1:=((h0.out w (Br _ _)).dropM (Dd l) kU)
 go_enter func207,ntmps207;go_upto_region 2 with fail
 rcases Nat.lt_or_ge (Dd l) c with hk2 | hk2
 have qY:¬ c=Dd l:=Bl;have r0:=a0;have rr:=Bq (show ∀ W,Below w w W->Rd Cy W W (Aa (A.map fun x=>x.add (Dd l * 4)) (l.length - Dd l) (c - Dd l)) (l.drop (Dd l)) from fun W hW=>(a1.below hW).more hW.size);rotate_left;have qY:c=Dd l:=Bl;have hcl:l.length=Dd l:=Bl;have r0:=Bq (show ∀ W,Below w w W->Rd Cy W W (Aa A (Dd l) (Dd l)) (l.take (Dd l)) from fun W hW=>by have h9:=a0.out W hW;rw [qY] at h9;exact h9);have rr:=Bq (show ∀ W,Below w w W->Rd Cy W W (Aa A 0 0) (l.drop (Dd l)) from fun W hW=>by
  rw [List.drop_eq_nil_of_le Bl];exact ⟨A,0,rfl,Ag _,fun h=>absurd h Bn⟩)
 all_goals
  clear a1;refine Go.wp_region_noPanic ?_;refine wp_region_held_drew (S:=fun _=>True) Bm trivial (fun hHeld=>?_);have B1:Below w w w.drew:=(Br _ _).drew;generalize w.drew=w1 at *
  refine tY 1 ?_
  (try simp only [pS])
  refine tY 2 ?_
  (try simp only [pS])
  refine tY 3 ?_
  (try simp only [pS])
  refine tY 6 ?_
  (try simp only [pS])
  refine tY 7 ?_
  (try simp only [pS])
  refine tY 8 ?_
  (try simp only [pS])
  refine Qk 0 5 rfl rfl Bm (by rfl) (by rfl) (fun K_ hK=>?_) (fun K_ hK=>?_)
  ·go_simp;obtain ⟨g9,jE⟩:∃ g,g=w1.heap.size:=⟨_,rfl⟩
   rw [<-jE];have bb:Below w1 w1 (w1.alloc (.cells #[] 163)):=Bt;have o9:Ow Cy 163 (w1.alloc (.cells #[] 163)) w (Aa (Ac ⟨g9,0,Ab⟩) 0 0) []:=(Ow.empty Cy 163 w1 jE).more (by have:=B1.size;omega);have z9:g9<(w1.alloc (.cells #[] 163)):=by simp;omega
   have Bw1a:=Bu B1 bb;have y9:=bb.size;have ga9:=Nat.le_of_eq jE;have gb9:=Nat.le_of_eq jE.symm;clear bb jE;generalize w1.alloc (.cells #[] 163)=w1a at *
   refine hK.out _ _ trivial (fun hHeld=>?_);clear hK K_
   (try simp only [pS])
   refine Qk 4 5 rfl rfl Bm (by rfl) (by rfl) (fun K_ hK=>?_) (fun K_ hK=>?_)
   ·obtain ⟨n13,eL⟩:∃ n,n=w1a.heap.size:=⟨_,rfl⟩
    refine E1 _ Cy Bp (.tmp 9) (.tmp 12) 122 rfl w.heap.size 163 _ _ _ underlying122 aR aX aW aU rfl _ [] rfl o9 _ _ _ _ (l.take (Dd l)) rfl (r0.out _ Bw1a) Bn dL.out Bp Bw1a.size ?_;intro v13 w1ap o13 gg e13;rw [List.nil_append] at o13;rw [<-eL] at e13;have na13:=Nat.le_of_eq eL;have nb13:=Nat.le_of_eq eL.symm;clear eL;have t13:∀ g,v13.ownBlock=Ac g->g<w1ap.heap.size:=fun g h=>(o13.within g h).2;replace e13:v13.ownBlock=Ac g9\/v13.ownBlock=Ac n13:=e13;have Bw1ap:Below w w w1ap:=Bw1a.grown gg Bw1a.size (fun g hg=>(o9.within g hg).1);have y13:=gg.size;clear gg;refine hK.out _ _ trivial (fun hHeld=>?_);clear hK K_
    (try simp only [pS])
    refine rC 5 (fun K_ hK=>?_);go_simp;obtain ⟨g14,dU⟩:∃ g,g=w1ap.heap.size:=⟨_,rfl⟩
    rw [<-dU];have bb:Below w1ap w1ap (w1ap.alloc (.cells #[] 163)):=Bt;have o14:Ow Cy 163 (w1ap.alloc (.cells #[] 163)) w (Aa (Ac ⟨g14,0,Ab⟩) 0 0) []:=(Ow.empty Cy 163 w1ap dU).more (by have:=Bw1ap.size;omega);have z14:g14<(w1ap.alloc (.cells #[] 163)):=by simp;omega
    have Bw1apa:=Bu Bw1ap bb;replace o13:=o13.below bb;have y14:=bb.size;have ga14:=Nat.le_of_eq dU;have gb14:=Nat.le_of_eq dU.symm;clear bb dU;generalize w1ap.alloc (.cells #[] 163)=w1apa at *
    refine hK.out _ _ trivial (fun hHeld=>?_);clear hK K_
    (try simp only [pS])
    refine rC 9 (fun K_ hK=>?_);obtain ⟨n18,eG⟩:∃ n,n=w1apa.heap.size:=⟨_,rfl⟩
    refine E1 _ Cy Bp (.tmp 14) (.tmp 17) 122 rfl w.heap.size 163 _ _ _ underlying122 aR aX aW aU rfl _ [] rfl o14 _ _ _ _ (l.drop (Dd l)) rfl (rr.out _ Bw1apa) Bn aZ.out Bp Bw1apa.size ?_;intro v18 w1apap o18 gg e18;rw [List.nil_append] at o18;rw [<-eG] at e18;have na18:=Nat.le_of_eq eG;have nb18:=Nat.le_of_eq eG.symm;clear eG;have t18:∀ g,v18.ownBlock=Ac g->g<w1apap.heap.size:=fun g h=>(o18.within g h).2;replace e18:v18.ownBlock=Ac g14\/v18.ownBlock=Ac n18:=e18;have Bw1apap:Below w w w1apap:=Bw1apa.grown gg Bw1apa.size (fun g hg=>(o14.within g hg).1);have y18:=gg.size;replace o13:=o13.grown gg (Or.inr (fun h=>by have:=t13 g14 h;rcases e13 with h2 | h2<;>(rw [h2] at h;have:=Option.some.inj (show Ac _=Ac g14 from h);omega)));clear gg;refine hK.out _ _ trivial (fun hHeld=>?_);clear hK K_
    (try simp only [pS])
    refine rC 10 (fun K_ hK=>?_);go_simp;refine hK.out _ _ trivial (fun hHeld=>?_);clear hK K_
    (try simp only [pS])
    refine rC 11 (fun K_ hK=>?_);go_simp;refine hK.out _ _ trivial (fun hHeld=>?_);clear hK K_
    (try simp only [pS])
    refine Al Bm ?_ _;refine NoPanic.normal ?_;obtain ⟨s1,F1,rfl,p1,q1,r1⟩:=Js o13;obtain ⟨s2,F2,rfl,p2,q2,r2⟩:=Js o18;go_wp2;go_ret2;exact ⟨s1,F1,s2,F2,rfl,p1,p2,q1,q2,fun x hx hy=>by
     have a1:=r1 x hx;have a2:=r2 x hy;have a3:=t13 x a1;have a4:=t18 x a2;rcases e13 with h | h<;>rcases e18 with h' | h'<;>(rw [a1] at h;rw [a2] at h';have:=Option.some.inj h;have:=Option.some.inj h';omega),Bw1apap⟩
   ·go_simp;obtain ⟨g14,dU⟩:∃ g,g=w1a.heap.size:=⟨_,rfl⟩
    rw [<-dU];have bb:Below w1a w1a (w1a.alloc (.cells #[] 163)):=Bt;have o14:Ow Cy 163 (w1a.alloc (.cells #[] 163)) w (Aa (Ac ⟨g14,0,Ab⟩) 0 0) []:=(Ow.empty Cy 163 w1a dU).more (by have:=Bw1a.size;omega);have z14:g14<(w1a.alloc (.cells #[] 163)):=by simp;omega
    have Bw1aa:=Bu Bw1a bb;replace o9:=o9.below bb;have y14:=bb.size;have ga14:=Nat.le_of_eq dU;have gb14:=Nat.le_of_eq dU.symm;clear bb dU;generalize w1a.alloc (.cells #[] 163)=w1aa at *
    refine hK.out _ _ trivial (fun hHeld=>?_);clear hK K_
    (try simp only [pS])
    refine rC 4 (fun K_ hK=>?_);obtain ⟨n13,eL⟩:∃ n,n=w1aa.heap.size:=⟨_,rfl⟩
    refine E1 _ Cy Bp (.tmp 9) (.tmp 12) 122 rfl w.heap.size 163 _ _ _ underlying122 aR aX aW aU rfl _ [] rfl o9 _ _ _ _ (l.take (Dd l)) rfl (r0.out _ Bw1aa) Bn dL.out Bp Bw1aa.size ?_;intro v13 w1aap o13 gg e13;rw [List.nil_append] at o13;rw [<-eL] at e13;have na13:=Nat.le_of_eq eL;have nb13:=Nat.le_of_eq eL.symm;clear eL;have t13:∀ g,v13.ownBlock=Ac g->g<w1aap.heap.size:=fun g h=>(o13.within g h).2;replace e13:v13.ownBlock=Ac g9\/v13.ownBlock=Ac n13:=e13;have Bw1aap:Below w w w1aap:=Bw1aa.grown gg Bw1aa.size (fun g hg=>(o9.within g hg).1);have y13:=gg.size;replace o14:=o14.grown gg (Or.inr (fun h=>by have:=Option.some.inj (show Ac g14=Ac g9 from h);omega));clear gg;refine hK.out _ _ trivial (fun hHeld=>?_);clear hK K_
    (try simp only [pS])
    refine rC 9 (fun K_ hK=>?_);obtain ⟨n18,eG⟩:∃ n,n=w1aap.heap.size:=⟨_,rfl⟩
    refine E1 _ Cy Bp (.tmp 14) (.tmp 17) 122 rfl w.heap.size 163 _ _ _ underlying122 aR aX aW aU rfl _ [] rfl o14 _ _ _ _ (l.drop (Dd l)) rfl (rr.out _ Bw1aap) Bn aZ.out Bp Bw1aap.size ?_;intro v18 w1aapp o18 gg e18;rw [List.nil_append] at o18;rw [<-eG] at e18;have na18:=Nat.le_of_eq eG;have nb18:=Nat.le_of_eq eG.symm;clear eG;have t18:∀ g,v18.ownBlock=Ac g->g<w1aapp.heap.size:=fun g h=>(o18.within g h).2;replace e18:v18.ownBlock=Ac g14\/v18.ownBlock=Ac n18:=e18;have Bw1aapp:Below w w w1aapp:=Bw1aap.grown gg Bw1aap.size (fun g hg=>(o14.within g hg).1);have y18:=gg.size;replace o13:=o13.grown gg (Or.inr (fun h=>by have:=t13 g14 h;rcases e13 with h2 | h2<;>(rw [h2] at h;have:=Option.some.inj (show Ac _=Ac g14 from h);omega)));clear gg;refine hK.out _ _ trivial (fun hHeld=>?_);clear hK K_
    (try simp only [pS])
    refine rC 10 (fun K_ hK=>?_);go_simp;refine hK.out _ _ trivial (fun hHeld=>?_);clear hK K_
    (try simp only [pS])
    refine rC 11 (fun K_ hK=>?_);go_simp;refine hK.out _ _ trivial (fun hHeld=>?_);clear hK K_
    (try simp only [pS])
    refine Al Bm ?_ _;refine NoPanic.normal ?_;obtain ⟨s1,F1,rfl,p1,q1,r1⟩:=Js o13;obtain ⟨s2,F2,rfl,p2,q2,r2⟩:=Js o18;go_wp2;go_ret2;exact ⟨s1,F1,s2,F2,rfl,p1,p2,q1,q2,fun x hx hy=>by
     have a1:=r1 x hx;have a2:=r2 x hy;have a3:=t13 x a1;have a4:=t18 x a2;rcases e13 with h | h<;>rcases e18 with h' | h'<;>(rw [a1] at h;rw [a2] at h';have:=Option.some.inj h;have:=Option.some.inj h';omega),Bw1aapp⟩
  ·go_simp;obtain ⟨g14,dU⟩:∃ g,g=w1.heap.size:=⟨_,rfl⟩
   rw [<-dU];have bb:Below w1 w1 (w1.alloc (.cells #[] 163)):=Bt;have o14:Ow Cy 163 (w1.alloc (.cells #[] 163)) w (Aa (Ac ⟨g14,0,Ab⟩) 0 0) []:=(Ow.empty Cy 163 w1 dU).more (by have:=B1.size;omega);have z14:g14<(w1.alloc (.cells #[] 163)):=by simp;omega
   have Bw1a:=Bu B1 bb;have y14:=bb.size;have ga14:=Nat.le_of_eq dU;have gb14:=Nat.le_of_eq dU.symm;clear bb dU;generalize w1.alloc (.cells #[] 163)=w1a at *
   refine hK.out _ _ trivial (fun hHeld=>?_);clear hK K_
   (try simp only [pS])
   refine rC 0 (fun K_ hK=>?_);go_simp;obtain ⟨g9,jE⟩:∃ g,g=w1a.heap.size:=⟨_,rfl⟩
   rw [<-jE];have bb:Below w1a w1a (w1a.alloc (.cells #[] 163)):=Bt;have o9:Ow Cy 163 (w1a.alloc (.cells #[] 163)) w (Aa (Ac ⟨g9,0,Ab⟩) 0 0) []:=(Ow.empty Cy 163 w1a jE).more (by have:=Bw1a.size;omega);have z9:g9<(w1a.alloc (.cells #[] 163)):=by simp;omega
   have Bw1aa:=Bu Bw1a bb;replace o14:=o14.below bb;have y9:=bb.size;have ga9:=Nat.le_of_eq jE;have gb9:=Nat.le_of_eq jE.symm;clear bb jE;generalize w1a.alloc (.cells #[] 163)=w1aa at *
   refine hK.out _ _ trivial (fun hHeld=>?_);clear hK K_
   (try simp only [pS])
   refine rC 4 (fun K_ hK=>?_);obtain ⟨n13,eL⟩:∃ n,n=w1aa.heap.size:=⟨_,rfl⟩
   refine E1 _ Cy Bp (.tmp 9) (.tmp 12) 122 rfl w.heap.size 163 _ _ _ underlying122 aR aX aW aU rfl _ [] rfl o9 _ _ _ _ (l.take (Dd l)) rfl (r0.out _ Bw1aa) Bn dL.out Bp Bw1aa.size ?_;intro v13 w1aap o13 gg e13;rw [List.nil_append] at o13;rw [<-eL] at e13;have na13:=Nat.le_of_eq eL;have nb13:=Nat.le_of_eq eL.symm;clear eL;have t13:∀ g,v13.ownBlock=Ac g->g<w1aap.heap.size:=fun g h=>(o13.within g h).2;replace e13:v13.ownBlock=Ac g9\/v13.ownBlock=Ac n13:=e13;have Bw1aap:Below w w w1aap:=Bw1aa.grown gg Bw1aa.size (fun g hg=>(o9.within g hg).1);have y13:=gg.size;replace o14:=o14.grown gg (Or.inr (fun h=>by have:=Option.some.inj (show Ac g14=Ac g9 from h);omega));clear gg;refine hK.out _ _ trivial (fun hHeld=>?_);clear hK K_
   (try simp only [pS])
   refine rC 9 (fun K_ hK=>?_);obtain ⟨n18,eG⟩:∃ n,n=w1aap.heap.size:=⟨_,rfl⟩
   refine E1 _ Cy Bp (.tmp 14) (.tmp 17) 122 rfl w.heap.size 163 _ _ _ underlying122 aR aX aW aU rfl _ [] rfl o14 _ _ _ _ (l.drop (Dd l)) rfl (rr.out _ Bw1aap) Bn aZ.out Bp Bw1aap.size ?_;intro v18 w1aapp o18 gg e18;rw [List.nil_append] at o18;rw [<-eG] at e18;have na18:=Nat.le_of_eq eG;have nb18:=Nat.le_of_eq eG.symm;clear eG;have t18:∀ g,v18.ownBlock=Ac g->g<w1aapp.heap.size:=fun g h=>(o18.within g h).2;replace e18:v18.ownBlock=Ac g14\/v18.ownBlock=Ac n18:=e18;have Bw1aapp:Below w w w1aapp:=Bw1aap.grown gg Bw1aap.size (fun g hg=>(o14.within g hg).1);have y18:=gg.size;replace o13:=o13.grown gg (Or.inr (fun h=>by have:=t13 g14 h;rcases e13 with h2 | h2<;>(rw [h2] at h;have:=Option.some.inj (show Ac _=Ac g14 from h);omega)));clear gg;refine hK.out _ _ trivial (fun hHeld=>?_);clear hK K_
   (try simp only [pS])
   refine rC 10 (fun K_ hK=>?_);go_simp;refine hK.out _ _ trivial (fun hHeld=>?_);clear hK K_
   (try simp only [pS])
   refine rC 11 (fun K_ hK=>?_);go_simp;refine hK.out _ _ trivial (fun hHeld=>?_);clear hK K_
   (try simp only [pS])
   refine Al Bm ?_ _;refine NoPanic.normal ?_;obtain ⟨s1,F1,rfl,p1,q1,r1⟩:=Js o13;obtain ⟨s2,F2,rfl,p2,q2,r2⟩:=Js o18;go_wp2;go_ret2;exact ⟨s1,F1,s2,F2,rfl,p1,p2,q1,q2,fun x hx hy=>by
    have a1:=r1 x hx;have a2:=r2 x hy;have a3:=t13 x a1;have a4:=t18 x a2;rcases e13 with h | h<;>rcases e18 with h' | h'<;>(rw [a1] at h;rw [a2] at h';have:=Option.some.inj h;have:=Option.some.inj h';omega),Bw1aapp⟩
theorem Ae7:(Am.info? 3).map (fun i=>(i.zero,i.size,i.bytes))=Ac (Ac (J U 0),1,8):=Bm
theorem Vg (d:Deed) (s:Sl) (w:World) (h:Ec.rd w w d s) :
  Calls Am 64 #[De d s] w fun e w'=>e = .returned (.bool (Dl d))/\Below w w w':=by
 cases a0:inB d.kind 1 8;case true =>
  have:d.kind=1\/d.kind=2\/d.kind=3\/d.kind=4\/d.kind=5\/d.kind=6\/d.kind=7\/d.kind=8:=by
   simp [inB] at a0;omega
  rcases this with e | e | e | e | e | e | e | e
  ·exact Aba d s w e h
  ·exact Abb d s w e h
  ·exact Abc d s w e h
  ·exact Abd d s w e h
  ·exact Abe d s w e h
  ·exact Abg d s w e h
  ·exact Abh d s w e h
  ·exact Abf d s w e h
 have H:=Bq (show Dl d=false by simp [Dl,a0]);clear h;obtain ⟨A,n,c⟩:=s;obtain ⟨kd,rn,p,tk,ty,wk,dr⟩:=d;replace a0:inB kd 1 8=false:=a0;have X:=DBox.new 38 [J U kd,J U rn,J U p.prio,J U p.most,J U p.wait,J U p.tasks,Aa A n c,J U tk,J U ty,J U wk,J U dr] w (b:=w) rfl;have B0:Below w w (w.alloc (.cells #[J U kd,J U rn,J U p.prio,J U p.most,J U p.wait,J U p.tasks,Aa A n c,J U tk,J U ty,J U wk,J U dr] 38)):=by repeat (first | exact Br _ _ | refine Ae ?_ Bo _)
 go_enter func64,ntmps64;go_wp2_with (go_at_call 63;refine (Cg _ _ _ _).mono ?_;rintro e w9 ⟨rfl,rfl⟩;(try (with_reducible rw [a0]));dsimp only)
 go_ret;exact ⟨Bw H.out.symm,B0⟩
def Hs (l:List Edge):List Int:=l.flatMap fun e=>[e.fr,e.to]
def Ey (d:Deed):List Int :=
 if d.kind=1 then [d.run,d.plan.prio,d.plan.most,d.plan.wait,d.plan.tasks,d.plan.edges.length] ++ Hs d.plan.edges
 else if d.kind=2 then [d.worker,d.draw]
 else if d.kind=3\/d.kind=4 then [d.run,d.task,d.try_]
 else if d.kind=6\/d.kind=7 then [d.run]
 else []
theorem Qt (l:List Edge):(Hs l).length=2 * l.length:=by
 induction l with
 | nil=>rfl
 | cons a l ih =>
  rw [show Hs (a :: l)=[a.fr,a.to] ++ Hs l from rfl,Bd,List.length_cons,ih];simp;omega
theorem Wx (l:List Edge) (k:Nat) (h:k<l.length):Hs (l.take (k+1))=Hs (l.take k) ++ [l[k].fr,l[k].to]:=by
 rw [List.take_succ_eq_append_getElem h];simp only [Hs,List.flatMap_append,List.flatMap_cons,List.flatMap_nil,List.append_nil]
theorem Wy (d:Deed):(Ey d).length<=6+2 * d.plan.edges.length:=by
 unfold Ey;split
 ·rw [Bd,Qt];simp
 split
 ·simp;omega
 split
 ·simp;omega
 split<;>(simp;try omega)
theorem Ae8 (l:List Int):l.flatMap Ip.cells=l.map (Value.int .i64):=by
 induction l with
 | nil=>rfl
 | cons a l ih=>rw [List.flatMap_cons,ih];rfl
theorem Ow.ints (w:World) (E:TypeId) (l:List Int) {cs:Array Value} (gN:cs=(l.map (Value.int .i64)).toArray) {n g base:Nat} (hn:n=l.length) (hg:g=w) (hb:base<=w.heap.size) (hl:l.length<=1000) :
  Ow Ip E (w.alloc (.cells cs E)) base (Aa (Ac ⟨g,0,Ab⟩) n n) l:=by
 subst hn hg gN
 have:=World.ownsRow_lit (base:=base) (e:=E) (size:=Ip.sz) w (l.map (Value.int .i64)).toArray l.length hb (by simp [maxLen];omega) (by simp [Ip])
 unfold Ow;rw [Ae8];exact this
theorem Tb (d:Deed) (s:Sl) (w:World) (hl:d.plan.edges.length<=1000000) (h:Ec.rd w w d s) :
  Calls Am 110 #[De d s] w fun e w'=>∃ v,e = .returned v/\Ow Ip 3 w' w v (Ey d)/\Below w w w':=by
 obtain ⟨i0,aR,aX,aW,aU⟩:=info_parts Ae7;obtain ⟨A,n,c⟩:=s;obtain ⟨kd,rn,p,tk,ty,wk,dr⟩:=d;replace hl:p.edges.length<=1000000:=hl;have h0:Cd.rd w w p ⟨A,n,c⟩:=h;obtain rfl:n=p.edges.length:=RdL.at1 (s:=⟨A,n,c⟩) h0;have h2:Rd G6 w w (Aa A p.edges.length c) p.edges:=Ir h0;clear h h0;have X:=DBox.new 38 [J U kd,J U rn,J U p.prio,J U p.most,J U p.wait,J U p.tasks,Aa A p.edges.length c,J U tk,J U ty,J U wk,J U dr] w (b:=w) rfl;have B0:Below w w (w.alloc (.cells #[J U kd,J U rn,J U p.prio,J U p.most,J U p.wait,J U p.tasks,Aa A p.edges.length c,J U tk,J U ty,J U wk,J U dr] 38)):=by repeat (first | exact Br _ _ | refine Ae ?_ Bo _)
 by_cases k2:kd=2
 ·have H:=Bq (show Ey ⟨kd,rn,p,tk,ty,wk,dr⟩=[wk,dr] by simp [Ey,k2]);rw [H.out];clear H;subst k2;go_enter func110,ntmps110;go_wp2;go_ret;exact ⟨_,rfl,Ow.ints _ _ _ rfl rfl Bn B0.size Bn,B0.alloc B0.size _⟩
 by_cases k3:kd=3
 ·have H:=Bq (show Ey ⟨kd,rn,p,tk,ty,wk,dr⟩=[rn,tk,ty] by simp [Ey,k3]);rw [H.out];clear H;subst k3;go_enter func110,ntmps110;go_wp2;go_ret;exact ⟨_,rfl,Ow.ints _ _ _ rfl rfl Bn B0.size Bn,B0.alloc B0.size _⟩
 by_cases k4:kd=4
 ·have H:=Bq (show Ey ⟨kd,rn,p,tk,ty,wk,dr⟩=[rn,tk,ty] by simp [Ey,k4]);rw [H.out];clear H;subst k4;go_enter func110,ntmps110;go_wp2;go_ret;exact ⟨_,rfl,Ow.ints _ _ _ rfl rfl Bn B0.size Bn,B0.alloc B0.size _⟩
 by_cases k6:kd=6
 ·have H:=Bq (show Ey ⟨kd,rn,p,tk,ty,wk,dr⟩=[rn] by simp [Ey,k6]);rw [H.out];clear H;subst k6;go_enter func110,ntmps110;go_wp2;go_ret;exact ⟨_,rfl,Ow.ints _ _ _ rfl rfl Bn B0.size Bn,B0.alloc B0.size _⟩
 by_cases k7:kd=7
 ·have H:=Bq (show Ey ⟨kd,rn,p,tk,ty,wk,dr⟩=[rn] by simp [Ey,k7]);rw [H.out];clear H;subst k7;go_enter func110,ntmps110;go_wp2;go_ret;exact ⟨_,rfl,Ow.ints _ _ _ rfl rfl Bn B0.size Bn,B0.alloc B0.size _⟩
 by_cases k1:kd=1;case neg =>
  have H:=Bq (show Ey ⟨kd,rn,p,tk,ty,wk,dr⟩=[] by simp [Ey,k1,k2,k3,k4,k6,k7]);rw [H.out];clear H;have b1:(kd == 1)=false:=beq_eq_false_iff_ne.2 k1;have b2:(kd == 2)=false:=beq_eq_false_iff_ne.2 k2;have b3:(kd == 3)=false:=beq_eq_false_iff_ne.2 k3;have b4:(kd == 4)=false:=beq_eq_false_iff_ne.2 k4;have b6:(kd == 6)=false:=beq_eq_false_iff_ne.2 k6;have b7:(kd == 7)=false:=beq_eq_false_iff_ne.2 k7;clear k1 k2 k3 k4 k6 k7;go_enter func110,ntmps110;go_wp2;go_ret;exact ⟨_,rfl,Ow.nil _ _ _ _,B0⟩
 clear k2 k3 k4 k6 k7;have H:=Bq (show ∀ k,p.edges.length<=k->Ey ⟨kd,rn,p,tk,ty,wk,dr⟩=[rn,p.prio,p.most,p.wait,p.tasks,p.edges.length] ++ Hs (p.edges.take k) from fun k hk=>by simp [Ey,k1,Bg hk]);subst k1;go_enter func110,ntmps110;go_wp2;generalize De (⟨1,rn,p,tk,ty,wk,dr⟩:Deed) (⟨A,p.edges.length,c⟩:Sl)=dv;clear X;go_loopw [3,33] (fun vl i wr=>∃ (k:Nat) (v:Value),v=vl/\k<=p.edges.length/\i = J U k/\Hid (Ow Ip 3 wr w v ([rn,p.prio,p.most,p.wait,p.tasks,p.edges.length] ++ Hs (p.edges.take k)))/\Below w w wr) (fun _ i _=>p.edges.length - (intOf i).toNat);case atStart=>exact ⟨0,_,rfl,Ag _,rfl,Ow.ints _ _ _ rfl rfl Bn B0.size (by simp [Hs]),B0.alloc B0.size _⟩
 case round =>
  clear B0;obtain ⟨k,v,rfl,hk,rfl,hO,hb⟩:=hrel;by_cases aA:k<p.edges.length
  ·have aB:(k:Int)<(p.edges.length:Int):=Bl;obtain ⟨b,o,rfl,aK,d0,d1⟩:=(h2.below hb).edge aA;have HT:=Bq (Wx p.edges k aA);have HL:=Qt (p.edges.take k);rw [Az] at HL;generalize p.edges[k].fr=fx at *
   generalize p.edges[k].to=tx at *
   have ha:Hid (∀ w:World,Below w w ((w.alloc (.cells #[J U fx,J U tx] 187)).alloc (.cells #[J U fx,J U tx] 3))):=fun w=>(Bt).alloc Bn _;generalize Hs (p.edges.take k)=L at *
   go_wp2_with (at_builtin;refine Ch _ Ip Bp rfl (.tmp 37) (.tmp 42) rfl underlying32 aR aX aW aU rfl (v:=v) (l:=[rn,p.prio,p.most,p.wait,p.tasks,p.edges.length] ++ L) rfl (hO.out.below (ha.out wr)) rfl (Rd.of_own (Ow.ints _ _ [fx,tx] rfl Bn Bn (Bs _) Bn)) (by simp;omega) Bn Bp (by simp;have:=hb.size;omega) ?_;intro v5 w5 o5 g5 _)
   have aV:=Bu hb (ha.out wr);have W5:=aV.grown g5 aV.size (fun g hg=>(hO.out.within g hg).1);refine ⟨⟨k+1,_,rfl,Bl,by go_num,?_,W5⟩,by simp [intOf];omega⟩;rw [HT.out,<-List.append_assoc];exact o5
  ·have aB:¬ (k:Int)<(p.edges.length:Int):=Bl;have HO:=hO.out;rw [<-H.out k Bl] at HO;clear H hO;obtain ⟨A9,c9,rfl,-⟩:=id (Rd.of_own HO);go_wp2;go_ret;exact ⟨_,rfl,HO,hb⟩
end Go.Proofs.YtonlnjdempbfoabGreat
