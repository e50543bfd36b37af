/-
  slices.IndexFunc and slices.DeleteFunc at entries, with any closure over one variable. Written by program (df.py). DeedOk of the reference. Written by program (
-/
import Derived.Test.YtonlnjdempbfoaaGreatZOv0
import Derived.Test.YtonlnjdempbfoaaGreatZOv1
import Derived.Test.YtonlnjdempbfoaaGreatZOv2
import Derived.Test.YtonlnjdempbfoaaGreatZOv3
import Derived.Test.YtonlnjdempbfoaaGreatZOv5
import Derived.Deep.Cut
namespace Go.Proofs.YtonlnjdempbfoaaGreat
open Go.RowKit
set_option maxRecDepth 100000
set_option maxHeartbeats 4000000
set_option linter.unusedVariables false
set_option linter.unusedSimpArgs false
theorem Rd.ent_ {w:World} {B:Nat} {A:Option Addr} {n c:Nat} {l:List Entry} (h:Rd Az w B (.slice A n c) l) {k:Nat} (hk:k<l.length) :
  ∃ b o,A=some ⟨b,o,none⟩/\b<B/\w.cell? ⟨b,o+k * 4,none⟩=some (.int .i64 l[k].prio)/\w.cell? ⟨b,o+k * 4+1,none⟩=some (.int .i64 l[k].seq)/\w.cell? ⟨b,o+k * 4+2,none⟩=some (.int .i64 l[k].run)/\w.cell? ⟨b,o+k * 4+3,none⟩=some (.int .i64 l[k].task):=by
 obtain ⟨A',c',hv,_,hA⟩:=h
 simp only [Value.slice.injEq] at hv
 obtain ⟨rfl,_,_⟩:=hv
 obtain ⟨b,o,rfl,hb,hc⟩:=hA (by omega)
 exact ⟨b,o,rfl,hb,hc k hk 0 _ rfl,hc k hk 1 _ rfl,hc k hk 2 _ rfl,hc k hk 3 _ rfl⟩
theorem Ks {f:FuncId} {fn:Func} (hf:Tryz.prog.funcs[f]? = some fn) (hname:(fn.name == "runtime.NumGoroutine")=false) (hb:fn.body.isNone=false):∀ (args:Array Value) (w:World),(callFunc f args).run Tryz.prog w = .ok (.enter f args) w:=fun args w=>by
 have h1:fn.name ≠ "runtime.NumGoroutine" := by simpa using hname
 cases h:fn.body with
 | none=>rw [h] at hb;cases hb
 | some c=>simp [callFunc,hf,h1,h]
theorem M6 (FN p:Nat) (pred:Entry->Bool) (hF:∀ (args:Array Value) (w:World),(callFunc FN args).run Tryz.prog w = .ok (.enter FN args) w) (l:List Entry) (A:Option Addr) (n c:Nat) (w:World) (hl:l.length<=2000000) (h:Rd Az w w.heap.size (.slice A n c) l)
  (hf:∀ (W:World) (x:Entry),Below w.heap.size w W->Calls Tryz.prog FN #[Fb x (),.pointer (some ⟨p,0,none⟩)] W fun e w'=>e = .returned (.bool (pred x))/\Below W.heap.size W w') :
  Calls Tryz.prog 192 #[.slice A n c,.func (.func FN) #[] #[.pointer (some ⟨p,0,none⟩)]] w fun e w'=>e = .returned (.int .i64 (Eo pred l))/\Below w.heap.size w w':=by
 obtain rfl:n=l.length:=by obtain ⟨A',c',hv,_⟩:=id h;simp only [Value.slice.injEq] at hv;exact hv.2.1
 have HF:=Lib.hid hf
 clear hf
 go_enter Tryz.func192,Tryz.ntmps192
 go_wp2
 go_loopw [8] (fun i wr=>∃ k:Nat,k<=l.length/\i = .int .i64 k/\Hid (∀ j (hj:j<k) (hj':j<l.length),pred l[j]=false)/\Below w.heap.size w wr) (fun i _=>l.length - (intOf i).toNat)
 case atStart=>exact ⟨0,Nat.zero_le _,rfl,fun j hj=>absurd hj (by omega),Below.refl _ _⟩
 case round =>
  obtain ⟨k,hk,rfl,cI,hb⟩:=hrel
  by_cases aA:k<l.length
  ·obtain ⟨b,o,rfl,aH,c0,c1,c2,c3⟩:=(h.below hb).ent_ aA
   have aB:(k:Int)<(l.length:Int):=by omega
   have hs:=hb.size
   have C:=HF.out wr l[k] hb
   cases t1:pred l[k]
   ·have S:Hid (∀ j (hj:j<k+1) (hj':j<l.length),pred l[j]=false):=by
     intro j hj hj'
     by_cases e:j=k
     ·subst e;exact t1
     ·exact cI.out j (by omega) hj'
    rw [t1] at C
    go_wp2_with fail
    refine C.mono ?_
    rintro e w1 ⟨rfl,aL⟩
    have hE:=Aa hb aL
    go_wp2
    first
     | exact ⟨⟨k+1,by omega,by go_num,S,hE⟩,by simp [intOf];omega⟩
     | (refine ⟨?_,by simp [intOf];omega⟩;(repeat apply Exists.intro);first | exact ⟨⟨k+1,by omega,by go_num,S,hE⟩,rfl⟩ | exact ⟨⟨k+1,by omega,by go_num,S,hE⟩,rfl,rfl⟩ | exact ⟨⟨k+1,by omega,by go_num,S,hE⟩,rfl,rfl,rfl⟩ | exact ⟨⟨k+1,by omega,by go_num,S,hE⟩,rfl,rfl,rfl,rfl⟩ | exact ⟨⟨k+1,by omega,by go_num,S,hE⟩,rfl,rfl,rfl,rfl,rfl⟩ | exact ⟨⟨k+1,by omega,by go_num,S,hE⟩,rfl,rfl,rfl,rfl,rfl,rfl⟩ | exact ⟨⟨k+1,by omega,by go_num,S,hE⟩,rfl,rfl,rfl,rfl,rfl,rfl,rfl⟩)
   ·have H:=Lib.hid (Gi aA (fun j hj=>cI.out j hj (by omega)) t1)
    rw [t1] at C
    go_wp2_with fail
    refine C.mono ?_
    rintro e w1 ⟨rfl,aL⟩
    have hE:=Aa hb aL
    go_wp2
    go_ret
    exact ⟨Bw (by rw [H.out]),hE⟩
  ·have aB:¬ (k:Int)<(l.length:Int):=by omega
   have H:=Lib.hid (Hc (p:=pred) (l:=l) (fun j hj=>cI.out j (by omega) hj))
   go_wp2
   go_ret
   exact ⟨Bw (by rw [H.out]),hb⟩
theorem O9 (l:List Entry) (A:Option Addr) (n c:Nat) (F:List Nat) (FN p:Nat) (pred:Entry->Bool) (hF:∀ (args:Array Value) (w:World),(callFunc FN args).run Tryz.prog w = .ok (.enter FN args) w) (w:World) (hl:l.length<=2000000)
  (hdel:∀ (W:World) (x:Entry),Chg F w W->Calls Tryz.prog FN #[Fb x (),.pointer (some ⟨p,0,none⟩)] W fun e w'=>e = .returned (.bool (pred x))/\Below W.heap.size W w')
  (hidx:Calls Tryz.prog 192 #[.slice A n c,.func (.func FN) #[] #[.pointer (some ⟨p,0,none⟩)]] w fun e w'=>e = .returned (.int .i64 (Eo pred l))/\Below w.heap.size w w')
  (h:Hw Az w F (.slice A n c) l) :
  Calls Tryz.prog 133 #[.slice A n c,.func (.func FN) #[] #[.pointer (some ⟨p,0,none⟩)]] w (Ab1 Az A c F (l.filter fun x=>!pred x) w):=by
 obtain rfl:n=l.length:=by obtain ⟨A',c',hv,_⟩:=h.1;simp only [Value.slice.injEq] at hv;exact hv.2.1
 have HDel:=Lib.hid hdel
 clear hdel
 rcases Jw pred l with hr | ⟨k,hk,hr⟩
 ·have HN:Hid (∀ j (hj:j<l.length),pred l[j]=false):=fun j hj=>by
   cases hp:pred l[j] with
   | false=>rfl
   | true=>exact absurd (Ob.2 ⟨_,List.getElem_mem hj,hp⟩) (by omega)
  rw [hr] at hidx
  clear hr
  go_enter Tryz.func133,Tryz.ntmps133
  go_wp2_with fail
  refine hidx.mono ?_
  rintro e w1 ⟨rfl,b1⟩
  go_wp2
  go_ret
  exact ⟨l.length,F,rfl,by rw [Abg HN.out];exact h.below b1,fun b hb=>hb,Chg.of_below F b1⟩
 have HK:=Lib.hid (show Kept pred l l k (k+1) from by
  obtain ⟨h1,h2⟩:(∀ j (hj:j<l.length),j<k->pred l[j]=false)/\pred l[k]=true:=by
   unfold Eo at hr
   cases hf:l.findIdx? pred with
   | none=>rw [hf] at hr;simp only at hr;omega
   | some i =>
    rw [hf] at hr
    simp only at hr
    obtain ⟨hi,hp,hb⟩:=List.findIdx?_eq_some_iff_getElem.1 hf
    obtain rfl:i=k:=by omega
    exact ⟨fun j hj fD=>by simpa using hb j fD,hp⟩
  exact Yw hk h1 h2)
 obtain ⟨b,o,rfl,rfl,hb,fK⟩:=h.at_ (by omega)
 have HRd:=h.rd
 clear h
 rw [hr] at hidx
 clear hr
 have cM:((k:Int) == -1)=false:=beq_eq_false_iff_ne.2 (by omega)
 go_enter Tryz.func133,Tryz.ntmps133
 go_wp2_with fail
 refine hidx.mono ?_
 rintro e w1 ⟨rfl,b1⟩
 have HR1:=(HRd.below b1).more b1.size
 have hf1:∀ j,w1.frozen? ⟨b,j,none⟩=false:=fun j=>(b1.frozen (p:=⟨b,j,none⟩) hb).trans (fK j)
 have C1:=Chg.of_below [b] b1
 go_wp2
 clear cM
 go_loopw [5,6] (fun vi vj wr=>∃ (i j:Nat) (M:List Entry),i<j/\j<=l.length/\vi = .int .i64 i/\vj = .int .i64 j/\Hid (Kept pred l M i j)/\Rd Az wr wr.heap.size (.slice (some ⟨b,o,none⟩) l.length c) M/\Hid (∀ t,wr.frozen? ⟨b,t,none⟩=false)/\Chg [b] w wr) (fun _ vj _=>l.length - (intOf vj).toNat)
 case atStart=>exact ⟨k,k+1,l,Nat.lt_succ_self _,hk,rfl,by go_num,HK,HR1,hf1,C1⟩
 case round =>
  clear HR1 hf1 C1 HK b1 HRd fK hk
  obtain ⟨i,j,M,qK,hj,rfl,rfl,hK,hR,hF,hC⟩:=hrel
  have hML:=hK.out.len
  have cD:b<wr.heap.size:=Nat.lt_of_lt_of_le hb hC.size
  by_cases aA:j<l.length
  ·have aB:(j:Int)<(l.length:Int):=by omega
   have hiI:(i:Int)<(l.length:Int):=by omega
   obtain ⟨b',o',hA,_,d0,d1,d2,d3⟩:=hR.ent_ (k:=j) (by omega)
   simp only [Option.some.injEq,Addr.mk.injEq,and_true] at hA
   obtain ⟨rfl,rfl⟩:=hA
   have hMj:=hK.out.tail j aA (by omega) (Nat.le_refl _)
   rw [hMj] at d0 d1 d2 d3
   clear hMj
   have ha:=(Below.refl wr.heap.size wr).alloc (Nat.le_refl _) (.cells #[.int .i64 l[j].prio,.int .i64 l[j].seq,.int .i64 l[j].run,.int .i64 l[j].task] 93)
   have V:=DBox.new 93 [.int .i64 l[j].prio,.int .i64 l[j].seq,.int .i64 l[j].run,.int .i64 l[j].task] wr rfl
   have C:=HDel.out _ l[j] (hC.trans (Chg.of_below [b] ha))
   have HMl:=Lib.hid hML
   clear hML
   cases q:pred l[j]
   ·have S:=Lib.hid (hK.out.keep aA qK q)
    rw [q] at C
    go_wp2_with fail
    refine C.mono ?_
    rintro e w3 ⟨rfl,b3⟩
    replace V:=V.below b3
    have pL:=Aa ha b3
    obtain ⟨V_0,V_1,V_2,V_3,V_l⟩:=V.g4
    have R3:=(hR.below pL).more pL.size
    have F3:∀ t,w3.frozen? ⟨b,t,none⟩=false:=fun t=>(pL.frozen (p:=⟨b,t,none⟩) cD).trans (hF.out t)
    obtain ⟨b',o',hA,bZ,f0,f1,f2,f3⟩:=R3.ent_ (k:=i) (by rw [HMl.out];omega)
    simp only [Option.some.injEq,Addr.mk.injEq,and_true] at hA
    obtain ⟨rfl,rfl⟩:=hA
    have R4:=Lib.hid (R3.part i (by rw [HMl.out];omega) l[j] 0 (Az.cells l[j]) (by rw [Az.len];omega) (fun t ht=>by rw [Nat.zero_add];exact List.getElem?_eq_getElem ht) (fun t ht h=>by rw [Az.len] at h;omega))
    go_wp2
    have hw:E9 w3 b (o+i * Az.sz+0) (Az.cells l[j])=((((w3.setCell ⟨b,o+i * 4,none⟩ (.int .i64 l[j].prio)).setCell ⟨b,o+i * 4+1,none⟩ (.int .i64 l[j].seq)).setCell ⟨b,o+i * 4+2,none⟩ (.int .i64 l[j].run)).setCell ⟨b,o+i * 4+3,none⟩ (.int .i64 l[j].task)):=rfl
    have R5:=R4.out
    have C4:=Gk (Az.cells l[j]) w3 b (o+i * Az.sz+0)
    have Z4:=Hg (Az.cells l[j]) w3 b (o+i * Az.sz+0)
    have F4:∀ t,(E9 w3 b (o+i * Az.sz+0) (Az.cells l[j])).frozen? ⟨b,t,none⟩=false:=fun t=>by rw [Gl];exact F3 t
    rw [hw] at R5 C4 Z4 F4
    have C5:=(hC.trans (Chg.of_below [b] pL)).trans C4
    have R6:=R5.more (Nat.le_of_eq Z4.symm)
    first
     | exact ⟨⟨i+1,by omega,j+1,by omega,by go_num,by go_num,_,S,R6,F4,C5⟩,by simp [intOf];omega⟩
     | exact ⟨⟨i+1,j+1,_,by omega,by omega,by go_num,by go_num,S,R6,F4,C5⟩,by simp [intOf];omega⟩
     | (refine ⟨?_,by simp [intOf];omega⟩;(repeat apply Exists.intro);first | exact ⟨⟨i+1,j+1,_,by omega,by omega,by go_num,by go_num,S,R6,F4,C5⟩,rfl⟩ | exact ⟨⟨i+1,j+1,_,by omega,by omega,by go_num,by go_num,S,R6,F4,C5⟩,rfl,rfl⟩ | exact ⟨⟨i+1,j+1,_,by omega,by omega,by go_num,by go_num,S,R6,F4,C5⟩,rfl,rfl,rfl⟩ | exact ⟨⟨i+1,j+1,_,by omega,by omega,by go_num,by go_num,S,R6,F4,C5⟩,rfl,rfl,rfl,rfl⟩ | exact ⟨⟨i+1,j+1,_,by omega,by omega,by go_num,by go_num,S,R6,F4,C5⟩,rfl,rfl,rfl,rfl,rfl⟩ | exact ⟨⟨i+1,j+1,_,by omega,by omega,by go_num,by go_num,S,R6,F4,C5⟩,rfl,rfl,rfl,rfl,rfl,rfl⟩ | exact ⟨⟨i+1,j+1,_,by omega,by omega,by go_num,by go_num,S,R6,F4,C5⟩,rfl,rfl,rfl,rfl,rfl,rfl,rfl⟩)
   ·have S:=Lib.hid (hK.out.drop aA q)
    rw [q] at C
    go_wp2_with fail
    refine C.mono ?_
    rintro e w3 ⟨rfl,b3⟩
    have pL:=Aa ha b3
    have R3:=(hR.below pL).more pL.size
    have F3:Hid (∀ t,w3.frozen? ⟨b,t,none⟩=false):=fun t=>(pL.frozen (p:=⟨b,t,none⟩) cD).trans (hF.out t)
    have C5:=hC.trans (Chg.of_below [b] pL)
    go_wp2
    first
     | exact ⟨⟨i,j+1,M,by omega,by omega,rfl,by go_num,S,R3,F3,C5⟩,by simp [intOf];omega⟩
     | (refine ⟨?_,by simp [intOf];omega⟩;(repeat apply Exists.intro);first | exact ⟨⟨i,j+1,M,by omega,by omega,rfl,by go_num,S,R3,F3,C5⟩,rfl⟩ | exact ⟨⟨i,j+1,M,by omega,by omega,rfl,by go_num,S,R3,F3,C5⟩,rfl,rfl⟩ | exact ⟨⟨i,j+1,M,by omega,by omega,rfl,by go_num,S,R3,F3,C5⟩,rfl,rfl,rfl⟩ | exact ⟨⟨i,j+1,M,by omega,by omega,rfl,by go_num,S,R3,F3,C5⟩,rfl,rfl,rfl,rfl⟩ | exact ⟨⟨i,j+1,M,by omega,by omega,rfl,by go_num,S,R3,F3,C5⟩,rfl,rfl,rfl,rfl,rfl⟩ | exact ⟨⟨i,j+1,M,by omega,by omega,rfl,by go_num,S,R3,F3,C5⟩,rfl,rfl,rfl,rfl,rfl,rfl⟩ | exact ⟨⟨i,j+1,M,by omega,by omega,rfl,by go_num,S,R3,F3,C5⟩,rfl,rfl,rfl,rfl,rfl,rfl,rfl⟩)
  ·have aB:¬ (j:Int)<(l.length:Int):=by omega
   have HH:=Lib.hid (show M.take i=l.filter fun x=>!pred x by rw [hK.out.head,List.take_of_length_le (by omega)])
   have hcl:l.length<=c:=by have:=hR.cap;omega
   have kz:∀ w,(zeroValue 93).run Tryz.prog w = .ok (.agg #[.int .i64 0,.int .i64 0,.int .i64 0,.int .i64 0]) w:=fun w=>by
    obtain ⟨i0,aP,aX,aV,aQ⟩:=info_parts Ds
    simp [zeroValue,typeInfo,aP,aX]
   have kc:=K6 (P:=Tryz.prog) wr 96 93 0 (.agg #[.int .i64 0,.int .i64 0,.int .i64 0,.int .i64 0]) Tryz.underlying96 kz b (o+i * 4) (l.length - i) (c - i) (by omega) (fun v hv=>by
     simp [Value.cells] at hv
     try subst hv
     rfl) (fun q hq=>by
     have hq':q<(l.length - i) * 4:=hq
     have:=hR.some_ (by decide) (i * 4+q) (by
      show _<M.length * 4
      rw [hML]
      have h3:l.length * 4=i * 4+(l.length - i) * 4:=by rw [<-Nat.add_mul];congr 1;omega
      omega)
     rw [Nat.add_assoc]
     exact this) hF.out
   go_wp2
   clear kc
   go_ret
   have Rc:=hR.clear i (by omega) (Builtin.zeroCells #[.int .i64 0,.int .i64 0,.int .i64 0,.int .i64 0] (l.length - i)).toList
   rw [HH.out] at Rc
   have Cc:=hC.trans (Gk (Builtin.zeroCells #[.int .i64 0,.int .i64 0,.int .i64 0,.int .i64 0] (l.length - i)).toList wr b (o+i * 4))
   have Rw:=Hw.of_rd (Rc.more (Nat.le_of_eq (Hg _ _ _ _).symm)) (fun t=>by rw [Gl];exact hF.out t)
   refine ⟨i,_,rfl,Rw,fun x hx=>?_,Cc⟩
   have:=E6 _ _ _ hx
   have:b=x:=by simpa [Value.ownBlock] using this
   simp [this]
theorem Wu (d:Deed) (s:Sl) (w:World) (hk:d.kind=1) (h:Be.rd w w.heap.size d s) :
  Calls Tryz.prog 141 #[Bm d s] w fun e w'=>e = .returned (.bool (Bp d))/\Below w.heap.size w w':=by
 have h2:Ag.rd w w.heap.size d.plan s:=h
 have HR:=Lib.hid (show ∀ W,Below w.heap.size w W->Ag.rd W W.heap.size d.plan s from fun W hW=>Ag.rd_more (Ag.rd_below h2 hW) hW.size)
 clear h h2
 obtain ⟨A,n,c⟩:=s
 obtain ⟨kd,rn,p,tk,ty,wk,dr⟩:=d
 obtain rfl:kd=1:=hk
 have X:=DBox.new 45 [.int .i64 1,.int .i64 rn,.int .i64 p.prio,.int .i64 p.most,.int .i64 p.wait,.int .i64 p.tasks,.slice A n c,.int .i64 tk,.int .i64 ty,.int .i64 wk,.int .i64 dr] w (b:=w.heap.size) rfl
 have B0:Below w.heap.size w (w.alloc (.cells #[.int .i64 1,.int .i64 rn,.int .i64 p.prio,.int .i64 p.most,.int .i64 p.wait,.int .i64 p.tasks,.slice A n c,.int .i64 tk,.int .i64 ty,.int .i64 wk,.int .i64 dr] 45)):=by repeat (first | exact Below.refl _ _ | refine Below.alloc ?_ (by simp<;>omega) _)
 have e0:inB 1 1 8=true:=rfl
 have HD:=Lib.hid (show Bp ⟨1,rn,p,tk,ty,wk,dr⟩=(Dc rn && (tk == 0) && (ty == 0) && (wk == 0) && (dr == 0) && Da p) by simp [Bp,inB,Bool.and_assoc])
 by_cases a0:inB rn 0 1000000000=false
 rotate_left
 replace a0:inB rn 0 1000000000=true:=by simpa using a0
 by_cases a1:(tk != 0)=true
 rotate_left
 replace a1:(tk != 0)=false:=by simpa using a1
 by_cases a2:(ty != 0)=true
 rotate_left
 replace a2:(ty != 0)=false:=by simpa using a2
 by_cases a3:(wk != 0)=true
 rotate_left
 replace a3:(wk != 0)=false:=by simpa using a3
 by_cases a4:(dr != 0)=true
 rotate_left
 replace a4:(dr != 0)=false:=by simpa using a4
 ·have H:=Lib.hid (show Bp ⟨1,rn,p,tk,ty,wk,dr⟩=Da p by rw [HD.out];simp only [bne_eq_false_iff_eq] at a0 a1 a2 a3 a4;simp [Dc, *])
  have C:=Px p ⟨A,n,c⟩ _ (HR.out _ B0)
  go_enter Tryz.func141,Tryz.ntmps141
  go_upto_region 6 with (first | (go_at_call 191;refine (Au _ _).mono ?_;rintro e w9 ⟨rfl,rfl⟩;(try (with_reducible first | rw [e0] | rw [a0] | rw [a1] | rw [a2] | rw [a3] | rw [a4]));dsimp only) | (go_at_call 155;refine (Aj _ _ _ _).mono ?_;rintro e w9 ⟨rfl,rfl⟩;(try (with_reducible first | rw [e0] | rw [a0] | rw [a1] | rw [a2] | rw [a3] | rw [a4]));dsimp only) | (go_at_call 196;refine C.mono ?_;rintro e w1 ⟨rfl,b1⟩))
  dsimp only [List.append]
  go_wp2_with (first | (go_at_call 191;refine (Au _ _).mono ?_;rintro e w9 ⟨rfl,rfl⟩;(try (with_reducible first | rw [e0] | rw [a0] | rw [a1] | rw [a2] | rw [a3] | rw [a4]));dsimp only) | (go_at_call 155;refine (Aj _ _ _ _).mono ?_;rintro e w9 ⟨rfl,rfl⟩;(try (with_reducible first | rw [e0] | rw [a0] | rw [a1] | rw [a2] | rw [a3] | rw [a4]));dsimp only) | (go_at_call 196;refine C.mono ?_;rintro e w1 ⟨rfl,b1⟩))
  go_ret
  exact ⟨Ac H.out.symm,Aa B0 b1⟩
 all_goals
  have H:=Lib.hid (show Bp ⟨1,rn,p,tk,ty,wk,dr⟩=false by rw [HD.out];simp only [bne_eq_false_iff_eq,bne_iff_ne] at *;simp [Dc, *])
  go_enter Tryz.func141,Tryz.ntmps141
  go_upto_region 6 with (first | (go_at_call 191;refine (Au _ _).mono ?_;rintro e w9 ⟨rfl,rfl⟩;(try (with_reducible first | rw [e0] | rw [a0] | rw [a1] | rw [a2] | rw [a3] | rw [a4]));dsimp only) | (go_at_call 155;refine (Aj _ _ _ _).mono ?_;rintro e w9 ⟨rfl,rfl⟩;(try (with_reducible first | rw [e0] | rw [a0] | rw [a1] | rw [a2] | rw [a3] | rw [a4]));dsimp only))
  dsimp only [List.append]
  go_wp2_with (first | (go_at_call 191;refine (Au _ _).mono ?_;rintro e w9 ⟨rfl,rfl⟩;(try (with_reducible first | rw [e0] | rw [a0] | rw [a1] | rw [a2] | rw [a3] | rw [a4]));dsimp only) | (go_at_call 155;refine (Aj _ _ _ _).mono ?_;rintro e w9 ⟨rfl,rfl⟩;(try (with_reducible first | rw [e0] | rw [a0] | rw [a1] | rw [a2] | rw [a3] | rw [a4]));dsimp only))
  go_ret
  exact ⟨Ac H.out.symm,B0⟩
theorem Wv (d:Deed) (s:Sl) (w:World) (hk:d.kind=2) (h:Be.rd w w.heap.size d s) :
  Calls Tryz.prog 141 #[Bm d s] w fun e w'=>e = .returned (.bool (Bp d))/\Below w.heap.size w w':=by
 have h2:Ag.rd w w.heap.size d.plan s:=h
 have HR:=Lib.hid (show ∀ W,Below w.heap.size w W->Ag.rd W W.heap.size d.plan s from fun W hW=>Ag.rd_more (Ag.rd_below h2 hW) hW.size)
 clear h h2
 obtain ⟨A,n,c⟩:=s
 obtain ⟨kd,rn,p,tk,ty,wk,dr⟩:=d
 obtain rfl:kd=2:=hk
 have X:=DBox.new 45 [.int .i64 2,.int .i64 rn,.int .i64 p.prio,.int .i64 p.most,.int .i64 p.wait,.int .i64 p.tasks,.slice A n c,.int .i64 tk,.int .i64 ty,.int .i64 wk,.int .i64 dr] w (b:=w.heap.size) rfl
 have B0:Below w.heap.size w (w.alloc (.cells #[.int .i64 2,.int .i64 rn,.int .i64 p.prio,.int .i64 p.most,.int .i64 p.wait,.int .i64 p.tasks,.slice A n c,.int .i64 tk,.int .i64 ty,.int .i64 wk,.int .i64 dr] 45)):=by repeat (first | exact Below.refl _ _ | refine Below.alloc ?_ (by simp<;>omega) _)
 have e0:inB 2 1 8=true:=rfl
 have HD:=Lib.hid (show Bp ⟨2,rn,p,tk,ty,wk,dr⟩=((rn == 0) && (tk == 0) && (ty == 0) && Dc wk && Dc dr && Dd p) by simp [Bp,inB,Bool.and_assoc])
 by_cases a0:(rn != 0)=true
 rotate_left
 replace a0:(rn != 0)=false:=by simpa using a0
 by_cases a1:(tk != 0)=true
 rotate_left
 replace a1:(tk != 0)=false:=by simpa using a1
 by_cases a2:(ty != 0)=true
 rotate_left
 replace a2:(ty != 0)=false:=by simpa using a2
 by_cases a3:inB wk 0 1000000000=false
 rotate_left
 replace a3:inB wk 0 1000000000=true:=by simpa using a3
 by_cases a4:inB dr 0 1000000000=false
 rotate_left
 replace a4:inB dr 0 1000000000=true:=by simpa using a4
 ·have H:=Lib.hid (show Bp ⟨2,rn,p,tk,ty,wk,dr⟩=Dd p by rw [HD.out];simp only [bne_eq_false_iff_eq] at a0 a1 a2 a3 a4;simp [Dc, *])
  have C:=Et p ⟨A,n,c⟩ _ (HR.out _ B0)
  go_enter Tryz.func141,Tryz.ntmps141
  go_upto_region 6 with (first | (go_at_call 191;refine (Au _ _).mono ?_;rintro e w9 ⟨rfl,rfl⟩;(try (with_reducible first | rw [e0] | rw [a0] | rw [a1] | rw [a2] | rw [a3] | rw [a4]));dsimp only) | (go_at_call 155;refine (Aj _ _ _ _).mono ?_;rintro e w9 ⟨rfl,rfl⟩;(try (with_reducible first | rw [e0] | rw [a0] | rw [a1] | rw [a2] | rw [a3] | rw [a4]));dsimp only) | (go_at_call 197;refine C.mono ?_;rintro e w1 ⟨rfl,b1⟩))
  dsimp only [List.append]
  go_wp2_with (first | (go_at_call 191;refine (Au _ _).mono ?_;rintro e w9 ⟨rfl,rfl⟩;(try (with_reducible first | rw [e0] | rw [a0] | rw [a1] | rw [a2] | rw [a3] | rw [a4]));dsimp only) | (go_at_call 155;refine (Aj _ _ _ _).mono ?_;rintro e w9 ⟨rfl,rfl⟩;(try (with_reducible first | rw [e0] | rw [a0] | rw [a1] | rw [a2] | rw [a3] | rw [a4]));dsimp only) | (go_at_call 197;refine C.mono ?_;rintro e w1 ⟨rfl,b1⟩))
  go_ret
  exact ⟨Ac H.out.symm,Aa B0 b1⟩
 all_goals
  have H:=Lib.hid (show Bp ⟨2,rn,p,tk,ty,wk,dr⟩=false by rw [HD.out];simp only [bne_eq_false_iff_eq,bne_iff_ne] at *;simp [Dc, *])
  go_enter Tryz.func141,Tryz.ntmps141
  go_upto_region 6 with (first | (go_at_call 191;refine (Au _ _).mono ?_;rintro e w9 ⟨rfl,rfl⟩;(try (with_reducible first | rw [e0] | rw [a0] | rw [a1] | rw [a2] | rw [a3] | rw [a4]));dsimp only) | (go_at_call 155;refine (Aj _ _ _ _).mono ?_;rintro e w9 ⟨rfl,rfl⟩;(try (with_reducible first | rw [e0] | rw [a0] | rw [a1] | rw [a2] | rw [a3] | rw [a4]));dsimp only))
  dsimp only [List.append]
  go_wp2_with (first | (go_at_call 191;refine (Au _ _).mono ?_;rintro e w9 ⟨rfl,rfl⟩;(try (with_reducible first | rw [e0] | rw [a0] | rw [a1] | rw [a2] | rw [a3] | rw [a4]));dsimp only) | (go_at_call 155;refine (Aj _ _ _ _).mono ?_;rintro e w9 ⟨rfl,rfl⟩;(try (with_reducible first | rw [e0] | rw [a0] | rw [a1] | rw [a2] | rw [a3] | rw [a4]));dsimp only))
  go_ret
  exact ⟨Ac H.out.symm,B0⟩
theorem Ww (d:Deed) (s:Sl) (w:World) (hk:d.kind=3) (h:Be.rd w w.heap.size d s) :
  Calls Tryz.prog 141 #[Bm d s] w fun e w'=>e = .returned (.bool (Bp d))/\Below w.heap.size w w':=by
 have h2:Ag.rd w w.heap.size d.plan s:=h
 have HR:=Lib.hid (show ∀ W,Below w.heap.size w W->Ag.rd W W.heap.size d.plan s from fun W hW=>Ag.rd_more (Ag.rd_below h2 hW) hW.size)
 clear h h2
 obtain ⟨A,n,c⟩:=s
 obtain ⟨kd,rn,p,tk,ty,wk,dr⟩:=d
 obtain rfl:kd=3:=hk
 have X:=DBox.new 45 [.int .i64 3,.int .i64 rn,.int .i64 p.prio,.int .i64 p.most,.int .i64 p.wait,.int .i64 p.tasks,.slice A n c,.int .i64 tk,.int .i64 ty,.int .i64 wk,.int .i64 dr] w (b:=w.heap.size) rfl
 have B0:Below w.heap.size w (w.alloc (.cells #[.int .i64 3,.int .i64 rn,.int .i64 p.prio,.int .i64 p.most,.int .i64 p.wait,.int .i64 p.tasks,.slice A n c,.int .i64 tk,.int .i64 ty,.int .i64 wk,.int .i64 dr] 45)):=by repeat (first | exact Below.refl _ _ | refine Below.alloc ?_ (by simp<;>omega) _)
 have e0:inB 3 1 8=true:=rfl
 have HD:=Lib.hid (show Bp ⟨3,rn,p,tk,ty,wk,dr⟩=(Dc rn && Dc tk && Dc ty && (wk == 0) && (dr == 0) && Dd p) by simp [Bp,inB,Bool.and_assoc])
 by_cases a0:inB rn 0 1000000000=false
 rotate_left
 replace a0:inB rn 0 1000000000=true:=by simpa using a0
 by_cases a1:inB tk 0 1000000000=false
 rotate_left
 replace a1:inB tk 0 1000000000=true:=by simpa using a1
 by_cases a2:inB ty 0 1000000000=false
 rotate_left
 replace a2:inB ty 0 1000000000=true:=by simpa using a2
 by_cases a3:(wk != 0)=true
 rotate_left
 replace a3:(wk != 0)=false:=by simpa using a3
 by_cases a4:(dr != 0)=true
 rotate_left
 replace a4:(dr != 0)=false:=by simpa using a4
 ·have H:=Lib.hid (show Bp ⟨3,rn,p,tk,ty,wk,dr⟩=Dd p by rw [HD.out];simp only [bne_eq_false_iff_eq] at a0 a1 a2 a3 a4;simp [Dc, *])
  have C:=Et p ⟨A,n,c⟩ _ (HR.out _ B0)
  go_enter Tryz.func141,Tryz.ntmps141
  go_upto_region 6 with (first | (go_at_call 191;refine (Au _ _).mono ?_;rintro e w9 ⟨rfl,rfl⟩;(try (with_reducible first | rw [e0] | rw [a0] | rw [a1] | rw [a2] | rw [a3] | rw [a4]));dsimp only) | (go_at_call 155;refine (Aj _ _ _ _).mono ?_;rintro e w9 ⟨rfl,rfl⟩;(try (with_reducible first | rw [e0] | rw [a0] | rw [a1] | rw [a2] | rw [a3] | rw [a4]));dsimp only) | (go_at_call 197;refine C.mono ?_;rintro e w1 ⟨rfl,b1⟩))
  dsimp only [List.append]
  go_wp2_with (first | (go_at_call 191;refine (Au _ _).mono ?_;rintro e w9 ⟨rfl,rfl⟩;(try (with_reducible first | rw [e0] | rw [a0] | rw [a1] | rw [a2] | rw [a3] | rw [a4]));dsimp only) | (go_at_call 155;refine (Aj _ _ _ _).mono ?_;rintro e w9 ⟨rfl,rfl⟩;(try (with_reducible first | rw [e0] | rw [a0] | rw [a1] | rw [a2] | rw [a3] | rw [a4]));dsimp only) | (go_at_call 197;refine C.mono ?_;rintro e w1 ⟨rfl,b1⟩))
  go_ret
  exact ⟨Ac H.out.symm,Aa B0 b1⟩
 all_goals
  have H:=Lib.hid (show Bp ⟨3,rn,p,tk,ty,wk,dr⟩=false by rw [HD.out];simp only [bne_eq_false_iff_eq,bne_iff_ne] at *;simp [Dc, *])
  go_enter Tryz.func141,Tryz.ntmps141
  go_upto_region 6 with (first | (go_at_call 191;refine (Au _ _).mono ?_;rintro e w9 ⟨rfl,rfl⟩;(try (with_reducible first | rw [e0] | rw [a0] | rw [a1] | rw [a2] | rw [a3] | rw [a4]));dsimp only) | (go_at_call 155;refine (Aj _ _ _ _).mono ?_;rintro e w9 ⟨rfl,rfl⟩;(try (with_reducible first | rw [e0] | rw [a0] | rw [a1] | rw [a2] | rw [a3] | rw [a4]));dsimp only))
  dsimp only [List.append]
  go_wp2_with (first | (go_at_call 191;refine (Au _ _).mono ?_;rintro e w9 ⟨rfl,rfl⟩;(try (with_reducible first | rw [e0] | rw [a0] | rw [a1] | rw [a2] | rw [a3] | rw [a4]));dsimp only) | (go_at_call 155;refine (Aj _ _ _ _).mono ?_;rintro e w9 ⟨rfl,rfl⟩;(try (with_reducible first | rw [e0] | rw [a0] | rw [a1] | rw [a2] | rw [a3] | rw [a4]));dsimp only))
  go_ret
  exact ⟨Ac H.out.symm,B0⟩
theorem Wx (d:Deed) (s:Sl) (w:World) (hk:d.kind=4) (h:Be.rd w w.heap.size d s) :
  Calls Tryz.prog 141 #[Bm d s] w fun e w'=>e = .returned (.bool (Bp d))/\Below w.heap.size w w':=by
 have h2:Ag.rd w w.heap.size d.plan s:=h
 have HR:=Lib.hid (show ∀ W,Below w.heap.size w W->Ag.rd W W.heap.size d.plan s from fun W hW=>Ag.rd_more (Ag.rd_below h2 hW) hW.size)
 clear h h2
 obtain ⟨A,n,c⟩:=s
 obtain ⟨kd,rn,p,tk,ty,wk,dr⟩:=d
 obtain rfl:kd=4:=hk
 have X:=DBox.new 45 [.int .i64 4,.int .i64 rn,.int .i64 p.prio,.int .i64 p.most,.int .i64 p.wait,.int .i64 p.tasks,.slice A n c,.int .i64 tk,.int .i64 ty,.int .i64 wk,.int .i64 dr] w (b:=w.heap.size) rfl
 have B0:Below w.heap.size w (w.alloc (.cells #[.int .i64 4,.int .i64 rn,.int .i64 p.prio,.int .i64 p.most,.int .i64 p.wait,.int .i64 p.tasks,.slice A n c,.int .i64 tk,.int .i64 ty,.int .i64 wk,.int .i64 dr] 45)):=by repeat (first | exact Below.refl _ _ | refine Below.alloc ?_ (by simp<;>omega) _)
 have e0:inB 4 1 8=true:=rfl
 have HD:=Lib.hid (show Bp ⟨4,rn,p,tk,ty,wk,dr⟩=(Dc rn && Dc tk && Dc ty && (wk == 0) && (dr == 0) && Dd p) by simp [Bp,inB,Bool.and_assoc])
 by_cases a0:inB rn 0 1000000000=false
 rotate_left
 replace a0:inB rn 0 1000000000=true:=by simpa using a0
 by_cases a1:inB tk 0 1000000000=false
 rotate_left
 replace a1:inB tk 0 1000000000=true:=by simpa using a1
 by_cases a2:inB ty 0 1000000000=false
 rotate_left
 replace a2:inB ty 0 1000000000=true:=by simpa using a2
 by_cases a3:(wk != 0)=true
 rotate_left
 replace a3:(wk != 0)=false:=by simpa using a3
 by_cases a4:(dr != 0)=true
 rotate_left
 replace a4:(dr != 0)=false:=by simpa using a4
 ·have H:=Lib.hid (show Bp ⟨4,rn,p,tk,ty,wk,dr⟩=Dd p by rw [HD.out];simp only [bne_eq_false_iff_eq] at a0 a1 a2 a3 a4;simp [Dc, *])
  have C:=Et p ⟨A,n,c⟩ _ (HR.out _ B0)
  go_enter Tryz.func141,Tryz.ntmps141
  go_upto_region 6 with (first | (go_at_call 191;refine (Au _ _).mono ?_;rintro e w9 ⟨rfl,rfl⟩;(try (with_reducible first | rw [e0] | rw [a0] | rw [a1] | rw [a2] | rw [a3] | rw [a4]));dsimp only) | (go_at_call 155;refine (Aj _ _ _ _).mono ?_;rintro e w9 ⟨rfl,rfl⟩;(try (with_reducible first | rw [e0] | rw [a0] | rw [a1] | rw [a2] | rw [a3] | rw [a4]));dsimp only) | (go_at_call 197;refine C.mono ?_;rintro e w1 ⟨rfl,b1⟩))
  dsimp only [List.append]
  go_wp2_with (first | (go_at_call 191;refine (Au _ _).mono ?_;rintro e w9 ⟨rfl,rfl⟩;(try (with_reducible first | rw [e0] | rw [a0] | rw [a1] | rw [a2] | rw [a3] | rw [a4]));dsimp only) | (go_at_call 155;refine (Aj _ _ _ _).mono ?_;rintro e w9 ⟨rfl,rfl⟩;(try (with_reducible first | rw [e0] | rw [a0] | rw [a1] | rw [a2] | rw [a3] | rw [a4]));dsimp only) | (go_at_call 197;refine C.mono ?_;rintro e w1 ⟨rfl,b1⟩))
  go_ret
  exact ⟨Ac H.out.symm,Aa B0 b1⟩
 all_goals
  have H:=Lib.hid (show Bp ⟨4,rn,p,tk,ty,wk,dr⟩=false by rw [HD.out];simp only [bne_eq_false_iff_eq,bne_iff_ne] at *;simp [Dc, *])
  go_enter Tryz.func141,Tryz.ntmps141
  go_upto_region 6 with (first | (go_at_call 191;refine (Au _ _).mono ?_;rintro e w9 ⟨rfl,rfl⟩;(try (with_reducible first | rw [e0] | rw [a0] | rw [a1] | rw [a2] | rw [a3] | rw [a4]));dsimp only) | (go_at_call 155;refine (Aj _ _ _ _).mono ?_;rintro e w9 ⟨rfl,rfl⟩;(try (with_reducible first | rw [e0] | rw [a0] | rw [a1] | rw [a2] | rw [a3] | rw [a4]));dsimp only))
  dsimp only [List.append]
  go_wp2_with (first | (go_at_call 191;refine (Au _ _).mono ?_;rintro e w9 ⟨rfl,rfl⟩;(try (with_reducible first | rw [e0] | rw [a0] | rw [a1] | rw [a2] | rw [a3] | rw [a4]));dsimp only) | (go_at_call 155;refine (Aj _ _ _ _).mono ?_;rintro e w9 ⟨rfl,rfl⟩;(try (with_reducible first | rw [e0] | rw [a0] | rw [a1] | rw [a2] | rw [a3] | rw [a4]));dsimp only))
  go_ret
  exact ⟨Ac H.out.symm,B0⟩
theorem Wy (d:Deed) (s:Sl) (w:World) (hk:d.kind=5) (h:Be.rd w w.heap.size d s) :
  Calls Tryz.prog 141 #[Bm d s] w fun e w'=>e = .returned (.bool (Bp d))/\Below w.heap.size w w':=by
 have h2:Ag.rd w w.heap.size d.plan s:=h
 have HR:=Lib.hid (show ∀ W,Below w.heap.size w W->Ag.rd W W.heap.size d.plan s from fun W hW=>Ag.rd_more (Ag.rd_below h2 hW) hW.size)
 clear h h2
 obtain ⟨A,n,c⟩:=s
 obtain ⟨kd,rn,p,tk,ty,wk,dr⟩:=d
 obtain rfl:kd=5:=hk
 have X:=DBox.new 45 [.int .i64 5,.int .i64 rn,.int .i64 p.prio,.int .i64 p.most,.int .i64 p.wait,.int .i64 p.tasks,.slice A n c,.int .i64 tk,.int .i64 ty,.int .i64 wk,.int .i64 dr] w (b:=w.heap.size) rfl
 have B0:Below w.heap.size w (w.alloc (.cells #[.int .i64 5,.int .i64 rn,.int .i64 p.prio,.int .i64 p.most,.int .i64 p.wait,.int .i64 p.tasks,.slice A n c,.int .i64 tk,.int .i64 ty,.int .i64 wk,.int .i64 dr] 45)):=by repeat (first | exact Below.refl _ _ | refine Below.alloc ?_ (by simp<;>omega) _)
 have e0:inB 5 1 8=true:=rfl
 have HD:=Lib.hid (show Bp ⟨5,rn,p,tk,ty,wk,dr⟩=((rn == 0) && (tk == 0) && (ty == 0) && (wk == 0) && (dr == 0) && Dd p) by simp [Bp,inB,Bool.and_assoc])
 by_cases a0:(rn != 0)=true
 rotate_left
 replace a0:(rn != 0)=false:=by simpa using a0
 by_cases a1:(tk != 0)=true
 rotate_left
 replace a1:(tk != 0)=false:=by simpa using a1
 by_cases a2:(ty != 0)=true
 rotate_left
 replace a2:(ty != 0)=false:=by simpa using a2
 by_cases a3:(wk != 0)=true
 rotate_left
 replace a3:(wk != 0)=false:=by simpa using a3
 by_cases a4:(dr != 0)=true
 rotate_left
 replace a4:(dr != 0)=false:=by simpa using a4
 ·have H:=Lib.hid (show Bp ⟨5,rn,p,tk,ty,wk,dr⟩=Dd p by rw [HD.out];simp only [bne_eq_false_iff_eq] at a0 a1 a2 a3 a4;simp [Dc, *])
  have C:=Et p ⟨A,n,c⟩ _ (HR.out _ B0)
  go_enter Tryz.func141,Tryz.ntmps141
  go_upto_region 6 with (first | (go_at_call 191;refine (Au _ _).mono ?_;rintro e w9 ⟨rfl,rfl⟩;(try (with_reducible first | rw [e0] | rw [a0] | rw [a1] | rw [a2] | rw [a3] | rw [a4]));dsimp only) | (go_at_call 155;refine (Aj _ _ _ _).mono ?_;rintro e w9 ⟨rfl,rfl⟩;(try (with_reducible first | rw [e0] | rw [a0] | rw [a1] | rw [a2] | rw [a3] | rw [a4]));dsimp only) | (go_at_call 197;refine C.mono ?_;rintro e w1 ⟨rfl,b1⟩))
  dsimp only [List.append]
  go_wp2_with (first | (go_at_call 191;refine (Au _ _).mono ?_;rintro e w9 ⟨rfl,rfl⟩;(try (with_reducible first | rw [e0] | rw [a0] | rw [a1] | rw [a2] | rw [a3] | rw [a4]));dsimp only) | (go_at_call 155;refine (Aj _ _ _ _).mono ?_;rintro e w9 ⟨rfl,rfl⟩;(try (with_reducible first | rw [e0] | rw [a0] | rw [a1] | rw [a2] | rw [a3] | rw [a4]));dsimp only) | (go_at_call 197;refine C.mono ?_;rintro e w1 ⟨rfl,b1⟩))
  go_ret
  exact ⟨Ac H.out.symm,Aa B0 b1⟩
 all_goals
  have H:=Lib.hid (show Bp ⟨5,rn,p,tk,ty,wk,dr⟩=false by rw [HD.out];simp only [bne_eq_false_iff_eq,bne_iff_ne] at *;simp [Dc, *])
  go_enter Tryz.func141,Tryz.ntmps141
  go_upto_region 6 with (first | (go_at_call 191;refine (Au _ _).mono ?_;rintro e w9 ⟨rfl,rfl⟩;(try (with_reducible first | rw [e0] | rw [a0] | rw [a1] | rw [a2] | rw [a3] | rw [a4]));dsimp only) | (go_at_call 155;refine (Aj _ _ _ _).mono ?_;rintro e w9 ⟨rfl,rfl⟩;(try (with_reducible first | rw [e0] | rw [a0] | rw [a1] | rw [a2] | rw [a3] | rw [a4]));dsimp only))
  dsimp only [List.append]
  go_wp2_with (first | (go_at_call 191;refine (Au _ _).mono ?_;rintro e w9 ⟨rfl,rfl⟩;(try (with_reducible first | rw [e0] | rw [a0] | rw [a1] | rw [a2] | rw [a3] | rw [a4]));dsimp only) | (go_at_call 155;refine (Aj _ _ _ _).mono ?_;rintro e w9 ⟨rfl,rfl⟩;(try (with_reducible first | rw [e0] | rw [a0] | rw [a1] | rw [a2] | rw [a3] | rw [a4]));dsimp only))
  go_ret
  exact ⟨Ac H.out.symm,B0⟩
theorem Wz (d:Deed) (s:Sl) (w:World) (hk:d.kind=8) (h:Be.rd w w.heap.size d s) :
  Calls Tryz.prog 141 #[Bm d s] w fun e w'=>e = .returned (.bool (Bp d))/\Below w.heap.size w w':=by
 have h2:Ag.rd w w.heap.size d.plan s:=h
 have HR:=Lib.hid (show ∀ W,Below w.heap.size w W->Ag.rd W W.heap.size d.plan s from fun W hW=>Ag.rd_more (Ag.rd_below h2 hW) hW.size)
 clear h h2
 obtain ⟨A,n,c⟩:=s
 obtain ⟨kd,rn,p,tk,ty,wk,dr⟩:=d
 obtain rfl:kd=8:=hk
 have X:=DBox.new 45 [.int .i64 8,.int .i64 rn,.int .i64 p.prio,.int .i64 p.most,.int .i64 p.wait,.int .i64 p.tasks,.slice A n c,.int .i64 tk,.int .i64 ty,.int .i64 wk,.int .i64 dr] w (b:=w.heap.size) rfl
 have B0:Below w.heap.size w (w.alloc (.cells #[.int .i64 8,.int .i64 rn,.int .i64 p.prio,.int .i64 p.most,.int .i64 p.wait,.int .i64 p.tasks,.slice A n c,.int .i64 tk,.int .i64 ty,.int .i64 wk,.int .i64 dr] 45)):=by repeat (first | exact Below.refl _ _ | refine Below.alloc ?_ (by simp<;>omega) _)
 have e0:inB 8 1 8=true:=rfl
 have HD:=Lib.hid (show Bp ⟨8,rn,p,tk,ty,wk,dr⟩=((rn == 0) && (tk == 0) && (ty == 0) && (wk == 0) && (dr == 0) && Dd p) by simp [Bp,inB,Bool.and_assoc])
 by_cases a0:(rn != 0)=true
 rotate_left
 replace a0:(rn != 0)=false:=by simpa using a0
 by_cases a1:(tk != 0)=true
 rotate_left
 replace a1:(tk != 0)=false:=by simpa using a1
 by_cases a2:(ty != 0)=true
 rotate_left
 replace a2:(ty != 0)=false:=by simpa using a2
 by_cases a3:(wk != 0)=true
 rotate_left
 replace a3:(wk != 0)=false:=by simpa using a3
 by_cases a4:(dr != 0)=true
 rotate_left
 replace a4:(dr != 0)=false:=by simpa using a4
 ·have H:=Lib.hid (show Bp ⟨8,rn,p,tk,ty,wk,dr⟩=Dd p by rw [HD.out];simp only [bne_eq_false_iff_eq] at a0 a1 a2 a3 a4;simp [Dc, *])
  have C:=Et p ⟨A,n,c⟩ _ (HR.out _ B0)
  go_enter Tryz.func141,Tryz.ntmps141
  go_upto_region 6 with (first | (go_at_call 191;refine (Au _ _).mono ?_;rintro e w9 ⟨rfl,rfl⟩;(try (with_reducible first | rw [e0] | rw [a0] | rw [a1] | rw [a2] | rw [a3] | rw [a4]));dsimp only) | (go_at_call 155;refine (Aj _ _ _ _).mono ?_;rintro e w9 ⟨rfl,rfl⟩;(try (with_reducible first | rw [e0] | rw [a0] | rw [a1] | rw [a2] | rw [a3] | rw [a4]));dsimp only) | (go_at_call 197;refine C.mono ?_;rintro e w1 ⟨rfl,b1⟩))
  dsimp only [List.append]
  go_wp2_with (first | (go_at_call 191;refine (Au _ _).mono ?_;rintro e w9 ⟨rfl,rfl⟩;(try (with_reducible first | rw [e0] | rw [a0] | rw [a1] | rw [a2] | rw [a3] | rw [a4]));dsimp only) | (go_at_call 155;refine (Aj _ _ _ _).mono ?_;rintro e w9 ⟨rfl,rfl⟩;(try (with_reducible first | rw [e0] | rw [a0] | rw [a1] | rw [a2] | rw [a3] | rw [a4]));dsimp only) | (go_at_call 197;refine C.mono ?_;rintro e w1 ⟨rfl,b1⟩))
  go_ret
  exact ⟨Ac H.out.symm,Aa B0 b1⟩
 all_goals
  have H:=Lib.hid (show Bp ⟨8,rn,p,tk,ty,wk,dr⟩=false by rw [HD.out];simp only [bne_eq_false_iff_eq,bne_iff_ne] at *;simp [Dc, *])
  go_enter Tryz.func141,Tryz.ntmps141
  go_upto_region 6 with (first | (go_at_call 191;refine (Au _ _).mono ?_;rintro e w9 ⟨rfl,rfl⟩;(try (with_reducible first | rw [e0] | rw [a0] | rw [a1] | rw [a2] | rw [a3] | rw [a4]));dsimp only) | (go_at_call 155;refine (Aj _ _ _ _).mono ?_;rintro e w9 ⟨rfl,rfl⟩;(try (with_reducible first | rw [e0] | rw [a0] | rw [a1] | rw [a2] | rw [a3] | rw [a4]));dsimp only))
  dsimp only [List.append]
  go_wp2_with (first | (go_at_call 191;refine (Au _ _).mono ?_;rintro e w9 ⟨rfl,rfl⟩;(try (with_reducible first | rw [e0] | rw [a0] | rw [a1] | rw [a2] | rw [a3] | rw [a4]));dsimp only) | (go_at_call 155;refine (Aj _ _ _ _).mono ?_;rintro e w9 ⟨rfl,rfl⟩;(try (with_reducible first | rw [e0] | rw [a0] | rw [a1] | rw [a2] | rw [a3] | rw [a4]));dsimp only))
  go_ret
  exact ⟨Ac H.out.symm,B0⟩
theorem W0 (d:Deed) (s:Sl) (w:World) (hk:d.kind=6) (h:Be.rd w w.heap.size d s) :
  Calls Tryz.prog 141 #[Bm d s] w fun e w'=>e = .returned (.bool (Bp d))/\Below w.heap.size w w':=by
 have h2:Ag.rd w w.heap.size d.plan s:=h
 have HR:=Lib.hid (show ∀ W,Below w.heap.size w W->Ag.rd W W.heap.size d.plan s from fun W hW=>Ag.rd_more (Ag.rd_below h2 hW) hW.size)
 clear h h2
 obtain ⟨A,n,c⟩:=s
 obtain ⟨kd,rn,p,tk,ty,wk,dr⟩:=d
 obtain rfl:kd=6:=hk
 have X:=DBox.new 45 [.int .i64 6,.int .i64 rn,.int .i64 p.prio,.int .i64 p.most,.int .i64 p.wait,.int .i64 p.tasks,.slice A n c,.int .i64 tk,.int .i64 ty,.int .i64 wk,.int .i64 dr] w (b:=w.heap.size) rfl
 have B0:Below w.heap.size w (w.alloc (.cells #[.int .i64 6,.int .i64 rn,.int .i64 p.prio,.int .i64 p.most,.int .i64 p.wait,.int .i64 p.tasks,.slice A n c,.int .i64 tk,.int .i64 ty,.int .i64 wk,.int .i64 dr] 45)):=by repeat (first | exact Below.refl _ _ | refine Below.alloc ?_ (by simp<;>omega) _)
 have e0:inB 6 1 8=true:=rfl
 have HD:=Lib.hid (show Bp ⟨6,rn,p,tk,ty,wk,dr⟩=(Dc rn && (tk == 0) && (ty == 0) && (wk == 0) && (dr == 0) && Dd p) by simp [Bp,inB,Bool.and_assoc])
 by_cases a0:inB rn 0 1000000000=false
 rotate_left
 replace a0:inB rn 0 1000000000=true:=by simpa using a0
 by_cases a1:(tk != 0)=true
 rotate_left
 replace a1:(tk != 0)=false:=by simpa using a1
 by_cases a2:(ty != 0)=true
 rotate_left
 replace a2:(ty != 0)=false:=by simpa using a2
 by_cases a3:(wk != 0)=true
 rotate_left
 replace a3:(wk != 0)=false:=by simpa using a3
 by_cases a4:(dr != 0)=true
 rotate_left
 replace a4:(dr != 0)=false:=by simpa using a4
 ·have H:=Lib.hid (show Bp ⟨6,rn,p,tk,ty,wk,dr⟩=Dd p by rw [HD.out];simp only [bne_eq_false_iff_eq] at a0 a1 a2 a3 a4;simp [Dc, *])
  have C:=Et p ⟨A,n,c⟩ _ (HR.out _ B0)
  go_enter Tryz.func141,Tryz.ntmps141
  go_upto_region 6 with (first | (go_at_call 191;refine (Au _ _).mono ?_;rintro e w9 ⟨rfl,rfl⟩;(try (with_reducible first | rw [e0] | rw [a0] | rw [a1] | rw [a2] | rw [a3] | rw [a4]));dsimp only) | (go_at_call 155;refine (Aj _ _ _ _).mono ?_;rintro e w9 ⟨rfl,rfl⟩;(try (with_reducible first | rw [e0] | rw [a0] | rw [a1] | rw [a2] | rw [a3] | rw [a4]));dsimp only) | (go_at_call 197;refine C.mono ?_;rintro e w1 ⟨rfl,b1⟩))
  dsimp only [List.append]
  go_wp2_with (first | (go_at_call 191;refine (Au _ _).mono ?_;rintro e w9 ⟨rfl,rfl⟩;(try (with_reducible first | rw [e0] | rw [a0] | rw [a1] | rw [a2] | rw [a3] | rw [a4]));dsimp only) | (go_at_call 155;refine (Aj _ _ _ _).mono ?_;rintro e w9 ⟨rfl,rfl⟩;(try (with_reducible first | rw [e0] | rw [a0] | rw [a1] | rw [a2] | rw [a3] | rw [a4]));dsimp only) | (go_at_call 197;refine C.mono ?_;rintro e w1 ⟨rfl,b1⟩))
  go_ret
  exact ⟨Ac H.out.symm,Aa B0 b1⟩
 all_goals
  have H:=Lib.hid (show Bp ⟨6,rn,p,tk,ty,wk,dr⟩=false by rw [HD.out];simp only [bne_eq_false_iff_eq,bne_iff_ne] at *;simp [Dc, *])
  go_enter Tryz.func141,Tryz.ntmps141
  go_upto_region 6 with (first | (go_at_call 191;refine (Au _ _).mono ?_;rintro e w9 ⟨rfl,rfl⟩;(try (with_reducible first | rw [e0] | rw [a0] | rw [a1] | rw [a2] | rw [a3] | rw [a4]));dsimp only) | (go_at_call 155;refine (Aj _ _ _ _).mono ?_;rintro e w9 ⟨rfl,rfl⟩;(try (with_reducible first | rw [e0] | rw [a0] | rw [a1] | rw [a2] | rw [a3] | rw [a4]));dsimp only))
  dsimp only [List.append]
  go_wp2_with (first | (go_at_call 191;refine (Au _ _).mono ?_;rintro e w9 ⟨rfl,rfl⟩;(try (with_reducible first | rw [e0] | rw [a0] | rw [a1] | rw [a2] | rw [a3] | rw [a4]));dsimp only) | (go_at_call 155;refine (Aj _ _ _ _).mono ?_;rintro e w9 ⟨rfl,rfl⟩;(try (with_reducible first | rw [e0] | rw [a0] | rw [a1] | rw [a2] | rw [a3] | rw [a4]));dsimp only))
  go_ret
  exact ⟨Ac H.out.symm,B0⟩
theorem W6 (d:Deed) (s:Sl) (w:World) (hk:d.kind=7) (h:Be.rd w w.heap.size d s) :
  Calls Tryz.prog 141 #[Bm d s] w fun e w'=>e = .returned (.bool (Bp d))/\Below w.heap.size w w':=by
 have h2:Ag.rd w w.heap.size d.plan s:=h
 have HR:=Lib.hid (show ∀ W,Below w.heap.size w W->Ag.rd W W.heap.size d.plan s from fun W hW=>Ag.rd_more (Ag.rd_below h2 hW) hW.size)
 clear h h2
 obtain ⟨A,n,c⟩:=s
 obtain ⟨kd,rn,p,tk,ty,wk,dr⟩:=d
 obtain rfl:kd=7:=hk
 have X:=DBox.new 45 [.int .i64 7,.int .i64 rn,.int .i64 p.prio,.int .i64 p.most,.int .i64 p.wait,.int .i64 p.tasks,.slice A n c,.int .i64 tk,.int .i64 ty,.int .i64 wk,.int .i64 dr] w (b:=w.heap.size) rfl
 have B0:Below w.heap.size w (w.alloc (.cells #[.int .i64 7,.int .i64 rn,.int .i64 p.prio,.int .i64 p.most,.int .i64 p.wait,.int .i64 p.tasks,.slice A n c,.int .i64 tk,.int .i64 ty,.int .i64 wk,.int .i64 dr] 45)):=by repeat (first | exact Below.refl _ _ | refine Below.alloc ?_ (by simp<;>omega) _)
 have e0:inB 7 1 8=true:=rfl
 have HD:=Lib.hid (show Bp ⟨7,rn,p,tk,ty,wk,dr⟩=(Dc rn && (tk == 0) && (ty == 0) && (wk == 0) && (dr == 0) && Dd p) by simp [Bp,inB,Bool.and_assoc])
 by_cases a0:inB rn 0 1000000000=false
 rotate_left
 replace a0:inB rn 0 1000000000=true:=by simpa using a0
 by_cases a1:(tk != 0)=true
 rotate_left
 replace a1:(tk != 0)=false:=by simpa using a1
 by_cases a2:(ty != 0)=true
 rotate_left
 replace a2:(ty != 0)=false:=by simpa using a2
 by_cases a3:(wk != 0)=true
 rotate_left
 replace a3:(wk != 0)=false:=by simpa using a3
 by_cases a4:(dr != 0)=true
 rotate_left
 replace a4:(dr != 0)=false:=by simpa using a4
 ·have H:=Lib.hid (show Bp ⟨7,rn,p,tk,ty,wk,dr⟩=Dd p by rw [HD.out];simp only [bne_eq_false_iff_eq] at a0 a1 a2 a3 a4;simp [Dc, *])
  have C:=Et p ⟨A,n,c⟩ _ (HR.out _ B0)
  go_enter Tryz.func141,Tryz.ntmps141
  go_upto_region 6 with (first | (go_at_call 191;refine (Au _ _).mono ?_;rintro e w9 ⟨rfl,rfl⟩;(try (with_reducible first | rw [e0] | rw [a0] | rw [a1] | rw [a2] | rw [a3] | rw [a4]));dsimp only) | (go_at_call 155;refine (Aj _ _ _ _).mono ?_;rintro e w9 ⟨rfl,rfl⟩;(try (with_reducible first | rw [e0] | rw [a0] | rw [a1] | rw [a2] | rw [a3] | rw [a4]));dsimp only) | (go_at_call 197;refine C.mono ?_;rintro e w1 ⟨rfl,b1⟩))
  dsimp only [List.append]
  go_wp2_with (first | (go_at_call 191;refine (Au _ _).mono ?_;rintro e w9 ⟨rfl,rfl⟩;(try (with_reducible first | rw [e0] | rw [a0] | rw [a1] | rw [a2] | rw [a3] | rw [a4]));dsimp only) | (go_at_call 155;refine (Aj _ _ _ _).mono ?_;rintro e w9 ⟨rfl,rfl⟩;(try (with_reducible first | rw [e0] | rw [a0] | rw [a1] | rw [a2] | rw [a3] | rw [a4]));dsimp only) | (go_at_call 197;refine C.mono ?_;rintro e w1 ⟨rfl,b1⟩))
  go_ret
  exact ⟨Ac H.out.symm,Aa B0 b1⟩
 all_goals
  have H:=Lib.hid (show Bp ⟨7,rn,p,tk,ty,wk,dr⟩=false by rw [HD.out];simp only [bne_eq_false_iff_eq,bne_iff_ne] at *;simp [Dc, *])
  go_enter Tryz.func141,Tryz.ntmps141
  go_upto_region 6 with (first | (go_at_call 191;refine (Au _ _).mono ?_;rintro e w9 ⟨rfl,rfl⟩;(try (with_reducible first | rw [e0] | rw [a0] | rw [a1] | rw [a2] | rw [a3] | rw [a4]));dsimp only) | (go_at_call 155;refine (Aj _ _ _ _).mono ?_;rintro e w9 ⟨rfl,rfl⟩;(try (with_reducible first | rw [e0] | rw [a0] | rw [a1] | rw [a2] | rw [a3] | rw [a4]));dsimp only))
  dsimp only [List.append]
  go_wp2_with (first | (go_at_call 191;refine (Au _ _).mono ?_;rintro e w9 ⟨rfl,rfl⟩;(try (with_reducible first | rw [e0] | rw [a0] | rw [a1] | rw [a2] | rw [a3] | rw [a4]));dsimp only) | (go_at_call 155;refine (Aj _ _ _ _).mono ?_;rintro e w9 ⟨rfl,rfl⟩;(try (with_reducible first | rw [e0] | rw [a0] | rw [a1] | rw [a2] | rw [a3] | rw [a4]));dsimp only))
  go_ret
  exact ⟨Ac H.out.symm,B0⟩
def Hx (y:Yard):Prop:=y.shelf.length=4/\(∀ l∈y.shelf,Fd l)/\(∀ e∈Ah y,1<=e.seq/\e.seq<=y.seq - 1)/\((Ah y).map (·.seq)).Nodup
theorem Yy {y:Yard} (h3:y.shelf.length=4) (h4:∀ k (hk:k<y.shelf.length),Fd y.shelf[k]) (h5:Kq y.seq (Ah y) (Ah y).length):Hx y:=by
 refine ⟨h3,fun l hl=>?_,fun e he=>?_,O7 (fun j hj=>(h5 j hj hj).2)⟩
 ·obtain ⟨k,hk,rfl⟩:=List.getElem_of_mem hl
  exact h4 k hk
 ·obtain ⟨k,hk,rfl⟩:=List.getElem_of_mem he
  exact (h5 k hk hk).1
theorem U3 {y:Yard} (h:Hx y) {k:Nat} (hk:k<=(Ah y).length):Kq y.seq (Ah y) k:=fun j hj _ =>
 ⟨h.2.2.1 _ (List.getElem_mem hj),O8 h.2.2.2 (fun e he=>(h.2.2.1 e he).1) hj⟩
def U4 (l:List Entry) (k m:Nat):Prop:=∀ j (hj:j<l.length) (hk:k<l.length),j<m->l[j].seq≠l[k].seq
theorem W7 {l:List Entry} {k:Nat} (hk:k<l.length) (h:U4 l k k) (hp:∀ j (hj:j<l.length),j<=k->1<=l[j].seq):l[k].seq.toNat∉Gq l k:=by
 intro hm
 unfold Gq at hm
 obtain ⟨x,hx,he⟩:=List.mem_map.1 hm
 obtain ⟨j,hj,rfl⟩:=List.getElem_of_mem hx
 rw [List.length_take] at hj
 rw [List.getElem_take] at he
 have h1:=hp j (by omega) (by omega)
 have h2:=hp k hk (Nat.le_refl _)
 exact h j (by omega) hk (by omega) (by omega)
theorem Py (y:Yard) (s:Sl×Sl) (w:World) (hl:Ai y<=2000000) (hq:1<=y.seq/\y.seq<=1000000000) (h:Ab.rd w w.heap.size y s) :
  Calls Tryz.prog 215 #[By y s] w fun e w'=>e = .returned (.bool (tf (Hx y)))/\Below w.heap.size w w':=by
 have HR:=Lib.hid (show ∀ W,Below w.heap.size w W->Ab.rd W W.heap.size y s from fun W hW=>Ab.rd_more (Ab.rd_below h hW) hW.size)
 obtain ⟨⟨A1,n1,c1⟩,⟨A2,n2,c2⟩⟩:=s
 obtain rfl:n1=y.shelf.length:=RdL.at1 (s:=⟨A1,n1,c1⟩) h.1
 have h1:RdL (Dt.list Af) w w.heap.size (.slice A1 y.shelf.length c1) y.shelf:=h.1
 have hls:y.shelf.length<=2000000:=Nat.le_trans (Ar Bl _) (by unfold Ai at hl;omega)
 have HE:=Lib.hid (show ∀ k (hk:k<y.shelf.length),y.shelf[k].length<=2000000 from fun k hk=>by
  have:=Cq (cnt:=Bl) (List.getElem_mem hk)
  have h2:y.shelf[k].length<=Bl y.shelf[k]:=Ar Hu _
  unfold Ai at hl
  omega)
 have HEn:=Lib.hid (show (Ah y).length<=2000000 by
  have:=Ff y.shelf y.shelf.length
  rw [List.take_length] at this
  unfold Ai at hl
  unfold Ah
  omega)
 clear h
 have X:=DBox.new 31 [.int .i64 y.now,.int .i64 y.seq,.slice A1 y.shelf.length c1,.slice A2 n2 c2] w (b:=w.heap.size) rfl
 have B0:Below w.heap.size w (w.alloc (.cells #[.int .i64 y.now,.int .i64 y.seq,.slice A1 y.shelf.length c1,.slice A2 n2 c2] 31)):=by repeat (first | exact Below.refl _ _ | refine Below.alloc ?_ (by simp<;>omega) _)
 by_cases a3:y.shelf.length=4
 case neg =>
  have a3':((y.shelf.length:Int) != 4)=true:=by simp;omega
  have H:=Lib.hid (Al (show ¬ Hx y from fun h=>a3 h.1))
  clear a3
  go_enter Tryz.func215,Tryz.ntmps215
  go_wp2
  go_ret
  exact ⟨Ac H.out.symm,B0⟩
 have a3':((y.shelf.length:Int) != 4)=false:=by simp [a3]
 have A3_:=Lib.hid a3
 clear a3
 go_enter Tryz.func215,Tryz.ntmps215
 go_wp2
 generalize (w.alloc (.cells #[.int .i64 y.now,.int .i64 y.seq,.slice A1 y.shelf.length c1,.slice A2 n2 c2] 31))=W at *
 clear a3'
 go_loopw [3] (fun i wr=>∃ k:Nat,k<=y.shelf.length/\i = .int .i64 k/\Hid (∀ j (hj:j<y.shelf.length),j<k->Fd y.shelf[j])/\Below W.heap.size W wr) (fun i _=>y.shelf.length - (intOf i).toNat)
 case atStart=>exact ⟨0,Nat.zero_le _,rfl,fun j _ h0=>absurd h0 (by omega),Below.refl _ _⟩
 case round =>
  obtain ⟨k,hk,rfl,aW,hb⟩:=hrel
  replace X:=X.below hb
  replace B0:=Aa B0 hb
  obtain ⟨X_0,X_1,X_2,X_3,X_l⟩:=X.g4
  by_cases aA:k<y.shelf.length
  ·have aB:(k:Int)<(y.shelf.length:Int):=by omega
   obtain ⟨b,o,⟨As,ns,cs⟩,mA,aH,hr,d0⟩:=(h1.below B0).entryS aA
   obtain rfl:ns=y.shelf[k].length:=RdL.at1 (s:=⟨As,ns,cs⟩) hr
   subst mA
   have C:=Pu y.shelf[k] ⟨As,y.shelf[k].length,cs⟩ wr (HE.out k aA) (hr.more B0.size)
   by_cases q:Fd y.shelf[k]
   ·have S:Hid (∀ j (hj:j<y.shelf.length),j<k+1->Fd y.shelf[j]):=fun j hj fD=>by
     by_cases e:j=k
     ·subst e;exact q
     ·exact aW.out j hj (by omega)
    rw [Bs q] at C
    clear q
    go_wp2_with fail
    refine C.mono ?_
    rintro e w2 ⟨rfl,b2⟩
    go_wp2
    first
     | exact ⟨⟨k+1,by omega,by go_num,S,Aa hb b2⟩,by simp [intOf];omega⟩
     | (refine ⟨?_,by simp [intOf];omega⟩;(repeat apply Exists.intro);first | exact ⟨⟨k+1,by omega,by go_num,S,Aa hb b2⟩,rfl⟩ | exact ⟨⟨k+1,by omega,by go_num,S,Aa hb b2⟩,rfl,rfl⟩ | exact ⟨⟨k+1,by omega,by go_num,S,Aa hb b2⟩,rfl,rfl,rfl⟩ | exact ⟨⟨k+1,by omega,by go_num,S,Aa hb b2⟩,rfl,rfl,rfl,rfl⟩ | exact ⟨⟨k+1,by omega,by go_num,S,Aa hb b2⟩,rfl,rfl,rfl,rfl,rfl⟩ | exact ⟨⟨k+1,by omega,by go_num,S,Aa hb b2⟩,rfl,rfl,rfl,rfl,rfl,rfl⟩ | exact ⟨⟨k+1,by omega,by go_num,S,Aa hb b2⟩,rfl,rfl,rfl,rfl,rfl,rfl,rfl⟩)
   ·have H:=Lib.hid (Al (show ¬ Hx y from fun h=>q (h.2.1 _ (List.getElem_mem aA))))
    rw [Al q] at C
    clear q
    go_wp2_with fail
    refine C.mono ?_
    rintro e w2 ⟨rfl,b2⟩
    go_wp2
    go_ret
    exact ⟨Ac H.out.symm,Aa B0 b2⟩
  ·have aB:¬ (k:Int)<(y.shelf.length:Int):=by omega
   have HS:Hid (∀ k (hk:k<y.shelf.length),Fd y.shelf[k]):=fun j hj=>aW.out j hj (by omega)
   have C:=K4 y (⟨A1,y.shelf.length,c1⟩,⟨A2,n2,c2⟩) wr hl (HR.out _ B0)
   go_wp2_with fail
   refine C.mono ?_
   rintro e w2 ⟨v,rfl,o2,b2⟩
   replace X:=X.below b2
   replace B0:=Aa B0 b2
   clear X_0 X_1 X_2 X_3 X_l aW aA aB hb
   have O2:=Rd.of_own o2
   clear o2
   obtain ⟨A3,c3,rfl,-⟩:=id O2
   have pN:=HEn.out
   go_wp2
   go_loopw [5] (fun i wr=>∃ k:Nat,k<=(Ah y).length/\i = .int .i64 k/\Hid (Kq y.seq (Ah y) k)/\Below w2.heap.size w2 wr) (fun i _=>(Ah y).length - (intOf i).toNat)
   case atStart=>exact ⟨0,Nat.zero_le _,rfl,fun j _ h0=>absurd h0 (by omega),Below.refl _ _⟩
   case round =>
    obtain ⟨k,hk,rfl,aW,hb⟩:=hrel
    have X1:=X.below hb
    obtain ⟨X1_0,X1_1,X1_2,X1_3,X1_l⟩:=X1.g4
    by_cases aA:k<(Ah y).length
    ·have aB:(k:Int)<((Ah y).length:Int):=by omega
     obtain ⟨b,o,_,jY,aH,_,d0,d1,d2,d3⟩:=RdL.entry (I7 (O2.below hb)) aA
     subst jY
     have bJ:b<wr.heap.size:=Nat.lt_of_lt_of_le aH hb.size
     have w1':IntKind.i64.wrap (y.seq - 1)=y.seq - 1:=IntWalk.i64_in _ (by omega)
     have aN:=Bk wr
     have B1:=Aa B0 hb
     cases q1:inB (Ah y)[k].seq 1 (y.seq - 1)
     ·have H:=Lib.hid (Al (show ¬ Hx y from fun h=>by
       have:=Bf.2 (h.2.2.1 _ (List.getElem_mem aA))
       rw [q1] at this
       cases this))
      go_wp2
      refine Ad (by kernel_rfl) (by kernel_rfl) ?_
      repeat (go_big_quiet_step ((go_at_call 155;exact Bv (fun u=>Aj _ _ _ u.1))))
      refine wpQuiet_nil ?_
      rintro _ ⟨⟨w3,b3⟩,rfl⟩
      clear aN
      go_wp2
      go_ret
      exact ⟨Ac H.out.symm,Aa B1 b3⟩
     have HQ:=Lib.hid (Bf.1 q1)
     go_wp2
     refine Ad (by kernel_rfl) (by kernel_rfl) ?_
     repeat (go_big_quiet_step ((go_at_call 155;exact Bv (fun u=>Aj _ _ _ u.1))))
     refine wpQuiet_nil ?_
     rintro _ ⟨⟨w3,b3⟩,rfl⟩
     clear aN
     go_wp2
     clear d0 d1 d2 d3 bJ X1_0 X1_1 X1_2 X1_3 X1_l X1 q1 w1'
     go_loopw [6] (fun i wq=>∃ m:Nat,m<=k/\i = .int .i64 m/\Hid (U4 (Ah y) k m)/\Below wr.heap.size wr wq) (fun i _=>k - (intOf i).toNat)
     case atStart=>exact ⟨0,Nat.zero_le _,rfl,fun j _ _ h0=>absurd h0 (by omega),b3⟩
     case round =>
      obtain ⟨m,hm,rfl,cI,bQ⟩:=hrel
      by_cases mH:m<k
      ·have pH:(m:Int)<(k:Int):=by omega
       obtain ⟨b',o',_,bS,bI,_,d0,d1,d2,d3⟩:=RdL.entry (I7 (O2.below (Aa hb bQ))) aA
       simp only [Option.some.injEq,Addr.mk.injEq,and_true] at bS
       obtain ⟨rfl,rfl⟩:=bS
       obtain ⟨b',o',_,bS,_,_,f0,f1,f2,f3⟩:=RdL.entry (I7 (O2.below (Aa hb bQ))) (show m<(Ah y).length by omega)
       simp only [Option.some.injEq,Addr.mk.injEq,and_true] at bS
       obtain ⟨rfl,rfl⟩:=bS
       have hmJ:(m:Int)<((Ah y).length:Int):=by omega
       have eG:=bQ.size
       by_cases q2:(Ah y)[m].seq=(Ah y)[k].seq
       ·have H:=Lib.hid (Al (show ¬ Hx y from fun h=>by
         have h3:=List.pairwise_iff_getElem.1 h.2.2.2 m k (by rw [List.length_map];omega) (by rw [List.length_map];omega) (by omega)
         rw [List.getElem_map,List.getElem_map] at h3
         exact h3 q2))
        have q2':((Ah y)[m].seq == (Ah y)[k].seq)=true:=beq_iff_eq.2 q2
        clear q2
        go_wp2
        go_quiet (fail)
        go_wp2
        go_ret
        exact ⟨Ac H.out.symm,Ao (Aa B1 bQ) _⟩
       ·have S:Hid (U4 (Ah y) k (m+1)):=fun j hj bH hjm=>by
         by_cases e:j=m
         ·subst e;exact q2
         ·exact cI.out j hj bH (by omega)
        have q2':((Ah y)[m].seq == (Ah y)[k].seq)=false:=beq_eq_false_iff_ne.2 q2
        clear q2
        go_wp2
        go_quiet (fail)
        go_wp2
        first
         | exact ⟨⟨m+1,by omega,by go_num,S,Ao bQ _⟩,by simp [intOf];omega⟩
         | (refine ⟨?_,by simp [intOf];omega⟩;(repeat apply Exists.intro);first | exact ⟨⟨m+1,by omega,by go_num,S,Ao bQ _⟩,rfl⟩ | exact ⟨⟨m+1,by omega,by go_num,S,Ao bQ _⟩,rfl,rfl⟩ | exact ⟨⟨m+1,by omega,by go_num,S,Ao bQ _⟩,rfl,rfl,rfl⟩ | exact ⟨⟨m+1,by omega,by go_num,S,Ao bQ _⟩,rfl,rfl,rfl,rfl⟩ | exact ⟨⟨m+1,by omega,by go_num,S,Ao bQ _⟩,rfl,rfl,rfl,rfl,rfl⟩ | exact ⟨⟨m+1,by omega,by go_num,S,Ao bQ _⟩,rfl,rfl,rfl,rfl,rfl,rfl⟩ | exact ⟨⟨m+1,by omega,by go_num,S,Ao bQ _⟩,rfl,rfl,rfl,rfl,rfl,rfl,rfl⟩)
      ·have pH:¬ (m:Int)<(k:Int):=by omega
       have S:Hid (Kq y.seq (Ah y) (k+1)):=T9 aW.out aA (Bf.2 HQ.out) (W7 aA (fun j hj bH hjm=>cI.out j hj bH (by omega)) (fun j hj fD=>by
        by_cases e:j=k
        ·subst e;exact HQ.out.1
        ·exact (aW.out j hj (by omega)).1.1))
       go_wp2
       first
        | exact ⟨⟨k+1,by omega,by go_num,S,Aa hb bQ⟩,by simp [intOf];omega⟩
        | (refine ⟨?_,by simp [intOf];omega⟩;(repeat apply Exists.intro);first | exact ⟨⟨k+1,by omega,by go_num,S,Aa hb bQ⟩,rfl⟩ | exact ⟨⟨k+1,by omega,by go_num,S,Aa hb bQ⟩,rfl,rfl⟩ | exact ⟨⟨k+1,by omega,by go_num,S,Aa hb bQ⟩,rfl,rfl,rfl⟩ | exact ⟨⟨k+1,by omega,by go_num,S,Aa hb bQ⟩,rfl,rfl,rfl,rfl⟩ | exact ⟨⟨k+1,by omega,by go_num,S,Aa hb bQ⟩,rfl,rfl,rfl,rfl,rfl⟩ | exact ⟨⟨k+1,by omega,by go_num,S,Aa hb bQ⟩,rfl,rfl,rfl,rfl,rfl,rfl⟩ | exact ⟨⟨k+1,by omega,by go_num,S,Aa hb bQ⟩,rfl,rfl,rfl,rfl,rfl,rfl,rfl⟩)
    ·have aB:¬ (k:Int)<((Ah y).length:Int):=by omega
     have H:=Lib.hid (Bs (Yy A3_.out HS.out (fun j hj hj2=>aW.out j hj (by omega))))
     go_wp2
     go_ret
     exact ⟨Ac H.out.symm,Aa B0 hb⟩
theorem Zp {l:List UInt8} (h:l.length≠0):l.isEmpty=false:=by cases l with
 | nil=>exact absurd rfl h
 | cons a l=>rfl
theorem Acl (n:Int) (h:0<=n):n.tmod 4=n % 4:=Int.tmod_eq_emod_of_nonneg h
theorem Acf (n:Int) (h:0<=n):IntKind.i64.wrap (n % 4)=n % 4:=IntWalk.i64_in _ (by have:=Int.emod_nonneg n (show (4:Int)≠0 by decide);have:=Int.emod_lt_of_pos n (show (0:Int)<4 by decide);omega)
theorem Pz (id:Int) (w:World) :
  Calls Tryz.prog 238 #[.int .i64 id] w fun e w'=>e = .returned (.int .i64 (Bd id))/\Below w.heap.size w w':=by
 have rF:=Oz id
 have aL:=Wh (Cl id)
 have C:=Lib.hid (Ps id w)
 by_cases h0:(Cl id).length=0
 ·have H:=Lib.hid (show (Bd id:Int)=0 by unfold Bd;rw [if_pos h0];rfl)
  have hE:Cl id=[]:=List.eq_nil_of_length_eq_zero h0
  rw [hE] at C
  clear aL h0
  go_enter Tryz.func238,Tryz.ntmps238
  go_wp2_with (go_at_call 253;refine C.out.mono ?_;rintro e w1 ⟨rfl,b1⟩)
  go_ret
  exact ⟨by rw [H.out];rfl,b1⟩
 ·have H:=Lib.hid (show (Bd id:Int)=I1 (Cl id) % 4 by
   unfold Bd;rw [if_neg h0];exact Int.toNat_of_nonneg (Int.emod_nonneg _ (by decide)))
  have hem:=Zp h0
  have CS:=Lib.hid (fun W=>Tc (Cl id) W (by omega))
  have r4:=Acl _ aL.1
  have w4:=Acf _ aL.1
  generalize I1 (Cl id)=sm at *
  generalize Cl id=L at *
  go_enter Tryz.func238,Tryz.ntmps238
  go_wp2_with (first | (go_at_call 253;refine C.out.mono ?_;rintro e w1 ⟨rfl,b1⟩) | (go_at_call 254;refine (CS.out _).mono ?_;rintro e w2 ⟨rfl,b2⟩))
  go_ret
  exact ⟨by rw [H.out];rfl,Aa b1 b2⟩
theorem Rd.fromL {α:Type} {e:Enc α} {w:World} {B:Nat} {b o n c:Nat} {l:List α} (h:Rd e w B (.slice (some ⟨b,o,none⟩) n c) l) (k:Nat) (hk:k<=l.length):Rd e w B (.slice (some ⟨b,o+k * e.sz,none⟩) (l.length - k) (c - k)) (l.drop k):=by
 obtain ⟨A',c0,hv,hc,hA⟩:=h
 simp only [Value.slice.injEq] at hv
 obtain ⟨rfl,rfl,rfl⟩:=hv
 refine ⟨_,c - k,by rw [List.length_drop],by rw [List.length_drop];omega,fun hl=>?_⟩
 rw [List.length_drop] at hl
 obtain ⟨b',o',hb,aA,bP⟩:=hA (by omega)
 simp only [Option.some.injEq,Addr.mk.injEq,and_true] at hb
 obtain ⟨rfl,rfl⟩:=hb
 refine ⟨b,o+k * e.sz,rfl,aA,fun i hi j u hu=>?_⟩
 rw [List.length_drop] at hi
 rw [List.getElem_drop] at hu
 have:=bP (k+i) (by omega) j u hu
 rw [show o+k * e.sz+i * e.sz+j=o+(k+i) * e.sz+j from by rw [Nat.add_mul,<-Nat.add_assoc]]
 exact this
theorem Rd.fromNone {α:Type} {e:Enc α} {w:World} {B:Nat} {A:Option Addr} {n c:Nat} {l:List α} (k:Nat) (hk:l.length<=k) (hn:n=0):Rd e w B (.slice A n c) (l.drop k):=by
 subst hn
 rw [List.drop_eq_nil_of_le hk]
 exact ⟨_,c,rfl,Nat.zero_le _,fun h=>absurd h (by simp)⟩
theorem Ik (l:List Entry) (s:Sl) (e:Entry) (w:World) (hl:l.length<=2000000) (h:RdL Af w w.heap.size s.v l) :
  Calls Tryz.prog 239 #[.slice s.a s.n s.c,Fb e ()] w (Cj (Dt.list Af) slV (G4 l e) w):=by
 obtain ⟨A,n,c⟩:=s
 obtain rfl:n=l.length:=RdL.at1 (s:=⟨A,n,c⟩) h
 obtain ⟨i0,aP,aX,aV,aQ⟩:=info_parts Ds
 have h0:=Lib.hid (fun W (hW:Below w.heap.size w W)=>((Hd h).below hW).more hW.size)
 have X:=DBox.new 93 [.int .i64 e.prio,.int .i64 e.seq,.int .i64 e.run,.int .i64 e.task] w (b:=w.heap.size) rfl
 have B0:Below w.heap.size w (w.alloc (.cells #[.int .i64 e.prio,.int .i64 e.seq,.int .i64 e.run,.int .i64 e.task] 93)):=by repeat (first | exact Below.refl _ _ | refine Below.alloc ?_ (by simp<;>omega) _)
 go_enter Tryz.func239,Tryz.ntmps239
 go_wp2
 generalize Fb e ()=ev
 go_loopw [5] (fun i wr=>∃ k:Nat,k<=l.length/\i = .int .i64 k/\Hid (∀ j (hj:j<l.length),j<k->Db l[j] e=true)/\DBox w.heap.size [.int .i64 e.prio,.int .i64 e.seq,.int .i64 e.run,.int .i64 e.task] wr/\Below w.heap.size w wr) (fun i _=>l.length - (intOf i).toNat)
 case atStart=>exact ⟨0,Nat.zero_le _,rfl,fun j hj h0=>absurd h0 (by omega),X,B0⟩
 case round =>
  clear X B0
  obtain ⟨k,hk,rfl,aW,X,hb⟩:=hrel
  obtain ⟨X_0,X_1,X_2,X_3,X_l⟩:=X.g4
  have aN:=Bk wr
  by_cases aA:k<l.length
  ·have aB:(k:Int)<(l.length:Int):=by omega
   have dG:(0:Int)<=(k:Int):=by omega
   obtain ⟨b,o,_,rfl,aH,_,c0,c1,c2,c3⟩:=(h.below hb).entry aA
   have hs:b<wr.heap.size:=Nat.lt_of_lt_of_le aH hb.size
   cases t2:Db l[k] e
   case true =>
    have S:=Lib.hid (show ∀ j (hj:j<l.length),j<k+1->Db l[j] e=true from fun j hj fD=>by
     by_cases hjk2:j=k
     ·subst hjk2;exact t2
     ·exact aW.out j hj (by omega))
    go_wp2
    refine Ad (by kernel_rfl) (by kernel_rfl) ?_
    repeat (go_big_quiet_step ((go_at_call 255;rename_i x;have h1:=It l[k] e x.1;exact Dg h1)))
    refine wpQuiet_nil ?_
    rintro _ ⟨⟨w1,b1⟩,rfl⟩
    clear aN
    go_wp2
    exact ⟨⟨k+1,by omega,by go_num,S,X.below b1,Aa hb b1⟩,by simp [intOf];omega⟩
   case false =>
    have HP:=Lib.hid (Qh hk aW.out (fun _=>t2))
    go_wp2
    refine Ad (by kernel_rfl) (by kernel_rfl) ?_
    repeat (go_big_quiet_step ((go_at_call 255;rename_i x;have h1:=It l[k] e x.1;exact Dg h1)))
    refine wpQuiet_nil ?_
    rintro w0 ⟨⟨_,b1⟩,rfl⟩
    clear aN
    clear X_0 X_1 X_2 X_3 X_l
    replace X:=X.below b1
    have BB:=(Aa hb b1)
    have mY:k<=c:=Nat.le_trans hk (h0.out _ BB).cap
    have hkcI:(k:Int)<=(c:Int):=by omega
    have a0:=Lib.hid (show ∀ W,Below w.heap.size w W->Rd Az W W.heap.size (.slice (some ⟨b,o,none⟩) k c) (l.take k) from fun W hW=>(h0.out _ hW).take hk c mY)
    have q1:Below w0.heap.size w0 (w0.alloc (.cells #[] 93)):=(Below.refl _ _).alloc (Nat.le_refl _) _
    have cU:=Lib.hid (show (l.take k).length<=2000000 by simp;omega)
    have aR:=Lib.hid (show (l.take k ++ [e]).length<=2000001 by simp;omega)
    have hlt3:=Lib.hid (show (l.drop k).length<=2000000 by simp;omega)
    rcases Nat.lt_or_ge k c with hkc2 | hkc2
    ·have qP:¬ c=k:=by omega
     go_wp2_with (first | (at_builtin;refine Ak _ Az (by decide) rfl (.tmp 21) (.tmp 24) rfl Tryz.underlying96 aP aX aV aQ rfl (base:=w0.heap.size) (v:=.slice (some ⟨w0.heap.size,0,none⟩) 0 0) (l:=[]) rfl (Ow.empty Az 93 w0 (g:=w0.heap.size) rfl) (A:=(some ⟨b,o,none⟩)) (m:=k) (c:=_) (ys:=l.take k) rfl (a0.out _ (Aa BB q1)) (by simp) (by have:=cU.out;omega) (by decide) q1.size ?_;intro v1 w1 o1 g1 _;rw [List.nil_append] at o1;have d1:Below w0.heap.size w0 w1:=q1.grown g1 q1.size (fun g hg=>Nat.le_of_eq (Option.some.inj hg));have X1:=X.below d1;have x0:=X1.cell 0 _ rfl;have x1:=X1.cell 1 _ rfl;have x2:=X1.cell 2 _ rfl;have x3:=X1.cell 3 _ rfl;have xl:=X1.lt;have uI:=d1.size) | (at_builtin;refine Ak _ Az (by decide) rfl (.tmp 26) (.tmp 28) rfl Tryz.underlying96 aP aX aV aQ rfl (base:=w0.heap.size) (v:=v1) (l:=l.take k) rfl (o1.below ((Below.refl _ _).alloc (Nat.le_refl _) _)) (A:=some ⟨w1.heap.size,0,none⟩) (m:=1) (c:=1) (ys:=[e]) rfl (Rd.one Az w1 _ e rfl rfl 1 (Nat.le_refl _) (Nat.lt_succ_self _)) (by have:=cU.out;omega) (by simp) (by decide) (d1.alloc d1.size _).size ?_;intro v2 w2 o2 g2 _;have d2:Below w0.heap.size w0 w2:=(d1.alloc d1.size _).grown g2 (d1.alloc d1.size _).size (fun g hg=>(o1.within g hg).1)) | (at_builtin;refine Ak _ Az (by decide) rfl (.tmp 30) (.tmp 33) rfl Tryz.underlying96 aP aX aV aQ rfl (base:=w0.heap.size) (v:=v2) (l:=l.take k ++ [e]) rfl o2 (A:=some ⟨b,o+k * 4,none⟩) (m:=l.length - k) (c:=c - k) (ys:=l.drop k) rfl ((h0.out _ (Aa BB d2)).fromL k hk) (by have:=aR.out;omega) (by have:=hlt3.out;omega) (by decide) d2.size ?_;intro v3 w3 o3 g3 _;have d3:Below w0.heap.size w0 w3:=d2.grown g3 d2.size (fun g hg=>(o2.within g hg).1)))
     obtain ⟨s9,F9,rfl,o9,n9⟩:=Ez o3
     go_ret
     exact ⟨s9,F9,rfl,by rw [HP.out];exact o9,fun x hx=>Nat.le_trans BB.size (n9 x hx),Aa BB d3⟩
    ·exact absurd (h0.out _ BB).cap (by show ¬ l.length<=c;omega)
  ·have aB:¬ (k:Int)<(l.length:Int):=by omega
   have HP:=Lib.hid (Qh hk aW.out (fun hh=>absurd hh aA))
   go_wp2
   refine Ad (by kernel_rfl) (by kernel_rfl) ?_
   repeat (go_big_quiet_step (fail))
   refine wpQuiet_nil ?_
   rintro w0 ⟨⟨_,b1⟩,rfl⟩
   clear aN
   clear X_0 X_1 X_2 X_3 X_l
   replace X:=X.below b1
   have BB:=(Aa hb b1)
   have mY:k<=c:=Nat.le_trans hk (h0.out _ BB).cap
   have hkcI:(k:Int)<=(c:Int):=by omega
   have a0:=Lib.hid (show ∀ W,Below w.heap.size w W->Rd Az W W.heap.size (.slice A k c) (l.take k) from fun W hW=>(h0.out _ hW).take hk c mY)
   have q1:Below w0.heap.size w0 (w0.alloc (.cells #[] 93)):=(Below.refl _ _).alloc (Nat.le_refl _) _
   have cU:=Lib.hid (show (l.take k).length<=2000000 by simp;omega)
   have aR:=Lib.hid (show (l.take k ++ [e]).length<=2000001 by simp;omega)
   have hlt3:=Lib.hid (show (l.drop k).length<=2000000 by simp;omega)
   rcases Nat.lt_or_ge k c with hkc2 | hkc2
   ·have qP:¬ c=k:=by omega
    go_wp2_with (first | (at_builtin;refine Ak _ Az (by decide) rfl (.tmp 21) (.tmp 24) rfl Tryz.underlying96 aP aX aV aQ rfl (base:=w0.heap.size) (v:=.slice (some ⟨w0.heap.size,0,none⟩) 0 0) (l:=[]) rfl (Ow.empty Az 93 w0 (g:=w0.heap.size) rfl) (A:=A) (m:=k) (c:=_) (ys:=l.take k) rfl (a0.out _ (Aa BB q1)) (by simp) (by have:=cU.out;omega) (by decide) q1.size ?_;intro v1 w1 o1 g1 _;rw [List.nil_append] at o1;have d1:Below w0.heap.size w0 w1:=q1.grown g1 q1.size (fun g hg=>Nat.le_of_eq (Option.some.inj hg));have X1:=X.below d1;have x0:=X1.cell 0 _ rfl;have x1:=X1.cell 1 _ rfl;have x2:=X1.cell 2 _ rfl;have x3:=X1.cell 3 _ rfl;have xl:=X1.lt;have uI:=d1.size) | (at_builtin;refine Ak _ Az (by decide) rfl (.tmp 26) (.tmp 28) rfl Tryz.underlying96 aP aX aV aQ rfl (base:=w0.heap.size) (v:=v1) (l:=l.take k) rfl (o1.below ((Below.refl _ _).alloc (Nat.le_refl _) _)) (A:=some ⟨w1.heap.size,0,none⟩) (m:=1) (c:=1) (ys:=[e]) rfl (Rd.one Az w1 _ e rfl rfl 1 (Nat.le_refl _) (Nat.lt_succ_self _)) (by have:=cU.out;omega) (by simp) (by decide) (d1.alloc d1.size _).size ?_;intro v2 w2 o2 g2 _;have d2:Below w0.heap.size w0 w2:=(d1.alloc d1.size _).grown g2 (d1.alloc d1.size _).size (fun g hg=>(o1.within g hg).1)) | (at_builtin;refine Ak _ Az (by decide) rfl (.tmp 30) (.tmp 33) rfl Tryz.underlying96 aP aX aV aQ rfl (base:=w0.heap.size) (v:=v2) (l:=l.take k ++ [e]) rfl o2 (A:=A.map fun x=>x.add (k * 4)) (m:=l.length - k) (c:=c - k) (ys:=l.drop k) rfl (Rd.fromNone (B:=0) k (by omega) (by omega)) (by have:=aR.out;omega) (by have:=hlt3.out;omega) (by decide) d2.size ?_;intro v3 w3 o3 g3 _;have d3:Below w0.heap.size w0 w3:=d2.grown g3 d2.size (fun g hg=>(o2.within g hg).1)))
    obtain ⟨s9,F9,rfl,o9,n9⟩:=Ez o3
    go_ret
    exact ⟨s9,F9,rfl,by rw [HP.out];exact o9,fun x hx=>Nat.le_trans BB.size (n9 x hx),Aa BB d3⟩
   ·obtain rfl:k=c:=by omega
    go_wp2_with (first | (at_builtin;refine Ak _ Az (by decide) rfl (.tmp 21) (.tmp 24) rfl Tryz.underlying96 aP aX aV aQ rfl (base:=w0.heap.size) (v:=.slice (some ⟨w0.heap.size,0,none⟩) 0 0) (l:=[]) rfl (Ow.empty Az 93 w0 (g:=w0.heap.size) rfl) (A:=A) (m:=k) (c:=_) (ys:=l.take k) rfl (a0.out _ (Aa BB q1)) (by simp) (by have:=cU.out;omega) (by decide) q1.size ?_;intro v1 w1 o1 g1 _;rw [List.nil_append] at o1;have d1:Below w0.heap.size w0 w1:=q1.grown g1 q1.size (fun g hg=>Nat.le_of_eq (Option.some.inj hg));have X1:=X.below d1;have x0:=X1.cell 0 _ rfl;have x1:=X1.cell 1 _ rfl;have x2:=X1.cell 2 _ rfl;have x3:=X1.cell 3 _ rfl;have xl:=X1.lt;have uI:=d1.size) | (at_builtin;refine Ak _ Az (by decide) rfl (.tmp 26) (.tmp 28) rfl Tryz.underlying96 aP aX aV aQ rfl (base:=w0.heap.size) (v:=v1) (l:=l.take k) rfl (o1.below ((Below.refl _ _).alloc (Nat.le_refl _) _)) (A:=some ⟨w1.heap.size,0,none⟩) (m:=1) (c:=1) (ys:=[e]) rfl (Rd.one Az w1 _ e rfl rfl 1 (Nat.le_refl _) (Nat.lt_succ_self _)) (by have:=cU.out;omega) (by simp) (by decide) (d1.alloc d1.size _).size ?_;intro v2 w2 o2 g2 _;have d2:Below w0.heap.size w0 w2:=(d1.alloc d1.size _).grown g2 (d1.alloc d1.size _).size (fun g hg=>(o1.within g hg).1)) | (at_builtin;refine Ak _ Az (by decide) rfl (.tmp 30) (.tmp 33) rfl Tryz.underlying96 aP aX aV aQ rfl (base:=w0.heap.size) (v:=v2) (l:=l.take k ++ [e]) rfl o2 (A:=A) (m:=l.length - k) (c:=0) (ys:=l.drop k) rfl (Rd.fromNone (B:=0) k (by omega) (by omega)) (by have:=aR.out;omega) (by have:=hlt3.out;omega) (by decide) d2.size ?_;intro v3 w3 o3 g3 _;have d3:Below w0.heap.size w0 w3:=d2.grown g3 d2.size (fun g hg=>(o2.within g hg).1)))
    obtain ⟨s9,F9,rfl,o9,n9⟩:=Ez o3
    go_ret
    exact ⟨s9,F9,rfl,by rw [HP.out];exact o9,fun x hx=>Nat.le_trans BB.size (n9 x hx),Aa BB d3⟩
theorem DBox.drew4 {b:Nat} {cs:List Value} {w:World} (h:DBox b cs w):DBox b cs w.drew:=⟨h.cell,h.free,h.lt⟩
theorem DBox.row4 {b:Nat} {cs:List Value} {w:World} (h:DBox b cs w) (hn:cs.length=4) (u0 u1 u2 u3:Value) :
  DBox b [u0,u1,u2,u3] ((((w.setCell ⟨b,0,none⟩ u0).setCell ⟨b,1,none⟩ u1).setCell ⟨b,2,none⟩ u2).setCell ⟨b,3,none⟩ u3):=by
 obtain ⟨c0,c1,c2,c3,rfl⟩:∃ c0 c1 c2 c3,cs=[c0,c1,c2,c3]:=by
  match cs,hn with
  | [c0,c1,c2,c3],_=>exact ⟨c0,c1,c2,c3,rfl⟩
 exact (((h.set 0 (by simp) u0).set 1 (by simp) u1).set 2 (by simp) u2).set 3 (by simp) u3
theorem Rq {b:Nat} {w:World} {u0 u1 u2 u3:Value} (X:DBox b [u0,u1,u2,u3] w) {v0 v1 v3 v4:Value} {rest:List Value} :
  (results Tryz.f207 (v0 :: v1 :: .pointer (some ⟨b,0,none⟩) :: v3 :: v4 :: rest).toArray).run Tryz.prog w = .ok (.tuple #[.agg #[u0,u1,u2,u3],v3,v4]) w:=by
 have c0:=X.cell 0 _ rfl
 have c1:=X.cell 1 _ rfl
 have c2:=X.cell 2 _ rfl
 have c3:=X.cell 3 _ rfl
 simp [results,Tryz.results207,go_sem,c0,c1,c2,c3]
def W8 (l:List Entry) (w:World) (e:Ending) (w':World):Prop :=
 ∃ (s:Sl) (F:List Nat),e = .returned (.tuple #[Fb (l.headD ⟨0,0,0,0⟩) (),.slice s.a s.n s.c,.bool (!l.isEmpty)])/\OwL Af w' F s.v l.tail/\(∀ x∈F,w.heap.size<=x)/\Below w.heap.size w w'
theorem Np (l:List Entry) (s:Sl) (w:World) (hl:l.length<=2000000) (h:RdL Af w w.heap.size s.v l) :
  Calls Tryz.prog 207 #[.slice s.a s.n s.c] w (W8 l w):=by
 obtain ⟨A,n,c⟩:=s
 obtain rfl:n=l.length:=RdL.at1 (s:=⟨A,n,c⟩) h
 obtain ⟨i0,aP,aX,aV,aQ⟩:=info_parts Ds
 have h0:=Lib.hid (fun W (hW:Below w.heap.size w W)=>((Hd h).below hW).more hW.size)
 cases l with
 | nil =>
  have R:=DBox.new 93 [.int .i64 0,.int .i64 0,.int .i64 0,.int .i64 0] w (b:=w.heap.size) rfl
  have B0:Below w.heap.size w (w.alloc (.cells #[.int .i64 0,.int .i64 0,.int .i64 0,.int .i64 0] 93)):=by repeat (first | exact Below.refl _ _ | refine Below.alloc ?_ (by simp<;>omega) _)
  go_enter Tryz.func207,Tryz.ntmps207
  go_wp2
  have R1:=R.below ((Below.refl _ _).alloc (Nat.le_refl _) (.cells #[] 93))
  refine bodyPost_ret (v:=.tuple #[.agg #[.int .i64 0,.int .i64 0,.int .i64 0,.int .i64 0],.slice (some ⟨w.heap.size+1,0,none⟩) 0 0,.bool false]) (Rq R1) rfl ⟨⟨some ⟨w.heap.size+1,0,none⟩,0,0⟩,[],rfl,OwL.nil _ _ _ _,by simp,?_⟩
  repeat (first | (with_reducible exact B0) | refine Below.setCell ?_ (by simp<;>omega) _ | refine Below.alloc ?_ (by simp<;>omega) _)
 | cons e tl =>
  have h1:((((e :: tl).length:Nat):Int) == 0)=false:=by rw [beq_eq_false_iff_ne];simp;omega
  obtain ⟨b,o,_,rfl,aH,_,c0,c1,c2,c3⟩:=h.entry (k:=0) (by simp)
  simp only [Nat.zero_mul,Nat.add_zero,List.getElem_cons_zero] at c0 c1 c2 c3
  have jS:1<=(e :: tl).length:=by simp
  have cU:=Lib.hid (show tl.length<=3000000 by simp at hl;omega)
  have pJ:=Lib.hid (show (e :: tl).drop 1=tl from rfl)
  have bY:(e :: tl).length<=c:=(h0.out w (Below.refl _ _)).cap
  generalize hL:(e :: tl).length=L at *
  have hLI:(0:Int)<(L:Int):=by omega
  have hLI1:(1:Int)<=(L:Int):=by omega
  have hLN:0<L:=by omega
  obtain ⟨W,aG,R,B0⟩:=bx1 w 93 [.int .i64 0,.int .i64 0,.int .i64 0,.int .i64 0]
  go_enter Tryz.func207,Tryz.ntmps207
  go_wp2
  rw [<-aG.out]
  clear aG
  have hs:=B0.size
  have hbW:b<W.heap.size:=by omega
  have HS0:=Lib.hid (show ∀ W',Below w.heap.size w W'->(fun w'=>w'.cell? ⟨b,o,none⟩=some (.int .i64 e.prio)/\w'.cell? ⟨b,o+1,none⟩=some (.int .i64 e.seq)/\w'.cell? ⟨b,o+2,none⟩=some (.int .i64 e.run)/\w'.cell? ⟨b,o+3,none⟩=some (.int .i64 e.task)) W' from fun W' kL=>⟨(kL.cell (p:=⟨b,_,none⟩) aH).trans c0,(kL.cell (p:=⟨b,_,none⟩) aH).trans c1,(kL.cell (p:=⟨b,_,none⟩) aH).trans c2,(kL.cell (p:=⟨b,_,none⟩) aH).trans c3⟩)
  have B1:=B0.drew
  replace R:=DBox.drew4 R
  rcases Nat.lt_or_ge 1 c with hkc2 | hkc2
  ·have qP:¬ c=1:=by omega
   have hcI:(1:Int)<=(c:Int):=by omega
   refine Go.wp_region_noPanic ?_
   refine wp_region_held_drew (S:=(fun w'=>w'.cell? ⟨b,o,none⟩=some (.int .i64 e.prio)/\w'.cell? ⟨b,o+1,none⟩=some (.int .i64 e.seq)/\w'.cell? ⟨b,o+2,none⟩=some (.int .i64 e.run)/\w'.cell? ⟨b,o+3,none⟩=some (.int .i64 e.task))) (by kernel_rfl) (HS0.out _ B1) (fun hHeld=>?_)
   generalize W.drew=w1 at *
   refine tV 0 ?_
   (try simp only [pS])
   refine tV 1 ?_
   (try simp only [pS])
   refine tV 2 ?_
   (try simp only [pS])
   refine tV 4 ?_
   (try simp only [pS])
   refine tV 5 ?_
   (try simp only [pS])
   refine rC 3 (fun K_ hK=>?_)
   go_simp
   have o2:=Ow.empty Az 93 w1 (g:=w1.heap.size) rfl
   have b2:Below w1.heap.size w1 (w1.alloc (.cells #[] 93)):=(Below.refl _ _).alloc (Nat.le_refl _) _
   have B2:=Aa B1 b2
   have R2:=R.below b2
   generalize w1.alloc (.cells #[] 93)=w2 at *
   refine hK.out _ _ (HS0.out _ B2) (fun hHeld=>?_)
   clear hK K_
   (try simp only [pS])
   refine rC 6 (fun K_ hK=>?_)
   have rd1:=(h0.out _ B2).fromL 1 (by show 1<=(e :: tl).length;simp)
   rw [hL,pJ.out] at rd1
   refine C7 _ Az (by decide) (.tmp 13) (.tmp 15) 96 rfl w1.heap.size 93 _ _ _ Tryz.underlying96 aP aX aV aQ rfl _ [] rfl o2 _ _ _ _ tl rfl rd1 (by simp) cU.out (by decide) b2.size ?_
   intro v3 w3 o3 g3 _
   rw [List.nil_append] at o3
   have b3:Below w1.heap.size w1 w3:=b2.grown g3 b2.size (fun g hg=>Nat.le_of_eq (Option.some.inj hg))
   have B3:=Aa B1 b3
   have R3:=R.below b3
   refine hK.out _ _ (HS0.out _ B3) (fun hHeld=>?_)
   clear hK K_
   (try simp only [pS])
   have e0:=R3.cell 0 _ rfl
   have e1:=R3.cell 1 _ rfl
   have e2:=R3.cell 2 _ rfl
   have e3:=R3.cell 3 _ rfl
   have ef:=R3.free
   have el:=R3.lt
   refine rC 7 (fun K_ hK=>?_)
   go_simp
   have R4:=DBox.row4 R3 rfl (.int .i64 e.prio) (.int .i64 e.seq) (.int .i64 e.run) (.int .i64 e.task)
   have B4:Below w.heap.size w ((((w3.setCell ⟨w.heap.size,0,none⟩ (.int .i64 e.prio)).setCell ⟨w.heap.size,1,none⟩ (.int .i64 e.seq)).setCell ⟨w.heap.size,2,none⟩ (.int .i64 e.run)).setCell ⟨w.heap.size,3,none⟩ (.int .i64 e.task)):=by
    repeat (first | (with_reducible exact B3) | refine Below.setCell ?_ (by simp<;>omega) _)
   have o4:=(((o3.setLow (a:=⟨w.heap.size,0,none⟩) (by show w.heap.size<w1.heap.size;have:=R.lt;omega) (.int .i64 e.prio)).setLow (a:=⟨w.heap.size,1,none⟩) (by show w.heap.size<w1.heap.size;have:=R.lt;omega) (.int .i64 e.seq)).setLow (a:=⟨w.heap.size,2,none⟩) (by show w.heap.size<w1.heap.size;have:=R.lt;omega) (.int .i64 e.run)).setLow (a:=⟨w.heap.size,3,none⟩) (by show w.heap.size<w1.heap.size;have:=R.lt;omega) (.int .i64 e.task)
   generalize ((((w3.setCell ⟨w.heap.size,0,none⟩ (.int .i64 e.prio)).setCell ⟨w.heap.size,1,none⟩ (.int .i64 e.seq)).setCell ⟨w.heap.size,2,none⟩ (.int .i64 e.run)).setCell ⟨w.heap.size,3,none⟩ (.int .i64 e.task))=w4 at *
   clear e0 e1 e2 e3 ef el
   refine hK.out _ _ (HS0.out _ B4) (fun hHeld=>?_)
   clear hK K_
   (try simp only [pS])
   refine rC 8 (fun K_ hK=>?_)
   go_simp
   refine hK.out _ _ (HS0.out _ B4) (fun hHeld=>?_)
   clear hK K_
   (try simp only [pS])
   refine rC 9 (fun K_ hK=>?_)
   go_simp
   refine hK.out _ _ (HS0.out _ B4) (fun hHeld=>?_)
   clear hK K_
   (try simp only [pS])
   refine wpAnyH_done (by kernel_rfl) ?_ _
   refine NoPanic.normal ?_
   clear hHeld
   obtain ⟨s9,F9,rfl,o9,n9⟩:=Ez o4
   go_wp2
   refine bodyPost_ret (v:=.tuple #[Fb e (),.slice s9.a s9.n s9.c,.bool true]) (Rq R4) rfl ⟨s9,F9,rfl,o9,fun x hx=>Nat.le_trans (by have:=R.lt;omega) (n9 x hx),B4⟩
  ·obtain rfl:c=1:=by omega
   obtain rfl:L=1:=by omega
   refine Go.wp_region_noPanic ?_
   refine wp_region_held_drew (S:=(fun w'=>w'.cell? ⟨b,o,none⟩=some (.int .i64 e.prio)/\w'.cell? ⟨b,o+1,none⟩=some (.int .i64 e.seq)/\w'.cell? ⟨b,o+2,none⟩=some (.int .i64 e.run)/\w'.cell? ⟨b,o+3,none⟩=some (.int .i64 e.task))) (by kernel_rfl) (HS0.out _ B1) (fun hHeld=>?_)
   generalize W.drew=w1 at *
   refine tV 0 ?_
   (try simp only [pS])
   refine tV 1 ?_
   (try simp only [pS])
   refine tV 2 ?_
   (try simp only [pS])
   refine tV 4 ?_
   (try simp only [pS])
   refine tV 5 ?_
   (try simp only [pS])
   refine rC 3 (fun K_ hK=>?_)
   go_simp
   have o2:=Ow.empty Az 93 w1 (g:=w1.heap.size) rfl
   have b2:Below w1.heap.size w1 (w1.alloc (.cells #[] 93)):=(Below.refl _ _).alloc (Nat.le_refl _) _
   have B2:=Aa B1 b2
   have R2:=R.below b2
   generalize w1.alloc (.cells #[] 93)=w2 at *
   refine hK.out _ _ (HS0.out _ B2) (fun hHeld=>?_)
   clear hK K_
   (try simp only [pS])
   refine rC 6 (fun K_ hK=>?_)
   have rd1:Rd Az w2 0 (.slice (some ⟨b,o,none⟩) 0 0) tl:=Rd.fromNone (B:=0) (l:=e :: tl) 1 (by show (e :: tl).length<=1;rw [hL];exact Nat.le_refl _) rfl
   refine C7 _ Az (by decide) (.tmp 13) (.tmp 15) 96 rfl w1.heap.size 93 _ _ _ Tryz.underlying96 aP aX aV aQ rfl _ [] rfl o2 _ _ _ _ tl rfl rd1 (by simp) cU.out (by decide) b2.size ?_
   intro v3 w3 o3 g3 _
   rw [List.nil_append] at o3
   have b3:Below w1.heap.size w1 w3:=b2.grown g3 b2.size (fun g hg=>Nat.le_of_eq (Option.some.inj hg))
   have B3:=Aa B1 b3
   have R3:=R.below b3
   refine hK.out _ _ (HS0.out _ B3) (fun hHeld=>?_)
   clear hK K_
   (try simp only [pS])
   have e0:=R3.cell 0 _ rfl
   have e1:=R3.cell 1 _ rfl
   have e2:=R3.cell 2 _ rfl
   have e3:=R3.cell 3 _ rfl
   have ef:=R3.free
   have el:=R3.lt
   refine rC 7 (fun K_ hK=>?_)
   go_simp
   have R4:=DBox.row4 R3 rfl (.int .i64 e.prio) (.int .i64 e.seq) (.int .i64 e.run) (.int .i64 e.task)
   have B4:Below w.heap.size w ((((w3.setCell ⟨w.heap.size,0,none⟩ (.int .i64 e.prio)).setCell ⟨w.heap.size,1,none⟩ (.int .i64 e.seq)).setCell ⟨w.heap.size,2,none⟩ (.int .i64 e.run)).setCell ⟨w.heap.size,3,none⟩ (.int .i64 e.task)):=by
    repeat (first | (with_reducible exact B3) | refine Below.setCell ?_ (by simp<;>omega) _)
   have o4:=(((o3.setLow (a:=⟨w.heap.size,0,none⟩) (by show w.heap.size<w1.heap.size;have:=R.lt;omega) (.int .i64 e.prio)).setLow (a:=⟨w.heap.size,1,none⟩) (by show w.heap.size<w1.heap.size;have:=R.lt;omega) (.int .i64 e.seq)).setLow (a:=⟨w.heap.size,2,none⟩) (by show w.heap.size<w1.heap.size;have:=R.lt;omega) (.int .i64 e.run)).setLow (a:=⟨w.heap.size,3,none⟩) (by show w.heap.size<w1.heap.size;have:=R.lt;omega) (.int .i64 e.task)
   generalize ((((w3.setCell ⟨w.heap.size,0,none⟩ (.int .i64 e.prio)).setCell ⟨w.heap.size,1,none⟩ (.int .i64 e.seq)).setCell ⟨w.heap.size,2,none⟩ (.int .i64 e.run)).setCell ⟨w.heap.size,3,none⟩ (.int .i64 e.task))=w4 at *
   clear e0 e1 e2 e3 ef el
   refine hK.out _ _ (HS0.out _ B4) (fun hHeld=>?_)
   clear hK K_
   (try simp only [pS])
   refine rC 8 (fun K_ hK=>?_)
   go_simp
   refine hK.out _ _ (HS0.out _ B4) (fun hHeld=>?_)
   clear hK K_
   (try simp only [pS])
   refine rC 9 (fun K_ hK=>?_)
   go_simp
   refine hK.out _ _ (HS0.out _ B4) (fun hHeld=>?_)
   clear hK K_
   (try simp only [pS])
   refine wpAnyH_done (by kernel_rfl) ?_ _
   refine NoPanic.normal ?_
   clear hHeld
   obtain ⟨s9,F9,rfl,o9,n9⟩:=Ez o4
   go_wp2
   refine bodyPost_ret (v:=.tuple #[Fb e (),.slice s9.a s9.n s9.c,.bool true]) (Rq R4) rfl ⟨s9,F9,rfl,o9,fun x hx=>Nat.le_trans (by have:=R.lt;omega) (n9 x hx),B4⟩
def Rr (l:List Entry) (w:World) (e:Ending) (w':World):Prop :=
 ∃ (s1:Sl) (F1:List Nat) (s2:Sl) (F2:List Nat),e = .returned (.tuple #[.slice s1.a s1.n s1.c,.slice s2.a s2.n s2.c])/\OwL Af w' F1 s1.v (l.take (Bh l))/\OwL Af w' F2 s2.v (l.drop (Bh l))/\(∀ x∈F1,w.heap.size<=x)/\(∀ x∈F2,w.heap.size<=x)/\(∀ x∈F1,x∉F2)/\Below w.heap.size w w'
theorem Hj {w:World} {E:TypeId} {base:Nat} {v:Value} {l:List Entry} (h:Ow Az E w base v l):∃ (s:Sl) (F:List Nat),v = .slice s.a s.n s.c/\OwL Af w F s.v l/\(∀ b∈F,base<=b)/\(∀ b∈F,v.ownBlock=some b):=by
 obtain ⟨h1,h2⟩:=Hw.of_ow h
 obtain ⟨⟨A,c,hv,hc,hA⟩,hF,hf⟩:=id h1
 subst hv
 refine ⟨⟨A,l.length,c⟩,_,rfl,⟨l.map fun x=>(x,()),Cm (.slice A l.length c) l.length,[],by rw [List.map_map];exact List.map_id _,⟨⟨A,c,by rw [List.length_map],by rw [List.length_map];exact hc,fun hl=>?_⟩,by rw [List.length_map],hf⟩,Oe w l,(List.append_nil _).symm,h1.nodup⟩,h2,E6 _ _⟩
 rw [List.length_map] at hl
 obtain ⟨b,o,h3,h4,h5⟩:=hA hl
 refine ⟨b,o,h3,h4,fun k hk j u hu=>?_⟩
 rw [List.getElem_map] at hu
 exact h5 k (by rw [List.length_map] at hk;exact hk) j u hu
theorem W9 (n:Nat):((n:Int)+1).tdiv 2=((n+1) / 2:Nat):=by
 rw [Int.tdiv_eq_ediv_of_nonneg (by omega)]
 omega
theorem Rd.dropM {α:Type} {e:Enc α} {w:World} {B:Nat} {A:Option Addr} {n c:Nat} {l:List α} (h:Rd e w B (.slice A n c) l) (k:Nat) (hk:k<=l.length):Rd e w B (.slice (A.map fun x=>x.add (k * e.sz)) (l.length - k) (c - k)) (l.drop k):=by
 obtain ⟨A',c0,hv,hc,hA⟩:=h
 simp only [Value.slice.injEq] at hv
 obtain ⟨rfl,rfl,rfl⟩:=hv
 refine ⟨_,c - k,by rw [List.length_drop],by rw [List.length_drop];omega,fun hl=>?_⟩
 rw [List.length_drop] at hl
 obtain ⟨b,o,hb,aA,bP⟩:=hA (by omega)
 refine ⟨b,o+k * e.sz,by rw [hb];simp only [Option.map_some,Option.some.injEq];unfold Addr.add;split<;>simp_all,aA,fun i hi j u hu=>?_⟩
 rw [List.length_drop] at hi
 rw [List.getElem_drop] at hu
 have:=bP (k+i) (by omega) j u hu
 rw [show o+k * e.sz+i * e.sz+j=o+(k+i) * e.sz+j from by rw [Nat.add_mul,<-Nat.add_assoc]]
 exact this
theorem U5 (l:List Entry) (s:Sl) (w:World) (hl:l.length<=2000000) (h:RdL Af w w.heap.size s.v l) :
  Calls Tryz.prog 205 #[.slice s.a s.n s.c] w (Rr l w):=by
 obtain ⟨A,n,c⟩:=s
 obtain rfl:n=l.length:=RdL.at1 (s:=⟨A,n,c⟩) h
 obtain ⟨i0,aP,aX,aV,aQ⟩:=info_parts Ds
 have h0:=Lib.hid (fun W (hW:Below w.heap.size w W)=>((Hd h).below hW).more hW.size)
 have hd:=W9 l.length
 rw [show (l.length+1) / 2=Bh l from rfl] at hd
 have kB:=Wt l
 have hw1:IntKind.i64.wrap ((l.length:Int)+1)=(l.length:Int)+1:=IntWalk.i64_in _ (by omega)
 have hw2:IntKind.i64.wrap (Bh l:Int)=(Bh l:Int):=IntWalk.i64_in _ (by omega)
 have bY:l.length<=c:=(h0.out w (Below.refl _ _)).cap
 have mY:Bh l<=c:=by omega
 have hkcI:(Bh l:Int)<=(c:Int):=by omega
 have hklI:(Bh l:Int)<=(l.length:Int):=by omega
 have hk0I:(0:Int)<=(Bh l:Int):=by omega
 have a0:=Lib.hid (show ∀ W,Below w.heap.size w W->Rd Az W W.heap.size (.slice A (Bh l) c) (l.take (Bh l)) from fun W hW=>(h0.out _ hW).take kB c mY)
 have cU:=Lib.hid (show (l.take (Bh l)).length<=3000000 by simp;omega)
 have aR:=Lib.hid (show (l.drop (Bh l)).length<=3000000 by simp;omega)
 have a1:=((h0.out w (Below.refl _ _)).dropM (Bh l) kB)
 go_enter Tryz.func205,Tryz.ntmps205
 go_upto_region 2 with fail
 rcases Nat.lt_or_ge (Bh l) c with hk2 | hk2
 have qP:¬ c=Bh l:=by omega
 have r0:=a0
 have rr:=Lib.hid (show ∀ W,Below w.heap.size w W->Rd Az W W.heap.size (.slice (A.map fun x=>x.add (Bh l * 4)) (l.length - Bh l) (c - Bh l)) (l.drop (Bh l)) from fun W hW=>(a1.below hW).more hW.size)
 rotate_left
 have qP:c=Bh l:=by omega
 have hcl:l.length=Bh l:=by omega
 have r0:=Lib.hid (show ∀ W,Below w.heap.size w W->Rd Az W W.heap.size (.slice A (Bh l) (Bh l)) (l.take (Bh l)) from fun W hW=>by have h9:=a0.out W hW;rw [qP] at h9;exact h9)
 have rr:=Lib.hid (show ∀ W,Below w.heap.size w W->Rd Az W W.heap.size (.slice A 0 0) (l.drop (Bh l)) from fun W hW=>by
  rw [List.drop_eq_nil_of_le (by omega)]
  exact ⟨A,0,rfl,Nat.zero_le _,fun h=>absurd h (by simp)⟩)
 all_goals
  clear a1
  refine Go.wp_region_noPanic ?_
  refine wp_region_held_drew (S:=fun _=>True) (by kernel_rfl) trivial (fun hHeld=>?_)
  have B1:Below w.heap.size w w.drew:=(Below.refl _ _).drew
  generalize w.drew=w1 at *
  refine tY 1 ?_
  (try simp only [pS])
  refine tY 2 ?_
  (try simp only [pS])
  refine tY 3 ?_
  (try simp only [pS])
  refine tY 6 ?_
  (try simp only [pS])
  refine tY 7 ?_
  (try simp only [pS])
  refine tY 8 ?_
  (try simp only [pS])
  refine Uq 0 5 rfl rfl (by kernel_rfl) (by rfl) (by rfl) (fun K_ hK=>?_) (fun K_ hK=>?_)
  ·go_simp
   obtain ⟨g9,gM⟩:∃ g,g=w1.heap.size:=⟨_,rfl⟩
   rw [<-gM]
   have bb:Below w1.heap.size w1 (w1.alloc (.cells #[] 93)):=(Below.refl _ _).alloc (Nat.le_refl _) _
   have o9:Ow Az 93 (w1.alloc (.cells #[] 93)) w.heap.size (.slice (some ⟨g9,0,none⟩) 0 0) []:=(Ow.empty Az 93 w1 gM).more (by have:=B1.size;omega)
   have z9:g9<(w1.alloc (.cells #[] 93)).heap.size:=by simp;omega
   have Bw1a:=Aa B1 bb
   have y9:=bb.size
   have ga9:=Nat.le_of_eq gM
   have gb9:=Nat.le_of_eq gM.symm
   clear bb gM
   generalize w1.alloc (.cells #[] 93)=w1a at *
   refine hK.out _ _ trivial (fun hHeld=>?_)
   clear hK K_
   (try simp only [pS])
   refine Uq 4 5 rfl rfl (by kernel_rfl) (by rfl) (by rfl) (fun K_ hK=>?_) (fun K_ hK=>?_)
   ·obtain ⟨n13,dQ⟩:∃ n,n=w1a.heap.size:=⟨_,rfl⟩
    refine C7 _ Az (by decide) (.tmp 9) (.tmp 12) 96 rfl w.heap.size 93 _ _ _ Tryz.underlying96 aP aX aV aQ rfl _ [] rfl o9 _ _ _ _ (l.take (Bh l)) rfl (r0.out _ Bw1a) (by simp) cU.out (by decide) Bw1a.size ?_
    intro v13 w1ap o13 gg e13
    rw [List.nil_append] at o13
    rw [<-dQ] at e13
    have na13:=Nat.le_of_eq dQ
    have nb13:=Nat.le_of_eq dQ.symm
    clear dQ
    have t13:∀ g,v13.ownBlock=some g->g<w1ap.heap.size:=fun g h=>(o13.within g h).2
    replace e13:v13.ownBlock=some g9\/v13.ownBlock=some n13:=e13
    have Bw1ap:Below w.heap.size w w1ap:=Bw1a.grown gg Bw1a.size (fun g hg=>(o9.within g hg).1)
    have y13:=gg.size
    clear gg
    refine hK.out _ _ trivial (fun hHeld=>?_)
    clear hK K_
    (try simp only [pS])
    refine rC 5 (fun K_ hK=>?_)
    go_simp
    obtain ⟨g14,dF⟩:∃ g,g=w1ap.heap.size:=⟨_,rfl⟩
    rw [<-dF]
    have bb:Below w1ap.heap.size w1ap (w1ap.alloc (.cells #[] 93)):=(Below.refl _ _).alloc (Nat.le_refl _) _
    have o14:Ow Az 93 (w1ap.alloc (.cells #[] 93)) w.heap.size (.slice (some ⟨g14,0,none⟩) 0 0) []:=(Ow.empty Az 93 w1ap dF).more (by have:=Bw1ap.size;omega)
    have z14:g14<(w1ap.alloc (.cells #[] 93)).heap.size:=by simp;omega
    have Bw1apa:=Aa Bw1ap bb
    replace o13:=o13.below bb
    have y14:=bb.size
    have ga14:=Nat.le_of_eq dF
    have gb14:=Nat.le_of_eq dF.symm
    clear bb dF
    generalize w1ap.alloc (.cells #[] 93)=w1apa at *
    refine hK.out _ _ trivial (fun hHeld=>?_)
    clear hK K_
    (try simp only [pS])
    refine rC 9 (fun K_ hK=>?_)
    obtain ⟨n18,dX⟩:∃ n,n=w1apa.heap.size:=⟨_,rfl⟩
    refine C7 _ Az (by decide) (.tmp 14) (.tmp 17) 96 rfl w.heap.size 93 _ _ _ Tryz.underlying96 aP aX aV aQ rfl _ [] rfl o14 _ _ _ _ (l.drop (Bh l)) rfl (rr.out _ Bw1apa) (by simp) aR.out (by decide) Bw1apa.size ?_
    intro v18 w1apap o18 gg e18
    rw [List.nil_append] at o18
    rw [<-dX] at e18
    have na18:=Nat.le_of_eq dX
    have nb18:=Nat.le_of_eq dX.symm
    clear dX
    have t18:∀ g,v18.ownBlock=some g->g<w1apap.heap.size:=fun g h=>(o18.within g h).2
    replace e18:v18.ownBlock=some g14\/v18.ownBlock=some n18:=e18
    have Bw1apap:Below w.heap.size w w1apap:=Bw1apa.grown gg Bw1apa.size (fun g hg=>(o14.within g hg).1)
    have y18:=gg.size
    replace o13:=o13.grown gg (Or.inr (fun h=>by have:=t13 g14 h;rcases e13 with h2 | h2<;>(rw [h2] at h;have:=Option.some.inj (show some _=some g14 from h);omega)))
    clear gg
    refine hK.out _ _ trivial (fun hHeld=>?_)
    clear hK K_
    (try simp only [pS])
    refine rC 10 (fun K_ hK=>?_)
    go_simp
    refine hK.out _ _ trivial (fun hHeld=>?_)
    clear hK K_
    (try simp only [pS])
    refine rC 11 (fun K_ hK=>?_)
    go_simp
    refine hK.out _ _ trivial (fun hHeld=>?_)
    clear hK K_
    (try simp only [pS])
    refine wpAnyH_done (by kernel_rfl) ?_ _
    refine NoPanic.normal ?_
    obtain ⟨s1,F1,rfl,p1,q1,r1⟩:=Hj o13
    obtain ⟨s2,F2,rfl,p2,q2,r2⟩:=Hj o18
    go_wp2
    go_ret2
    exact ⟨s1,F1,s2,F2,rfl,p1,p2,q1,q2,fun x hx hy=>by
     have a1:=r1 x hx
     have a2:=r2 x hy
     have a3:=t13 x a1
     have a4:=t18 x a2
     rcases e13 with h | h<;>rcases e18 with h' | h'<;>(rw [a1] at h;rw [a2] at h';have:=Option.some.inj h;have:=Option.some.inj h';omega),Bw1apap⟩
   ·go_simp
    obtain ⟨g14,dF⟩:∃ g,g=w1a.heap.size:=⟨_,rfl⟩
    rw [<-dF]
    have bb:Below w1a.heap.size w1a (w1a.alloc (.cells #[] 93)):=(Below.refl _ _).alloc (Nat.le_refl _) _
    have o14:Ow Az 93 (w1a.alloc (.cells #[] 93)) w.heap.size (.slice (some ⟨g14,0,none⟩) 0 0) []:=(Ow.empty Az 93 w1a dF).more (by have:=Bw1a.size;omega)
    have z14:g14<(w1a.alloc (.cells #[] 93)).heap.size:=by simp;omega
    have Bw1aa:=Aa Bw1a bb
    replace o9:=o9.below bb
    have y14:=bb.size
    have ga14:=Nat.le_of_eq dF
    have gb14:=Nat.le_of_eq dF.symm
    clear bb dF
    generalize w1a.alloc (.cells #[] 93)=w1aa at *
    refine hK.out _ _ trivial (fun hHeld=>?_)
    clear hK K_
    (try simp only [pS])
    refine rC 4 (fun K_ hK=>?_)
    obtain ⟨n13,dQ⟩:∃ n,n=w1aa.heap.size:=⟨_,rfl⟩
    refine C7 _ Az (by decide) (.tmp 9) (.tmp 12) 96 rfl w.heap.size 93 _ _ _ Tryz.underlying96 aP aX aV aQ rfl _ [] rfl o9 _ _ _ _ (l.take (Bh l)) rfl (r0.out _ Bw1aa) (by simp) cU.out (by decide) Bw1aa.size ?_
    intro v13 w1aap o13 gg e13
    rw [List.nil_append] at o13
    rw [<-dQ] at e13
    have na13:=Nat.le_of_eq dQ
    have nb13:=Nat.le_of_eq dQ.symm
    clear dQ
    have t13:∀ g,v13.ownBlock=some g->g<w1aap.heap.size:=fun g h=>(o13.within g h).2
    replace e13:v13.ownBlock=some g9\/v13.ownBlock=some n13:=e13
    have Bw1aap:Below w.heap.size w w1aap:=Bw1aa.grown gg Bw1aa.size (fun g hg=>(o9.within g hg).1)
    have y13:=gg.size
    replace o14:=o14.grown gg (Or.inr (fun h=>by have:=Option.some.inj (show some g14=some g9 from h);omega))
    clear gg
    refine hK.out _ _ trivial (fun hHeld=>?_)
    clear hK K_
    (try simp only [pS])
    refine rC 9 (fun K_ hK=>?_)
    obtain ⟨n18,dX⟩:∃ n,n=w1aap.heap.size:=⟨_,rfl⟩
    refine C7 _ Az (by decide) (.tmp 14) (.tmp 17) 96 rfl w.heap.size 93 _ _ _ Tryz.underlying96 aP aX aV aQ rfl _ [] rfl o14 _ _ _ _ (l.drop (Bh l)) rfl (rr.out _ Bw1aap) (by simp) aR.out (by decide) Bw1aap.size ?_
    intro v18 w1aapp o18 gg e18
    rw [List.nil_append] at o18
    rw [<-dX] at e18
    have na18:=Nat.le_of_eq dX
    have nb18:=Nat.le_of_eq dX.symm
    clear dX
    have t18:∀ g,v18.ownBlock=some g->g<w1aapp.heap.size:=fun g h=>(o18.within g h).2
    replace e18:v18.ownBlock=some g14\/v18.ownBlock=some n18:=e18
    have Bw1aapp:Below w.heap.size w w1aapp:=Bw1aap.grown gg Bw1aap.size (fun g hg=>(o14.within g hg).1)
    have y18:=gg.size
    replace o13:=o13.grown gg (Or.inr (fun h=>by have:=t13 g14 h;rcases e13 with h2 | h2<;>(rw [h2] at h;have:=Option.some.inj (show some _=some g14 from h);omega)))
    clear gg
    refine hK.out _ _ trivial (fun hHeld=>?_)
    clear hK K_
    (try simp only [pS])
    refine rC 10 (fun K_ hK=>?_)
    go_simp
    refine hK.out _ _ trivial (fun hHeld=>?_)
    clear hK K_
    (try simp only [pS])
    refine rC 11 (fun K_ hK=>?_)
    go_simp
    refine hK.out _ _ trivial (fun hHeld=>?_)
    clear hK K_
    (try simp only [pS])
    refine wpAnyH_done (by kernel_rfl) ?_ _
    refine NoPanic.normal ?_
    obtain ⟨s1,F1,rfl,p1,q1,r1⟩:=Hj o13
    obtain ⟨s2,F2,rfl,p2,q2,r2⟩:=Hj o18
    go_wp2
    go_ret2
    exact ⟨s1,F1,s2,F2,rfl,p1,p2,q1,q2,fun x hx hy=>by
     have a1:=r1 x hx
     have a2:=r2 x hy
     have a3:=t13 x a1
     have a4:=t18 x a2
     rcases e13 with h | h<;>rcases e18 with h' | h'<;>(rw [a1] at h;rw [a2] at h';have:=Option.some.inj h;have:=Option.some.inj h';omega),Bw1aapp⟩
  ·go_simp
   obtain ⟨g14,dF⟩:∃ g,g=w1.heap.size:=⟨_,rfl⟩
   rw [<-dF]
   have bb:Below w1.heap.size w1 (w1.alloc (.cells #[] 93)):=(Below.refl _ _).alloc (Nat.le_refl _) _
   have o14:Ow Az 93 (w1.alloc (.cells #[] 93)) w.heap.size (.slice (some ⟨g14,0,none⟩) 0 0) []:=(Ow.empty Az 93 w1 dF).more (by have:=B1.size;omega)
   have z14:g14<(w1.alloc (.cells #[] 93)).heap.size:=by simp;omega
   have Bw1a:=Aa B1 bb
   have y14:=bb.size
   have ga14:=Nat.le_of_eq dF
   have gb14:=Nat.le_of_eq dF.symm
   clear bb dF
   generalize w1.alloc (.cells #[] 93)=w1a at *
   refine hK.out _ _ trivial (fun hHeld=>?_)
   clear hK K_
   (try simp only [pS])
   refine rC 0 (fun K_ hK=>?_)
   go_simp
   obtain ⟨g9,gM⟩:∃ g,g=w1a.heap.size:=⟨_,rfl⟩
   rw [<-gM]
   have bb:Below w1a.heap.size w1a (w1a.alloc (.cells #[] 93)):=(Below.refl _ _).alloc (Nat.le_refl _) _
   have o9:Ow Az 93 (w1a.alloc (.cells #[] 93)) w.heap.size (.slice (some ⟨g9,0,none⟩) 0 0) []:=(Ow.empty Az 93 w1a gM).more (by have:=Bw1a.size;omega)
   have z9:g9<(w1a.alloc (.cells #[] 93)).heap.size:=by simp;omega
   have Bw1aa:=Aa Bw1a bb
   replace o14:=o14.below bb
   have y9:=bb.size
   have ga9:=Nat.le_of_eq gM
   have gb9:=Nat.le_of_eq gM.symm
   clear bb gM
   generalize w1a.alloc (.cells #[] 93)=w1aa at *
   refine hK.out _ _ trivial (fun hHeld=>?_)
   clear hK K_
   (try simp only [pS])
   refine rC 4 (fun K_ hK=>?_)
   obtain ⟨n13,dQ⟩:∃ n,n=w1aa.heap.size:=⟨_,rfl⟩
   refine C7 _ Az (by decide) (.tmp 9) (.tmp 12) 96 rfl w.heap.size 93 _ _ _ Tryz.underlying96 aP aX aV aQ rfl _ [] rfl o9 _ _ _ _ (l.take (Bh l)) rfl (r0.out _ Bw1aa) (by simp) cU.out (by decide) Bw1aa.size ?_
   intro v13 w1aap o13 gg e13
   rw [List.nil_append] at o13
   rw [<-dQ] at e13
   have na13:=Nat.le_of_eq dQ
   have nb13:=Nat.le_of_eq dQ.symm
   clear dQ
   have t13:∀ g,v13.ownBlock=some g->g<w1aap.heap.size:=fun g h=>(o13.within g h).2
   replace e13:v13.ownBlock=some g9\/v13.ownBlock=some n13:=e13
   have Bw1aap:Below w.heap.size w w1aap:=Bw1aa.grown gg Bw1aa.size (fun g hg=>(o9.within g hg).1)
   have y13:=gg.size
   replace o14:=o14.grown gg (Or.inr (fun h=>by have:=Option.some.inj (show some g14=some g9 from h);omega))
   clear gg
   refine hK.out _ _ trivial (fun hHeld=>?_)
   clear hK K_
   (try simp only [pS])
   refine rC 9 (fun K_ hK=>?_)
   obtain ⟨n18,dX⟩:∃ n,n=w1aap.heap.size:=⟨_,rfl⟩
   refine C7 _ Az (by decide) (.tmp 14) (.tmp 17) 96 rfl w.heap.size 93 _ _ _ Tryz.underlying96 aP aX aV aQ rfl _ [] rfl o14 _ _ _ _ (l.drop (Bh l)) rfl (rr.out _ Bw1aap) (by simp) aR.out (by decide) Bw1aap.size ?_
   intro v18 w1aapp o18 gg e18
   rw [List.nil_append] at o18
   rw [<-dX] at e18
   have na18:=Nat.le_of_eq dX
   have nb18:=Nat.le_of_eq dX.symm
   clear dX
   have t18:∀ g,v18.ownBlock=some g->g<w1aapp.heap.size:=fun g h=>(o18.within g h).2
   replace e18:v18.ownBlock=some g14\/v18.ownBlock=some n18:=e18
   have Bw1aapp:Below w.heap.size w w1aapp:=Bw1aap.grown gg Bw1aap.size (fun g hg=>(o14.within g hg).1)
   have y18:=gg.size
   replace o13:=o13.grown gg (Or.inr (fun h=>by have:=t13 g14 h;rcases e13 with h2 | h2<;>(rw [h2] at h;have:=Option.some.inj (show some _=some g14 from h);omega)))
   clear gg
   refine hK.out _ _ trivial (fun hHeld=>?_)
   clear hK K_
   (try simp only [pS])
   refine rC 10 (fun K_ hK=>?_)
   go_simp
   refine hK.out _ _ trivial (fun hHeld=>?_)
   clear hK K_
   (try simp only [pS])
   refine rC 11 (fun K_ hK=>?_)
   go_simp
   refine hK.out _ _ trivial (fun hHeld=>?_)
   clear hK K_
   (try simp only [pS])
   refine wpAnyH_done (by kernel_rfl) ?_ _
   refine NoPanic.normal ?_
   obtain ⟨s1,F1,rfl,p1,q1,r1⟩:=Hj o13
   obtain ⟨s2,F2,rfl,p2,q2,r2⟩:=Hj o18
   go_wp2
   go_ret2
   exact ⟨s1,F1,s2,F2,rfl,p1,p2,q1,q2,fun x hx hy=>by
    have a1:=r1 x hx
    have a2:=r2 x hy
    have a3:=t13 x a1
    have a4:=t18 x a2
    rcases e13 with h | h<;>rcases e18 with h' | h'<;>(rw [a1] at h;rw [a2] at h';have:=Option.some.inj h;have:=Option.some.inj h';omega),Bw1aapp⟩
theorem Aai:(Tryz.prog.info? 3).map (fun i=>(i.zero,i.size,i.bytes))=some (some (.int .i64 0),1,8):=by kernel_rfl
theorem Rs (d:Deed) (s:Sl) (w:World) (h:Be.rd w w.heap.size d s) :
  Calls Tryz.prog 141 #[Bm d s] w fun e w'=>e = .returned (.bool (Bp d))/\Below w.heap.size w w':=by
 cases a0:inB d.kind 1 8
 case true =>
  have:d.kind=1\/d.kind=2\/d.kind=3\/d.kind=4\/d.kind=5\/d.kind=6\/d.kind=7\/d.kind=8:=by
   simp [inB] at a0
   omega
  rcases this with e | e | e | e | e | e | e | e
  ·exact Wu d s w e h
  ·exact Wv d s w e h
  ·exact Ww d s w e h
  ·exact Wx d s w e h
  ·exact Wy d s w e h
  ·exact W0 d s w e h
  ·exact W6 d s w e h
  ·exact Wz d s w e h
 have H:=Lib.hid (show Bp d=false by simp [Bp,a0])
 clear h
 obtain ⟨A,n,c⟩:=s
 obtain ⟨kd,rn,p,tk,ty,wk,dr⟩:=d
 replace a0:inB kd 1 8=false:=a0
 have X:=DBox.new 45 [.int .i64 kd,.int .i64 rn,.int .i64 p.prio,.int .i64 p.most,.int .i64 p.wait,.int .i64 p.tasks,.slice A n c,.int .i64 tk,.int .i64 ty,.int .i64 wk,.int .i64 dr] w (b:=w.heap.size) rfl
 have B0:Below w.heap.size w (w.alloc (.cells #[.int .i64 kd,.int .i64 rn,.int .i64 p.prio,.int .i64 p.most,.int .i64 p.wait,.int .i64 p.tasks,.slice A n c,.int .i64 tk,.int .i64 ty,.int .i64 wk,.int .i64 dr] 45)):=by repeat (first | exact Below.refl _ _ | refine Below.alloc ?_ (by simp<;>omega) _)
 go_enter Tryz.func141,Tryz.ntmps141
 go_wp2_with (go_at_call 155;refine (Aj _ _ _ _).mono ?_;rintro e w9 ⟨rfl,rfl⟩;(try (with_reducible rw [a0]));dsimp only)
 go_ret
 exact ⟨Ac H.out.symm,B0⟩
def E0 (l:List Edge):List Int:=l.flatMap fun e=>[e.fr,e.to]
def Cx (d:Deed):List Int :=
 if d.kind=1 then [d.run,d.plan.prio,d.plan.most,d.plan.wait,d.plan.tasks,d.plan.edges.length] ++ E0 d.plan.edges
 else if d.kind=2 then [d.worker,d.draw]
 else if d.kind=3\/d.kind=4 then [d.run,d.task,d.try_]
 else if d.kind=6\/d.kind=7 then [d.run]
 else []
theorem Nq (l:List Edge):(E0 l).length=2 * l.length:=by
 induction l with
 | nil=>rfl
 | cons a l ih =>
  rw [show E0 (a :: l)=[a.fr,a.to] ++ E0 l from rfl,List.length_append,List.length_cons,ih]
  simp
  omega
theorem Tg (l:List Edge) (k:Nat) (h:k<l.length):E0 (l.take (k+1))=E0 (l.take k) ++ [l[k].fr,l[k].to]:=by
 rw [List.take_succ_eq_append_getElem h]
 simp only [E0,List.flatMap_append,List.flatMap_cons,List.flatMap_nil,List.append_nil]
theorem Th (d:Deed):(Cx d).length<=6+2 * d.plan.edges.length:=by
 unfold Cx
 split
 ·rw [List.length_append,Nq];simp
 split
 ·simp;omega
 split
 ·simp;omega
 split<;>(simp;try omega)
theorem Aaj (l:List Int):l.flatMap Fz.cells=l.map (Value.int .i64):=by
 induction l with
 | nil=>rfl
 | cons a l ih=>rw [List.flatMap_cons,ih];rfl
theorem Ow.ints (w:World) (E:TypeId) (l:List Int) {cs:Array Value} (rW:cs=(l.map (Value.int .i64)).toArray) {n g base:Nat} (hn:n=l.length) (hg:g=w.heap.size) (hb:base<=w.heap.size) (hl:l.length<=1000) :
  Ow Fz E (w.alloc (.cells cs E)) base (.slice (some ⟨g,0,none⟩) n n) l:=by
 subst hn hg rW
 have:=World.ownsRow_lit (base:=base) (e:=E) (size:=Fz.sz) w (l.map (Value.int .i64)).toArray l.length hb (by simp [maxLen];omega) (by simp [Fz])
 unfold Ow
 rw [Aaj]
 exact this
theorem P4 (d:Deed) (s:Sl) (w:World) (hl:d.plan.edges.length<=1000000) (h:Be.rd w w.heap.size d s) :
  Calls Tryz.prog 103 #[Bm d s] w fun e w'=>∃ v,e = .returned v/\Ow Fz 3 w' w.heap.size v (Cx d)/\Below w.heap.size w w':=by
 obtain ⟨i0,aP,aX,aV,aQ⟩:=info_parts Aai
 obtain ⟨A,n,c⟩:=s
 obtain ⟨kd,rn,p,tk,ty,wk,dr⟩:=d
 replace hl:p.edges.length<=1000000:=hl
 have h0:Ag.rd w w.heap.size p ⟨A,n,c⟩:=h
 obtain rfl:n=p.edges.length:=RdL.at1 (s:=⟨A,n,c⟩) h0
 have h2:Rd Ei w w.heap.size (.slice A p.edges.length c) p.edges:=Gf h0
 clear h h0
 have X:=DBox.new 45 [.int .i64 kd,.int .i64 rn,.int .i64 p.prio,.int .i64 p.most,.int .i64 p.wait,.int .i64 p.tasks,.slice A p.edges.length c,.int .i64 tk,.int .i64 ty,.int .i64 wk,.int .i64 dr] w (b:=w.heap.size) rfl
 have B0:Below w.heap.size w (w.alloc (.cells #[.int .i64 kd,.int .i64 rn,.int .i64 p.prio,.int .i64 p.most,.int .i64 p.wait,.int .i64 p.tasks,.slice A p.edges.length c,.int .i64 tk,.int .i64 ty,.int .i64 wk,.int .i64 dr] 45)):=by repeat (first | exact Below.refl _ _ | refine Below.alloc ?_ (by simp<;>omega) _)
 by_cases k2:kd=2
 ·have H:=Lib.hid (show Cx ⟨kd,rn,p,tk,ty,wk,dr⟩=[wk,dr] by simp [Cx,k2])
  rw [H.out];clear H
  subst k2
  go_enter Tryz.func103,Tryz.ntmps103
  go_wp2
  go_ret
  exact ⟨_,rfl,Ow.ints _ _ _ rfl rfl (by simp) B0.size (by simp),B0.alloc B0.size _⟩
 by_cases k3:kd=3
 ·have H:=Lib.hid (show Cx ⟨kd,rn,p,tk,ty,wk,dr⟩=[rn,tk,ty] by simp [Cx,k3])
  rw [H.out];clear H
  subst k3
  go_enter Tryz.func103,Tryz.ntmps103
  go_wp2
  go_ret
  exact ⟨_,rfl,Ow.ints _ _ _ rfl rfl (by simp) B0.size (by simp),B0.alloc B0.size _⟩
 by_cases k4:kd=4
 ·have H:=Lib.hid (show Cx ⟨kd,rn,p,tk,ty,wk,dr⟩=[rn,tk,ty] by simp [Cx,k4])
  rw [H.out];clear H
  subst k4
  go_enter Tryz.func103,Tryz.ntmps103
  go_wp2
  go_ret
  exact ⟨_,rfl,Ow.ints _ _ _ rfl rfl (by simp) B0.size (by simp),B0.alloc B0.size _⟩
 by_cases k6:kd=6
 ·have H:=Lib.hid (show Cx ⟨kd,rn,p,tk,ty,wk,dr⟩=[rn] by simp [Cx,k6])
  rw [H.out];clear H
  subst k6
  go_enter Tryz.func103,Tryz.ntmps103
  go_wp2
  go_ret
  exact ⟨_,rfl,Ow.ints _ _ _ rfl rfl (by simp) B0.size (by simp),B0.alloc B0.size _⟩
 by_cases k7:kd=7
 ·have H:=Lib.hid (show Cx ⟨kd,rn,p,tk,ty,wk,dr⟩=[rn] by simp [Cx,k7])
  rw [H.out];clear H
  subst k7
  go_enter Tryz.func103,Tryz.ntmps103
  go_wp2
  go_ret
  exact ⟨_,rfl,Ow.ints _ _ _ rfl rfl (by simp) B0.size (by simp),B0.alloc B0.size _⟩
 by_cases k1:kd=1
 case neg =>
  have H:=Lib.hid (show Cx ⟨kd,rn,p,tk,ty,wk,dr⟩=[] by simp [Cx,k1,k2,k3,k4,k6,k7])
  rw [H.out];clear H
  have b1:(kd == 1)=false:=beq_eq_false_iff_ne.2 k1
  have b2:(kd == 2)=false:=beq_eq_false_iff_ne.2 k2
  have b3:(kd == 3)=false:=beq_eq_false_iff_ne.2 k3
  have b4:(kd == 4)=false:=beq_eq_false_iff_ne.2 k4
  have b6:(kd == 6)=false:=beq_eq_false_iff_ne.2 k6
  have b7:(kd == 7)=false:=beq_eq_false_iff_ne.2 k7
  clear k1 k2 k3 k4 k6 k7
  go_enter Tryz.func103,Tryz.ntmps103
  go_wp2
  go_ret
  exact ⟨_,rfl,Ow.nil _ _ _ _,B0⟩
 clear k2 k3 k4 k6 k7
 have H:=Lib.hid (show ∀ k,p.edges.length<=k->Cx ⟨kd,rn,p,tk,ty,wk,dr⟩=[rn,p.prio,p.most,p.wait,p.tasks,p.edges.length] ++ E0 (p.edges.take k) from fun k hk=>by simp [Cx,k1,List.take_of_length_le hk])
 subst k1
 go_enter Tryz.func103,Tryz.ntmps103
 go_wp2
 generalize Bm (⟨1,rn,p,tk,ty,wk,dr⟩:Deed) (⟨A,p.edges.length,c⟩:Sl)=dv
 clear X
 go_loopw [3,33] (fun vl i wr=>∃ (k:Nat) (v:Value),v=vl/\k<=p.edges.length/\i = .int .i64 k/\Hid (Ow Fz 3 wr w.heap.size v ([rn,p.prio,p.most,p.wait,p.tasks,p.edges.length] ++ E0 (p.edges.take k)))/\Below w.heap.size w wr) (fun _ i _=>p.edges.length - (intOf i).toNat)
 case atStart=>exact ⟨0,_,rfl,Nat.zero_le _,rfl,Ow.ints _ _ _ rfl rfl (by simp) B0.size (by simp [E0]),B0.alloc B0.size _⟩
 case round =>
  clear B0
  obtain ⟨k,v,rfl,hk,rfl,hO,hb⟩:=hrel
  by_cases aA:k<p.edges.length
  ·have aB:(k:Int)<(p.edges.length:Int):=by omega
   obtain ⟨b,o,rfl,aH,d0,d1⟩:=(h2.below hb).edge aA
   have HT:=Lib.hid (Tg p.edges k aA)
   have HL:=Nq (p.edges.take k)
   rw [List.length_take] at HL
   generalize p.edges[k].fr=fx at *
   generalize p.edges[k].to=tx at *
   have ha:Hid (∀ w:World,Below w.heap.size w ((w.alloc (.cells #[.int .i64 fx,.int .i64 tx] 199)).alloc (.cells #[.int .i64 fx,.int .i64 tx] 3))):=fun w=>((Below.refl _ _).alloc (Nat.le_refl _) _).alloc (by simp) _
   generalize E0 (p.edges.take k)=L at *
   go_wp2_with (at_builtin;refine Ak _ Fz (by decide) rfl (.tmp 37) (.tmp 42) rfl Tryz.underlying26 aP aX aV aQ rfl (v:=v) (l:=[rn,p.prio,p.most,p.wait,p.tasks,p.edges.length] ++ L) rfl (hO.out.below (ha.out wr)) rfl (Rd.of_own (Ow.ints _ _ [fx,tx] rfl (by simp) (by simp) (Nat.le_refl _) (by simp))) (by simp;omega) (by simp) (by decide) (by simp;have:=hb.size;omega) ?_;intro v5 w5 o5 g5 _)
   have bG:=Aa hb (ha.out wr)
   have W5:=bG.grown g5 bG.size (fun g hg=>(hO.out.within g hg).1)
   refine ⟨⟨k+1,_,rfl,by omega,by go_num,?_,W5⟩,by simp [intOf];omega⟩
   rw [HT.out,<-List.append_assoc]
   exact o5
  ·have aB:¬ (k:Int)<(p.edges.length:Int):=by omega
   have HO:=hO.out
   rw [<-H.out k (by omega)] at HO
   clear H hO
   obtain ⟨A9,c9,rfl,-⟩:=id (Rd.of_own HO)
   go_wp2
   go_ret
   exact ⟨_,rfl,HO,hb⟩
end Go.Proofs.YtonlnjdempbfoaaGreat
