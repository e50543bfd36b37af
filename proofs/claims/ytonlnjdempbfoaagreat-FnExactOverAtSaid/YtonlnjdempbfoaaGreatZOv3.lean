/-
  RunAt of the reference and of the program. Written by program (cs.py). SumOf, FourOf, FrameOf of both. Slices of plain structs that are held against each other:
-/
import Derived.Test.YtonlnjdempbfoaaGreatZOv0
import Derived.Test.YtonlnjdempbfoaaGreatZOv1
import Derived.Test.YtonlnjdempbfoaaGreatZOv2
import Derived.Deep.RegionHeld3
namespace Go.Proofs.YtonlnjdempbfoaaGreat
open Go.RowKit
set_option maxRecDepth 100000
set_option maxHeartbeats 4000000
set_option linter.unusedVariables false
set_option linter.unusedSimpArgs false
def Ke (id:Int) (r:Run):Bool:=r.id == id
def Bo (y:Yard) (id:Int):Int:=if y.runs.length<=8 then Eo (Ke id) y.runs else -1
theorem Oc {y:Yard} {id:Int} (h:¬ y.runs.length<=8):Bo y id = -1:=by unfold Bo;rw [if_neg h]
theorem Jd {y:Yard} {id:Int} (h:y.runs.length<=8):Bo y id=Eo (Ke id) y.runs:=by unfold Bo;rw [if_pos h]
theorem Jw {α:Type} (p:α->Bool) (l:List α):Eo p l = -1 \/ ∃ k:Nat,k<l.length/\Eo p l=k:=by
 unfold Eo
 cases h:l.findIdx? p with
 | none=>exact .inl rfl
 | some i=>exact .inr ⟨i,(List.findIdx?_eq_some_iff_getElem.1 h).1,rfl⟩
theorem Cn (y:Yard) (id:Int):Bo y id = -1 \/ ∃ k:Nat,k<y.runs.length/\Bo y id=k:=by
 by_cases h:y.runs.length<=8
 ·rw [Jd h];exact Jw _ _
 ·exact .inl (Oc h)
theorem Cz (y:Yard) (s:Sl×Sl) (id:Int) (w:World) (hl:Ai y<=2000000) (h:Ab.rd w w.heap.size y s) :
  Calls Tryz.prog 80 #[By y s,.int .i64 id] w fun e w'=>e = .returned (.int .i64 (Bo y id))/\Below w.heap.size w w':=by
 obtain ⟨s1,⟨A,n,c⟩⟩:=s
 have h1:RdL Am w w.heap.size (Sl.v ⟨A,n,c⟩) y.runs:=h.2
 obtain ⟨A',c',hv,-⟩:=h1.form
 simp only [Sl.v,Value.slice.injEq] at hv
 obtain ⟨rfl,rfl,rfl⟩:=hv
 have dI:y.runs.length<=2000000:=Nat.le_trans (Ar Bg _) (by unfold Ai at hl;omega)
 have D:=DBox.new 31 [.int .i64 y.now,.int .i64 y.seq,.slice (s1,(⟨A,y.runs.length,c⟩:Sl)).1.a (s1,(⟨A,y.runs.length,c⟩:Sl)).1.n (s1,(⟨A,y.runs.length,c⟩:Sl)).1.c,.slice (s1,(⟨A,y.runs.length,c⟩:Sl)).2.a (s1,(⟨A,y.runs.length,c⟩:Sl)).2.n (s1,(⟨A,y.runs.length,c⟩:Sl)).2.c] w rfl
 have bU:Below w.heap.size w (w.alloc (.cells #[.int .i64 y.now,.int .i64 y.seq,.slice (s1,(⟨A,y.runs.length,c⟩:Sl)).1.a (s1,(⟨A,y.runs.length,c⟩:Sl)).1.n (s1,(⟨A,y.runs.length,c⟩:Sl)).1.c,.slice (s1,(⟨A,y.runs.length,c⟩:Sl)).2.a (s1,(⟨A,y.runs.length,c⟩:Sl)).2.n (s1,(⟨A,y.runs.length,c⟩:Sl)).2.c] 31)):=(Below.refl _ _).alloc (Nat.le_refl _) _
 go_enter Tryz.func80,Tryz.ntmps80
 go_wp2_with fail
 generalize (w.alloc (.cells #[.int .i64 y.now,.int .i64 y.seq,.slice (s1,(⟨A,y.runs.length,c⟩:Sl)).1.a (s1,(⟨A,y.runs.length,c⟩:Sl)).1.n (s1,(⟨A,y.runs.length,c⟩:Sl)).1.c,.slice (s1,(⟨A,y.runs.length,c⟩:Sl)).2.a (s1,(⟨A,y.runs.length,c⟩:Sl)).2.n (s1,(⟨A,y.runs.length,c⟩:Sl)).2.c] 31))=W at *
 have k3:W.cell? ⟨w.heap.size,3,none⟩=some (.slice A y.runs.length c):=D.cell 3 _ rfl
 have h2:=h1.below bU
 go_wp2
 go_loop [5] (fun i=>∃ k:Nat,k<=y.runs.length/\i = .int .i64 k/\Hid (∀ j (hj:j<y.runs.length),j<k->Ke id y.runs[j]=false)) (fun i=>y.runs.length - (intOf i).toNat)
 case atStart=>exact ⟨0,Nat.zero_le _,rfl,fun j hj h0=>absurd h0 (by omega)⟩
 case round =>
  obtain ⟨k,hk,rfl,cI⟩:=hrel
  by_cases h8:y.runs.length<=8
  ·by_cases aA:k<y.runs.length
   ·obtain ⟨b,o,s',rfl,aH,hr,c0,-⟩:=h2.run aA
    have aB:(k:Int)<(y.runs.length:Int):=by omega
    cases hp:Ke id y.runs[k]
    ·have t0:(y.runs[k].id == id)=false:=hp
     have S:Hid (∀ j (hj:j<y.runs.length),j<k+1->Ke id y.runs[j]=false):=by
      intro j hj h0
      by_cases e:j=k
      ·subst e;exact hp
      ·exact cI.out j hj (by omega)
     clear hp
     go_wp2
     exact ⟨⟨k+1,by omega,by go_num,S⟩,by simp [intOf];omega⟩
    ·have t0:(y.runs[k].id == id)=true:=hp
     have H:=Lib.hid (show Bo y id=k by rw [Jd h8];exact Gi aA (fun j hj=>cI.out j (by omega) hj) hp)
     clear hp
     go_wp2
     go_ret
     exact ⟨Bw H.out.symm,bU⟩
   ·have H:=Lib.hid (show Bo y id = -1 by rw [Jd h8];exact Hc (fun j hj=>cI.out j hj (by omega)))
    have aB:¬ ((k:Int)<(y.runs.length:Int)):=by omega
    go_wp2
    go_ret
    exact ⟨Bw H.out.symm,bU⟩
  ·have H:=Lib.hid (Oc (id:=id) h8)
   by_cases aA:k<y.runs.length
   ·have aB:(k:Int)<(y.runs.length:Int):=by omega
    go_wp2
    go_ret
    exact ⟨Bw H.out.symm,bU⟩
   ·have aB:¬ ((k:Int)<(y.runs.length:Int)):=by omega
    go_wp2
    go_ret
    exact ⟨Bw H.out.symm,bU⟩
theorem Q6 (r:Run) (s:Sl×Sl) (id:Int) (p:Nat) (w:World) (hp:w.cell? ⟨p,0,none⟩=some (.int .i64 id)) (hp':p<w.heap.size) :
  Calls Tryz.prog 139 #[Ey r s,.pointer (some ⟨p,0,none⟩)] w fun e w'=>e = .returned (.bool (Ke id r))/\Below w.heap.size w w':=by
 unfold Ke
 cases t1:(r.id == id)
 all_goals
  go_enter Tryz.func139,Tryz.ntmps139
  go_wp2
  go_ret
  exact ⟨rfl,by repeat (first | exact Below.refl _ _ | refine Below.alloc ?_ (by simp<;>omega) _)⟩
theorem Ux (l:List Run) (s:Sl) (id:Int) (p:Nat) (w:World) (hl:l.length<=2000000) (h:RdL Am w w.heap.size s.v l) (hp:w.cell? ⟨p,0,none⟩=some (.int .i64 id)) (hp':p<w.heap.size) :
  Calls Tryz.prog 138 #[.slice s.a s.n s.c,.func (.func 139) #[] #[.pointer (some ⟨p,0,none⟩)]] w
   fun e w'=>e = .returned (.int .i64 (Eo (Ke id) l))/\Below w.heap.size w w':=by
 obtain ⟨A,n,c⟩:=s
 obtain ⟨A',c',hv,-⟩:=h.form
 simp only [Sl.v,Value.slice.injEq] at hv
 obtain ⟨rfl,rfl,rfl⟩:=hv
 go_enter Tryz.func138,Tryz.ntmps138
 go_wp2
 go_loopw [8] (fun i wr=>∃ k:Nat,k<=l.length/\i = .int .i64 k/\Hid (∀ j (hj:j<k) (hj':j<l.length),Ke id l[j]=false)/\Below w.heap.size w wr) (fun i _=>l.length - (intOf i).toNat)
 case atStart=>exact ⟨0,Nat.zero_le _,rfl,fun j hj=>absurd hj (by omega),Below.refl _ _⟩
 case round =>
  obtain ⟨k,hk,rfl,cI,hb⟩:=hrel
  by_cases aA:k<l.length
  ·obtain ⟨b,o,s',rfl,aH,hr,c0,c1,c2,c3,c4,c5,c6,c7⟩:=(h.below hb).run aA
   have hp1:=(hb.cell (p:=⟨p,0,none⟩) hp').trans hp
   have hs:=hb.size
   cases t1:Ke id l[k]
   ·have S:Hid (∀ j (hj:j<k+1) (hj':j<l.length),Ke id l[j]=false):=by
     intro j hj hj'
     by_cases e:j=k
     ·subst e;exact t1
     ·exact cI.out j (by omega) hj'
    go_wp2_with (go_at_call 139;refine (Q6 l[k] s' id p _ hp1 (by omega)).mono ?_;rintro e w1 ⟨rfl,aL⟩;simp only [t1])
    exact ⟨⟨k+1,by omega,by go_num,S,hb.trans (aL.mono hb.size)⟩,by simp [intOf];omega⟩
   ·have H:=Lib.hid (Gi aA (fun j hj=>cI.out j hj (by omega)) t1)
    go_wp2_with (go_at_call 139;refine (Q6 l[k] s' id p _ hp1 (by omega)).mono ?_;rintro e w1 ⟨rfl,aL⟩;simp only [t1])
    go_ret
    exact ⟨Bw (by rw [H.out]),hb.trans (aL.mono hb.size)⟩
  ·have H:=Lib.hid (Hc (p:=Ke id) (l:=l) (fun j hj=>cI.out j (by omega) hj))
   go_wp2
   go_ret
   exact ⟨Bw (by rw [H.out]),hb⟩
theorem C6 (y:Yard) (s:Sl×Sl) (id:Int) (w:World) (hl:Ai y<=2000000) (h:Ab.rd w w.heap.size y s) :
  Calls Tryz.prog 75 #[By y s,.int .i64 id] w fun e w'=>e = .returned (.int .i64 (Bo y id))/\Below w.heap.size w w':=by
 obtain ⟨s1,⟨A,n,c⟩⟩:=s
 have h1:RdL Am w w.heap.size (Sl.v ⟨A,n,c⟩) y.runs:=h.2
 obtain ⟨A',c',hv,-⟩:=h1.form
 simp only [Sl.v,Value.slice.injEq] at hv
 obtain ⟨rfl,rfl,rfl⟩:=hv
 have dI:y.runs.length<=2000000:=Nat.le_trans (Ar Bg _) (by unfold Ai at hl;omega)
 have D0:=DBox.new 31 [.int .i64 y.now,.int .i64 y.seq,.slice (s1,(⟨A,y.runs.length,c⟩:Sl)).1.a (s1,(⟨A,y.runs.length,c⟩:Sl)).1.n (s1,(⟨A,y.runs.length,c⟩:Sl)).1.c,.slice (s1,(⟨A,y.runs.length,c⟩:Sl)).2.a (s1,(⟨A,y.runs.length,c⟩:Sl)).2.n (s1,(⟨A,y.runs.length,c⟩:Sl)).2.c] w rfl
 have D:=D0.below ((Below.refl _ _).alloc (Nat.le_refl _) (.cells #[.int .i64 id] 3))
 have E:=DBox.new 3 [.int .i64 id] (w.alloc (.cells #[.int .i64 y.now,.int .i64 y.seq,.slice (s1,(⟨A,y.runs.length,c⟩:Sl)).1.a (s1,(⟨A,y.runs.length,c⟩:Sl)).1.n (s1,(⟨A,y.runs.length,c⟩:Sl)).1.c,.slice (s1,(⟨A,y.runs.length,c⟩:Sl)).2.a (s1,(⟨A,y.runs.length,c⟩:Sl)).2.n (s1,(⟨A,y.runs.length,c⟩:Sl)).2.c] 31)) (b:=w.heap.size+1) (by simp)
 have bU:Below w.heap.size w ((w.alloc (.cells #[.int .i64 y.now,.int .i64 y.seq,.slice (s1,(⟨A,y.runs.length,c⟩:Sl)).1.a (s1,(⟨A,y.runs.length,c⟩:Sl)).1.n (s1,(⟨A,y.runs.length,c⟩:Sl)).1.c,.slice (s1,(⟨A,y.runs.length,c⟩:Sl)).2.a (s1,(⟨A,y.runs.length,c⟩:Sl)).2.n (s1,(⟨A,y.runs.length,c⟩:Sl)).2.c] 31)).alloc (.cells #[.int .i64 id] 3)):=by repeat (first | exact Below.refl _ _ | refine Below.alloc ?_ (by simp<;>omega) _)
 clear D0
 by_cases h8:y.runs.length<=8
 case neg =>
  have H:=Lib.hid (Oc (id:=id) h8)
  go_enter Tryz.func75,Tryz.ntmps75
  go_wp2
  go_ret
  exact ⟨Bw H.out.symm,bU⟩
 have H:=Lib.hid (Jd (id:=id) h8)
 go_enter Tryz.func75,Tryz.ntmps75
 go_wp2_with fail
 generalize ((w.alloc (.cells #[.int .i64 y.now,.int .i64 y.seq,.slice (s1,(⟨A,y.runs.length,c⟩:Sl)).1.a (s1,(⟨A,y.runs.length,c⟩:Sl)).1.n (s1,(⟨A,y.runs.length,c⟩:Sl)).1.c,.slice (s1,(⟨A,y.runs.length,c⟩:Sl)).2.a (s1,(⟨A,y.runs.length,c⟩:Sl)).2.n (s1,(⟨A,y.runs.length,c⟩:Sl)).2.c] 31)).alloc (.cells #[.int .i64 id] 3))=W at *
 have e0:W.cell? ⟨w.heap.size+1,0,none⟩=some (.int .i64 id):=E.cell 0 _ rfl
 have el:=E.lt
 refine (Ux y.runs ⟨A,y.runs.length,c⟩ id (w.heap.size+1) _ dI ((h1.below bU).more bU.size) e0 el).mono ?_
 rintro e w1 ⟨rfl,aL⟩
 go_wp2
 go_ret
 exact ⟨Bw H.out.symm,Aa bU aL⟩
theorem Lv (a b:Nat) (ha:a<9223372036854775808) (hb:b<9223372036854775808):bits .xor .i64 (a:Int) (b:Int)=((a ^^^ b:Nat):Int):=by
 have hx:a ^^^ b<2 ^ 63:=Nat.xor_lt_two_pow (by omega) (by omega)
 have h1:(BitVec.ofInt 64 (a:Int)).toNat=a:=by
  rw [BitVec.ofInt_natCast,BitVec.toNat_ofNat];exact Nat.mod_eq_of_lt (by omega)
 have h2:(BitVec.ofInt 64 (b:Int)).toNat=b:=by
  rw [BitVec.ofInt_natCast,BitVec.toNat_ofNat];exact Nat.mod_eq_of_lt (by omega)
 show IntKind.i64.wrap ((BitVec.ofInt 64 (a:Int) ^^^ BitVec.ofInt 64 (b:Int)).toNat:Int)=_
 rw [BitVec.toNat_xor,h1,h2,IntKind.wrap_i64]
 generalize a ^^^ b=y at *
 have hy:y<9223372036854775808:=hx
 clear h1 h2 hx
 rw [Int.emod_eq_of_lt (by omega) (by omega),Int.add_sub_cancel]
def Hv (x:Nat):Nat:=if x % 2=1 then (x / 2) ^^^ 3988292384 else x / 2
def Ep:Nat->Nat->Nat
 | 0,x=>x
 | k+1,x=>Hv (Ep k x)
def Is (x:Nat) (b:UInt8):Nat:=Ep 8 (x ^^^ b.toNat)
def I1 (l:List UInt8):Int:=((l.foldl Is 4294967295 ^^^ 4294967295:Nat):Int)
theorem Yp {x:Nat} (h:x<4294967296):Hv x<4294967296:=by
 unfold Hv
 split
 ·exact Nat.xor_lt_two_pow (n:=32) (by omega) (by omega)
 ·omega
theorem Wg (k:Nat) {x:Nat} (h:x<4294967296):Ep k x<4294967296:=by
 induction k with
 | zero=>exact h
 | succ k ih=>exact Yp ih
theorem Yq {x:Nat} (h:x<4294967296) (b:UInt8):Is x b<4294967296:=by
 have hb:b.toNat<256:=b.toNat_lt
 exact Wg 8 (Nat.xor_lt_two_pow (n:=32) h (by omega))
theorem Yr (l:List UInt8):∀ {x:Nat},x<4294967296->l.foldl Is x<4294967296:=by
 induction l with
 | nil=>intro x h;exact h
 | cons b l ih=>intro x h;exact ih (Yq h b)
theorem Wh (l:List UInt8):0<=I1 l/\I1 l<=4294967295:=by
 have h:l.foldl Is 4294967295 ^^^ 4294967295<4294967296:=Nat.xor_lt_two_pow (n:=32) (Yr l (by omega)) (by omega)
 unfold I1
 omega
theorem Tb (l:List UInt8) (w:World) (hl:l.length<=2000000) :
  Calls Tryz.prog 101 #[Abz l] w fun e w'=>e = .returned (.int .i64 (I1 l))/\Below w.heap.size w w':=by
 have bE:(⟨l.toArray⟩:ByteArray).size=l.length:=by simp [ByteArray.size]
 go_enter Tryz.func101,Tryz.ntmps101
 go_wp2
 go_loopw [3,4] (fun s i wr=>∃ (x k:Nat),k<=l.length/\x<4294967296/\s = .int .i64 x/\i = .int .i64 k/\Hid ((l.take k).foldl Is 4294967295=x)/\Below w.heap.size w wr) (fun _ i _=>l.length - (intOf i).toNat)
 case atStart=>exact ⟨4294967295,0,Nat.zero_le _,by decide,rfl,rfl,by rw [List.take_zero];rfl,Below.refl _ _⟩
 case round =>
  obtain ⟨x,k,hk,hx,rfl,rfl,hF,hb⟩:=hrel
  by_cases aA:k<l.length
  ·have aB:(k:Int)<(l.length:Int):=by omega
   have hc:l[k].toNat<256:=l[k].toNat_lt
   have ex:=Lv x l[k].toNat (by omega) (by omega)
   have hX0:x ^^^ l[k].toNat<4294967296:=Nat.xor_lt_two_pow (n:=32) hx (by omega)
   have sN:bits .xor .i64 (x:Int) (wrap64 (((⟨l.toArray⟩:ByteArray)[k]'(by rw [bE];exact aA)).toNat:Int))=((x ^^^ l[k].toNat:Nat):Int):=by
    rw [<-ex]
    congr 1
    show wrap64 (l[k].toNat:Int)=_
    generalize l[k].toNat=q at *
    unfold wrap64
    omega
   have HF:=Lib.hid (show (l.take (k+1)).foldl Is 4294967295=Ep 8 (x ^^^ l[k].toNat) by
    rw [List.take_succ_eq_append_getElem aA,List.foldl_append,hF.out]
    rfl)
   clear hF
   go_wp2
   generalize x ^^^ l[k].toNat=z at *
   go_loopw [3,5] (fun s q wr=>∃ (y j:Nat),j<=8/\y<4294967296/\s = .int .i64 y/\q = .int .i64 j/\Hid (Ep j z=y)/\Below w.heap.size w wr) (fun _ q _=>8 - (intOf q).toNat)
   case atStart=>exact ⟨z,0,by omega,hX0,by first | rfl | rw [sN],rfl,rfl,hb⟩
   case round =>
    clear hb
    obtain ⟨y,j,hj,hy,rfl,rfl,hC,hb⟩:=hrel
    by_cases hj8:j<8
    ·have hj8I:(j:Int)<8:=by omega
     have eo:bits .xor .i64 ((y:Int) / 2) 3988292384=((y / 2 ^^^ 3988292384:Nat):Int):=by
      have:=Lv (y / 2) 3988292384 (by omega) (by omega)
      rw [<-this]
      congr 1<;>omega
     have aR:y / 2 ^^^ 3988292384<4294967296:=Nat.xor_lt_two_pow (n:=32) (by omega) (by omega)
     by_cases ho:y % 2=1
     ·have hoI:(y:Int) % 2=1:=by omega
      have HC:=Lib.hid (show Ep (j+1) z=y / 2 ^^^ 3988292384 by
       show Hv (Ep j z)=_
       rw [hC.out]
       unfold Hv
       rw [if_pos ho])
      clear ho hC
      go_wp2
      exact ⟨⟨_,j+1,by omega,aR,rfl,by go_num,HC,hb⟩,by simp [intOf];omega⟩
     ·have hoI:(y:Int) % 2=0:=by omega
      have HC:=Lib.hid (show Ep (j+1) z=y / 2 by
       show Hv (Ep j z)=_
       rw [hC.out]
       unfold Hv
       rw [if_neg ho])
      clear ho hC
      go_wp2
      exact ⟨⟨y / 2,j+1,by omega,by omega,by go_num,by go_num,HC,hb⟩,by simp [intOf];omega⟩
    ·have HE:=Lib.hid (show (l.take (k+1)).foldl Is 4294967295=y by
      rw [HF.out,<-hC.out,show j=8 by omega])
     have hj8I:¬ (j:Int)<8:=by omega
     clear hC HF
     go_wp2
     exact ⟨⟨y,k+1,by omega,hy,rfl,by go_num,HE,hb⟩,by simp [intOf];omega⟩
  ·have H:=Lib.hid (show I1 l=((x ^^^ 4294967295:Nat):Int) by
    have:=hF.out
    rw [List.take_of_length_le (by omega)] at this
    unfold I1
    rw [this])
   have ex:bits .xor .i64 (x:Int) 4294967295=((x ^^^ 4294967295:Nat):Int):=Lv x 4294967295 (by omega) (by omega)
   go_wp2
   go_ret
   exact ⟨by rw [H.out];rfl,hb⟩
theorem Tc (l:List UInt8) (w:World) (hl:l.length<=2000000) :
  Calls Tryz.prog 254 #[Abz l] w fun e w'=>e = .returned (.int .i64 (I1 l))/\Below w.heap.size w w':=by
 have bE:(⟨l.toArray⟩:ByteArray).size=l.length:=by simp [ByteArray.size]
 go_enter Tryz.func254,Tryz.ntmps254
 go_wp2
 go_loopw [3,4] (fun s i wr=>∃ (x k:Nat),k<=l.length/\x<4294967296/\s = .int .i64 x/\i = .int .i64 k/\Hid ((l.take k).foldl Is 4294967295=x)/\Below w.heap.size w wr) (fun _ i _=>l.length - (intOf i).toNat)
 case atStart=>exact ⟨4294967295,0,Nat.zero_le _,by decide,rfl,rfl,by rw [List.take_zero];rfl,Below.refl _ _⟩
 case round =>
  obtain ⟨x,k,hk,hx,rfl,rfl,hF,hb⟩:=hrel
  by_cases aA:k<l.length
  ·have aB:(k:Int)<(l.length:Int):=by omega
   have hc:l[k].toNat<256:=l[k].toNat_lt
   have ex:=Lv x l[k].toNat (by omega) (by omega)
   have hX0:x ^^^ l[k].toNat<4294967296:=Nat.xor_lt_two_pow (n:=32) hx (by omega)
   have sN:bits .xor .i64 (x:Int) (wrap64 (((⟨l.toArray⟩:ByteArray)[k]'(by rw [bE];exact aA)).toNat:Int))=((x ^^^ l[k].toNat:Nat):Int):=by
    rw [<-ex]
    congr 1
    show wrap64 (l[k].toNat:Int)=_
    generalize l[k].toNat=q at *
    unfold wrap64
    omega
   have HF:=Lib.hid (show (l.take (k+1)).foldl Is 4294967295=Ep 8 (x ^^^ l[k].toNat) by
    rw [List.take_succ_eq_append_getElem aA,List.foldl_append,hF.out]
    rfl)
   clear hF
   go_wp2
   generalize x ^^^ l[k].toNat=z at *
   go_loopw [3,5] (fun s q wr=>∃ (y j:Nat),j<=8/\y<4294967296/\s = .int .i64 y/\q = .int .i64 j/\Hid (Ep j z=y)/\Below w.heap.size w wr) (fun _ q _=>8 - (intOf q).toNat)
   case atStart=>exact ⟨z,0,by omega,hX0,by first | rfl | rw [sN],rfl,rfl,hb⟩
   case round =>
    clear hb
    obtain ⟨y,j,hj,hy,rfl,rfl,hC,hb⟩:=hrel
    by_cases hj8:j<8
    ·have hj8I:(j:Int)<8:=by omega
     have eo:bits .xor .i64 ((y:Int) / 2) 3988292384=((y / 2 ^^^ 3988292384:Nat):Int):=by
      have:=Lv (y / 2) 3988292384 (by omega) (by omega)
      rw [<-this]
      congr 1<;>omega
     have aR:y / 2 ^^^ 3988292384<4294967296:=Nat.xor_lt_two_pow (n:=32) (by omega) (by omega)
     by_cases ho:y % 2=1
     ·have hoI:(y:Int) % 2=1:=by omega
      have HC:=Lib.hid (show Ep (j+1) z=y / 2 ^^^ 3988292384 by
       show Hv (Ep j z)=_
       rw [hC.out]
       unfold Hv
       rw [if_pos ho])
      clear ho hC
      go_wp2
      exact ⟨⟨_,j+1,by omega,aR,rfl,by go_num,HC,hb⟩,by simp [intOf];omega⟩
     ·have hoI:(y:Int) % 2=0:=by omega
      have HC:=Lib.hid (show Ep (j+1) z=y / 2 by
       show Hv (Ep j z)=_
       rw [hC.out]
       unfold Hv
       rw [if_neg ho])
      clear ho hC
      go_wp2
      exact ⟨⟨y / 2,j+1,by omega,by omega,by go_num,by go_num,HC,hb⟩,by simp [intOf];omega⟩
    ·have HE:=Lib.hid (show (l.take (k+1)).foldl Is 4294967295=y by
      rw [HF.out,<-hC.out,show j=8 by omega])
     have hj8I:¬ (j:Int)<8:=by omega
     clear hC HF
     go_wp2
     exact ⟨⟨y,k+1,by omega,hy,rfl,by go_num,HE,hb⟩,by simp [intOf];omega⟩
  ·have H:=Lib.hid (show I1 l=((x ^^^ 4294967295:Nat):Int) by
    have:=hF.out
    rw [List.take_of_length_le (by omega)] at this
    unfold I1
    rw [this])
   have ex:bits .xor .i64 (x:Int) 4294967295=((x ^^^ 4294967295:Nat):Int):=Lv x 4294967295 (by omega) (by omega)
   go_wp2
   go_ret
   exact ⟨by rw [H.out];rfl,hb⟩
theorem Td (l l':List Edge) (s s':Sl) (w:World) (hl:l.length<=2000000) (hl':l'.length<=2000000) (h:RdL Ct w w.heap.size s.v l) (h':RdL Ct w w.heap.size s'.v l') :
  Calls Tryz.prog 223 #[.slice s.a s.n s.c,.slice s'.a s'.n s'.c] w fun e w'=>e = .returned (.bool (decide (l=l')))/\Below w.heap.size w w':=by
 obtain ⟨A,n,c⟩:=s
 obtain ⟨A',n',c'⟩:=s'
 obtain ⟨A1,e1,hv,-⟩:=h.form
 obtain ⟨A2,e2,rN,-⟩:=h'.form
 simp only [Sl.v,Value.slice.injEq] at hv rN
 obtain ⟨rfl,rfl,rfl⟩:=hv
 obtain ⟨rfl,rfl,rfl⟩:=rN
 by_cases aC:l.length=l'.length
 ·have bU:((l.length:Int) != (l'.length:Int))=false:=by simp [aC]
  have Hne:=Lib.hid aC
  clear aC
  go_enter Tryz.func223,Tryz.ntmps223
  go_wp2
  go_loopw [13] (fun i wr=>∃ k:Nat,k<=l.length/\i = .int .i64 k/\Hid (l.take k=l'.take k)/\Below w.heap.size w wr) (fun i _=>l.length - (intOf i).toNat)
  case atStart=>exact ⟨0,Nat.zero_le _,rfl,rfl,Below.refl _ _⟩
  case round =>
   obtain ⟨k,hk,rfl,jE,hb⟩:=hrel
   by_cases aA:k<l.length
   ·have eJ:k<l'.length:=by rw [<-Hne.out];exact aA
    obtain ⟨b,o,_,rfl,aH,_,c0,c1⟩:=(h.below hb).edge aA
    obtain ⟨b',o',_,rfl,bI,_,d0,d1⟩:=(h'.below hb).edge eJ
    have i1:(k:Int)<(l.length:Int):=by omega
    have i2:(k:Int)<(l'.length:Int):=by omega
    have no:l[k]≠l'[k]->Hid (decide (l=l')=false):=fun hx=>by
     show decide (l=l')=false
     simp only [decide_eq_false_iff_not]
     intro e
     subst e
     exact hx rfl
    by_cases h0:l[k].fr=l'[k].fr
    case neg =>
     have t0:(l[k].fr == l'[k].fr)=false:=beq_eq_false_iff_ne.2 h0
     have H:=no (fun e=>h0 (by rw [e]))
     clear h0 no
     go_wp2
     go_quiet (fail)
     go_wp2
     go_ret
     exact ⟨Ac H.out.symm,Ao hb _⟩
    rw [<-h0] at d0
    have H0:=Lib.hid h0
    clear h0
    by_cases h1:l[k].to=l'[k].to
    case neg =>
     have t1:(l[k].to == l'[k].to)=false:=beq_eq_false_iff_ne.2 h1
     have H:=no (fun e=>h1 (by rw [e]))
     clear h1 no
     go_wp2
     go_quiet (fail)
     go_wp2
     go_ret
     exact ⟨Ac H.out.symm,Ao hb _⟩
    rw [<-h1] at d1
    have H1:=Lib.hid h1
    clear h1
    have S:Hid (l.take (k+1)=l'.take (k+1)):=by
     show l.take (k+1)=l'.take (k+1)
     have hx:l[k]=l'[k]:=by
      have g0:=H0.out ;have g1:=H1.out
      revert g0 g1
      cases l[k];cases l'[k]
      simp only
      rintro rfl;rintro rfl;rfl
     rw [Ay l k aA,Ay l' k eJ,jE.out,hx]
    clear no
    go_wp2
    go_quiet (fail)
    go_wp2
    exact ⟨⟨k+1,by omega,by go_num,S,Ao hb _⟩,by simp [intOf];omega⟩
   ·go_wp2
    go_ret
    refine ⟨Ac ?_,hb⟩
    have h1:=jE.out
    rw [List.take_of_length_le (by omega),List.take_of_length_le (by rw [<-Hne.out];omega)] at h1
    simp [h1]
 ·have bU:((l.length:Int) != (l'.length:Int))=true:=by simp;omega
  go_enter Tryz.func223,Tryz.ntmps223
  go_wp2
  go_ret
  refine ⟨Ac ?_,Below.refl _ _⟩
  simp only [Bool.false_eq,decide_eq_false_iff_not]
  intro e
  exact aC (by rw [e])
theorem Uy (x y:Plan) (s r:Sl) (w:World) (hl:C8 x<=2000000) (hl':C8 y<=2000000) (h:Ag.rd w w.heap.size x s) (h':Ag.rd w w.heap.size y r) :
  Calls Tryz.prog 161 #[Hi x s,Hi y r] w fun e w'=>e = .returned (.bool (decide (x=y)))/\Below w.heap.size w w':=by
 have cX:∀ W,Below w.heap.size w W->Ag.rd W W.heap.size x s:=fun W hW=>Ag.rd_more (Ag.rd_below h hW) hW.size
 have cK:∀ W,Below w.heap.size w W->Ag.rd W W.heap.size y r:=fun W hW=>Ag.rd_more (Ag.rd_below h' hW) hW.size
 have no:∀ {P:Prop},(x=y->P) -> ¬ P->Hid (decide (x=y)=false):=fun f g=>decide_eq_false (fun e=>g (f e))
 have a1:Below w.heap.size w (w.alloc (.cells #[.int .i64 x.prio,.int .i64 x.most,.int .i64 x.wait,.int .i64 x.tasks,.slice s.a s.n s.c] 43)):=(Below.refl _ _).alloc (Nat.le_refl _) _
 have a2:Below (w.alloc (.cells #[.int .i64 x.prio,.int .i64 x.most,.int .i64 x.wait,.int .i64 x.tasks,.slice s.a s.n s.c] 43)).heap.size (w.alloc (.cells #[.int .i64 x.prio,.int .i64 x.most,.int .i64 x.wait,.int .i64 x.tasks,.slice s.a s.n s.c] 43)) ((w.alloc (.cells #[.int .i64 x.prio,.int .i64 x.most,.int .i64 x.wait,.int .i64 x.tasks,.slice s.a s.n s.c] 43)).alloc (.cells #[.int .i64 y.prio,.int .i64 y.most,.int .i64 y.wait,.int .i64 y.tasks,.slice r.a r.n r.c] 43)):=(Below.refl _ _).alloc (Nat.le_refl _) _
 have X:=(DBox.new 43 [.int .i64 x.prio,.int .i64 x.most,.int .i64 x.wait,.int .i64 x.tasks,.slice s.a s.n s.c] w rfl).below a2
 have Y:=DBox.new 43 [.int .i64 y.prio,.int .i64 y.most,.int .i64 y.wait,.int .i64 y.tasks,.slice r.a r.n r.c] (w.alloc (.cells #[.int .i64 x.prio,.int .i64 x.most,.int .i64 x.wait,.int .i64 x.tasks,.slice s.a s.n s.c] 43)) (b:=w.heap.size+1) (by simp)
 have B0:=Aa a1 a2
 clear a1 a2
 by_cases h0:x.prio=y.prio
 case neg =>
  have t0:(x.prio == y.prio)=false:=beq_eq_false_iff_ne.2 h0
  have H:=no (fun e=>by rw [e]) h0
  clear h0 no cX cK
  go_enter Tryz.func161,Tryz.ntmps161
  go_wp2
  go_ret
  exact ⟨Ac H.out.symm,B0⟩
 have t0:(x.prio == y.prio)=true:=by simp [h0]
 have H0:=Lib.hid h0
 clear h0
 by_cases h1:x.most=y.most
 case neg =>
  have t1:(x.most == y.most)=false:=beq_eq_false_iff_ne.2 h1
  have H:=no (fun e=>by rw [e]) h1
  clear h1 no cX cK
  go_enter Tryz.func161,Tryz.ntmps161
  go_wp2
  go_ret
  exact ⟨Ac H.out.symm,B0⟩
 have t1:(x.most == y.most)=true:=by simp [h1]
 have H1:=Lib.hid h1
 clear h1
 by_cases h2:x.wait=y.wait
 case neg =>
  have t2:(x.wait == y.wait)=false:=beq_eq_false_iff_ne.2 h2
  have H:=no (fun e=>by rw [e]) h2
  clear h2 no cX cK
  go_enter Tryz.func161,Tryz.ntmps161
  go_wp2
  go_ret
  exact ⟨Ac H.out.symm,B0⟩
 have t2:(x.wait == y.wait)=true:=by simp [h2]
 have H2:=Lib.hid h2
 clear h2
 by_cases h3:x.tasks=y.tasks
 case neg =>
  have t3:(x.tasks == y.tasks)=false:=beq_eq_false_iff_ne.2 h3
  have H:=no (fun e=>by rw [e]) h3
  clear h3 no cX cK
  go_enter Tryz.func161,Tryz.ntmps161
  go_wp2
  go_ret
  exact ⟨Ac H.out.symm,B0⟩
 have t3:(x.tasks == y.tasks)=true:=by simp [h3]
 have H3:=Lib.hid h3
 clear h3
 go_enter Tryz.func161,Tryz.ntmps161
 go_wp2_with fail
 generalize ((w.alloc (.cells #[.int .i64 x.prio,.int .i64 x.most,.int .i64 x.wait,.int .i64 x.tasks,.slice s.a s.n s.c] 43)).alloc (.cells #[.int .i64 y.prio,.int .i64 y.most,.int .i64 y.wait,.int .i64 y.tasks,.slice r.a r.n r.c] 43))=w0 at *
 refine (Td x.edges y.edges s r _ (Nat.le_trans (Ar Dy _) (by unfold C8 at hl;omega)) (Nat.le_trans (Ar Dy _) (by unfold C8 at hl';omega)) (cX _ B0) (cK _ B0)).mono ?_
 rintro e w1 ⟨rfl,b1⟩
 replace X:=X.below b1
 replace Y:=Y.below b1
 replace B0:=Aa B0 b1
 have u0:=X.cell 0 _ rfl
 have v0:=Y.cell 0 _ rfl
 have u1:=X.cell 1 _ rfl
 have v1:=Y.cell 1 _ rfl
 have u2:=X.cell 2 _ rfl
 have v2:=Y.cell 2 _ rfl
 have u3:=X.cell 3 _ rfl
 have v3:=Y.cell 3 _ rfl
 have u4:=X.cell 4 _ rfl
 have v4:=Y.cell 4 _ rfl
 have us:=X.lt
 have vs:=Y.lt
 by_cases h4:x.edges=y.edges
 case neg =>
  have t4:decide (x.edges=y.edges)=false:=decide_eq_false h4
  have H:=no (fun e=>by rw [e]) h4
  rw [t4]
  clear h4 no cX cK t4
  go_wp2
  go_ret
  exact ⟨Ac H.out.symm,B0⟩
 have t4:decide (x.edges=y.edges)=true:=decide_eq_true h4
 rw [t4]
 have H4:=Lib.hid h4
 clear h4 t4 b1
 have H:Hid (decide (x=y)=true):=decide_eq_true (by
  have e0:=H0.out ;have e1:=H1.out ;have e2:=H2.out ;have e3:=H3.out ;have e4:=H4.out
  cases x
  cases y
  simp only at e0 e1 e2 e3 e4
  subst e0 e1 e2 e3 e4
  rfl)
 clear no cX cK
 go_wp2
 go_ret
 exact ⟨Ac H.out.symm,B0⟩
noncomputable def tf (p:Prop):Bool:=@decide p (Classical.propDecidable p)
theorem Bs {p:Prop} (h:p):tf p=true:=by unfold tf;exact @decide_eq_true p (Classical.propDecidable p) h
theorem Al {p:Prop} (h:¬ p):tf p=false:=by unfold tf;exact @decide_eq_false p (Classical.propDecidable p) h
theorem J0 {p:Prop} : tf p=true ↔ p:=by
 constructor
 ·intro h
  by_cases hp:p
  ·exact hp
  ·rw [Al hp] at h;cases h
 ·exact Bs
theorem Abd {p q:Prop} (h:p ↔ q):tf p=tf q:=by
 by_cases hp:p
 ·rw [Bs hp,Bs (h.1 hp)]
 ·rw [Al hp,Al (fun hq=>hp (h.2 hq))]
def Db (a b:Entry):Bool:=decide (b.prio<a.prio) || ((a.prio == b.prio) && decide (a.seq<b.seq))
def Fd (l:List Entry):Prop:=l.length<=80 /\ ∀ i (h:i+1<l.length),Db l[i] l[i+1]=true
def Ax (r:Run) (k:Nat):Task:=r.tasks.getD k ⟨0,0,0,0⟩
theorem Aw {r:Run} {k:Nat} (h:k<r.tasks.length):Ax r k=r.tasks[k]:=by unfold Ax;rw [List.getD_eq_getElem?_getD,List.getElem?_eq_getElem h];rfl
def Fe (r:Run) (l:List Nat):Nat:=(l.filter fun b=>(Ax r b).state != 4).length
def Ge (r:Run) (t:Nat):Nat:=Fe r (Cf (Ca r.plan) r.plan.tasks.toNat t)
theorem Lw (r:Run) (l:List Nat):Fe r l<=l.length:=List.length_filter_le _ _
theorem Q7 {r:Run} {l:List Nat} {k:Nat} (hk:k<l.length) (h:(Ax r l[k]).state≠4):Fe r (l.take (k+1))=Fe r (l.take k)+1:=by
 unfold Fe
 rw [Ay l k hk,List.filter_append,List.length_append,List.filter_cons,if_pos (by simpa using h)]
 rfl
theorem Tv {r:Run} {l:List Nat} {k:Nat} (hk:k<l.length) (h:(Ax r l[k]).state=4):Fe r (l.take (k+1))=Fe r (l.take k):=by
 unfold Fe
 rw [Ay l k hk,List.filter_append,List.length_append,List.filter_cons,if_neg (by simp [h])]
 rfl
def Lm (x:Task) (N:Nat) (most:Int):Prop :=
 (1<=x.state/\x.state<=6)/\x.need=N/\(0<=x.try_/\x.try_<=most)/\(x.state=3->1<=x.until_/\x.until_<=1000000000)/\(x.state≠3->x.until_=0) /\
 (x.state=1->0<x.need)/\(x.state=2->x.need=0/\x.try_<most)/\(x.state=3\/x.state=4\/x.state=5->x.need=0/\1<=x.try_)
def Ev (r:Run) (t:Nat):Prop:=Lm (Ax r t) (Ge r t) r.plan.most
def Bx (l:List Task) (s:Int):Nat:=(l.filter fun x=>x.state == s).length
theorem Lx (l:List Task) (s:Int):Bx l s<=l.length:=List.length_filter_le _ _
theorem Tw (l:List Task) (x:Task) (s:Int):Bx (l ++ [x]) s=Bx l s+if x.state=s then 1 else 0:=by
 unfold Bx
 rw [List.filter_append,List.length_append]
 congr 1
 by_cases h:x.state=s<;>simp [h]
theorem Wi {l:List Task} {s:Int} {k:Nat} (hk:k<l.length) (h:l[k].state=s):Bx (l.take (k+1)) s=Bx (l.take k) s+1:=by
 rw [Ay l k hk,Tw,if_pos h]
theorem Zl {l:List Task} {s:Int} {k:Nat} (hk:k<l.length) (h:¬ l[k].state=s):Bx (l.take (k+1)) s=Bx (l.take k) s:=by
 rw [Ay l k hk,Tw,if_neg h,Nat.add_zero]
def Iz (l:List Task):Nat:=Bx l 1+Bx l 2+Bx l 3
theorem Abe {l:List Task} (h:∀ x∈l,1<=x.state/\x.state<=6):Iz l+Bx l 4+Bx l 5+Bx l 6=l.length:=by
 unfold Iz
 induction l with
 | nil=>rfl
 | cons x l ih =>
  have h1:=ih (fun y hy=>h y (List.mem_cons_of_mem _ hy))
  have hx:=h x (List.mem_cons_self ..)
  have hc:∀ s,Bx (x :: l) s=(if x.state=s then 1 else 0)+Bx l s:=by
   intro s
   unfold Bx
   by_cases h:x.state=s<;>simp [h]
   omega
  simp only [hc,List.length_cons]
  rcases (show x.state=1\/x.state=2\/x.state=3\/x.state=4\/x.state=5\/x.state=6 by omega) with e | e | e | e | e | e<;>simp [e]<;>omega
def stL (l:List Task):Int :=
 if Bx l 4=l.length then 2 else if Bx l 5=1/\Iz l=0 then 3 else if Bx l 5=0/\0<Bx l 6/\Iz l=0 then 4 else if Bx l 5=0/\Bx l 6=0 then 1 else 0
def Er (r:Run):Prop :=
 (1<=r.id/\r.id<=9999)/\Aq r.plan=0/\(r.tasks.length:Int)=r.plan.tasks/\(∀ t,t<r.tasks.length->Ev r t)/\r.state=stL r.tasks/\r.state≠0
def Ah (y:Yard):List Entry:=y.shelf.flatten
def H8 (y:Yard) (id:Int):Run:=y.runs.getD (Bo y id).toNat ⟨0,⟨0,0,0,0,[]⟩,0,[]⟩
theorem Dr {y:Yard} {id:Int} {k:Nat} (hk:k<y.runs.length) (h:Bo y id=k):H8 y id=y.runs[k]:=by
 unfold H8
 rw [h,Int.toNat_natCast,List.getD_eq_getElem?_getD,List.getElem?_eq_getElem hk]
 rfl
def Q8 (y:Yard) (e:Entry):Prop:=0<=Bo y e.run/\(0<=e.task/\e.task<(H8 y e.run).tasks.length)/\(Ax (H8 y e.run) e.task.toNat).state=2
noncomputable def Cy (y:Yard) (e:Entry):Bool:=tf (Q8 y e)
def Es (l:List Run):Nat:=((l.filter fun r=>r.state == 1).map fun r=>r.tasks.length).sum
noncomputable def D4 (y:Yard) (l:List Entry):Nat:=(l.filter fun e=>!Cy y e).length
noncomputable def D9 (y:Yard):Nat:=Es y.runs+D4 y (Ah y)
def H9 (id:Int) (t:Nat) (e:Entry):Bool:=(e.run == id) && (e.task == (t:Int))
def G8 (id:Int) (t:Nat) (l:List Entry):Nat:=(l.filter (H9 id t)).length
def Mi (now:Int) (r:Run) (es:List Entry) (t:Nat):Prop :=
 ((Ax r t).state=2->(∀ e∈es,H9 r.id t e=true->e.prio=r.plan.prio)/\G8 r.id t es=1)/\((Ax r t).state=3->now+1<=(Ax r t).until_/\(Ax r t).until_<=now+r.plan.wait)
def Ie (now:Int) (r:Run) (es:List Entry):Prop:=∀ t,t<r.tasks.length->Mi now r es t
def Bq (y:Yard):Prop :=
 (0<=y.now/\y.now<=999999980)/\(1<=y.seq/\y.seq<=1000000000)/\y.shelf.length=4/\(∀ l∈y.shelf,Fd l)/\(∀ e∈Ah y,1<=e.seq/\e.seq<=y.seq - 1)/\((Ah y).map (·.seq)).Nodup /\
 y.runs.length<=8/\(∀ k (h:k<y.runs.length),Er y.runs[k]/\Bo y y.runs[k].id=k)/\(∀ r∈y.runs,Ie y.now r (Ah y))/\D9 y<=40
theorem Q9 {y:Yard} {l:List Entry} {k:Nat} (hk:k<l.length) (h:Cy y l[k]=false):D4 y (l.take (k+1))=D4 y (l.take k)+1:=by
 unfold D4
 rw [Ay l k hk,List.filter_append,List.length_append,List.filter_cons,if_pos (by simp [h])]
 rfl
theorem Tx {y:Yard} {l:List Entry} {k:Nat} (hk:k<l.length) (h:Cy y l[k]=true):D4 y (l.take (k+1))=D4 y (l.take k):=by
 unfold D4
 rw [Ay l k hk,List.filter_append,List.length_append,List.filter_cons,if_neg (by simp [h])]
 rfl
theorem Ly (y:Yard) (l:List Entry):D4 y l<=l.length:=List.length_filter_le _ _
theorem Mj (y:Yard) (l l':List Entry):D4 y (l ++ l')=D4 y l+D4 y l':=by
 unfold D4
 rw [List.filter_append,List.length_append]
theorem Ty {id:Int} {t:Nat} {l:List Entry} {k:Nat} (hk:k<l.length) (h:H9 id t l[k]=true):G8 id t (l.take (k+1))=G8 id t (l.take k)+1:=by
 unfold G8
 rw [Ay l k hk,List.filter_append,List.length_append,List.filter_cons,if_pos h]
 rfl
theorem Wj {id:Int} {t:Nat} {l:List Entry} {k:Nat} (hk:k<l.length) (h:H9 id t l[k]=false):G8 id t (l.take (k+1))=G8 id t (l.take k):=by
 unfold G8
 rw [Ay l k hk,List.filter_append,List.length_append,List.filter_cons,if_neg (by simp [h])]
 rfl
theorem Wk (id:Int) (t:Nat) (l:List Entry):G8 id t l<=l.length:=List.length_filter_le _ _
theorem Ra {l:List Run} {k:Nat} (hk:k<l.length) (h:l[k].state=1):Es (l.take (k+1))=Es (l.take k)+l[k].tasks.length:=by
 unfold Es
 rw [Ay l k hk,List.filter_append,List.map_append,List.sum_append,List.filter_cons,if_pos (by simp [h])]
 simp
theorem Tz {l:List Run} {k:Nat} (hk:k<l.length) (h:¬ l[k].state=1):Es (l.take (k+1))=Es (l.take k):=by
 unfold Es
 rw [Ay l k hk,List.filter_append,List.map_append,List.sum_append,List.filter_cons,if_neg (by simp [h])]
 simp
theorem Aaa (l:List Run):Es l<=(l.map fun r=>r.tasks.length).sum:=by
 unfold Es
 induction l with
 | nil=>simp
 | cons r l ih =>
  rw [List.filter_cons]
  split
  ·simp only [List.map_cons,List.sum_cons];omega
  ·simp only [List.map_cons,List.sum_cons];omega
theorem Gf {w:World} {B:Nat} {v:Value} {l:List Edge} (h:RdL Ct w B v l):Rd Ei w B v l:=by
 obtain ⟨rs,rfl,⟨A,c,rfl,hc,hA⟩,_⟩:=h
 refine ⟨A,c,by rw [List.length_map],by rw [List.length_map];exact hc,fun hl=>?_⟩
 rw [List.length_map] at hl
 obtain ⟨b,o,h1,h2,h3⟩:=hA hl
 refine ⟨b,o,h1,h2,fun k hk j u hu=>?_⟩
 rw [List.getElem_map] at hu
 exact h3 k (by rw [List.length_map] at hk;exact hk) j u hu
theorem Wl (w:World):∀ l:List Edge,Ows Ct w [] (l.map fun x=>(x,()))
 | []=>.nil
 | x :: l=>by
  have:=Ows.cons (d:=Ct) (w:=w) (F:=[]) (r:=(x,())) rfl (Wl w l)
  exact this
theorem Ab0 {w:World} {E:TypeId} {base:Nat} {v:Value} {l:List Edge} (h:Ow Ei E w base v l):∃ (s:Sl) (F:List Nat),v = .slice s.a s.n s.c/\OwL Ct w F s.v l /\ ∀ b∈F,base<=b:=by
 obtain ⟨h1,h2⟩:=Hw.of_ow h
 obtain ⟨⟨A,c,hv,hc,hA⟩,hF,hf⟩:=id h1
 subst hv
 refine ⟨⟨A,l.length,c⟩,_,rfl,⟨l.map fun x=>(x,()),Cm (.slice A l.length c) l.length,[],by rw [List.map_map];exact List.map_id _,⟨⟨A,c,by rw [List.length_map],by rw [List.length_map];exact hc,fun hl=>?_⟩,by rw [List.length_map],hf⟩,Wl w l,(List.append_nil _).symm,h1.nodup⟩,h2⟩
 rw [List.length_map] at hl
 obtain ⟨b,o,h3,h4,h5⟩:=hA hl
 refine ⟨b,o,h3,h4,fun k hk j u hu=>?_⟩
 rw [List.getElem_map] at hu
 exact h5 k (by rw [List.length_map] at hk;exact hk) j u hu
theorem O3 {x:Plan} {w:World} {e:Ending} {w':World} (h:M0 x w e w'):Cj Ag Hi x w e w':=by
 obtain ⟨v,rfl,h1,h2⟩:=h
 obtain ⟨s,F,rfl,h3,h4⟩:=Ab0 h1
 exact ⟨s,F,rfl,h3,h4,h2⟩
theorem Kf (x:Plan) (s:Sl) (w:World) (hl:C8 x<=2000000) (h:Ag.rd w w.heap.size x s) :
  Calls Tryz.prog 184 #[Hi x s] w (Cj Ag Hi x w) :=
 (Us x s.v w (Nat.le_trans (Ar _ _) hl) (Gf h)).mono fun _ _=>O3
theorem Kg (x:Plan) (s:Sl) (w:World) (hl:C8 x<=2000000) (h:Ag.rd w w.heap.size x s) :
  Calls Tryz.prog 157 #[Hi x s] w (Cj Ag Hi x w) :=
 (Ut x s.v w (Nat.le_trans (Ar _ _) hl) (Gf h)).mono fun _ _=>O3
theorem Bld.push1 {α:Type} {d:Dt α} {E:TypeId} {w w1 w2 w5:World} {base:Nat} {v v5:Value} {rs:List (α×d.S)} {x:α} {s:d.S} {F:List Nat} (h:Bld d E w base v rs) (hb:Below w.heap.size w w1) (o1:d.ow w1 F x s) (n1:∀ b∈F,w.heap.size<=b)
  (aS:base<=w.heap.size) (aF:Below w1.heap.size w1 w2) (o5:Ow d.enc E w5 base v5 (rs ++ [(x,s)])) (g5:w2.grownBy w5 v.ownBlock) (f5:v5.ownBlock=v.ownBlock\/v5.ownBlock=some w2.heap.size):Bld d E w5 base v5 (rs ++ [(x,s)]):=by
 refine Bld.push h (Aa hb aF) (Ows.one (r:=(x,s)) (d.ow_below o1 aF)) n1 (d.ow_nodup o1) aS o5 g5 ?_
 rcases f5 with f5 | f5
 ·exact .inl f5
 ·exact .inr ⟨_,f5,Nat.le_refl _⟩
def Bls {α:Type} (d:Dt α) (E:TypeId) (w:World) (base:Nat) (v:Value) (l:List α):Prop:=∃ rs,rs.map (·.1)=l/\Bld d E w base v rs
theorem Uz (x y:Deed) (s r:Sl) (w:World) (hl:Ce x<=2000000) (hl':Ce y<=2000000) (h:Be.rd w w.heap.size x s) (h':Be.rd w w.heap.size y r) :
  Calls Tryz.prog 105 #[Bm x s,Bm y r] w fun e w'=>e = .returned (.bool (decide (x=y)))/\Below w.heap.size w w':=by
 have cX:∀ W,Below w.heap.size w W->Be.rd W W.heap.size x s:=fun W hW=>Be.rd_more (Be.rd_below h hW) hW.size
 have cK:∀ W,Below w.heap.size w W->Be.rd W W.heap.size y r:=fun W hW=>Be.rd_more (Be.rd_below h' hW) hW.size
 have no:∀ {P:Prop},(x=y->P) -> ¬ P->Hid (decide (x=y)=false):=fun f g=>decide_eq_false (fun e=>g (f e))
 have a1:Below w.heap.size w (w.alloc (.cells #[.int .i64 x.kind,.int .i64 x.run,.int .i64 x.plan.prio,.int .i64 x.plan.most,.int .i64 x.plan.wait,.int .i64 x.plan.tasks,.slice s.a s.n s.c,.int .i64 x.task,.int .i64 x.try_,.int .i64 x.worker,.int .i64 x.draw] 45)):=(Below.refl _ _).alloc (Nat.le_refl _) _
 have a2:Below (w.alloc (.cells #[.int .i64 x.kind,.int .i64 x.run,.int .i64 x.plan.prio,.int .i64 x.plan.most,.int .i64 x.plan.wait,.int .i64 x.plan.tasks,.slice s.a s.n s.c,.int .i64 x.task,.int .i64 x.try_,.int .i64 x.worker,.int .i64 x.draw] 45)).heap.size (w.alloc (.cells #[.int .i64 x.kind,.int .i64 x.run,.int .i64 x.plan.prio,.int .i64 x.plan.most,.int .i64 x.plan.wait,.int .i64 x.plan.tasks,.slice s.a s.n s.c,.int .i64 x.task,.int .i64 x.try_,.int .i64 x.worker,.int .i64 x.draw] 45)) ((w.alloc (.cells #[.int .i64 x.kind,.int .i64 x.run,.int .i64 x.plan.prio,.int .i64 x.plan.most,.int .i64 x.plan.wait,.int .i64 x.plan.tasks,.slice s.a s.n s.c,.int .i64 x.task,.int .i64 x.try_,.int .i64 x.worker,.int .i64 x.draw] 45)).alloc (.cells #[.int .i64 y.kind,.int .i64 y.run,.int .i64 y.plan.prio,.int .i64 y.plan.most,.int .i64 y.plan.wait,.int .i64 y.plan.tasks,.slice r.a r.n r.c,.int .i64 y.task,.int .i64 y.try_,.int .i64 y.worker,.int .i64 y.draw] 45)):=(Below.refl _ _).alloc (Nat.le_refl _) _
 have X:=(DBox.new 45 [.int .i64 x.kind,.int .i64 x.run,.int .i64 x.plan.prio,.int .i64 x.plan.most,.int .i64 x.plan.wait,.int .i64 x.plan.tasks,.slice s.a s.n s.c,.int .i64 x.task,.int .i64 x.try_,.int .i64 x.worker,.int .i64 x.draw] w rfl).below a2
 have Y:=DBox.new 45 [.int .i64 y.kind,.int .i64 y.run,.int .i64 y.plan.prio,.int .i64 y.plan.most,.int .i64 y.plan.wait,.int .i64 y.plan.tasks,.slice r.a r.n r.c,.int .i64 y.task,.int .i64 y.try_,.int .i64 y.worker,.int .i64 y.draw] (w.alloc (.cells #[.int .i64 x.kind,.int .i64 x.run,.int .i64 x.plan.prio,.int .i64 x.plan.most,.int .i64 x.plan.wait,.int .i64 x.plan.tasks,.slice s.a s.n s.c,.int .i64 x.task,.int .i64 x.try_,.int .i64 x.worker,.int .i64 x.draw] 45)) (b:=w.heap.size+1) (by simp)
 have B0:=Aa a1 a2
 clear a1 a2
 by_cases h0:x.kind=y.kind
 case neg =>
  have t0:(x.kind == y.kind)=false:=beq_eq_false_iff_ne.2 h0
  have H:=no (fun e=>by rw [e]) h0
  clear h0 no cX cK
  go_enter Tryz.func105,Tryz.ntmps105
  go_wp2
  go_ret
  exact ⟨Ac H.out.symm,B0⟩
 have t0:(x.kind == y.kind)=true:=by simp [h0]
 have H0:=Lib.hid h0
 clear h0
 by_cases h1:x.run=y.run
 case neg =>
  have t1:(x.run == y.run)=false:=beq_eq_false_iff_ne.2 h1
  have H:=no (fun e=>by rw [e]) h1
  clear h1 no cX cK
  go_enter Tryz.func105,Tryz.ntmps105
  go_wp2
  go_ret
  exact ⟨Ac H.out.symm,B0⟩
 have t1:(x.run == y.run)=true:=by simp [h1]
 have H1:=Lib.hid h1
 clear h1
 go_enter Tryz.func105,Tryz.ntmps105
 go_wp2_with fail
 generalize ((w.alloc (.cells #[.int .i64 x.kind,.int .i64 x.run,.int .i64 x.plan.prio,.int .i64 x.plan.most,.int .i64 x.plan.wait,.int .i64 x.plan.tasks,.slice s.a s.n s.c,.int .i64 x.task,.int .i64 x.try_,.int .i64 x.worker,.int .i64 x.draw] 45)).alloc (.cells #[.int .i64 y.kind,.int .i64 y.run,.int .i64 y.plan.prio,.int .i64 y.plan.most,.int .i64 y.plan.wait,.int .i64 y.plan.tasks,.slice r.a r.n r.c,.int .i64 y.task,.int .i64 y.try_,.int .i64 y.worker,.int .i64 y.draw] 45))=w0 at *
 refine (Uy x.plan y.plan s r _ (by unfold Ce at hl;omega) (by unfold Ce at hl';omega) (cX _ B0) (cK _ B0)).mono ?_
 rintro e w1 ⟨rfl,b1⟩
 replace X:=X.below b1
 replace Y:=Y.below b1
 replace B0:=Aa B0 b1
 have u0:=X.cell 0 _ rfl
 have v0:=Y.cell 0 _ rfl
 have u1:=X.cell 1 _ rfl
 have v1:=Y.cell 1 _ rfl
 have u2:=X.cell 2 _ rfl
 have v2:=Y.cell 2 _ rfl
 have u3:=X.cell 3 _ rfl
 have v3:=Y.cell 3 _ rfl
 have u4:=X.cell 4 _ rfl
 have v4:=Y.cell 4 _ rfl
 have u5:=X.cell 5 _ rfl
 have v5:=Y.cell 5 _ rfl
 have u6:=X.cell 6 _ rfl
 have v6:=Y.cell 6 _ rfl
 have u7:=X.cell 7 _ rfl
 have v7:=Y.cell 7 _ rfl
 have u8:=X.cell 8 _ rfl
 have v8:=Y.cell 8 _ rfl
 have u9:=X.cell 9 _ rfl
 have v9:=Y.cell 9 _ rfl
 have u10:=X.cell 10 _ rfl
 have v10:=Y.cell 10 _ rfl
 have us:=X.lt
 have vs:=Y.lt
 by_cases h2:x.plan=y.plan
 case neg =>
  have t2:decide (x.plan=y.plan)=false:=decide_eq_false h2
  have H:=no (fun e=>by rw [e]) h2
  rw [t2]
  clear h2 no cX cK t2
  go_wp2
  go_ret
  exact ⟨Ac H.out.symm,B0⟩
 have t2:decide (x.plan=y.plan)=true:=decide_eq_true h2
 rw [t2]
 have H2:=Lib.hid h2
 clear h2 t2 b1
 by_cases h3:x.task=y.task
 case neg =>
  have t3:(x.task == y.task)=false:=beq_eq_false_iff_ne.2 h3
  have H:=no (fun e=>by rw [e]) h3
  clear h3 no cX cK
  go_wp2
  go_ret
  exact ⟨Ac H.out.symm,B0⟩
 have t3:(x.task == y.task)=true:=by simp [h3]
 have H3:=Lib.hid h3
 clear h3
 by_cases h4:x.try_=y.try_
 case neg =>
  have t4:(x.try_ == y.try_)=false:=beq_eq_false_iff_ne.2 h4
  have H:=no (fun e=>by rw [e]) h4
  clear h4 no cX cK
  go_wp2
  go_ret
  exact ⟨Ac H.out.symm,B0⟩
 have t4:(x.try_ == y.try_)=true:=by simp [h4]
 have H4:=Lib.hid h4
 clear h4
 by_cases h5:x.worker=y.worker
 case neg =>
  have t5:(x.worker == y.worker)=false:=beq_eq_false_iff_ne.2 h5
  have H:=no (fun e=>by rw [e]) h5
  clear h5 no cX cK
  go_wp2
  go_ret
  exact ⟨Ac H.out.symm,B0⟩
 have t5:(x.worker == y.worker)=true:=by simp [h5]
 have H5:=Lib.hid h5
 clear h5
 by_cases h6:x.draw=y.draw
 case neg =>
  have t6:(x.draw == y.draw)=false:=beq_eq_false_iff_ne.2 h6
  have H:=no (fun e=>by rw [e]) h6
  clear h6 no cX cK
  go_wp2
  go_ret
  exact ⟨Ac H.out.symm,B0⟩
 have t6:(x.draw == y.draw)=true:=by simp [h6]
 have H6:=Lib.hid h6
 clear h6
 have H:Hid (decide (x=y)=true):=decide_eq_true (by
  have e0:=H0.out ;have e1:=H1.out ;have e2:=H2.out ;have e3:=H3.out ;have e4:=H4.out ;have e5:=H5.out ;have e6:=H6.out
  cases x
  cases y
  simp only at e0 e1 e2 e3 e4 e5 e6
  subst e0 e1 e2 e3 e4 e5 e6
  rfl)
 clear no cX cK
 go_wp2
 go_ret
 exact ⟨Ac H.out.symm,B0⟩
open Go.ChangeShapes Go.WideShapes Go.ChangeAt Go.RowKit Go.Deep
theorem Od:Tryz.prog.cellsOf 3=1:=by kernel_rfl
section
variable {H:Type} {enc:TypeId×Value->H} {w:World} {spare:Nat->Bool} {held:Bool} {fuel:Nat} {cs:List Value} {x:DataW H×List MemPlace}
theorem Ys:Tryz.prog.cellsOf 252=2:=by kernel_rfl
theorem Aab (h:DataW.trod enc Tryz.prog w 0 spare held fuel 252 cs=some x):∃ (p:Edge) (_s:Unit),cs=[.int .i64 p.fr,.int .i64 p.to]/\Ct.rd w w.heap.size p _s/\Qz p:=by
 obtain ⟨xs,n',_,_,aJ,fF,hf⟩:=DataW.trod_struct Tryz.underlying252 h
 rw [Ys] at aJ
 have g0:=hf 0 _ rfl
 have g1:=hf 1 _ rfl
 match xs,fF,cs,aJ with
 | [y0,y1],_,[c0,c1],_ =>
  obtain ⟨a0,e0,_,w0⟩:=DataW.trod_int Tryz.underlying3 g0
  obtain ⟨a1,e1,_,w1⟩:=DataW.trod_int Tryz.underlying3 g1
  simp [Od] at e0 e1
  exact ⟨⟨a0,a1⟩,(),by simp [e0,e1],trivial,⟨Kb w0,Kb w1⟩⟩
theorem Wm:Tryz.prog.cellsOf 141=1:=by kernel_rfl
theorem Yt (h:DataW.trod enc Tryz.prog w 0 spare held fuel 141 cs=some x):∃ (s:Sl) (l:List (Edge)),cs=[.slice s.a s.n s.c]/\RdL Ct w w.heap.size s.v l/\wfL Qz l:=by
 haveI:Inhabited ((Edge)×Ct.S):=⟨(⟨0,0⟩,())⟩
 obtain ⟨v,rs,h1,h2,h3,h4⟩:=Qs Ct.enc (fun z:(Edge)×Unit=>Ct.rd w w.heap.size z.1 z.2/\Qz z.1) Tryz.underlying141 (by kernel_rfl) (by decide) (fun n cs' y hy=>by
  obtain ⟨p0,s0,e0,h0,k0⟩:=Aab hy
  exact ⟨(p0,s0),e0,h0,k0⟩) h
 obtain ⟨A,c,hv,hc,hr⟩:=id h2
 refine ⟨⟨A,rs.length,c⟩,rs.map (·.1),by rw [h1,hv],⟨rs,rfl,by rw [hv] at h2;exact h2,fun r hr=>(h3 r hr).1⟩,by rw [List.length_map];simpa [maxLen] using h4,fun z hz=>?_⟩
 obtain ⟨r,hr,rfl⟩:=List.mem_map.1 hz
 exact (h3 r hr).2
theorem Rb:Tryz.prog.cellsOf 143=5:=by kernel_rfl
theorem Aac (h:DataW.trod enc Tryz.prog w 0 spare held fuel 143 cs=some x):∃ (p:Plan) (s:Sl),cs=[.int .i64 p.prio,.int .i64 p.most,.int .i64 p.wait,.int .i64 p.tasks,.slice s.a s.n s.c]/\Ag.rd w w.heap.size p s/\Yf p:=by
 obtain ⟨xs,n',_,_,aJ,fF,hf⟩:=DataW.trod_struct Tryz.underlying143 h
 rw [Rb] at aJ
 have g0:=hf 0 _ rfl
 have g1:=hf 1 _ rfl
 have g2:=hf 2 _ rfl
 have g3:=hf 3 _ rfl
 have g4:=hf 4 _ rfl
 match xs,fF,cs,aJ with
 | [y0,y1,y2,y3,y4],_,[c0,c1,c2,c3,c4],_ =>
  obtain ⟨a0,e0,_,w0⟩:=DataW.trod_int Tryz.underlying3 g0
  obtain ⟨a1,e1,_,w1⟩:=DataW.trod_int Tryz.underlying3 g1
  obtain ⟨a2,e2,_,w2⟩:=DataW.trod_int Tryz.underlying3 g2
  obtain ⟨a3,e3,_,w3⟩:=DataW.trod_int Tryz.underlying3 g3
  obtain ⟨s4,a4,e4,r4,w4⟩:=Yt g4
  simp [Od,Wm] at e0 e1 e2 e3 e4
  exact ⟨⟨a0,a1,a2,a3,a4⟩,s4,by simp [e0,e1,e2,e3,e4],r4,⟨Kb w0,Kb w1,Kb w2,Kb w3,w4⟩⟩
theorem Yu:Tryz.prog.cellsOf 145=11:=by kernel_rfl
theorem Aad (h:DataW.trod enc Tryz.prog w 0 spare held fuel 145 cs=some x):∃ (p:Deed) (s:Sl),cs=[.int .i64 p.kind,.int .i64 p.run,.int .i64 p.plan.prio,.int .i64 p.plan.most,.int .i64 p.plan.wait,.int .i64 p.plan.tasks,.slice s.a s.n s.c,.int .i64 p.task,.int .i64 p.try_,.int .i64 p.worker,.int .i64 p.draw]/\Be.rd w w.heap.size p s/\Lg p:=by
 obtain ⟨xs,n',_,_,aJ,fF,hf⟩:=DataW.trod_struct Tryz.underlying145 h
 rw [Yu] at aJ
 have g0:=hf 0 _ rfl
 have g1:=hf 1 _ rfl
 have g2:=hf 2 _ rfl
 have g3:=hf 3 _ rfl
 have g4:=hf 4 _ rfl
 have g5:=hf 5 _ rfl
 have g6:=hf 6 _ rfl
 match xs,fF,cs,aJ with
 | [y0,y1,y2,y3,y4,y5,y6],_,[c0,c1,c2,c3,c4,c5,c6,c7,c8,c9,c10],_ =>
  obtain ⟨a0,e0,_,w0⟩:=DataW.trod_int Tryz.underlying3 g0
  obtain ⟨a1,e1,_,w1⟩:=DataW.trod_int Tryz.underlying3 g1
  obtain ⟨a2,s2,e2,r2,w2⟩:=Aac g2
  obtain ⟨a3,e3,_,w3⟩:=DataW.trod_int Tryz.underlying3 g3
  obtain ⟨a4,e4,_,w4⟩:=DataW.trod_int Tryz.underlying3 g4
  obtain ⟨a5,e5,_,w5⟩:=DataW.trod_int Tryz.underlying3 g5
  obtain ⟨a6,e6,_,w6⟩:=DataW.trod_int Tryz.underlying3 g6
  simp [Od,Rb] at e0 e1 e2 e3 e4 e5 e6
  exact ⟨⟨a0,a1,a2,a3,a4,a5,a6⟩,s2,by simp [e0,e1,e2,e3,e4,e5,e6],r2,⟨Kb w0,Kb w1,w2,Kb w3,Kb w4,Kb w5,Kb w6⟩⟩
theorem Yv (h:DataW.trod enc Tryz.prog w 0 spare held fuel 75 cs=some x):∃ (s:Sl) (l:List (Deed)),cs=[.slice s.a s.n s.c]/\RdL Be w w.heap.size s.v l/\wfL Lg l:=by
 haveI:Inhabited ((Deed)×Be.S):=⟨(⟨0,0,⟨0,0,0,0,[]⟩,0,0,0,0⟩,⟨none,0,0⟩)⟩
 obtain ⟨v,rs,h1,h2,h3,h4⟩:=Qs Be.enc (fun z:(Deed)×Sl=>Be.rd w w.heap.size z.1 z.2/\Lg z.1) Tryz.underlying75 (by kernel_rfl) (by decide) (fun n cs' y hy=>by
  obtain ⟨p0,s0,e0,h0,k0⟩:=Aad hy
  exact ⟨(p0,s0),e0,h0,k0⟩) h
 obtain ⟨A,c,hv,hc,hr⟩:=id h2
 refine ⟨⟨A,rs.length,c⟩,rs.map (·.1),by rw [h1,hv],⟨rs,rfl,by rw [hv] at h2;exact h2,fun r hr=>(h3 r hr).1⟩,by rw [List.length_map];simpa [maxLen] using h4,fun z hz=>?_⟩
 obtain ⟨r,hr,rfl⟩:=List.mem_map.1 hz
 exact (h3 r hr).2
end
theorem J1 (a b:Entry) (w:World) :
  Calls Tryz.prog 181 #[Fb a (),Fb b ()] w fun e w'=>e = .returned (.bool (Db a b))/\Below w.heap.size w w':=by
 cases t1:decide (b.prio<a.prio)<;>cases t2:(a.prio == b.prio)<;>cases t3:decide (a.seq<b.seq)
 all_goals
  have H:=Lib.hid (show (decide (b.prio<a.prio) || ((a.prio == b.prio) && decide (a.seq<b.seq)))=Db a b from rfl)
  go_enter Tryz.func181,Tryz.ntmps181
  go_wp2
  go_ret
  exact ⟨Ac (by rw [<-H.out,t1,t2,t3];rfl),by repeat (first | exact Below.refl _ _ | refine Below.alloc ?_ (by simp<;>omega) _)⟩
theorem It (a b:Entry) (w:World) :
  Calls Tryz.prog 255 #[Fb a (),Fb b ()] w fun e w'=>e = .returned (.bool (Db a b))/\Below w.heap.size w w':=by
 cases t1:decide (b.prio<a.prio)<;>cases t2:(a.prio == b.prio)<;>cases t3:decide (a.seq<b.seq)
 all_goals
  have H:=Lib.hid (show (decide (b.prio<a.prio) || ((a.prio == b.prio) && decide (a.seq<b.seq)))=Db a b from rfl)
  go_enter Tryz.func255,Tryz.ntmps255
  go_wp2
  go_ret
  exact ⟨Ac (by rw [<-H.out,t1,t2,t3];rfl),by repeat (first | exact Below.refl _ _ | refine Below.alloc ?_ (by simp<;>omega) _)⟩
theorem Re {l:List Entry} {k:Nat} (qJ:1<=k) (aA:k<l.length) (h:∀ j (hj:j+1<l.length),j+1<k->Db l[j] l[j+1]=true) (t:Db l[k - 1] l[k]=true) :
  ∀ j (hj:j+1<l.length),j+1<k+1->Db l[j] l[j+1]=true:=by
 intro j hj fD
 by_cases e:j+1=k
 ·subst e;simpa using t
 ·exact h j hj (by omega)
theorem T0 {l:List Entry} {k:Nat} (qJ:1<=k) (aA:k<l.length) (t:Db l[k - 1] l[k]=false):¬ Fd l:=by
 rintro ⟨_,h⟩
 have:=h (k - 1) (by omega)
 have e:k - 1+1=k:=by omega
 simp only [e] at this
 rw [t] at this
 cases this
theorem Pt (l:List Entry) (s:Sl) (w:World) (hl:l.length<=2000000) (h:RdL Af w w.heap.size s.v l) :
  Calls Tryz.prog 116 #[.slice s.a s.n s.c] w fun e w'=>e = .returned (.bool (tf (Fd l)))/\Below w.heap.size w w':=by
 obtain ⟨A,n,c⟩:=s
 obtain rfl:n=l.length:=RdL.at1 (s:=⟨A,n,c⟩) h
 go_enter Tryz.func116,Tryz.ntmps116
 go_wp2
 go_loopw [3] (fun i wr=>∃ k:Nat,1<=k/\(k<=l.length\/k=1)/\i = .int .i64 k/\Hid (∀ j (hj:j+1<l.length),j+1<k->Db l[j] l[j+1]=true)/\Below w.heap.size w wr) (fun i _=>l.length - (intOf i).toNat)
 case atStart=>exact ⟨1,Nat.le_refl _,.inr rfl,rfl,fun j hj h0=>absurd h0 (by omega),Below.refl _ _⟩
 case round =>
  obtain ⟨k,qJ,hk,rfl,aW,hb⟩:=hrel
  have qZ:(0:Int)<(k:Int):=by omega
  by_cases aA:k<l.length
  ·have aB:(k:Int)<(l.length:Int):=by omega
   obtain ⟨b,o,_,rfl,aH,_,c0,c1,c2,c3⟩:=(h.below hb).entry aA
   obtain ⟨b',o',_,he,_,_,d0,d1,d2,d3⟩:=(h.below hb).entry (k:=k - 1) (by omega)
   simp only [Option.some.injEq,Addr.mk.injEq,and_true] at he
   obtain ⟨rfl,rfl⟩:=he
   have hs:b<wr.heap.size:=Nat.lt_of_lt_of_le aH hb.size
   have aN:=Bk wr
   cases t2:Db l[k - 1] l[k]
   ·have H:=Lib.hid (Al (T0 qJ aA t2))
    go_wp2
    refine Ad (by kernel_rfl) (by kernel_rfl) ?_
    repeat (go_big_quiet_step ((go_at_call 181;rename_i x;have h1:=J1 l[k - 1] l[k] x.1;exact Dg h1)))
    refine wpQuiet_nil ?_
    rintro _ ⟨⟨w1,aL⟩,rfl⟩
    clear aN
    go_wp2
    go_ret
    exact ⟨Ac H.out.symm,Aa hb aL⟩
   ·have S:=Lib.hid (Re qJ aA aW.out t2)
    go_wp2
    refine Ad (by kernel_rfl) (by kernel_rfl) ?_
    repeat (go_big_quiet_step ((go_at_call 181;rename_i x;have h1:=J1 l[k - 1] l[k] x.1;exact Dg h1)))
    refine wpQuiet_nil ?_
    rintro _ ⟨⟨w1,aL⟩,rfl⟩
    clear aN
    go_wp2
    exact ⟨⟨k+1,by omega,by omega,by go_num,S,Aa hb aL⟩,by simp [intOf];omega⟩
  ·have aB:¬ (k:Int)<(l.length:Int):=by omega
   by_cases h8:l.length<=80
   ·have H:=Lib.hid (Bs (show Fd l from ⟨h8,fun j hj=>aW.out j hj (by omega)⟩))
    go_wp2
    go_ret
    exact ⟨Ac (by rw [H.out];exact decide_eq_true (by omega)),hb⟩
   ·have H:=Lib.hid (Al (show ¬ Fd l from fun h=>h8 h.1))
    have h8i:¬ (l.length:Int)<=80:=by omega
    go_wp2
    go_ret
    exact ⟨Ac (by rw [H.out]),hb⟩
theorem Pu (l:List Entry) (s:Sl) (w:World) (hl:l.length<=2000000) (h:RdL Af w w.heap.size s.v l) :
  Calls Tryz.prog 245 #[.slice s.a s.n s.c] w fun e w'=>e = .returned (.bool (tf (Fd l)))/\Below w.heap.size w w':=by
 obtain ⟨A,n,c⟩:=s
 obtain rfl:n=l.length:=RdL.at1 (s:=⟨A,n,c⟩) h
 by_cases h8:80<l.length
 ·have H:=Lib.hid (Al (show ¬ Fd l from fun h=>by have:=h.1;omega))
  have h8i:(80:Int)<(l.length:Int):=by omega
  go_enter Tryz.func245,Tryz.ntmps245
  go_wp2
  go_ret
  exact ⟨Ac H.out.symm,Below.refl _ _⟩
 have h8i:¬ (80:Int)<(l.length:Int):=by omega
 go_enter Tryz.func245,Tryz.ntmps245
 go_wp2
 go_loopw [3] (fun i wr=>∃ k:Nat,1<=k/\(k<=l.length\/k=1)/\i = .int .i64 k/\Hid (∀ j (hj:j+1<l.length),j+1<k->Db l[j] l[j+1]=true)/\Below w.heap.size w wr) (fun i _=>l.length - (intOf i).toNat)
 case atStart=>exact ⟨1,Nat.le_refl _,.inr rfl,rfl,fun j hj h0=>absurd h0 (by omega),Below.refl _ _⟩
 case round =>
  obtain ⟨k,qJ,hk,rfl,aW,hb⟩:=hrel
  have qZ:(0:Int)<(k:Int):=by omega
  by_cases aA:k<l.length
  ·have aB:(k:Int)<(l.length:Int):=by omega
   obtain ⟨b,o,_,rfl,aH,_,c0,c1,c2,c3⟩:=(h.below hb).entry aA
   obtain ⟨b',o',_,he,_,_,d0,d1,d2,d3⟩:=(h.below hb).entry (k:=k - 1) (by omega)
   simp only [Option.some.injEq,Addr.mk.injEq,and_true] at he
   obtain ⟨rfl,rfl⟩:=he
   have hs:b<wr.heap.size:=Nat.lt_of_lt_of_le aH hb.size
   have aN:=Bk wr
   cases t2:Db l[k - 1] l[k]
   ·have H:=Lib.hid (Al (T0 qJ aA t2))
    go_wp2
    refine Ad (by kernel_rfl) (by kernel_rfl) ?_
    repeat (go_big_quiet_step ((go_at_call 255;rename_i x;have h1:=It l[k - 1] l[k] x.1;exact Dg h1)))
    refine wpQuiet_nil ?_
    rintro _ ⟨⟨w1,aL⟩,rfl⟩
    clear aN
    go_wp2
    go_ret
    exact ⟨Ac H.out.symm,Aa hb aL⟩
   ·have S:=Lib.hid (Re qJ aA aW.out t2)
    go_wp2
    refine Ad (by kernel_rfl) (by kernel_rfl) ?_
    repeat (go_big_quiet_step ((go_at_call 255;rename_i x;have h1:=It l[k - 1] l[k] x.1;exact Dg h1)))
    refine wpQuiet_nil ?_
    rintro _ ⟨⟨w1,aL⟩,rfl⟩
    clear aN
    go_wp2
    exact ⟨⟨k+1,by omega,by omega,by go_num,S,Aa hb aL⟩,by simp [intOf];omega⟩
  ·have aB:¬ (k:Int)<(l.length:Int):=by omega
   have H:=Lib.hid (Bs (show Fd l from ⟨by omega,fun j hj=>aW.out j hj (by omega)⟩))
   go_wp2
   go_ret
   exact ⟨Ac H.out.symm,hb⟩
def Em (l:List Task) (s:Int) (k:Nat):List Nat:=(List.range k).filter fun t=>(l.getD t ⟨0,0,0,0⟩).state == s
def E7 (l:List Task) (s:Int):List Nat:=Em l s l.length
theorem Ln (l:List Task) (s:Int) (k:Nat) (hk:k<l.length):Em l s (k+1)=Em l s k ++ (if l[k].state=s then [k] else []):=by
 unfold Em
 rw [List.range_succ,List.filter_append]
 congr 1
 have:l.getD k ⟨0,0,0,0⟩=l[k]:=by rw [List.getD_eq_getElem?_getD,List.getElem?_eq_getElem hk];rfl
 by_cases h:l[k].state=s
 ·simp [h,this,hk]
 ·simp [h,this,hk]
theorem Mk (l:List Task) (s:Int):∀ (k:Nat),k<=l.length->(Em l s k).length=Bx (l.take k) s
 | 0,_=>by simp [Em,Bx]
 | k+1,hk=>by
  rw [Ln l s k (by omega),List.length_append,Mk l s k (by omega)]
  by_cases h:l[k].state=s
  ·rw [Wi (by omega) h,if_pos h];rfl
  ·rw [Zl (by omega) h,if_neg h];rfl
theorem O4 (l:List Task) (s:Int):(E7 l s).length=Bx l s:=by
 unfold E7
 rw [Mk l s _ (Nat.le_refl _),List.take_length]
theorem I6 (l:List Task) (s:Int) (k:Nat):(Em l s k).length<=k:=by
 unfold Em
 exact Nat.le_trans (List.length_filter_le _ _) (by simp)
theorem Fi (r:Run) (s:Sl×Sl) (st:Int) (w:World) (hl:r.tasks.length<=2000000) (h:Am.rd w w.heap.size r s) :
  Calls Tryz.prog 84 #[Ey r s,.int .i64 st] w fun e w'=>∃ v,e = .returned v/\Ow Cs 3 w' w.heap.size v (E7 r.tasks st)/\Below w.heap.size w w':=by
 obtain ⟨⟨A1,n1,c1⟩,⟨A2,n2,c2⟩⟩:=s
 obtain rfl:n2=r.tasks.length:=RdL.at1 (s:=⟨A2,n2,c2⟩) h.2
 have h2:RdL Cv w w.heap.size (.slice A2 r.tasks.length c2) r.tasks:=h.2
 obtain ⟨W,aG,X,B0⟩:=bx1 w 89 [.int .i64 r.id,.int .i64 r.plan.prio,.int .i64 r.plan.most,.int .i64 r.plan.wait,.int .i64 r.plan.tasks,.slice A1 n1 c1,.int .i64 r.state,.slice A2 r.tasks.length c2]
 obtain ⟨j0,bX,jz0,jz1,jz2⟩:=info_parts Iv
 go_enter Tryz.func84,Tryz.ntmps84
 go_wp2
 rw [<-aG.out]
 clear aG
 go_loopw [5,11] (fun vl i wr=>∃ k:Nat,k<=r.tasks.length/\i = .int .i64 k/\Ow Cs 3 wr (w.heap.size+1) vl (Em r.tasks st k)/\Below w.heap.size w wr/\w.heap.size<wr.heap.size) (fun _ i _=>r.tasks.length - (intOf i).toNat)
 case atStart=>exact ⟨0,Nat.zero_le _,rfl,by simpa [Em] using Ow.nil Cs 3 W (w.heap.size+1),B0,X.lt⟩
 case round =>
  clear X B0
  obtain ⟨k,hk,rfl,ho,hb,bE⟩:=hrel
  by_cases aA:k<r.tasks.length
  ·have aB:(k:Int)<(r.tasks.length:Int):=by omega
   obtain ⟨b,o,_,rfl,aH,_,d0,d1,d2,d3⟩:=(h2.below hb).task aA
   have hS:=Ln r.tasks st k aA
   have Hl:=Lib.hid (show (Em r.tasks st k).length<=3000000 by have:=I6 r.tasks st k;omega)
   by_cases hx:r.tasks[k].state=st
   ·rw [if_pos hx] at hS
    have S:=Lib.hid hS
    have t1:(r.tasks[k].state == st)=true:=beq_iff_eq.2 hx
    clear hS hx
    have ha:Hid (∀ w:World,Below w.heap.size w ((w.alloc (.cells #[.int .i64 r.tasks[k].state,.int .i64 r.tasks[k].need,.int .i64 r.tasks[k].try_,.int .i64 r.tasks[k].until_] 138)).alloc (.cells #[.int .i64 (k:Int)] 3))):=fun w=>((Below.refl _ _).alloc (Nat.le_refl _) _).alloc (by simp) _
    go_wp2_with (at_builtin;refine Ak _ Cs (by decide) rfl (.tmp 20) (.tmp 22) rfl Tryz.underlying26 bX jz0 jz1 jz2 rfl (l:=Em r.tasks st k) rfl (ho.below (ha.out wr)) rfl (Rd.one Cs _ _ k (by simp) rfl 1 (Nat.le_refl _) (Nat.lt_succ_self _)) Hl.out (by simp) (by decide) (by simp;omega) ?_;intro v5 w5 o5 g5 _)
    have bG:=Aa hb (ha.out wr)
    have W5:=bG.grown g5 bG.size (fun g hg=>by have:=ho.within _ hg;omega)
    have sK:=g5.size
    simp only [World.size_alloc] at sK
    refine ⟨⟨k+1,by omega,by go_num,?_,W5,by omega⟩,by simp [intOf];omega⟩
    rw [S.out]
    exact o5
   ·rw [if_neg hx,List.append_nil] at hS
    have S:=Lib.hid hS
    have t1:(r.tasks[k].state == st)=false:=beq_eq_false_iff_ne.2 hx
    clear hS hx
    have ha:Hid (∀ w:World,Below w.heap.size w (w.alloc (.cells #[.int .i64 r.tasks[k].state,.int .i64 r.tasks[k].need,.int .i64 r.tasks[k].try_,.int .i64 r.tasks[k].until_] 138))):=fun w=>(Below.refl _ _).alloc (Nat.le_refl _) _
    go_wp2
    refine ⟨⟨k+1,by omega,by go_num,?_,Aa hb (ha.out wr),by simp;omega⟩,by simp [intOf];omega⟩
    rw [S.out]
    exact ho.below (ha.out wr)
  ·have aB:¬ (k:Int)<(r.tasks.length:Int):=by omega
   have bH:k=r.tasks.length:=by omega
   subst bH
   go_wp2
   go_ret
   exact ⟨_,rfl,ho.more (by omega),hb⟩
theorem Rf {es:List (Nat×Nat)} {T t x:Nat} (h:x∈Cf es T t):x<T:=by
 unfold Cf at h
 exact List.mem_range.1 (List.mem_filter.1 h).1
theorem Rg (r:Run) (s:Sl×Sl) (t:Nat) (w:World) (hf:Aq r.plan=0) (hT:(r.tasks.length:Int)=r.plan.tasks) (h:Am.rd w w.heap.size r s) :
  Calls Tryz.prog 230 #[Ey r s,.int .i64 (t:Int)] w fun e w'=>e = .returned (.int .i64 (Ge r t:Nat))/\Below w.heap.size w w':=by
 obtain ⟨⟨A1,n1,c1⟩,⟨A2,n2,c2⟩⟩:=s
 obtain rfl:n2=r.tasks.length:=RdL.at1 (s:=⟨A2,n2,c2⟩) h.2
 have h2:RdL Cv w w.heap.size (.slice A2 r.tasks.length c2) r.tasks:=h.2
 have h1:Rd Ei w w.heap.size (.slice A1 n1 c1) r.plan.edges:=Gf h.1
 have hl:r.tasks.length<=12:=by have:=Ch (Bn.1 hf).1;omega
 have HL:=Lib.hid (show ∀ x∈Cf (Ca r.plan) r.plan.tasks.toNat t,x<r.tasks.length from fun x hx=>by have:=Rf hx;omega)
 have HN:=Lib.hid (show (Cf (Ca r.plan) r.plan.tasks.toNat t).length<=12 by have:=Gn (Ca r.plan) r.plan.tasks.toNat t;omega)
 have HD:=Lib.hid (show Ge r t=Fe r (Cf (Ca r.plan) r.plan.tasks.toNat t) from rfl)
 clear hT
 obtain ⟨W,aG,X,B0⟩:=bx1 w 89 [.int .i64 r.id,.int .i64 r.plan.prio,.int .i64 r.plan.most,.int .i64 r.plan.wait,.int .i64 r.plan.tasks,.slice A1 n1 c1,.int .i64 r.state,.slice A2 r.tasks.length c2]
 go_enter Tryz.func230,Tryz.ntmps230
 go_wp2_with fail
 rw [<-aG.out]
 clear aG
 refine (Ll r.plan (.slice A1 n1 c1) t _ hf ((h1.below B0).more B0.size)).mono ?_
 rintro e w1 ⟨v,rfl,o1,b1⟩
 generalize Cf (Ca r.plan) r.plan.tasks.toNat t=L at *
 obtain ⟨A3,c3,rfl,-⟩:=id (Rd.of_own o1)
 replace B0:=Aa B0 b1
 replace X:=X.below b1
 obtain ⟨X_0,X_1,X_2,X_3,X_4,X_5,X_6,X_7,X_l⟩:=X.g8
 have dI:=HN.out
 go_wp2
 go_loop [5,13] (fun n i=>∃ k:Nat,k<=L.length/\i = .int .i64 k/\n = .int .i64 (Fe r (L.take k):Nat)) (fun _ i=>L.length - (intOf i).toNat)
 case atStart=>exact ⟨0,Nat.zero_le _,rfl,rfl⟩
 case round =>
  obtain ⟨k,hk,rfl,rfl⟩:=hrel
  have ol:=Lw r (L.take k)
  rw [List.length_take] at ol
  by_cases aA:k<L.length
  ·have aB:(k:Int)<(L.length:Int):=by omega
   have hx:=HL.out _ (List.getElem_mem aA)
   obtain ⟨b3,o3,rfl,bZ,e0⟩:=(Rd.of_own o1).nat aA
   obtain ⟨b,o,_,rfl,aH,_,d0,d1,d2,d3⟩:=(h2.below B0).task hx
   have hxI:(L[k]:Int)<(r.tasks.length:Int):=by omega
   have ht:=Lib.hid (Aw hx)
   by_cases h4:r.tasks[L[k]].state=4
   ·have S:=Lib.hid (Tv (r:=r) aA (by rw [ht.out];exact h4))
    have t4:(r.tasks[L[k]].state != 4)=false:=by simp [h4]
    clear h4
    go_wp2
    exact ⟨⟨k+1,by omega,by go_num,by rw [S.out]⟩,by simp [intOf];omega⟩
   ·have S:=Lib.hid (Q7 (r:=r) aA (by rw [ht.out];exact h4))
    have t4:(r.tasks[L[k]].state != 4)=true:=by simp [h4]
    clear h4
    go_wp2
    exact ⟨⟨k+1,by omega,by go_num,by rw [S.out];go_num⟩,by simp [intOf];omega⟩
  ·have aB:¬ (k:Int)<(L.length:Int):=by omega
   have bH:k=L.length:=by omega
   subst bH
   go_wp2
   go_ret
   exact ⟨Bw (by rw [HD.out]),B0⟩
theorem DBox.set {b:Nat} {cs:List Value} {w:World} (h:DBox b cs w) (j:Nat) (hj:j<cs.length) (u:Value):DBox b (cs.set j u) (w.setCell ⟨b,j,none⟩ u):=by
 refine ⟨fun i x hx=>?_,fun i=>by rw [Hs];exact h.free i,by simpa [World.setCell] using h.lt⟩
 have hi:i<cs.length:=by
  have:=(List.getElem?_eq_some_iff.1 hx).1
  simpa using this
 rw [Ko w b i j u cs[i] (h.cell i _ (List.getElem?_eq_getElem hi)) ⟨_,h.cell j _ (List.getElem?_eq_getElem hj)⟩]
 by_cases e:i=j
 ·subst e
  rw [List.getElem?_set_self hi] at hx
  rw [if_pos rfl]
  exact hx
 ·rw [List.getElem?_set_ne (Ne.symm e),List.getElem?_eq_getElem hi] at hx
  rw [if_neg e]
  exact hx
theorem DBox.off {b:Nat} {cs:List Value} {w w':World} {row:Option Nat} (h:DBox b cs w) (hg:w.grownBy w' row) (aC:some b≠row):DBox b cs w' :=
 h.keep hg.size (fun j=>hg.cell_far ⟨b,j,none⟩ h.lt aC) (fun j=>hg.frozen_far ⟨b,j,none⟩ h.lt aC)
theorem DBox.setOther {b:Nat} {cs:List Value} {w:World} (h:DBox b cs w) {a:Addr} (aC:b≠a.block) (u:Value):DBox b cs (w.setCell a u) :=
 h.off (Mh w a u) (fun e=>aC (Option.some.inj e))
theorem Bld.setOther {α:Type} {d:Dt α} {E:TypeId} {w:World} {base:Nat} {v:Value} {rs:List (α×d.S)} (h:Bld d E w base v rs) {a:Addr} (ha:a.block<base) (u:Value):Bld d E (w.setCell a u) base v rs:=by
 obtain ⟨G,h1,h2,h3,h4⟩:=h
 refine ⟨G,h1.setOther (fun e=>by have:=h1.within _ e;omega) u,h2.keep (by simp [World.setCell]) (fun b hb=>Below.heap_setCell w a u b (fun e=>by have:=(h4 b hb).1;omega)),h3,h4⟩
def Az:Enc Entry:={ cells:=fun x=>[.int .i64 x.prio,.int .i64 x.seq,.int .i64 x.run,.int .i64 x.task],sz:=4,len:=fun _=>rfl,one:=fun _ u hu=>by simp at hu;rcases hu with rfl | rfl | rfl | rfl<;>rfl }
theorem Hd {w:World} {B:Nat} {v:Value} {l:List Entry} (h:RdL Af w B v l):Rd Az w B v l:=by
 obtain ⟨rs,rfl,⟨A,c,rfl,bY,hA⟩,_⟩:=h
 refine ⟨A,c,by rw [List.length_map],by rw [List.length_map];exact bY,fun hl=>?_⟩
 rw [List.length_map] at hl
 obtain ⟨b,o,hb,aA,hc⟩:=hA hl
 refine ⟨b,o,hb,aA,fun k hk j u hu=>?_⟩
 rw [List.length_map] at hk
 rw [List.getElem_map] at hu
 exact hc k hk j u hu
theorem I7 {w:World} {B:Nat} {v:Value} {l:List Entry} (h:Rd Az w B v l):RdL Af w B v l:=by
 obtain ⟨A,c,rfl,bY,hA⟩:=h
 refine ⟨l.map fun x=>(x,()),by rw [List.map_map];exact List.map_id' l,⟨A,c,by rw [List.length_map],by rw [List.length_map];exact bY,fun hl=>?_⟩,fun _ _=>trivial⟩
 rw [List.length_map] at hl
 obtain ⟨b,o,hb,aA,hc⟩:=hA hl
 refine ⟨b,o,hb,aA,fun k hk j u hu=>?_⟩
 rw [List.length_map] at hk
 rw [List.getElem_map] at hu
 exact hc k hk j u hu
theorem Ds:(Tryz.prog.info? 93).map (fun i=>(i.zero,i.size,i.bytes))=some (some (.agg #[.int .i64 0,.int .i64 0,.int .i64 0,.int .i64 0]),4,32):=by kernel_rfl
theorem Jk {α:Type} (l:List (List α)) (k:Nat) (hk:k<l.length):(l.take (k+1)).flatten=(l.take k).flatten ++ l[k]:=by
 rw [Ay l k hk,List.flatten_append]
 simp
theorem Ff (l:List (List Entry)) (k:Nat):(l.take k).flatten.length<=Gd Bl l:=by
 induction l generalizing k with
 | nil=>simp
 | cons x l ih =>
  cases k with
  | zero=>simp
  | succ k =>
   have:=ih k
   rw [List.take_succ_cons,List.flatten_cons,List.length_append]
   unfold Gd at *
   have hx:x.length<=Bl x:=Ar Hu x
   simp only [List.length_cons,List.map_cons,List.sum_cons]
   omega
theorem K3 (y:Yard) (s:Sl×Sl) (w:World) (hl:Ai y<=2000000) (h:Ab.rd w w.heap.size y s) :
  Calls Tryz.prog 117 #[By y s] w fun e w'=>∃ v,e = .returned v/\Ow Az 93 w' w.heap.size v (Ah y)/\Below w.heap.size w w':=by
 obtain ⟨⟨A1,n1,c1⟩,⟨A2,n2,c2⟩⟩:=s
 obtain rfl:n1=y.shelf.length:=RdL.at1 (s:=⟨A1,n1,c1⟩) h.1
 have h1:RdL (Dt.list Af) w w.heap.size (.slice A1 y.shelf.length c1) y.shelf:=h.1
 have dI:y.shelf.length<=2000000:=Nat.le_trans (Ar Bl _) (by unfold Ai at hl;omega)
 have HL:=Lib.hid (show ∀ k,(y.shelf.take k).flatten.length<=2000000 from fun k=>Nat.le_trans (Ff y.shelf k) (by unfold Ai at hl;omega))
 have HE:=Lib.hid (show ∀ k (hk:k<y.shelf.length),y.shelf[k].length<=2000000 from fun k hk=>by
  have:=Cq (cnt:=Bl) (List.getElem_mem hk)
  have h2:y.shelf[k].length<=Bl y.shelf[k]:=Ar Hu _
  unfold Ai at hl
  omega)
 clear hl h
 have X:=DBox.new 31 [.int .i64 y.now,.int .i64 y.seq,.slice A1 y.shelf.length c1,.slice A2 n2 c2] w (b:=w.heap.size) rfl
 have B0:Below w.heap.size w (w.alloc (.cells #[.int .i64 y.now,.int .i64 y.seq,.slice A1 y.shelf.length c1,.slice A2 n2 c2] 31)):=by repeat (first | exact Below.refl _ _ | refine Below.alloc ?_ (by simp<;>omega) _)
 obtain ⟨j0,bX,jz0,jz1,jz2⟩:=info_parts Ds
 go_enter Tryz.func117,Tryz.ntmps117
 go_wp2
 generalize (w.alloc (.cells #[.int .i64 y.now,.int .i64 y.seq,.slice A1 y.shelf.length c1,.slice A2 n2 c2] 31))=W at *
 go_loopw [3,9] (fun vl i wr=>∃ k:Nat,k<=y.shelf.length/\i = .int .i64 k/\Ow Az 93 wr (w.heap.size+1) vl (y.shelf.take k).flatten/\Below w.heap.size w wr/\w.heap.size<wr.heap.size) (fun _ i _=>y.shelf.length - (intOf i).toNat)
 case atStart=>exact ⟨0,Nat.zero_le _,rfl,by simpa using Ow.nil Az 93 W (w.heap.size+1),B0,X.lt⟩
 case round =>
  clear X B0
  obtain ⟨k,hk,rfl,ho,hb,bE⟩:=hrel
  by_cases aA:k<y.shelf.length
  ·have aB:(k:Int)<(y.shelf.length:Int):=by omega
   obtain ⟨b,o,⟨As,ns,cs⟩,rfl,aH,hr,d0⟩:=(h1.below hb).entryS aA
   obtain rfl:ns=y.shelf[k].length:=RdL.at1 (s:=⟨As,ns,cs⟩) hr
   have cB:=(Hd hr).more hb.size
   have S:=Lib.hid (Jk y.shelf k aA)
   have HLk:=Lib.hid (HL.out k)
   have HEk:=Lib.hid (HE.out k aA)
   go_wp2_with (at_builtin;refine Ak _ Az (by decide) rfl (.tmp 13) (.tmp 14) rfl Tryz.underlying96 bX jz0 jz1 jz2 rfl (l:=(y.shelf.take k).flatten) rfl ho rfl cB (Nat.le_trans HLk.out (by omega)) (Nat.le_trans HEk.out (by omega)) (by decide) (by omega) ?_;intro v5 w5 o5 g5 _)
   have W5:=hb.grown g5 hb.size (fun g hg=>by have:=ho.within _ hg;omega)
   have sK:=g5.size
   refine ⟨⟨v5,_,.int .i64 ((k:Int)+1),⟨k+1,by omega,by go_num,?_,W5,by omega⟩,rfl,rfl,rfl⟩,by simp [intOf];omega⟩
   rw [S.out]
   exact o5
  ·have aB:¬ (k:Int)<(y.shelf.length:Int):=by omega
   have bH:k=y.shelf.length:=by omega
   subst bH
   rw [List.take_length] at ho
   go_wp2
   go_ret
   exact ⟨_,rfl,ho.more (by omega),hb⟩
theorem K4 (y:Yard) (s:Sl×Sl) (w:World) (hl:Ai y<=2000000) (h:Ab.rd w w.heap.size y s) :
  Calls Tryz.prog 86 #[By y s] w fun e w'=>∃ v,e = .returned v/\Ow Az 93 w' w.heap.size v (Ah y)/\Below w.heap.size w w':=by
 obtain ⟨⟨A1,n1,c1⟩,⟨A2,n2,c2⟩⟩:=s
 obtain rfl:n1=y.shelf.length:=RdL.at1 (s:=⟨A1,n1,c1⟩) h.1
 have h1:RdL (Dt.list Af) w w.heap.size (.slice A1 y.shelf.length c1) y.shelf:=h.1
 have dI:y.shelf.length<=2000000:=Nat.le_trans (Ar Bl _) (by unfold Ai at hl;omega)
 have HL:=Lib.hid (show ∀ k,(y.shelf.take k).flatten.length<=2000000 from fun k=>Nat.le_trans (Ff y.shelf k) (by unfold Ai at hl;omega))
 have HE:=Lib.hid (show ∀ k (hk:k<y.shelf.length),y.shelf[k].length<=2000000 from fun k hk=>by
  have:=Cq (cnt:=Bl) (List.getElem_mem hk)
  have h2:y.shelf[k].length<=Bl y.shelf[k]:=Ar Hu _
  unfold Ai at hl
  omega)
 clear hl h
 have X:=(DBox.new 31 [.int .i64 y.now,.int .i64 y.seq,.slice A1 y.shelf.length c1,.slice A2 n2 c2] w (b:=w.heap.size) rfl).below ((Below.refl _ _).alloc (Nat.le_refl _) (.cells #[] 93))
 have E:=DBox.new 93 [] (w.alloc (.cells #[.int .i64 y.now,.int .i64 y.seq,.slice A1 y.shelf.length c1,.slice A2 n2 c2] 31)) (b:=w.heap.size+1) (by simp)
 have B0:Below w.heap.size w ((w.alloc (.cells #[.int .i64 y.now,.int .i64 y.seq,.slice A1 y.shelf.length c1,.slice A2 n2 c2] 31)).alloc (.cells #[] 93)):=by repeat (first | exact Below.refl _ _ | refine Below.alloc ?_ (by simp<;>omega) _)
 have O0:=Ow.empty Az 93 (w.alloc (.cells #[.int .i64 y.now,.int .i64 y.seq,.slice A1 y.shelf.length c1,.slice A2 n2 c2] 31)) (g:=w.heap.size+1) (by simp)
 obtain ⟨j0,bX,jz0,jz1,jz2⟩:=info_parts Ds
 clear E
 go_enter Tryz.func86,Tryz.ntmps86
 go_wp2
 generalize ((w.alloc (.cells #[.int .i64 y.now,.int .i64 y.seq,.slice A1 y.shelf.length c1,.slice A2 n2 c2] 31)).alloc (.cells #[] 93))=W at *
 go_loopw [3,4] (fun vl i wr=>∃ k:Nat,k<=y.shelf.length/\i = .int .i64 k/\Ow Az 93 wr (w.heap.size+1) vl (y.shelf.take k).flatten/\DBox w.heap.size [.int .i64 y.now,.int .i64 y.seq,.slice A1 y.shelf.length c1,.slice A2 n2 c2] wr/\Below w.heap.size w wr) (fun _ i _=>y.shelf.length - (intOf i).toNat)
 case atStart=>exact ⟨0,Nat.zero_le _,rfl,by simpa using O0,X,B0⟩
 case round =>
  clear X B0 O0
  obtain ⟨k,hk,rfl,ho,X,hb⟩:=hrel
  obtain ⟨X_0,X_1,X_2,X_3,X_l⟩:=X.g4
  by_cases aA:k<y.shelf.length
  ·have aB:(k:Int)<(y.shelf.length:Int):=by omega
   obtain ⟨b,o,⟨As,ns,cs⟩,rfl,aH,hr,d0⟩:=(h1.below hb).entryS aA
   obtain rfl:ns=y.shelf[k].length:=RdL.at1 (s:=⟨As,ns,cs⟩) hr
   have cB:=(Hd hr).more hb.size
   have S:=Lib.hid (Jk y.shelf k aA)
   have HLk:=Lib.hid (HL.out k)
   have HEk:=Lib.hid (HE.out k aA)
   go_wp2_with (at_builtin;refine Ak _ Az (by decide) rfl (.tmp 13) (.tmp 18) rfl Tryz.underlying96 bX jz0 jz1 jz2 rfl (l:=(y.shelf.take k).flatten) rfl ho rfl cB (Nat.le_trans HLk.out (by omega)) (Nat.le_trans HEk.out (by omega)) (by decide) (by omega) ?_;intro v5 w5 o5 g5 _)
   have W5:=hb.grown g5 hb.size (fun g hg=>by have:=ho.within _ hg;omega)
   have X5:=X.off g5 (fun e=>by have:=ho.within _ e.symm;omega)
   refine ⟨⟨k+1,by omega,by go_num,?_,X5,W5⟩,by simp [intOf];omega⟩
   rw [S.out]
   exact o5
  ·have aB:¬ (k:Int)<(y.shelf.length:Int):=by omega
   have bH:k=y.shelf.length:=by omega
   subst bH
   rw [List.take_length] at ho
   go_wp2
   go_ret
   exact ⟨_,rfl,ho.more (by omega),hb⟩
def Lz (x:Task) (most:Int):Bool :=
 (if x.state=3 then inB x.until_ 1 1000000000 else (x.until_ == 0)) && (if x.state=1 then decide (0<x.need) else if x.state=2 then (x.need == 0) && decide (x.try_<most) else if x.state=6 then true else (x.need == 0) && decide (1<=x.try_))
theorem T7 {x:Task} {N:Nat} {most:Int} (h1:1<=x.state/\x.state<=6) (h2:x.need=N) (h3:0<=x.try_/\x.try_<=most):tf (Lm x N most)=Lz x most:=by
 rw [Bool.eq_iff_iff,J0]
 obtain ⟨st,nd,tr,un⟩:=x
 unfold Lm Lz
 simp only at *
 rcases (show st=1\/st=2\/st=3\/st=4\/st=5\/st=6 by omega) with rfl | rfl | rfl | rfl | rfl | rfl<;>simp [inB]<;>omega
theorem Acb {a b:Int} (h:(a != b)=true):¬ a=b:=by simpa using h
theorem Acc {a b:Int} (h:(a != b)=false):a=b:=by simpa using h
theorem Acd {a b:Int} (h:(a == b)=true):a=b:=by simpa using h
theorem Ace {a b:Int} (h:(a == b)=false):¬ a=b:=by simpa using h
theorem Rh (r:Run) (s:Sl×Sl) (t:Nat) (w:World) (hf:Aq r.plan=0) (hT:(r.tasks.length:Int)=r.plan.tasks) (ht:t<r.tasks.length) (h:Am.rd w w.heap.size r s) :
  Calls Tryz.prog 183 #[Ey r s,.int .i64 (t:Int)] w fun e w'=>e = .returned (.bool (tf (Ev r t)))/\Below w.heap.size w w':=by
 have HC:=Lib.hid (show ∀ W,Below w.heap.size w W->Calls Tryz.prog 230 #[Ey r s,.int .i64 (t:Int)] W fun e w'=>e = .returned (.int .i64 (Ge r t:Nat))/\Below W.heap.size W w' from
  fun W hW=>Rg r s t W hf hT (Am.rd_more (Am.rd_below h hW) hW.size))
 obtain ⟨⟨A1,n1,c1⟩,⟨A2,n2,c2⟩⟩:=s
 obtain rfl:n2=r.tasks.length:=RdL.at1 (s:=⟨A2,n2,c2⟩) h.2
 have h2:RdL Cv w w.heap.size (.slice A2 r.tasks.length c2) r.tasks:=h.2
 have hl:r.tasks.length<=12:=by have:=Ch (Bn.1 hf).1;omega
 have HQ:=Lib.hid (show tf (Ev r t)=tf (Lm r.tasks[t] (Ge r t) r.plan.most) by unfold Ev;rw [Aw ht])
 have jR:(t:Int)<(r.tasks.length:Int):=by omega
 clear hT hf h
 obtain ⟨b,o,_,hA,aH,_,d0,d1,d2,d3⟩:=h2.task ht
 subst hA
 generalize Ge r t=N at *
 generalize r.tasks[t]=x at *
 obtain ⟨W,aG,X,T,B0⟩:=bx2 w 89 [.int .i64 r.id,.int .i64 r.plan.prio,.int .i64 r.plan.most,.int .i64 r.plan.wait,.int .i64 r.plan.tasks,.slice A1 n1 c1,.int .i64 r.state,.slice (some ⟨b,o,none⟩) r.tasks.length c2] 138 [.int .i64 x.state,.int .i64 x.need,.int .i64 x.try_,.int .i64 x.until_]
 go_enter Tryz.func183,Tryz.ntmps183
 go_wp2
 rw [<-aG.out]
 clear aG
 clear d0 d1 d2 d3
 obtain ⟨X_0,X_1,X_2,X_3,X_4,X_5,X_6,X_7,X_l⟩:=X.g8
 obtain ⟨T_0,T_1,T_2,T_3,T_l⟩:=T.g4
 have aN:=Bk W
 have HC2:=Lib.hid (show ∀ u:Hn W,Calls Tryz.prog 230 #[Ey r (⟨A1,n1,c1⟩,⟨some ⟨b,o,none⟩,r.tasks.length,c2⟩),.int .i64 (t:Int)] u.1 fun e w'=>e = .returned (.int .i64 (N:Nat))/\Below u.1.heap.size u.1 w' from fun u=>HC.out u.1 (Aa B0 u.2))
 clear HC
 cases a1:inB x.state 1 6
 case false =>
  have H:=Lib.hid (show tf (Ev r t)=false by rw [HQ.out];exact Al (fun h=>by have:=Bf.2 h.1;rw [a1] at this;cases this))
  refine Ad (by kernel_rfl) (by kernel_rfl) ?_
  repeat (go_big_quiet_step ((go_at_call 58;exact Bv (fun u=>Ap _ _ _ u.1))))
  refine wpQuiet_nil ?_
  rintro _ ⟨⟨w1,b1⟩,rfl⟩
  go_wp2
  go_ret
  exact ⟨Ac H.out.symm,Aa B0 b1⟩
 cases a2:(x.need == (N:Int))
 case false =>
  have a2':(x.need != (N:Int))=true:=by simp [bne,a2]
  have H:=Lib.hid (show tf (Ev r t)=false by rw [HQ.out];exact Al (fun h=>by have:=beq_iff_eq.2 h.2.1;rw [a2] at this;cases this))
  refine Ad (by kernel_rfl) (by kernel_rfl) ?_
  repeat (go_big_quiet_step ((first
   | (go_at_call 58;exact Bv (fun u=>Ap _ _ _ u.1))
   | (go_at_call 230;(with_reducible exact Gu HC2.out)))))
  refine wpQuiet_nil ?_
  rintro _ ⟨⟨w1,b1⟩,rfl⟩
  go_wp2
  go_ret
  exact ⟨Ac H.out.symm,Aa B0 b1⟩
 have a2':(x.need != (N:Int))=false:=by simp [bne,a2]
 cases a3:inB x.try_ 0 r.plan.most
 case false =>
  have H:=Lib.hid (show tf (Ev r t)=false by rw [HQ.out];exact Al (fun h=>by have:=Bf.2 h.2.2.1;rw [a3] at this;cases this))
  refine Ad (by kernel_rfl) (by kernel_rfl) ?_
  repeat (go_big_quiet_step ((first
   | (go_at_call 58;exact Bv (fun u=>Ap _ _ _ u.1))
   | (go_at_call 230;(with_reducible exact Gu HC2.out)))))
  refine wpQuiet_nil ?_
  rintro _ ⟨⟨w1,b1⟩,rfl⟩
  go_wp2
  go_ret
  exact ⟨Ac H.out.symm,Aa B0 b1⟩
 have H:=Lib.hid (show tf (Ev r t)=Lz x r.plan.most by rw [HQ.out];exact T7 (Bf.1 a1) (beq_iff_eq.1 a2) (Bf.1 a3))
 have a1':=Bf.1 a1
 refine Ad (by kernel_rfl) (by kernel_rfl) ?_
 repeat (go_big_quiet_step ((first
  | (go_at_call 58;exact Bv (fun u=>Ap _ _ _ u.1))
  | (go_at_call 230;(with_reducible exact Gu HC2.out)))))
 refine wpQuiet_nil ?_
 rintro _ ⟨⟨w1,b1⟩,rfl⟩
 clear a1 a2 a2' a3 aN HC2
 replace X:=X.below b1
 clear X_0 X_1 X_2 X_3 X_4 X_5 X_6 X_7 X_l
 obtain ⟨X_0,X_1,X_2,X_3,X_4,X_5,X_6,X_7,X_l⟩:=X.g8
 replace T:=T.below b1
 clear T_0 T_1 T_2 T_3 T_l
 obtain ⟨T_0,T_1,T_2,T_3,T_l⟩:=T.g4
 replace B0:=Aa B0 b1
 obtain ⟨st,nd,tr,un⟩:=x
 simp only at *
 have S:=(show st=1\/st=2\/st=3\/st=4\/st=5\/st=6 by omega)
 clear a1'
 rcases S with rfl | rfl | rfl | rfl | rfl | rfl
 all_goals
  go_wp2_with (go_at_call 58;refine (Ap _ _ _ _).mono ?_;rintro e w' ⟨rfl,rfl⟩)
  all_goals
   go_ret
   exact ⟨Ac (by
    rw [H.out]
    unfold Lz
    try have e1:=Acb ‹(un != 0)=true›
    try have e1:=Acc ‹(un != 0)=false›
    try have e3:=Acd ‹(nd == 0)=true›
    try have e3:=Ace ‹(nd == 0)=false›
    simp [*]),B0⟩
def Ea:Yard:=⟨0,1,[[],[],[],[]],[]⟩
theorem Ows.nils {w:World} : ∀ (n:Nat),Ows (Dt.list Af) w [] (List.replicate n (([],⟨none,0,0⟩):List Entry×Sl))
 | 0=>.nil
 | n+1=>by
  have:=Ows.cons (d:=Dt.list Af) (r:=([],⟨none,0,0⟩)) (OwL.nil Af w none 0) (Ows.nils n)
  exact this
theorem Pv (w:World):Calls Tryz.prog 14 #[] w (Cj Ab By Ea w):=by
 obtain ⟨i0,aP,aX,aV,aQ⟩:=info_parts I5
 have mH:∀ w:World,(Instr.makeSlice 28 (.int .i64 4) (.int .i64 4)).run Tryz.prog w = .ok (.slice (some ⟨w.heap.size,0,none⟩) 4 4) (w.alloc (.cells (madeCells #[.slice none 0 0] 4) 96)):=by
  intro w
  have:=run_make (P:=Tryz.prog) w 28 96 i0 _ Tryz.underlying28 aP aX .i64 .i64 4 4 (by omega) (by omega) (by rw [aQ];omega) (by omega)
  rw [aV] at this
  simpa [Value.cells] using this
 go_enter Tryz.func14,Tryz.ntmps14
 go_wp2
 refine bodyPost_ret (v:=By Ea (⟨some ⟨w.heap.size+1,0,none⟩,4,4⟩,⟨none,0,0⟩)) ?_ rfl ?_
 ·simp [By,Ea,results,Tryz.results14,go_sem]
 ·have hO:=Ow.made (Dt.list Af).enc 96 (w.alloc (.cells #[.int .i64 0,.int .i64 1,.slice (some ⟨w.heap.size+1,0,none⟩) 4 4,.slice none 0 0] 31)) ([],⟨none,0,0⟩) 4 (by decide) (by simp [maxLen]) (z:=#[.slice none 0 0]) rfl (m:=4) rfl
  have hs:(w.alloc (.cells #[.int .i64 0,.int .i64 1,.slice (some ⟨w.heap.size+1,0,none⟩) 4 4,.slice none 0 0] 31)).heap.size=w.heap.size+1:=by simp
  rw [hs] at hO
  obtain ⟨F,h1,h2⟩:=Bld.owl (l:=[[],[],[],[]]) ⟨[],hO,Ows.nils 4,List.nodup_nil,fun b hb=>by cases hb⟩ rfl
  refine ⟨_,F,rfl,⟨F,[],(List.append_nil F).symm,h1.nodup,?_,OwL.nil _ _ _ _⟩,fun b hb=>by have:=h2 b hb;omega,?_⟩
  ·have hn:w.heap.size∉F:=fun hm=>by have:=h2 _ hm;omega
   show OwL (Dt.list Af) _ F (.slice (some ⟨w.heap.size+1,0,none⟩) 4 4) [[],[],[],[]]
   repeat (first | (with_reducible exact h1) | refine OwL.set ?_ hn _)
  ·repeat (first | exact Below.refl _ _ | refine Below.setCell ?_ (by simp<;>omega) _ | refine Below.alloc ?_ (by simp<;>omega) _)
theorem Pw (w:World):Calls Tryz.prog 78 #[] w (Cj Ab By Ea w):=by
 obtain ⟨i0,aP,aX,aV,aQ⟩:=info_parts I5
 have D0:=DBox.new 31 [.int .i64 0,.int .i64 0,.slice none 0 0,.slice none 0 0] w rfl
 have D1:=D0.below ((Below.refl _ _).alloc (Nat.le_refl _) (.cells #[.int .i64 0,.int .i64 1,.slice none 0 0,.slice none 0 0] 31))
 have E1:=DBox.new 31 [.int .i64 0,.int .i64 1,.slice none 0 0,.slice none 0 0] (w.alloc (.cells #[.int .i64 0,.int .i64 0,.slice none 0 0,.slice none 0 0] 31)) (b:=w.heap.size+1) (by simp)
 have B0:Below w.heap.size w ((w.alloc (.cells #[.int .i64 0,.int .i64 0,.slice none 0 0,.slice none 0 0] 31)).alloc (.cells #[.int .i64 0,.int .i64 1,.slice none 0 0,.slice none 0 0] 31)):=by repeat (first | exact Below.refl _ _ | refine Below.alloc ?_ (by simp<;>omega) _)
 have S0:w.heap.size+2<=((w.alloc (.cells #[.int .i64 0,.int .i64 0,.slice none 0 0,.slice none 0 0] 31)).alloc (.cells #[.int .i64 0,.int .i64 1,.slice none 0 0,.slice none 0 0] 31)).heap.size:=by simp
 clear D0
 go_enter Tryz.func78,Tryz.ntmps78
 go_wp2
 generalize ((w.alloc (.cells #[.int .i64 0,.int .i64 0,.slice none 0 0,.slice none 0 0] 31)).alloc (.cells #[.int .i64 0,.int .i64 1,.slice none 0 0,.slice none 0 0] 31))=W at *
 go_loopw [2] (fun i wr=>∃ (k:Nat) (v:Value),k<=4/\i = .int .i64 k/\Hid (Bls (Dt.list Af) 96 wr (w.heap.size+2) v (List.replicate k []))/\DBox w.heap.size [.int .i64 0,.int .i64 0,.slice none 0 0,.slice none 0 0] wr/\DBox (w.heap.size+1) [.int .i64 0,.int .i64 1,v,.slice none 0 0] wr/\Below w.heap.size w wr/\w.heap.size+2<=wr.heap.size) (fun i _=>4 - (intOf i).toNat)
 case atStart=>exact ⟨0,_,Nat.zero_le _,rfl,⟨[],rfl,Bld.nil _ _ _ _⟩,D1,E1,B0,S0⟩
 case round =>
  clear D1 E1 B0 S0
  obtain ⟨k,v,hk,rfl,fS,D,E,hb,bE⟩:=hrel
  have e0:wr.cell? ⟨w.heap.size+1,0,none⟩=some (.int .i64 0):=E.cell 0 _ rfl
  have e1:wr.cell? ⟨w.heap.size+1,1,none⟩=some (.int .i64 1):=E.cell 1 _ rfl
  have e2:wr.cell? ⟨w.heap.size+1,2,none⟩=some v:=E.cell 2 _ rfl
  have e3:wr.cell? ⟨w.heap.size+1,3,none⟩=some (.slice none 0 0):=E.cell 3 _ rfl
  have ef:=E.free
  have el:=E.lt
  by_cases aA:k<4
  ·obtain ⟨rs,hm,hB⟩:=fS.out
   have bR:rs.length=k:=by have:=congrArg List.length hm;simpa using this
   have hO:=hB.ow
   have aC:v.ownBlock≠some (w.heap.size+1):=fun e=>by have:=hO.within _ e;omega
   have jM:v.ownBlock≠some w.heap.size:=fun e=>by have:=hO.within _ e;omega
   have B1:=(Below.refl wr.heap.size wr).alloc (Nat.le_refl _) (.cells #[] 93)
   go_wp2_with (at_builtin;refine Ak _ (Dt.list Af).enc (by decide) rfl (.tmp 9) (.tmp 11) rfl Tryz.underlying28 aP aX aV aQ rfl (v:=v) (l:=rs) rfl (hO.below (B1.alloc (by simp) _)) rfl (Rd.one (Dt.list Af).enc _ _ (([]:List Entry),(⟨some ⟨wr.heap.size,0,none⟩,0,0⟩:Sl)) (by simp) rfl 1 (Nat.le_refl _) (Nat.lt_succ_self _)) (by omega) (by simp) (by decide) (by simp;omega) ?_;intro v5 w5 o5 g5 f5;obtain ⟨A5,c5,rfl,-⟩:=id (Rd.of_own o5);have E5:=((E.below B1).below ((Below.refl _ _).alloc (Nat.le_refl _) _)).off g5 (fun e=>aC e.symm);have D5:=((D.below B1).below ((Below.refl _ _).alloc (Nat.le_refl _) _)).off g5 (fun e=>jM e.symm);have m2:w5.cell? ⟨w.heap.size+1,2,none⟩=some v:=E5.cell 2 _ rfl;have mf:=E5.free;have ml:=E5.lt)
   have hP:=Bld.push1 (d:=Dt.list Af) (x:=[]) (s:=⟨some ⟨wr.heap.size,0,none⟩,0,0⟩) hB B1 (OwL.nil Af _ _ _) (fun b bG=>by cases bG) bE ((Below.refl _ _).alloc (Nat.le_refl _) _) o5 g5 f5
   have aJ:(rs ++ [(([]:List Entry),(⟨some ⟨wr.heap.size,0,none⟩,0,0⟩:Sl))]).length=k+1:=by simp [bR]
   rw [aJ] at hP
   have g5s:=g5.size
   simp only [World.size_alloc] at g5s
   refine ⟨⟨k+1,_,by omega,by go_num,⟨rs ++ [([],⟨some ⟨wr.heap.size,0,none⟩,0,0⟩)],by rw [List.map_append,hm,List.replicate_succ'];rfl,hP.setOther (a:=⟨w.heap.size+1,2,none⟩) (by show w.heap.size+1<_;omega) _⟩,D5.setOther (a:=⟨w.heap.size+1,2,none⟩) (by show w.heap.size≠w.heap.size+1;omega) _,E5.set 2 (by simp) _,?_,by simp [World.setCell];omega⟩,by simp [intOf];omega⟩
   exact Below.setCell ((((hb.trans (B1.mono hb.size)).alloc (by simp;omega) _).grown g5 (by simp;omega) (fun g hg=>by have:=hO.within g hg;omega))) (by first | (simp;done) | (simp;omega)) _
  ·have qV:k=4:=by omega
   subst qV
   have d0:wr.cell? ⟨w.heap.size,0,none⟩=some (.int .i64 0):=D.cell 0 _ rfl
   have d1:wr.cell? ⟨w.heap.size,1,none⟩=some (.int .i64 0):=D.cell 1 _ rfl
   have d2:wr.cell? ⟨w.heap.size,2,none⟩=some (.slice none 0 0):=D.cell 2 _ rfl
   have d3:wr.cell? ⟨w.heap.size,3,none⟩=some (.slice none 0 0):=D.cell 3 _ rfl
   have df:=D.free
   have dl:=D.lt
   obtain ⟨rs,hm,hB⟩:=fS.out
   obtain ⟨F,h1,h2⟩:=hB.owl hm
   obtain ⟨A9,c9,rfl,-⟩:=h1.form
   simp only [List.length_replicate] at e2 h1
   go_wp2
   refine bodyPost_ret (v:=By Ea (⟨A9,4,c9⟩,⟨none,0,0⟩)) ?_ rfl ?_
   ·simp [By,Ea,results,Tryz.results78,go_sem,d0,d1,d2,d3]
   ·refine ⟨(⟨A9,4,c9⟩,⟨none,0,0⟩),F,rfl,⟨F,[],(List.append_nil F).symm,h1.nodup,?_,OwL.nil _ _ _ _⟩,fun b hb=>by have:=h2 b hb;omega,?_⟩
    ·have hn:w.heap.size∉F:=fun hm=>by have:=h2 _ hm;omega
     have h1:OwL (Dt.list Af) wr F (.slice A9 4 c9) [[],[],[],[]]:=h1
     show OwL (Dt.list Af) _ F (.slice A9 4 c9) [[],[],[],[]]
     repeat (first | (with_reducible exact h1) | refine OwL.set ?_ hn _)
    ·repeat (first | (with_reducible exact hb) | refine Below.setCell ?_ (by simp<;>omega) _)
theorem Wn {y:Yard} {e:Entry} (h:Bo y e.run = -1):Cy y e=false:=Al (fun hh=>by have:=hh.1;omega)
theorem T8 {y:Yard} {e:Entry} {k:Nat} (hk:k<y.runs.length) (h:Bo y e.run=k) (hq:inB e.task 0 ((y.runs[k].tasks.length:Int) - 1)=false):Cy y e=false :=
 Al (fun hh=>by
  have h2:=hh.2.1
  rw [Dr hk h] at h2
  have:=Bf.2 (show 0<=e.task/\e.task<=(y.runs[k].tasks.length:Int) - 1 by omega)
  rw [hq] at this
  cases this)
theorem Wo {y:Yard} {e:Entry} {k t:Nat} (hk:k<y.runs.length) (h:Bo y e.run=k) (ht:t<y.runs[k].tasks.length) (he:e.task=t):Cy y e=(y.runs[k].tasks[t].state == 2):=by
 unfold Cy
 rw [Bool.eq_iff_iff,J0,beq_iff_eq]
 unfold Q8
 rw [Dr hk h,he,Int.toNat_natCast,Aw ht]
 constructor
 ·intro hh;exact hh.2.2
 ·intro hh;exact ⟨by omega,by omega,hh⟩
theorem Ek {y:Yard} {k:Nat} (hl:Ai y<=2000000) (hk:k<y.runs.length):y.runs[k].tasks.length<=2000000:=by
 have h1:=Cq (cnt:=Bg) (List.getElem_mem hk)
 have h2:y.runs[k].tasks.length<=Gd Fc y.runs[k].tasks:=Ar _ _
 unfold Ai at hl
 unfold Bg at h1
 unfold Bg at hl
 omega
theorem Ml (y:Yard) (s:Sl×Sl) (e:Entry) (w:World) (hl:Ai y<=2000000) (h:Ab.rd w w.heap.size y s) :
  Calls Tryz.prog 135 #[By y s,Fb e ()] w fun e' w'=>e' = .returned (.bool (Cy y e))/\Below w.heap.size w w':=by
 have HR:=Lib.hid (show ∀ W,Below w.heap.size w W->Ab.rd W W.heap.size y s from fun W hW=>Ab.rd_more (Ab.rd_below h hW) hW.size)
 obtain ⟨⟨A1,n1,c1⟩,⟨A2,n2,c2⟩⟩:=s
 obtain rfl:n2=y.runs.length:=RdL.at1 (s:=⟨A2,n2,c2⟩) h.2
 have h2:RdL Am w w.heap.size (.slice A2 y.runs.length c2) y.runs:=h.2
 have dI:y.runs.length<=2000000:=Nat.le_trans (Ar Bg _) (by unfold Ai at hl;omega)
 obtain ⟨pr,sq,rn,tk⟩:=e
 have X:=(DBox.new 31 [.int .i64 y.now,.int .i64 y.seq,.slice A1 n1 c1,.slice A2 y.runs.length c2] w (b:=w.heap.size) rfl).below ((Below.refl _ _).alloc (Nat.le_refl _) (.cells #[.int .i64 (⟨pr,sq,rn,tk⟩:Entry).prio,.int .i64 (⟨pr,sq,rn,tk⟩:Entry).seq,.int .i64 (⟨pr,sq,rn,tk⟩:Entry).run,.int .i64 (⟨pr,sq,rn,tk⟩:Entry).task] 93))
 have E:=DBox.new 93 [.int .i64 (⟨pr,sq,rn,tk⟩:Entry).prio,.int .i64 (⟨pr,sq,rn,tk⟩:Entry).seq,.int .i64 (⟨pr,sq,rn,tk⟩:Entry).run,.int .i64 (⟨pr,sq,rn,tk⟩:Entry).task] (w.alloc (.cells #[.int .i64 y.now,.int .i64 y.seq,.slice A1 n1 c1,.slice A2 y.runs.length c2] 31)) (b:=w.heap.size+1) (by simp)
 have B0:Below w.heap.size w ((w.alloc (.cells #[.int .i64 y.now,.int .i64 y.seq,.slice A1 n1 c1,.slice A2 y.runs.length c2] 31)).alloc (.cells #[.int .i64 (⟨pr,sq,rn,tk⟩:Entry).prio,.int .i64 (⟨pr,sq,rn,tk⟩:Entry).seq,.int .i64 (⟨pr,sq,rn,tk⟩:Entry).run,.int .i64 (⟨pr,sq,rn,tk⟩:Entry).task] 93)):=by repeat (first | exact Below.refl _ _ | refine Below.alloc ?_ (by simp<;>omega) _)
 have C:=C6 y (⟨A1,n1,c1⟩,⟨A2,y.runs.length,c2⟩) rn ((w.alloc (.cells #[.int .i64 y.now,.int .i64 y.seq,.slice A1 n1 c1,.slice A2 y.runs.length c2] 31)).alloc (.cells #[.int .i64 (⟨pr,sq,rn,tk⟩:Entry).prio,.int .i64 (⟨pr,sq,rn,tk⟩:Entry).seq,.int .i64 (⟨pr,sq,rn,tk⟩:Entry).run,.int .i64 (⟨pr,sq,rn,tk⟩:Entry).task] 93)) hl (HR.out _ B0)
 clear h
 rcases Cn y rn with hr | ⟨k,hk,hr⟩
 ·have H:=Lib.hid (Wn (e:=⟨pr,sq,rn,tk⟩) hr)
  rw [hr] at C
  clear hr
  go_enter Tryz.func135,Tryz.ntmps135
  go_wp2_with fail
  generalize ((w.alloc (.cells #[.int .i64 y.now,.int .i64 y.seq,.slice A1 n1 c1,.slice A2 y.runs.length c2] 31)).alloc (.cells #[.int .i64 (⟨pr,sq,rn,tk⟩:Entry).prio,.int .i64 (⟨pr,sq,rn,tk⟩:Entry).seq,.int .i64 (⟨pr,sq,rn,tk⟩:Entry).run,.int .i64 (⟨pr,sq,rn,tk⟩:Entry).task] 93))=W at *
  refine C.mono ?_
  rintro e1 w1 ⟨rfl,b1⟩
  replace X:=X.below b1
  replace E:=E.below b1
  obtain ⟨X_0,X_1,X_2,X_3,X_l⟩:=X.g4
  obtain ⟨E_0,E_1,E_2,E_3,E_l⟩:=E.g4
  have aN:=Bk w1
  go_wp2
  refine Ad (by kernel_rfl) (by kernel_rfl) ?_
  repeat (go_big_quiet_step (fail))
  refine wpQuiet_nil ?_
  rintro _ ⟨⟨w2,b2⟩,rfl⟩
  clear aN
  go_wp2
  go_ret
  exact ⟨Ac H.out.symm,Aa (Aa B0 b1) b2⟩
 ·have uJ:=Ek hl hk
  have HR2:=Lib.hid hr
  rw [hr] at C
  clear hr
  go_enter Tryz.func135,Tryz.ntmps135
  go_wp2_with fail
  generalize ((w.alloc (.cells #[.int .i64 y.now,.int .i64 y.seq,.slice A1 n1 c1,.slice A2 y.runs.length c2] 31)).alloc (.cells #[.int .i64 (⟨pr,sq,rn,tk⟩:Entry).prio,.int .i64 (⟨pr,sq,rn,tk⟩:Entry).seq,.int .i64 (⟨pr,sq,rn,tk⟩:Entry).run,.int .i64 (⟨pr,sq,rn,tk⟩:Entry).task] 93))=W at *
  refine C.mono ?_
  rintro e1 w1 ⟨rfl,b1⟩
  replace X:=X.below b1
  replace E:=E.below b1
  obtain ⟨X_0,X_1,X_2,X_3,X_l⟩:=X.g4
  obtain ⟨E_0,E_1,E_2,E_3,E_l⟩:=E.g4
  replace B0:=Aa B0 b1
  obtain ⟨b,o,⟨s1,⟨At,nt,ct⟩⟩,dW,aH,cB,c0_,c1_,c2_,c3_,c4_,c5_,c6_,c7_⟩:=(h2.below B0).run hk
  subst dW
  obtain rfl:nt=y.runs[k].tasks.length:=RdL.at1 (s:=⟨At,nt,ct⟩) cB.2
  have h3:RdL Cv w1 w.heap.size (.slice At y.runs[k].tasks.length ct) y.runs[k].tasks:=cB.2
  have fY:(k:Int)<(y.runs.length:Int):=by omega
  have dG:decide ((0:Int)<=(k:Int))=true:=decide_eq_true (by omega)
  have aN:=Bk w1
  have bJ:b<w1.heap.size:=Nat.lt_of_lt_of_le aH B0.size
  have wr1:IntKind.i64.wrap ((y.runs[k].tasks.length:Int) - 1)=(y.runs[k].tasks.length:Int) - 1:=IntWalk.i64_in _ (by omega)
  cases q:inB tk 0 ((y.runs[k].tasks.length:Int) - 1)
  ·have H:=Lib.hid (T8 (e:=⟨pr,sq,rn,tk⟩) hk HR2.out q)
   go_wp2
   refine Ad (by kernel_rfl) (by kernel_rfl) ?_
   repeat (go_big_quiet_step ((go_at_call 58;exact Bv (fun u=>Ap _ _ _ u.1))))
   refine wpQuiet_nil ?_
   rintro _ ⟨⟨w2,b2⟩,rfl⟩
   clear aN
   go_wp2
   go_ret
   exact ⟨Ac H.out.symm,Aa B0 b2⟩
  ·have qq:=Bf.1 q
   obtain ⟨t,rfl⟩:=Int.eq_ofNat_of_zero_le qq.1
   have ht:t<y.runs[k].tasks.length:=by omega
   obtain ⟨b',o',_,rV,bI,_,d0,d1,d2,d3⟩:=h3.task ht
   subst rV
   have eG:b'<w1.heap.size:=Nat.lt_of_lt_of_le bI B0.size
   have jR:(t:Int)<(y.runs[k].tasks.length:Int):=by omega
   have H:=Lib.hid (Wo (e:=⟨pr,sq,rn,(t:Int)⟩) hk HR2.out ht rfl)
   clear qq
   generalize y.runs[k].tasks[t].state=st at *
   cases q2:(st == 2)
   all_goals
    rw [q2] at H
    go_wp2
    refine Ad (by kernel_rfl) (by kernel_rfl) ?_
    repeat (go_big_quiet_step ((go_at_call 58;exact Bv (fun u=>Ap _ _ _ u.1))))
    refine wpQuiet_nil ?_
    rintro _ ⟨⟨w2,b2⟩,rfl⟩
    clear aN
    go_wp2
    go_ret
    exact ⟨Ac H.out.symm,Aa B0 b2⟩
theorem Mm (y:Yard) (s:Sl×Sl) (e:Entry) (w:World) (hl:Ai y<=2000000) (h:Ab.rd w w.heap.size y s) :
  Calls Tryz.prog 87 #[By y s,Fb e ()] w fun e' w'=>e' = .returned (.bool (Cy y e))/\Below w.heap.size w w':=by
 have HR:=Lib.hid (show ∀ W,Below w.heap.size w W->Ab.rd W W.heap.size y s from fun W hW=>Ab.rd_more (Ab.rd_below h hW) hW.size)
 obtain ⟨⟨A1,n1,c1⟩,⟨A2,n2,c2⟩⟩:=s
 obtain rfl:n2=y.runs.length:=RdL.at1 (s:=⟨A2,n2,c2⟩) h.2
 have h2:RdL Am w w.heap.size (.slice A2 y.runs.length c2) y.runs:=h.2
 have dI:y.runs.length<=2000000:=Nat.le_trans (Ar Bg _) (by unfold Ai at hl;omega)
 obtain ⟨pr,sq,rn,tk⟩:=e
 have X:=(DBox.new 31 [.int .i64 y.now,.int .i64 y.seq,.slice A1 n1 c1,.slice A2 y.runs.length c2] w (b:=w.heap.size) rfl).below ((Below.refl _ _).alloc (Nat.le_refl _) (.cells #[.int .i64 (⟨pr,sq,rn,tk⟩:Entry).prio,.int .i64 (⟨pr,sq,rn,tk⟩:Entry).seq,.int .i64 (⟨pr,sq,rn,tk⟩:Entry).run,.int .i64 (⟨pr,sq,rn,tk⟩:Entry).task] 93))
 have E:=DBox.new 93 [.int .i64 (⟨pr,sq,rn,tk⟩:Entry).prio,.int .i64 (⟨pr,sq,rn,tk⟩:Entry).seq,.int .i64 (⟨pr,sq,rn,tk⟩:Entry).run,.int .i64 (⟨pr,sq,rn,tk⟩:Entry).task] (w.alloc (.cells #[.int .i64 y.now,.int .i64 y.seq,.slice A1 n1 c1,.slice A2 y.runs.length c2] 31)) (b:=w.heap.size+1) (by simp)
 have B0:Below w.heap.size w ((w.alloc (.cells #[.int .i64 y.now,.int .i64 y.seq,.slice A1 n1 c1,.slice A2 y.runs.length c2] 31)).alloc (.cells #[.int .i64 (⟨pr,sq,rn,tk⟩:Entry).prio,.int .i64 (⟨pr,sq,rn,tk⟩:Entry).seq,.int .i64 (⟨pr,sq,rn,tk⟩:Entry).run,.int .i64 (⟨pr,sq,rn,tk⟩:Entry).task] 93)):=by repeat (first | exact Below.refl _ _ | refine Below.alloc ?_ (by simp<;>omega) _)
 have C:=Cz y (⟨A1,n1,c1⟩,⟨A2,y.runs.length,c2⟩) rn ((w.alloc (.cells #[.int .i64 y.now,.int .i64 y.seq,.slice A1 n1 c1,.slice A2 y.runs.length c2] 31)).alloc (.cells #[.int .i64 (⟨pr,sq,rn,tk⟩:Entry).prio,.int .i64 (⟨pr,sq,rn,tk⟩:Entry).seq,.int .i64 (⟨pr,sq,rn,tk⟩:Entry).run,.int .i64 (⟨pr,sq,rn,tk⟩:Entry).task] 93)) hl (HR.out _ B0)
 clear h
 rcases Cn y rn with hr | ⟨k,hk,hr⟩
 ·have H:=Lib.hid (Wn (e:=⟨pr,sq,rn,tk⟩) hr)
  rw [hr] at C
  clear hr
  go_enter Tryz.func87,Tryz.ntmps87
  go_wp2_with fail
  generalize ((w.alloc (.cells #[.int .i64 y.now,.int .i64 y.seq,.slice A1 n1 c1,.slice A2 y.runs.length c2] 31)).alloc (.cells #[.int .i64 (⟨pr,sq,rn,tk⟩:Entry).prio,.int .i64 (⟨pr,sq,rn,tk⟩:Entry).seq,.int .i64 (⟨pr,sq,rn,tk⟩:Entry).run,.int .i64 (⟨pr,sq,rn,tk⟩:Entry).task] 93))=W at *
  refine C.mono ?_
  rintro e1 w1 ⟨rfl,b1⟩
  replace X:=X.below b1
  replace E:=E.below b1
  obtain ⟨X_0,X_1,X_2,X_3,X_l⟩:=X.g4
  obtain ⟨E_0,E_1,E_2,E_3,E_l⟩:=E.g4
  have aN:=Bk w1
  go_wp2
  refine Ad (by kernel_rfl) (by kernel_rfl) ?_
  repeat (go_big_quiet_step (fail))
  refine wpQuiet_nil ?_
  rintro _ ⟨⟨w2,b2⟩,rfl⟩
  clear aN
  go_wp2
  go_ret
  exact ⟨Ac H.out.symm,Aa (Aa B0 b1) b2⟩
 ·have uJ:=Ek hl hk
  have HR2:=Lib.hid hr
  rw [hr] at C
  clear hr
  go_enter Tryz.func87,Tryz.ntmps87
  go_wp2_with fail
  generalize ((w.alloc (.cells #[.int .i64 y.now,.int .i64 y.seq,.slice A1 n1 c1,.slice A2 y.runs.length c2] 31)).alloc (.cells #[.int .i64 (⟨pr,sq,rn,tk⟩:Entry).prio,.int .i64 (⟨pr,sq,rn,tk⟩:Entry).seq,.int .i64 (⟨pr,sq,rn,tk⟩:Entry).run,.int .i64 (⟨pr,sq,rn,tk⟩:Entry).task] 93))=W at *
  refine C.mono ?_
  rintro e1 w1 ⟨rfl,b1⟩
  replace X:=X.below b1
  replace E:=E.below b1
  obtain ⟨X_0,X_1,X_2,X_3,X_l⟩:=X.g4
  obtain ⟨E_0,E_1,E_2,E_3,E_l⟩:=E.g4
  replace B0:=Aa B0 b1
  obtain ⟨b,o,⟨s1,⟨At,nt,ct⟩⟩,dW,aH,cB,c0_,c1_,c2_,c3_,c4_,c5_,c6_,c7_⟩:=(h2.below B0).run hk
  subst dW
  obtain rfl:nt=y.runs[k].tasks.length:=RdL.at1 (s:=⟨At,nt,ct⟩) cB.2
  have h3:RdL Cv w1 w.heap.size (.slice At y.runs[k].tasks.length ct) y.runs[k].tasks:=cB.2
  have fY:(k:Int)<(y.runs.length:Int):=by omega
  have dG:decide ((0:Int)<=(k:Int))=true:=decide_eq_true (by omega)
  have aN:=Bk w1
  have bJ:b<w1.heap.size:=Nat.lt_of_lt_of_le aH B0.size
  have wr1:IntKind.i64.wrap ((y.runs[k].tasks.length:Int) - 1)=(y.runs[k].tasks.length:Int) - 1:=IntWalk.i64_in _ (by omega)
  cases q:inB tk 0 ((y.runs[k].tasks.length:Int) - 1)
  ·have H:=Lib.hid (T8 (e:=⟨pr,sq,rn,tk⟩) hk HR2.out q)
   go_wp2
   refine Ad (by kernel_rfl) (by kernel_rfl) ?_
   repeat (go_big_quiet_step ((go_at_call 155;exact Bv (fun u=>Aj _ _ _ u.1))))
   refine wpQuiet_nil ?_
   rintro _ ⟨⟨w2,b2⟩,rfl⟩
   clear aN
   go_wp2
   go_ret
   exact ⟨Ac H.out.symm,Aa B0 b2⟩
  ·have qq:=Bf.1 q
   obtain ⟨t,rfl⟩:=Int.eq_ofNat_of_zero_le qq.1
   have ht:t<y.runs[k].tasks.length:=by omega
   obtain ⟨b',o',_,rV,bI,_,d0,d1,d2,d3⟩:=h3.task ht
   subst rV
   have eG:b'<w1.heap.size:=Nat.lt_of_lt_of_le bI B0.size
   have jR:(t:Int)<(y.runs[k].tasks.length:Int):=by omega
   have H:=Lib.hid (Wo (e:=⟨pr,sq,rn,(t:Int)⟩) hk HR2.out ht rfl)
   clear qq
   generalize y.runs[k].tasks[t].state=st at *
   cases q2:(st == 2)
   all_goals
    rw [q2] at H
    go_wp2
    refine Ad (by kernel_rfl) (by kernel_rfl) ?_
    repeat (go_big_quiet_step ((go_at_call 155;exact Bv (fun u=>Aj _ _ _ u.1))))
    refine wpQuiet_nil ?_
    rintro _ ⟨⟨w2,b2⟩,rfl⟩
    clear aN
    go_wp2
    go_ret
    exact ⟨Ac H.out.symm,Aa B0 b2⟩
end Go.Proofs.YtonlnjdempbfoaaGreat
