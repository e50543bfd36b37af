/-
  Draws: the cursor over the bytes of a draw, and what is drawn with it. Data of the type Deed: how it lies in memory, and the walks of the laws' helpers on it. W
-/
import Derived.Test.YtonlnjdempbfoaaGreatZFe0
import Derived.Test.YtonlnjdempbfoaaGreatZFe1
import Derived.Test.YtonlnjdempbfoaaGreatZFe2
import Derived.IntWalk
import Derived.Sort.OwnSortedInts
import Derived.Deep.Cut
namespace Go.Proofs.YtonlnjdempbfoaaGreat
open Go.RowKit
set_option maxRecDepth 100000
set_option maxHeartbeats 4000000
set_option linter.unusedVariables false
set_option linter.unusedSimpArgs false
open Value renaming int->J,slice->Aa
open IntKind renaming i64->U
open Option renaming none->Ab,some->Ac
open Nat renaming zero_le->Ag,le_trans->Ah,lt_of_lt_of_le->Ai
open Go renaming bodyPost_ret->Aj
open Go.Proofs.Tryz renaming prog->An
open Int renaming toNat_natCast->Ap,eq_ofNat_of_zero_le->Aq
open IntWalk renaming i64_in->Ar
open List renaming length_map->Au,mem_singleton->Av,getElem_mem->Aw,length_append->A0,mem_append_right->Bd,mem_append_left->Be,length_set->Bg,mem_append->Bh
def I7:Enc UInt8:={ cells:=fun x=>[.int .u8 (x.toNat:Int)],sz:=1,len:=fun _=>rfl,one:=fun _ u hu=>by simp at hu;subst hu;rfl }
structure Cur where
 i:Nat
 h:Int
abbrev Nj (v:Value) (c:Cur):List Value:=[v,.int .i64 (c.i:Int),.int .i64 c.h]
structure Drw (b:Nat) (v:Value) (code:List UInt8) (c:Cur) (w:World):Prop where
 box:DBox b (Nj v c) w
 rd:Rd I7 w b v code
 small:code.length<=1048576
 le:c.i<=code.length
def DrP (b:Nat) (v:Value) (code:List UInt8) (r:Value) (c':Cur) (w:World) (e:Ending) (w':World):Prop:=e = .returned r/\Drw b v code c' w'/\Chg [b] w w'
theorem Rd.byte {w:World} {B:Nat} {A:Option Addr} {n c:Nat} {l:List UInt8} (h:Rd I7 w B (Aa A n c) l) {k:Nat} (hk:k<l.length) :
  ∃ b o,A=Ac ⟨b,o,Ab⟩/\b<B/\w.cell? ⟨b,o+k,Ab⟩=Ac (.int .u8 (l[k].toNat:Int)):=by
 obtain ⟨A',c',hv,_,hA⟩:=h;obtain ⟨b,o,bJ,hb,hc⟩:=hA Bk;simp only [Value.slice.injEq] at hv;obtain ⟨rfl,_,_⟩:=hv;exact ⟨b,o,bJ,hb,by simpa [I7] using hc k hk 0 _ rfl⟩
theorem Xv (a:Int):0<=bits .and .i64 a 255/\bits .and .i64 a 255<=255:=by
 show 0<=U.wrap ((BitVec.ofInt 64 a &&& BitVec.ofInt 64 255).toNat:Int)/\U.wrap ((BitVec.ofInt 64 a &&& BitVec.ofInt 64 255).toNat:Int)<=255;have h:(BitVec.ofInt 64 a &&& BitVec.ofInt 64 255).toNat<=255:=by
  rw [BitVec.toNat_and];exact Nat.and_le_right
 rw [IntKind.wrap_i64];omega
def S9 (h:Int):Int:=wrap64 (wrap64 (h * 6364136223846793005)+1442695040888963407)
def Ae6 (h:Int):Int:=bits .and .i64 (bits .xor .i64 (h / 8589934592) (h / 35184372088832)) 255
def Dv (code:List UInt8) (c:Cur):Int×Cur :=
 if h:c.i<code.length then (bits .and .i64 (Ae6 (S9 c.h)+(code[c.i].toNat:Int)) 255,⟨c.i+1,S9 c.h⟩) else (Ae6 (S9 c.h),⟨c.i,S9 c.h⟩)
theorem Kv (code:List UInt8) (c:Cur):0<=(Dv code c).1/\(Dv code c).1<=255:=by
 unfold Dv;split
 ·exact Xv _
 ·exact Xv _
theorem Drw.chg {b:Nat} {v:Value} {code:List UInt8} {c:Cur} {w w':World} {F:List Nat} (h:Drw b v code c w) (hc:Chg F w w') (hF:∀ x∈F,b<x):Drw b v code c w' :=
 ⟨h.box.chg hc (fun hm=>by have:=hF _ hm;omega),h.rd.keep (fun p hp=>hc.cell (Nat.lt_trans hp h.box.lt) (fun hm=>by have:=hF _ hm;omega)),h.small,h.le⟩
theorem Drw.below {b:Nat} {v:Value} {code:List UInt8} {c:Cur} {w w':World} (h:Drw b v code c w) (hb:Below w w w'):Drw b v code c w' :=
 h.chg (Chg.of_below [] hb) (fun x hx=>by cases hx)
theorem Drw.step {b:Nat} {v:Value} {code:List UInt8} {c c':Cur} {w w':World} (h:Drw b v code c w) (hb:DBox b (Nj v c') w') (hc:Chg [b] w w') (hl:c'.i<=code.length):Drw b v code c' w' :=
 ⟨hb,h.rd.keep (fun p hp=>hc.cell (Nat.lt_trans hp h.box.lt) (fun hm=>by (have:p.block=b:=by simpa using hm);omega)),h.small,hl⟩
theorem DBox.drewN {b:Nat} {cs:List Value} {w:World} (h:DBox b cs w) (n:Nat):DBox b cs (w.drewN n):=⟨h.cell,h.free,h.lt⟩
theorem Chg.drewN {F:List Nat} {a w:World} (h:Chg F a w) (n:Nat):Chg F a (w.drewN n):=⟨h.os,h.tape,h.output,h.size,h.block⟩
theorem DBox.put1 {b:Nat} {x i y u:Value} {w:World} (h:DBox b [x,i,y] w):DBox b [x,u,y] (w.setCell ⟨b,1,Ab⟩ u):=h.put 1 Bm u
theorem DBox.put2 {b:Nat} {x i y u:Value} {w:World} (h:DBox b [x,i,y] w):DBox b [x,i,u] (w.setCell ⟨b,2,Ab⟩ u):=h.put 2 Bm u
theorem Chg.setOwn {b o:Nat} {a w:World} {u:Value} (h:Chg [b] a w):Chg [b] a (w.setCell ⟨b,o,Ab⟩ u):=h.trans (Chg.setCell w b o u)
theorem Nk (b:Nat) (v:Value) (code:List UInt8) (c:Cur) (w:World) (h:Drw b v code c w) :
  Calls An 47 #[.pointer (Ac ⟨b,0,Ab⟩)] w (DrP b v code (J U (Dv code c).1) (Dv code c).2 w):=by
 obtain ⟨A,cap,rfl,-⟩:=id h.rd;have c0:=h.box.cell 0 _ rfl;have c1:=h.box.cell 1 _ rfl;have c2:=h.box.cell 2 _ rfl;have cf:=h.box.free;have cl:=h.box.lt;have hs:=h.small;by_cases aA:c.i<code.length
 ·obtain ⟨g,o,rfl,hg,d0⟩:=h.rd.byte aA;have i1:(c.i:Int)<(code.length:Int):=Bk;have i0:(0:Int)<=(c.i:Int):=Bk;have aC:¬ g=b:=Bk;have hx:=Xv (bits .xor .i64 (wrap64 (wrap64 (c.h * 6364136223846793005)+1442695040888963407) / 8589934592) (wrap64 (wrap64 (c.h * 6364136223846793005)+1442695040888963407) / 35184372088832));have hy:(code[c.i].toNat:Int)<=255:=by have:=code[c.i].toNat_lt;omega
  go_enter Tryz.func47,Tryz.ntmps47;go_wp2;go_quiet (fail);go_wp2;go_quiet (fail);go_wp2;go_quiet (fail);go_wp2;go_ret;have e1:Dv code c=(bits .and .i64 (Ae6 (S9 c.h)+(code[c.i].toNat:Int)) 255,⟨c.i+1,S9 c.h⟩):=by unfold Dv;rw [dif_pos aA]
  rw [e1];refine ⟨rfl,h.step ?_ ?_ (by simp only;omega),?_⟩
  ·have e2:Nj (Value.slice (Ac ⟨g,o,Ab⟩) code.length cap) ⟨c.i+1,S9 c.h⟩=[Value.slice (Ac ⟨g,o,Ab⟩) code.length cap,J U ((c.i:Int)+1),J U (S9 c.h)]:=by simp [Nj]
   show DBox b (Nj (Value.slice (Ac ⟨g,o,Ab⟩) code.length cap) ⟨c.i+1,S9 c.h⟩) _;rw [e2];repeat (first | exact h.box | refine DBox.drewN ?_ _ | apply DBox.put1 | apply DBox.put2)
  all_goals repeat (first | exact Chg.refl _ _ | refine Chg.drewN ?_ _ | refine Chg.setOwn ?_)
 ·have pW:=h.le;have hq:decide ((c.i:Int)<(code.length:Int))=false:=by simp;omega
  go_enter Tryz.func47,Tryz.ntmps47;go_wp2;go_quiet (fail);go_wp2;go_quiet (fail);go_wp2;go_ret;have e1:Dv code c=(Ae6 (S9 c.h),⟨c.i,S9 c.h⟩):=by unfold Dv;rw [dif_neg aA]
  rw [e1];refine ⟨rfl,h.step ?_ ?_ pW,?_⟩
  ·show DBox b [_,J U (c.i:Int),J U (S9 c.h)] _;repeat (first | exact h.box | refine DBox.drewN ?_ _ | apply DBox.put1 | apply DBox.put2)
  all_goals repeat (first | exact Chg.refl _ _ | refine Chg.drewN ?_ _ | refine Chg.setOwn ?_)
/-! the cursor at its start -/
theorem Ae7 (a:Int):0<=bits .and .i64 a 1073741823/\bits .and .i64 a 1073741823<=1073741823:=by
 show 0<=U.wrap ((BitVec.ofInt 64 a &&& BitVec.ofInt 64 1073741823).toNat:Int)/\U.wrap ((BitVec.ofInt 64 a &&& BitVec.ofInt 64 1073741823).toNat:Int)<=1073741823;have h:(BitVec.ofInt 64 a &&& BitVec.ofInt 64 1073741823).toNat<=1073741823:=by
  rw [BitVec.toNat_and];exact Nat.and_le_right
 rw [IntKind.wrap_i64];omega
def Ta (code:List UInt8):Nat->Int
 | 0=>94701+code.length
 | k+1=>bits .and .i64 (Ta code k * 131+((code.getD k 0).toNat:Int)+7) 1073741823
theorem Ace (code:List UInt8) (hs:code.length<=1048576):∀ k,0<=Ta code k/\Ta code k<=1073741823
 | 0=>by unfold Ta;omega
 | k+1=>Ae7 _
theorem Ac4 (code:List UInt8) {k:Nat} (h:k<code.length):Ta code (k+1)=bits .and .i64 (Ta code k * 131+(code[k].toNat:Int)+7) 1073741823:=by
 rw [Ta,List.getD_eq_getElem?_getD,List.getElem?_eq_getElem h];rfl
def Iu (code:List UInt8):Cur:=⟨0,Ta code (min code.length 4000)⟩
def Af9 (v:Value) (code:List UInt8) (w:World) (e:Ending) (w':World):Prop:=∃ g,e = .returned (.pointer (Ac ⟨g,0,Ab⟩))/\g=w.heap.size/\Drw g v code (Iu code) w'/\Below w w w'
theorem Acf (v:Value) (code:List UInt8) (w:World) (hs:code.length<=1048576) (h:Rd I7 w w v code) :
  Calls An 46 #[v] w (Af9 v code w):=by
 obtain ⟨A,cap,rfl,-⟩:=id h;go_enter Tryz.func46,Tryz.ntmps46;go_wp2;go_loop [3,4] (fun x i=>∃ k:Nat,k<=min code.length 4000/\i = J U k/\x = J U (Ta code k)) (fun _ i=>code.length - (intOf i).toNat);case atStart=>exact ⟨0,Ag _,rfl,rfl⟩
 case round =>
  obtain ⟨k,hk,rfl,rfl⟩:=hrel;have hx:=Ace code hs k;by_cases aA:k<min code.length 4000
  ·have hl:k<code.length:=Bk;obtain ⟨g,o,rfl,hg,d0⟩:=h.byte hl;have i1:(k:Int)<(code.length:Int):=Bk;have i2:(k:Int)<4000:=Bk;have hy:(code[k].toNat:Int)<=255:=by have:=code[k].toNat_lt;omega
   have H:=Bp (Ac4 code hl);go_wp2;go_round;case rel=>exact ⟨k+1,Bk,by go_num,by rw [H.out]⟩
   case measure=>simp [intOf];omega
  ·have gY:=Bp (show k=min code.length 4000 by omega);by_cases h4:k<4000
   ·have i1:¬ (k:Int)<(code.length:Int):=Bk;go_wp2;go_ret;refine ⟨w,rfl,rfl,⟨?_,?_,hs,Ag _⟩,(Bq _ _).alloc (Br _) _⟩
    ·have e:Iu code=⟨0,Ta code k⟩:=by unfold Iu;rw [<-gY.out]
     rw [e];exact DBox.new _ _ _ rfl
    ·exact h.keep (fun p hp=>((Bq w w).alloc (Br _) _).cell hp)
   ·have rI:k=4000:=Bk;clear aA h4;subst rI;have pK:=Ace code hs 4000;clear hx;by_cases h5:4000<code.length
    ·have i2:(4000:Int)<(code.length:Int):=Bk;go_wp2;go_ret;refine ⟨w,rfl,rfl,⟨?_,?_,hs,Ag _⟩,(Bq _ _).alloc (Br _) _⟩
     ·have e:Iu code=⟨0,Ta code 4000⟩:=by unfold Iu;rw [<-gY.out]
      rw [e];exact DBox.new _ _ _ rfl
     ·exact h.keep (fun p hp=>((Bq w w).alloc (Br _) _).cell hp)
    ·have i2:¬ (4000:Int)<(code.length:Int):=Bk;go_wp2;go_ret;refine ⟨w,rfl,rfl,⟨?_,?_,hs,Ag _⟩,(Bq _ _).alloc (Br _) _⟩
     ·have e:Iu code=⟨0,Ta code 4000⟩:=by unfold Iu;rw [<-gY.out]
      rw [e];exact DBox.new _ _ _ rfl
     ·exact h.keep (fun p hp=>((Bq w w).alloc (Br _) _).cell hp)
/-! a number below another one -/
def Bt (code:List UInt8) (n:Int) (c:Cur):Int×Cur :=
 if n<=0 then (0,c) else if n<=256 then ((Dv code c).1 % n,(Dv code c).2) else
  let a:=Dv code c
  let b:=Dv code a.2
  let d:=Dv code b.2
  let e:=Dv code d.2
  ((a.1 * 16777216+b.1 * 65536+d.1 * 256+e.1) % n,e.2)
theorem Db (code:List UInt8) {n:Int} (c:Cur) (h:0<n):0<=(Bt code n c).1/\(Bt code n c).1<n:=by
 unfold Bt;rw [if_neg Bk];split
 ·exact ⟨Int.emod_nonneg _ Bk,Int.emod_lt_of_pos _ h⟩
 ·exact ⟨Int.emod_nonneg _ Bk,Int.emod_lt_of_pos _ h⟩
theorem Dw (n:Int) (b:Nat) (v:Value) (code:List UInt8) (c:Cur) (w:World) (hn:n<=1000000000000) (h:Drw b v code c w) :
  Calls An 48 #[.pointer (Ac ⟨b,0,Ab⟩),J U n] w (DrP b v code (J U (Bt code n c).1) (Bt code n c).2 w):=by
 by_cases h0:n<=0
 ·have e:Bt code n c=(0,c):=by unfold Bt;rw [if_pos h0]
  have E:=Bp e;clear e;go_enter Tryz.func48,Tryz.ntmps48;go_wp2;go_ret;rw [E.out];exact ⟨rfl,h,Chg.refl _ _⟩
 by_cases h1:n<=256
 ·have e:Bt code n c=((Dv code c).1 % n,(Dv code c).2):=by unfold Bt;rw [if_neg h0,if_pos h1]
  have E:=Bp e;clear e;have hb:=Kv code c;go_enter Tryz.func48,Tryz.ntmps48;go_wp2_with fail
  refine (Nk b v code c _ h).mono ?_;rintro e w1 ⟨rfl,h1,c1⟩;go_wp2;go_ret;rw [E.out];exact ⟨rfl,h1,c1⟩
 ·have e:Bt code n c=(((Dv code c).1 * 16777216+(Dv code (Dv code c).2).1 * 65536+(Dv code (Dv code (Dv code c).2).2).1 * 256+(Dv code (Dv code (Dv code (Dv code c).2).2).2).1) % n,(Dv code (Dv code (Dv code (Dv code c).2).2).2).2):=by
   unfold Bt;rw [if_neg h0,if_neg h1]
  have E:=Bp e;clear e;have b1:=Kv code c;have b2:=Kv code (Dv code c).2;have b3:=Kv code (Dv code (Dv code c).2).2;have b4:=Kv code (Dv code (Dv code (Dv code c).2).2).2;go_enter Tryz.func48,Tryz.ntmps48;go_wp2_with fail
  refine (Nk b v code c _ h).mono ?_;rintro e w1 ⟨rfl,k1,c1⟩;go_wp2_with fail
  refine (Nk b v code _ _ k1).mono ?_;rintro e w2 ⟨rfl,k2,c2⟩;go_wp2_with fail
  refine (Nk b v code _ _ k2).mono ?_;rintro e w3 ⟨rfl,k3,c3⟩;go_wp2_with fail
  refine (Nk b v code _ _ k3).mono ?_;rintro e w4 ⟨rfl,k4,c4⟩;go_wp2;go_ret;rw [E.out];exact ⟨rfl,k4,((c1.trans c2).trans c3).trans c4⟩
def Ek (code:List UInt8) (n:Int) (c:Cur):Bool×Cur:=((Bt code n c).1 == 0,(Bt code n c).2)
theorem Qe (n:Int) (b:Nat) (v:Value) (code:List UInt8) (c:Cur) (w:World) (hn:n<=1000000000000) (h:Drw b v code c w) :
  Calls An 156 #[.pointer (Ac ⟨b,0,Ab⟩),J U n] w (DrP b v code (.bool (Ek code n c).1) (Ek code n c).2 w):=by
 go_enter Tryz.func156,Tryz.ntmps156;go_wp2_with fail
 refine (Dw n b v code c _ hn h).mono ?_;rintro e w1 ⟨rfl,h1,c1⟩;go_wp2;go_ret;exact ⟨rfl,h1,c1⟩
structure Deed where
 kind:Int
 run:Int
 plan:Plan
 task:Int
 try_:Int
 worker:Int
 draw:Int
deriving DecidableEq,Inhabited
@[go_sem] abbrev Nl (x:Deed) (s:Sl):Value:=.agg #[.int .i64 x.kind,.int .i64 x.run,.int .i64 x.plan.prio,.int .i64 x.plan.most,.int .i64 x.plan.wait,.int .i64 x.plan.tasks,.slice s.a s.n s.c,.int .i64 x.task,.int .i64 x.try_,.int .i64 x.worker,.int .i64 x.draw]
abbrev I8:Dt Deed:=Dt.via Cm (·.plan) (fun q=>[.int .i64 q.1.kind,.int .i64 q.1.run,.int .i64 q.1.plan.prio,.int .i64 q.1.plan.most,.int .i64 q.1.plan.wait,.int .i64 q.1.plan.tasks,.slice q.2.a q.2.n q.2.c,.int .i64 q.1.task,.int .i64 q.1.try_,.int .i64 q.1.worker,.int .i64 q.1.draw]) 11 (fun _=>rfl) (fun q u hu=>by simp at hu;rcases hu with rfl | rfl | rfl | rfl | rfl | rfl | rfl | rfl | rfl | rfl | rfl<;>rfl)
theorem Abb:(An.info? 45).map (fun i=>(i.zero,i.size,i.bytes))=Ac (Ac (.agg #[J U 0,J U 0,J U 0,J U 0,J U 0,J U 0,Aa Ab 0 0,J U 0,J U 0,J U 0,J U 0]),11,104):=Bl
structure Run where
 id:Int
 plan:Plan
 state:Int
 tasks:List Task
deriving DecidableEq,Inhabited
@[go_sem] abbrev Hc (x:Run) (s:Sl×Sl):Value:=.agg #[.int .i64 x.id,.int .i64 x.plan.prio,.int .i64 x.plan.most,.int .i64 x.plan.wait,.int .i64 x.plan.tasks,.slice s.1.a s.1.n s.1.c,.int .i64 x.state,.slice s.2.a s.2.n s.2.c]
abbrev Co:Dt Run:=Dt.two Cm (Dt.list Eo) (·.plan) (·.tasks) (fun q=>[.int .i64 q.1.id,.int .i64 q.1.plan.prio,.int .i64 q.1.plan.most,.int .i64 q.1.plan.wait,.int .i64 q.1.plan.tasks,.slice q.2.1.a q.2.1.n q.2.1.c,.int .i64 q.1.state,.slice q.2.2.a q.2.2.n q.2.2.c]) 8 (fun _=>rfl) (fun q u hu=>by simp at hu;rcases hu with rfl | rfl | rfl | rfl | rfl | rfl | rfl | rfl<;>rfl)
def C9 (x:Run):Nat:=Js x.plan+Jx G8 x.tasks
theorem RdL.run {w:World} {B:Nat} {A:Option Addr} {n c:Nat} {l:List (Run)} (h:RdL Co w B (Aa A n c) l) {k:Nat} (hk:k<l.length) :
  ∃ b o,∃ s:Sl×Sl,A=Ac ⟨b,o,Ab⟩/\b<B/\Co.rd w B l[k] s/\w.cell? ⟨b,o+k * 8,Ab⟩=Ac (J U l[k].id)/\w.cell? ⟨b,o+k * 8+1,Ab⟩=Ac (J U l[k].plan.prio)/\w.cell? ⟨b,o+k * 8+2,Ab⟩=Ac (J U l[k].plan.most)/\w.cell? ⟨b,o+k * 8+3,Ab⟩=Ac (J U l[k].plan.wait)/\w.cell? ⟨b,o+k * 8+4,Ab⟩=Ac (J U l[k].plan.tasks)/\w.cell? ⟨b,o+k * 8+5,Ab⟩=Ac (Aa s.1.a s.1.n s.1.c)/\w.cell? ⟨b,o+k * 8+6,Ab⟩=Ac (J U l[k].state)/\w.cell? ⟨b,o+k * 8+7,Ab⟩=Ac (Aa s.2.a s.2.n s.2.c):=by
 obtain ⟨b,o,s,rfl,hb,hc,hr⟩:=h.at_ k hk;exact ⟨b,o,s,rfl,hb,hr,hc 0 _ rfl,hc 1 _ rfl,hc 2 _ rfl,hc 3 _ rfl,hc 4 _ rfl,hc 5 _ rfl,hc 6 _ rfl,hc 7 _ rfl⟩
theorem Foc.run {w:World} {b o n c j:Nat} {rs:List ((Run)×Sl×Sl)} {G1 Fx G2:List Nat} {x:Run} {s:Sl×Sl} (h:Foc Co w b o n c rs j G1 Fx G2 x s) :
  w.cell? ⟨b,o+j * 8,Ab⟩=Ac (J U x.id)/\w.cell? ⟨b,o+j * 8+1,Ab⟩=Ac (J U x.plan.prio)/\w.cell? ⟨b,o+j * 8+2,Ab⟩=Ac (J U x.plan.most)/\w.cell? ⟨b,o+j * 8+3,Ab⟩=Ac (J U x.plan.wait)/\w.cell? ⟨b,o+j * 8+4,Ab⟩=Ac (J U x.plan.tasks)/\w.cell? ⟨b,o+j * 8+5,Ab⟩=Ac (Aa s.1.a s.1.n s.1.c)/\w.cell? ⟨b,o+j * 8+6,Ab⟩=Ac (J U x.state)/\w.cell? ⟨b,o+j * 8+7,Ab⟩=Ac (Aa s.2.a s.2.n s.2.c):=⟨h.cells 0 _ rfl,h.cells 1 _ rfl,h.cells 2 _ rfl,h.cells 3 _ rfl,h.cells 4 _ rfl,h.cells 5 _ rfl,h.cells 6 _ rfl,h.cells 7 _ rfl⟩
theorem N2:(An.info? 89).map (fun i=>(i.zero,i.size,i.bytes))=Ac (Ac (.agg #[J U 0,J U 0,J U 0,J U 0,J U 0,Aa Ab 0 0,J U 0,Aa Ab 0 0]),8,96):=Bl
theorem Q7 {α:Type} {p:α->Bool} {l:List α} : (0<=E6 p l) ↔ ∃ x∈l,p x=true:=by
 unfold E6;cases h:l.findIdx? p with
 | none =>
  rw [List.findIdx?_eq_none_iff] at h;simp only;refine ⟨fun h=>absurd h Bk,?_⟩;rintro ⟨x,hx,hp⟩
  have:=h x hx
  rw [hp] at this;cases this
 | some i =>
  rw [List.findIdx?_eq_some_iff_getElem] at h;obtain ⟨hi,hp,_⟩:=h;simp only;exact ⟨fun _=>⟨_,Aw hi,hp⟩,fun _=>Bk⟩
theorem Xw (v:Value) (l:List Nat) (x:Nat) (B:Nat) (w:World) (hl:l.length<=2000000) (h:Rd Em w B v l) :
  Calls An 182 #[v,J U (x:Int)] w fun e w'=>e = .returned (J U (E6 (fun y=>decide (x=y)) l))/\w=w':=by
 obtain ⟨A,c,rfl,-⟩:=id h;go_enter Tryz.func182,Tryz.ntmps182;go_wp2;go_loop [8] (fun i=>∃ k:Nat,k<=l.length/\i = J U k/\Hid (∀ j (hj:j<k) (hj':j<l.length),decide (x=l[j])=false)) (fun i=>l.length - (intOf i).toNat);case atStart=>exact ⟨0,Ag _,rfl,fun j hj=>absurd hj Bk⟩
 case round =>
  obtain ⟨k,hk,rfl,bZ⟩:=hrel;by_cases aA:k<l.length
  ·obtain ⟨b,o,rfl,aG,c0⟩:=h.nat aA;have aB:(k:Int)<(l.length:Int):=Bk;by_cases hx:x=l[k]
   ·have H:=Bp (G7 (p:=fun y=>decide (x=y)) aA (fun j hj=>bZ.out j hj Bk) (show decide (x=l[k])=true by simp [hx]));have dZ:((x:Int) == (l[k]:Int))=true:=by simp [hx]
    clear hx;go_wp2;go_ret;exact ⟨Dg (by rw [H.out]),rfl⟩
   ·have dZ:((x:Int) == (l[k]:Int))=false:=beq_eq_false_iff_ne.2 Bk;have S:Hid (∀ j (hj:j<k+1) (hj':j<l.length),decide (x=l[j])=false):=by
     intro j hj hj';by_cases e:j=k
     ·subst e;simpa using hx
     ·exact bZ.out j Bk hj'
    clear hx;go_wp2;exact ⟨⟨k+1,Bk,by go_num,S⟩,by simp [intOf];omega⟩
  ·have aB:¬ (k:Int)<(l.length:Int):=Bk;have H:=Bp (Hg (p:=fun y=>decide (x=y)) (l:=l) (fun j hj=>bZ.out j Bk hj));go_wp2;go_ret;exact ⟨Dg (by rw [H.out]),rfl⟩
theorem M3 (v:Value) (l:List Nat) (x:Nat) (B:Nat) (w:World) (hl:l.length<=2000000) (h:Rd Em w B v l) :
  Calls An 118 #[v,J U (x:Int)] w fun e w'=>e = .returned (.bool (decide (x∈l)))/\w=w':=by
 have H:=Bp (show decide (0<=E6 (fun y=>decide (x=y)) l)=decide (x∈l) from decide_eq_decide.2 (Q7.trans Bm));go_enter Tryz.func118,Tryz.ntmps118;go_wp2_with fail
 refine (Xw v l x B _ hl h).mono ?_;rintro e w1 ⟨rfl,rfl⟩;go_wp2_with fail
 go_ret;exact ⟨Bw (by rw [<-H.out]),rfl⟩
noncomputable def Hi (l more:List Fence):List Fence:=more.foldl (fun a f=>(Da a f).1) l
theorem Xx (l:List Fence) (f:Fence):(Da l f).1.length<=max l.length 61:=by
 by_cases h:Ej l=false
 ·unfold Da;rw [if_pos h];exact Nat.le_max_left _ _
 ·have h1:=Qd l f;have h2:l.length<=60:=by
   have h3:Ej l=true:=by simpa using h
   simp only [Ej,Bool.and_eq_true,decide_eq_true_eq] at h3;exact h3.1
  omega
theorem Uo:∀ (more l:List Fence),(Hi l more).length<=max l.length 61
 | [],l=>Nat.le_max_left _ _
 | f :: more,l=>by
  have h1:=Uo more (Da l f).1;have h2:=Xx l f;show (Hi (Da l f).1 more).length<=_;omega
theorem Up (l more:List Fence) (h:l.length<=2000000):(Hi l more).length<=2000000:=by
 have:=Uo more l
 omega
theorem R8 (l more:List Fence) (k:Nat) (h:k<more.length):Hi l (more.take (k+1))=(Da (Hi l (more.take k)) more[k]).1:=by
 unfold Hi;rw [Dc more k h,List.foldl_append];rfl
theorem Uq (v:Value) (l:List Fence) (vm:Value) (more:List Fence) (w:World) (hl:l.length<=2000000) (hm:more.length<=2000000) (h:Rd Ch w w v l) (hr:Rd Ch w w vm more) :
  Calls An 20 #[v,vm] w fun e w'=>∃ v',e = .returned v'/\Ow Ch 65 w' w v' (Hi l more)/\Below w w w':=by
 obtain ⟨A,c,rfl,-⟩:=id h;obtain ⟨Am,cm,rfl,-⟩:=id hr;obtain ⟨i0,aL,aR,aS,aP⟩:=info_parts Ji;go_enter Tryz.func20,Tryz.ntmps20;go_wp2_with (at_builtin;refine Bz _ Ch Bo rfl (.const (.slice Ab 0 0)) (.tmp 8) rfl Tryz.underlying59 aL aR aS aP rfl (v:=.slice Ab 0 0) (l:=[]) rfl (Ow.nil Ch 65 _ w) rfl h Bm Bk Bo Bm ?_;intro v1 w1 o1 g1 _;rw [List.nil_append] at o1;have b1:=(Bq w _).grown g1 Bn (fun k hk=>by simp [Value.ownBlock] at hk<;>omega);clear g1)
 go_loopw [5,12] (fun q i wr=>∃ k:Nat,k<=more.length/\i = .int .i64 k/\Ow Ch 65 wr w q (Hi l (more.take k))/\Below w w wr) (fun _ i _=>more.length - (intOf i).toNat);case atStart=>exact ⟨0,Ag _,rfl,by simpa [Hi] using o1,b1⟩
 case round =>
  obtain ⟨k,hk,rfl,o,hb⟩:=hrel;by_cases aA:k<more.length
  ·obtain ⟨b,o',rfl,aG,y0,y1,y2,y3⟩:=(hr.below hb).fence aA;have eC:(k:Int)<(more.length:Int):=Bk;have bI:b<wr:=Ai aG hb.size;have ob:=o.below ((Bq wr wr).alloc (Br _) (.cells #[.int .i64 more[k].run,.int .i64 more[k].task,.int .i64 more[k].try_,.string more[k].text] 65));have bb:=hb.alloc hb.size (.cells #[.int .i64 more[k].run,.int .i64 more[k].task,.int .i64 more[k].try_,.string more[k].text] 65);have S:=Bp (R8 l more k aA);have pW:=Up l (more.take k) hl;go_wp2_with fail
   refine (Jj _ (Hi l (more.take k)) more[k] _ pW (Rd.of_own ob)).mono ?_;rintro e w2 ⟨v2,rfl,o2,c2⟩;rw [<-S.out] at o2;have o3:=o2.more (base':=w.heap.size) bb.size;have b3:=Bp (Bs bb c2);clear o2 c2 hb;go_wp2;exact ⟨⟨k+1,Bk,by go_num,o3,b3.out⟩,by simp [intOf];omega⟩
  ·have gY:k=more.length:=Bk;rw [gY,List.take_length] at o;clear gY;go_wp2;go_ret;exact ⟨_,rfl,o,hb⟩
theorem Ur (v:Value) (l:List Fence) (vm:Value) (more:List Fence) (w:World) (hl:l.length<=2000000) (hm:more.length<=2000000) (h:Rd Ch w w v l) (hr:Rd Ch w w vm more) :
  Calls An 24 #[v,vm] w fun e w'=>∃ v',e = .returned v'/\Ow Ch 65 w' w v' (Hi l more)/\Below w w w':=by
 obtain ⟨A,c,rfl,-⟩:=id h;obtain ⟨Am,cm,rfl,-⟩:=id hr;obtain ⟨i0,aL,aR,aS,aP⟩:=info_parts Ji;go_enter Tryz.func24,Tryz.ntmps24;go_wp2_with (at_builtin;refine Bz _ Ch Bo rfl (.tmp 7) (.tmp 8) rfl Tryz.underlying59 aL aR aS aP rfl (v:=.slice (Ac ⟨w,0,Ab⟩) 0 0) (l:=[]) rfl (Ow.empty Ch 65 w rfl) rfl ((h.below ((Bq _ _).alloc (Br _) _)).more (B':=w.heap.size+1) Bk) Bm Bk Bo Bm ?_;intro v1 w1 o1 g1 _;rw [List.nil_append] at o1;have b1:=((Bq w _).alloc (Br _) _).grown g1 Bn (fun k hk=>by simp [Value.ownBlock] at hk<;>omega);clear g1)
 go_loopw [5,6] (fun q i wr=>∃ k:Nat,k<=more.length/\i = .int .i64 k/\Ow Ch 65 wr w q (Hi l (more.take k))/\Below w w wr) (fun _ i _=>more.length - (intOf i).toNat);case atStart=>exact ⟨0,Ag _,rfl,by simpa [Hi] using o1,b1⟩
 case round =>
  obtain ⟨k,hk,rfl,o,hb⟩:=hrel;by_cases aA:k<more.length
  ·obtain ⟨b,o',rfl,aG,y0,y1,y2,y3⟩:=(hr.below hb).fence aA;have eC:(k:Int)<(more.length:Int):=Bk;have bI:b<wr:=Ai aG hb.size;have S:=Bp (R8 l more k aA);have pW:=Up l (more.take k) hl;go_wp2_with fail
   refine (Q6 _ (Hi l (more.take k)) more[k] _ pW (Rd.of_own o)).mono ?_;rintro e w2 ⟨v2,rfl,o2,c2⟩;rw [<-S.out] at o2;have o3:=o2.more (base':=w.heap.size) hb.size;have b3:=Bp (Bs hb c2);clear o2 c2 hb;go_wp2;exact ⟨⟨k+1,Bk,by go_num,o3,b3.out⟩,by simp [intOf];omega⟩
  ·have gY:k=more.length:=Bk;rw [gY,List.take_length] at o;clear gY;go_wp2;go_ret;exact ⟨_,rfl,o,hb⟩
theorem Chg.alloc {F:List Nat} {a w:World} (h:Chg F a w) (o:Obj):Chg F a (w.alloc o):=h.trans (Chg.of_below F ((Bq _ _).alloc (Br _) o))
theorem Chg.setNew {F:List Nat} {a w:World} (h:Chg F a w) {p:Addr} (hp:a.heap.size<=p.block) {u:Value} : Chg F a (w.setCell p u) :=
 ⟨h.os,h.tape,h.output,by have:=h.size;simpa [World.setCell] using this,fun i hi hn=>(Below.heap_setCell w p u i Bk).trans (h.block i hi hn)⟩
theorem Chg.grownNew {F:List Nat} {a w w':World} {row:Option Nat} (h:Chg F a w) (hg:w.grownBy w' row) (hr:∀ g,row=Ac g->a.heap.size<=g):Chg F a w' :=
 ⟨hg.os.trans h.os,hg.tape.trans h.tape,hg.output.trans h.output,Ah h.size hg.size,fun i hi hn=>(hg.block i (Ai hi h.size) (fun e=>by have:=hr i e.symm;omega)).trans (h.block i hi hn)⟩
theorem Chg.belowNew {F:List Nat} {a w w':World} (h:Chg F a w) (hb:Below w w w'):Chg F a w':=h.trans (Chg.of_below F hb)
theorem Chg.toGrown {b:Nat} {w w':World} (h:Chg [b] w w'):w.grownBy w' (Ac b) :=
 ⟨h.os,h.tape,h.output,h.size,fun k hk hn=>h.block k hk (fun hm=>hn (by simp only [Av] at hm;rw [hm]))⟩
theorem Drw.setNew {b:Nat} {v:Value} {code:List UInt8} {c:Cur} {w:World} (h:Drw b v code c w) {p:Addr} (hp:b<p.block) (u:Value):Drw b v code c (w.setCell p u):=by
 refine h.chg (F:=[p.block]) (w':=w.setCell p u) ⟨rfl,rfl,rfl,by simp [World.setCell],fun i _ hn=>Below.heap_setCell w p u i (by simpa using hn)⟩ (fun x hx=>by simp only [Av] at hx;omega)
theorem Drw.grownNew {b:Nat} {v:Value} {code:List UInt8} {c:Cur} {w w':World} {row:Option Nat} (h:Drw b v code c w) (hg:w.grownBy w' row) (hr:∀ g,row=Ac g->b<g):Drw b v code c w' :=
 h.chg (F:=row.toList) (Chg.grown hg (fun g e=>by simp [e])) (fun x hx=>hr x (by simpa using hx))
theorem Drw.alloc {b:Nat} {v:Value} {code:List UInt8} {c:Cur} {w:World} (h:Drw b v code c w) (o:Obj):Drw b v code c (w.alloc o):=h.below ((Bq _ _).alloc (Br _) o)
theorem Drw.drewN {b:Nat} {v:Value} {code:List UInt8} {c:Cur} {w:World} (h:Drw b v code c w) (n:Nat):Drw b v code c (w.drewN n):=⟨h.box.drewN n,h.rd,h.small,h.le⟩
theorem BoxAt.chg {F:List Nat} {b:Nat} {p:Plan} {v:Value} {w w':World} (h:BoxAt b p v w) (hc:Chg F w w') (hn:b∉F):BoxAt b p v w' :=
 h.keep hc.size (fun j=>hc.cell (p:=⟨b,j,Ab⟩) h.lt hn) (fun j=>hc.frozen (p:=⟨b,j,Ab⟩) h.lt hn)
theorem BoxAt.drewN {b:Nat} {p:Plan} {v:Value} {w:World} (h:BoxAt b p v w) (n:Nat):BoxAt b p v (w.drewN n):=⟨h.cells,h.free⟩
theorem Ow.chg {α:Type} {e:Enc α} {E:TypeId} {w w':World} {base b:Nat} {v:Value} {l:List α} (h:Ow e E w base v l) (hc:Chg [b] w w') (hb:b<base):Ow e E w' base v l :=
 h.grown hc.toGrown (.inr (fun e'=>by have:=h.within b e';omega))
theorem Ow.setLow {α:Type} {e:Enc α} {E:TypeId} {w:World} {base:Nat} {v:Value} {l:List α} (h:Ow e E w base v l) {a:Addr} (ha:a.block<base) (u:Value):Ow e E (w.setCell a u) base v l :=
 h.setOther (fun e'=>by have:=h.within _ e';omega) u
def R9 (code:List UInt8) (T:Int) (c:Cur):Int:=1+(Bt code (T - 1) (Bt code 9 c).2).1
def Ae8 (code:List UInt8) (T:Int) (c:Cur):Edge:=⟨(Bt code (R9 code T c) (Bt code (T - 1) (Bt code 9 c).2).2).1,R9 code T c⟩
def Afz (code:List UInt8) (T:Int) (c:Cur):Cur:=(Bt code (R9 code T c) (Bt code (T - 1) (Bt code 9 c).2).2).2
def Wg (es:List Edge) (e:Edge):List Edge:=if e∈es then es else es ++ [e]
def Ij (code:List UInt8) (T:Int):Nat->Nat->List Edge->Cur->List Edge×Cur
 | 0,_,es,c=>(es,c)
 | f+1,i,es,c=>if (i:Int)<(Bt code 9 c).1/\1<T then Ij code T f (i+1) (Wg es (Ae8 code T c)) (Afz code T c) else (es,(Bt code 9 c).2)
def Qf (once:Bool) (t:Int):Int:=if once=true then 12 else 1+t
def Hj (code:List UInt8) (c:Cur):Plan×Cur :=
 let a:=Bt code 4 c
 let b:=Bt code 3 a.2
 let d:=Bt code 4 b.2
 let t:=Bt code 6 d.2
 let o:=Ek code 10 t.2
 let g:=Ij code (Qf o.1 t.1) 10 0 [] o.2
 (⟨a.1,1+b.1,1+d.1,Qf o.1 t.1,g.1⟩,g.2)
def Afo (b:Nat) (v:Value) (code:List UInt8) (r:Plan×Cur) (w:World) (e:Ending) (w':World):Prop :=
 ∃ u,e = .returned (Gd r.1 u)/\Ow Gc 199 w' w u r.1.edges/\Drw b v code r.2 w'/\Chg [b] w w'
theorem Xy (b:Nat) (v:Value) (code:List UInt8) (c:Cur) (w:World) (h:Drw b v code c w) :
  Calls An 88 #[.pointer (Ac ⟨b,0,Ab⟩)] w (Afo b v code (Hj code c) w):=by
 have hb:=h.box.lt;go_enter Tryz.func88,Tryz.ntmps88;go_wp2_with fail
 have C0:=(Chg.refl [b] w).alloc (.cells #[.int .i64 0,.int .i64 0,.int .i64 0,.int .i64 0,.slice Ab 0 0] 43);have h:=h.alloc (.cells #[.int .i64 0,.int .i64 0,.int .i64 0,.int .i64 0,.slice Ab 0 0] 43);have R0:=BoxAt.new' 43 ⟨0,0,0,0,[]⟩ (.slice Ab 0 0) w rfl;have hbz:b<w:=hb;refine (Dw 4 b v code c _ Bk h).mono ?_;rintro e w1 ⟨rfl,k1,c1⟩;have B1:=Db code (n:=4) c Bk;generalize qE:Bt code 4 c=r1 at *
 have H1:=Bp qE;clear qE;have R1:=R0.chg c1 (by simp;omega);go_wp2_with fail
 refine (Dw 3 b v code _ _ Bk k1).mono ?_;rintro e w2 ⟨rfl,k2,c2⟩;have B2:=Db code (n:=3) r1.2 Bk;generalize pH:Bt code 3 r1.2=r2 at *
 have H2:=Bp pH;clear pH;have R2:=R1.chg c2 (by simp;omega);go_wp2_with fail
 refine (Dw 4 b v code _ _ Bk k2).mono ?_;rintro e w3 ⟨rfl,k3,c3⟩;have B3:=Db code (n:=4) r2.2 Bk;generalize hr3:Bt code 4 r2.2=r3 at *
 have H3:=Bp hr3;clear hr3;have R3:=R2.chg c3 (by simp;omega);go_wp2_with fail
 refine (Dw 6 b v code _ _ Bk k3).mono ?_;rintro e w4 ⟨rfl,k4,c4⟩;have B4:=Db code (n:=6) r3.2 Bk;generalize hr4:Bt code 6 r3.2=r4 at *
 have H4:=Bp hr4;clear hr4;have R4:=R3.chg c4 (by simp;omega);have C4:=(((C0.trans c1).trans c2).trans c3).trans c4;have S4:=C4.size;clear C0 c1 c2 c3 c4 R0 R1 R2 R3 h k1 k2 k3;go_wp2_with fail
 have P5:=BoxAt.new' 43 ⟨r1.1,1+r2.1,1+r3.1,1+r4.1,[]⟩ (.slice Ab 0 0) w4 rfl;have R5:=R4.below ((Bq _ _).alloc (Br _) (.cells #[.int .i64 r1.1,.int .i64 (1+r2.1),.int .i64 (1+r3.1),.int .i64 (1+r4.1),.slice Ab 0 0] 43));have C5:=C4.alloc (.cells #[.int .i64 r1.1,.int .i64 (1+r2.1),.int .i64 (1+r3.1),.int .i64 (1+r4.1),.slice Ab 0 0] 43);have k5:=k4.alloc (.cells #[.int .i64 r1.1,.int .i64 (1+r2.1),.int .i64 (1+r3.1),.int .i64 (1+r4.1),.slice Ab 0 0] 43);have R4s:=R4.lt;obtain ⟨pb,hpb⟩:∃ pb,pb=w4.heap.size:=⟨_,rfl⟩
 rw [<-hpb] at P5 R4s ⊢;generalize (w4.alloc (.cells #[.int .i64 r1.1,.int .i64 (1+r2.1),.int .i64 (1+r3.1),.int .i64 (1+r4.1),.slice Ab 0 0] 43))=w5 at *
 clear R4 C4 k4 S4 hpb;refine (Qe 10 b v code _ _ Bk k5).mono ?_;rintro e w6 ⟨rfl,k6,c6⟩;generalize hr5:Ek code 10 r4.2=r5 at *
 have H5:=Bp hr5;clear hr5;have P6:=P5.chg c6 (by simp;omega);have R6:=R5.chg c6 (by simp;omega);have C6:=C5.trans c6;clear c6 P5 R5 C5 k5;obtain ⟨T,hT,hT1,qM⟩:∃ T:Int,Hid (Qf r5.1 r4.1=T)/\1<=T/\T<=12:=⟨_,Bp rfl,by unfold Qf;split<;>omega,by unfold Qf;split<;>omega⟩
 have HE:Hid (∀ g,Ij code T 10 0 [] r5.2=g->Hj code c=(⟨r1.1,1+r2.1,1+r3.1,T,g.1⟩,g.2)):=by
  intro g hg;unfold Hj;simp only [H1.out,H2.out,H3.out,H4.out,H5.out,hT.out,hg]
 have P6c:=P6.cells;have P6f:=P6.free;obtain ⟨i0,aL,aR,aS,aP⟩:=info_parts Q1;cases ho:r5.1;case' false =>
  rw [ho] at hT;have hT':1+r4.1=T:=hT.out;rw [hT'] at P6;clear hT hT' P6c;have C7:=C6;have P7:=P6;have k7:=k6;have R7:=R6;have P7c:=P7.cells;go_wp2_with fail
 case' true =>
  rw [ho] at hT;have hT':(12:Int)=T:=hT.out;have C7:=C6.setNew (p:=⟨pb,3,Ab⟩) (u:=.int .i64 T) (by simp;omega);have P7:BoxAt pb ⟨r1.1,1+r2.1,1+r3.1,T,[]⟩ (.slice Ab 0 0) (w6.setCell ⟨pb,3,Ab⟩ (.int .i64 T)):=P6.setTasks T;have k7:=k6.setNew (p:=⟨pb,3,Ab⟩) (by simp;omega) (.int .i64 T);have R7:=R6.other (a:=⟨pb,3,Ab⟩) (by simp;omega) (.int .i64 T);go_wp2_with fail
  clear hT hT' P6c;generalize (w6.setCell ⟨pb,3,Ab⟩ (.int .i64 T))=w7 at *
 all_goals
  clear P6 k6 R6 C6 P6f;try clear P7c
  try clear H1 H2 H3 H4 H5
  go_loopw [4] (fun i wr=>∃ (k:Nat) (es:List Edge) (u:Value) (c':Cur),k<=9/\i = .int .i64 k/\es.length<=k/\Drw b v code c' wr/\BoxAt pb ⟨r1.1,1+r2.1,1+r3.1,T,es⟩ u wr/\Ow Gc 199 wr (pb+1) u es/\Chg [b] w wr/\BoxAt w ⟨0,0,0,0,[]⟩ (.slice Ab 0 0) wr/\Hid (Ij code T (10 - k) k es c'=Ij code T 10 0 [] r5.2)) (fun i _=>9 - (intOf i).toNat);case atStart=>exact ⟨0,[],_,_,Bk,rfl,Bm,k7,P7,Ow.nil _ _ _ _,C7,R7,rfl⟩
  case round =>
   clear C7 P7 k7 R7;obtain ⟨k,es,u,c',hk,rfl,pC,K,P,O,C,R,G⟩:=hrel;go_wp2_with fail
   refine (Dw 9 b v code _ _ Bk K).mono ?_;rintro e wa ⟨rfl,ka,ca⟩;have Ba:=Db code (n:=9) c' Bk;generalize sJ:Bt code 9 c'=q1 at *
   have Hq1:=Bp sJ;clear sJ;have Pa:=P.chg ca (by simp;omega);have Ra:=R.chg ca (by simp;omega);have Oa:=O.chg ca Bk;have Ca:=C.trans ca;clear K P R O C ca;obtain ⟨p0,p1,p2,p3,p4,ps⟩:=Pa.cells;obtain ⟨z0,z1,z2,z3,z4,zs⟩:=Ra.cells;have pf:=Pa.free;have zf:=Ra.free;by_cases pX:(k:Int)<q1.1/\1<T
   ·obtain ⟨g1,g2⟩:=pX;go_wp2_with fail
    refine (Dw (T - 1) b v code _ _ Bk ka).mono ?_;rintro e wb ⟨rfl,kb,cb⟩;have Bb:=Db code (n:=T - 1) q1.2 Bk;generalize hq2:Bt code (T - 1) q1.2=q2 at *
    have Hq2:=Bp hq2;clear hq2 p0 p1 p2 p3 p4 ps z0 z1 z2 z3 z4 zs pf zf;have Pb:=Pa.chg cb (by simp;omega);have Rb:=Ra.chg cb (by simp;omega);have Ob:=Oa.chg cb Bk;have Cb:=Ca.trans cb;clear ka Pa Ra Oa Ca cb;go_wp2_with fail
    refine (Dw (1+q2.1) b v code _ _ Bk kb).mono ?_;rintro e wc ⟨rfl,kc,cc⟩;have Bc:=Db code (n:=1+q2.1) q2.2 Bk;generalize hq3:Bt code (1+q2.1) q2.2=q3 at *
    have Hq3:=Bp hq3;clear hq3;have Pc:=Pb.chg cc (by simp;omega);have Rc:=Rb.chg cc (by simp;omega);have Oc:=Ob.chg cc Bk;have Cc:=Cb.trans cc;clear kb Pb Rb Ob Cb cc;go_wp2_with fail
    have ha:Below wc wc (wc.alloc (.cells #[.int .i64 q3.1,.int .i64 (1+q2.1)] 199)):=(Bq _ _).alloc (Br _) _;have D:=EdgeAt.new 199 ⟨q3.1,1+q2.1⟩ wc;have eb:pb<wc:=Pc.lt;have Pd:=Pc.below ha;have Re:=Rc.below ha;have Od:=Oc.below ha;have Cd:=Cc.belowNew ha;have kd:=kc.below ha;obtain ⟨ep,hep⟩:∃ ep,ep=wc.heap.size:=⟨_,rfl⟩
    rw [<-hep] at D eb ⊢;generalize (wc.alloc (.cells #[.int .i64 q3.1,.int .i64 (1+q2.1)] 199))=wd at *
    have eO:Hid (∀ g,u.ownBlock=Ac g->g<ep):=fun g hg=>by have:=Oc.within g hg;omega
    clear Pc Rc Oc Cc kc ha hep;obtain ⟨A,cap,rfl,-⟩:=id (Rd.of_own Od);obtain ⟨p0,p1,p2,p3,p4,ps⟩:=Pd.cells;obtain ⟨d0,d1,ds⟩:=D.cells;go_loopw [7,8] (fun tw j wq=>∃ m n:Nat,m<=es.length/\j = .int .i64 m/\tw = .bool (decide ((⟨q3.1,1+q2.1⟩:Edge)∈es.take m))/\wq=wd.drewN n) (fun _ j _=>es.length - (intOf j).toNat);case atStart=>exact ⟨0,0,Ag _,rfl,Bm,rfl⟩
    case round =>
     obtain ⟨m,nd,hm,rfl,rfl,rfl⟩:=hrel;by_cases aA:m<es.length
     ·have aB:(m:Int)<(es.length:Int):=Bk;have rN:(0:Int)<=(m:Int):=Bk;obtain ⟨g,oo,rfl,hgg,x0,x1⟩:=(Rd.of_own Od).edge aA;obtain ⟨z0,z1,z2⟩:True/\True/\True:=⟨trivial,trivial,trivial⟩
      have hnx:Hid (∀ t,t=decide ((⟨q3.1,1+q2.1⟩:Edge)∈es.take (m+1))->Value.bool t = .bool (decide ((⟨q3.1,1+q2.1⟩:Edge)∈es.take (m+1)))):=fun t h=>by rw [h]
      cases hd:decide ((⟨q3.1,1+q2.1⟩:Edge)∈es.take m)
      ·by_cases e0:es[m].fr=q3.1
       ·by_cases e1:es[m].to=1+q2.1
        ·have S:Hid (decide ((⟨q3.1,1+q2.1⟩:Edge)∈es.take (m+1))=true):=by
          refine decide_eq_true ?_;rw [Dc es m aA];refine Bd _ (Av.2 ?_);cases hx:es[m];rw [hx] at e0 e1;simp only at e0 e1;rw [e0,e1]
         rw [e0] at x0;rw [e1] at x1;clear e0 e1 hd;go_wp2;go_quiet (fail);go_wp2;exact ⟨⟨m+1,_,Bk,by go_num,by rw [S.out],rfl⟩,by simp [intOf];omega⟩
        ·have S:Hid (decide ((⟨q3.1,1+q2.1⟩:Edge)∈es.take (m+1))=false):=by
          refine decide_eq_false ?_;rw [Dc es m aA,Bh,Av];rintro (h | h)
          ·exact of_decide_eq_false hd h
          ·rw [<-h] at e1;exact e1 rfl
         have e1':(es[m].to == 1+q2.1)=false:=beq_eq_false_iff_ne.2 e1;rw [e0] at x0;clear e0 e1 hd;go_wp2;go_quiet (fail);go_wp2;exact ⟨⟨m+1,_,Bk,by go_num,by rw [S.out],rfl⟩,by simp [intOf];omega⟩
       ·have S:Hid (decide ((⟨q3.1,1+q2.1⟩:Edge)∈es.take (m+1))=false):=by
         refine decide_eq_false ?_;rw [Dc es m aA,Bh,Av];rintro (h | h)
         ·exact of_decide_eq_false hd h
         ·rw [<-h] at e0;exact e0 rfl
        have e0':(es[m].fr == q3.1)=false:=beq_eq_false_iff_ne.2 e0;clear e0 hd;go_wp2;go_quiet (fail);go_wp2;exact ⟨⟨m+1,_,Bk,by go_num,by rw [S.out],rfl⟩,by simp [intOf];omega⟩
      ·have S:Hid (decide ((⟨q3.1,1+q2.1⟩:Edge)∈es.take (m+1))=true):=by
        refine decide_eq_true ?_;rw [Dc es m aA];exact Be _ (of_decide_eq_true hd)
       clear hd;go_wp2;go_quiet (fail);go_wp2;exact ⟨⟨m+1,_,Bk,by go_num,by rw [S.out],rfl⟩,by simp [intOf];omega⟩
     ·have rH:m=es.length:=Bk;subst rH;have aB:¬ (es.length:Int)<(es.length:Int):=Bk;rw [List.take_length];have H1':10 - k=(9 - k)+1:=Bk;have GO:∀ g,Ij code T (9 - k) (k+1) (Wg es ⟨q3.1,1+q2.1⟩) q3.2=g->Ij code T 10 0 [] r5.2=g:=by
       intro g hg;rw [<-G.out,H1',Ij,if_pos (by rw [Hq1.out];exact ⟨g1,g2⟩)];unfold Ae8 Afz R9;rw [Hq1.out,Hq2.out,Hq3.out];exact hg
      have GO:=Bp GO;cases hd:decide ((⟨q3.1,1+q2.1⟩:Edge)∈es)
      ·have S:Hid (Wg es ⟨q3.1,1+q2.1⟩=es ++ [⟨q3.1,1+q2.1⟩]):=by
        show Wg _ _=_;unfold Wg;rw [if_neg (of_decide_eq_false hd)]
       clear hd H1';have kx:=kd.drewN nd;have Px:=Pd.drewN nd;have Ox:=Od.below (Cj (Bq _ wd) nd);have Cx:=Cd.drewN nd;have Rx:=Re.drewN nd;have hzx:ep<(wd.drewN nd):=ds;have q0:(wd.drewN nd).cell? ⟨pb,4,Ab⟩=Ac (.slice A es.length cap):=p4;have q1':(wd.drewN nd).cell? ⟨ep,0,Ab⟩=Ac (.int .i64 q3.1):=d0;have q2':(wd.drewN nd).cell? ⟨ep,1,Ab⟩=Ac (.int .i64 (1+q2.1)):=d1;clear p0 p1 p2 p3 p4 ps d0 d1 ds D Od kd Pd Cd Re eO;generalize wd.drewN nd=wx at *
       have nY:Below wx wx (wx.alloc (.cells #[.int .i64 q3.1,.int .i64 (1+q2.1)] 199)):=(Bq _ _).alloc (Br _) _;have aC:Hid (Ac pb≠(Value.slice A es.length cap).ownBlock):=fun e=>by have:=Ox.within pb e.symm;omega
       go_wp2_with (at_builtin;refine Bz _ Gc Bo rfl (.tmp 66) (.tmp 68) rfl Tryz.underlying41 aL aR aS aP rfl (v:=.slice A es.length cap) (l:=es) rfl (Ox.below nY) rfl (Rd.one Gc _ _ ⟨q3.1,1+q2.1⟩ rfl rfl 1 (Br _) (Nat.lt_succ_self _)) Bk Bm Bo (by simp;omega) ?_;intro v5 w5 o5 g5 f5;obtain ⟨A5,c5,rfl,-⟩:=id (Rd.of_own o5);have P5:=(Px.below nY).far g5 aC.out;have pf5:=P5.free;have pc5:=P5.cells)
       have eE:∀ g,(Value.slice A es.length cap).ownBlock=Ac g->pb<g:=fun g hg=>by have:=Ox.within g hg;omega
       have e9:9 - k=10 - (k+1):=Bk;refine ⟨⟨k+1,es ++ [⟨q3.1,1+q2.1⟩],_,q3.2,Bk,by go_num,by simp;omega,((kx.below nY).grownNew g5 (fun g hg=>by have:=eE g hg;omega)).setNew (by show b<pb;omega) _,P5.setEdges _ _,(by have:=o5.setLow (a:=⟨pb,4,Ab⟩) (Nat.lt_succ_self pb) (.slice A5 (es.length+1) c5);simp only [A0,List.length_singleton] at this;exact this),((Cx.belowNew nY).grownNew g5 (fun g hg=>by have:=eE g hg;omega)).setNew (by show w.heap.size<=pb;omega),((Rx.below nY).far g5 (fun e=>by have:=eE _ e.symm;omega)).other (by show w.heap.size≠pb;omega) _,?_⟩,by simp [intOf];omega⟩;show Ij code T (10 - (k+1)) (k+1) (es ++ [⟨q3.1,1+q2.1⟩]) q3.2=_
       have:=GO.out _ rfl
       rw [S.out] at this;rw [this,e9]
      ·have S:Hid (Wg es ⟨q3.1,1+q2.1⟩=es):=by
        show Wg _ _=_;unfold Wg;rw [if_pos (of_decide_eq_true hd)]
       clear hd H1';go_wp2;refine ⟨⟨k+1,es,_,q3.2,Bk,by go_num,Bk,kd.drewN _,Pd.drewN _,Od.below (Cj (Bq _ _) _),Cd.drewN _,Re.drewN _,?_⟩,by simp [intOf];omega⟩;show Ij code T (10 - (k+1)) (k+1) es q3.2=_
       have:=GO.out _ rfl
       rw [S.out] at this;rw [this];congr 1;omega
   ·have GE:Hid (Ij code T 10 0 [] r5.2=(es,q1.2)):=by
     show Ij code T 10 0 [] r5.2=(es,q1.2)
     rw [<-G.out,show 10 - k=(9 - k)+1 by omega,Ij,if_neg (by rw [Hq1.out];exact pX),Hq1.out]
    have E:=Bp (HE.out _ GE.out);obtain ⟨A,cap,rfl,-⟩:=id (Rd.of_own Oa);clear HE G Hq1 GE hk pC;have eL:∀ W,W=((((wa.setCell ⟨w,0,Ab⟩ (.int .i64 r1.1)).setCell ⟨w,1,Ab⟩ (.int .i64 (1+r2.1))).setCell ⟨w,2,Ab⟩ (.int .i64 (1+r3.1))).setCell ⟨w,3,Ab⟩ (.int .i64 T)).setCell ⟨w,4,Ab⟩ (.slice A es.length cap) ->
      Afo b v code (Hj code c) w (.returned (Gd ⟨r1.1,1+r2.1,1+r3.1,T,es⟩ (.slice A es.length cap))) W:=by
     rintro W rfl;rw [E.out];have hO:∀ {W:World},Ow Gc 199 W (pb+1) (.slice A es.length cap) es -> ∀ j u',Ow Gc 199 (W.setCell ⟨w,j,Ab⟩ u') (pb+1) (.slice A es.length cap) es:=fun h j u'=>h.setLow (a:=⟨w,j,Ab⟩) (Nat.lt_succ_of_lt R4s) _;refine ⟨_,rfl,(hO (hO (hO (hO (hO Oa 0 _) 1 _) 2 _) 3 _) 4 _).more Bk,?_,?_⟩
     ·repeat (first | exact ka | refine Drw.setNew ?_ (by simp;omega) _)
     ·repeat (first | exact Ca | refine Chg.setNew ?_ Bm)
    by_cases g1:(k:Int)<q1.1
    ·have g2:¬ 1<T:=fun h=>pX ⟨g1,h⟩;clear pX;go_wp2;refine Aj (v:=Gd ⟨r1.1,1+r2.1,1+r3.1,T,es⟩ (.slice A es.length cap)) ?_ rfl (eL _ rfl);simp [Gd,results,Tryz.results88,go_sem, *]
    ·clear pX;go_wp2;refine Aj (v:=Gd ⟨r1.1,1+r2.1,1+r3.1,T,es⟩ (.slice A es.length cap)) ?_ rfl (eL _ rfl);simp [Gd,results,Tryz.results88,go_sem, *]
abbrev Af0 (l:List UInt8):Value:=.string ⟨l.toArray⟩
def Tb (n:Nat):List UInt8:=if h:n<128 then [UInt8.ofNat n] else UInt8.ofNat (n % 128+128) :: Tb (n / 128)
termination_by n
decreasing_by omega
def Gs (n:Int):List UInt8:=if inB n 0 1000000000 then Tb n.toNat else []
theorem Ad9 (n k:Nat) (h:n<128 ^ (k+1)):(Tb n).length<=k+1:=by
 induction k generalizing n with
 | zero=>rw [Tb,dif_pos (by simpa using h)];simp
 | succ k ih =>
  rw [Tb];split
  ·simp
  ·rw [List.length_cons]
   have:=ih (n / 128) (by rw [Nat.div_lt_iff_lt_mul Bo];rw [Nat.pow_succ] at h;exact h)
   omega
theorem Y9 (n:Int):(Gs n).length<=5:=by
 unfold Gs;split
 ·rename_i h;refine Ad9 _ 4 ?_;simp [inB] at h;omega
 ·simp
theorem Ac5:(An.info? 5).map (fun i=>(i.zero,i.size,i.bytes))=Ac (Ac (.int .u8 0),1,1):=Bl
def Ae9 (l:List UInt8) (w:World) (e:Ending) (w':World):Prop:=e = .returned (Af0 l)/\Below w w w'
theorem Za {base n c:Nat} {A:Option Addr} {l:List UInt8} {w:World} (h:Ow I7 5 w base (.slice A n c) l) :
  (convert 22 9 (.slice A n c)).run An w = .ok (Af0 l) w:=by
 rcases h.form with ⟨h1,rfl⟩ | ⟨g,cap,h1,_,_,_,_,_,hc⟩
 ·simp only [Value.slice.injEq] at h1;obtain ⟨rfl,rfl,rfl⟩:=h1;rw [run_convert_bytes_string w _ _ 5 Ab 0 0 Tryz.underlying22 Tryz.underlying5 Tryz.underlying9];rfl
 ·simp only [Value.slice.injEq] at h1;obtain ⟨rfl,rfl,rfl⟩:=h1;exact run_convert_bytes_back (P:=An) w 22 9 5 ⟨g,0,Ab⟩ c l Tryz.underlying22 Tryz.underlying5 Tryz.underlying9 (fun j hj=>by
   have:=hc j hj 0 _ rfl
   have e:(⟨g,0,Ab⟩:Addr).add j=⟨g,j,Ab⟩:=by unfold Addr.add;split<;>simp_all
   rw [e];simpa [I7] using this)
theorem Wt (w:World) (n:Int) (x:UInt8) (h:(x.toNat:Int)=n) (T:TypeId):∀ (j:Nat) (u:Value),(I7.cells x)[j]? = Ac u->(w.alloc (.cells #[.int .u8 n] T)).cell? ((⟨w,0,Ab⟩:Addr).add j)=Ac u:=by
 subst h;exact Py _ #[_] _ Bm
theorem Tc (n:Int) (w:World) :
  Calls An 253 #[.int .i64 n] w (Ae9 (Gs n) w):=by
 by_cases hi:inB n 0 1000000000=true;case neg =>
  have hif:inB n 0 1000000000=false:=by simpa using hi
  have H:=Bp (show Gs n=[] by unfold Gs;rw [if_neg hi]);go_enter Tryz.func253,Tryz.ntmps253;go_wp2_with (go_at_call 155;refine (Cf _ _ _ _).mono ?_;rintro e w3 ⟨rfl,rfl⟩)
  go_ret;exact ⟨by rw [H.out];rfl,Bq _ _⟩
 obtain ⟨i0,aL,aR,aS,aP⟩:=info_parts Ac5;have hV:=Bp (show Gs n=Tb n.toNat by unfold Gs;rw [if_pos hi]);have hn0:0<=n/\n<=1000000000:=by simpa [inB] using hi
 go_enter Tryz.func253,Tryz.ntmps253;go_wp2_with (go_at_call 155;refine (Cf _ _ _ _).mono ?_;rintro e w3 ⟨rfl,rfl⟩)
 go_loopw [0,3] (fun q x wr=>∃ (m:Nat) (l:List UInt8) (v:Value),Hid (l ++ Tb m=Tb n.toNat)/\Hid (∃ k,m<128 ^ k/\l.length+k=5)/\m<=1000000000/\q = .int .i64 m/\v=x/\Hid (Ow I7 5 wr w v l)/\Below w w wr) (fun q _ _=>(intOf q).toNat);case atStart=>exact ⟨n.toNat,[],_,rfl,⟨5,Bk,rfl⟩,Bk,by rw [Int.toNat_of_nonneg Bk],rfl,Ow.empty I7 5 w (g:=w.heap.size) Bm,(Bq _ _).alloc (Br _) _⟩
 case round =>
  obtain ⟨m,l,v,hl,aK,hm,rfl,rfl,hO,hb⟩:=hrel;have eD:l.length<=5:=by obtain ⟨k,_,hk⟩:=aK.out;omega
  by_cases h8:m<128
  ·have h8':¬ (127:Int)<(m:Int):=Bk;have hv:((UInt8.ofNat m).toNat:Int)=(m:Int):=by simp;omega
   have H:=Bp (show Gs n=l ++ [UInt8.ofNat m] by rw [hV.out,<-hl.out,Tb,dif_pos h8]);go_wp2_with (at_builtin;refine Nb (v:=v) I7 Bo rfl (.tmp 19) (.tmp 22) rfl Tryz.underlying22 aL aR aS aP rfl (UInt8.ofNat m) rfl (hO.out.below ((Bq wr wr).alloc Bm _)) ⟨wr,0,Ab⟩ 1 rfl (Wt _ _ _ hv _) Bk Bo (by have:=hb.size;simp;omega) ?_;intro v5 w5 o5 g5;obtain ⟨A9,c9,rfl,-⟩:=id (Rd.of_own o5);simp only [A0,List.length_singleton] at o5;have cv:=Za o5;have eE:=(hb.alloc hb.size (.cells #[.int .u8 ((m:Int))] 5)).grown g5 (by have:=hb.size;simp;omega) (fun g hg=>(hO.out.within g hg).1))
   go_ret;exact ⟨by rw [H.out];rfl,eE⟩
  ·have h8':(127:Int)<(m:Int):=Bk;have dS:=Bp (show ∃ k,m / 128<128 ^ k/\(l ++ [UInt8.ofNat (m % 128+128)]).length+k=5 by
    obtain ⟨k,hk,aZ⟩:=aK.out;obtain ⟨k,rfl⟩:∃ k',k=k'+1:=by
     cases k with
     | zero=>simp at hk;omega
     | succ k=>exact ⟨k,rfl⟩
    refine ⟨k,?_,?_⟩
    ·rw [Nat.div_lt_iff_lt_mul Bo,<-Nat.pow_succ];exact hk
    ·rw [A0,List.length_singleton];omega)
   have hv:((UInt8.ofNat (m % 128+128)).toNat:Int)=128+(m:Int) % 128:=by simp;omega
   have S:Hid ((l ++ [UInt8.ofNat (m % 128+128)]) ++ Tb (m / 128)=Tb n.toNat):=by
    show _=_;rw [<-hl.out,List.append_assoc];conv=>rhs;rw [Tb,dif_neg h8]
    rfl
   go_wp2_with (at_builtin;refine Nb (v:=v) I7 Bo rfl (.tmp 10) (.tmp 15) rfl Tryz.underlying22 aL aR aS aP rfl (UInt8.ofNat (m % 128+128)) rfl (hO.out.below ((Bq wr wr).alloc Bm _)) ⟨wr,0,Ab⟩ 1 rfl (Wt _ _ _ hv _) Bk Bo (by have:=hb.size;simp;omega) ?_;intro v5 w5 o5 g5;obtain ⟨A9,c9,rfl,-⟩:=id (Rd.of_own o5);simp only [A0,List.length_singleton] at o5;have cv:=Za o5;have eE:=(hb.alloc hb.size (.cells #[.int .u8 (128+(m:Int) % 128)] 5)).grown g5 (by have:=hb.size;simp;omega) (fun g hg=>(hO.out.within g hg).1))
   exact ⟨⟨m / 128,_,_,S,dS,Bk,by go_num,rfl,o5,eE⟩,by simp [intOf];omega⟩
structure Yard where
 now:Int
 seq:Int
 shelf:List (List Entry)
 runs:List Run
deriving DecidableEq,Inhabited
@[go_sem] abbrev Du (x:Yard) (s:Sl×Sl):Value:=.agg #[.int .i64 x.now,.int .i64 x.seq,.slice s.1.a s.1.n s.1.c,.slice s.2.a s.2.n s.2.c]
abbrev Bu:Dt Yard:=Dt.two (Dt.list (Dt.list Cg)) (Dt.list Co) (·.shelf) (·.runs) (fun q=>[.int .i64 q.1.now,.int .i64 q.1.seq,.slice q.2.1.a q.2.1.n q.2.1.c,.slice q.2.2.a q.2.2.n q.2.2.c]) 4 (fun _=>rfl) (fun q u hu=>by simp at hu;rcases hu with rfl | rfl | rfl | rfl<;>rfl)
def Ci (x:Yard):Nat:=Jx De x.shelf+Jx C9 x.runs
theorem owB {w w':World} {F:List Nat} {y:Yard} {s:Sl×Sl} (h:Bu.ow w F y s) (hb:Below w w w'):Bu.ow w' F y s:=Bu.ow_below (F:=F) (x:=y) (s:=s) h hb
theorem owC {w w':World} {F G:List Nat} {y:Yard} {s:Sl×Sl} (h:Bu.ow w F y s) (hc:Chg G w w') (hd:∀ b∈F,b∉G):Bu.ow w' F y s:=Bu.ow_chg (F:=F) (x:=y) (s:=s) h hc hd
theorem Wu (l:List Nat):l.flatMap Em.cells=(l.map fun (x:Nat)=>(x:Int)).map (Value.int .i64):=by
 induction l with
 | nil=>rfl
 | cons a l ih=>rw [List.flatMap_cons,ih];rfl
theorem Abc {l l':List Nat} (hp:l'.Perm l) (hs:l'.Pairwise (· <= ·)):((l.map fun (x:Nat)=>(x:Int)).mergeSort fun x y=>decide (x<=y))=l'.map fun (x:Nat)=>(x:Int):=by
 have h1:=List.mergeSort_perm (l.map fun (x:Nat)=>(x:Int)) (fun x y=>decide (x<=y));have h2:=List.pairwise_mergeSort (le:=fun x y:Int=>decide (x<=y)) (fun a b c h1 h2=>by simp at *;omega) (fun a b=>by simp;omega) (l.map fun (x:Nat)=>(x:Int));have h3:(l'.map fun (x:Nat)=>(x:Int)).Pairwise (fun x y=>decide (x<=y)=true):=by
  rw [List.pairwise_map];exact hs.imp (fun h=>by simpa using h)
 refine List.Perm.eq_of_pairwise (le:=fun x y=>decide (x<=y)=true) ?_ h2 h3 (h1.trans (hp.symm.map _));intro a b _ _ h h';simp at h h';omega
theorem Zb (v:Value) (l l':List Nat) (base:Nat) (w:World) (hl:l.length<=2000000) (hp:l'.Perm l) (hs:l'.Pairwise (· <= ·)) (ho:Ow Em 3 w base v l) :
  Calls An 251 #[v] w fun e w'=>e = .returned (.tuple #[])/\Ow Em 3 w' base v l'/\w.grownBy w' v.ownBlock:=by
 rcases ho.2 with ⟨rfl,hn⟩ | ⟨g,cap,cur,rfl,hg,hh,hc,hm,bG,ht⟩
 ·have rJ:l=[]:=List.eq_nil_of_length_eq_zero hn;subst rJ;have:l'=[]:=List.Perm.eq_nil hp;subst this;refine (Tryz.slices_Sort_int_none Ab 0 w).mono ?_;rintro e w' ⟨he,rfl⟩;exact ⟨he,ho,World.grownBy.refl _ _⟩
 ·have eD:(l.map fun (x:Nat)=>(x:Int)).length=l.length:=Au _;have dK:cur.toList.take (l.map fun (x:Nat)=>(x:Int)).length=(l.map fun (x:Nat)=>(x:Int)).map (Value.int .i64):=by
   rw [eD,<-Wu,<-ht];simp [Em]
  have hH:=holds_of_blockI hh dK;have qY:g<w:=(Array.getElem?_eq_some_iff.1 hh).1;have h:=Tryz.slices_Sort_int g 0 cap (l.map fun (x:Nat)=>(x:Int)) w hH qY (by rw [eD];omega);rw [eD] at h;refine h.mono ?_;rintro e w' ⟨he,n,os,rfl⟩;rw [Abc hp hs];refine ⟨he,?_,grownBy_sortedI _⟩;have aK:l'.length=l.length:=hp.length_eq
  have:=ownsRow_sortedI (n:=n) (os:=os) (ss:=l.map fun (x:Nat)=>(x:Int)) (ts:=l'.map fun (x:Nat)=>(x:Int)) (by simp [aK]) hg hh (by rw [eD];exact hc) hm bG
  unfold Ow;rw [aK,Wu];rw [eD] at this;exact this
theorem Us (es:List (Nat×Nat)) (T t:Nat):(Dl es T t).Pairwise (· <= ·):=(List.pairwise_lt_range.imp (fun h=>Nat.le_of_lt h)).filter _
def H9 (es:List (Nat×Nat)) (t:Nat):List Nat:=(es.filter fun e=>decide (e.2=t)).map (·.1)
theorem Ut (es:List (Nat×Nat)) (t:Nat):(H9 es t).length<=es.length:=by
 simp only [H9,Au];exact List.length_filter_le _ _
theorem Abd {l l':List (Nat×Nat)} {a d:Nat} (h:l'=l ++ [(a,d)]):H9 l' d=H9 l d ++ [a]:=by
 subst h;simp [H9,List.filter_append]
theorem Ac6 {l l':List (Nat×Nat)} {a d t:Nat} (h:l'=l ++ [(a,d)]) (hx:¬ d=t):H9 l' t=H9 l t:=by
 subst h;simp [H9,List.filter_append,hx]
theorem Abe {p:Plan} (he:G6 p) (hn:p.edges.Nodup):(Dq p).Nodup:=by
 unfold Dq esL;show List.Pairwise _ _;rw [List.pairwise_map];refine List.Pairwise.imp_of_mem ?_ hn;intro x y hx hy aC e;have h1:=he x hx;have h2:=he y hy;simp only [Ht,Bool.and_eq_true,Cp] at h1 h2;simp only [Prod.mk.injEq] at e;apply aC;cases x;cases y;simp only [Edge.mk.injEq] at *
 omega
theorem Zc {p:Plan} (he:G6 p) (hn:p.edges.Nodup) (t:Nat):(Dl (Dq p) p.tasks.toNat t).Perm (H9 (Dq p) t):=by
 refine (List.perm_ext_iff_of_nodup (List.nodup_range.filter _) ?_).2 ?_
 ·unfold H9;show List.Pairwise _ _;rw [List.pairwise_map];refine List.Pairwise.imp_of_mem ?_ ((Abe he hn).filter _);intro x y hx hy aC e;simp only [List.mem_filter,decide_eq_true_eq] at hx hy;exact aC (Prod.ext e (hx.2.trans hy.2.symm))
 ·intro x;simp only [H9,List.mem_filter,List.mem_range,decide_eq_true_eq,List.mem_map,Prod.exists];constructor
  ·rintro ⟨_,h⟩;exact ⟨x,t,⟨h,rfl⟩,rfl⟩
  ·rintro ⟨a,b,⟨h,rfl⟩,rfl⟩;exact ⟨(Ml he).1 _ h,h⟩
theorem Uu (p:Plan) (ve:Value) (t:Nat) (w:World) (hf:Cr p=0) (h:Rd Gc w w ve p.edges) :
  Calls An 226 #[Gd p ve,.int .i64 (t:Int)] w fun e w'=>∃ v,e = .returned v/\Ow Em 3 w' w v (Dl (Dq p) p.tasks.toNat t)/\Below w w w':=by
 obtain ⟨A,c,rfl,-⟩:=id h;have G:=Bp (C8.1 hf);have aK:=E9 G.out.1;have hl:p.edges.length<=2000000:=Bk;have hfb:(Cr p != 0)=false:=by simp [hf]
 clear hf;obtain ⟨j0,bS,jz0,jz1,jz2⟩:=info_parts Kt;have cZ:=Lm 43 p (.slice A p.edges.length c) w;have D0:=BoxAt.new 43 p (.slice A p.edges.length c) w;have hw0:=Fa 43 p (.slice A p.edges.length c) w;have Hw0:=Bp hw0;clear hw0;unfold Gd;go_enter Tryz.func226,Tryz.ntmps226;go_wp2_with fail
 refine (Le p _ _ hl ((h.below cZ).more cZ.size)).mono ?_;rintro e w1 ⟨rfl,aQ⟩;have D:=D0.below aQ;have hb:=Bs cZ aQ;obtain ⟨x0,x1,x2,x3,x4,xs⟩:=D.cells;go_wp2;clear x0 x1 x2 x3 x4;go_loopw [5,14] (fun vl i wr=>∃ k:Nat,k<=p.edges.length/\i = .int .i64 k/\Ow Em 3 wr (w.heap.size+1) vl (H9 (esL (p.edges.take k)) t)/\Below w w wr/\w.heap.size<wr.heap.size) (fun _ i _=>p.edges.length - (intOf i).toNat);case atStart=>exact ⟨0,Ag _,rfl,by simpa [H9,esL] using Ow.nil Em 3 w1 (w.heap.size+1),hb,xs⟩
 case round =>
  clear D hb aQ D0 xs;obtain ⟨k,hk,rfl,ho,hb,bG⟩:=hrel;by_cases aA:k<p.edges.length
  ·have aB:(k:Int)<(p.edges.length:Int):=Bk;obtain ⟨b,o,rfl,aG,c0,c1⟩:=(h.below hb).edge aA;obtain ⟨f1,f2,f3,f4⟩:=Hy G.out.2.1 aA;have dI:=Bp (show esL (p.edges.take (k+1))=esL (p.edges.take k) ++ [(p.edges[k].fr.toNat,p.edges[k].to.toNat)] by unfold esL;rw [Dc _ k aA,List.map_append];rfl);generalize p.edges[k].fr=fx at *
   generalize p.edges[k].to=tx at *
   obtain ⟨a,rfl⟩:=Aq f1;obtain ⟨d,rfl⟩:=Aq f3;simp only [Ap] at dI;by_cases hx:d=t
   ·subst hx;have S:=Bp (Abd (l:=esL (p.edges.take k)) dI.out);have Hl:=Bp (show (H9 (esL (p.edges.take k)) d).length<=3000000 by
     have h1:=Ut (esL (p.edges.take k)) d;rw [Ug,List.length_take] at h1;omega)
    have mE:((d:Int) == (d:Int))=true:=Bm;have ha:Hid (∀ w:World,Below w w ((w.alloc (.cells #[.int .i64 (a:Int),.int .i64 (d:Int)] 199)).alloc (.cells #[.int .i64 (a:Int)] 3))):=fun w=>((Bq _ _).alloc (Br _) _).alloc Bm _;go_wp2_with (at_builtin;refine Bz _ Em Bo rfl (.tmp 22) (.tmp 25) rfl Tryz.underlying26 bS jz0 jz1 jz2 rfl (l:=H9 (esL (p.edges.take k)) d) rfl (ho.below (ha.out wr)) rfl (Rd.one Em _ _ a Bm rfl 1 (Br _) (Nat.lt_succ_self _)) Hl.out Bm Bo (by simp;omega) ?_;intro v5 w5 o5 g5 _)
    have bE:=Bs hb (ha.out wr);have W5:=bE.grown g5 bE.size (fun g hg=>by have:=ho.within _ hg;omega);have rS:=g5.size;simp only [World.size_alloc] at rS;refine ⟨⟨k+1,Bk,by go_num,?_,W5,Bk⟩,by simp [intOf];omega⟩;rw [S.out];exact o5
   ·have S:=Bp (Ac6 (l:=esL (p.edges.take k)) (t:=t) dI.out hx);have mE:((d:Int) == (t:Int))=false:=beq_eq_false_iff_ne.2 Bk;have ha:Hid (∀ w:World,Below w w (w.alloc (.cells #[.int .i64 (a:Int),.int .i64 (d:Int)] 199))):=fun w=>(Bq _ _).alloc (Br _) _;clear hx;go_wp2;refine ⟨⟨k+1,Bk,by go_num,?_,Bs hb (ha.out wr),by simp;omega⟩,by simp [intOf];omega⟩;rw [S.out];exact ho.below (ha.out wr)
  ·have aB:¬ (k:Int)<(p.edges.length:Int):=Bk;have aZ:k=p.edges.length:=Bk;subst aZ;rw [List.take_length] at ho;go_wp2_with fail
   have hL:(H9 (Dq p) t).length<=2000000:=by
    have h1:=Ut (Dq p) t;unfold Dq at h1 ⊢;rw [Ug] at h1;omega
   refine (Zb _ (H9 (Dq p) t) (Dl (Dq p) p.tasks.toNat t) _ _ hL (Zc G.out.2.1 G.out.2.2.1 t) (Us _ _ _) ho).mono ?_;rintro e w2 ⟨rfl,o2,g2⟩;have aF:=hb.grown g2 hb.size (fun g hg=>by have:=ho.within _ hg;omega);go_wp2;go_ret;exact ⟨_,rfl,o2.more Bk,aF⟩
theorem N3 {a b:Fence} : fBe a b=true ↔ a.run<b.run\/(a.run=b.run/\a.task<b.task):=by simp [fBe]
theorem Tw {r t:Int} {f:Fence} : fAt r t f=true ↔ f.run=r/\f.task=t:=by simp [fAt]
structure FRow (l:List Fence):Prop where
 len:l.length<=60
 ok:∀ x∈l,fOk x=true
 srt:l.Pairwise fun a b=>fBe a b=true
theorem Acg:∀ {l:List Fence},(∀ i (h:i+1<l.length),fBe l[i] l[i+1]=true)->l.Pairwise fun a b=>fBe a b=true
 | [],_=>List.Pairwise.nil
 | [a],_=>by simp
 | a :: b :: l,h=>by
  have ih:=Acg (l:=b :: l) (fun i hi=>by have:=h (i+1) (by simpa using hi);simpa using this);have h0:fBe a b=true:=by have:=h 0 Bm;simpa using this
  refine List.Pairwise.cons (fun x hx=>?_) ih;rcases List.mem_cons.1 hx with rfl | hx
  ·exact h0
  ·have h1:=(List.pairwise_cons.1 ih).1 x hx;rw [N3] at *
   omega
theorem Kg {l:List Fence} : Ej l=true ↔ FRow l:=by
 simp only [Ej,Bool.and_eq_true,decide_eq_true_eq];refine ⟨fun ⟨h1,h2⟩=>⟨h1,fun x hx=>?_,Acg fun i hi=>(h2 (i+1) hi hi).2 Bk⟩,fun h=>⟨h.len,fun j hj _=>⟨h.ok _ (Aw hj),fun h0=>List.pairwise_iff_getElem.1 h.srt _ _ _ hj Bk⟩⟩⟩;obtain ⟨i,hi,rfl⟩:=List.getElem_of_mem hx;exact (h2 i hi hi).1
def Abf (l:List Fence) (f:Fence):Prop:=∃ x∈l,x.run=f.run/\x.task=f.task/\f.try_<=x.try_
theorem FRow.uniq {l:List Fence} (h:FRow l) {i j:Nat} (hi:i<l.length) (hj:j<l.length) (hr:l[i].run=l[j].run) (ht:l[i].task=l[j].task):i=j:=by
 rcases Nat.lt_trichotomy i j with h1 | h1 | h1
 ·have:=List.pairwise_iff_getElem.1 h.srt _ _ hi hj h1
  rw [N3] at this;omega
 ·exact h1
 ·have:=List.pairwise_iff_getElem.1 h.srt _ _ hj hi h1
  rw [N3] at this;omega
theorem FRow.set {l:List Fence} (h:FRow l) {k:Nat} (hk:k<l.length) {f:Fence} (hf:fOk f=true) (hr:l[k].run=f.run) (ht:l[k].task=f.task):FRow (l.set k f):=by
 refine ⟨by rw [Bg];exact h.len,fun x hx=>?_,?_⟩
 ·rcases List.mem_or_eq_of_mem_set hx with hx | rfl
  ·exact h.ok x hx
  ·exact hf
 ·rw [List.pairwise_iff_getElem];intro i j hi hj mS;rw [Bg] at hi hj;have h1:=List.pairwise_iff_getElem.1 h.srt _ _ hi hj mS;rw [List.getElem_set,List.getElem_set];rw [N3] at *
  by_cases h2:k=i
  ·subst h2;rw [if_pos rfl,if_neg Bk];omega
  ·rw [if_neg h2];by_cases h3:k=j
   ·subst h3;rw [if_pos rfl];omega
   ·rw [if_neg h3];exact h1
theorem Ac7 {l:List Fence} {f:Fence} : ∀ x∈l.take (Jf l f),fBe x f=true:=by
 intro x hx;have h1:l.take (Jf l f)=l.takeWhile (fun x=>fBe x f):=by
  unfold Jf;exact (List.prefix_iff_eq_take.1 (List.takeWhile_prefix _)).symm
 rw [h1] at hx;exact List.all_eq_true.1 (List.all_takeWhile (p:=fun x=>fBe x f) (l:=l)) x hx
theorem Ac8 {l:List Fence} {f:Fence} (h:FRow l) (hn:∀ x∈l,fAt f.run f.task x=false):∀ x∈l.drop (Jf l f),fBe f x=true:=by
 intro x hx;have h1:l.drop (Jf l f)=l.dropWhile (fun x=>fBe x f):=by
  have h2:=List.takeWhile_append_dropWhile (p:=fun x=>fBe x f) (l:=l);have h3:(l.takeWhile (fun x=>fBe x f) ++ l.dropWhile (fun x=>fBe x f)).drop (Jf l f)=l.dropWhile (fun x=>fBe x f):=by unfold Jf;rw [List.drop_left'];rfl
  rwa [h2] at h3
 have hs:(l.dropWhile (fun x=>fBe x f)).Pairwise fun a b=>fBe a b=true:=h.srt.sublist (List.dropWhile_sublist _);have dE:∀ y∈l.dropWhile (fun x=>fBe x f),y∈l:=(List.dropWhile_sublist _).subset;have hhead:∀ y ys,l.dropWhile (fun x=>fBe x f)=y :: ys->fBe y f=false:=fun y ys e=>by
  have:=List.head?_dropWhile_not (fun x=>fBe x f) l
  rw [e] at this;simpa using this
 rw [h1] at hx;cases hd:l.dropWhile (fun x=>fBe x f) with
 | nil=>rw [hd] at hx;cases hx
 | cons y ys =>
  rw [hd] at hx hs dE;have hy:=hhead y ys hd;have hy2:=hn y (dE y (List.mem_cons_self ..));have hyf:fBe f y=true:=by
   have a1:¬ fBe y f=true:=by rw [hy];simp
   have a2:¬ fAt f.run f.task y=true:=by rw [hy2];simp
   rw [N3] at *
   rw [Tw] at a2;omega
  rcases List.mem_cons.1 hx with rfl | hx
  ·exact hyf
  ·have:=(List.pairwise_cons.1 hs).1 x hx
   rw [N3] at *
   omega
theorem Abg {l:List Fence} {f:Fence} {k:Nat} (h:l.findIdx? (fAt f.run f.task)=Ac k):∃ hk:k<l.length,l[k].run=f.run/\l[k].task=f.task:=by
 obtain ⟨hk,h1,_⟩:=List.findIdx?_eq_some_iff_getElem.1 h;exact ⟨hk,Tw.1 h1⟩
theorem Xz {l:List Fence} {f:Fence} (h:FRow l) (hf:fOk f=true) (hl:l.length<60):FRow (Da l f).1/\Abf (Da l f).1 f/\(∀ g,Abf l g->Abf (Da l f).1 g):=by
 unfold Da;rw [Kg.2 h,if_neg Bm,hf,if_neg Bm];cases hx:l.findIdx? (fAt f.run f.task) with
 | some k =>
  obtain ⟨hk,hr,ht⟩:=Abg hx;have hg:l.getD k f=l[k]:=by rw [List.getD_eq_getElem?_getD,List.getElem?_eq_getElem hk];rfl
  simp only [hg];split
  ·rename_i aA;exact ⟨h,⟨l[k],Aw hk,hr,ht,Bk⟩,fun g hg=>hg⟩
  ·rename_i aA;refine ⟨h.set hk hf hr ht,⟨f,List.mem_set hk f,rfl,rfl,Int.le_refl _⟩,fun g ⟨x,hx,x1,x2,x3⟩=>?_⟩;obtain ⟨i,hi,rfl⟩:=List.getElem_of_mem hx;by_cases hik:k=i
   ·subst hik;exact ⟨f,List.mem_set hk f,Bk,Bk,Bk⟩
   ·exact ⟨l[i],List.mem_iff_getElem.2 ⟨i,by rw [Bg];exact hi,by rw [List.getElem_set,if_neg hik]⟩,x1,x2,x3⟩
 | none =>
  have hn:∀ x∈l,fAt f.run f.task x=false:=fun x cD=>by simpa using (List.findIdx?_eq_none_iff.1 hx) x cD
  simp only [];rw [if_neg Bk];have hd:=Ac8 h hn;have ht:=@Ac7 l f;have eA:l=l.take (Jf l f) ++ l.drop (Jf l f):=(List.take_append_drop _ _).symm;generalize l.take (Jf l f)=a at *
  generalize l.drop (Jf l f)=b at *
  subst eA;refine ⟨⟨?_,fun x cD=>?_,?_⟩,⟨f,Bm,rfl,rfl,Int.le_refl _⟩,fun g ⟨x,cD,hp⟩=>⟨x,?_,hp⟩⟩
  ·simp only [A0,List.length_cons] at *
   omega
  ·rcases Bh.1 cD with cD | cD
   ·exact h.ok x (Be _ cD)
   ·rcases List.mem_cons.1 cD with rfl | cD
    ·exact hf
    ·exact h.ok x (Bd _ cD)
  ·obtain ⟨s1,s2,s3⟩:=List.pairwise_append.1 h.srt;refine List.pairwise_append.2 ⟨s1,List.Pairwise.cons hd s2,fun x cD y hy=>?_⟩;rcases List.mem_cons.1 hy with rfl | hy
   ·exact ht x cD
   ·exact s3 x cD y hy
  ·rcases Bh.1 cD with cD | cD
   ·exact Be _ cD
   ·exact Bd _ (List.mem_cons_of_mem _ cD)
theorem Uv:∀ (more l:List Fence),FRow l->(∀ f∈more,fOk f=true)->l.length+more.length<=60->FRow (Hi l more)/\(∀ g,Abf l g->Abf (Hi l more) g) /\ ∀ f∈more,Abf (Hi l more) f
 | [],l,h,_,_=>⟨h,fun g hg=>hg,fun f hf=>by cases hf⟩
 | f :: more,l,h,hf,hl=>by
  rw [List.length_cons] at hl;obtain ⟨r1,r2,r3⟩:=Xz h (hf f (List.mem_cons_self ..)) Bk;have aK:=Qd l f;obtain ⟨q1,q2,q3⟩:=Uv more (Da l f).1 r1 (fun x hx=>hf x (List.mem_cons_of_mem _ hx)) Bk;exact ⟨q1,fun g hg=>q2 g (r3 g hg),fun x hx=>by
   rcases List.mem_cons.1 hx with rfl | hx
   ·exact q2 _ r2
   ·exact q3 x hx⟩
structure FAsk (l:List Fence) (f:Fence) (k:Nat):Prop where
 idx:E6 (fAt f.run f.task) l=(k:Int)
 lt:k<l.length
 tri:f.try_<=l[k].try_
 bnd:1<=l[k].try_/\l[k].try_<=1000000000
 more:∀ T,Da l ⟨f.run,f.task,l[k].try_,T⟩=(l.set k ⟨f.run,f.task,l[k].try_,T⟩,0)
 late:∀ T,∃ c,Da l ⟨f.run,f.task,l[k].try_ - 1,T⟩=(l,c)/\(0<l[k].try_ - 1->c=11)
theorem Afa {l:List Fence} {f:Fence} (h:FRow l) (hf:fOk f=true) (hh:Abf l f):∃ k,FAsk l f k:=by
 obtain ⟨x,hx,hr,ht,pW⟩:=hh;obtain ⟨i,hi,rfl⟩:=List.getElem_of_mem hx;have pY:l.findIdx? (fAt f.run f.task)=Ac i:=by
  rw [List.findIdx?_eq_some_iff_getElem];refine ⟨hi,Tw.2 ⟨hr,ht⟩,fun j hj=>?_⟩;intro hc;obtain ⟨c1,c2⟩:=Tw.1 hc
  have:=h.uniq (i:=j) (j:=i) Bk hi Bk Bk
  omega
 have aU:=h.ok _ hx;simp only [fOk,Bool.and_eq_true,Cp] at aU hf;have hg:∀ d,l.getD i d=l[i]:=fun d=>by rw [List.getD_eq_getElem?_getD,List.getElem?_eq_getElem hi];rfl
 refine ⟨i,by unfold E6;rw [pY],hi,pW,Bk,fun T=>?_,fun T=>?_⟩
 ·unfold Da;rw [Kg.2 h,if_neg Bm,if_neg (by simp only [fOk,Bool.and_eq_false_iff];simp only [<-Bool.not_eq_true,Cp];omega)];simp only [pY,hg];rw [if_neg Bk]
 ·unfold Da;rw [Kg.2 h,if_neg Bm];by_cases h0:l[i].try_ - 1=0
  ·rw [h0];refine ⟨5,?_,fun h=>Bk⟩;rw [if_pos (by simp only [fOk,Bool.and_eq_false_iff];simp only [<-Bool.not_eq_true,Cp];omega)]
  ·refine ⟨11,?_,fun _=>rfl⟩;rw [if_neg (by simp only [fOk,Bool.and_eq_false_iff];simp only [<-Bool.not_eq_true,Cp];omega)];simp only [pY,hg];rw [if_pos Bk]
open Go.ChangeShapes Go.WideShapes Go.ChangeAt Go.RowKit Go.Deep
section
variable {H:Type} {enc:TypeId×Value->H} {w:World} {spare:Nat->Bool} {kH:Bool} {fuel:Nat} {cs:List Value} {x:DataW H×List MemPlace}
theorem Af5 {a:Int} (h:(Lit.int .u8 a).wf=true):0<=a/\a<=255:=by
 simp [Lit.wf,IntKind.min,IntKind.max,IntKind.signed,IntKind.bits] at h;exact ⟨Bk,Bk⟩
theorem Abh (h:DataW.trod enc An w 0 spare kH fuel 22 cs=Ac x):∃ (v:Value) (l:List UInt8),cs=[v]/\Rd I7 w w v l/\l.length<=maxLen:=by
 obtain ⟨v,l,h1,h2,_,h3⟩:=Aa8 I7 (fun _=>True) Tryz.underlying22 Bl Bo (fun n cs' y hy=>by
  obtain ⟨a0,e0,_,hw⟩:=DataW.trod_int Tryz.underlying5 hy;have hb:=Af5 hw;refine ⟨UInt8.ofNat a0.toNat,?_,trivial⟩;rw [e0];have:((UInt8.ofNat a0.toNat).toNat:Int)=a0:=by
   rw [UInt8.toNat_ofNat'];omega
  show [Value.int .u8 a0]=[Value.int .u8 ((UInt8.ofNat a0.toNat).toNat:Int)]
  rw [this]) h
 exact ⟨v,l,h1,h2,h3⟩
end
def Afb:Enc ByteArray:={ cells:=fun s=>[.string s],sz:=1,len:=fun _=>rfl,one:=fun _ u hu=>by simp at hu;subst hu;rfl }
theorem Rd.txt {w:World} {B:Nat} {A:Option Addr} {n c:Nat} {l:List ByteArray} (h:Rd Afb w B (Aa A n c) l) {k:Nat} (hk:k<l.length) :
  ∃ b o,A=Ac ⟨b,o,Ab⟩/\b<B/\w.cell? ⟨b,o+k,Ab⟩=Ac (.string l[k]):=by
 obtain ⟨A',c',hv,_,hA⟩:=h;obtain ⟨b,o,bJ,hb,hc⟩:=hA Bk;simp only [Value.slice.injEq] at hv;obtain ⟨rfl,_,_⟩:=hv;exact ⟨b,o,bJ,hb,by simpa [Afb] using hc k hk 0 _ rfl⟩
def Afp (b:Nat) (v:Value) (code:List UInt8) (t:ByteArray) (c':Cur) (w:World) (e:Ending) (w':World):Prop:=e = .returned (.string t)/\Drw b v code c' w'/\Chg [b] w w'
theorem Aea (b:Nat) (v:Value) (code:List UInt8) (c:Cur) (A:Option Addr) (n cs:Nat) (L:List ByteArray) (w:World) (h:Drw b v code c w) (hL:0<L.length/\L.length<=1000) (hr:Rd Afb w w (Aa A n cs) L) (hA:∀ g,A.map (·.block)=Ac g->g≠b) :
  Calls An 189 #[.pointer (Ac ⟨b,0,Ab⟩),Aa A n cs] w (Afp b v code (L.getD (Bt code L.length c).1.toNat ⟨#[]⟩) (Bt code L.length c).2 w):=by
 have hb:=h.box.lt;obtain rfl:n=L.length:=by
  obtain ⟨_,_,hv,-⟩:=hr;simp only [Value.slice.injEq] at hv;exact hv.2.1
 have B:=Db code (n:=(L.length:Int)) c Bk;obtain ⟨j,hj⟩:∃ j:Nat,(Bt code L.length c).1=(j:Int):=⟨_,(Int.toNat_of_nonneg B.1).symm⟩
 have nN:j<L.length:=Bk;obtain ⟨g,o,rfl,hg,aY⟩:=hr.txt nN;have hgb:g≠b:=hA g rfl;have hB:=Bp (Dw (L.length:Int) b v code c w Bk h);have hE:L.getD (Bt code L.length c).1.toNat ⟨#[]⟩=L[j]:=by rw [hj,Ap,List.getD_eq_getElem?_getD,List.getElem?_eq_getElem nN];rfl
 rw [hE];generalize Bt code L.length c=r at *
 obtain ⟨_,c'⟩:=r;dsimp only at hj hB ⊢;subst hj;clear hE B h;have gF:(0:Int)<=(j:Int):=Bk;have hjL:(j:Int)<(L.length:Int):=Bk;go_enter Tryz.func189,Tryz.ntmps189;go_wp2_with fail
 refine hB.out.mono ?_;rintro e w1 ⟨rfl,h1,c1⟩;have hcell1:w1.cell? ⟨g,o+j,Ab⟩=Ac (.string L[j]):=(c1.cell (p:=⟨g,o+j,Ab⟩) hg (fun hx=>hgb (Av.1 hx))).trans aY;have HF:Hid (Afp b v code L[j] c' w (.returned (.string L[j])) w1):=⟨rfl,h1,c1⟩
 clear hr h1 c1 hB aY;go_wp2;go_ret;exact HF.out
def Ph:List ByteArray:=[⟨#[97]⟩,⟨#[98]⟩,⟨#[99]⟩,⟨#[]⟩]
def Gw (code:List UInt8) (c:Cur):Fence×Cur :=
 let a:=Bt code 3 c
 let d:=Bt code 3 a.2
 let e:=Bt code 4 d.2
 let t:=Bt code 4 e.2
 (⟨1+a.1,d.1,1+e.1,Ph.getD t.1.toNat ⟨#[]⟩⟩,t.2)
def Afc (b:Nat) (v:Value) (code:List UInt8) (r:Fence×Cur) (w:World) (e:Ending) (w':World):Prop:=e = .returned (It r.1)/\Drw b v code r.2 w'/\Chg [b] w w'
theorem Ac9 {b:Nat} {w:World} {u0 u1 u2 u3:Value} (X:DBox b [u0,u1,u2,u3] w) {v0 v1:Value} {rest:List Value} :
  (results Tryz.f126 (v0 :: v1 :: .pointer (Ac ⟨b,0,Ab⟩) :: rest).toArray).run An w = .ok (.agg #[u0,u1,u2,u3]) w:=by
 have c0:=X.cell 0 _ rfl;have c1:=X.cell 1 _ rfl;have c2:=X.cell 2 _ rfl;have c3:=X.cell 3 _ rfl;simp [results,Tryz.results126,go_sem,c0,c1,c2,c3]
theorem Ada (b:Nat) (v:Value) (code:List UInt8) (c:Cur) (w:World) (h:Drw b v code c w) :
  Calls An 126 #[.pointer (Ac ⟨b,0,Ab⟩)] w (Afc b v code (Gw code c) w):=by
 have hb:=h.box.lt;obtain ⟨W,aH,RES,B0⟩:=bx1 w 65 [J U 0,J U 0,J U 0,.string ⟨#[]⟩];replace h:=h.below B0;go_enter Tryz.func126,Tryz.ntmps126;go_wp2_with fail
 rw [<-aH.out];clear aH;have hWl:w.heap.size<W.heap.size:=RES.lt;refine (Dw 3 b v code c _ Bk h).mono ?_;rintro e1 w1 ⟨rfl,h1,c1⟩;have r1:=Db code (n:=3) c Bk;have mG:Hid (Gw code c=(⟨1+(Bt code 3 c).1,(Bt code 3 (Bt code 3 c).2).1,1+(Bt code 4 (Bt code 3 (Bt code 3 c).2).2).1,Ph.getD (Bt code 4 (Bt code 4 (Bt code 3 (Bt code 3 c).2).2).2).1.toNat ⟨#[]⟩⟩,(Bt code 4 (Bt code 4 (Bt code 3 (Bt code 3 c).2).2).2).2)):=rfl;generalize Gw code c=R at *
 generalize Bt code 3 c=a at *
 obtain ⟨a,ca⟩:=a;dsimp only at *
 have wa:U.wrap (1+a)=1+a:=Ar _ Bk;go_wp2_with fail
 refine (Dw 3 b v code ca _ Bk h1).mono ?_;rintro e2 w2 ⟨rfl,h2,c2⟩;generalize Bt code 3 ca=d at *
 obtain ⟨d,cd⟩:=d;dsimp only at *
 go_wp2_with fail
 refine (Dw 4 b v code cd _ Bk h2).mono ?_;rintro e3 w3 ⟨rfl,h3,c3⟩;have r3:=Db code (n:=4) cd Bk;generalize Bt code 4 cd=m at *
 obtain ⟨m,cm⟩:=m;dsimp only at *
 have wm:U.wrap (1+m)=1+m:=Ar _ Bk;replace RES:=((RES.chg c1 (by simp;omega)).chg c2 (by simp;omega)).chg c3 (by simp;omega);have CC:=((Chg.of_below [b] B0).trans c1).trans (c2.trans c3);have fV:w.heap.size<w3.heap.size:=RES.lt;clear c1 c2 c3 h h1 h2;go_wp2_with fail
 have q0:Below w3 w3 (w3.alloc (.cells #[.string ⟨#[97]⟩,.string ⟨#[98]⟩,.string ⟨#[99]⟩,.string ⟨#[]⟩] 9)):=(Bq _ _).alloc (Br _) _;refine (Aea b v code cm _ 4 4 Ph _ (h3.below q0) ⟨Bo,Bo⟩ ⟨_,_,rfl,Bo,fun _=>⟨w3,0,rfl,Bm,fun k hk j u hu=>?_⟩⟩ (fun g hg=>by simp at hg;omega)).mono ?_
 ·have X:=DBox.new 9 (Ph.map Value.string) w3 (b:=w3.heap.size) rfl;match j,hu with
  | 0,hu=>exact X.cell (0+k * 1+0) _ (by simp only [Afb,List.getElem?_cons_zero,Option.some.injEq] at hu;subst hu;simp [List.getElem?_eq_getElem hk])
 rintro e4 w4 ⟨rfl,h4,c4⟩;replace RES:=(RES.below q0).chg c4 (by simp;omega);replace CC:=(CC.trans (Chg.of_below [b] q0)).trans c4;rw [show ((Ph.length:Nat):Int)=4 from rfl] at h4 ⊢;have hbne:w≠b:=Bk;have HF:Hid (∀ W,W=(((w4.setCell ⟨w,0,Ab⟩ (J U (1+a))).setCell ⟨w,1,Ab⟩ (J U d)).setCell ⟨w,2,Ab⟩ (J U (1+m))).setCell ⟨w,3,Ab⟩ (.string (Ph.getD (Bt code 4 cm).1.toNat ⟨#[]⟩)) ->
   DBox w [J U R.1.run,J U R.1.task,J U R.1.try_,.string R.1.text] W/\Drw b v code R.2 W/\Chg [b] w W):=by
  rintro W rfl;rw [mG.out];exact ⟨(((RES.put 0 Bm _).put 1 Bm _).put 2 Bm _).put 3 Bm _,(((h4.setNew (by show b<w;omega) _).setNew (by show b<w;omega) _).setNew (by show b<w;omega) _).setNew (by show b<w;omega) _,
   (((CC.setNew (Br _)).setNew (Br _)).setNew (Br _)).setNew (Br _)⟩
 clear mG CC h4 c4 h3 q0;generalize Ph.getD (Bt code 4 cm).1.toNat ⟨#[]⟩=t at *
 have rf:=RES.free;have RES_:=RES.g4;go_wp2;obtain ⟨X,hD,hC⟩:=HF.out _ rfl;exact Aj (Ac9 X) rfl ⟨rfl,hD,hC⟩
def G9 (code:List UInt8):Nat->Nat->List Fence->Cur->List Fence×Cur
 | 0,_,l,c=>(l,c)
 | f+1,i,l,c=>if (i:Int)<(Bt code 8 c).1 then G9 code f (i+1) (l ++ [(Gw code (Bt code 8 c).2).1]) (Gw code (Bt code 8 c).2).2 else (l,(Bt code 8 c).2)
def J0 (code:List UInt8):List Fence:=(G9 code 9 0 [] (Iu code)).1
theorem Qg (code:List UInt8) (P:Fence->Prop) (hP:∀ c,P (Gw code c).1):∀ (f i:Nat) (l:List Fence) (c:Cur),(∀ x∈l,P x) -> ∀ x∈(G9 code f i l c).1,P x
 | 0,_,_,_,h=>h
 | f+1,i,l,c,h=>by
  unfold G9;split
  ·refine Qg code P hP f (i+1) _ _ fun x hx=>?_;rcases Bh.1 hx with hx | hx
   ·exact h x hx
   ·obtain rfl:=Av.1 hx;exact hP _
  ·exact h
theorem Zd (code:List UInt8) (c:Cur):(1<=(Gw code c).1.run/\(Gw code c).1.run<=3)/\(0<=(Gw code c).1.task/\(Gw code c).1.task<=2)/\1<=(Gw code c).1.try_/\(Gw code c).1.try_<=4:=by
 have r1:=Db code (n:=3) c Bk;have r2:=Db code (n:=3) (Bt code 3 c).2 Bk;have r3:=Db code (n:=4) (Bt code 3 (Bt code 3 c).2).2 Bk;show (1<=1+(Bt code 3 c).1/\1+(Bt code 3 c).1<=3)/\(0<=(Bt code 3 (Bt code 3 c).2).1/\(Bt code 3 (Bt code 3 c).2).1<=2)/\1<=1+(Bt code 4 (Bt code 3 (Bt code 3 c).2).2).1/\1+(Bt code 4 (Bt code 3 (Bt code 3 c).2).2).1<=4;omega
theorem Qh (code:List UInt8):∀ (f i:Nat) (l:List Fence) (c:Cur),i+f<=9->l.length=i->(G9 code f i l c).1.length<=9
 | 0,i,l,c,h,hl=>by show l.length<=9;omega
 | f+1,i,l,c,h,hl=>by
  unfold G9;split
  ·exact Qh code f (i+1) _ _ Bk (by rw [A0,hl];rfl)
  ·show l.length<=9;omega
def Ach (b:Nat) (v:Value) (code:List UInt8) (r:List Fence×Cur) (w:World) (e:Ending) (w':World):Prop:=∃ u,e = .returned u/\Ow Ch 65 w' w u r.1/\Drw b v code r.2 w'/\Chg [b] w w'
theorem Abi (b:Nat) (v:Value) (code:List UInt8) (c:Cur) (w:World) (h:Drw b v code c w) :
  Calls An 63 #[.pointer (Ac ⟨b,0,Ab⟩)] w (Ach b v code (G9 code 9 0 [] c) w):=by
 have hb:=h.box.lt;have aW:=Bp (show ∀ x,x∈[b]->x=b from fun x hx=>by simpa using hx);obtain ⟨j0,bS,jz0,jz1,jz2⟩:=info_parts Ji;go_enter Tryz.func63,Tryz.ntmps63;go_upto_region 2 with fail
 have o0:=Ow.empty Ch 65 w rfl;have bb:Below w w (w.alloc (.cells #[] 65)):=(Bq _ _).alloc (Br _) _;replace h:=h.below bb;have cc:=Chg.of_below [b] bb;have cI:=bb.size;clear bb;generalize hW0:w.alloc (.cells #[] 65)=w3 at *
 clear hW0;go_wp2;go_loopw [3,4] (fun u i wr=>∃ (k:Nat) (l:List Fence) (c':Cur) (vl:Value),k<=8/\vl=u/\i = .int .i64 k/\Hid (l.length=k)/\Hid (G9 code (9 - k) k l c'=G9 code 9 0 [] c)/\Hid (Ow Ch 65 wr w vl l)/\Drw b v code c' wr/\Chg [b] w wr) (fun _ i _=>8 - (intOf i).toNat);case atStart=>exact ⟨0,[],c,_,Ag _,rfl,rfl,rfl,rfl,o0,h,cc⟩
 case round =>
  clear o0 h cc cI;obtain ⟨k,l,c',vl,hk,rfl,rfl,aK,pX,ho,hd,hc⟩:=hrel;have qL:=hc.size;have r1:=Db code (n:=8) c' Bk;go_wp2_with fail
  refine (Dw 8 b v code c' wr Bo hd).mono ?_;rintro e3 w3 ⟨rfl,h3,c3⟩;have hgo2:=Bp (show (if (k:Int)<(Bt code 8 c').1 then G9 code (8 - k) (k+1) (l ++ [(Gw code (Bt code 8 c').2).1]) (Gw code (Bt code 8 c').2).2 else (l,(Bt code 8 c').2))=G9 code 9 0 [] c from by rw [<-pX.out,show 9 - k=(8 - k)+1 by omega];rfl);have o3:=ho.out.chg c3 Bk;replace hc:=hc.trans c3;clear hd c3 ho pX;generalize Bt code 8 c'=R at *
  obtain ⟨m,c1⟩:=R;dsimp only at *
  obtain ⟨A7,c7,rF,-⟩:=_root_.id (Rd.of_own o3);have rU:=aK.out;subst rF;have cA:Hid (l.length<=3000000):=by show _<=_;omega
  have bQ:=Bp (show ∀ x,(Value.slice A7 l.length c7).ownBlock=Ac x->w.heap.size<=x from fun x hx=>(o3.within x hx).1);clear rU;by_cases aA:(k:Int)<m
  ·have jX:=hgo2.out;rw [if_pos aA,show 8 - k=9 - (k+1) by omega] at jX;replace jX:=Bp jX;clear hgo2;have F4:=Bp (Ada b v code c1 w3 h3);generalize Gw code c1=R at *
   obtain ⟨f,c2⟩:=R;dsimp only at *
   go_wp2_with fail
   refine F4.out.mono ?_;rintro e4 w4 ⟨rfl,h4,c4⟩;have o4:=o3.chg c4 Bk;replace hc:=hc.trans c4;have jY:=hc.size;clear c4 o3 F4 h3;have ha:Below w4 w4 (w4.alloc (.cells #[.int .i64 f.run,.int .i64 f.task,.int .i64 f.try_,.string f.text] 65)):=(Bq _ _).alloc (Br _) _;have pZ:Hid ((l ++ [f]).length=k+1):=by show _=_;rw [A0,aK.out];rfl
   go_wp2_with (at_builtin;refine Bz _ Ch Bo rfl (.tmp 12) (.tmp 15) rfl Tryz.underlying59 bS jz0 jz1 jz2 rfl (base:=w.heap.size) (v:=.slice A7 l.length c7) (l:=l) rfl (o4.below ha) rfl (Rd.one Ch _ _ f rfl rfl 1 (Br _) (Nat.lt_succ_self _)) cA.out Bm Bo (by simp;omega) ?_;intro v5 w5 o5 g5 _)
   have h5:Drw b v code c2 w5:=(h4.below ha).grownNew g5 (fun g hg=>by have:=bQ.out g hg;omega);have b5:Chg [b] w w5:=(hc.belowNew ha).grownNew g5 (fun g hg=>bQ.out g hg);exact ⟨⟨k+1,l ++ [f],c2,v5,Bk,rfl,by go_num,pZ,jX,o5,h5,b5⟩,by simp [intOf];omega⟩
  ·have jX:=hgo2.out;rw [if_neg aA] at jX;have HF:Hid (Ach b v code (G9 code 9 0 [] c) w (.returned (.slice A7 l.length c7)) w3):=by rw [<-jX];exact ⟨_,rfl,o3,h3,hc⟩
   clear jX hgo2 o3 h3 hc;go_wp2;go_ret;exact HF.out
theorem Uw (code:List UInt8):(J0 code).length<=9 /\ ∀ f∈J0 code,(1<=f.run/\f.run<=3)/\(0<=f.task/\f.task<=2)/\1<=f.try_/\f.try_<=4 :=
 ⟨Qh code 9 0 [] _ Bk rfl,Qg code _ (Zd code) 9 0 [] _ (fun _ h=>by cases h)⟩
def Tx (code:List UInt8) (w:World) (e:Ending) (w':World):Prop:=∃ u,e = .returned u/\Rd Ch w' w' u (J0 code)/\Below w w w'
theorem Ux (v:Value) (code:List UInt8) (w:World) (hs:code.length<=1048576) (h:Rd I7 w w v code) :
  Calls An 19 #[v] w (Tx code w):=by
 obtain ⟨A,cap,rfl,-⟩:=_root_.id h;go_enter Tryz.func19,Tryz.ntmps19;go_wp2_with fail
 refine (Acf _ code w hs h).mono ?_;rintro e1 w1 ⟨_,rfl,rfl,h1,b1⟩;have CN:=Bp (Abi w _ code (Iu code) w1 h1);have mY:Hid (J0 code=(G9 code 9 0 [] (Iu code)).1):=rfl;generalize G9 code 9 0 [] (Iu code)=P at *
 go_wp2_with fail
 refine CN.out.mono ?_;rintro e2 w2 ⟨u,rfl,hr,h2,cc⟩;have HF:Hid (Tx code w (.returned u) w2):=⟨u,rfl,by rw [mY.out];exact Rd.of_own hr,b1.trans (cc.below b1.size (fun x hx=>by (have h6:x=w:=Av.1 hx);omega))⟩
 clear mY hr h2 cc h1 b1 CN h;generalize Tx code w=Q at *
 go_wp2;exact HF.out
theorem X8 (a b:Nat) (ha:a<9223372036854775808) (hb:b<9223372036854775808):bits .xor .i64 (a:Int) (b:Int)=((a ^^^ b:Nat):Int):=by
 have hx:a ^^^ b<2 ^ 63:=Nat.xor_lt_two_pow Bk Bk;have h1:(BitVec.ofInt 64 (a:Int)).toNat=a:=by
  rw [BitVec.ofInt_natCast,BitVec.toNat_ofNat];exact Nat.mod_eq_of_lt Bk
 have h2:(BitVec.ofInt 64 (b:Int)).toNat=b:=by
  rw [BitVec.ofInt_natCast,BitVec.toNat_ofNat];exact Nat.mod_eq_of_lt Bk
 show U.wrap ((BitVec.ofInt 64 (a:Int) ^^^ BitVec.ofInt 64 (b:Int)).toNat:Int)=_;rw [BitVec.toNat_xor,h1,h2,IntKind.wrap_i64];generalize a ^^^ b=y at *
 have hy:y<9223372036854775808:=hx;clear h1 h2 hx;rw [Int.emod_eq_of_lt Bk Bk,Int.add_sub_cancel]
def Mo (x:Nat):Nat:=if x % 2=1 then (x / 2) ^^^ 3988292384 else x / 2
def I9:Nat->Nat->Nat
 | 0,x=>x
 | k+1,x=>Mo (I9 k x)
def Mp (x:Nat) (b:UInt8):Nat:=I9 8 (x ^^^ b.toNat)
def Nm (l:List UInt8):Int:=((l.foldl Mp 4294967295 ^^^ 4294967295:Nat):Int)
theorem Abj {x:Nat} (h:x<4294967296):Mo x<4294967296:=by
 unfold Mo;split
 ·exact Nat.xor_lt_two_pow (n:=32) Bk Bk
 ·omega
theorem Ze (k:Nat) {x:Nat} (h:x<4294967296):I9 k x<4294967296:=by
 induction k with
 | zero=>exact h
 | succ k ih=>exact Abj ih
theorem Abk {x:Nat} (h:x<4294967296) (b:UInt8):Mp x b<4294967296:=by
 have hb:b.toNat<256:=b.toNat_lt;exact Ze 8 (Nat.xor_lt_two_pow (n:=32) h Bk)
theorem Abl (l:List UInt8):∀ {x:Nat},x<4294967296->l.foldl Mp x<4294967296:=by
 induction l with
 | nil=>intro x h;exact h
 | cons b l ih=>intro x h;exact ih (Abk h b)
theorem Aeb (l:List UInt8):0<=Nm l/\Nm l<=4294967295:=by
 have h:l.foldl Mp 4294967295 ^^^ 4294967295<4294967296:=Nat.xor_lt_two_pow (n:=32) (Abl l Bk) Bk;unfold Nm;omega
theorem Wh (l:List UInt8) (w:World) (hl:l.length<=2000000) :
  Calls An 254 #[Af0 l] w fun e w'=>e = .returned (J U (Nm l))/\Below w w w':=by
 have bG:(⟨l.toArray⟩:ByteArray).size=l.length:=by simp [ByteArray.size]
 go_enter Tryz.func254,Tryz.ntmps254;go_wp2;go_loopw [3,4] (fun s i wr=>∃ (x k:Nat),k<=l.length/\x<4294967296/\s = J U x/\i = J U k/\Hid ((l.take k).foldl Mp 4294967295=x)/\Below w w wr) (fun _ i _=>l.length - (intOf i).toNat);case atStart=>exact ⟨4294967295,0,Ag _,Bo,rfl,rfl,by rw [List.take_zero];rfl,Bq _ _⟩
 case round =>
  obtain ⟨x,k,hk,hx,rfl,rfl,hF,hb⟩:=hrel;by_cases aA:k<l.length
  ·have aB:(k:Int)<(l.length:Int):=Bk;have hc:l[k].toNat<256:=l[k].toNat_lt;have ex:=X8 x l[k].toNat Bk Bk;have hX0:x ^^^ l[k].toNat<4294967296:=Nat.xor_lt_two_pow (n:=32) hx Bk;have hex:bits .xor .i64 (x:Int) (wrap64 (((⟨l.toArray⟩:ByteArray)[k]'(by rw [bG];exact aA)).toNat:Int))=((x ^^^ l[k].toNat:Nat):Int):=by
    rw [<-ex];congr 1;show wrap64 (l[k].toNat:Int)=_;generalize l[k].toNat=q at *
    unfold wrap64;omega
   have HF:=Bp (show (l.take (k+1)).foldl Mp 4294967295=I9 8 (x ^^^ l[k].toNat) by
    rw [List.take_succ_eq_append_getElem aA,List.foldl_append,hF.out];rfl)
   clear hF;go_wp2;generalize x ^^^ l[k].toNat=z at *
   go_loopw [3,5] (fun s q wr=>∃ (y j:Nat),j<=8/\y<4294967296/\s = J U y/\q = J U j/\Hid (I9 j z=y)/\Below w w wr) (fun _ q _=>8 - (intOf q).toNat);case atStart=>exact ⟨z,0,Bk,hX0,by first | rfl | rw [hex],rfl,rfl,hb⟩
   case round =>
    clear hb;obtain ⟨y,j,hj,hy,rfl,rfl,hC,hb⟩:=hrel;by_cases hj8:j<8
    ·have hj8I:(j:Int)<8:=Bk;have eo:bits .xor .i64 ((y:Int) / 2) 3988292384=((y / 2 ^^^ 3988292384:Nat):Int):=by
      have:=X8 (y / 2) 3988292384 Bk Bk
      rw [<-this];congr 1<;>omega
     have aX:y / 2 ^^^ 3988292384<4294967296:=Nat.xor_lt_two_pow (n:=32) Bk Bk;by_cases ho:y % 2=1
     ·have hoI:(y:Int) % 2=1:=Bk;have HC:=Bp (show I9 (j+1) z=y / 2 ^^^ 3988292384 by
       show Mo (I9 j z)=_;rw [hC.out];unfold Mo;rw [if_pos ho])
      clear ho hC;go_wp2;exact ⟨⟨_,j+1,Bk,aX,rfl,by go_num,HC,hb⟩,by simp [intOf];omega⟩
     ·have hoI:(y:Int) % 2=0:=Bk;have HC:=Bp (show I9 (j+1) z=y / 2 by
       show Mo (I9 j z)=_;rw [hC.out];unfold Mo;rw [if_neg ho])
      clear ho hC;go_wp2;exact ⟨⟨y / 2,j+1,Bk,Bk,by go_num,by go_num,HC,hb⟩,by simp [intOf];omega⟩
    ·have HE:=Bp (show (l.take (k+1)).foldl Mp 4294967295=y by
      rw [HF.out,<-hC.out,show j=8 by omega])
     have hj8I:¬ (j:Int)<8:=Bk;clear hC HF;go_wp2;exact ⟨⟨y,k+1,Bk,hy,rfl,by go_num,HE,hb⟩,by simp [intOf];omega⟩
  ·have H:=Bp (show Nm l=((x ^^^ 4294967295:Nat):Int) by
    have:=hF.out
    rw [List.take_of_length_le Bk] at this;unfold Nm;rw [this])
   have ex:bits .xor .i64 (x:Int) 4294967295=((x ^^^ 4294967295:Nat):Int):=X8 x 4294967295 Bk Bk;go_wp2;go_ret;exact ⟨by rw [H.out];rfl,hb⟩
def J1 (id:Int) (r:Run):Bool:=r.id == id
def Dh (y:Yard) (id:Int):Int:=if y.runs.length<=8 then E6 (J1 id) y.runs else -1
theorem Q8 {y:Yard} {id:Int} (h:¬ y.runs.length<=8):Dh y id = -1:=by unfold Dh;rw [if_neg h]
theorem Id {y:Yard} {id:Int} (h:y.runs.length<=8):Dh y id=E6 (J1 id) y.runs:=by unfold Dh;rw [if_pos h]
theorem Lg {α:Type} (p:α->Bool) (l:List α):E6 p l = -1 \/ ∃ k:Nat,k<l.length/\E6 p l=k:=by
 unfold E6;cases h:l.findIdx? p with
 | none=>exact .inl rfl
 | some i=>exact .inr ⟨i,(List.findIdx?_eq_some_iff_getElem.1 h).1,rfl⟩
theorem Eu (y:Yard) (id:Int):Dh y id = -1 \/ ∃ k:Nat,k<y.runs.length/\Dh y id=k:=by
 by_cases h:y.runs.length<=8
 ·rw [Id h];exact Lg _ _
 ·exact .inl (Q8 h)
theorem Ew (y:Yard) (s:Sl×Sl) (id:Int) (w:World) (hl:Ci y<=2000000) (h:Bu.rd w w y s) :
  Calls An 80 #[Du y s,J U id] w fun e w'=>e = .returned (J U (Dh y id))/\Below w w w':=by
 obtain ⟨s1,⟨A,n,c⟩⟩:=s;have h1:RdL Co w w (Sl.v ⟨A,n,c⟩) y.runs:=h.2;obtain ⟨A',c',hv,-⟩:=h1.form;simp only [Sl.v,Value.slice.injEq] at hv;obtain ⟨rfl,rfl,rfl⟩:=hv;have eD:y.runs.length<=2000000:=Ah (Ct C9 _) (by unfold Ci at hl;omega);have D:=DBox.new 31 [J U y.now,J U y.seq,Aa (s1,(⟨A,y.runs.length,c⟩:Sl)).1.a (s1,(⟨A,y.runs.length,c⟩:Sl)).1.n (s1,(⟨A,y.runs.length,c⟩:Sl)).1.c,Aa (s1,(⟨A,y.runs.length,c⟩:Sl)).2.a (s1,(⟨A,y.runs.length,c⟩:Sl)).2.n (s1,(⟨A,y.runs.length,c⟩:Sl)).2.c] w rfl;have cZ:Below w w (w.alloc (.cells #[J U y.now,J U y.seq,Aa (s1,(⟨A,y.runs.length,c⟩:Sl)).1.a (s1,(⟨A,y.runs.length,c⟩:Sl)).1.n (s1,(⟨A,y.runs.length,c⟩:Sl)).1.c,Aa (s1,(⟨A,y.runs.length,c⟩:Sl)).2.a (s1,(⟨A,y.runs.length,c⟩:Sl)).2.n (s1,(⟨A,y.runs.length,c⟩:Sl)).2.c] 31)):=(Bq _ _).alloc (Br _) _;go_enter Tryz.func80,Tryz.ntmps80;go_wp2_with fail
 generalize (w.alloc (.cells #[J U y.now,J U y.seq,Aa (s1,(⟨A,y.runs.length,c⟩:Sl)).1.a (s1,(⟨A,y.runs.length,c⟩:Sl)).1.n (s1,(⟨A,y.runs.length,c⟩:Sl)).1.c,Aa (s1,(⟨A,y.runs.length,c⟩:Sl)).2.a (s1,(⟨A,y.runs.length,c⟩:Sl)).2.n (s1,(⟨A,y.runs.length,c⟩:Sl)).2.c] 31))=W at *
 have k3:W.cell? ⟨w,3,Ab⟩=Ac (Aa A y.runs.length c):=D.cell 3 _ rfl;have h2:=h1.below cZ;go_wp2;go_loop [5] (fun i=>∃ k:Nat,k<=y.runs.length/\i = J U k/\Hid (∀ j (hj:j<y.runs.length),j<k->J1 id y.runs[j]=false)) (fun i=>y.runs.length - (intOf i).toNat);case atStart=>exact ⟨0,Ag _,rfl,fun j hj h0=>absurd h0 Bk⟩
 case round =>
  obtain ⟨k,hk,rfl,bZ⟩:=hrel;by_cases h8:y.runs.length<=8
  ·by_cases aA:k<y.runs.length
   ·obtain ⟨b,o,s',rfl,aG,hr,c0,-⟩:=h2.run aA;have aB:(k:Int)<(y.runs.length:Int):=Bk;cases hp:J1 id y.runs[k]
    ·have t0:(y.runs[k].id == id)=false:=hp;have S:Hid (∀ j (hj:j<y.runs.length),j<k+1->J1 id y.runs[j]=false):=by
      intro j hj h0;by_cases e:j=k
      ·subst e;exact hp
      ·exact bZ.out j hj Bk
     clear hp;go_wp2;exact ⟨⟨k+1,Bk,by go_num,S⟩,by simp [intOf];omega⟩
    ·have t0:(y.runs[k].id == id)=true:=hp;have H:=Bp (show Dh y id=k by rw [Id h8];exact G7 aA (fun j hj=>bZ.out j Bk hj) hp);clear hp;go_wp2;go_ret;exact ⟨Dg H.out.symm,cZ⟩
   ·have H:=Bp (show Dh y id = -1 by rw [Id h8];exact Hg (fun j hj=>bZ.out j hj Bk));have aB:¬ ((k:Int)<(y.runs.length:Int)):=Bk;go_wp2;go_ret;exact ⟨Dg H.out.symm,cZ⟩
  ·have H:=Bp (Q8 (id:=id) h8);by_cases aA:k<y.runs.length
   ·have aB:(k:Int)<(y.runs.length:Int):=Bk;go_wp2;go_ret;exact ⟨Dg H.out.symm,cZ⟩
   ·have aB:¬ ((k:Int)<(y.runs.length:Int)):=Bk;go_wp2;go_ret;exact ⟨Dg H.out.symm,cZ⟩
theorem Uy (r:Run) (s:Sl×Sl) (id:Int) (p:Nat) (w:World) (hp:w.cell? ⟨p,0,Ab⟩=Ac (J U id)) (hp':p<w) :
  Calls An 139 #[Hc r s,.pointer (Ac ⟨p,0,Ab⟩)] w fun e w'=>e = .returned (.bool (J1 id r))/\Below w w w':=by
 unfold J1;cases t1:(r.id == id)
 all_goals
  go_enter Tryz.func139,Tryz.ntmps139;go_wp2;go_ret;exact ⟨rfl,by repeat (first | exact Bq _ _ | refine Below.alloc ?_ Bn _)⟩
theorem Ya (l:List Run) (s:Sl) (id:Int) (p:Nat) (w:World) (hl:l.length<=2000000) (h:RdL Co w w s.v l) (hp:w.cell? ⟨p,0,Ab⟩=Ac (J U id)) (hp':p<w) :
  Calls An 138 #[Aa s.a s.n s.c,.func (.func 139) #[] #[.pointer (Ac ⟨p,0,Ab⟩)]] w
   fun e w'=>e = .returned (J U (E6 (J1 id) l))/\Below w w w':=by
 obtain ⟨A,n,c⟩:=s;obtain ⟨A',c',hv,-⟩:=h.form;simp only [Sl.v,Value.slice.injEq] at hv;obtain ⟨rfl,rfl,rfl⟩:=hv;go_enter Tryz.func138,Tryz.ntmps138;go_wp2;go_loopw [8] (fun i wr=>∃ k:Nat,k<=l.length/\i = J U k/\Hid (∀ j (hj:j<k) (hj':j<l.length),J1 id l[j]=false)/\Below w w wr) (fun i _=>l.length - (intOf i).toNat);case atStart=>exact ⟨0,Ag _,rfl,fun j hj=>absurd hj Bk,Bq _ _⟩
 case round =>
  obtain ⟨k,hk,rfl,bZ,hb⟩:=hrel;by_cases aA:k<l.length
  ·obtain ⟨b,o,s',rfl,aG,hr,c0,c1,c2,c3,c4,c5,c6,c7⟩:=(h.below hb).run aA;have sF:=(hb.cell (p:=⟨p,0,Ab⟩) hp').trans hp;have hs:=hb.size;cases t1:J1 id l[k]
   ·have S:Hid (∀ j (hj:j<k+1) (hj':j<l.length),J1 id l[j]=false):=by
     intro j hj hj';by_cases e:j=k
     ·subst e;exact t1
     ·exact bZ.out j Bk hj'
    go_wp2_with (go_at_call 139;refine (Uy l[k] s' id p _ sF Bk).mono ?_;rintro e w1 ⟨rfl,aQ⟩;simp only [t1])
    exact ⟨⟨k+1,Bk,by go_num,S,hb.trans (aQ.mono hb.size)⟩,by simp [intOf];omega⟩
   ·have H:=Bp (G7 aA (fun j hj=>bZ.out j hj Bk) t1);go_wp2_with (go_at_call 139;refine (Uy l[k] s' id p _ sF Bk).mono ?_;rintro e w1 ⟨rfl,aQ⟩;simp only [t1])
    go_ret;exact ⟨Dg (by rw [H.out]),hb.trans (aQ.mono hb.size)⟩
  ·have H:=Bp (Hg (p:=J1 id) (l:=l) (fun j hj=>bZ.out j Bk hj));go_wp2;go_ret;exact ⟨Dg (by rw [H.out]),hb⟩
theorem Jt (y:Yard) (s:Sl×Sl) (id:Int) (w:World) (hl:Ci y<=2000000) (h:Bu.rd w w y s) :
  Calls An 75 #[Du y s,J U id] w fun e w'=>e = .returned (J U (Dh y id))/\Below w w w':=by
 obtain ⟨s1,⟨A,n,c⟩⟩:=s;have h1:RdL Co w w (Sl.v ⟨A,n,c⟩) y.runs:=h.2;obtain ⟨A',c',hv,-⟩:=h1.form;simp only [Sl.v,Value.slice.injEq] at hv;obtain ⟨rfl,rfl,rfl⟩:=hv;have eD:y.runs.length<=2000000:=Ah (Ct C9 _) (by unfold Ci at hl;omega);have D0:=DBox.new 31 [J U y.now,J U y.seq,Aa (s1,(⟨A,y.runs.length,c⟩:Sl)).1.a (s1,(⟨A,y.runs.length,c⟩:Sl)).1.n (s1,(⟨A,y.runs.length,c⟩:Sl)).1.c,Aa (s1,(⟨A,y.runs.length,c⟩:Sl)).2.a (s1,(⟨A,y.runs.length,c⟩:Sl)).2.n (s1,(⟨A,y.runs.length,c⟩:Sl)).2.c] w rfl;have D:=D0.below ((Bq _ _).alloc (Br _) (.cells #[J U id] 3));have E:=DBox.new 3 [J U id] (w.alloc (.cells #[J U y.now,J U y.seq,Aa (s1,(⟨A,y.runs.length,c⟩:Sl)).1.a (s1,(⟨A,y.runs.length,c⟩:Sl)).1.n (s1,(⟨A,y.runs.length,c⟩:Sl)).1.c,Aa (s1,(⟨A,y.runs.length,c⟩:Sl)).2.a (s1,(⟨A,y.runs.length,c⟩:Sl)).2.n (s1,(⟨A,y.runs.length,c⟩:Sl)).2.c] 31)) (b:=w.heap.size+1) Bm;have cZ:Below w w ((w.alloc (.cells #[J U y.now,J U y.seq,Aa (s1,(⟨A,y.runs.length,c⟩:Sl)).1.a (s1,(⟨A,y.runs.length,c⟩:Sl)).1.n (s1,(⟨A,y.runs.length,c⟩:Sl)).1.c,Aa (s1,(⟨A,y.runs.length,c⟩:Sl)).2.a (s1,(⟨A,y.runs.length,c⟩:Sl)).2.n (s1,(⟨A,y.runs.length,c⟩:Sl)).2.c] 31)).alloc (.cells #[J U id] 3)):=by repeat (first | exact Bq _ _ | refine Below.alloc ?_ Bn _)
 clear D0;by_cases h8:y.runs.length<=8;case neg =>
  have H:=Bp (Q8 (id:=id) h8);go_enter Tryz.func75,Tryz.ntmps75;go_wp2;go_ret;exact ⟨Dg H.out.symm,cZ⟩
 have H:=Bp (Id (id:=id) h8);go_enter Tryz.func75,Tryz.ntmps75;go_wp2_with fail
 generalize ((w.alloc (.cells #[J U y.now,J U y.seq,Aa (s1,(⟨A,y.runs.length,c⟩:Sl)).1.a (s1,(⟨A,y.runs.length,c⟩:Sl)).1.n (s1,(⟨A,y.runs.length,c⟩:Sl)).1.c,Aa (s1,(⟨A,y.runs.length,c⟩:Sl)).2.a (s1,(⟨A,y.runs.length,c⟩:Sl)).2.n (s1,(⟨A,y.runs.length,c⟩:Sl)).2.c] 31)).alloc (.cells #[J U id] 3))=W at *
 have e0:W.cell? ⟨w.heap.size+1,0,Ab⟩=Ac (J U id):=E.cell 0 _ rfl;have el:=E.lt;refine (Ya y.runs ⟨A,y.runs.length,c⟩ id (w.heap.size+1) _ eD ((h1.below cZ).more cZ.size) e0 el).mono ?_;rintro e w1 ⟨rfl,aQ⟩;go_wp2;go_ret;exact ⟨Dg H.out.symm,Bs cZ aQ⟩
structure Sst where
 out:List Slot
 ends:List Int
 busy:List Int
section
variable {es:List (Nat×Nat)} {T:Nat} {l:List Int} {m:Nat} {now:Int} {st:Sst}
/-! the next time -/
end
section
def Afq (f:Nat->List Nat) (k:Nat):List Nat:=(List.range k).filter fun t=>(f t).isEmpty
open Classical in
noncomputable def Adb (p:Plan):List Nat:=if Cr p=0 then Afq (fun t=>Dl (Dq p) p.tasks.toNat t) p.tasks.toNat else []
open Classical in
noncomputable def Afd (p:Plan):List Nat:=if Cr p=0 then Afq (fun t=>Eg (Dq p) p.tasks.toNat t) p.tasks.toNat else []
end
end Go.Proofs.YtonlnjdempbfoaaGreat
