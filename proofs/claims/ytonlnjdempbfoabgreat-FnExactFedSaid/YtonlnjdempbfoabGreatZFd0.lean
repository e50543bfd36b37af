/-
  Words for memory: how a list of plain data lies in a slice; a slice of the call's own; what is kept when new memory is made. Plain facts on finite graphs: the c
-/
import Derived.Test.YtonlnjdempbfoabGreatRows
import Derived.WalkKit
import Derived.Lib.Hide
import Derived.Deep.QuietTactic
import Derived.BigQuiet
import Derived.StillTailTactics
import Derived.Deep.RegionHeld3
import Derived.Maps.AppendAt
import Derived.Deep.AppendLies
import Derived.KernelRfl
import Derived.Shelf.Small.Bits
import Derived.Shelf.Strconv.Itoa0
import Derived.Shelf.Sort.Plain
import Derived.Ground.Names2Prog
import Derived.Shelf.Slices.SearchI
import Derived.Shelf.Slices.In.SortNone
import Derived.Test.YtonlnjdempbfoabGreatProg
import Derived.ProofKit
import Derived.Deep.Slices
namespace Go.Proofs.YtonlnjdempbfoabGreat
open Go.RowKit
set_option maxRecDepth 100000
set_option maxHeartbeats 4000000
set_option linter.unusedVariables false
set_option linter.unusedSimpArgs false
instance : Coe World Nat := ⟨fun w => w.heap.size⟩
theorem Bq {p:Prop} (h:p):Hid p:=h
theorem Br (b:Nat) (w:World):Below b w w:=Below.refl b w
theorem Bs (n:Nat):n<=n:=Nat.le_refl n
theorem Bt {w:World} {o:Obj} : Below w.heap.size w (w.alloc o):=(Below.refl _ _).alloc (Nat.le_refl _) o
theorem Bl {p:Prop} (h:p:=by omega):p:=h
theorem Bm {p:Prop} (h:p:=by kernel_rfl):p:=h
theorem Bn {p:Prop} (h:p:=by simp):p:=h
theorem Bo {p:Prop} (h:p:=by simp<;>omega):p:=h
theorem Bp {p:Prop} (h:p:=by decide):p:=h
open Value renaming int->J,slice->Aa
open IntKind renaming i64->U
open Option renaming none->Ab,some->Ac
open Nat renaming zero_le->Ag,lt_of_lt_of_le->Ai
open Go.Proofs.Tryz renaming prog->Am
open Char renaming ofNat->An
open Int renaming eq_ofNat_of_zero_le->Ap
open List renaming length_map->Ar,mem_singleton->Au,getElem_mem->Aw,length_take->Az,length_append->Bd
open Go.Proofs.Tryz
structure Enc (α:Type) where
 cells:α->List Value
 sz:Nat
 len:∀ x,(cells x).length=sz
 one:∀ x,∀ u∈cells x,u.oneCell'=true
section
variable {α:Type} {e:Enc α} {w w':World} {B B':Nat} {v:Value} {l:List α}
theorem Enc.flat_length (e:Enc α):∀ l:List α,(l.flatMap e.cells).length=l.length * e.sz
 | []=>by simp
 | x :: l=>by rw [List.flatMap_cons,Bd,e.len,Enc.flat_length e l,List.length_cons,Nat.succ_mul,Nat.add_comm]
theorem Enc.flat_get (e:Enc α) {j:Nat} (hj:j<e.sz):∀ (l:List α) (k:Nat) (h:k<l.length),(l.flatMap e.cells)[k * e.sz+j]? = (e.cells l[k])[j]?
 | [],k,h=>absurd h Bn
 | x :: l,0,_=>by
  rw [List.flatMap_cons,Nat.zero_mul,Nat.zero_add,List.getElem?_append_left (by rw [e.len];exact hj)];rfl
 | x :: l,k+1,h=>by
  rw [List.flatMap_cons,List.getElem?_append_right (by rw [e.len,Nat.succ_mul];omega),e.len,
   show (k+1) * e.sz+j - e.sz=k * e.sz+j from by rw [Nat.succ_mul];omega]
  exact Enc.flat_get e hj l k (by simpa using h)
def Ra (xs:List Value) (i:Nat):List Value->List Value
 | []=>xs
 | u :: us=>Ra (xs.set i u) (i+1) us
def Hz (w:World) (g i:Nat):List Value->World
 | []=>w
 | u :: us=>Hz (w.setCell ⟨g,i,Ab⟩ u) g (i+1) us
theorem Rb:∀ (us xs:List Value) (i:Nat),i+us.length<=xs.length->Ra xs i us=xs.take i ++ us ++ xs.drop (i+us.length)
 | [],xs,i,_=>by simp [Ra]
 | u :: us,xs,i,h=>by
  simp only [List.length_cons] at h;rw [Ra,Rb us _ _ (by simp;omega)];have h1:(xs.set i u).take (i+1)=xs.take i ++ [u]:=by
   rw [List.take_set,List.take_succ_eq_append_getElem Bl,List.set_append_right _ _ (by simp;omega)];simp [show i - min i xs.length=0 from by omega]
  have h2:(xs.set i u).drop (i+1+us.length)=xs.drop (i+(u :: us).length):=by
   rw [List.drop_set_of_lt Bl];congr 1;simp;omega
  rw [h1,h2];simp
theorem Enc.flat_put (e:Enc α) (x:α):∀ (l:List α) (k:Nat),k<l.length->Ra (l.flatMap e.cells) (k * e.sz) (e.cells x)=(l.set k x).flatMap e.cells:=by
 intro l k hk;rw [Rb _ _ _ (by
  rw [e.flat_length,e.len];have:(k+1) * e.sz<=l.length * e.sz:=Nat.mul_le_mul_right _ hk;rw [Nat.succ_mul] at this;exact this),e.len]
 have hl:l=l.take k ++ l[k] :: l.drop (k+1):=by
  rw [List.getElem_cons_drop hk,List.take_append_drop]
 have hs:l.set k x=l.take k ++ x :: l.drop (k+1):=by
  rw [List.set_eq_take_append_cons_drop,if_pos hk]
 rw [hs];have e1:(l.take k).flatMap e.cells=(l.flatMap e.cells).take (k * e.sz):=by
  conv=>rhs;rw [hl,List.flatMap_append]
  rw [List.take_left' (by rw [e.flat_length,Az,Nat.min_eq_left (Nat.le_of_lt hk)])]
 have e2:(l.drop (k+1)).flatMap e.cells=(l.flatMap e.cells).drop (k * e.sz+e.sz):=by
  conv=>rhs;rw [hl,List.flatMap_append,List.flatMap_cons,<-List.append_assoc]
  rw [List.drop_left' (by rw [Bd,e.flat_length,e.len,Az,Nat.min_eq_left (Nat.le_of_lt hk)])]
 rw [List.flatMap_append,List.flatMap_cons,e1,e2,List.append_assoc]
def Rd (e:Enc α) (w:World) (B:Nat) (v:Value) (l:List α):Prop :=
 ∃ A c,v = Aa A l.length c/\l.length<=c/\(0<l.length -> ∃ b o,A=Ac ⟨b,o,Ab⟩/\b<B /\
  ∀ (k:Nat) (h:k<l.length) (j:Nat) (u:Value),(e.cells l[k])[j]? = Ac u->w.cell? ⟨b,o+k * e.sz+j,Ab⟩=Ac u)
theorem Rd.keep (h:Rd e w B v l) (hk:∀ p:Addr,p.block<B->w'.cell? p=w.cell? p):Rd e w' B v l:=by
 obtain ⟨A,c,hv,cI,hA⟩:=h;refine ⟨A,c,hv,cI,fun hl=>?_⟩;obtain ⟨b,o,hb,aA,hc⟩:=hA hl;exact ⟨b,o,hb,aA,fun k bF j u hu=>(hk _ aA).trans (hc k bF j u hu)⟩
theorem Rd.more (h:Rd e w B v l) (hB:B<=B'):Rd e w B' v l:=by
 obtain ⟨A,c,hv,cI,hA⟩:=h;refine ⟨A,c,hv,cI,fun hl=>?_⟩;obtain ⟨b,o,hb,aA,hc⟩:=hA hl;exact ⟨b,o,hb,Bl,hc⟩
theorem Rd.below (h:Rd e w B v l) (hb:Below B w w'):Rd e w' B v l:=h.keep fun _ hp=>hb.cell hp
def Ow (e:Enc α) (E:TypeId) (w:World) (base:Nat) (v:Value) (l:List α):Prop:=w.ownsRow base E e.sz v l.length (l.flatMap e.cells)
theorem Ow.nil (e:Enc α) (E:TypeId) (w:World) (base:Nat):Ow e E w base (Aa Ab 0 0) []:=World.ownsRow_nil w base E e.sz
theorem Ow.form {E:TypeId} {base:Nat} (h:Ow e E w base v l):(v = Aa Ab 0 0/\l=[]) \/
  ∃ g cap,v = Aa (Ac ⟨g,0,Ab⟩) l.length cap/\base<=g/\g<w.heap.size/\l.length<=cap/\cap<=maxLen/\(∀ j,w.frozen? ⟨g,j,Ab⟩=false) /\
   ∀ (k:Nat) (h:k<l.length) (j:Nat) (u:Value),(e.cells l[k])[j]? = Ac u->w.cell? ⟨g,k * e.sz+j,Ab⟩=Ac u:=by
 have h0:=h;rcases h.2 with ⟨hv,hn⟩ | ⟨g,cap,cur,hv,hg,hh,hc,hm,_,_⟩
 ·exact .inl ⟨hv,List.eq_nil_of_length_eq_zero hn⟩
 ·subst hv;refine .inr ⟨g,cap,rfl,hg,(h.lt g rfl).2,hc,hm,fun j=>World.ownsRow.frozenAt h j,fun k hk j u hu=>?_⟩;have hj:j<e.sz:=by
   have:=(List.getElem?_eq_some_iff.1 hu).1
   rw [e.len] at this;exact this
  have aA:k * e.sz+j<l.length * e.sz:=by
   have:(k+1) * e.sz<=l.length * e.sz:=Nat.mul_le_mul_right _ hk;rw [Nat.succ_mul] at this;omega
  rw [World.ownsRow.cellAt h _ aA,e.flat_get hj l k hk];exact hu
theorem Ow.free {E:TypeId} {base g n cap:Nat} (h:Ow e E w base (Aa (Ac ⟨g,0,Ab⟩) n cap) l) (j:Nat):w.frozen? ⟨g,j,Ab⟩=false:=by
 rcases h.form with ⟨h1,_⟩ | ⟨g',cap',hv,_,_,_,_,hf,_⟩
 ·simp at h1
 ·simp only [Value.slice.injEq,Option.some.injEq,Addr.mk.injEq,and_true] at hv;obtain ⟨rfl,_,_⟩:=hv;exact hf j
theorem Ow.blk {E:TypeId} {base g n cap:Nat} (h:Ow e E w base (Aa (Ac ⟨g,0,Ab⟩) n cap) l):base<=g/\g<w:=by
 rcases h.form with ⟨h1,_⟩ | ⟨g',cap',hv,hb,hg,_⟩
 ·simp at h1
 ·simp only [Value.slice.injEq,Option.some.injEq,Addr.mk.injEq,and_true] at hv;obtain ⟨rfl,_,_⟩:=hv;exact ⟨hb,hg⟩
theorem Rd.of_own {E:TypeId} {base:Nat} (h:Ow e E w base v l):Rd e w w v l:=by
 rcases h.form with ⟨rfl,rfl⟩ | ⟨g,cap,rfl,_,aA,cI,_,_,hc⟩
 ·exact ⟨Ab,0,rfl,Bs _,fun h=>absurd h Bn⟩
 ·exact ⟨_,cap,rfl,cI,fun _=>⟨g,0,rfl,aA,fun k hk j u hu=>by rw [Nat.zero_add];exact hc k hk j u hu⟩⟩
theorem Rd.take {A:Option Addr} {n c k:Nat} (h:Rd e w B (Aa A n c) l) (hk:k<=l.length) (c':Nat) (hc':k<=c'):Rd e w B (Aa A k c') (l.take k):=by
 obtain ⟨A',c0,hv,_,hA⟩:=h;simp only [Value.slice.injEq] at hv;obtain ⟨rfl,rfl,rfl⟩:=hv;refine ⟨A,c',by rw [Az,Nat.min_eq_left hk],by rw [Az,Nat.min_eq_left hk];exact hc',fun hl=>?_⟩;rw [Az,Nat.min_eq_left hk] at hl;obtain ⟨b,o,hb,aA,hc⟩:=hA Bl;refine ⟨b,o,hb,aA,fun i hi j u hu=>?_⟩;rw [Az,Nat.min_eq_left hk] at hi;rw [List.getElem_take] at hu;exact hc i Bl j u hu
theorem Rd.cap {A:Option Addr} {n c:Nat} (h:Rd e w B (Aa A n c) l):l.length<=c:=by
 obtain ⟨A',c0,hv,hc,_⟩:=h;simp only [Value.slice.injEq] at hv;rw [hv.2.2];exact hc
theorem Rd.nil (e:Enc α) (w:World) (B c:Nat):Rd e w B (Aa Ab 0 c) []:=⟨Ab,c,rfl,Ag _,fun h=>absurd h Bn⟩
theorem Ow.snoc {E:TypeId} {base:Nat} {x:α} (h:w.ownsRow base E e.sz v (l.length+1) (l.flatMap e.cells ++ e.cells x)):Ow e E w base v (l ++ [x]):=by
 unfold Ow;rw [Bd,List.length_singleton,List.flatMap_append,List.flatMap_singleton];exact h
theorem Ow.below {E:TypeId} {base:Nat} (h:Ow e E w base v l) (hb:Below w w w'):Ow e E w' base v l:=by
 refine World.ownsRow.kept (row:=Ab) h ⟨hb.os,hb.tape,hb.output,hb.size,fun k hk _=>hb.block k hk⟩ ?_;cases hv:v.ownBlock with
 | none=>exact .inl rfl
 | some g=>exact .inr Bn
theorem Ow.more {E:TypeId} {base base':Nat} (h:Ow e E w base v l) (hb:base'<=base):Ow e E w base' v l:=by
 obtain ⟨h1,h2⟩:=h;refine ⟨h1,?_⟩;rcases h2 with h2 | ⟨g,cap,cur,hv,hg,r⟩
 ·exact .inl h2
 ·exact .inr ⟨g,cap,cur,hv,Bl,r⟩
end
theorem Tt {E:TypeId} {sz base g cap:Nat} (n:Nat):∀ (us xs:List Value) (w:World) (i:Nat),w.ownsRow base E sz (Aa (Ac ⟨g,0,Ab⟩) n cap) n xs ->
  (Hz w g i us).ownsRow base E sz (Aa (Ac ⟨g,0,Ab⟩) n cap) n (Ra xs i us)/\w.grownBy (Hz w g i us) (Ac g)
 | [],xs,w,i,h=>⟨h,World.grownBy.refl w _⟩
 | u :: us,xs,w,i,h=>by
  have h1:=World.ownsRow.stored h i u;have h2:=Tt n us _ _ (i+1) h1.1;exact ⟨h2.1,h1.2.trans h2.2⟩
theorem Ow.put {α:Type} {e:Enc α} {E:TypeId} {w:World} {base g cap n:Nat} {l:List α} (h:Ow e E w base (Aa (Ac ⟨g,0,Ab⟩) n cap) l) (hn:l.length=n) (k:Nat) (hk:k<n) (x:α) :
  Ow e E (Hz w g (k * e.sz) (e.cells x)) base (Aa (Ac ⟨g,0,Ab⟩) n cap) (l.set k x)/\w.grownBy (Hz w g (k * e.sz) (e.cells x)) (Ac g):=by
 subst hn
 have:=Tt (cap:=cap) l.length (e.cells x) _ w (k * e.sz) h
 rw [e.flat_put x l k hk] at this;unfold Ow;rw [List.length_set];exact this
theorem Tu {α:Type} (e:Enc α) (x:α) (n:Nat) (bM:0<e.sz):(madeCells (e.cells x).toArray (n * e.sz)).toList=(List.replicate n x).flatMap e.cells:=by
 apply List.ext_getElem?;intro i;by_cases hi:i<n * e.sz
 ·have hk:i / e.sz<n:=Nat.div_lt_of_lt_mul (by rw [Nat.mul_comm];exact hi);have hj:i % e.sz<e.sz:=Nat.mod_lt _ bM;have rJ:i / e.sz * e.sz+i % e.sz=i:=by rw [Nat.mul_comm];exact Nat.div_add_mod _ _
  have h1:=e.flat_get hj (List.replicate n x) (i / e.sz) (by simpa using hk);rw [rJ] at h1;rw [h1];have hl:i % e.sz<(e.cells x).length:=by rw [e.len];exact hj
  have hz:0<(e.cells x).length:=by rw [e.len];exact bM
  simp [madeCells,hi,e.len,hj]
 ·rw [List.getElem?_eq_none (by simp [madeCells];omega),List.getElem?_eq_none (by rw [e.flat_length];simp;omega)]
theorem Ow.made {α:Type} (e:Enc α) (E:TypeId) (w:World) (x:α) (n:Nat) (bM:0<e.sz) (hn:n<=maxLen) {z:Array Value} (hz:z=(e.cells x).toArray) {m:Nat} (hm:m=n * e.sz) :
  Ow e E (w.alloc (.cells (madeCells z m) E)) w (Aa (Ac ⟨w,0,Ab⟩) n n) (List.replicate n x):=by
 subst hz;subst hm
 have:=World.ownsRow_lit (base:=w) (e:=E) (size:=e.sz) w (madeCells (e.cells x).toArray (n * e.sz)) n (Bs _) hn (size_madeCells _ _)
 rw [Tu e x n bM] at this;unfold Ow;rw [List.length_replicate];exact this
theorem Ow.ne_ {α β:Type} {e:Enc α} {e':Enc β} {E E':TypeId} {w:World} {base base':Nat} {v v':Value} {l:List α} {l':List β} (h:Ow e E w base v l) (h':Ow e' E' w base' v' l') (aC:E≠E') :
  v.ownBlock=Ab\/v.ownBlock≠v'.ownBlock:=by
 rcases h.2 with ⟨rfl,_⟩ | ⟨g,cap,cur,rfl,_,hh,_⟩
 ·exact .inl rfl
 ·rcases h'.2 with ⟨rfl,_⟩ | ⟨g',cap',cur',rfl,_,hh',_⟩
  ·exact .inr (by simp [Value.ownBlock])
  ·refine .inr (fun he=>?_);have:g=g':=by simpa [Value.ownBlock] using he
   subst this;rw [hh] at hh';injection hh' with hh'
   injection hh' with _ ht
   exact aC ht
theorem Ow.grown {α:Type} {e:Enc α} {E:TypeId} {w w':World} {base:Nat} {v:Value} {l:List α} {row:Option Nat} (h:Ow e E w base v l) (hg:w.grownBy w' row) (aC:v.ownBlock=Ab\/v.ownBlock≠row):Ow e E w' base v l :=
 World.ownsRow.kept h hg aC
theorem Qg (w:World) (cs:Array Value) (T:TypeId) {g:Nat} (hg:g=w):∀ j u,cs.toList[j]? = Ac u->(w.alloc (.cells cs T)).cell? ((⟨g,0,Ab⟩:Addr).add j)=Ac u:=by
 subst hg;intro j u hu;have h:(w.alloc (.cells cs T)).cell? ⟨w,j,Ab⟩=cs[j]?:=cell_of_row _ _ j cs T (0,0) (heap_alloc_new w _);have e:((⟨w,0,Ab⟩:Addr).add j)=⟨w,j,Ab⟩:=by
  unfold Addr.add;split<;>simp_all
 rw [e,h];simpa using hu
theorem Kz {α:Type} {P:Program} {ops:Array Oper} {rest:List Oper} {o:Oper} {a:Act} {Q:Exit->Act->World->Prop} {w:World} (e:Enc α) (bM:0<e.sz) {base:Nat} {E t:TypeId} {i:TypeInfo} {z:Value} {bytes:Nat}
  (dJ:o.guard=Ab) (s x:Operand) (ho:o.op = .call { callee:=.builtin .append,args:=#[s,x],argTypes:=#[t,t] })
  (ht:P.underlying t=Ac (.slice E)) (hi:P.info? E=Ac i) (hz:i.zero=Ac z) (cH:i.size=e.sz) (cF:i.bytes=bytes) (hzs:z.cells.size=e.sz)
  {v:Value} {l:List α} (y:α) (hs:a.eval s=v) (hown:Ow e E w base v l) (ad:Addr) (c:Nat) (hx:a.eval x = .slice (Ac ad) 1 c) (hnews:∀ j u,(e.cells y)[j]? = Ac u->w.cell? (ad.add j)=Ac u)
  (aF:l.length<=3000000) (hbytes:bytes<=10000) (bE:base<=w.heap.size)
  (h:∀ v' w',Ow e E w' base v' (l ++ [y])->w.grownBy w' v.ownBlock->wpList P ops Q rest (a.put o.dst v') w'):wpList P ops Q (o :: rest) a w:=by
 refine wpList_append_own w dJ s x t ho base E i z e.sz bytes ht hi hz cH cF hzs bM v l.length (l.flatMap e.cells) hs hown ad 1 c (e.cells y) hx (by rw [e.len,Nat.one_mul]) hnews (e.one y) (by simp [maxLen];omega) ?_ bE ?_
 ·have h1:(l.length+1) * bytes<=3000001 * 10000:=Nat.mul_le_mul Bl hbytes;omega
 ·intro v' w' h1 h2 _;exact h v' w' (Ow.snoc h1) h2
def Ip:Enc Int:={ cells:=fun x=>[J U x],sz:=1,len:=fun _=>rfl,one:=fun _ u hu=>by simp at hu;subst hu;rfl }
theorem Gl {W w1:World} (hb:Below W W w1):(∀ b o,b<W.heap.size->w1.cell? ⟨b,o,Ab⟩=W.cell? ⟨b,o,Ab⟩)/\(∀ b o,b<W.heap.size->w1.frozen? ⟨b,o,Ab⟩=W.frozen? ⟨b,o,Ab⟩) :=
 ⟨fun b o h=>hb.cell (p:=⟨b,o,Ab⟩) h,fun b o h=>hb.frozen (p:=⟨b,o,Ab⟩) h⟩
theorem Bu {w w1 w2:World} (h:Below w w w1) (k:Below w1 w1 w2):Below w w w2:=h.trans (k.mono h.size)
theorem Cm {B:Nat} {a w:World} (h:Below B a w) (n:Nat):Below B a (w.drewN n):=⟨h.os,h.tape,h.output,h.size,h.block⟩
def K4 (left:Int) (n:Nat) (w:World) (e:Ending) (w':World):Prop:=∃ r:Int,e = .returned (J U r)/\(r = -1\/(0<=r/\r+n<=left))/\Below w w w'
theorem C8 {k:IntKind} {a b:Int} (h:a=b):Ending.returned (.int k a) = .returned (.int k b):=by rw [h]
theorem Bw {a b:Bool} (h:a=b):Ending.returned (.bool a) = .returned (.bool b):=by rw [h]
theorem Cp {α:Type} (l:List α) (k:Nat) (h:k<l.length):l.take (k+1)=l.take k ++ [l[k]]:=by
 rw [List.take_succ_eq_append_getElem h]
/-! A region that draws its order,whose operations only read old memory and whose callees only make new memory and hand back values that do not depend on it: one walk serves. -/
def Ju (w:World):Type:={ u:World // Below w w u }
instance (w:World):Nonempty (Ju w):=⟨⟨w,Br _ _⟩⟩
theorem Bz {P:Program} {id:Nat} {Q:Exit->Act->World->Prop} {a:Act} {w:World} {l:List Oper} (hm:P.follows .mixedOrders=true) (hB:Region.lexB .any l.toArray=true)
  (h:wpQuiet P l.toArray (fun w'=>∃ u:Ju w,w'=u.1) (fun a'=>∀ w',(∃ u:Ju w,w'=u.1)->Q .normal a' w') l a):(Code.region id l.toArray true).wp P Q a w :=
 wp_region_quiet (C:=fun w'=>∃ u:Ju w,w'=u.1) hm hB ⟨⟨w.drew,(Br _ _).drew⟩,rfl⟩ (by simpa using h)
theorem Di (w:World):∀ (u:Ju w) (b o:Nat),b<w->(u.1).cell? ⟨b,o,Ab⟩=w.cell? ⟨b,o,Ab⟩:=fun u b o h=>u.2.cell (p:=⟨b,o,Ab⟩) h
theorem Fg {P:Program} {f:FuncId} {args:Array Value} {w:World} {u:Ju w} {v:Value}
  (h:Calls P f args u.1 fun e w'=>e = .returned v/\Below u.1 u.1 w'):Calls P f args u.1 fun e w''=>e = .returned v /\ ∃ u':Ju w,w''=u'.1 :=
 h.mono fun _ _ ⟨he,hb⟩=>⟨he,⟨_,Bu u.2 hb⟩,rfl⟩
theorem I7 {P:Program} {f:FuncId} {args:Array Value} {w:World} {u:Ju w} {v:Value}
  (h:∀ u:Ju w,Calls P f args u.1 fun e w'=>e = .returned v/\Below u.1 u.1 w'):Calls P f args u.1 fun e w''=>e = .returned v /\ ∃ u':Ju w,w''=u'.1 :=
 (h u).mono fun _ _ ⟨he,hb⟩=>⟨he,⟨_,Bu u.2 hb⟩,rfl⟩
theorem Ds {P:Program} {f:FuncId} {args:Array Value} {w:World} {u:Ju w} {v:Value}
  (h:∀ u:Ju w,Calls P f args u.1 fun e w'=>e = .returned v/\u.1=w'):Calls P f args u.1 fun e w''=>e = .returned v /\ ∃ u':Ju w,w''=u'.1 :=
 (h u).mono fun _ _ ⟨he,hb⟩=>⟨he,u,hb.symm⟩
end Go.Proofs.YtonlnjdempbfoabGreat
namespace Go.Proofs.YtonlnjdempbfoabGreat.Pg
inductive Way (es:List (Nat×Nat)):Nat->List Nat->Nat->Prop
 | nil (a:Nat):Way es a [] a
 | cons {a c b:Nat} {l:List Nat} : (a,c)∈es->Way es c l b->Way es a (c :: l) b
def Reach (es:List (Nat×Nat)) (a b:Nat):Prop:=∃ l,l≠[]/\Way es a l b
theorem Way.split {es:List (Nat×Nat)} {x b:Nat} {l2:List Nat} : ∀ {a:Nat} (l1:List Nat),Way es a (l1 ++ x :: l2) b->Way es x l2 b
 | _,[],h=>by cases h with | cons _ h=>exact h
 | _,_ :: l1,h=>by cases h with | cons _ h=>exact Way.split l1 h
theorem Way.snoc {es:List (Nat×Nat)} {b c:Nat} : ∀ {a:Nat} {l:List Nat},Way es a l b->(b,c)∈es->Way es a (l ++ [c]) c
 | _,_,.nil _,he=>.cons he (.nil _)
 | _,_,.cons h1 h2,he=>.cons h1 (h2.snoc he)
theorem Way.simple {es:List (Nat×Nat)} {b:Nat} : ∀ (l:List Nat) {a c:Nat},Way es a (c :: l) b -> ∃ l',Way es a (c :: l') b/\(c :: l').Nodup
 | [],_,_,h=>⟨[],h,by simp⟩
 | d :: l,a,c,h=>by
  cases h with
  | cons h1 h2 =>
   obtain ⟨l',hw,hn⟩:=Way.simple l h2;by_cases hc:c∈d :: l'
   ·obtain ⟨l1,l2,he⟩:=List.append_of_mem hc;rw [he] at hw hn;refine ⟨l2,.cons h1 (hw.split l1),?_⟩;exact (List.nodup_append.1 hn).2.1
   ·exact ⟨d :: l',.cons h1 hw,List.nodup_cons.2 ⟨hc,hn⟩⟩
theorem Tv:∀ (T:Nat) (l:List Nat),l.Nodup->(∀ x∈l,x<T)->l.length<=T
 | 0,l,_,h=>by
  cases l with
  | nil=>simp
  | cons a l=>exact absurd (h a (by simp)) (by omega)
 | T+1,l,hn,h=>by
  have h1:=Tv T (l.erase T) (hn.erase T) (fun x hx=>by
   have dV:=(hn.mem_erase_iff).1 hx
   have:=h x dV.2
   have:=dV.1
   omega)
  have h2:l.length<=(l.erase T).length+1:=by
   rw [List.length_erase];split<;>omega
  omega
theorem Way.mem {es:List (Nat×Nat)} {b:Nat} {T:Nat} (sK:∀ e∈es,e.2<T):∀ {a:Nat} {l:List Nat},Way es a l b -> ∀ x∈l,x<T
 | _,_,.nil _=>by simp
 | _,_,.cons h1 h2=>by
  intro x hx;rcases List.mem_cons.1 hx with rfl | hx
  ·exact sK _ h1
  ·exact h2.mem sK x hx
theorem Reach.short {es:List (Nat×Nat)} {a b T:Nat} (sK:∀ e∈es,e.2<T) (h:Reach es a b):∃ l,l≠[]/\l.length<=T/\Way es a l b:=by
 obtain ⟨l,hl,hw⟩:=h;match l,hl,hw with
 | c :: l,_,hw =>
  obtain ⟨l',pE,hn⟩:=hw.simple l;exact ⟨c :: l',by simp,Tv T _ hn (pE.mem sK),pE⟩
theorem Reach.one {es:List (Nat×Nat)} {a b:Nat} (h:(a,b)∈es):Reach es a b:=⟨[b],by simp,.cons h (.nil _)⟩
theorem Reach.cons {es:List (Nat×Nat)} {a c b:Nat} (h:(a,c)∈es) (h':Reach es c b):Reach es a b:=by
 obtain ⟨l,_,hw⟩:=h';exact ⟨c :: l,by simp,.cons h hw⟩
theorem Reach.snoc {es:List (Nat×Nat)} {a c b:Nat} (h':Reach es a c) (h:(c,b)∈es):Reach es a b:=by
 obtain ⟨l,_,hw⟩:=h';exact ⟨l ++ [b],by simp,hw.snoc h⟩
/-! The closure by rounds: o a is a set of nodes,as a number. -/
def O8 (o:List Nat) (e:Nat×Nat):List Nat:=o.set e.1 (o.getD e.1 0 ||| (1 <<< e.2 ||| o.getD e.2 0))
def Lo (es:List (Nat×Nat)) (o:List Nat):List Nat:=es.foldl O8 o
def K9 (es:List (Nat×Nat)):Nat->List Nat->List Nat
 | 0,o=>o
 | k+1,o=>Lo es (K9 es k o)
theorem La (o:List Nat) (e:Nat×Nat):(O8 o e).length=o.length:=by simp [O8]
theorem Wa (es:List (Nat×Nat)):∀ o:List Nat,(Lo es o).length=o.length:=by
 unfold Lo;induction es with
 | nil=>intro o;rfl
 | cons e es ih=>intro o;rw [List.foldl_cons,ih,La]
theorem Lp (es:List (Nat×Nat)) (o:List Nat):∀ k,(K9 es k o).length=o.length
 | 0=>rfl
 | k+1=>by rw [K9,Wa,Lp es o k]
theorem Ad0 (i b:Nat):(1 <<< i).testBit b=decide (i=b):=by
 rw [Nat.shiftLeft_eq,Nat.one_mul,Nat.testBit_two_pow]
theorem Re (o:List Nat) (e:Nat×Nat) (a:Nat) (h:e.1<o.length) :
  (O8 o e).getD a 0=if a=e.1 then o.getD e.1 0 ||| (1 <<< e.2 ||| o.getD e.2 0) else o.getD a 0:=by
 unfold O8;simp only [List.getD_eq_getElem?_getD,List.getElem?_set];by_cases ha:a=e.1
 ·subst ha;simp [h]
 ·rw [if_neg (fun h=>ha h.symm),if_neg ha]
theorem Tw (o:List Nat) (e:Nat×Nat) (a b:Nat) (h:e.1<o.length) (hb:(o.getD a 0).testBit b=true):((O8 o e).getD a 0).testBit b=true:=by
 rw [Re o e a h];split
 ·rename_i ha;subst ha;rw [Nat.testBit_or,hb];rfl
 ·exact hb
theorem Zw (es:List (Nat×Nat)):∀ (o:List Nat) (a b:Nat),(∀ e∈es,e.1<o.length)->(o.getD a 0).testBit b=true->((Lo es o).getD a 0).testBit b=true:=by
 unfold Lo;induction es with
 | nil=>intro o a b _ h;exact h
 | cons e es ih =>
  intro o a b h hb;rw [List.foldl_cons];exact ih _ a b (fun e' he'=>by rw [La];exact h e' (by simp [he'])) (Tw o e a b (h e (by simp)) hb)
theorem Zx (es:List (Nat×Nat)):∀ (o:List Nat) (a c b:Nat),(∀ e∈es,e.1<o.length)->(a,c)∈es->(c=b\/(o.getD c 0).testBit b=true) ->
  ((Lo es o).getD a 0).testBit b=true:=by
 unfold Lo;induction es with
 | nil=>intro o a c b _ h;simp at h
 | cons e es ih =>
  intro o a c b h hm hb;rw [List.foldl_cons];have hl:∀ e'∈es,e'.1<(O8 o e).length:=fun e' he'=>by rw [La];exact h e' (by simp [he'])
  rcases List.mem_cons.1 hm with he | hm
  ·have h0:((O8 o e).getD a 0).testBit b=true:=by
    rw [Re o e a (h e (by simp)),if_pos (by rw [<-he])];rw [Nat.testBit_or,Nat.testBit_or,Ad0];rcases hb with hb | hb
    ·have:e.2=b:=by rw [<-he];exact hb
     simp [this]
    ·have:e.2=c:=by rw [<-he]
     rw [this,hb];simp
   exact Zw es _ a b hl h0
  ·refine ih _ a c b hl hm ?_;rcases hb with hb | hb
   ·exact .inl hb
   ·exact .inr (Tw o e c b (h e (by simp)) hb)
theorem Rz (es:List (Nat×Nat)) (o:List Nat) (h:∀ e∈es,e.1<o.length):∀ (k:Nat) (a b:Nat) (l:List Nat),l≠[]->l.length<=k->Way es a l b->((K9 es k o).getD a 0).testBit b=true
 | 0,_,_,l,hl,hk,_=>by
  cases l with
  | nil=>exact absurd rfl hl
  | cons x l=>simp at hk
 | k+1,a,b,l,hl,hk,hw=>by
  cases hw with
  | nil=>exact absurd rfl hl
  | cons h1 h2 =>
   rename_i c l;rw [K9];refine Zx es _ a c b (by rw [Lp];exact h) h1 ?_;cases l with
   | nil=>cases h2;exact .inl rfl
   | cons d l=>exact .inr (Rz es o h k c b (d :: l) (by simp) (by simp at hk ⊢;omega) h2)
theorem Yb (es0 es:List (Nat×Nat)) (eM:∀ e∈es,e∈es0):∀ (o:List Nat),(∀ e∈es,e.1<o.length)->(∀ a b,(o.getD a 0).testBit b=true->Reach es0 a b) ->
  ∀ a b,((Lo es o).getD a 0).testBit b=true->Reach es0 a b:=by
 unfold Lo;induction es with
 | nil=>intro o _ h;exact h
 | cons e es ih =>
  intro o hl h;rw [List.foldl_cons];refine ih (fun e' he'=>eM e' (by simp [he'])) _ (fun e' he'=>by rw [La];exact hl e' (by simp [he'])) ?_;intro a b hb;rw [Re o e a (hl e (by simp))] at hb;split at hb
  ·rename_i ha;subst ha;rw [Nat.testBit_or,Nat.testBit_or,Ad0] at hb;simp only [Bool.or_eq_true,decide_eq_true_eq] at hb;rcases hb with hb | hb | hb
   ·exact h _ _ hb
   ·subst hb;exact .one (eM e (by simp))
   ·exact .cons (eM e (by simp)) (h _ _ hb)
  ·exact h _ _ hb
theorem O9 (es:List (Nat×Nat)) (T:Nat) (hl:∀ e∈es,e.1<T):∀ k a b,((K9 es k (List.replicate T 0)).getD a 0).testBit b=true->Reach es a b
 | 0,a,b,h=>by
  simp [K9,List.getD_eq_getElem?_getD,List.getElem?_replicate] at h;split at h<;>simp at h
 | k+1,a,b,h=>Yb es es (fun _ h=>h) _ (by rw [Lp];simpa using hl) (O9 es T hl k) a b h
theorem Ag0 (es:List (Nat×Nat)) (T:Nat) (h1:∀ e∈es,e.1<T) (h2:∀ e∈es,e.2<T) (a b:Nat) :
  ((K9 es T (List.replicate T 0)).getD a 0).testBit b=true ↔ Reach es a b:=by
 refine ⟨O9 es T h1 T a b,fun h=>?_⟩;obtain ⟨l,hl,hT,hw⟩:=h.short h2;exact Rz es _ (by simpa using h1) T a b l hl hT hw
theorem Afs (T:Nat) (o:List Nat) (e:Nat×Nat) (h2:e.2<T) (ho:∀ x∈o,x<2 ^ T):∀ x∈O8 o e,x<2 ^ T:=by
 have hg:∀ a,o.getD a 0<2 ^ T:=fun a=>by
  rw [List.getD_eq_getElem?_getD];cases h:o[a]? with
  | none=>exact Nat.two_pow_pos T
  | some y=>exact ho y (List.mem_of_getElem? h)
 intro x hx;unfold O8 at hx;rcases List.mem_or_eq_of_mem_set hx with hx | hx
 ·exact ho x hx
 ·subst hx;refine Nat.or_lt_two_pow (hg _) (Nat.or_lt_two_pow ?_ (hg _));rw [Nat.shiftLeft_eq,Nat.one_mul];exact Nat.pow_lt_pow_of_lt (by omega) h2
theorem Aeh (T:Nat) (es:List (Nat×Nat)):∀ (o:List Nat),(∀ e∈es,e.2<T)->(∀ x∈o,x<2 ^ T) -> ∀ x∈Lo es o,x<2 ^ T:=by
 unfold Lo;induction es with
 | nil=>intro o _ h;exact h
 | cons e es ih =>
  intro o h2 ho;rw [List.foldl_cons];exact ih _ (fun e' he'=>h2 e' (by simp [he'])) (Afs T o e (h2 e (by simp)) ho)
theorem Acd (T:Nat) (es:List (Nat×Nat)) (o:List Nat) (h2:∀ e∈es,e.2<T) (ho:∀ x∈o,x<2 ^ T):∀ k,∀ x∈K9 es k o,x<2 ^ T
 | 0=>ho
 | k+1=>Aeh T es _ h2 (Acd T es o h2 ho k)
/-! The search by a list. -/
def Mr (x:Nat) (s:List Bool×List Nat) (e:Nat×Nat):List Bool×List Nat :=
 if e.1=x/\s.1.getD e.2 true=false then (s.1.set e.2 true,s.2 ++ [e.2]) else s
def N2 (es:List (Nat×Nat)) (x:Nat) (s:List Bool×List Nat):List Bool×List Nat:=es.foldl (Mr x) s
structure Binv (es:List (Nat×Nat)) (T t:Nat) (s:List Bool×List Nat):Prop where
 size:s.1.length=T
 head:∃ l,s.2=t :: l/\l.Nodup/\(∀ y,y∈l ↔ s.1.getD y false=true)
 reach:∀ y,s.1.getD y false=true->Reach es t y
theorem Binv.lt {es:List (Nat×Nat)} {T t:Nat} {s:List Bool×List Nat} (h:Binv es T t s):s.2.length<=T+1:=by
 obtain ⟨l,hl,hn,hm⟩:=h.head;rw [hl,List.length_cons]
 have:=Tv T l hn (fun x hx=>by
  have:=(hm x).1 hx
  rw [List.getD_eq_getElem?_getD] at this;by_cases dV:x<s.1.length
  ·rw [h.size] at dV;exact dV
  ·rw [List.getElem?_eq_none (by omega)] at this;simp at this)
 omega
theorem Binv.start (es:List (Nat×Nat)) (T t:Nat):Binv es T t (List.replicate T false,[t]):=by
 refine ⟨by simp,⟨[],rfl,by simp,fun y=>?_⟩,fun y=>?_⟩
 ·simp [List.getD_eq_getElem?_getD,List.getElem?_replicate];split<;>simp
 ·simp [List.getD_eq_getElem?_getD,List.getElem?_replicate];split<;>simp
theorem Binv.step {es:List (Nat×Nat)} {T t x:Nat} {s:List Bool×List Nat} (h:Binv es T t s) (hx:x∈s.2) (e:Nat×Nat) (he:e∈es) (h2:e.2<T):Binv es T t (Mr x s e):=by
 unfold Mr;split
 ·rename_i hc;obtain ⟨h1,hf⟩:=hc;obtain ⟨l,hl,hn,hm⟩:=h.head;have aA:e.2<s.1.length:=by rw [h.size];exact h2
  have hf':s.1.getD e.2 false=false:=by
   rw [List.getD_eq_getElem?_getD,List.getElem?_eq_getElem aA] at hf ⊢;simpa using hf
  have hg:∀ y,(s.1.set e.2 true).getD y false=true ↔ y=e.2\/s.1.getD y false=true:=by
   intro y;simp only [List.getD_eq_getElem?_getD,List.getElem?_set];by_cases hy:e.2=y
   ·subst hy;simp [aA]
   ·rw [if_neg hy];exact ⟨fun h=>.inr h,fun h=>h.resolve_left (fun h=>hy h.symm)⟩
  have hr:Reach es t e.2:=by
   rw [hl] at hx;rcases List.mem_cons.1 hx with rfl | hx
   ·exact .one (by rw [<-h1];exact he)
   ·exact (h.reach x ((hm x).1 hx)).snoc (by rw [<-h1];exact he)
  refine ⟨by simpa using h.size,⟨l ++ [e.2],by simp [hl],?_,fun y=>?_⟩,fun y hy=>?_⟩
  ·rw [List.nodup_append];refine ⟨hn,by simp,?_⟩;intro a ha b hb mF;simp only [List.mem_singleton] at hb;rw [mF,hb] at ha;rw [(hm _).1 ha] at hf';cases hf'
  ·rw [hg];simp only [List.mem_append,List.mem_singleton,hm];exact Or.comm
  ·rcases (hg y).1 hy with rfl | hy
   ·exact hr
   ·exact h.reach y hy
 ·exact h
theorem Aei {x y:Nat} {s:List Bool×List Nat} {e:Nat×Nat} (h:y∈s.2):y∈(Mr x s e).2:=by
 unfold Mr;split
 ·simp [h]
 ·exact h
theorem Aej {x:Nat} {s:List Bool×List Nat} {e:Nat×Nat} : ∃ r,(Mr x s e).2=s.2 ++ r:=by
 unfold Mr;split
 ·exact ⟨[e.2],rfl⟩
 ·exact ⟨[],by simp⟩
theorem Aek (es:List (Nat×Nat)) (x:Nat):∀ s:List Bool×List Nat,∃ r,(N2 es x s).2=s.2 ++ r:=by
 unfold N2;induction es with
 | nil=>intro s;exact ⟨[],by simp⟩
 | cons e es ih =>
  intro s;rw [List.foldl_cons];obtain ⟨r,hr⟩:=ih (Mr x s e);obtain ⟨r',gH⟩:=Aej (x:=x) (s:=s) (e:=e);exact ⟨r' ++ r,by rw [hr,gH,List.append_assoc]⟩
theorem Ael {es0:List (Nat×Nat)} {T t x:Nat} (es:List (Nat×Nat)):∀ {s:List Bool×List Nat},Binv es0 T t s->x∈s.2->(∀ e∈es,e∈es0)->(∀ e∈es,e.2<T)->Binv es0 T t (N2 es x s):=by
 unfold N2;induction es with
 | nil=>intro s h _ _ _;exact h
 | cons e es ih =>
  intro s h hx hs h2;rw [List.foldl_cons];exact ih (h.step hx e (hs e (by simp)) (h2 e (by simp))) (Aei hx) (fun e' he'=>hs e' (by simp [he'])) (fun e' he'=>h2 e' (by simp [he']))
theorem Ace {x y:Nat} {s:List Bool×List Nat} {e:Nat×Nat} (h:s.1.getD y false=true):(Mr x s e).1.getD y false=true:=by
 unfold Mr;split
 ·simp only [List.getD_eq_getElem?_getD,List.getElem?_set] at h ⊢;by_cases hy:e.2=y
  ·subst hy;by_cases hl:e.2<s.1.length
   ·simp [hl]
   ·rw [List.getElem?_eq_none (by omega)] at h;simp at h
  ·rw [if_neg hy];exact h
 ·exact h
theorem Tx (es:List (Nat×Nat)) (x y:Nat):∀ s:List Bool×List Nat,s.1.getD y false=true->(N2 es x s).1.getD y false=true:=by
 unfold N2;induction es with
 | nil=>intro s h;exact h
 | cons e es ih=>intro s h;rw [List.foldl_cons];exact ih _ (Ace h)
theorem Qh (x:Nat) (s:List Bool×List Nat) (e:Nat×Nat):(Mr x s e).1.length=s.1.length:=by
 unfold Mr;split<;>simp
theorem Agj (es:List (Nat×Nat)) (x:Nat):∀ s:List Bool×List Nat,(N2 es x s).1.length=s.1.length:=by
 unfold N2;induction es with
 | nil=>intro s;rfl
 | cons e es ih=>intro s;rw [List.foldl_cons,ih,Qh]
theorem Acf (es:List (Nat×Nat)) (x y:Nat):∀ s:List Bool×List Nat,(∀ e∈es,e.2<s.1.length)->(x,y)∈es->(N2 es x s).1.getD y false=true:=by
 unfold N2;induction es with
 | nil=>intro s _ h;simp at h
 | cons e es ih =>
  intro s hl hm;rw [List.foldl_cons];rcases List.mem_cons.1 hm with he | hm
  ·refine Tx es x y _ ?_;have aA:=hl e (by simp);have h1:e.1=x:=by rw [<-he]
   have h2:e.2=y:=by rw [<-he]
   unfold Mr;split
   ·rw [h2] at aA ⊢;simp [List.getD_eq_getElem?_getD,aA]
   ·rename_i hc;rw [h2] at hc aA;simp only [h1,true_and] at hc;rw [List.getD_eq_getElem?_getD,List.getElem?_eq_getElem aA] at hc ⊢;simpa using hc
  ·exact ih _ (fun e' he'=>by rw [Qh];exact hl e' (by simp [he'])) hm
structure Bat (es:List (Nat×Nat)) (T t h:Nat) (s:List Bool×List Nat):Prop where
 inv:Binv es T t s
 le:h<=s.2.length
 done:∀ i x,i<h->s.2[i]? = some x -> ∀ y,(x,y)∈es->s.1.getD y false=true
theorem Bat.start (es:List (Nat×Nat)) (T t:Nat):Bat es T t 0 (List.replicate T false,[t]) :=
 ⟨.start es T t,Nat.zero_le _,fun i _ hi=>absurd hi (by omega)⟩
theorem Bat.next {es:List (Nat×Nat)} {T t h:Nat} {s:List Bool×List Nat} (hb:Bat es T t h s) (h2:∀ e∈es,e.2<T) {x:Nat} (hx:s.2[h]? = some x):Bat es T t (h+1) (N2 es x s):=by
 obtain ⟨r,hr⟩:=Aek es x s;have aA:h<s.2.length:=by
  rcases Nat.lt_or_ge h s.2.length with h' | h'
  ·exact h'
  ·rw [List.getElem?_eq_none h'] at hx;cases hx
 refine ⟨Ael es hb.inv (List.mem_of_getElem? hx) (fun _ h=>h) h2,by rw [hr];simp;omega,fun i z hi' hiz y hy=>?_⟩;rw [hr,List.getElem?_append_left (by omega)] at hiz;rcases Nat.lt_or_eq_of_le (Nat.le_of_lt_succ hi') with hl | rfl
 ·exact Tx es _ y _ (hb.done i z hl hiz y hy)
 ·have:x=z:=Option.some.inj (hx.symm.trans hiz);subst this;exact Acf es x y _ (by rw [hb.inv.size];exact h2) hy
theorem Bat.iff {es:List (Nat×Nat)} {T t:Nat} {s:List Bool×List Nat} (hb:Bat es T t s.2.length s) (y:Nat):s.1.getD y false=true ↔ Reach es t y:=by
 refine ⟨hb.inv.reach y,fun hr=>?_⟩;obtain ⟨l,hl,hn,hm⟩:=hb.inv.head;have hclosed:∀ x,x∈s.2 -> ∀ y,(x,y)∈es->s.1.getD y false=true:=by
  intro x hx y hy;obtain ⟨i,hi⟩:=List.getElem?_of_mem hx;exact hb.done i x (by
   rcases Nat.lt_or_ge i s.2.length with h' | h'
   ·exact h'
   ·rw [List.getElem?_eq_none h'] at hi;cases hi) hi y hy
 have key:∀ (w:List Nat) (a:Nat),a∈s.2->w≠[]->Way es a w y->s.1.getD y false=true:=by
  intro w;induction w with
  | nil=>intro a _ h;exact absurd rfl h
  | cons c w ih =>
   intro a ha _ hw;cases hw with
   | cons h1 h2 =>
    have hc:=hclosed a ha c h1;cases w with
    | nil=>cases h2;exact hc
    | cons d w=>exact ih c (by rw [hl];exact List.mem_cons_of_mem _ ((hm c).2 hc)) (by simp) h2
 obtain ⟨w,hw,hway⟩:=hr;exact key w t (by rw [hl];simp) hw hway
end Go.Proofs.YtonlnjdempbfoabGreat.Pg
namespace Go.Proofs.YtonlnjdempbfoabGreat
open Go.RowKit
set_option maxRecDepth 100000
set_option maxHeartbeats 4000000
set_option linter.unusedVariables false
set_option linter.unusedSimpArgs false
open Value renaming int->J,slice->Aa
open IntKind renaming i64->U
open Option renaming none->Ab,some->Ac
open Nat renaming zero_le->Ag,lt_of_lt_of_le->Ai
open Go.Proofs.Tryz renaming prog->Am
open Char renaming ofNat->An
open Int renaming eq_ofNat_of_zero_le->Ap
open List renaming length_map->Ar,mem_singleton->Au,getElem_mem->Aw,length_take->Az,length_append->Bd
open Go.Proofs.Tryz
end Go.Proofs.YtonlnjdempbfoabGreat
namespace Go.Proofs
open Go.Shelf
def Tryz.lays189_ren:Go.Shelf.Ren:=⟨fun | 189=>278 | 125=>286 | 257=>285 | 128=>298 | 129=>299 | 294=>289 | 295=>290 | 296=>291 | 297=>292 | 298=>293 | 299=>294 | 216=>295 | 300=>296 | 301=>297 | 328=>301 | 329=>302 | 330=>303 | 331=>304 | 332=>305 | 215=>306 | 343=>308 | n=>n,fun | 28=>32 | 3=>3 | 46=>149 | 0=>0 | 51=>290 | 53=>292 | 4=>4 | 183=>282 | 182=>281 | 131=>287 | 5=>5 | 9=>9 | 218=>293 | 222=>297 | 228=>300 | 229=>301 | n=>n,fun | n=>n⟩
theorem Tryz.lays189:Go.Proofs.Lays.n189 Tryz.prog Tryz.lays189_ren:={
 mixed:=by kernel_rfl
 f125:=Tryz.func286.trans (congrArg some (by kernel_rfl))
 f128:=Tryz.func298.trans (congrArg some (by kernel_rfl))
 f129:=Tryz.func299.trans (congrArg some (by kernel_rfl))
 f189:=Tryz.func278.trans (congrArg some (by kernel_rfl))
 f215:=Tryz.func306.trans (congrArg some (by kernel_rfl))
 f216:=Tryz.func295.trans (congrArg some (by kernel_rfl))
 f257:=Tryz.func285.trans (congrArg some (by kernel_rfl))
 f294:=Tryz.func289.trans (congrArg some (by kernel_rfl))
 f295:=Tryz.func290.trans (congrArg some (by kernel_rfl))
 f296:=Tryz.func291.trans (congrArg some (by kernel_rfl))
 f297:=Tryz.func292.trans (congrArg some (by kernel_rfl))
 f298:=Tryz.func293.trans (congrArg some (by kernel_rfl))
 f299:=Tryz.func294.trans (congrArg some (by kernel_rfl))
 f300:=Tryz.func296.trans (congrArg some (by kernel_rfl))
 f301:=Tryz.func297.trans (congrArg some (by kernel_rfl))
 f328:=Tryz.func301.trans (congrArg some (by kernel_rfl))
 f329:=Tryz.func302.trans (congrArg some (by kernel_rfl))
 f330:=Tryz.func303.trans (congrArg some (by kernel_rfl))
 f331:=Tryz.func304.trans (congrArg some (by kernel_rfl))
 f332:=Tryz.func305.trans (congrArg some (by kernel_rfl))
 f343:=Tryz.func308.trans (congrArg some (by kernel_rfl))
 t0:=Tryz.underlying0
 a0:=Tryz.isAgg0
 z0:=Tryz.sizeOf0
 v0:=Tryz.zeroValue0
 t3:=Tryz.underlying3
 a3:=Tryz.isAgg3
 z3:=Tryz.sizeOf3
 v3:=Tryz.zeroValue3
 t4:=Tryz.underlying4
 a4:=Tryz.isAgg4
 z4:=Tryz.sizeOf4
 v4:=Tryz.zeroValue4
 t5:=Tryz.underlying5
 a5:=Tryz.isAgg5
 z5:=Tryz.sizeOf5
 v5:=Tryz.zeroValue5
 t9:=Tryz.underlying9
 a9:=Tryz.isAgg9
 z9:=Tryz.sizeOf9
 v9:=Tryz.zeroValue9
 t28:=Tryz.underlying32
 a28:=Tryz.isAgg32
 z28:=Tryz.sizeOf32
 v28:=Tryz.zeroValue32
 t46:=Tryz.underlying149
 a46:=Tryz.isAgg149
 z46:=Tryz.sizeOf149
 v46:=Tryz.zeroValue149
 t51:=Tryz.underlying290
 a51:=Tryz.isAgg290
 z51:=Tryz.sizeOf290
 v51:=Tryz.zeroValue290
 t53:=Tryz.underlying292
 a53:=Tryz.isAgg292
 z53:=Tryz.sizeOf292
 v53:=Tryz.zeroValue292
 t131:=Tryz.underlying287
 a131:=Tryz.isAgg287
 z131:=Tryz.sizeOf287
 v131:=Tryz.zeroValue287
 t182:=Tryz.underlying281
 a182:=Tryz.isAgg281
 z182:=Tryz.sizeOf281
 v182:=Tryz.zeroValue281
 t183:=Tryz.underlying282
 a183:=Tryz.isAgg282
 z183:=Tryz.sizeOf282
 v183:=Tryz.zeroValue282
 t218:=Tryz.underlying293
 a218:=Tryz.isAgg293
 z218:=Tryz.sizeOf293
 v218:=Tryz.zeroValue293
 t222:=Tryz.underlying297
 a222:=Tryz.isAgg297
 z222:=Tryz.sizeOf297
 v222:=Tryz.zeroValue297
 t228:=Tryz.underlying300
 a228:=Tryz.isAgg300
 z228:=Tryz.sizeOf300
 v228:=Tryz.zeroValue300
 t229:=Tryz.underlying301
 a229:=Tryz.isAgg301
 z229:=Tryz.sizeOf301
 v229:=Tryz.zeroValue301 }
open Go.Sort Go.RowKit in
theorem Tryz.slices_Sort_int (blk off cap:Nat) (zs:List Int) (w:World) (hH:Holds (Value.int .i64) w blk off zs.toArray) (hblk:blk<w) (bM:zs.length<4611686018427387904) :
  Calls Tryz.prog 278 #[.slice (some ⟨blk,off,none⟩) zs.length cap] w fun e w' =>
   e = .returned (.tuple #[]) /\ ∃ n os,w'=grow (putRow (Value.int .i64) (Sort.ahead w n) blk off (zs.mergeSort fun x y=>decide (x<=y)).toArray) os:=Any.slices_Sort_int Tryz.lays189 blk off cap zs w hH hblk bM
open Go.RowKit Go.Sort in
theorem Tryz.slices_Sort_int_none (p:Option Addr) (cap:Nat) (w:World) :
  Calls Tryz.prog 278 #[.slice p 0 cap] w fun e w'=>e = .returned (.tuple #[])/\w'=w:=Any.slices_Sort_int_none Tryz.lays189 p cap w
end Go.Proofs
namespace Go.Proofs.YtonlnjdempbfoabGreat
open Go.RowKit
set_option maxRecDepth 100000
set_option maxHeartbeats 4000000
set_option linter.unusedVariables false
set_option linter.unusedSimpArgs false
open Value renaming int->J,slice->Aa
open IntKind renaming i64->U
open Option renaming none->Ab,some->Ac
open Nat renaming zero_le->Ag,lt_of_lt_of_le->Ai
open Go.Proofs.Tryz renaming prog->Am
open Char renaming ofNat->An
open Int renaming eq_ofNat_of_zero_le->Ap
open List renaming length_map->Ar,mem_singleton->Au,getElem_mem->Aw,length_take->Az,length_append->Bd
open Go.Proofs.Tryz
section
open Go.ChangeShapes Go.WideShapes Go.ChangeAt Go.RowKit
def Ms:List Char:=[An 104,An 97,An 114,An 110,An 101,An 115,An 115,An 32,An 52,An 55,An 53,An 56,An 98,An 98,An 48,An 56,An 53,An 97,An 102,An 97,An 100,An 50,An 56,An 102,An 102,An 56,An 52,An 52,An 56,An 99,An 52,An 98,An 102,An 102,An 54,An 48,An 99,An 51,An 98,An 101,An 51,An 97,An 57,An 54,An 99,An 97,An 102,An 57,An 98,An 55,An 98,An 48,An 50,An 102,An 51,An 57,An 56,An 100,An 48,An 101,An 57,An 100,An 98,An 101,An 53,An 100,An 101,An 99,An 55,An 51,An 102,An 50,An 32,An 99,An 117,An 116,An 32,An 97,An 116,An 32,An 108,An 111,An 111,An 112,An 46,An 101,An 120,An 97,An 109,An 112,An 108,An 101,An 47,An 103,An 48,An 48,An 57,An 54,An 53,An 47,An 108,An 97,An 119,An 115,An 46,An 70,An 110,An 79,An 110,An 99,An 101,An 32,An 108,An 111,An 111,An 112,An 46,An 101,An 120,An 97,An 109,An 112,An 108,An 101,An 47,An 103,An 48,An 48,An 57,An 54,An 53,An 47,An 108,An 97,An 119,An 115,An 46,An 70,An 110,An 83,An 108,An 105,An 109,An 32,An 108,An 111,An 111,An 112,An 46,An 101,An 120,An 97,An 109,An 112,An 108,An 101,An 47,An 103,An 48,An 48,An 57,An 54,An 53,An 47,An 108,An 97,An 119,An 115,An 46,An 70,An 110,An 69,An 120,An 97,An 99,An 116,An 70,An 101,An 100,An 32,An 108,An 111,An 111,An 112,An 46,An 101,An 120,An 97,An 109,An 112,An 108,An 101,An 47,An 103,An 48,An 48,An 57,An 54,An 53,An 47,An 108,An 97,An 119,An 115,An 46,An 70,An 110,An 69,An 120,An 97,An 99,An 116,An 65,An 115,An 107]
theorem Agk:Am.initOrder=String.ofList Ms:=by
 unfold Ms;dsimp only [Am,Tryz.progTables]
theorem Zy:Am.initOrder.toList=Ms:=by rw [Agk,String.toList_ofList]
def Mt:List Char:=[An 99,An 117,An 116]
def Qi:List (List Char):=(behindMainWord (wordsSigns Ms)).tail
theorem Acg:behindMainWord (wordsSigns Ms)=Mt :: Qi:=Bm
theorem Ag1:(Mt == "gc".toList)=false:=Bm
theorem Ad1:(Mt == "spec".toList)=false:=Bm
theorem Ty:(Mt == "carried".toList)=false:=Bm
theorem Ad2:(Mt == "cut".toList)=true:=Bm
theorem R0:stripLifts liftWords (Mt :: Qi)=([],Mt :: Qi):=Bm
theorem Agl (P:Program) (r:List (List Char)) (h:behindMainWord (wordsSigns P.initOrder.toList)=Mt :: r):P.make=Ac .cut:=by
 unfold Program.make;rw [h];simp only [Ag1,Ad1,Ad2,Bool.or_false,Bool.true_or,if_true,Bool.false_eq_true,if_false]
theorem Yc (P:Program) (r:List (List Char)) (h:behindMainWord (wordsSigns P.initOrder.toList)=Mt :: r) (hs:stripLifts liftWords (Mt :: r)=([],Mt :: r)):P.headLifts=[]:=by
 unfold Program.headLifts;simp only [h,hs];split<;>rfl
theorem Wb (P:Program) (r:List (List Char)) (h:behindMainWord (wordsSigns P.initOrder.toList)=Mt :: r) (hs:stripLifts liftWords (Mt :: r)=([],Mt :: r)):P.liftsFinal=false:=by
 unfold Program.liftsFinal;have hc:(Ac Mt == Ac "carried".toList)=false:=Ty;simp only [Yc P r h hs,h,List.head?_cons,hc,Bool.false_and,Bool.false_or];rfl
theorem Zz (P:Program) (r:List (List Char)) (h:behindMainWord (wordsSigns P.initOrder.toList)=Mt :: r) (hs:stripLifts liftWords (Mt :: r)=([],Mt :: r))
  (hl:P.laysLater=false) (hr:P.bearsReflect=false) (hd:P.doorFits []=true):P.mayEnter=true:=by
 unfold Program.mayEnter;have hc:(Ac Mt == Ac "cut".toList)=true:=Ad2;simp only [h,hs,Ag1,Ad1,Ty,hl,hr,hd,hc,List.head?_cons,Bool.or_false,Bool.false_or,Bool.false_and,Bool.not_false,Bool.or_true,Bool.and_true];rfl
theorem Px:behindMainWord (wordsSigns Am.initOrder.toList)=Mt :: Qi:=by rw [Zy,Acg]
theorem Tz:Am.laysLater=false:=Bm
theorem Qj:Am.bearsReflect=false:=Bm
theorem Wc:Am.doorFits []=true:=Bm
theorem Wd:Am.mayEnter=true:=Zz _ _ Px R0 Tz Qj Wc
theorem Ss:Am.liftsFinal=false:=Wb _ _ Px R0
theorem Aem:Am.make=Ac .cut:=Agl _ _ Px
theorem M9:laidOutB Am=true:=Bm
theorem T0:mapsRowed Am=true:=Bm
theorem St:Am.stopsHeard=true:=Bm
theorem T7:Am.plainKeys=true:=Bm
theorem Aft:ownKnob Am.godebug=Ab:=Bm
theorem Afu {f:FuncId} {fn:Func} {s:ChangeSpec} {c:OpenClaim}
  (k1:c.wf (OpenSpec.ofChange s)=true) (k4:fn.params.all (Am.readableRec ·)=true) (k5:namedTie Am c.named s.vars=true)
  (kp:((c.stops == []) && (Am.stops == []) && (c.knobs == []) && (Am.stopKnobs == []))=true)
  (k10:(c.inPlace == Am.inPlace f)=true) (k11:(c.unfollowed == Am.unfollowed f)=true) (k12:(c.recurses == Am.recurses f)=true) (k13:(c.named == Am.varsNamed f)=true)
  (k14:((c.maps == (fn.params.toList ++ s.plain.varTypes Am).any (Am.mapsRec ·)) && (c.ifaces == (fn.params.toList ++ s.plain.varTypes Am).any (Am.ifacesRec ·)) && (c.mapsOut == Am.mapsAmong fn.resultTypes.toList) &&
   (c.loops == (fn.params.toList ++ s.plain.varTypes Am).any (Am.loopsFrom ·)) && (c.wideKeys == (fn.params.toList ++ s.plain.varTypes Am ++ fn.resultTypes.toList).any (Am.wideKeysFrom ·)) &&
   s.vars.all (Am.varReadable ·) && fn.resultTypes.all (fun t=>Am.readableRec t && decide (t<Am.types.size)) && (c.ifacesOut == fn.resultTypes.toList.any (Am.ifacesRec ·)) && (c.loopsOut == fn.resultTypes.toList.any (Am.loopsFrom ·)) && (c.plainKeys == true) && c.shortTexts.isNone)=true)
  (k26:c.lifted=false) (k27:c.make = .cut) (k28:(c.kinds == (if c.domain.isEmpty then [] else fn.params.toList.map fun t=>match Am.underlying t with | some (.int k)=>some k | _=>none))=true) (k29:(c.pinned == c.pinnedBy)=true)
  (k30:((c.veiled == (fn.params.toList ++ s.plain.varTypes Am ++ fn.resultTypes.toList).any (Am.veiledRec ·)) && c.veiledFits Am fn.params.toList (fn.params.toList ++ s.plain.varTypes Am ++ fn.resultTypes.toList))=true) :
  joinedFacts Am f fn s c=true:=by
 simp only [Bool.and_eq_true] at kp k14 k30;obtain ⟨⟨⟨p1,p2⟩,p3⟩,p4⟩:=kp;obtain ⟨⟨⟨⟨⟨⟨⟨⟨⟨⟨q1,q2⟩,q3⟩,q4⟩,q5⟩,q6⟩,q7⟩,q8⟩,q9⟩,q10⟩,q11⟩:=k14;unfold joinedFacts;simp only [Bool.and_eq_true];rw [Aem,Ss,T7,k26,k27];exact ⟨⟨⟨⟨⟨⟨⟨⟨⟨⟨⟨⟨⟨⟨⟨⟨⟨⟨⟨⟨⟨⟨⟨⟨⟨⟨⟨⟨⟨⟨⟨k1,M9⟩,T0⟩,k4⟩,k5⟩,p1⟩,p2⟩,p3⟩,p4⟩,k10⟩,k11⟩,k12⟩,k13⟩,q1⟩,q2⟩,q3⟩,q4⟩,q5⟩,q6⟩,q7⟩,q8⟩,q9⟩,q10⟩,q11⟩,St⟩,Wd⟩,rfl⟩,rfl⟩,k28⟩,k29⟩,k30.1⟩,k30.2⟩
end
structure Edge where
 fr:Int
 to:Int
deriving DecidableEq,Inhabited
def G6:Enc Edge:={ cells:=fun s=>[J U s.fr,J U s.to],sz:=2,len:=fun _=>rfl,one:=fun _ u hu=>by simp at hu;rcases hu with rfl | rfl<;>rfl }
@[go_sem] def Z3 (s:Edge):Value:=.agg #[J U s.fr,J U s.to]
theorem Rd.edge {w:World} {B:Nat} {A:Option Addr} {n c:Nat} {l:List Edge} (h:Rd G6 w B (Aa A n c) l) {k:Nat} (hk:k<l.length) :
  ∃ b o,A=Ac ⟨b,o,Ab⟩/\b<B/\w.cell? ⟨b,o+k * 2,Ab⟩=Ac (J U l[k].fr)/\w.cell? ⟨b,o+k * 2+1,Ab⟩=Ac (J U l[k].to):=by
 obtain ⟨A',c',hv,_,hA⟩:=h;obtain ⟨b,o,cC,hb,hc⟩:=hA Bl;simp only [Value.slice.injEq] at hv;obtain ⟨rfl,_,_⟩:=hv;exact ⟨b,o,cC,hb,hc k hk 0 _ rfl,hc k hk 1 _ rfl⟩
theorem W8:(Am.info? 187).map (fun i=>(i.zero,i.size,i.bytes))=Ac (Ac (Z3 ⟨0,0⟩),2,16):=Bm
open Go.ChangeShapes Go.WideShapes Go.ChangeAt Go.RowKit Go.Deep
section
variable {H:Type} {enc:TypeId×Value->H} {P:Program} {w:World} {spare:Nat->Bool} {held:Bool}
theorem Kc {α:Type} [Inhabited α] (E:Enc α) (ok:α->Prop) {t e:TypeId} {fuel:Nat} {cs:List Value} {x:DataW H×List MemPlace} (ht:P.underlying t=Ac (.slice e)) (bM:P.cellsOf e=E.sz) (hpos:0<E.sz)
  (qK:∀ n cs' y,DataW.trod enc P w 0 spare held n e cs'=Ac y -> ∃ z:α,cs'=E.cells z/\ok z)
  (h:DataW.trod enc P w 0 spare held fuel t cs=Ac x):∃ (v:Value) (l:List α),cs=[v]/\Rd E w w v l/\(∀ z∈l,ok z)/\l.length<=maxLen:=by
 rcases open_slice ht h with ⟨rfl,_⟩ | ⟨a,len,cap,m,n,D,Pl,rfl,_,hl,hm,kQ,_,hi⟩
 ·exact ⟨_,[],rfl,⟨Ab,0,rfl,Bn,fun h=>absurd h Bn⟩,Bn,Bn⟩
 ·have hlm:len<=m:=by rw [kQ];split<;>omega
  have hsp0:0<len->a.spot=Ab/\a.block<w.heap.size:=by
   intro h0l;obtain ⟨cs',hc,kM⟩:=hi 0 Bl;obtain ⟨z,rfl,hz⟩:=qK _ _ _ kM;rw [bM] at hc;obtain ⟨_,aF,hat⟩:=World.cells?_some hc;have h0:=hat 0 hpos;have e0:(a.add (0 * E.sz)).add 0=a:=by simp [Addr.add]
   rw [e0,List.getElem?_eq_getElem (by rw [E.len];exact hpos)] at h0;refine ⟨World.cell?_spot h0,?_⟩;rcases Nat.lt_or_ge a.block w.heap.size with aA | uQ
   ·exact aA
   ·unfold World.cell? at h0;rw [Array.getElem?_eq_none uQ] at h0;simp at h0
  have each:∀ i,i<len -> ∃ z:α,ok z /\ ∀ j u,(E.cells z)[j]? = Ac u->w.cell? ⟨a.block,a.off+i * E.sz+j,Ab⟩=Ac u:=by
   intro i jB;have hsp:=(hsp0 Bl).1;obtain ⟨cs',hc,kM⟩:=hi i Bl;obtain ⟨z,rfl,hz⟩:=qK _ _ _ kM;rw [bM] at hc;obtain ⟨_,aF,hat⟩:=World.cells?_some hc;have hadd:∀ j,((a.add (i * E.sz)).add j)=⟨a.block,a.off+i * E.sz+j,Ab⟩:=by
    intro j;obtain ⟨ab,ao,sp⟩:=a;simp only at hsp;subst hsp;unfold Addr.add;by_cases h1:i * E.sz=0<;>by_cases h2:j=0<;>simp [h1,h2]
   refine ⟨z,hz,fun j u hu=>?_⟩;have hj:j<E.sz:=by
    have:=(List.getElem?_eq_some_iff.1 hu).1
    rw [E.len] at this;exact this
   rw [<-hadd,hat j hj];exact hu
  obtain ⟨f,hf⟩:=choose_lt each;refine ⟨_,(List.range len).map f,rfl,⟨Ac a,cap,Bn,by simpa using hl,fun hp=>?_⟩,?_,by simp;omega⟩
  ·simp only [Ar,List.length_range] at hp;obtain ⟨hsp,hb⟩:=hsp0 hp;refine ⟨a.block,a.off,by rw [<-hsp],hb,fun k hk j u hu=>?_⟩;simp only [Ar,List.length_range] at hk;simp only [List.getElem_map,List.getElem_range] at hu;exact (hf k hk).2 j u hu
  ·intro z hz;simp only [List.mem_map,List.mem_range] at hz;obtain ⟨i,hi',rfl⟩:=hz;exact (hf i hi').1
def Wf (x:Int):Prop:=-9223372036854775808<=x/\x<=9223372036854775807
theorem H7 {x:Int} (h:(Lit.int .i64 x).wf=true):Wf x:=by
 simp [Lit.wf,IntKind.min,IntKind.max,IntKind.signed,IntKind.bits] at h;exact ⟨Bl,Bl⟩
end
structure Fence where
 run:Int
 task:Int
 try_:Int
 text:ByteArray
deriving DecidableEq,Inhabited
@[go_sem] def Ahe (s:Fence):Value:=.agg #[J U s.run,J U s.task,J U s.try_,.string s.text]
theorem pS:(∀ (a:Act) (d:Tmp) (v:Value),a.put (Ac d) v = { a with tmps:=a.tmps.setIfInBounds d v })/\(∀ (a:Act) (v:Value),a.put Ab v=a)/\(∀ (l:List Value) (i:Nat) (v:Value),l.toArray.setIfInBounds i v=(l.set i v).toArray) /\
  (∀ (x:Value) (l:List Value) (v:Value),(x :: l).set 0 v=v :: l)/\(∀ (x:Value) (l:List Value) (i:Nat) (v:Value),(x :: l).set (i+1) v=x :: l.set i v) :=
 ⟨fun _ _ _=>rfl,fun _ _=>rfl,fun _ _ _=>List.setIfInBounds_toArray ..,fun _ _ _=>rfl,fun _ _ _ _=>rfl⟩
section
structure Plan where
 prio:Int
 most:Int
 wait:Int
 tasks:Int
 edges:List Edge
deriving DecidableEq,Inhabited
@[go_sem] abbrev Gw (p:Plan) (ve:Value):Value:=.agg #[.int .i64 p.prio,.int .i64 p.most,.int .i64 p.wait,.int .i64 p.tasks,ve]
def Eu:Enc Nat:={ cells:=fun x=>[J U (x:Int)],sz:=1,len:=fun _=>rfl,one:=fun _ u hu=>by simp at hu;subst hu;rfl }
def T8:Enc Bool:={ cells:=fun x=>[.bool x],sz:=1,len:=fun _=>rfl,one:=fun _ u hu=>by simp at hu;subst hu;rfl }
def inB (n lo hi:Int):Bool:=decide (lo<=n) && decide (n<=hi)
theorem Cw {n lo hi:Int} : inB n lo hi=true ↔ lo<=n/\n<=hi:=by simp [inB]
def Ew (p:Plan):Bool:=inB p.tasks 1 12 && decide (p.edges.length<=30) && inB p.prio 0 9 && inB p.most 1 5 && inB p.wait 1 20
def Jb (T:Int) (e:Edge):Bool:=inB e.fr 0 (T - 1) && inB e.to 0 (T - 1)
def esL (l:List Edge):List (Nat×Nat):=l.map fun e=>(e.fr.toNat,e.to.toNat)
def D4 (p:Plan):List (Nat×Nat):=esL p.edges
def Hg (p:Plan):Prop:=∀ e∈p.edges,Jb p.tasks e=true
def Rf (p:Plan):Prop:=∃ t,t<p.tasks.toNat/\Pg.Reach (D4 p) t t
open Classical in
noncomputable def Cs (p:Plan):Int :=
 if Ew p=false then 1 else if ¬ Hg p then 2 else if ¬ p.edges.Nodup then 3 else if Rf p then 4 else 0
theorem Dj {p:Plan} : Cs p=0 ↔ Ew p=true/\Hg p/\p.edges.Nodup /\ ¬ Rf p:=by
 unfold Cs;cases h1:Ew p
 ·simp
 ·by_cases h2:Hg p<;>by_cases h3:p.edges.Nodup<;>by_cases h4:Rf p<;>simp [h2,h3,h4]
theorem Eh {p:Plan} (h:Ew p=true):1<=p.tasks/\p.tasks<=12:=by
 simp only [Ew,Bool.and_eq_true] at h;exact Cw.1 h.1.1.1.1
theorem Fh {p:Plan} (h:Ew p=true):p.edges.length<=30:=by
 simp only [Ew,Bool.and_eq_true,decide_eq_true_eq] at h;exact h.1.1.1.2
theorem H8 {p:Plan} (h:Hg p) {k:Nat} (hk:k<p.edges.length):0<=p.edges[k].fr/\p.edges[k].fr<p.tasks/\0<=p.edges[k].to/\p.edges[k].to<p.tasks:=by
 have:=h _ (Aw hk)
 simp only [Jb,Bool.and_eq_true,Cw] at this;omega
theorem Na (l:List Edge):(esL l).length=l.length:=by simp [esL]
theorem Mb {p:Plan} (h:Hg p):(∀ e∈D4 p,e.1<p.tasks.toNat)/\(∀ e∈D4 p,e.2<p.tasks.toNat):=by
 have:∀ e∈D4 p,e.1<p.tasks.toNat/\e.2<p.tasks.toNat:=by
  intro e he;simp only [D4,esL,List.mem_map] at he;obtain ⟨x,hx,rfl⟩:=he
  have:=h x hx
  simp only [Jb,Bool.and_eq_true,Cw] at this;simp only;omega
 exact ⟨fun e he=>(this e he).1,fun e he=>(this e he).2⟩
theorem Rd.nat {w:World} {B:Nat} {A:Option Addr} {n c:Nat} {l:List Nat} (h:Rd Eu w B (Aa A n c) l) {k:Nat} (hk:k<l.length) :
  ∃ b o,A=Ac ⟨b,o,Ab⟩/\b<B/\w.cell? ⟨b,o+k,Ab⟩=Ac (J U (l[k]:Int)):=by
 obtain ⟨A',c',hv,_,hA⟩:=h;obtain ⟨b,o,cC,hb,hc⟩:=hA Bl;simp only [Value.slice.injEq] at hv;obtain ⟨rfl,_,_⟩:=hv;exact ⟨b,o,cC,hb,by simpa [Eu] using hc k hk 0 _ rfl⟩
theorem Rd.int {w:World} {B:Nat} {A:Option Addr} {n c:Nat} {l:List Int} (h:Rd Ip w B (Aa A n c) l) {k:Nat} (hk:k<l.length) :
  ∃ b o,A=Ac ⟨b,o,Ab⟩/\b<B/\w.cell? ⟨b,o+k,Ab⟩=Ac (J U l[k]):=by
 obtain ⟨A',c',hv,_,hA⟩:=h;obtain ⟨b,o,cC,hb,hc⟩:=hA Bl;simp only [Value.slice.injEq] at hv;obtain ⟨rfl,_,_⟩:=hv;exact ⟨b,o,cC,hb,by simpa [Ip] using hc k hk 0 _ rfl⟩
theorem Ow.one_ {α:Type} {e:Enc α} (bM:e.sz=1) {E:TypeId} {w:World} {base g n cap:Nat} {l:List α} (h:Ow e E w base (Aa (Ac ⟨g,0,Ab⟩) n cap) l) {k:Nat} (hk:k<l.length) {u:Value} (hu:(e.cells l[k])[0]? = Ac u) :
  w.cell? ⟨g,k,Ab⟩=Ac u:=by
 rcases h.form with ⟨h1,_⟩ | ⟨g',cap',hv,_,_,_,_,_,hc⟩
 ·simp at h1
 ·simp only [Value.slice.injEq,Option.some.injEq,Addr.mk.injEq,and_true] at hv;obtain ⟨rfl,_,_⟩:=hv
  have:=hc k hk 0 u hu
  rw [bM] at this;simpa using this
theorem Ow.nat {E:TypeId} {w:World} {base g n cap:Nat} {l:List Nat} (h:Ow Eu E w base (Aa (Ac ⟨g,0,Ab⟩) n cap) l) {k:Nat} (hk:k<l.length):w.cell? ⟨g,k,Ab⟩=Ac (J U (l[k]:Int)):=h.one_ rfl hk rfl
theorem Ow.bool {E:TypeId} {w:World} {base g n cap:Nat} {l:List Bool} (h:Ow T8 E w base (Aa (Ac ⟨g,0,Ab⟩) n cap) l) {k:Nat} (hk:k<l.length):w.cell? ⟨g,k,Ab⟩=Ac (.bool l[k]):=h.one_ rfl hk rfl
theorem Afv (a b:Nat) (ha:a<9223372036854775808) (hb:b<9223372036854775808):bits .or .i64 (a:Int) (b:Int)=((a ||| b:Nat):Int):=by
 have hx:a ||| b<2 ^ 63:=Nat.or_lt_two_pow Bl Bl
 have h1:(BitVec.ofInt 64 (a:Int)).toNat=a:=by
  rw [BitVec.ofInt_natCast,BitVec.toNat_ofNat];exact Nat.mod_eq_of_lt Bl
 have h2:(BitVec.ofInt 64 (b:Int)).toNat=b:=by
  rw [BitVec.ofInt_natCast,BitVec.toNat_ofNat];exact Nat.mod_eq_of_lt Bl
 show U.wrap ((BitVec.ofInt 64 (a:Int) ||| BitVec.ofInt 64 (b:Int)).toNat:Int)=_;rw [BitVec.toNat_or,h1,h2,IntKind.wrap_i64];generalize a ||| b=y at *
 have hy:y<9223372036854775808:=hx;clear h1 h2 hx;rw [Int.emod_eq_of_lt Bl Bl,Int.add_sub_cancel]
theorem Agm (a b:Nat) (ha:a<9223372036854775808) (hb:b<9223372036854775808):bits .and .i64 (a:Int) (b:Int)=((a &&& b:Nat):Int):=by
 have hx:a &&& b<2 ^ 63:=Nat.and_lt_two_pow _ Bl;have h1:(BitVec.ofInt 64 (a:Int)).toNat=a:=by
  rw [BitVec.ofInt_natCast,BitVec.toNat_ofNat];exact Nat.mod_eq_of_lt Bl
 have h2:(BitVec.ofInt 64 (b:Int)).toNat=b:=by
  rw [BitVec.ofInt_natCast,BitVec.toNat_ofNat];exact Nat.mod_eq_of_lt Bl
 show U.wrap ((BitVec.ofInt 64 (a:Int) &&& BitVec.ofInt 64 (b:Int)).toNat:Int)=_;rw [BitVec.toNat_and,h1,h2,IntKind.wrap_i64];generalize a &&& b=y at *
 have hy:y<9223372036854775808:=hx;clear h1 h2 hx;omega
theorem Afw (x k:Nat) (hx:x<9223372036854775808):(bits .and .i64 ((x:Int) / 2 ^ k) 1 == 1)=x.testBit k:=by
 have e:((x:Int) / 2 ^ k)=((x >>> k:Nat):Int):=by
  rw [Nat.shiftRight_eq_div_pow,Int.natCast_ediv,Int.natCast_pow];rfl
 have hl:x >>> k<9223372036854775808:=by
  rw [Nat.shiftRight_eq_div_pow];exact Nat.lt_of_le_of_lt (Nat.div_le_self _ _) hx
 have ha:=Agm (x >>> k) 1 hl Bl;rw [e];rw [show (1:Int)=((1:Nat):Int) from rfl,ha];unfold Nat.testBit;rw [Nat.and_comm 1,Nat.and_one_is_mod];rcases Nat.mod_two_eq_zero_or_one (x >>> k) with h | h<;>simp [h]
theorem Agn (d:Nat) (hd:d<63):wrap64 ((2:Int) ^ d)=((1 <<< d:Nat):Int):=by
 have h:2 ^ d<2 ^ 63:=Nat.pow_lt_pow_of_lt Bl hd;have e:(2:Int) ^ d=((2 ^ d:Nat):Int):=by rw [Int.natCast_pow];rfl
 rw [e,Nat.shiftLeft_eq,Nat.one_mul];clear e;generalize 2 ^ d=y at *
 unfold wrap64;omega
def Ei (T:TypeId) (p:Plan) (ve:Value) (w:World):World:=w.alloc (.cells #[J U p.prio,J U p.most,J U p.wait,J U p.tasks,ve] T)
theorem Kv (T:TypeId) (p:Plan) (ve:Value) (w:World):Below w w (Ei T p ve w):=Bt
theorem Fi (T:TypeId) (p:Plan) (ve:Value) (w:World):(Ei T p ve w).heap.size=w.heap.size+1:=by simp [Ei]
theorem Fn {T:TypeId} {p:Plan} {ve:Value} {w wr:World} (hb:Below (Ei T p ve w) (Ei T p ve w) wr) :
  wr.cell? ⟨w,0,Ab⟩=Ac (J U p.prio)/\wr.cell? ⟨w,1,Ab⟩=Ac (J U p.most)/\wr.cell? ⟨w,2,Ab⟩=Ac (J U p.wait) /\
   wr.cell? ⟨w,3,Ab⟩=Ac (J U p.tasks)/\wr.cell? ⟨w,4,Ab⟩=Ac ve/\w.heap.size+1<=wr.heap.size/\Below w w wr:=by
 have hs:=Fi T p ve w;have h:∀ j u,(Ei T p ve w).cell? ⟨w,j,Ab⟩=Ac u->wr.cell? ⟨w,j,Ab⟩=Ac u:=fun j u hu=>(hb.cell (p:=⟨w,j,Ab⟩) (by rw [hs];simp)).trans hu;refine ⟨h 0 _ ?_,h 1 _ ?_,h 2 _ ?_,h 3 _ ?_,h 4 _ ?_,by rw [<-hs];exact hb.size,(Kv T p ve w).trans (hb.mono (by rw [hs];omega))⟩;all_goals simp [Ei,go_sem]
end
section
variable {P:Program} {ops:Array Oper} {Q:Exit->Act->World->Prop} {md:Region.Mode} {S:World->Prop} {last:Nat}
def Jv (P:Program) (md:Region.Mode) (ops:Array Oper) (Q:Exit->Act->World->Prop) (S:World->Prop) (last:Nat):Nat->Array Bool->Act->World->Prop
 | 0,listed,a,w=>Region.ready md ops listed=[]/\Q .normal a w
 | fuel+1,listed,a,w =>
  (Region.ready md ops listed=[]->Q .normal a w) /\
  ∀ i∈Region.ready md ops listed,wpOp P ops Q i (fun a' w'=>(i≠last->S w')/\Jv P md ops Q S last fuel (listed.setIfInBounds i true) a' w') a w
theorem T9:∀ (fuel:Nat) (listed:Array Bool) (a:Act) (w:World),Jv P md ops Q S last fuel listed a w->wpAny P md ops Q fuel listed a w
 | 0,_,_,_,h=>h
 | fuel+1,_,_,_,h=>⟨h.1,fun i hi=>wpOp_mono (fun a' w' h'=>T9 fuel _ a' w' h'.2) (h.2 i hi)⟩
def Jo (md:Region.Mode) (ops:Array Oper) (last i:Nat):Bool :=
 match ops[last]? with
 | some o=>o.after.any fun e=>Region.binds md e && e.on == i
 | none=>true
theorem Yd {i:Nat} {oi:Oper} {v:Value} (hi:ops[i]? = Ac oi) (hsel:∀ (j:Nat) (o:Oper) cs b,ops[j]? = Ac o->o.op ≠ .select cs b)
  (hQ:∀ c a w,Q (.panic c) (a.put oi.dst v) w->Q (.panic c) a w) (hl:Jo md ops last i=true) :
  ∀ (fuel:Nat) (listed:Array Bool) (a:Act) (w:World),
   (∀ j oj,ops[j]? = Ac oj->j≠i->listed.getD j true=false->(∀ e∈oj.after,Region.binds md e=true->e.on≠i)->oi.apart ops oj=true) ->
   i∈Region.ready md ops listed->YieldsIf P ops S oi v a->S w ->
   Jv P md ops Q S last fuel (listed.setIfInBounds i true) (a.put oi.dst v) w->Jv P md ops Q S last (fuel+1) listed a w:=by
 intro fuel;induction fuel with
 | zero =>
  intro listed a w _ hr hy hS H;refine ⟨fun h=>(by rw [h] at hr;cases hr),fun j hj=>?_⟩;by_cases hji:j=i
  ·subst hji;exact hy.wpOp hi hS ⟨fun _=>hS,H⟩
  ·have:=ready_mono hj hji
   rw [H.1] at this;cases this
 | succ fuel ih =>
  intro listed a w gQ hr hy hS H;refine ⟨fun h=>(by rw [h] at hr;cases hr),fun j hj=>?_⟩;by_cases hji:j=i
  ·subst hji;exact hy.wpOp hi hS ⟨fun _=>hS,H⟩
  ·have h1:=H.2 j (ready_mono hj hji);obtain ⟨nP,oj,qM,dK⟩:=mem_ready.1 hj;have nU:∀ e∈oj.after,Region.binds md e=true->e.on≠i:=fun e he hb eS=>by
    have h1:=dK e he hb;have h0:=(mem_ready.1 hr).1;rw [eS] at h1;rcases Nat.lt_or_ge i listed.size with h' | h'
    ·simp [h'] at h0 h1;rw [h0] at h1;cases h1
    ·simp [Array.getElem?_eq_none h'] at h1
   have mB:j≠last:=by
    intro e;subst e;unfold Jo at hl;rw [qM] at hl;simp only [Array.any_eq_true] at hl;obtain ⟨k,hk,hb⟩:=hl;simp only [Bool.and_eq_true,beq_iff_eq] at hb;exact nU _ (Array.getElem_mem hk) hb.1 hb.2
   have h2:=wpOp_putIf qM (gQ j oj qM hji nP nU) (fun cs b=>hsel i oi cs b hi) (fun cs b=>hsel j oj cs b qM) hQ hy h1;have hfree':∀ k ok,ops[k]? = Ac ok->k≠i->(listed.setIfInBounds j true).getD k true=false ->
     (∀ e∈ok.after,Region.binds md e=true->e.on≠i)->oi.apart ops ok=true:=fun k ok hk sP dS dX=>by
    refine gQ k ok hk sP ?_ dX;by_cases fS:j=k
    ·subst fS;exact nP
    ·rw [getD_set_ne true fS] at dS;exact dS
   refine wpOp_mono (fun a' w' h3=>⟨h3.2.1,ih (listed.setIfInBounds j true) a' w' hfree' (ready_mono hr (Ne.symm hji)) h3.1 (h3.2.1 mB) ?_⟩) h2;rw [Array.setIfInBounds_comm _ _ hji];exact h3.2.2
theorem Z6 {i:Nat} {oi:Oper} {v:Value} {fuel:Nat} {listed:Array Bool} {a:Act} {w:World} (hi:ops[i]? = Ac oi)
  (hs:Region.noSelect ops=true) (hl:Jo md ops last i=true) (hf:Region.free md ops listed i=true) (hr:(Region.ready md ops listed).contains i=true)
  (hQ:∀ c a w,Q (.panic c) (a.put oi.dst v) w->Q (.panic c) a w) (hS:S w) (hy:YieldsIf P ops S oi v a)
  (h:Jv P md ops Q S last fuel (listed.setIfInBounds i true) (a.put oi.dst v) w):Jv P md ops Q S last (fuel+1) listed a w :=
 Yd hi (Region.noSelect_spec hs) hQ hl fuel listed a w (Region.free_spec hi hf) (by simpa using hr) hy hS h
theorem aT (i:Nat) {oi:Oper} {v:Value} {fuel:Nat} {listed:Array Bool} {a:Act} {w:World} (hS:S w)
  (h:Jv P md ops Q S last fuel (listed.setIfInBounds i true) (a.put oi.dst v) w) (hi:ops[i]? = Ac oi:=by rfl)
  (hs:Region.noSelect ops=true:=by kernel_rfl) (hl:Jo md ops last i=true:=by kernel_rfl) (hf:Region.free md ops listed i=true:=by kernel_rfl) (hr:(Region.ready md ops listed).contains i=true:=by kernel_rfl)
  (hQ:∀ c a w,Q (.panic c) (a.put oi.dst v) w->Q (.panic c) a w:=by exact fun _ _ _ h=>h) (hw:Region.wanted oi (yielded ops a.tmps)=true:=by rfl)
  (hy:∀ w,S w->(execOp a.eval oi).run P w = .ok (.value v) w:=by (intro w hSw;(try dsimp only at hSw);go_simp;all_goals with_reducible rfl)):Jv P md ops Q S last (fuel+1) listed a w :=
 Z6 hi hs hl hf hr hQ hS (Or.inl ⟨hw,hy⟩) h
theorem Ach {i:Nat} {o:Oper} {fuel:Nat} {listed:Array Bool} {a:Act} {w:World} (ho:ops[i]? = Ac o) (hr:Region.ready md ops listed=[i])
  (h:∀ K':Act->World->Prop,Hid (∀ a w,(i≠last->S w)->Jv P md ops Q S last fuel (listed.setIfInBounds i true) a w->K' a w) ->
   if Region.wanted o (yielded ops a.tmps)=true then Oper.wp P o a w K' Q else K' (a.put o.dst undef) w):Jv P md ops Q S last (fuel+1) listed a w:=by
 refine ⟨fun h0=>(by rw [hr] at h0;cases h0),fun j hj=>?_⟩;rw [hr,Au] at hj;subst hj;exact wpOp_step ho (fun K' hK=>h K' (fun a w hS hW=>hK a w ⟨hS,hW⟩))
theorem oT (i:Nat) {o:Oper} {fuel:Nat} {listed:Array Bool} {a:Act} {w:World}
  (h:∀ K':Act->World->Prop,Hid (∀ a w,(i≠last->S w)->Jv P md ops Q S last fuel (listed.setIfInBounds i true) a w->K' a w) ->
   if Region.wanted o (yielded ops a.tmps)=true then Oper.wp P o a w K' Q else K' (a.put o.dst undef) w) (ho:ops[i]? = Ac o:=by rfl) (hr:Region.ready md ops listed=[i]:=by kernel_rfl):Jv P md ops Q S last (fuel+1) listed a w:=Ach ho hr h
theorem D6 {listed:Array Bool} {a:Act} {w:World} (hr:Region.ready md ops listed=[]) (h:Q .normal a w):∀ fuel,Jv P md ops Q S last fuel listed a w
 | 0=>⟨hr,h⟩
 | _+1=>⟨fun _=>h,by rw [hr];intro i hi;cases hi⟩
theorem Db {id:Nat} {a:Act} {w:World} (S:World->Prop) (last:Nat) (hm:P.follows .mixedOrders=true) (hS:S w.drew)
  (h:S w.drew->Jv P .any ops Q S last ops.size (Array.replicate ops.size false) a w.drew):(Code.region id ops true).wp P Q a w :=
 wp_region_any hm (T9 _ _ _ _ (h hS))
end
theorem Ag2 {P:Program} {md:Region.Mode} {Q:Exit->Act->World->Prop} {S:World->Prop} {l:List Oper} (i:Nat) {oi:Oper} {v:Value} {fuel:Nat} {listed:Array Bool} {a:Act} {w:World} (hi:l[i]? = Ac oi)
  (hs:Region.noSelect l.toArray=true) (hf:Region.free md l.toArray listed i=true) (hr:(Region.ready md l.toArray listed).contains i=true) (hQ:∀ c a w,Q (.panic c) (a.put oi.dst v) w->Q (.panic c) a w)
  (hw:Region.wanted oi (yielded l.toArray a.tmps)=true) (hy:∀ w,S w->(execOp a.eval oi).run P w = .ok (.value v) w) (hS:S w)
  (h:wpAnyH P md l.toArray Q S fuel (listed.setIfInBounds i true) (a.put oi.dst v) w):wpAnyH P md l.toArray Q S (fuel+1) listed a w :=
 wpAnyH_take (by rw [List.getElem?_toArray];exact hi) hs hf hr hQ (.inl ⟨hw,hy⟩) hS h
theorem Ag8 {P:Program} {md:Region.Mode} {Q:Exit->Act->World->Prop} {S:World->Prop} {l:List Oper} (i:Nat) {o:Oper} {fuel:Nat} {listed:Array Bool} {a:Act} {w:World} (ho:l[i]? = Ac o)
  (hr:Region.ready md l.toArray listed=[i]) (hw:Region.wanted o (yielded l.toArray a.tmps)=true)
  (h:∀ K':Act->World->Prop,Shut (∀ a w,S w->(S w->wpAnyH P md l.toArray Q S fuel (listed.setIfInBounds i true) a w)->K' a w)->Oper.wp P o a w K' Q):wpAnyH P md l.toArray Q S (fuel+1) listed a w :=
 wpAnyH_ready hr Bn (AllReadyH.cons (o:=o) (by rw [List.getElem?_toArray];exact ho) (fun K hK=>by rw [if_pos hw];exact h K hK) AllReadyH.nil)
theorem Qk {P:Program} {md:Region.Mode} {Q:Exit->Act->World->Prop} {S:World->Prop} {l:List Oper} (i j:Nat) {oi oj:Oper} {fuel:Nat} {listed:Array Bool} {a:Act} {w:World} (hi:l[i]? = Ac oi) (hj:l[j]? = Ac oj)
  (hr:Region.ready md l.toArray listed=[i,j]) (wi:Region.wanted oi (yielded l.toArray a.tmps)=true) (wj:Region.wanted oj (yielded l.toArray a.tmps)=true)
  (h1:∀ K':Act->World->Prop,Shut (∀ a w,S w->(S w->wpAnyH P md l.toArray Q S fuel (listed.setIfInBounds i true) a w)->K' a w)->Oper.wp P oi a w K' Q)
  (h2:∀ K':Act->World->Prop,Shut (∀ a w,S w->(S w->wpAnyH P md l.toArray Q S fuel (listed.setIfInBounds j true) a w)->K' a w)->Oper.wp P oj a w K' Q):wpAnyH P md l.toArray Q S (fuel+1) listed a w :=
 wpAnyH_ready hr Bn (AllReadyH.cons (o:=oi) (by rw [List.getElem?_toArray];exact hi) (fun K hK=>by rw [if_pos wi];exact h1 K hK) (AllReadyH.cons (o:=oj) (by rw [List.getElem?_toArray];exact hj) (fun K hK=>by rw [if_pos wj];exact h2 K hK) AllReadyH.nil))
theorem tY {P:Program} {md:Region.Mode} {Q:Exit->Act->World->Prop} {S:World->Prop} {l:List Oper} (i:Nat) {oi:Oper} {v:Value} {fuel:Nat} {listed:Array Bool} {a:Act} {w:World}
  (h:wpAnyH P md l.toArray Q S fuel (listed.setIfInBounds i true) (a.put oi.dst v) w) (hi:l[i]? = Ac oi:=by rfl)
  (hs:Region.noSelect l.toArray=true:=by kernel_rfl) (hf:Region.free md l.toArray listed i=true:=by kernel_rfl) (hr:(Region.ready md l.toArray listed).contains i=true:=by kernel_rfl) (hQ:∀ c a w,Q (.panic c) (a.put oi.dst v) w->Q (.panic c) a w:=by exact fun _ _ _ h=>h)
  (hw:Region.wanted oi (yielded l.toArray a.tmps)=true:=by rfl) (hS:S w:=by assumption)
  (hy:∀ w,S w->(execOp a.eval oi).run P w = .ok (.value v) w:=by (intro w' hSw;(try dsimp only at hSw);(try have h0:=hSw.cell 0 _ rfl);(try have h1:=hSw.cell 1 _ rfl);(try have h2:=hSw.cell 2 _ rfl);(try have h3:=hSw.cell 3 _ rfl);(try have h4:=hSw.cell 4 _ rfl);(try have h5:=hSw.cell 5 _ rfl);(try have h6:=hSw.cell 6 _ rfl);(try have h7:=hSw.cell 7 _ rfl);(try have h8:=hSw.cell 8 _ rfl);(try have h9:=hSw.cell 9 _ rfl);(try have h10:=hSw.cell 10 _ rfl);(try have h11:=hSw.cell 11 _ rfl);go_simp;(try with_reducible rfl))) :
  wpAnyH P md l.toArray Q S (fuel+1) listed a w:=Ag2 i hi hs hf hr hQ hw hy hS h
theorem tV {P:Program} {md:Region.Mode} {Q:Exit->Act->World->Prop} {S:World->Prop} {l:List Oper} (i:Nat) {oi:Oper} {v:Value} {fuel:Nat} {listed:Array Bool} {a:Act} {w:World}
  (h:wpAnyH P md l.toArray Q S fuel (listed.setIfInBounds i true) (a.put oi.dst v) w) (hi:l[i]? = Ac oi:=by rfl)
  (hs:Region.noSelect l.toArray=true:=by kernel_rfl) (hf:Region.free md l.toArray listed i=true:=by kernel_rfl) (hr:(Region.ready md l.toArray listed).contains i=true:=by kernel_rfl) (hQ:∀ c a w,Q (.panic c) (a.put oi.dst v) w->Q (.panic c) a w:=by exact fun _ _ _ h=>h)
  (hw:Region.wanted oi (yielded l.toArray a.tmps)=true:=by rfl) (hS:S w:=by assumption)
  (hy:∀ w,S w->(execOp a.eval oi).run P w = .ok (.value v) w:=by (intro w' hSw;(try dsimp only at hSw);(try have q0:=hSw.1.cell 0 _ rfl);(try have q1:=hSw.1.cell 1 _ rfl);(try have q2:=hSw.1.cell 2 _ rfl);(try have q3:=hSw.1.cell 3 _ rfl);(try have q4:=hSw.1.cell 4 _ rfl);(try have q5:=hSw.1.cell 5 _ rfl);(try have q6:=hSw.1.cell 6 _ rfl);(try have q7:=hSw.1.cell 7 _ rfl);(try have r0:=hSw.2.cell 0 _ rfl);(try have r1:=hSw.2.cell 1 _ rfl);(try have r2:=hSw.2.cell 2 _ rfl);(try have r3:=hSw.2.cell 3 _ rfl);(try have r4:=hSw.2.cell 4 _ rfl);(try have r5:=hSw.2.cell 5 _ rfl);(try have s0:=hSw.2.1.cell 0 _ rfl);(try have s1:=hSw.2.1.cell 1 _ rfl);(try have s2:=hSw.2.1.cell 2 _ rfl);(try have s3:=hSw.2.1.cell 3 _ rfl);(try have s4:=hSw.2.1.cell 4 _ rfl);(try have t0:=hSw.2.2.cell 0 _ rfl);(try have t1:=hSw.2.2.cell 1 _ rfl);(try have t2:=hSw.2.2.cell 2 _ rfl);(try have t3:=hSw.2.2.cell 3 _ rfl);(try have t4:=hSw.2.2.cell 4 _ rfl);go_simp;(try with_reducible rfl))) :
  wpAnyH P md l.toArray Q S (fuel+1) listed a w:=Ag2 i hi hs hf hr hQ hw hy hS h
theorem rC {P:Program} {md:Region.Mode} {Q:Exit->Act->World->Prop} {S:World->Prop} {l:List Oper} (i:Nat) {o:Oper} {fuel:Nat} {listed:Array Bool} {a:Act} {w:World}
  (h:∀ K':Act->World->Prop,Shut (∀ a w,S w->(S w->wpAnyH P md l.toArray Q S fuel (listed.setIfInBounds i true) a w)->K' a w)->Oper.wp P o a w K' Q) (ho:l[i]? = Ac o:=by rfl)
  (hr:Region.ready md l.toArray listed=[i]:=by kernel_rfl) (hw:Region.wanted o (yielded l.toArray a.tmps)=true:=by rfl):wpAnyH P md l.toArray Q S (fuel+1) listed a w:=Ag8 i ho hr hw h
def Py (p:Plan) (w:World) (e:Ending) (w':World):Prop:=∃ v,e = .returned (Gw p v)/\Ow G6 187 w' w v p.edges/\Below w w w'
theorem Co (n lo hi:Int) (w:World):Calls Am 56 #[J U n,J U lo,J U hi] w fun e w'=>e = .returned (.bool (inB n lo hi))/\w=w':=by
 by_cases h1:lo<=n
 ·have t1:decide (lo<=n)=true:=by simpa using h1
  go_enter func56,ntmps56;go_wp2;go_ret;exact ⟨Bw (by simp [inB,t1]),rfl⟩
 ·have t1:decide (lo<=n)=false:=by simpa using h1
  go_enter func56,ntmps56;go_wp2;go_ret;exact ⟨Bw (by simp [inB,t1]),rfl⟩
theorem Cg (n lo hi:Int) (w:World):Calls Am 63 #[J U n,J U lo,J U hi] w fun e w'=>e = .returned (.bool (inB n lo hi))/\w=w':=by
 by_cases h1:lo<=n
 ·have t1:decide (lo<=n)=true:=by simpa using h1
  go_enter func63,ntmps63;go_wp2;go_ret;exact ⟨Bw (by simp [inB,t1]),rfl⟩
 ·have t1:decide (lo<=n)=false:=by simpa using h1
  go_enter func63,ntmps63;go_wp2;go_ret;exact ⟨Bw (by simp [inB,t1]),rfl⟩
theorem Cr (n:Int) (w:World):Calls Am 84 #[J U n] w fun e w'=>e = .returned (.bool (inB n 0 1000000000))/\w=w':=by
 go_enter func84,ntmps84;go_wp2_with (go_at_call 63;refine (Cg _ _ _ _).mono ?_;rintro e w' ⟨rfl,rfl⟩)
 go_ret;exact ⟨rfl,rfl⟩
def Hj {α:Type} (p:α->Bool) (l:List α):Int:=match l.findIdx? p with | some i=>i | none=>-1
theorem Jp {α:Type} {p:α->Bool} {l:List α} {k:Nat} (hk:k<l.length) (h:∀ j (hj:j<k),p (l[j]' Bl)=false) (hp:p l[k]=true):Hj p l=k:=by
 have:l.findIdx? p=Ac k:=by
  rw [List.findIdx?_eq_some_iff_getElem];exact ⟨hk,hp,fun j hj=>by simp [h j hj]⟩
 simp [Hj,this]
theorem Kd {α:Type} {p:α->Bool} {l:List α} (h:∀ j (hj:j<l.length),p l[j]=false):Hj p l = -1:=by
 have:l.findIdx? p=Ab:=by
  rw [List.findIdx?_eq_none_iff];intro x hx;obtain ⟨j,hj,rfl⟩:=List.getElem_of_mem hx;exact h j hj
 simp [Hj,this]
theorem K0:(Am.info? 3).map (fun i=>(i.zero,i.size,i.bytes))=Ac (Ac (J U 0),1,8):=Bm
theorem Aen (p:Plan) (ve:Value) (w:World) (hm:Ew p=true) (he:Hg p) (h:Rd G6 w w ve p.edges) :
  Calls Am 248 #[Gw p ve] w fun e w'=>∃ v,e = .returned v/\Ow Eu 3 w' w v (Pg.K9 (D4 p) p.tasks.toNat (List.replicate p.tasks.toNat 0))/\Below w w w':=by
 obtain ⟨A,c,rfl,-⟩:=id h;obtain ⟨t1,t2⟩:=Eh hm;have aF:=Fh hm;obtain ⟨T,hT⟩:=Ap (show 0<=p.tasks by omega);have HT:=Bq hT;have fI:T<=12:=Bl;obtain ⟨i0,aR,aX,aW,aU⟩:=info_parts K0;have kE:∀ w:World,(Instr.makeSlice 32 (.int .i64 p.tasks) (.int .i64 p.tasks)).run Am w = .ok (.slice (Ac ⟨w,0,Ab⟩) T T) (w.alloc (.cells (madeCells #[.int .i64 0] (T * 1)) 3)):=by
  intro w
  have:=run_make (P:=Am) w 32 3 i0 _ underlying32 aR aX .i64 .i64 T T Bl Bl (by rw [aU];omega) Bl
  rw [aW] at this;rw [hT];simpa [Value.cells] using this
 clear hT;unfold Gw;go_enter func248,ntmps248;go_wp2;go_loopw [11] (fun i wr=>∃ k:Nat,k<=T/\i = .int .i64 k/\Ow Eu 3 wr (w+1) (.slice (Ac ⟨w+1,0,Ab⟩) T T) (Pg.K9 (D4 p) k (List.replicate T 0))/\Below (Ei 36 p (.slice A p.edges.length c) w) (Ei 36 p (.slice A p.edges.length c) w) wr) (fun i _=>T - (intOf i).toNat);case atStart =>
  refine ⟨0,Ag _,rfl,?_,Bt⟩
  have:=Ow.made Eu 3 (Ei 36 p (.slice A p.edges.length c) w) 0 T Bp (by simp [maxLen];omega) (z:=#[.int .i64 0]) rfl (m:=T) (by simp [Eu])
  rw [Fi] at this;exact this
 case round =>
  obtain ⟨k,hk,rfl,hown,hb⟩:=hrel;obtain ⟨x0,x1,x2,x3,x4,hs,bW⟩:=Fn hb;by_cases aA:k<T
  ·have aB:(k:Int)<p.tasks:=by rw [HT.out];omega
   obtain ⟨wo,rfl⟩:∃ wo:World,wo=wr:=⟨_,rfl⟩
   go_wp2;go_loopw [16] (fun i wr=>∃ j:Nat,j<=p.edges.length/\i = .int .i64 j/\Ow Eu 3 wr (w+1) (.slice (Ac ⟨w+1,0,Ab⟩) T T) (Pg.Lo (esL (p.edges.take j)) (Pg.K9 (D4 p) k (List.replicate T 0)))/\Below (Ei 36 p (.slice A p.edges.length c) w) (Ei 36 p (.slice A p.edges.length c) w) wr) (fun i _=>p.edges.length - (intOf i).toNat);case atStart=>exact ⟨0,Ag _,rfl,hown,hb⟩
   case round =>
    clear hown hb x0 x1 x2 x3 x4 hs bW;obtain ⟨j,hj,rfl,hown,hb⟩:=hrel;obtain ⟨x0,x1,x2,x3,x4,hs,bW⟩:=Fn hb;by_cases dM:j<p.edges.length
    ·obtain ⟨b,o,rfl,aK,c0,c1⟩:=(h.below bW).edge dM;obtain ⟨f1,f2,f3,f4⟩:=H8 he dM;rw [HT.out] at f2 f4;have ht:=Bq (show esL (p.edges.take (j+1))=esL (p.edges.take j) ++ [(p.edges[j].fr.toNat,p.edges[j].to.toNat)] by unfold esL;rw [Cp _ j dM,List.map_append];rfl);generalize p.edges[j].fr=fx at *
     generalize p.edges[j].to=tx at *
     obtain ⟨a,rfl⟩:=Ap f1;obtain ⟨d,rfl⟩:=Ap f3;have nK:(Pg.Lo (esL (p.edges.take j)) (Pg.K9 (D4 p) k (List.replicate T 0))).length=T:=by rw [Pg.Wa,Pg.Lp,List.length_replicate]
     have hnext:Hid (Pg.Lo (esL (p.edges.take (j+1))) (Pg.K9 (D4 p) k (List.replicate T 0))=Pg.O8 (Pg.Lo (esL (p.edges.take j)) (Pg.K9 (D4 p) k (List.replicate T 0))) (a,d)):=by
      show Pg.Lo _ _=_;rw [ht.out];simp only [Int.toNat_natCast];unfold Pg.Lo;rw [List.foldl_append];rfl
     have aZ:∀ x∈Pg.Lo (esL (p.edges.take j)) (Pg.K9 (D4 p) k (List.replicate T 0)),x<2 ^ T:=by
      refine Pg.Aeh T _ _ ?_ (Pg.Acd T _ _ ?_ ?_ k)
      ·intro e he';simp only [esL,List.mem_map] at he';obtain ⟨y,hy,rfl⟩:=he'
       have:=(Mb he).2 (y.fr.toNat,y.to.toNat) (by simp only [D4,esL,List.mem_map];exact ⟨y,List.mem_of_mem_take hy,rfl⟩)
       rw [HT.out] at this;simpa using this
      ·have:=(Mb he).2
       rw [HT.out] at this;simpa using this
      ·intro x hx
       have:=List.eq_of_mem_replicate hx
       subst this;exact Nat.two_pow_pos T
     generalize hO:Pg.Lo (esL (p.edges.take j)) (Pg.K9 (D4 p) k (List.replicate T 0))=O at *
     have HO:=Bq hO;clear hO ht;have hol':=Bq nK;have ha:a<O.length:=Bl;have hd:d<O.length:=Bl;clear nK;have sC:=hown.blk.2;have n0:(wr.alloc (.cells #[.int .i64 (a:Int),.int .i64 (d:Int)] 187)).cell? ⟨wr,0,Ab⟩=Ac (.int .i64 (a:Int)):=by go_simp
     have n1:(wr.alloc (.cells #[.int .i64 (a:Int),.int .i64 (d:Int)] 187)).cell? ⟨wr,1,Ab⟩=Ac (.int .i64 (d:Int)):=by go_simp
     have hown2:=Ow.below hown ((Br _ _).alloc (Bs _) (.cells #[.int .i64 (a:Int),.int .i64 (d:Int)] 187));have aG:=hb.alloc hb.size (.cells #[.int .i64 (a:Int),.int .i64 (d:Int)] 187);go_wp2;generalize wr.alloc (.cells #[.int .i64 (a:Int),.int .i64 (d:Int)] 187)=W2 at *
     have hcf:=hown2.free;have ca:=hown2.nat ha;have cd:=hown2.nat hd;go_still_tail 16,Bm;go_wp2;have hda:O[d]<2 ^ T:=aZ _ (Aw hd);have haa:O[a]<2 ^ T:=aZ _ (Aw ha);have hpT:2 ^ T<=2 ^ 12:=Nat.pow_le_pow_right Bl fI;have hpd:1 <<< d<2 ^ 12:=by rw [Nat.shiftLeft_eq,Nat.one_mul];exact Nat.pow_lt_pow_of_lt Bl Bl
     have hor:1 <<< d ||| O[d]<2 ^ 12:=Nat.or_lt_two_pow hpd (Ai hda hpT)
     have sE:∀ {x:Nat},x<2 ^ 12->x<9223372036854775808:=fun h=>Ai h Bp;rw [Agn d Bl,Afv (1 <<< d) O[d] (sE hpd) (sE (Ai hda hpT)),Afv O[a] (1 <<< d ||| O[d]) (sE (Ai haa hpT)) (sE hor)];clear hpd hor sE hda haa hpT;have cR:=Ow.put hown2 (n:=T) hol'.out a Bl (O[a] ||| (1 <<< d ||| O[d]));have eB:O.set a (O[a] ||| (1 <<< d ||| O[d]))=Pg.O8 O (a,d):=by
      simp [Pg.O8,List.getD_eq_getElem?_getD,ha,hd]
     rw [eB,<-hnext.out] at cR;simp only [Eu,Nat.mul_one] at cR;refine ⟨⟨j+1,Bl,by go_num,cR.1,((aG.grown cR.2 aG.size (fun g hg=>?_))).drew⟩,by simp [intOf];omega⟩;rw [Fi];simp at hg;omega
    ·have hj':j=p.edges.length:=Bl;subst hj';rw [List.take_length] at hown;go_wp2;exact ⟨⟨k+1,Bl,by go_num,hown,hb⟩,by simp [intOf];omega⟩
  ·have aB:¬ (k:Int)<p.tasks:=by rw [HT.out];omega
   go_wp2;go_ret;refine ⟨_,rfl,?_,bW⟩;have:k=T:=Bl;subst this;rw [HT.out];exact hown.more Bl
section
variable {P:Program} {ops:Array Oper} {Q:Exit->Act->World->Prop} {md:Region.Mode} {S:World->Prop} {last:Nat}
def Iu (P:Program) (md:Region.Mode) (ops:Array Oper) (Q:Exit->Act->World->Prop) (S:World->Prop) (last:Nat):Nat->Array Bool->Act->World->Prop
 | 0,listed,a,w=>Region.ready md ops listed=[]/\Q .normal a w
 | fuel+1,listed,a,w =>
  (Region.ready md ops listed=[]->Q .normal a w) /\
  ∀ i∈Region.ready md ops listed,wpOp P ops Q i (fun a' w'=>(i≠last->listed.getD last false=false->S w')/\Iu P md ops Q S last fuel (listed.setIfInBounds i true) a' w') a w
theorem Ua:∀ (fuel:Nat) (listed:Array Bool) (a:Act) (w:World),Iu P md ops Q S last fuel listed a w->wpAny P md ops Q fuel listed a w
 | 0,_,_,_,h=>h
 | fuel+1,_,_,_,h=>⟨h.1,fun i hi=>wpOp_mono (fun a' w' h'=>Ua fuel _ a' w' h'.2) (h.2 i hi)⟩
theorem Ye {i:Nat} {oi:Oper} {v:Value} (hi:ops[i]? = Ac oi) (hsel:∀ (j:Nat) (o:Oper) cs b,ops[j]? = Ac o->o.op ≠ .select cs b)
  (hQ:∀ c a w,Q (.panic c) (a.put oi.dst v) w->Q (.panic c) a w) (hl:Jo md ops last i=true) (jB:i≠last) :
  ∀ (fuel:Nat) (listed:Array Bool) (a:Act) (w:World),
   (∀ j oj,ops[j]? = Ac oj->j≠i->listed.getD j true=false->(∀ e∈oj.after,Region.binds md e=true->e.on≠i)->oi.apart ops oj=true) ->
   listed.getD last false=false->i∈Region.ready md ops listed->YieldsIf P ops S oi v a->S w ->
   Iu P md ops Q S last fuel (listed.setIfInBounds i true) (a.put oi.dst v) w->Iu P md ops Q S last (fuel+1) listed a w:=by
 intro fuel;induction fuel with
 | zero =>
  intro listed a w _ dS hr hy hS H;refine ⟨fun h=>(by rw [h] at hr;cases hr),fun j hj=>?_⟩;by_cases hji:j=i
  ·subst hji;exact hy.wpOp hi hS ⟨fun _ _=>hS,H⟩
  ·have:=ready_mono hj hji
   rw [H.1] at this;cases this
 | succ fuel ih =>
  intro listed a w gQ dS hr hy hS H;refine ⟨fun h=>(by rw [h] at hr;cases hr),fun j hj=>?_⟩;by_cases hji:j=i
  ·subst hji;exact hy.wpOp hi hS ⟨fun _ _=>hS,H⟩
  ·have h1:=H.2 j (ready_mono hj hji);obtain ⟨nP,oj,qM,dK⟩:=mem_ready.1 hj;have nU:∀ e∈oj.after,Region.binds md e=true->e.on≠i:=fun e he hb eS=>by
    have h1:=dK e he hb;have h0:=(mem_ready.1 hr).1;rw [eS] at h1;rcases Nat.lt_or_ge i listed.size with h' | h'
    ·simp [h'] at h0 h1;rw [h0] at h1;cases h1
    ·simp [Array.getElem?_eq_none h'] at h1
   have mB:j≠last:=by
    intro e;subst e;unfold Jo at hl;rw [qM] at hl;simp only [Array.any_eq_true] at hl;obtain ⟨k,hk,hb⟩:=hl;simp only [Bool.and_eq_true,beq_iff_eq] at hb;exact nU _ (Array.getElem_mem hk) hb.1 hb.2
   have h2:=wpOp_putIf qM (gQ j oj qM hji nP nU) (fun cs b=>hsel i oi cs b hi) (fun cs b=>hsel j oj cs b qM) hQ hy h1;have hfree':∀ k ok,ops[k]? = Ac ok->k≠i->(listed.setIfInBounds j true).getD k true=false ->
     (∀ e∈ok.after,Region.binds md e=true->e.on≠i)->oi.apart ops ok=true:=fun k ok hk sP dS dX=>by
    refine gQ k ok hk sP ?_ dX;by_cases fS:j=k
    ·subst fS;exact nP
    ·rw [getD_set_ne true fS] at dS;exact dS
   have hun':(listed.setIfInBounds j true).getD last false=false:=(getD_set_ne false mB).trans dS;have hunI:(listed.setIfInBounds i true).getD last false=false:=(getD_set_ne false jB).trans dS;refine wpOp_mono (fun a' w' h3=>⟨fun e1 e2=>h3.2.1 e1 ((getD_set_ne false jB).trans e2),ih (listed.setIfInBounds j true) a' w' hfree' hun' (ready_mono hr (Ne.symm hji)) h3.1 (h3.2.1 mB hunI) ?_⟩) h2;rw [Array.setIfInBounds_comm _ _ hji];exact h3.2.2
theorem Z7 {i:Nat} {oi:Oper} {v:Value} {fuel:Nat} {listed:Array Bool} {a:Act} {w:World} (hi:ops[i]? = Ac oi)
  (hs:Region.noSelect ops=true) (hl:Jo md ops last i=true) (jB:i≠last) (dS:listed.getD last false=false) (hf:Region.free md ops listed i=true) (hr:(Region.ready md ops listed).contains i=true)
  (hQ:∀ c a w,Q (.panic c) (a.put oi.dst v) w->Q (.panic c) a w) (hS:S w) (hy:YieldsIf P ops S oi v a)
  (h:Iu P md ops Q S last fuel (listed.setIfInBounds i true) (a.put oi.dst v) w):Iu P md ops Q S last (fuel+1) listed a w :=
 Ye hi (Region.noSelect_spec hs) hQ hl jB fuel listed a w (Region.free_spec hi hf) dS (by simpa using hr) hy hS h
theorem aM (i:Nat) {oi:Oper} {v:Value} {fuel:Nat} {listed:Array Bool} {a:Act} {w:World} (hS:S w)
  (h:Iu P md ops Q S last fuel (listed.setIfInBounds i true) (a.put oi.dst v) w) (hi:ops[i]? = Ac oi:=by rfl)
  (hs:Region.noSelect ops=true:=by kernel_rfl) (hl:Jo md ops last i=true:=by kernel_rfl) (jB:i≠last:=by decide) (dS:listed.getD last false=false:=by kernel_rfl) (hf:Region.free md ops listed i=true:=by kernel_rfl) (hr:(Region.ready md ops listed).contains i=true:=by kernel_rfl)
  (hQ:∀ c a w,Q (.panic c) (a.put oi.dst v) w->Q (.panic c) a w:=by exact fun _ _ _ h=>h) (hw:Region.wanted oi (yielded ops a.tmps)=true:=by rfl)
  (hy:∀ w,S w->(execOp a.eval oi).run P w = .ok (.value v) w:=by (intro w hSw;(try dsimp only at hSw);go_simp;all_goals with_reducible rfl)):Iu P md ops Q S last (fuel+1) listed a w :=
 Z7 hi hs hl jB dS hf hr hQ hS (Or.inl ⟨hw,hy⟩) h
theorem Aci {i:Nat} {o:Oper} {fuel:Nat} {listed:Array Bool} {a:Act} {w:World} (ho:ops[i]? = Ac o) (hr:Region.ready md ops listed=[i])
  (h:∀ K':Act->World->Prop,Hid (∀ a w,(i≠last->listed.getD last false=false->S w)->Iu P md ops Q S last fuel (listed.setIfInBounds i true) a w->K' a w) ->
   if Region.wanted o (yielded ops a.tmps)=true then Oper.wp P o a w K' Q else K' (a.put o.dst undef) w):Iu P md ops Q S last (fuel+1) listed a w:=by
 refine ⟨fun h0=>(by rw [hr] at h0;cases h0),fun j hj=>?_⟩;rw [hr,Au] at hj;subst hj;exact wpOp_step ho (fun K' hK=>h K' (fun a w hS hW=>hK a w ⟨hS,hW⟩))
theorem oM (i:Nat) {o:Oper} {fuel:Nat} {listed:Array Bool} {a:Act} {w:World}
  (h:∀ K':Act->World->Prop,Hid (∀ a w,(i≠last->listed.getD last false=false->S w)->Iu P md ops Q S last fuel (listed.setIfInBounds i true) a w->K' a w) ->
   if Region.wanted o (yielded ops a.tmps)=true then Oper.wp P o a w K' Q else K' (a.put o.dst undef) w) (ho:ops[i]? = Ac o:=by rfl) (hr:Region.ready md ops listed=[i]:=by kernel_rfl):Iu P md ops Q S last (fuel+1) listed a w:=Aci ho hr h
theorem oM2 (i j:Nat) {oi oj:Oper} {fuel:Nat} {listed:Array Bool} {a:Act} {w:World}
  (h1:∀ K':Act->World->Prop,Hid (∀ a w,(i≠last->listed.getD last false=false->S w)->Iu P md ops Q S last fuel (listed.setIfInBounds i true) a w->K' a w) ->
   if Region.wanted oi (yielded ops a.tmps)=true then Oper.wp P oi a w K' Q else K' (a.put oi.dst undef) w)
  (h2:∀ K':Act->World->Prop,Hid (∀ a w,(j≠last->listed.getD last false=false->S w)->Iu P md ops Q S last fuel (listed.setIfInBounds j true) a w->K' a w) ->
   if Region.wanted oj (yielded ops a.tmps)=true then Oper.wp P oj a w K' Q else K' (a.put oj.dst undef) w) (hi:ops[i]? = Ac oi:=by rfl) (hj:ops[j]? = Ac oj:=by rfl) (hr:Region.ready md ops listed=[i,j]:=by kernel_rfl):Iu P md ops Q S last (fuel+1) listed a w:=by
 refine ⟨fun h0=>(by rw [hr] at h0;cases h0),fun k hk=>?_⟩;rw [hr] at hk;rcases List.mem_cons.1 hk with rfl | hk
 ·exact wpOp_step hi (fun K' hK=>h1 K' (fun a w hS hW=>hK a w ⟨hS,hW⟩))
 ·have:=Au.1 hk
  subst this;exact wpOp_step hj (fun K' hK=>h2 K' (fun a w hS hW=>hK a w ⟨hS,hW⟩))
theorem R7 {listed:Array Bool} {a:Act} {w:World} (hr:Region.ready md ops listed=[]) (h:Q .normal a w):∀ fuel,Iu P md ops Q S last fuel listed a w
 | 0=>⟨hr,h⟩
 | _+1=>⟨fun _=>h,by rw [hr];intro i hi;cases hi⟩
theorem Su {id:Nat} {a:Act} {w:World} (S:World->Prop) (last:Nat) (hm:P.follows .mixedOrders=true) (hS:S w.drew)
  (h:S w.drew->Iu P .any ops Q S last ops.size (Array.replicate ops.size false) a w.drew):(Code.region id ops true).wp P Q a w :=
 wp_region_any hm (Ua _ _ _ _ (h hS))
end
def Ag9 (v:Value) (lo hi:Nat):Prop:=∀ g,v.ownBlock=Ac g->lo<=g/\g<hi
theorem Ow.within {α:Type} {e:Enc α} {E:TypeId} {w:World} {base:Nat} {v:Value} {l:List α} (h:Ow e E w base v l):Ag9 v base w:=by
 intro g hg;rcases h.form with ⟨rfl,_⟩ | ⟨g',cap,rfl,h1,h2,_⟩
 ·simp [Value.ownBlock] at hg
 ·have:g'=g:=by simpa [Value.ownBlock] using hg
  omega
structure BoxAt (b:Nat) (p:Plan) (v:Value) (w:World):Prop where
 cells:w.cell? ⟨b,0,none⟩=some (.int .i64 p.prio)/\w.cell? ⟨b,1,none⟩=some (.int .i64 p.most)/\w.cell? ⟨b,2,none⟩=some (.int .i64 p.wait) /\
  w.cell? ⟨b,3,none⟩=some (.int .i64 p.tasks)/\w.cell? ⟨b,4,none⟩=some v/\b<w
 free:∀ j,w.frozen? ⟨b,j,none⟩=false
theorem BoxAt.lt {b:Nat} {p:Plan} {v:Value} {w:World} (h:BoxAt b p v w):b<w:=h.cells.2.2.2.2.2
theorem BoxAt.new' (T:TypeId) (p:Plan) (v:Value) (w:World) {b:Nat} (hb:b=w):BoxAt b p v (w.alloc (.cells #[J U p.prio,J U p.most,J U p.wait,J U p.tasks,v] T)):=by
 subst hb;refine ⟨⟨?_,?_,?_,?_,?_,Bn⟩,fun j=>?_⟩;all_goals simp [go_sem]
theorem BoxAt.new (T:TypeId) (p:Plan) (v:Value) (w:World):BoxAt w p v (Ei T p v w):=BoxAt.new' T p v w rfl
theorem BoxAt.keep {b:Nat} {p:Plan} {v:Value} {w w':World} (h:BoxAt b p v w) (hs:w.heap.size<=w'.heap.size) (hk:∀ j,w'.cell? ⟨b,j,Ab⟩=w.cell? ⟨b,j,Ab⟩) (hf:∀ j,w'.frozen? ⟨b,j,Ab⟩=w.frozen? ⟨b,j,Ab⟩):BoxAt b p v w':=by
 obtain ⟨h0,h1,h2,h3,h4,h5⟩:=h.cells;exact ⟨⟨(hk 0).trans h0,(hk 1).trans h1,(hk 2).trans h2,(hk 3).trans h3,(hk 4).trans h4,Ai h5 hs⟩,fun j=>(hf j).trans (h.free j)⟩
theorem BoxAt.upto {B b:Nat} {p:Plan} {v:Value} {w w':World} (h:BoxAt b p v w) (hb:Below B w w') (aA:b<B):BoxAt b p v w' :=
 h.keep hb.size (fun j=>hb.cell (p:=⟨b,j,Ab⟩) aA) (fun j=>hb.frozen (p:=⟨b,j,Ab⟩) aA)
theorem BoxAt.below {b:Nat} {p:Plan} {v:Value} {w w':World} (h:BoxAt b p v w) (hb:Below w w w'):BoxAt b p v w':=h.upto hb h.lt
theorem BoxAt.far {b:Nat} {p:Plan} {v:Value} {w w':World} {row:Option Nat} (h:BoxAt b p v w) (hg:w.grownBy w' row) (aC:Ac b≠row):BoxAt b p v w' :=
 h.keep hg.size (fun j=>hg.cell_far ⟨b,j,Ab⟩ h.lt aC) (fun j=>hg.frozen_far ⟨b,j,Ab⟩ h.lt aC)
theorem Pa (w:World) (a:Addr) (u:Value):w.grownBy (w.setCell a u) (Ac a.block) :=
 ⟨rfl,rfl,rfl,by simp [World.setCell],fun k _ aC=>Below.heap_setCell w a u k (fun e=>aC (by rw [e]))⟩
theorem Ow.setOther {α:Type} {e:Enc α} {E:TypeId} {w:World} {base:Nat} {v:Value} {l:List α} (h:Ow e E w base v l) {a:Addr} (aC:v.ownBlock≠Ac a.block) (u:Value):Ow e E (w.setCell a u) base v l :=
 h.grown (Pa w a u) (.inr aC)
end Go.Proofs.YtonlnjdempbfoabGreat
