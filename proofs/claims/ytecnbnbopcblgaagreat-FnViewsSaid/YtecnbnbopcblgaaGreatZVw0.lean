/-
  Words for memory: how a list of plain data lies in a slice; a slice of the call's own; what is kept when new memory is made. Plain facts on finite graphs: the c
-/
import Derived.Test.YtecnbnbopcblgaaGreatRows
import Derived.WalkKit
import Derived.Lib.Hide
import Derived.Deep.QuietTactic
import Derived.BigQuiet
import Derived.StillTailTactics
import Derived.Deep.RegionHeld3
import Derived.Maps.AppendAt
import Derived.Deep.AppendLies
import Derived.KernelRfl
import Derived.Shelf.Small.Bits
import Derived.Shelf.Strconv.Itoa0
import Derived.Shelf.Sort.Plain
import Derived.Ground.Names2Prog
import Derived.Shelf.Slices.SearchI
import Derived.Shelf.Slices.In.SortNone
import Derived.Test.YtecnbnbopcblgaaGreatProg
import Derived.ProofKit
import Derived.Deep.Slices
namespace Go.Proofs.YtecnbnbopcblgaaGreat
open Go.RowKit
set_option maxRecDepth 100000
set_option maxHeartbeats 4000000
set_option linter.unusedVariables false
set_option linter.unusedSimpArgs false
instance : Coe World Nat := ⟨fun w => w.heap.size⟩
theorem Bq {p:Prop} (h:p):Hid p:=h
theorem Br (b:Nat) (w:World):Below b w w:=Below.refl b w
theorem Bs (n:Nat):n<=n:=Nat.le_refl n
theorem Bt {w:World} {o:Obj} : Below w.heap.size w (w.alloc o):=(Below.refl _ _).alloc (Nat.le_refl _) o
theorem Bl {p:Prop} (h:p:=by omega):p:=h
theorem Bm {p:Prop} (h:p:=by kernel_rfl):p:=h
theorem Bn {p:Prop} (h:p:=by simp):p:=h
theorem Bo {p:Prop} (h:p:=by simp<;>omega):p:=h
theorem Bp {p:Prop} (h:p:=by decide):p:=h
open Value renaming int->J,slice->Aa
open IntKind renaming i64->Ab
open Option renaming none->Ac,some->Ad
open Nat renaming zero_le->Ah,lt_of_lt_of_le->Aj
open Go.Proofs.Tryz renaming prog->An
open Char renaming ofNat->Ao
open Int renaming toNat_natCast->Ap,eq_ofNat_of_zero_le->Aq
open List renaming length_map->Au,getElem_mem->Ax,length_take->A0,length_append->Bd
open Go.Proofs.Tryz
theorem clM {p:Prop} (h:p:=by simp [intOf];omega):p:=h
theorem clR {p:Prop} (h:p:=by repeat' first | rfl | apply And.intro):p:=h
structure Enc (α:Type) where
 cells:α->List Value
 sz:Nat
 len:∀ x,(cells x).length=sz
 one:∀ x,∀ u∈cells x,u.oneCell'=true
section
variable {α:Type} {e:Enc α} {w w':World} {B B':Nat} {v:Value} {l:List α}
theorem Enc.flat_length (e:Enc α):∀ l:List α,(l.flatMap e.cells).length=l.length * e.sz
 | []=>by simp
 | x :: l=>by rw [List.flatMap_cons,Bd,e.len,Enc.flat_length e l,List.length_cons,Nat.succ_mul,Nat.add_comm]
theorem Enc.flat_get (e:Enc α) {j:Nat} (hj:j<e.sz):∀ (l:List α) (k:Nat) (h:k<l.length),(l.flatMap e.cells)[k * e.sz+j]? = (e.cells l[k])[j]?
 | [],k,h=>absurd h Bn
 | x :: l,0,_=>by
  rw [List.flatMap_cons,Nat.zero_mul,Nat.zero_add,List.getElem?_append_left (by rw [e.len];exact hj)];rfl
 | x :: l,k+1,h=>by
  rw [List.flatMap_cons,List.getElem?_append_right (by rw [e.len,Nat.succ_mul];omega),e.len,
   show (k+1) * e.sz+j - e.sz=k * e.sz+j from by rw [Nat.succ_mul];omega]
  exact Enc.flat_get e hj l k (by simpa using h)
def Sw (xs:List Value) (i:Nat):List Value->List Value
 | []=>xs
 | u :: us=>Sw (xs.set i u) (i+1) us
def Is (w:World) (g i:Nat):List Value->World
 | []=>w
 | u :: us=>Is (w.setCell ⟨g,i,Ac⟩ u) g (i+1) us
theorem Sx:∀ (us xs:List Value) (i:Nat),i+us.length<=xs.length->Sw xs i us=xs.take i ++ us ++ xs.drop (i+us.length)
 | [],xs,i,_=>by simp [Sw]
 | u :: us,xs,i,h=>by
  simp only [List.length_cons] at h;rw [Sw,Sx us _ _ (by simp;omega)];have h1:(xs.set i u).take (i+1)=xs.take i ++ [u]:=by
   rw [List.take_set,List.take_succ_eq_append_getElem Bl,List.set_append_right _ _ (by simp;omega)];simp [show i - min i xs.length=0 from by omega]
  have h2:(xs.set i u).drop (i+1+us.length)=xs.drop (i+(u :: us).length):=by
   rw [List.drop_set_of_lt Bl];congr 1;simp;omega
  rw [h1,h2];simp
theorem Enc.flat_put (e:Enc α) (x:α):∀ (l:List α) (k:Nat),k<l.length->Sw (l.flatMap e.cells) (k * e.sz) (e.cells x)=(l.set k x).flatMap e.cells:=by
 intro l k hk;rw [Sx _ _ _ (by
  rw [e.flat_length,e.len];have:(k+1) * e.sz<=l.length * e.sz:=Nat.mul_le_mul_right _ hk;rw [Nat.succ_mul] at this;exact this),e.len]
 have hl:l=l.take k ++ l[k] :: l.drop (k+1):=by
  rw [List.getElem_cons_drop hk,List.take_append_drop]
 have hs:l.set k x=l.take k ++ x :: l.drop (k+1):=by
  rw [List.set_eq_take_append_cons_drop,if_pos hk]
 rw [hs];have e1:(l.take k).flatMap e.cells=(l.flatMap e.cells).take (k * e.sz):=by
  conv=>rhs;rw [hl,List.flatMap_append]
  rw [List.take_left' (by rw [e.flat_length,A0,Nat.min_eq_left (Nat.le_of_lt hk)])]
 have e2:(l.drop (k+1)).flatMap e.cells=(l.flatMap e.cells).drop (k * e.sz+e.sz):=by
  conv=>rhs;rw [hl,List.flatMap_append,List.flatMap_cons,<-List.append_assoc]
  rw [List.drop_left' (by rw [Bd,e.flat_length,e.len,A0,Nat.min_eq_left (Nat.le_of_lt hk)])]
 rw [List.flatMap_append,List.flatMap_cons,e1,e2,List.append_assoc]
def Rd (e:Enc α) (w:World) (B:Nat) (v:Value) (l:List α):Prop :=
 ∃ A c,v = Aa A l.length c/\l.length<=c/\(0<l.length -> ∃ b o,A=Ad ⟨b,o,Ac⟩/\b<B /\
  ∀ (k:Nat) (h:k<l.length) (j:Nat) (u:Value),(e.cells l[k])[j]? = Ad u->w.cell? ⟨b,o+k * e.sz+j,Ac⟩=Ad u)
theorem Rd.keep (h:Rd e w B v l) (hk:∀ p:Addr,p.block<B->w'.cell? p=w.cell? p):Rd e w' B v l:=by
 obtain ⟨A,c,hv,cA,hA⟩:=h;refine ⟨A,c,hv,cA,fun hl=>?_⟩;obtain ⟨b,o,hb,aB,hc⟩:=hA hl;exact ⟨b,o,hb,aB,fun k bE j u hu=>(hk _ aB).trans (hc k bE j u hu)⟩
theorem Rd.more (h:Rd e w B v l) (hB:B<=B'):Rd e w B' v l:=by
 obtain ⟨A,c,hv,cA,hA⟩:=h;refine ⟨A,c,hv,cA,fun hl=>?_⟩;obtain ⟨b,o,hb,aB,hc⟩:=hA hl;exact ⟨b,o,hb,Bl,hc⟩
theorem Rd.below (h:Rd e w B v l) (hb:Below B w w'):Rd e w' B v l:=h.keep fun _ hp=>hb.cell hp
def Ow (e:Enc α) (E:TypeId) (w:World) (base:Nat) (v:Value) (l:List α):Prop:=w.ownsRow base E e.sz v l.length (l.flatMap e.cells)
theorem Ow.nil (e:Enc α) (E:TypeId) (w:World) (base:Nat):Ow e E w base (Aa Ac 0 0) []:=World.ownsRow_nil w base E e.sz
theorem Ow.form {E:TypeId} {base:Nat} (h:Ow e E w base v l):(v = Aa Ac 0 0/\l=[]) \/
  ∃ g cap,v = Aa (Ad ⟨g,0,Ac⟩) l.length cap/\base<=g/\g<w.heap.size/\l.length<=cap/\cap<=maxLen/\(∀ j,w.frozen? ⟨g,j,Ac⟩=false) /\
   ∀ (k:Nat) (h:k<l.length) (j:Nat) (u:Value),(e.cells l[k])[j]? = Ad u->w.cell? ⟨g,k * e.sz+j,Ac⟩=Ad u:=by
 have h0:=h;rcases h.2 with ⟨hv,hn⟩ | ⟨g,cap,cur,hv,hg,hh,hc,hm,_,_⟩
 ·exact .inl ⟨hv,List.eq_nil_of_length_eq_zero hn⟩
 ·subst hv;refine .inr ⟨g,cap,rfl,hg,(h.lt g rfl).2,hc,hm,fun j=>World.ownsRow.frozenAt h j,fun k hk j u hu=>?_⟩;have hj:j<e.sz:=by
   have:=(List.getElem?_eq_some_iff.1 hu).1
   rw [e.len] at this;exact this
  have aB:k * e.sz+j<l.length * e.sz:=by
   have:(k+1) * e.sz<=l.length * e.sz:=Nat.mul_le_mul_right _ hk;rw [Nat.succ_mul] at this;omega
  rw [World.ownsRow.cellAt h _ aB,e.flat_get hj l k hk];exact hu
theorem Ow.free {E:TypeId} {base g n cap:Nat} (h:Ow e E w base (Aa (Ad ⟨g,0,Ac⟩) n cap) l) (j:Nat):w.frozen? ⟨g,j,Ac⟩=false:=by
 rcases h.form with ⟨h1,_⟩ | ⟨g',cap',hv,_,_,_,_,hf,_⟩
 ·simp at h1
 ·simp only [Value.slice.injEq,Option.some.injEq,Addr.mk.injEq,and_true] at hv;obtain ⟨rfl,_,_⟩:=hv;exact hf j
theorem Ow.blk {E:TypeId} {base g n cap:Nat} (h:Ow e E w base (Aa (Ad ⟨g,0,Ac⟩) n cap) l):base<=g/\g<w:=by
 rcases h.form with ⟨h1,_⟩ | ⟨g',cap',hv,hb,hg,_⟩
 ·simp at h1
 ·simp only [Value.slice.injEq,Option.some.injEq,Addr.mk.injEq,and_true] at hv;obtain ⟨rfl,_,_⟩:=hv;exact ⟨hb,hg⟩
theorem Rd.of_own {E:TypeId} {base:Nat} (h:Ow e E w base v l):Rd e w w v l:=by
 rcases h.form with ⟨rfl,rfl⟩ | ⟨g,cap,rfl,_,aB,cA,_,_,hc⟩
 ·exact ⟨Ac,0,rfl,Bs _,fun h=>absurd h Bn⟩
 ·exact ⟨_,cap,rfl,cA,fun _=>⟨g,0,rfl,aB,fun k hk j u hu=>by rw [Nat.zero_add];exact hc k hk j u hu⟩⟩
theorem Rd.take {A:Option Addr} {n c k:Nat} (h:Rd e w B (Aa A n c) l) (hk:k<=l.length) (c':Nat) (hc':k<=c'):Rd e w B (Aa A k c') (l.take k):=by
 obtain ⟨A',c0,hv,_,hA⟩:=h;simp only [Value.slice.injEq] at hv;obtain ⟨rfl,rfl,rfl⟩:=hv;refine ⟨A,c',by rw [A0,Nat.min_eq_left hk],by rw [A0,Nat.min_eq_left hk];exact hc',fun hl=>?_⟩;rw [A0,Nat.min_eq_left hk] at hl;obtain ⟨b,o,hb,aB,hc⟩:=hA Bl;refine ⟨b,o,hb,aB,fun i hi j u hu=>?_⟩;rw [A0,Nat.min_eq_left hk] at hi;rw [List.getElem_take] at hu;exact hc i Bl j u hu
theorem Rd.cap {A:Option Addr} {n c:Nat} (h:Rd e w B (Aa A n c) l):l.length<=c:=by
 obtain ⟨A',c0,hv,hc,_⟩:=h;simp only [Value.slice.injEq] at hv;rw [hv.2.2];exact hc
theorem Rd.nil (e:Enc α) (w:World) (B c:Nat):Rd e w B (Aa Ac 0 c) []:=⟨Ac,c,rfl,Ah _,fun h=>absurd h Bn⟩
theorem Ow.snoc {E:TypeId} {base:Nat} {x:α} (h:w.ownsRow base E e.sz v (l.length+1) (l.flatMap e.cells ++ e.cells x)):Ow e E w base v (l ++ [x]):=by
 unfold Ow;rw [Bd,List.length_singleton,List.flatMap_append,List.flatMap_singleton];exact h
theorem Ow.below {E:TypeId} {base:Nat} (h:Ow e E w base v l) (hb:Below w w w'):Ow e E w' base v l:=by
 refine World.ownsRow.kept (row:=Ac) h ⟨hb.os,hb.tape,hb.output,hb.size,fun k hk _=>hb.block k hk⟩ ?_;cases hv:v.ownBlock with
 | none=>exact .inl rfl
 | some g=>exact .inr Bn
theorem Ow.more {E:TypeId} {base base':Nat} (h:Ow e E w base v l) (hb:base'<=base):Ow e E w base' v l:=by
 obtain ⟨h1,h2⟩:=h;refine ⟨h1,?_⟩;rcases h2 with h2 | ⟨g,cap,cur,hv,hg,r⟩
 ·exact .inl h2
 ·exact .inr ⟨g,cap,cur,hv,Bl,r⟩
end
theorem Vq {E:TypeId} {sz base g cap:Nat} (n:Nat):∀ (us xs:List Value) (w:World) (i:Nat),w.ownsRow base E sz (Aa (Ad ⟨g,0,Ac⟩) n cap) n xs ->
  (Is w g i us).ownsRow base E sz (Aa (Ad ⟨g,0,Ac⟩) n cap) n (Sw xs i us)/\w.grownBy (Is w g i us) (Ad g)
 | [],xs,w,i,h=>⟨h,World.grownBy.refl w _⟩
 | u :: us,xs,w,i,h=>by
  have h1:=World.ownsRow.stored h i u;have h2:=Vq n us _ _ (i+1) h1.1;exact ⟨h2.1,h1.2.trans h2.2⟩
theorem Ow.put {α:Type} {e:Enc α} {E:TypeId} {w:World} {base g cap n:Nat} {l:List α} (h:Ow e E w base (Aa (Ad ⟨g,0,Ac⟩) n cap) l) (hn:l.length=n) (k:Nat) (hk:k<n) (x:α) :
  Ow e E (Is w g (k * e.sz) (e.cells x)) base (Aa (Ad ⟨g,0,Ac⟩) n cap) (l.set k x)/\w.grownBy (Is w g (k * e.sz) (e.cells x)) (Ad g):=by
 subst hn
 have:=Vq (cap:=cap) l.length (e.cells x) _ w (k * e.sz) h
 rw [e.flat_put x l k hk] at this;unfold Ow;rw [List.length_set];exact this
theorem Vr {α:Type} (e:Enc α) (x:α) (n:Nat) (bJ:0<e.sz):(madeCells (e.cells x).toArray (n * e.sz)).toList=(List.replicate n x).flatMap e.cells:=by
 apply List.ext_getElem?;intro i;by_cases hi:i<n * e.sz
 ·have hk:i / e.sz<n:=Nat.div_lt_of_lt_mul (by rw [Nat.mul_comm];exact hi);have hj:i % e.sz<e.sz:=Nat.mod_lt _ bJ;have rK:i / e.sz * e.sz+i % e.sz=i:=by rw [Nat.mul_comm];exact Nat.div_add_mod _ _
  have h1:=e.flat_get hj (List.replicate n x) (i / e.sz) (by simpa using hk);rw [rK] at h1;rw [h1];have hl:i % e.sz<(e.cells x).length:=by rw [e.len];exact hj
  have hz:0<(e.cells x).length:=by rw [e.len];exact bJ
  simp [madeCells,hi,e.len,hj]
 ·rw [List.getElem?_eq_none (by simp [madeCells];omega),List.getElem?_eq_none (by rw [e.flat_length];simp;omega)]
theorem Ow.made {α:Type} (e:Enc α) (E:TypeId) (w:World) (x:α) (n:Nat) (bJ:0<e.sz) (hn:n<=maxLen) {z:Array Value} (hz:z=(e.cells x).toArray) {m:Nat} (hm:m=n * e.sz) :
  Ow e E (w.alloc (.cells (madeCells z m) E)) w (Aa (Ad ⟨w,0,Ac⟩) n n) (List.replicate n x):=by
 subst hz;subst hm
 have:=World.ownsRow_lit (base:=w) (e:=E) (size:=e.sz) w (madeCells (e.cells x).toArray (n * e.sz)) n (Bs _) hn (size_madeCells _ _)
 rw [Vr e x n bJ] at this;unfold Ow;rw [List.length_replicate];exact this
theorem Ow.ne_ {α β:Type} {e:Enc α} {e':Enc β} {E E':TypeId} {w:World} {base base':Nat} {v v':Value} {l:List α} {l':List β} (h:Ow e E w base v l) (h':Ow e' E' w base' v' l') (aE:E≠E') :
  v.ownBlock=Ac\/v.ownBlock≠v'.ownBlock:=by
 rcases h.2 with ⟨rfl,_⟩ | ⟨g,cap,cur,rfl,_,hh,_⟩
 ·exact .inl rfl
 ·rcases h'.2 with ⟨rfl,_⟩ | ⟨g',cap',cur',rfl,_,rN,_⟩
  ·exact .inr (by simp [Value.ownBlock])
  ·refine .inr (fun he=>?_);have:g=g':=by simpa [Value.ownBlock] using he
   subst this;rw [hh] at rN;injection rN with rN
   injection rN with _ ht
   exact aE ht
theorem Ow.grown {α:Type} {e:Enc α} {E:TypeId} {w w':World} {base:Nat} {v:Value} {l:List α} {row:Option Nat} (h:Ow e E w base v l) (hg:w.grownBy w' row) (aE:v.ownBlock=Ac\/v.ownBlock≠row):Ow e E w' base v l :=
 World.ownsRow.kept h hg aE
theorem Oq (w:World) (cs:Array Value) (T:TypeId) {g:Nat} (hg:g=w):∀ j u,cs.toList[j]? = Ad u->(w.alloc (.cells cs T)).cell? ((⟨g,0,Ac⟩:Addr).add j)=Ad u:=by
 subst hg;intro j u hu;have h:(w.alloc (.cells cs T)).cell? ⟨w,j,Ac⟩=cs[j]?:=cell_of_row _ _ j cs T (0,0) (heap_alloc_new w _);have e:((⟨w,0,Ac⟩:Addr).add j)=⟨w,j,Ac⟩:=by
  unfold Addr.add;split<;>simp_all
 rw [e,h];simpa using hu
theorem Lf {α:Type} {P:Program} {ops:Array Oper} {rest:List Oper} {o:Oper} {a:Act} {Q:Exit->Act->World->Prop} {w:World} (e:Enc α) (bJ:0<e.sz) {base:Nat} {E t:TypeId} {i:TypeInfo} {z:Value} {bytes:Nat}
  (dC:o.guard=Ac) (s x:Operand) (ho:o.op = .call { callee:=.builtin .append,args:=#[s,x],argTypes:=#[t,t] })
  (ht:P.underlying t=Ad (.slice E)) (hi:P.info? E=Ad i) (hz:i.zero=Ad z) (cF:i.size=e.sz) (dG:i.bytes=bytes) (hzs:z.cells.size=e.sz)
  {v:Value} {l:List α} (y:α) (hs:a.eval s=v) (hown:Ow e E w base v l) (ad:Addr) (c:Nat) (hx:a.eval x = .slice (Ad ad) 1 c) (hnews:∀ j u,(e.cells y)[j]? = Ad u->w.cell? (ad.add j)=Ad u)
  (aK:l.length<=3000000) (hbytes:bytes<=10000) (aS:base<=w.heap.size)
  (h:∀ v' w',Ow e E w' base v' (l ++ [y])->w.grownBy w' v.ownBlock->wpList P ops Q rest (a.put o.dst v') w'):wpList P ops Q (o :: rest) a w:=by
 refine wpList_append_own w dC s x t ho base E i z e.sz bytes ht hi hz cF dG hzs bJ v l.length (l.flatMap e.cells) hs hown ad 1 c (e.cells y) hx (by rw [e.len,Nat.one_mul]) hnews (e.one y) (by simp [maxLen];omega) ?_ aS ?_
 ·have h1:(l.length+1) * bytes<=3000001 * 10000:=Nat.mul_le_mul Bl hbytes;omega
 ·intro v' w' h1 h2 _;exact h v' w' (Ow.snoc h1) h2
def Ii:Enc Int:={ cells:=fun x=>[J Ab x],sz:=1,len:=fun _=>rfl,one:=fun _ u hu=>by simp at hu;subst hu;rfl }
theorem Zc {W w1:World} (hb:Below W W w1):(∀ b o,b<W.heap.size->w1.cell? ⟨b,o,Ac⟩=W.cell? ⟨b,o,Ac⟩)/\(∀ b o,b<W.heap.size->w1.frozen? ⟨b,o,Ac⟩=W.frozen? ⟨b,o,Ac⟩) :=
 ⟨fun b o h=>hb.cell (p:=⟨b,o,Ac⟩) h,fun b o h=>hb.frozen (p:=⟨b,o,Ac⟩) h⟩
theorem Bv {w w1 w2:World} (h:Below w w w1) (k:Below w1 w1 w2):Below w w w2:=h.trans (k.mono h.size)
theorem Du {B:Nat} {a w:World} (h:Below B a w) (n:Nat):Below B a (w.drewN n):=⟨h.os,h.tape,h.output,h.size,h.block⟩
theorem D6 {k:IntKind} {a b:Int} (h:a=b):Ending.returned (.int k a) = .returned (.int k b):=by rw [h]
theorem Bx {a b:Bool} (h:a=b):Ending.returned (.bool a) = .returned (.bool b):=by rw [h]
theorem Cy {α:Type} (l:List α) (k:Nat) (h:k<l.length):l.take (k+1)=l.take k ++ [l[k]]:=by
 rw [List.take_succ_eq_append_getElem h]
/-! A region that draws its order,whose operations only read old memory and whose callees only make new memory and hand back values that do not depend on it: one walk serves. -/
def J7 (w:World):Type:={ u:World // Below w w u }
instance (w:World):Nonempty (J7 w):=⟨⟨w,Br _ _⟩⟩
theorem Bz {P:Program} {id:Nat} {Q:Exit->Act->World->Prop} {a:Act} {w:World} {l:List Oper} (hm:P.follows .mixedOrders=true) (hB:Region.lexB .any l.toArray=true)
  (h:wpQuiet P l.toArray (fun w'=>∃ u:J7 w,w'=u.1) (fun a'=>∀ w',(∃ u:J7 w,w'=u.1)->Q .normal a' w') l a):(Code.region id l.toArray true).wp P Q a w :=
 wp_region_quiet (C:=fun w'=>∃ u:J7 w,w'=u.1) hm hB ⟨⟨w.drew,(Br _ _).drew⟩,rfl⟩ (by simpa using h)
theorem Df (w:World):∀ (u:J7 w) (b o:Nat),b<w->(u.1).cell? ⟨b,o,Ac⟩=w.cell? ⟨b,o,Ac⟩:=fun u b o h=>u.2.cell (p:=⟨b,o,Ac⟩) h
theorem Fk {P:Program} {f:FuncId} {args:Array Value} {w:World} {u:J7 w} {v:Value}
  (h:Calls P f args u.1 fun e w'=>e = .returned v/\Below u.1 u.1 w'):Calls P f args u.1 fun e w''=>e = .returned v /\ ∃ u':J7 w,w''=u'.1 :=
 h.mono fun _ _ ⟨he,hb⟩=>⟨he,⟨_,Bv u.2 hb⟩,rfl⟩
theorem Jp {P:Program} {f:FuncId} {args:Array Value} {w:World} {u:J7 w} {v:Value}
  (h:∀ u:J7 w,Calls P f args u.1 fun e w'=>e = .returned v/\Below u.1 u.1 w'):Calls P f args u.1 fun e w''=>e = .returned v /\ ∃ u':J7 w,w''=u'.1 :=
 (h u).mono fun _ _ ⟨he,hb⟩=>⟨he,⟨_,Bv u.2 hb⟩,rfl⟩
theorem Dy {P:Program} {f:FuncId} {args:Array Value} {w:World} {u:J7 w} {v:Value}
  (h:∀ u:J7 w,Calls P f args u.1 fun e w'=>e = .returned v/\u.1=w'):Calls P f args u.1 fun e w''=>e = .returned v /\ ∃ u':J7 w,w''=u'.1 :=
 (h u).mono fun _ _ ⟨he,hb⟩=>⟨he,u,hb.symm⟩
end Go.Proofs.YtecnbnbopcblgaaGreat
namespace Go.Proofs.YtecnbnbopcblgaaGreat.Pg
inductive Way (es:List (Nat×Nat)):Nat->List Nat->Nat->Prop
 | nil (a:Nat):Way es a [] a
 | cons {a c b:Nat} {l:List Nat} : (a,c)∈es->Way es c l b->Way es a (c :: l) b
def Reach (es:List (Nat×Nat)) (a b:Nat):Prop:=∃ l,l≠[]/\Way es a l b
theorem Way.split {es:List (Nat×Nat)} {x b:Nat} {l2:List Nat} : ∀ {a:Nat} (l1:List Nat),Way es a (l1 ++ x :: l2) b->Way es x l2 b
 | _,[],h=>by cases h with | cons _ h=>exact h
 | _,_ :: l1,h=>by cases h with | cons _ h=>exact Way.split l1 h
theorem Way.snoc {es:List (Nat×Nat)} {b c:Nat} : ∀ {a:Nat} {l:List Nat},Way es a l b->(b,c)∈es->Way es a (l ++ [c]) c
 | _,_,.nil _,he=>.cons he (.nil _)
 | _,_,.cons h1 h2,he=>.cons h1 (h2.snoc he)
theorem Way.simple {es:List (Nat×Nat)} {b:Nat} : ∀ (l:List Nat) {a c:Nat},Way es a (c :: l) b -> ∃ l',Way es a (c :: l') b/\(c :: l').Nodup
 | [],_,_,h=>⟨[],h,by simp⟩
 | d :: l,a,c,h=>by
  cases h with
  | cons h1 h2 =>
   obtain ⟨l',hw,hn⟩:=Way.simple l h2;by_cases hc:c∈d :: l'
   ·obtain ⟨l1,l2,he⟩:=List.append_of_mem hc;rw [he] at hw hn;refine ⟨l2,.cons h1 (hw.split l1),?_⟩;exact (List.nodup_append.1 hn).2.1
   ·exact ⟨d :: l',.cons h1 hw,List.nodup_cons.2 ⟨hc,hn⟩⟩
theorem Vs:∀ (T:Nat) (l:List Nat),l.Nodup->(∀ x∈l,x<T)->l.length<=T
 | 0,l,_,h=>by
  cases l with
  | nil=>simp
  | cons a l=>exact absurd (h a (by simp)) (by omega)
 | T+1,l,hn,h=>by
  have h1:=Vs T (l.erase T) (hn.erase T) (fun x hx=>by
   have eE:=(hn.mem_erase_iff).1 hx
   have:=h x eE.2
   have:=eE.1
   omega)
  have h2:l.length<=(l.erase T).length+1:=by
   rw [List.length_erase];split<;>omega
  omega
theorem Way.mem {es:List (Nat×Nat)} {b:Nat} {T:Nat} (mG:∀ e∈es,e.2<T):∀ {a:Nat} {l:List Nat},Way es a l b -> ∀ x∈l,x<T
 | _,_,.nil _=>by simp
 | _,_,.cons h1 h2=>by
  intro x hx;rcases List.mem_cons.1 hx with rfl | hx
  ·exact mG _ h1
  ·exact h2.mem mG x hx
theorem Reach.short {es:List (Nat×Nat)} {a b T:Nat} (mG:∀ e∈es,e.2<T) (h:Reach es a b):∃ l,l≠[]/\l.length<=T/\Way es a l b:=by
 obtain ⟨l,hl,hw⟩:=h;match l,hl,hw with
 | c :: l,_,hw =>
  obtain ⟨l',kV,hn⟩:=hw.simple l;exact ⟨c :: l',by simp,Vs T _ hn (kV.mem mG),kV⟩
theorem Reach.one {es:List (Nat×Nat)} {a b:Nat} (h:(a,b)∈es):Reach es a b:=⟨[b],by simp,.cons h (.nil _)⟩
theorem Reach.cons {es:List (Nat×Nat)} {a c b:Nat} (h:(a,c)∈es) (h':Reach es c b):Reach es a b:=by
 obtain ⟨l,_,hw⟩:=h';exact ⟨c :: l,by simp,.cons h hw⟩
theorem Reach.snoc {es:List (Nat×Nat)} {a c b:Nat} (h':Reach es a c) (h:(c,b)∈es):Reach es a b:=by
 obtain ⟨l,_,hw⟩:=h';exact ⟨l ++ [b],by simp,hw.snoc h⟩
/-! The closure by rounds: o a is a set of nodes,as a number. -/
def Qh (o:List Nat) (e:Nat×Nat):List Nat:=o.set e.1 (o.getD e.1 0 ||| (1 <<< e.2 ||| o.getD e.2 0))
def Mf (es:List (Nat×Nat)) (o:List Nat):List Nat:=es.foldl Qh o
def Lt (es:List (Nat×Nat)):Nat->List Nat->List Nat
 | 0,o=>o
 | k+1,o=>Mf es (Lt es k o)
theorem Lu (o:List Nat) (e:Nat×Nat):(Qh o e).length=o.length:=by simp [Qh]
theorem Yj (es:List (Nat×Nat)):∀ o:List Nat,(Mf es o).length=o.length:=by
 unfold Mf;induction es with
 | nil=>intro o;rfl
 | cons e es ih=>intro o;rw [List.foldl_cons,ih,Lu]
theorem Mg (es:List (Nat×Nat)) (o:List Nat):∀ k,(Lt es k o).length=o.length
 | 0=>rfl
 | k+1=>by rw [Lt,Yj,Mg es o k]
theorem Ae8 (i b:Nat):(1 <<< i).testBit b=decide (i=b):=by
 rw [Nat.shiftLeft_eq,Nat.one_mul,Nat.testBit_two_pow]
theorem Sy (o:List Nat) (e:Nat×Nat) (a:Nat) (h:e.1<o.length) :
  (Qh o e).getD a 0=if a=e.1 then o.getD e.1 0 ||| (1 <<< e.2 ||| o.getD e.2 0) else o.getD a 0:=by
 unfold Qh;simp only [List.getD_eq_getElem?_getD,List.getElem?_set];by_cases ha:a=e.1
 ·subst ha;simp [h]
 ·rw [if_neg (fun h=>ha h.symm),if_neg ha]
theorem Vt (o:List Nat) (e:Nat×Nat) (a b:Nat) (h:e.1<o.length) (hb:(o.getD a 0).testBit b=true):((Qh o e).getD a 0).testBit b=true:=by
 rw [Sy o e a h];split
 ·rename_i ha;subst ha;rw [Nat.testBit_or,hb];rfl
 ·exact hb
theorem Abu (es:List (Nat×Nat)):∀ (o:List Nat) (a b:Nat),(∀ e∈es,e.1<o.length)->(o.getD a 0).testBit b=true->((Mf es o).getD a 0).testBit b=true:=by
 unfold Mf;induction es with
 | nil=>intro o a b _ h;exact h
 | cons e es ih =>
  intro o a b h hb;rw [List.foldl_cons];exact ih _ a b (fun e' he'=>by rw [Lu];exact h e' (by simp [he'])) (Vt o e a b (h e (by simp)) hb)
theorem Abv (es:List (Nat×Nat)):∀ (o:List Nat) (a c b:Nat),(∀ e∈es,e.1<o.length)->(a,c)∈es->(c=b\/(o.getD c 0).testBit b=true) ->
  ((Mf es o).getD a 0).testBit b=true:=by
 unfold Mf;induction es with
 | nil=>intro o a c b _ h;simp at h
 | cons e es ih =>
  intro o a c b h hm hb;rw [List.foldl_cons];have hl:∀ e'∈es,e'.1<(Qh o e).length:=fun e' he'=>by rw [Lu];exact h e' (by simp [he'])
  rcases List.mem_cons.1 hm with he | hm
  ·have h0:((Qh o e).getD a 0).testBit b=true:=by
    rw [Sy o e a (h e (by simp)),if_pos (by rw [<-he])];rw [Nat.testBit_or,Nat.testBit_or,Ae8];rcases hb with hb | hb
    ·have:e.2=b:=by rw [<-he];exact hb
     simp [this]
    ·have:e.2=c:=by rw [<-he]
     rw [this,hb];simp
   exact Abu es _ a b hl h0
  ·refine ih _ a c b hl hm ?_;rcases hb with hb | hb
   ·exact .inl hb
   ·exact .inr (Vt o e c b (h e (by simp)) hb)
theorem Ts (es:List (Nat×Nat)) (o:List Nat) (h:∀ e∈es,e.1<o.length):∀ (k:Nat) (a b:Nat) (l:List Nat),l≠[]->l.length<=k->Way es a l b->((Lt es k o).getD a 0).testBit b=true
 | 0,_,_,l,hl,hk,_=>by
  cases l with
  | nil=>exact absurd rfl hl
  | cons x l=>simp at hk
 | k+1,a,b,l,hl,hk,hw=>by
  cases hw with
  | nil=>exact absurd rfl hl
  | cons h1 h2 =>
   rename_i c l;rw [Lt];refine Abv es _ a c b (by rw [Mg];exact h) h1 ?_;cases l with
   | nil=>cases h2;exact .inl rfl
   | cons d l=>exact .inr (Ts es o h k c b (d :: l) (by simp) (by simp at hk ⊢;omega) h2)
theorem Aad (es0 es:List (Nat×Nat)) (cV:∀ e∈es,e∈es0):∀ (o:List Nat),(∀ e∈es,e.1<o.length)->(∀ a b,(o.getD a 0).testBit b=true->Reach es0 a b) ->
  ∀ a b,((Mf es o).getD a 0).testBit b=true->Reach es0 a b:=by
 unfold Mf;induction es with
 | nil=>intro o _ h;exact h
 | cons e es ih =>
  intro o hl h;rw [List.foldl_cons];refine ih (fun e' he'=>cV e' (by simp [he'])) _ (fun e' he'=>by rw [Lu];exact hl e' (by simp [he'])) ?_;intro a b hb;rw [Sy o e a (hl e (by simp))] at hb;split at hb
  ·rename_i ha;subst ha;rw [Nat.testBit_or,Nat.testBit_or,Ae8] at hb;simp only [Bool.or_eq_true,decide_eq_true_eq] at hb;rcases hb with hb | hb | hb
   ·exact h _ _ hb
   ·subst hb;exact .one (cV e (by simp))
   ·exact .cons (cV e (by simp)) (h _ _ hb)
  ·exact h _ _ hb
theorem Qi (es:List (Nat×Nat)) (T:Nat) (hl:∀ e∈es,e.1<T):∀ k a b,((Lt es k (List.replicate T 0)).getD a 0).testBit b=true->Reach es a b
 | 0,a,b,h=>by
  simp [Lt,List.getD_eq_getElem?_getD,List.getElem?_replicate] at h;split at h<;>simp at h
 | k+1,a,b,h=>Aad es es (fun _ h=>h) _ (by rw [Mg];simpa using hl) (Qi es T hl k) a b h
theorem Aiz (es:List (Nat×Nat)) (T:Nat) (h1:∀ e∈es,e.1<T) (h2:∀ e∈es,e.2<T) (a b:Nat) :
  ((Lt es T (List.replicate T 0)).getD a 0).testBit b=true ↔ Reach es a b:=by
 refine ⟨Qi es T h1 T a b,fun h=>?_⟩;obtain ⟨l,hl,hT,hw⟩:=h.short h2;exact Ts es _ (by simpa using h1) T a b l hl hT hw
theorem Ahb (T:Nat) (o:List Nat) (e:Nat×Nat) (h2:e.2<T) (ho:∀ x∈o,x<2 ^ T):∀ x∈Qh o e,x<2 ^ T:=by
 have hg:∀ a,o.getD a 0<2 ^ T:=fun a=>by
  rw [List.getD_eq_getElem?_getD];cases h:o[a]? with
  | none=>exact Nat.two_pow_pos T
  | some y=>exact ho y (List.mem_of_getElem? h)
 intro x hx;unfold Qh at hx;rcases List.mem_or_eq_of_mem_set hx with hx | hx
 ·exact ho x hx
 ·subst hx;refine Nat.or_lt_two_pow (hg _) (Nat.or_lt_two_pow ?_ (hg _));rw [Nat.shiftLeft_eq,Nat.one_mul];exact Nat.pow_lt_pow_of_lt (by omega) h2
theorem Aft (T:Nat) (es:List (Nat×Nat)):∀ (o:List Nat),(∀ e∈es,e.2<T)->(∀ x∈o,x<2 ^ T) -> ∀ x∈Mf es o,x<2 ^ T:=by
 unfold Mf;induction es with
 | nil=>intro o _ h;exact h
 | cons e es ih =>
  intro o h2 ho;rw [List.foldl_cons];exact ih _ (fun e' he'=>h2 e' (by simp [he'])) (Ahb T o e (h2 e (by simp)) ho)
theorem Ad4 (T:Nat) (es:List (Nat×Nat)) (o:List Nat) (h2:∀ e∈es,e.2<T) (ho:∀ x∈o,x<2 ^ T):∀ k,∀ x∈Lt es k o,x<2 ^ T
 | 0=>ho
 | k+1=>Aft T es _ h2 (Ad4 T es o h2 ho k)
/-! The search by a list. -/
def Nc (x:Nat) (s:List Bool×List Nat) (e:Nat×Nat):List Bool×List Nat :=
 if e.1=x/\s.1.getD e.2 true=false then (s.1.set e.2 true,s.2 ++ [e.2]) else s
def Ot (es:List (Nat×Nat)) (x:Nat) (s:List Bool×List Nat):List Bool×List Nat:=es.foldl (Nc x) s
structure Binv (es:List (Nat×Nat)) (T t:Nat) (s:List Bool×List Nat):Prop where
 size:s.1.length=T
 head:∃ l,s.2=t :: l/\l.Nodup/\(∀ y,y∈l ↔ s.1.getD y false=true)
 reach:∀ y,s.1.getD y false=true->Reach es t y
theorem Binv.lt {es:List (Nat×Nat)} {T t:Nat} {s:List Bool×List Nat} (h:Binv es T t s):s.2.length<=T+1:=by
 obtain ⟨l,hl,hn,hm⟩:=h.head;rw [hl,List.length_cons]
 have:=Vs T l hn (fun x hx=>by
  have:=(hm x).1 hx
  rw [List.getD_eq_getElem?_getD] at this;by_cases eE:x<s.1.length
  ·rw [h.size] at eE;exact eE
  ·rw [List.getElem?_eq_none (by omega)] at this;simp at this)
 omega
theorem Binv.start (es:List (Nat×Nat)) (T t:Nat):Binv es T t (List.replicate T false,[t]):=by
 refine ⟨by simp,⟨[],rfl,by simp,fun y=>?_⟩,fun y=>?_⟩
 ·simp [List.getD_eq_getElem?_getD,List.getElem?_replicate];split<;>simp
 ·simp [List.getD_eq_getElem?_getD,List.getElem?_replicate];split<;>simp
theorem Binv.step {es:List (Nat×Nat)} {T t x:Nat} {s:List Bool×List Nat} (h:Binv es T t s) (hx:x∈s.2) (e:Nat×Nat) (he:e∈es) (h2:e.2<T):Binv es T t (Nc x s e):=by
 unfold Nc;split
 ·rename_i hc;obtain ⟨h1,hf⟩:=hc;obtain ⟨l,hl,hn,hm⟩:=h.head;have aB:e.2<s.1.length:=by rw [h.size];exact h2
  have hf':s.1.getD e.2 false=false:=by
   rw [List.getD_eq_getElem?_getD,List.getElem?_eq_getElem aB] at hf ⊢;simpa using hf
  have hg:∀ y,(s.1.set e.2 true).getD y false=true ↔ y=e.2\/s.1.getD y false=true:=by
   intro y;simp only [List.getD_eq_getElem?_getD,List.getElem?_set];by_cases hy:e.2=y
   ·subst hy;simp [aB]
   ·rw [if_neg hy];exact ⟨fun h=>.inr h,fun h=>h.resolve_left (fun h=>hy h.symm)⟩
  have hr:Reach es t e.2:=by
   rw [hl] at hx;rcases List.mem_cons.1 hx with rfl | hx
   ·exact .one (by rw [<-h1];exact he)
   ·exact (h.reach x ((hm x).1 hx)).snoc (by rw [<-h1];exact he)
  refine ⟨by simpa using h.size,⟨l ++ [e.2],by simp [hl],?_,fun y=>?_⟩,fun y hy=>?_⟩
  ·rw [List.nodup_append];refine ⟨hn,by simp,?_⟩;intro a ha b hb jU;simp only [List.mem_singleton] at hb;rw [jU,hb] at ha;rw [(hm _).1 ha] at hf';cases hf'
  ·rw [hg];simp only [List.mem_append,List.mem_singleton,hm];exact Or.comm
  ·rcases (hg y).1 hy with rfl | hy
   ·exact hr
   ·exact h.reach y hy
 ·exact h
theorem Afu {x y:Nat} {s:List Bool×List Nat} {e:Nat×Nat} (h:y∈s.2):y∈(Nc x s e).2:=by
 unfold Nc;split
 ·simp [h]
 ·exact h
theorem Afv {x:Nat} {s:List Bool×List Nat} {e:Nat×Nat} : ∃ r,(Nc x s e).2=s.2 ++ r:=by
 unfold Nc;split
 ·exact ⟨[e.2],rfl⟩
 ·exact ⟨[],by simp⟩
theorem Afw (es:List (Nat×Nat)) (x:Nat):∀ s:List Bool×List Nat,∃ r,(Ot es x s).2=s.2 ++ r:=by
 unfold Ot;induction es with
 | nil=>intro s;exact ⟨[],by simp⟩
 | cons e es ih =>
  intro s;rw [List.foldl_cons];obtain ⟨r,hr⟩:=ih (Nc x s e);obtain ⟨r',kC⟩:=Afv (x:=x) (s:=s) (e:=e);exact ⟨r' ++ r,by rw [hr,kC,List.append_assoc]⟩
theorem Afx {es0:List (Nat×Nat)} {T t x:Nat} (es:List (Nat×Nat)):∀ {s:List Bool×List Nat},Binv es0 T t s->x∈s.2->(∀ e∈es,e∈es0)->(∀ e∈es,e.2<T)->Binv es0 T t (Ot es x s):=by
 unfold Ot;induction es with
 | nil=>intro s h _ _ _;exact h
 | cons e es ih =>
  intro s h hx hs h2;rw [List.foldl_cons];exact ih (h.step hx e (hs e (by simp)) (h2 e (by simp))) (Afu hx) (fun e' he'=>hs e' (by simp [he'])) (fun e' he'=>h2 e' (by simp [he']))
theorem Ad5 {x y:Nat} {s:List Bool×List Nat} {e:Nat×Nat} (h:s.1.getD y false=true):(Nc x s e).1.getD y false=true:=by
 unfold Nc;split
 ·simp only [List.getD_eq_getElem?_getD,List.getElem?_set] at h ⊢;by_cases hy:e.2=y
  ·subst hy;by_cases hl:e.2<s.1.length
   ·simp [hl]
   ·rw [List.getElem?_eq_none (by omega)] at h;simp at h
  ·rw [if_neg hy];exact h
 ·exact h
theorem Vu (es:List (Nat×Nat)) (x y:Nat):∀ s:List Bool×List Nat,s.1.getD y false=true->(Ot es x s).1.getD y false=true:=by
 unfold Ot;induction es with
 | nil=>intro s h;exact h
 | cons e es ih=>intro s h;rw [List.foldl_cons];exact ih _ (Ad5 h)
theorem Ro (x:Nat) (s:List Bool×List Nat) (e:Nat×Nat):(Nc x s e).1.length=s.1.length:=by
 unfold Nc;split<;>simp
theorem Aif (es:List (Nat×Nat)) (x:Nat):∀ s:List Bool×List Nat,(Ot es x s).1.length=s.1.length:=by
 unfold Ot;induction es with
 | nil=>intro s;rfl
 | cons e es ih=>intro s;rw [List.foldl_cons,ih,Ro]
theorem Ad6 (es:List (Nat×Nat)) (x y:Nat):∀ s:List Bool×List Nat,(∀ e∈es,e.2<s.1.length)->(x,y)∈es->(Ot es x s).1.getD y false=true:=by
 unfold Ot;induction es with
 | nil=>intro s _ h;simp at h
 | cons e es ih =>
  intro s hl hm;rw [List.foldl_cons];rcases List.mem_cons.1 hm with he | hm
  ·refine Vu es x y _ ?_;have aB:=hl e (by simp);have h1:e.1=x:=by rw [<-he]
   have h2:e.2=y:=by rw [<-he]
   unfold Nc;split
   ·rw [h2] at aB ⊢;simp [List.getD_eq_getElem?_getD,aB]
   ·rename_i hc;rw [h2] at hc aB;simp only [h1,true_and] at hc;rw [List.getD_eq_getElem?_getD,List.getElem?_eq_getElem aB] at hc ⊢;simpa using hc
  ·exact ih _ (fun e' he'=>by rw [Ro];exact hl e' (by simp [he'])) hm
structure Bat (es:List (Nat×Nat)) (T t h:Nat) (s:List Bool×List Nat):Prop where
 inv:Binv es T t s
 le:h<=s.2.length
 done:∀ i x,i<h->s.2[i]? = some x -> ∀ y,(x,y)∈es->s.1.getD y false=true
theorem Bat.start (es:List (Nat×Nat)) (T t:Nat):Bat es T t 0 (List.replicate T false,[t]) :=
 ⟨.start es T t,Nat.zero_le _,fun i _ hi=>absurd hi (by omega)⟩
theorem Bat.next {es:List (Nat×Nat)} {T t h:Nat} {s:List Bool×List Nat} (hb:Bat es T t h s) (h2:∀ e∈es,e.2<T) {x:Nat} (hx:s.2[h]? = some x):Bat es T t (h+1) (Ot es x s):=by
 obtain ⟨r,hr⟩:=Afw es x s;have aB:h<s.2.length:=by
  rcases Nat.lt_or_ge h s.2.length with h' | h'
  ·exact h'
  ·rw [List.getElem?_eq_none h'] at hx;cases hx
 refine ⟨Afx es hb.inv (List.mem_of_getElem? hx) (fun _ h=>h) h2,by rw [hr];simp;omega,fun i z sS hiz y hy=>?_⟩;rw [hr,List.getElem?_append_left (by omega)] at hiz;rcases Nat.lt_or_eq_of_le (Nat.le_of_lt_succ sS) with hl | rfl
 ·exact Vu es _ y _ (hb.done i z hl hiz y hy)
 ·have:x=z:=Option.some.inj (hx.symm.trans hiz);subst this;exact Ad6 es x y _ (by rw [hb.inv.size];exact h2) hy
theorem Bat.iff {es:List (Nat×Nat)} {T t:Nat} {s:List Bool×List Nat} (hb:Bat es T t s.2.length s) (y:Nat):s.1.getD y false=true ↔ Reach es t y:=by
 refine ⟨hb.inv.reach y,fun hr=>?_⟩;obtain ⟨l,hl,hn,hm⟩:=hb.inv.head;have hclosed:∀ x,x∈s.2 -> ∀ y,(x,y)∈es->s.1.getD y false=true:=by
  intro x hx y hy;obtain ⟨i,hi⟩:=List.getElem?_of_mem hx;exact hb.done i x (by
   rcases Nat.lt_or_ge i s.2.length with h' | h'
   ·exact h'
   ·rw [List.getElem?_eq_none h'] at hi;cases hi) hi y hy
 have key:∀ (w:List Nat) (a:Nat),a∈s.2->w≠[]->Way es a w y->s.1.getD y false=true:=by
  intro w;induction w with
  | nil=>intro a _ h;exact absurd rfl h
  | cons c w ih =>
   intro a ha _ hw;cases hw with
   | cons h1 h2 =>
    have hc:=hclosed a ha c h1;cases w with
    | nil=>cases h2;exact hc
    | cons d w=>exact ih c (by rw [hl];exact List.mem_cons_of_mem _ ((hm c).2 hc)) (by simp) h2
 obtain ⟨w,hw,hway⟩:=hr;exact key w t (by rw [hl];simp) hw hway
end Go.Proofs.YtecnbnbopcblgaaGreat.Pg
namespace Go.Proofs.YtecnbnbopcblgaaGreat
open Go.RowKit
set_option maxRecDepth 100000
set_option maxHeartbeats 4000000
set_option linter.unusedVariables false
set_option linter.unusedSimpArgs false
open Value renaming int->J,slice->Aa
open IntKind renaming i64->Ab
open Option renaming none->Ac,some->Ad
open Nat renaming zero_le->Ah,lt_of_lt_of_le->Aj
open Go.Proofs.Tryz renaming prog->An
open Char renaming ofNat->Ao
open Int renaming toNat_natCast->Ap,eq_ofNat_of_zero_le->Aq
open List renaming length_map->Au,getElem_mem->Ax,length_take->A0,length_append->Bd
open Go.Proofs.Tryz
end Go.Proofs.YtecnbnbopcblgaaGreat
namespace Go.Proofs
open Go.Shelf
def Tryz.lays189_ren:Go.Shelf.Ren:=⟨fun | 189=>302 | 125=>311 | 257=>310 | 128=>323 | 129=>324 | 294=>314 | 295=>315 | 296=>316 | 297=>317 | 298=>318 | 299=>319 | 216=>320 | 300=>321 | 301=>322 | 328=>326 | 329=>327 | 330=>328 | 331=>329 | 332=>330 | 215=>331 | 343=>333 | n=>n,fun | 28=>26 | 3=>3 | 46=>176 | 0=>0 | 51=>319 | 53=>321 | 4=>4 | 183=>312 | 182=>311 | 131=>55 | 5=>5 | 9=>9 | 218=>322 | 222=>326 | 228=>329 | 229=>330 | n=>n,fun | n=>n⟩
theorem Tryz.lays189:Go.Proofs.Lays.n189 Tryz.prog Tryz.lays189_ren:={
 mixed:=by kernel_rfl
 f125:=Tryz.func311.trans (congrArg some (by kernel_rfl))
 f128:=Tryz.func323.trans (congrArg some (by kernel_rfl))
 f129:=Tryz.func324.trans (congrArg some (by kernel_rfl))
 f189:=Tryz.func302.trans (congrArg some (by kernel_rfl))
 f215:=Tryz.func331.trans (congrArg some (by kernel_rfl))
 f216:=Tryz.func320.trans (congrArg some (by kernel_rfl))
 f257:=Tryz.func310.trans (congrArg some (by kernel_rfl))
 f294:=Tryz.func314.trans (congrArg some (by kernel_rfl))
 f295:=Tryz.func315.trans (congrArg some (by kernel_rfl))
 f296:=Tryz.func316.trans (congrArg some (by kernel_rfl))
 f297:=Tryz.func317.trans (congrArg some (by kernel_rfl))
 f298:=Tryz.func318.trans (congrArg some (by kernel_rfl))
 f299:=Tryz.func319.trans (congrArg some (by kernel_rfl))
 f300:=Tryz.func321.trans (congrArg some (by kernel_rfl))
 f301:=Tryz.func322.trans (congrArg some (by kernel_rfl))
 f328:=Tryz.func326.trans (congrArg some (by kernel_rfl))
 f329:=Tryz.func327.trans (congrArg some (by kernel_rfl))
 f330:=Tryz.func328.trans (congrArg some (by kernel_rfl))
 f331:=Tryz.func329.trans (congrArg some (by kernel_rfl))
 f332:=Tryz.func330.trans (congrArg some (by kernel_rfl))
 f343:=Tryz.func333.trans (congrArg some (by kernel_rfl))
 t0:=Tryz.underlying0
 a0:=Tryz.isAgg0
 z0:=Tryz.sizeOf0
 v0:=Tryz.zeroValue0
 t3:=Tryz.underlying3
 a3:=Tryz.isAgg3
 z3:=Tryz.sizeOf3
 v3:=Tryz.zeroValue3
 t4:=Tryz.underlying4
 a4:=Tryz.isAgg4
 z4:=Tryz.sizeOf4
 v4:=Tryz.zeroValue4
 t5:=Tryz.underlying5
 a5:=Tryz.isAgg5
 z5:=Tryz.sizeOf5
 v5:=Tryz.zeroValue5
 t9:=Tryz.underlying9
 a9:=Tryz.isAgg9
 z9:=Tryz.sizeOf9
 v9:=Tryz.zeroValue9
 t28:=Tryz.underlying26
 a28:=Tryz.isAgg26
 z28:=Tryz.sizeOf26
 v28:=Tryz.zeroValue26
 t46:=Tryz.underlying176
 a46:=Tryz.isAgg176
 z46:=Tryz.sizeOf176
 v46:=Tryz.zeroValue176
 t51:=Tryz.underlying319
 a51:=Tryz.isAgg319
 z51:=Tryz.sizeOf319
 v51:=Tryz.zeroValue319
 t53:=Tryz.underlying321
 a53:=Tryz.isAgg321
 z53:=Tryz.sizeOf321
 v53:=Tryz.zeroValue321
 t131:=Tryz.underlying55
 a131:=Tryz.isAgg55
 z131:=Tryz.sizeOf55
 v131:=Tryz.zeroValue55
 t182:=Tryz.underlying311
 a182:=Tryz.isAgg311
 z182:=Tryz.sizeOf311
 v182:=Tryz.zeroValue311
 t183:=Tryz.underlying312
 a183:=Tryz.isAgg312
 z183:=Tryz.sizeOf312
 v183:=Tryz.zeroValue312
 t218:=Tryz.underlying322
 a218:=Tryz.isAgg322
 z218:=Tryz.sizeOf322
 v218:=Tryz.zeroValue322
 t222:=Tryz.underlying326
 a222:=Tryz.isAgg326
 z222:=Tryz.sizeOf326
 v222:=Tryz.zeroValue326
 t228:=Tryz.underlying329
 a228:=Tryz.isAgg329
 z228:=Tryz.sizeOf329
 v228:=Tryz.zeroValue329
 t229:=Tryz.underlying330
 a229:=Tryz.isAgg330
 z229:=Tryz.sizeOf330
 v229:=Tryz.zeroValue330 }
open Go.Sort Go.RowKit in
theorem Tryz.slices_Sort_int (blk off cap:Nat) (zs:List Int) (w:World) (hH:Holds (Value.int .i64) w blk off zs.toArray) (hblk:blk<w) (bJ:zs.length<4611686018427387904) :
  Calls Tryz.prog 302 #[.slice (some ⟨blk,off,none⟩) zs.length cap] w fun e w' =>
   e = .returned (.tuple #[]) /\ ∃ n os,w'=grow (putRow (Value.int .i64) (Sort.ahead w n) blk off (zs.mergeSort fun x y=>decide (x<=y)).toArray) os:=Any.slices_Sort_int Tryz.lays189 blk off cap zs w hH hblk bJ
open Go.RowKit Go.Sort in
theorem Tryz.slices_Sort_int_none (p:Option Addr) (cap:Nat) (w:World) :
  Calls Tryz.prog 302 #[.slice p 0 cap] w fun e w'=>e = .returned (.tuple #[])/\w'=w:=Any.slices_Sort_int_none Tryz.lays189 p cap w
end Go.Proofs
namespace Go.Proofs.YtecnbnbopcblgaaGreat
open Go.RowKit
set_option maxRecDepth 100000
set_option maxHeartbeats 4000000
set_option linter.unusedVariables false
set_option linter.unusedSimpArgs false
open Value renaming int->J,slice->Aa
open IntKind renaming i64->Ab
open Option renaming none->Ac,some->Ad
open Nat renaming zero_le->Ah,lt_of_lt_of_le->Aj
open Go.Proofs.Tryz renaming prog->An
open Char renaming ofNat->Ao
open Int renaming toNat_natCast->Ap,eq_ofNat_of_zero_le->Aq
open List renaming length_map->Au,getElem_mem->Ax,length_take->A0,length_append->Bd
open Go.Proofs.Tryz
section
open Go.ChangeShapes Go.WideShapes Go.ChangeAt Go.RowKit
def Nd:List Char:=[Ao 104,Ao 97,Ao 114,Ao 110,Ao 101,Ao 115,Ao 115,Ao 32,Ao 52,Ao 56,Ao 100,Ao 102,Ao 98,Ao 50,Ao 102,Ao 97,Ao 51,Ao 102,Ao 56,Ao 53,Ao 102,Ao 57,Ao 102,Ao 49,Ao 54,Ao 53,Ao 56,Ao 54,Ao 99,Ao 102,Ao 51,Ao 98,Ao 100,Ao 57,Ao 98,Ao 52,Ao 48,Ao 97,Ao 51,Ao 57,Ao 53,Ao 97,Ao 52,Ao 100,Ao 56,Ao 97,Ao 49,Ao 97,Ao 49,Ao 55,Ao 52,Ao 55,Ao 48,Ao 98,Ao 100,Ao 102,Ao 56,Ao 52,Ao 56,Ao 99,Ao 100,Ao 101,Ao 53,Ao 100,Ao 98,Ao 97,Ao 48,Ao 54,Ao 53,Ao 48,Ao 97,Ao 100,Ao 32,Ao 99,Ao 117,Ao 116,Ao 32,Ao 97,Ao 116,Ao 32,Ao 108,Ao 111,Ao 111,Ao 112,Ao 46,Ao 101,Ao 120,Ao 97,Ao 109,Ao 112,Ao 108,Ao 101,Ao 47,Ao 103,Ao 48,Ao 48,Ao 57,Ao 54,Ao 53,Ao 47,Ao 108,Ao 97,Ao 119,Ao 115,Ao 46,Ao 70,Ao 110,Ao 70,Ao 111,Ao 108,Ao 108,Ao 111,Ao 119,Ao 115,Ao 32,Ao 108,Ao 111,Ao 111,Ao 112,Ao 46,Ao 101,Ao 120,Ao 97,Ao 109,Ao 112,Ao 108,Ao 101,Ao 47,Ao 103,Ao 48,Ao 48,Ao 57,Ao 54,Ao 53,Ao 47,Ao 108,Ao 97,Ao 119,Ao 115,Ao 46,Ao 70,Ao 110,Ao 86,Ao 105,Ao 101,Ao 119,Ao 115,Ao 32,Ao 108,Ao 111,Ao 111,Ao 112,Ao 46,Ao 101,Ao 120,Ao 97,Ao 109,Ao 112,Ao 108,Ao 101,Ao 47,Ao 103,Ao 48,Ao 48,Ao 57,Ao 54,Ao 53,Ao 47,Ao 108,Ao 97,Ao 119,Ao 115,Ao 46,Ao 70,Ao 110,Ao 79,Ao 110,Ao 99,Ao 101,Ao 32,Ao 108,Ao 111,Ao 111,Ao 112,Ao 46,Ao 101,Ao 120,Ao 97,Ao 109,Ao 112,Ao 108,Ao 101,Ao 47,Ao 103,Ao 48,Ao 48,Ao 57,Ao 54,Ao 53,Ao 47,Ao 108,Ao 97,Ao 119,Ao 115,Ao 46,Ao 70,Ao 110,Ao 83,Ao 108,Ao 105,Ao 109,Ao 32,Ao 108,Ao 111,Ao 111,Ao 112,Ao 46,Ao 101,Ao 120,Ao 97,Ao 109,Ao 112,Ao 108,Ao 101,Ao 47,Ao 103,Ao 48,Ao 48,Ao 57,Ao 54,Ao 53,Ao 47,Ao 108,Ao 97,Ao 119,Ao 115,Ao 46,Ao 70,Ao 110,Ao 69,Ao 120,Ao 97,Ao 99,Ao 116,Ao 65,Ao 115,Ao 107]
theorem Aig:An.initOrder=String.ofList Nd:=by
 unfold Nd;dsimp only [An,Tryz.progTables]
theorem Abw:An.initOrder.toList=Nd:=by rw [Aig,String.toList_ofList]
def Nf:List Char:=[Ao 99,Ao 117,Ao 116]
def Rp:List (List Char):=(behindMainWord (wordsSigns Nd)).tail
theorem Ad7:behindMainWord (wordsSigns Nd)=Nf :: Rp:=Bm
theorem Ai0:(Nf == "gc".toList)=false:=Bm
theorem Ae9:(Nf == "spec".toList)=false:=Bm
theorem Vv:(Nf == "carried".toList)=false:=Bm
theorem Afa:(Nf == "cut".toList)=true:=Bm
theorem Tt:stripLifts liftWords (Nf :: Rp)=([],Nf :: Rp):=Bm
theorem Aih (P:Program) (r:List (List Char)) (h:behindMainWord (wordsSigns P.initOrder.toList)=Nf :: r):P.make=Ad .cut:=by
 unfold Program.make;rw [h];simp only [Ai0,Ae9,Afa,Bool.or_false,Bool.true_or,if_true,Bool.false_eq_true,if_false]
theorem Aae (P:Program) (r:List (List Char)) (h:behindMainWord (wordsSigns P.initOrder.toList)=Nf :: r) (hs:stripLifts liftWords (Nf :: r)=([],Nf :: r)):P.headLifts=[]:=by
 unfold Program.headLifts;simp only [h,hs];split<;>rfl
theorem Yk (P:Program) (r:List (List Char)) (h:behindMainWord (wordsSigns P.initOrder.toList)=Nf :: r) (hs:stripLifts liftWords (Nf :: r)=([],Nf :: r)):P.liftsFinal=false:=by
 unfold Program.liftsFinal;have hc:(Ad Nf == Ad "carried".toList)=false:=Vv;simp only [Aae P r h hs,h,List.head?_cons,hc,Bool.false_and,Bool.false_or];rfl
theorem Abx (P:Program) (r:List (List Char)) (h:behindMainWord (wordsSigns P.initOrder.toList)=Nf :: r) (hs:stripLifts liftWords (Nf :: r)=([],Nf :: r))
  (hl:P.laysLater=false) (hr:P.bearsReflect=false) (hd:P.doorFits []=true):P.mayEnter=true:=by
 unfold Program.mayEnter;have hc:(Ad Nf == Ad "cut".toList)=true:=Afa;simp only [h,hs,Ai0,Ae9,Vv,hl,hr,hd,hc,List.head?_cons,Bool.or_false,Bool.false_or,Bool.false_and,Bool.not_false,Bool.or_true,Bool.and_true];rfl
theorem Q0:behindMainWord (wordsSigns An.initOrder.toList)=Nf :: Rp:=by rw [Abw,Ad7]
theorem Vw:An.laysLater=false:=Bm
theorem Rq:An.bearsReflect=false:=Bm
theorem Yl:An.doorFits []=true:=Bm
theorem Ym:An.mayEnter=true:=Abx _ _ Q0 Tt Vw Rq Yl
theorem Uv:An.liftsFinal=false:=Yk _ _ Q0 Tt
theorem Afy:An.make=Ad .cut:=Aih _ _ Q0
theorem Rr:laidOutB An=true:=Bm
theorem Vx:mapsRowed An=true:=Bm
theorem Uw:An.stopsHeard=true:=Bm
theorem Vy:An.plainKeys=true:=Bm
theorem Ahc:ownKnob An.godebug=Ac:=Bm
theorem Ahd {f:FuncId} {fn:Func} {s:ChangeSpec} {c:OpenClaim}
  (k1:c.wf (OpenSpec.ofChange s)=true) (k4:fn.params.all (An.readableRec ·)=true) (k5:namedTie An c.named s.vars=true)
  (kp:((c.stops == []) && (An.stops == []) && (c.knobs == []) && (An.stopKnobs == []))=true)
  (k10:(c.inPlace == An.inPlace f)=true) (k11:(c.unfollowed == An.unfollowed f)=true) (k12:(c.recurses == An.recurses f)=true) (k13:(c.named == An.varsNamed f)=true)
  (k14:((c.maps == (fn.params.toList ++ s.plain.varTypes An).any (An.mapsRec ·)) && (c.ifaces == (fn.params.toList ++ s.plain.varTypes An).any (An.ifacesRec ·)) && (c.mapsOut == An.mapsAmong fn.resultTypes.toList) &&
   (c.loops == (fn.params.toList ++ s.plain.varTypes An).any (An.loopsFrom ·)) && (c.wideKeys == (fn.params.toList ++ s.plain.varTypes An ++ fn.resultTypes.toList).any (An.wideKeysFrom ·)) &&
   s.vars.all (An.varReadable ·) && fn.resultTypes.all (fun t=>An.readableRec t && decide (t<An.types.size)) && (c.ifacesOut == fn.resultTypes.toList.any (An.ifacesRec ·)) && (c.loopsOut == fn.resultTypes.toList.any (An.loopsFrom ·)) && (c.plainKeys == true) && c.shortTexts.isNone)=true)
  (k26:c.lifted=false) (k27:c.make = .cut) (k28:(c.kinds == (if c.domain.isEmpty then [] else fn.params.toList.map fun t=>match An.underlying t with | some (.int k)=>some k | _=>none))=true) (k29:(c.pinned == c.pinnedBy)=true)
  (k30:((c.veiled == (fn.params.toList ++ s.plain.varTypes An ++ fn.resultTypes.toList).any (An.veiledRec ·)) && c.veiledFits An fn.params.toList (fn.params.toList ++ s.plain.varTypes An ++ fn.resultTypes.toList))=true) :
  joinedFacts An f fn s c=true:=by
 simp only [Bool.and_eq_true] at kp k14 k30;obtain ⟨⟨⟨p1,p2⟩,p3⟩,p4⟩:=kp;obtain ⟨⟨⟨⟨⟨⟨⟨⟨⟨⟨q1,q2⟩,q3⟩,q4⟩,q5⟩,q6⟩,q7⟩,q8⟩,q9⟩,q10⟩,q11⟩:=k14;unfold joinedFacts;simp only [Bool.and_eq_true];rw [Afy,Uv,Vy,k26,k27];exact ⟨⟨⟨⟨⟨⟨⟨⟨⟨⟨⟨⟨⟨⟨⟨⟨⟨⟨⟨⟨⟨⟨⟨⟨⟨⟨⟨⟨⟨⟨⟨k1,Rr⟩,Vx⟩,k4⟩,k5⟩,p1⟩,p2⟩,p3⟩,p4⟩,k10⟩,k11⟩,k12⟩,k13⟩,q1⟩,q2⟩,q3⟩,q4⟩,q5⟩,q6⟩,q7⟩,q8⟩,q9⟩,q10⟩,q11⟩,Uw⟩,Ym⟩,rfl⟩,rfl⟩,k28⟩,k29⟩,k30.1⟩,k30.2⟩
end
structure Edge where
 fr:Int
 to:Int
deriving DecidableEq,Inhabited
def Gd:Enc Edge:={ cells:=fun s=>[J Ab s.fr,J Ab s.to],sz:=2,len:=fun _=>rfl,one:=fun _ u hu=>by simp at hu;rcases hu with rfl | rfl<;>rfl }
@[go_sem] def Aby (s:Edge):Value:=.agg #[J Ab s.fr,J Ab s.to]
theorem Rd.edge {w:World} {B:Nat} {A:Option Addr} {n c:Nat} {l:List Edge} (h:Rd Gd w B (Aa A n c) l) {k:Nat} (hk:k<l.length) :
  ∃ b o,A=Ad ⟨b,o,Ac⟩/\b<B/\w.cell? ⟨b,o+k * 2,Ac⟩=Ad (J Ab l[k].fr)/\w.cell? ⟨b,o+k * 2+1,Ac⟩=Ad (J Ab l[k].to):=by
 obtain ⟨A',c',hv,_,hA⟩:=h;obtain ⟨b,o,bW,hb,hc⟩:=hA Bl;simp only [Value.slice.injEq] at hv;obtain ⟨rfl,_,_⟩:=hv;exact ⟨b,o,bW,hb,hc k hk 0 _ rfl,hc k hk 1 _ rfl⟩
theorem Sz:(An.info? 206).map (fun i=>(i.zero,i.size,i.bytes))=Ad (Ad (Aby ⟨0,0⟩),2,16):=Bm
open Go.ChangeShapes Go.WideShapes Go.ChangeAt Go.RowKit Go.Deep
section
variable {H:Type} {enc:TypeId×Value->H} {P:Program} {w:World} {spare:Nat->Bool} {held:Bool}
theorem Ad8 {α:Type} [Inhabited α] (E:Enc α) (ok:α->Prop) {t e:TypeId} {fuel:Nat} {cs:List Value} {x:DataW H×List MemPlace} (ht:P.underlying t=Ad (.slice e)) (bJ:P.cellsOf e=E.sz) (hpos:0<E.sz)
  (qK:∀ n cs' y,DataW.trod enc P w 0 spare held n e cs'=Ad y -> ∃ z:α,cs'=E.cells z/\ok z)
  (h:DataW.trod enc P w 0 spare held fuel t cs=Ad x):∃ (v:Value) (l:List α),cs=[v]/\Rd E w w v l/\(∀ z∈l,ok z)/\l.length<=maxLen:=by
 rcases open_slice ht h with ⟨rfl,_⟩ | ⟨a,len,cap,m,n,D,Pl,rfl,_,hl,hm,kE,_,hi⟩
 ·exact ⟨_,[],rfl,⟨Ac,0,rfl,Bn,fun h=>absurd h Bn⟩,Bn,Bn⟩
 ·have hlm:len<=m:=by rw [kE];split<;>omega
  have hsp0:0<len->a.spot=Ac/\a.block<w.heap.size:=by
   intro h0l;obtain ⟨cs',hc,eI⟩:=hi 0 Bl;obtain ⟨z,rfl,hz⟩:=qK _ _ _ eI;rw [bJ] at hc;obtain ⟨_,aK,hat⟩:=World.cells?_some hc;have h0:=hat 0 hpos;have e0:(a.add (0 * E.sz)).add 0=a:=by simp [Addr.add]
   rw [e0,List.getElem?_eq_getElem (by rw [E.len];exact hpos)] at h0;refine ⟨World.cell?_spot h0,?_⟩;rcases Nat.lt_or_ge a.block w.heap.size with aB | vF
   ·exact aB
   ·unfold World.cell? at h0;rw [Array.getElem?_eq_none vF] at h0;simp at h0
  have each:∀ i,i<len -> ∃ z:α,ok z /\ ∀ j u,(E.cells z)[j]? = Ad u->w.cell? ⟨a.block,a.off+i * E.sz+j,Ac⟩=Ad u:=by
   intro i pG;have hsp:=(hsp0 Bl).1;obtain ⟨cs',hc,eI⟩:=hi i Bl;obtain ⟨z,rfl,hz⟩:=qK _ _ _ eI;rw [bJ] at hc;obtain ⟨_,aK,hat⟩:=World.cells?_some hc;have hadd:∀ j,((a.add (i * E.sz)).add j)=⟨a.block,a.off+i * E.sz+j,Ac⟩:=by
    intro j;obtain ⟨ab,ao,sp⟩:=a;simp only at hsp;subst hsp;unfold Addr.add;by_cases h1:i * E.sz=0<;>by_cases h2:j=0<;>simp [h1,h2]
   refine ⟨z,hz,fun j u hu=>?_⟩;have hj:j<E.sz:=by
    have:=(List.getElem?_eq_some_iff.1 hu).1
    rw [E.len] at this;exact this
   rw [<-hadd,hat j hj];exact hu
  obtain ⟨f,hf⟩:=choose_lt each;refine ⟨_,(List.range len).map f,rfl,⟨Ad a,cap,Bn,by simpa using hl,fun hp=>?_⟩,?_,by simp;omega⟩
  ·simp only [Au,List.length_range] at hp;obtain ⟨hsp,hb⟩:=hsp0 hp;refine ⟨a.block,a.off,by rw [<-hsp],hb,fun k hk j u hu=>?_⟩;simp only [Au,List.length_range] at hk;simp only [List.getElem_map,List.getElem_range] at hu;exact (hf k hk).2 j u hu
  ·intro z hz;simp only [List.mem_map,List.mem_range] at hz;obtain ⟨i,sS,rfl⟩:=hz;exact (hf i sS).1
end
structure Fence where
 run:Int
 task:Int
 try_:Int
 text:ByteArray
deriving DecidableEq,Inhabited
@[go_sem] def Ajo (s:Fence):Value:=.agg #[J Ab s.run,J Ab s.task,J Ab s.try_,.string s.text]
structure Slot where
 task:Int
 worker:Int
 fr:Int
 to:Int
deriving DecidableEq,Inhabited
@[go_sem] def Ajq (s:Slot):Value:=.agg #[J Ab s.task,J Ab s.worker,J Ab s.fr,J Ab s.to]
theorem pS:(∀ (a:Act) (d:Tmp) (v:Value),a.put (Ad d) v = { a with tmps:=a.tmps.setIfInBounds d v })/\(∀ (a:Act) (v:Value),a.put Ac v=a)/\(∀ (l:List Value) (i:Nat) (v:Value),l.toArray.setIfInBounds i v=(l.set i v).toArray) /\
  (∀ (x:Value) (l:List Value) (v:Value),(x :: l).set 0 v=v :: l)/\(∀ (x:Value) (l:List Value) (i:Nat) (v:Value),(x :: l).set (i+1) v=x :: l.set i v) :=
 ⟨fun _ _ _=>rfl,fun _ _=>rfl,fun _ _ _=>List.setIfInBounds_toArray ..,fun _ _ _=>rfl,fun _ _ _ _=>rfl⟩
section
structure Plan where
 prio:Int
 most:Int
 wait:Int
 tasks:Int
 edges:List Edge
deriving DecidableEq,Inhabited
@[go_sem] abbrev Gl (p:Plan) (ve:Value):Value:=.agg #[.int .i64 p.prio,.int .i64 p.most,.int .i64 p.wait,.int .i64 p.tasks,ve]
def En:Enc Nat:={ cells:=fun x=>[J Ab (x:Int)],sz:=1,len:=fun _=>rfl,one:=fun _ u hu=>by simp at hu;subst hu;rfl }
def Vz:Enc Bool:={ cells:=fun x=>[.bool x],sz:=1,len:=fun _=>rfl,one:=fun _ u hu=>by simp at hu;subst hu;rfl }
def inB (n lo hi:Int):Bool:=decide (lo<=n) && decide (n<=hi)
theorem Ct {n lo hi:Int} : inB n lo hi=true ↔ lo<=n/\n<=hi:=by simp [inB]
def Eg (p:Plan):Bool:=inB p.tasks 1 12 && decide (p.edges.length<=30) && inB p.prio 0 9 && inB p.most 1 5 && inB p.wait 1 20
def I9 (T:Int) (e:Edge):Bool:=inB e.fr 0 (T - 1) && inB e.to 0 (T - 1)
def esL (l:List Edge):List (Nat×Nat):=l.map fun e=>(e.fr.toNat,e.to.toNat)
def Dr (p:Plan):List (Nat×Nat):=esL p.edges
def Ht (p:Plan):Prop:=∀ e∈p.edges,I9 p.tasks e=true
def S7 (p:Plan):Prop:=∃ t,t<p.tasks.toNat/\Pg.Reach (Dr p) t t
open Classical in
noncomputable def Cr (p:Plan):Int :=
 if Eg p=false then 1 else if ¬ Ht p then 2 else if ¬ p.edges.Nodup then 3 else if S7 p then 4 else 0
theorem Cs {p:Plan} : Cr p=0 ↔ Eg p=true/\Ht p/\p.edges.Nodup /\ ¬ S7 p:=by
 unfold Cr;cases h1:Eg p
 ·simp
 ·by_cases h2:Ht p<;>by_cases h3:p.edges.Nodup<;>by_cases h4:S7 p<;>simp [h2,h3,h4]
theorem Dx {p:Plan} (h:Eg p=true):1<=p.tasks/\p.tasks<=12:=by
 simp only [Eg,Bool.and_eq_true] at h;exact Ct.1 h.1.1.1.1
theorem Es {p:Plan} (h:Eg p=true):p.edges.length<=30:=by
 simp only [Eg,Bool.and_eq_true,decide_eq_true_eq] at h;exact h.1.1.1.2
theorem H8 {p:Plan} (h:Ht p) {k:Nat} (hk:k<p.edges.length):0<=p.edges[k].fr/\p.edges[k].fr<p.tasks/\0<=p.edges[k].to/\p.edges[k].to<p.tasks:=by
 have:=h _ (Ax hk)
 simp only [I9,Bool.and_eq_true,Ct] at this;omega
theorem Nw (l:List Edge):(esL l).length=l.length:=by simp [esL]
theorem Lv {p:Plan} (h:Ht p):(∀ e∈Dr p,e.1<p.tasks.toNat)/\(∀ e∈Dr p,e.2<p.tasks.toNat):=by
 have:∀ e∈Dr p,e.1<p.tasks.toNat/\e.2<p.tasks.toNat:=by
  intro e he;simp only [Dr,esL,List.mem_map] at he;obtain ⟨x,hx,rfl⟩:=he
  have:=h x hx
  simp only [I9,Bool.and_eq_true,Ct] at this;simp only;omega
 exact ⟨fun e he=>(this e he).1,fun e he=>(this e he).2⟩
theorem Rd.nat {w:World} {B:Nat} {A:Option Addr} {n c:Nat} {l:List Nat} (h:Rd En w B (Aa A n c) l) {k:Nat} (hk:k<l.length) :
  ∃ b o,A=Ad ⟨b,o,Ac⟩/\b<B/\w.cell? ⟨b,o+k,Ac⟩=Ad (J Ab (l[k]:Int)):=by
 obtain ⟨A',c',hv,_,hA⟩:=h;obtain ⟨b,o,bW,hb,hc⟩:=hA Bl;simp only [Value.slice.injEq] at hv;obtain ⟨rfl,_,_⟩:=hv;exact ⟨b,o,bW,hb,by simpa [En] using hc k hk 0 _ rfl⟩
theorem Rd.int {w:World} {B:Nat} {A:Option Addr} {n c:Nat} {l:List Int} (h:Rd Ii w B (Aa A n c) l) {k:Nat} (hk:k<l.length) :
  ∃ b o,A=Ad ⟨b,o,Ac⟩/\b<B/\w.cell? ⟨b,o+k,Ac⟩=Ad (J Ab l[k]):=by
 obtain ⟨A',c',hv,_,hA⟩:=h;obtain ⟨b,o,bW,hb,hc⟩:=hA Bl;simp only [Value.slice.injEq] at hv;obtain ⟨rfl,_,_⟩:=hv;exact ⟨b,o,bW,hb,by simpa [Ii] using hc k hk 0 _ rfl⟩
theorem Ow.one_ {α:Type} {e:Enc α} (bJ:e.sz=1) {E:TypeId} {w:World} {base g n cap:Nat} {l:List α} (h:Ow e E w base (Aa (Ad ⟨g,0,Ac⟩) n cap) l) {k:Nat} (hk:k<l.length) {u:Value} (hu:(e.cells l[k])[0]? = Ad u) :
  w.cell? ⟨g,k,Ac⟩=Ad u:=by
 rcases h.form with ⟨h1,_⟩ | ⟨g',cap',hv,_,_,_,_,_,hc⟩
 ·simp at h1
 ·simp only [Value.slice.injEq,Option.some.injEq,Addr.mk.injEq,and_true] at hv;obtain ⟨rfl,_,_⟩:=hv
  have:=hc k hk 0 u hu
  rw [bJ] at this;simpa using this
theorem Ow.nat {E:TypeId} {w:World} {base g n cap:Nat} {l:List Nat} (h:Ow En E w base (Aa (Ad ⟨g,0,Ac⟩) n cap) l) {k:Nat} (hk:k<l.length):w.cell? ⟨g,k,Ac⟩=Ad (J Ab (l[k]:Int)):=h.one_ rfl hk rfl
theorem Ow.bool {E:TypeId} {w:World} {base g n cap:Nat} {l:List Bool} (h:Ow Vz E w base (Aa (Ad ⟨g,0,Ac⟩) n cap) l) {k:Nat} (hk:k<l.length):w.cell? ⟨g,k,Ac⟩=Ad (.bool l[k]):=h.one_ rfl hk rfl
theorem Ahe (a b:Nat) (ha:a<9223372036854775808) (hb:b<9223372036854775808):bits .or .i64 (a:Int) (b:Int)=((a ||| b:Nat):Int):=by
 have hx:a ||| b<2 ^ 63:=Nat.or_lt_two_pow Bl Bl
 have h1:(BitVec.ofInt 64 (a:Int)).toNat=a:=by
  rw [BitVec.ofInt_natCast,BitVec.toNat_ofNat];exact Nat.mod_eq_of_lt Bl
 have h2:(BitVec.ofInt 64 (b:Int)).toNat=b:=by
  rw [BitVec.ofInt_natCast,BitVec.toNat_ofNat];exact Nat.mod_eq_of_lt Bl
 show Ab.wrap ((BitVec.ofInt 64 (a:Int) ||| BitVec.ofInt 64 (b:Int)).toNat:Int)=_;rw [BitVec.toNat_or,h1,h2,IntKind.wrap_i64];generalize a ||| b=y at *
 have hy:y<9223372036854775808:=hx;clear h1 h2 hx;rw [Int.emod_eq_of_lt Bl Bl,Int.add_sub_cancel]
theorem Aii (a b:Nat) (ha:a<9223372036854775808) (hb:b<9223372036854775808):bits .and .i64 (a:Int) (b:Int)=((a &&& b:Nat):Int):=by
 have hx:a &&& b<2 ^ 63:=Nat.and_lt_two_pow _ Bl;have h1:(BitVec.ofInt 64 (a:Int)).toNat=a:=by
  rw [BitVec.ofInt_natCast,BitVec.toNat_ofNat];exact Nat.mod_eq_of_lt Bl
 have h2:(BitVec.ofInt 64 (b:Int)).toNat=b:=by
  rw [BitVec.ofInt_natCast,BitVec.toNat_ofNat];exact Nat.mod_eq_of_lt Bl
 show Ab.wrap ((BitVec.ofInt 64 (a:Int) &&& BitVec.ofInt 64 (b:Int)).toNat:Int)=_;rw [BitVec.toNat_and,h1,h2,IntKind.wrap_i64];generalize a &&& b=y at *
 have hy:y<9223372036854775808:=hx;clear h1 h2 hx;omega
theorem Ahf (x k:Nat) (hx:x<9223372036854775808):(bits .and .i64 ((x:Int) / 2 ^ k) 1 == 1)=x.testBit k:=by
 have e:((x:Int) / 2 ^ k)=((x >>> k:Nat):Int):=by
  rw [Nat.shiftRight_eq_div_pow,Int.natCast_ediv,Int.natCast_pow];rfl
 have hl:x >>> k<9223372036854775808:=by
  rw [Nat.shiftRight_eq_div_pow];exact Nat.lt_of_le_of_lt (Nat.div_le_self _ _) hx
 have ha:=Aii (x >>> k) 1 hl Bl;rw [e];rw [show (1:Int)=((1:Nat):Int) from rfl,ha];unfold Nat.testBit;rw [Nat.and_comm 1,Nat.and_one_is_mod];rcases Nat.mod_two_eq_zero_or_one (x >>> k) with h | h<;>simp [h]
theorem Aij (d:Nat) (hd:d<63):wrap64 ((2:Int) ^ d)=((1 <<< d:Nat):Int):=by
 have h:2 ^ d<2 ^ 63:=Nat.pow_lt_pow_of_lt Bl hd;have e:(2:Int) ^ d=((2 ^ d:Nat):Int):=by rw [Int.natCast_pow];rfl
 rw [e,Nat.shiftLeft_eq,Nat.one_mul];clear e;generalize 2 ^ d=y at *
 unfold wrap64;omega
def El (T:TypeId) (p:Plan) (ve:Value) (w:World):World:=w.alloc (.cells #[J Ab p.prio,J Ab p.most,J Ab p.wait,J Ab p.tasks,ve] T)
theorem Lc (T:TypeId) (p:Plan) (ve:Value) (w:World):Below w w (El T p ve w):=Bt
theorem Fw (T:TypeId) (p:Plan) (ve:Value) (w:World):(El T p ve w).heap.size=w.heap.size+1:=by simp [El]
theorem Gm {T:TypeId} {p:Plan} {ve:Value} {w wr:World} (hb:Below (El T p ve w) (El T p ve w) wr) :
  wr.cell? ⟨w,0,Ac⟩=Ad (J Ab p.prio)/\wr.cell? ⟨w,1,Ac⟩=Ad (J Ab p.most)/\wr.cell? ⟨w,2,Ac⟩=Ad (J Ab p.wait) /\
   wr.cell? ⟨w,3,Ac⟩=Ad (J Ab p.tasks)/\wr.cell? ⟨w,4,Ac⟩=Ad ve/\w.heap.size+1<=wr.heap.size/\Below w w wr:=by
 have hs:=Fw T p ve w;have h:∀ j u,(El T p ve w).cell? ⟨w,j,Ac⟩=Ad u->wr.cell? ⟨w,j,Ac⟩=Ad u:=fun j u hu=>(hb.cell (p:=⟨w,j,Ac⟩) (by rw [hs];simp)).trans hu;refine ⟨h 0 _ ?_,h 1 _ ?_,h 2 _ ?_,h 3 _ ?_,h 4 _ ?_,by rw [<-hs];exact hb.size,(Lc T p ve w).trans (hb.mono (by rw [hs];omega))⟩;all_goals simp [El,go_sem]
end
section
variable {P:Program} {ops:Array Oper} {Q:Exit->Act->World->Prop} {md:Region.Mode} {S:World->Prop} {last:Nat}
def Kf (P:Program) (md:Region.Mode) (ops:Array Oper) (Q:Exit->Act->World->Prop) (S:World->Prop) (last:Nat):Nat->Array Bool->Act->World->Prop
 | 0,listed,a,w=>Region.ready md ops listed=[]/\Q .normal a w
 | fuel+1,listed,a,w =>
  (Region.ready md ops listed=[]->Q .normal a w) /\
  ∀ i∈Region.ready md ops listed,wpOp P ops Q i (fun a' w'=>(i≠last->S w')/\Kf P md ops Q S last fuel (listed.setIfInBounds i true) a' w') a w
theorem V0:∀ (fuel:Nat) (listed:Array Bool) (a:Act) (w:World),Kf P md ops Q S last fuel listed a w->wpAny P md ops Q fuel listed a w
 | 0,_,_,_,h=>h
 | fuel+1,_,_,_,h=>⟨h.1,fun i hi=>wpOp_mono (fun a' w' h'=>V0 fuel _ a' w' h'.2) (h.2 i hi)⟩
def Pr (md:Region.Mode) (ops:Array Oper) (last i:Nat):Bool :=
 match ops[last]? with
 | some o=>o.after.any fun e=>Region.binds md e && e.on == i
 | none=>true
theorem Aaf {i:Nat} {oi:Oper} {v:Value} (hi:ops[i]? = Ad oi) (hsel:∀ (j:Nat) (o:Oper) cs b,ops[j]? = Ad o->o.op ≠ .select cs b)
  (hQ:∀ c a w,Q (.panic c) (a.put oi.dst v) w->Q (.panic c) a w) (hl:Pr md ops last i=true) :
  ∀ (fuel:Nat) (listed:Array Bool) (a:Act) (w:World),
   (∀ j oj,ops[j]? = Ad oj->j≠i->listed.getD j true=false->(∀ e∈oj.after,Region.binds md e=true->e.on≠i)->oi.apart ops oj=true) ->
   i∈Region.ready md ops listed->YieldsIf P ops S oi v a->S w ->
   Kf P md ops Q S last fuel (listed.setIfInBounds i true) (a.put oi.dst v) w->Kf P md ops Q S last (fuel+1) listed a w:=by
 intro fuel;induction fuel with
 | zero =>
  intro listed a w _ hr hy hS H;refine ⟨fun h=>(by rw [h] at hr;cases hr),fun j hj=>?_⟩;by_cases hji:j=i
  ·subst hji;exact hy.wpOp hi hS ⟨fun _=>hS,H⟩
  ·have:=ready_mono hj hji
   rw [H.1] at this;cases this
 | succ fuel ih =>
  intro listed a w hfree hr hy hS H;refine ⟨fun h=>(by rw [h] at hr;cases hr),fun j hj=>?_⟩;by_cases hji:j=i
  ·subst hji;exact hy.wpOp hi hS ⟨fun _=>hS,H⟩
  ·have h1:=H.2 j (ready_mono hj hji);obtain ⟨hjun,oj,hoj,cW⟩:=mem_ready.1 hj;have hnot:∀ e∈oj.after,Region.binds md e=true->e.on≠i:=fun e he hb rU=>by
    have h1:=cW e he hb;have h0:=(mem_ready.1 hr).1;rw [rU] at h1;rcases Nat.lt_or_ge i listed.size with h' | h'
    ·simp [h'] at h0 h1;rw [h0] at h1;cases h1
    ·simp [Array.getElem?_eq_none h'] at h1
   have mA:j≠last:=by
    intro e;subst e;unfold Pr at hl;rw [hoj] at hl;simp only [Array.any_eq_true] at hl;obtain ⟨k,hk,hb⟩:=hl;simp only [Bool.and_eq_true,beq_iff_eq] at hb;exact hnot _ (Array.getElem_mem hk) hb.1 hb.2
   have h2:=wpOp_putIf hoj (hfree j oj hoj hji hjun hnot) (fun cs b=>hsel i oi cs b hi) (fun cs b=>hsel j oj cs b hoj) hQ hy h1;have hfree':∀ k ok,ops[k]? = Ad ok->k≠i->(listed.setIfInBounds j true).getD k true=false ->
     (∀ e∈ok.after,Region.binds md e=true->e.on≠i)->oi.apart ops ok=true:=fun k ok hk uP hun bY=>by
    refine hfree k ok hk uP ?_ bY;by_cases fM:j=k
    ·subst fM;exact hjun
    ·rw [getD_set_ne true fM] at hun;exact hun
   refine wpOp_mono (fun a' w' h3=>⟨h3.2.1,ih (listed.setIfInBounds j true) a' w' hfree' (ready_mono hr (Ne.symm hji)) h3.1 (h3.2.1 mA) ?_⟩) h2;rw [Array.setIfInBounds_comm _ _ hji];exact h3.2.2
theorem Abz {i:Nat} {oi:Oper} {v:Value} {fuel:Nat} {listed:Array Bool} {a:Act} {w:World} (hi:ops[i]? = Ad oi)
  (hs:Region.noSelect ops=true) (hl:Pr md ops last i=true) (hf:Region.free md ops listed i=true) (hr:(Region.ready md ops listed).contains i=true)
  (hQ:∀ c a w,Q (.panic c) (a.put oi.dst v) w->Q (.panic c) a w) (hS:S w) (hy:YieldsIf P ops S oi v a)
  (h:Kf P md ops Q S last fuel (listed.setIfInBounds i true) (a.put oi.dst v) w):Kf P md ops Q S last (fuel+1) listed a w :=
 Aaf hi (Region.noSelect_spec hs) hQ hl fuel listed a w (Region.free_spec hi hf) (by simpa using hr) hy hS h
theorem aT (i:Nat) {oi:Oper} {v:Value} {fuel:Nat} {listed:Array Bool} {a:Act} {w:World} (hS:S w)
  (h:Kf P md ops Q S last fuel (listed.setIfInBounds i true) (a.put oi.dst v) w) (hi:ops[i]? = Ad oi:=by rfl)
  (hs:Region.noSelect ops=true:=by kernel_rfl) (hl:Pr md ops last i=true:=by kernel_rfl) (hf:Region.free md ops listed i=true:=by kernel_rfl) (hr:(Region.ready md ops listed).contains i=true:=by kernel_rfl)
  (hQ:∀ c a w,Q (.panic c) (a.put oi.dst v) w->Q (.panic c) a w:=by exact fun _ _ _ h=>h) (hw:Region.wanted oi (yielded ops a.tmps)=true:=by rfl)
  (hy:∀ w,S w->(execOp a.eval oi).run P w = .ok (.value v) w:=by (intro w hSw;(try dsimp only at hSw);go_simp;all_goals with_reducible rfl)):Kf P md ops Q S last (fuel+1) listed a w :=
 Abz hi hs hl hf hr hQ hS (Or.inl ⟨hw,hy⟩) h
theorem Ad9 {i:Nat} {o:Oper} {fuel:Nat} {listed:Array Bool} {a:Act} {w:World} (ho:ops[i]? = Ad o) (hr:Region.ready md ops listed=[i])
  (h:∀ K':Act->World->Prop,Hid (∀ a w,(i≠last->S w)->Kf P md ops Q S last fuel (listed.setIfInBounds i true) a w->K' a w) ->
   if Region.wanted o (yielded ops a.tmps)=true then Oper.wp P o a w K' Q else K' (a.put o.dst undef) w):Kf P md ops Q S last (fuel+1) listed a w:=by
 refine ⟨fun h0=>(by rw [hr] at h0;cases h0),fun j hj=>?_⟩;rw [hr,List.mem_singleton] at hj;subst hj;exact wpOp_step ho (fun K' hK=>h K' (fun a w hS hW=>hK a w ⟨hS,hW⟩))
theorem oT (i:Nat) {o:Oper} {fuel:Nat} {listed:Array Bool} {a:Act} {w:World}
  (h:∀ K':Act->World->Prop,Hid (∀ a w,(i≠last->S w)->Kf P md ops Q S last fuel (listed.setIfInBounds i true) a w->K' a w) ->
   if Region.wanted o (yielded ops a.tmps)=true then Oper.wp P o a w K' Q else K' (a.put o.dst undef) w) (ho:ops[i]? = Ad o:=by rfl) (hr:Region.ready md ops listed=[i]:=by kernel_rfl):Kf P md ops Q S last (fuel+1) listed a w:=Ad9 ho hr h
theorem Eb {listed:Array Bool} {a:Act} {w:World} (hr:Region.ready md ops listed=[]) (h:Q .normal a w):∀ fuel,Kf P md ops Q S last fuel listed a w
 | 0=>⟨hr,h⟩
 | _+1=>⟨fun _=>h,by rw [hr];intro i hi;cases hi⟩
theorem Dl {id:Nat} {a:Act} {w:World} (S:World->Prop) (last:Nat) (hm:P.follows .mixedOrders=true) (hS:S w.drew)
  (h:S w.drew->Kf P .any ops Q S last ops.size (Array.replicate ops.size false) a w.drew):(Code.region id ops true).wp P Q a w :=
 wp_region_any hm (V0 _ _ _ _ (h hS))
end
theorem Ahg {P:Program} {md:Region.Mode} {Q:Exit->Act->World->Prop} {S:World->Prop} {l:List Oper} (i:Nat) {oi:Oper} {v:Value} {fuel:Nat} {listed:Array Bool} {a:Act} {w:World} (hi:l[i]? = Ad oi)
  (hs:Region.noSelect l.toArray=true) (hf:Region.free md l.toArray listed i=true) (hr:(Region.ready md l.toArray listed).contains i=true) (hQ:∀ c a w,Q (.panic c) (a.put oi.dst v) w->Q (.panic c) a w)
  (hw:Region.wanted oi (yielded l.toArray a.tmps)=true) (hy:∀ w,S w->(execOp a.eval oi).run P w = .ok (.value v) w) (hS:S w)
  (h:wpAnyH P md l.toArray Q S fuel (listed.setIfInBounds i true) (a.put oi.dst v) w):wpAnyH P md l.toArray Q S (fuel+1) listed a w :=
 wpAnyH_take (by rw [List.getElem?_toArray];exact hi) hs hf hr hQ (.inl ⟨hw,hy⟩) hS h
theorem Aja {P:Program} {md:Region.Mode} {Q:Exit->Act->World->Prop} {S:World->Prop} {l:List Oper} (i:Nat) {o:Oper} {fuel:Nat} {listed:Array Bool} {a:Act} {w:World} (ho:l[i]? = Ad o)
  (hr:Region.ready md l.toArray listed=[i]) (hw:Region.wanted o (yielded l.toArray a.tmps)=true)
  (h:∀ K':Act->World->Prop,Shut (∀ a w,S w->(S w->wpAnyH P md l.toArray Q S fuel (listed.setIfInBounds i true) a w)->K' a w)->Oper.wp P o a w K' Q):wpAnyH P md l.toArray Q S (fuel+1) listed a w :=
 wpAnyH_ready hr Bn (AllReadyH.cons (o:=o) (by rw [List.getElem?_toArray];exact ho) (fun K hK=>by rw [if_pos hw];exact h K hK) AllReadyH.nil)
theorem Vk {P:Program} {md:Region.Mode} {Q:Exit->Act->World->Prop} {S:World->Prop} {l:List Oper} (i j:Nat) {oi oj:Oper} {fuel:Nat} {listed:Array Bool} {a:Act} {w:World} (hi:l[i]? = Ad oi) (hj:l[j]? = Ad oj)
  (hr:Region.ready md l.toArray listed=[i,j]) (wi:Region.wanted oi (yielded l.toArray a.tmps)=true) (wj:Region.wanted oj (yielded l.toArray a.tmps)=true)
  (h1:∀ K':Act->World->Prop,Shut (∀ a w,S w->(S w->wpAnyH P md l.toArray Q S fuel (listed.setIfInBounds i true) a w)->K' a w)->Oper.wp P oi a w K' Q)
  (h2:∀ K':Act->World->Prop,Shut (∀ a w,S w->(S w->wpAnyH P md l.toArray Q S fuel (listed.setIfInBounds j true) a w)->K' a w)->Oper.wp P oj a w K' Q):wpAnyH P md l.toArray Q S (fuel+1) listed a w :=
 wpAnyH_ready hr Bn (AllReadyH.cons (o:=oi) (by rw [List.getElem?_toArray];exact hi) (fun K hK=>by rw [if_pos wi];exact h1 K hK) (AllReadyH.cons (o:=oj) (by rw [List.getElem?_toArray];exact hj) (fun K hK=>by rw [if_pos wj];exact h2 K hK) AllReadyH.nil))
theorem tY {P:Program} {md:Region.Mode} {Q:Exit->Act->World->Prop} {S:World->Prop} {l:List Oper} (i:Nat) {oi:Oper} {v:Value} {fuel:Nat} {listed:Array Bool} {a:Act} {w:World}
  (h:wpAnyH P md l.toArray Q S fuel (listed.setIfInBounds i true) (a.put oi.dst v) w) (hi:l[i]? = Ad oi:=by rfl)
  (hs:Region.noSelect l.toArray=true:=by kernel_rfl) (hf:Region.free md l.toArray listed i=true:=by kernel_rfl) (hr:(Region.ready md l.toArray listed).contains i=true:=by kernel_rfl) (hQ:∀ c a w,Q (.panic c) (a.put oi.dst v) w->Q (.panic c) a w:=by exact fun _ _ _ h=>h)
  (hw:Region.wanted oi (yielded l.toArray a.tmps)=true:=by rfl) (hS:S w:=by assumption)
  (hy:∀ w,S w->(execOp a.eval oi).run P w = .ok (.value v) w:=by (intro w' hSw;(try dsimp only at hSw);(try have h0:=hSw.cell 0 _ rfl);(try have h1:=hSw.cell 1 _ rfl);(try have h2:=hSw.cell 2 _ rfl);(try have h3:=hSw.cell 3 _ rfl);(try have h4:=hSw.cell 4 _ rfl);(try have h5:=hSw.cell 5 _ rfl);(try have h6:=hSw.cell 6 _ rfl);(try have h7:=hSw.cell 7 _ rfl);(try have h8:=hSw.cell 8 _ rfl);(try have h9:=hSw.cell 9 _ rfl);(try have h10:=hSw.cell 10 _ rfl);(try have h11:=hSw.cell 11 _ rfl);go_simp;(try with_reducible rfl))) :
  wpAnyH P md l.toArray Q S (fuel+1) listed a w:=Ahg i hi hs hf hr hQ hw hy hS h
theorem tZ {P:Program} {md:Region.Mode} {Q:Exit->Act->World->Prop} {S:World->Prop} {l:List Oper} (i:Nat) {oi:Oper} {v:Value} {fuel:Nat} {listed:Array Bool} {a:Act} {w:World}
  (h:wpAnyH P md l.toArray Q S fuel (listed.setIfInBounds i true) (a.put oi.dst v) w) (hi:l[i]? = Ad oi:=by rfl)
  (hs:Region.noSelect l.toArray=true:=by kernel_rfl) (hf:Region.free md l.toArray listed i=true:=by kernel_rfl) (hr:(Region.ready md l.toArray listed).contains i=true:=by kernel_rfl) (hQ:∀ c a w,Q (.panic c) (a.put oi.dst v) w->Q (.panic c) a w:=by exact fun _ _ _ h=>h)
  (hw:Region.wanted oi (yielded l.toArray a.tmps)=true:=by rfl) (hS:S w:=by assumption) (hy:∀ w,S w->(execOp a.eval oi).run P w = .ok (.value v) w):wpAnyH P md l.toArray Q S (fuel+1) listed a w:=Ahg i hi hs hf hr hQ hw hy hS h
theorem tV {P:Program} {md:Region.Mode} {Q:Exit->Act->World->Prop} {S:World->Prop} {l:List Oper} (i:Nat) {oi:Oper} {v:Value} {fuel:Nat} {listed:Array Bool} {a:Act} {w:World}
  (h:wpAnyH P md l.toArray Q S fuel (listed.setIfInBounds i true) (a.put oi.dst v) w) (hi:l[i]? = Ad oi:=by rfl)
  (hs:Region.noSelect l.toArray=true:=by kernel_rfl) (hf:Region.free md l.toArray listed i=true:=by kernel_rfl) (hr:(Region.ready md l.toArray listed).contains i=true:=by kernel_rfl) (hQ:∀ c a w,Q (.panic c) (a.put oi.dst v) w->Q (.panic c) a w:=by exact fun _ _ _ h=>h)
  (hw:Region.wanted oi (yielded l.toArray a.tmps)=true:=by rfl) (hS:S w:=by assumption)
  (hy:∀ w,S w->(execOp a.eval oi).run P w = .ok (.value v) w:=by (intro w' hSw;(try dsimp only at hSw);(try have q0:=hSw.1.cell 0 _ rfl);(try have q1:=hSw.1.cell 1 _ rfl);(try have q2:=hSw.1.cell 2 _ rfl);(try have q3:=hSw.1.cell 3 _ rfl);(try have q4:=hSw.1.cell 4 _ rfl);(try have q5:=hSw.1.cell 5 _ rfl);(try have q6:=hSw.1.cell 6 _ rfl);(try have q7:=hSw.1.cell 7 _ rfl);(try have r0:=hSw.2.cell 0 _ rfl);(try have r1:=hSw.2.cell 1 _ rfl);(try have r2:=hSw.2.cell 2 _ rfl);(try have r3:=hSw.2.cell 3 _ rfl);(try have r4:=hSw.2.cell 4 _ rfl);(try have r5:=hSw.2.cell 5 _ rfl);(try have s0:=hSw.2.1.cell 0 _ rfl);(try have s1:=hSw.2.1.cell 1 _ rfl);(try have s2:=hSw.2.1.cell 2 _ rfl);(try have s3:=hSw.2.1.cell 3 _ rfl);(try have s4:=hSw.2.1.cell 4 _ rfl);(try have t0:=hSw.2.2.cell 0 _ rfl);(try have t1:=hSw.2.2.cell 1 _ rfl);(try have t2:=hSw.2.2.cell 2 _ rfl);(try have t3:=hSw.2.2.cell 3 _ rfl);(try have t4:=hSw.2.2.cell 4 _ rfl);go_simp;(try with_reducible rfl))) :
  wpAnyH P md l.toArray Q S (fuel+1) listed a w:=Ahg i hi hs hf hr hQ hw hy hS h
theorem rC {P:Program} {md:Region.Mode} {Q:Exit->Act->World->Prop} {S:World->Prop} {l:List Oper} (i:Nat) {o:Oper} {fuel:Nat} {listed:Array Bool} {a:Act} {w:World}
  (h:∀ K':Act->World->Prop,Shut (∀ a w,S w->(S w->wpAnyH P md l.toArray Q S fuel (listed.setIfInBounds i true) a w)->K' a w)->Oper.wp P o a w K' Q) (ho:l[i]? = Ad o:=by rfl)
  (hr:Region.ready md l.toArray listed=[i]:=by kernel_rfl) (hw:Region.wanted o (yielded l.toArray a.tmps)=true:=by rfl):wpAnyH P md l.toArray Q S (fuel+1) listed a w:=Aja i ho hr hw h
def Q1 (p:Plan) (w:World) (e:Ending) (w':World):Prop:=∃ v,e = .returned (Gl p v)/\Ow Gd 206 w' w v p.edges/\Below w w w'
theorem Kg:(An.info? 3).map (fun i=>(i.zero,i.size,i.bytes))=Ad (Ad (J Ab 0),1,8):=Bm
theorem Afz (p:Plan) (ve:Value) (w:World) (hm:Eg p=true) (he:Ht p) (h:Rd Gd w w ve p.edges) :
  Calls An 271 #[Gl p ve] w fun e w'=>∃ v,e = .returned v/\Ow En 3 w' w v (Pg.Lt (Dr p) p.tasks.toNat (List.replicate p.tasks.toNat 0))/\Below w w w':=by
 obtain ⟨A,c,rfl,-⟩:=id h;obtain ⟨t1,t2⟩:=Dx hm;have aK:=Es hm;obtain ⟨T,hT⟩:=Aq (show 0<=p.tasks by omega);have HT:=Bq hT;have fK:T<=12:=Bl;obtain ⟨i0,aQ,aW,aU,aR⟩:=info_parts Kg;have pK:∀ w:World,(Instr.makeSlice 26 (.int .i64 p.tasks) (.int .i64 p.tasks)).run An w = .ok (.slice (Ad ⟨w,0,Ac⟩) T T) (w.alloc (.cells (madeCells #[.int .i64 0] (T * 1)) 3)):=by
  intro w
  have:=run_make (P:=An) w 26 3 i0 _ underlying26 aQ aW .i64 .i64 T T Bl Bl (by rw [aR];omega) Bl
  rw [aU] at this;rw [hT];simpa [Value.cells] using this
 clear hT;unfold Gl;go_enter func271,ntmps271;go_wp2;go_loopw [11] (fun i wr=>∃ k:Nat,k<=T/\i = .int .i64 k/\Ow En 3 wr (w+1) (.slice (Ad ⟨w+1,0,Ac⟩) T T) (Pg.Lt (Dr p) k (List.replicate T 0))/\Below (El 43 p (.slice A p.edges.length c) w) (El 43 p (.slice A p.edges.length c) w) wr) (fun i _=>T - (intOf i).toNat);case atStart =>
  refine ⟨0,Ah _,rfl,?_,Bt⟩
  have:=Ow.made En 3 (El 43 p (.slice A p.edges.length c) w) 0 T Bp (by simp [maxLen];omega) (z:=#[.int .i64 0]) rfl (m:=T) (by simp [En])
  rw [Fw] at this;exact this
 case round =>
  obtain ⟨k,hk,rfl,hown,hb⟩:=hrel;obtain ⟨x0,x1,x2,x3,x4,hs,bN⟩:=Gm hb;by_cases aB:k<T
  ·have aC:(k:Int)<p.tasks:=by rw [HT.out];omega
   obtain ⟨wo,rfl⟩:∃ wo:World,wo=wr:=⟨_,rfl⟩
   go_wp2;go_loopw [16] (fun i wr=>∃ j:Nat,j<=p.edges.length/\i = .int .i64 j/\Ow En 3 wr (w+1) (.slice (Ad ⟨w+1,0,Ac⟩) T T) (Pg.Mf (esL (p.edges.take j)) (Pg.Lt (Dr p) k (List.replicate T 0)))/\Below (El 43 p (.slice A p.edges.length c) w) (El 43 p (.slice A p.edges.length c) w) wr) (fun i _=>p.edges.length - (intOf i).toNat);case atStart=>exact ⟨0,Ah _,rfl,hown,hb⟩
   case round =>
    clear hown hb x0 x1 x2 x3 x4 hs bN;obtain ⟨j,hj,rfl,hown,hb⟩:=hrel;obtain ⟨x0,x1,x2,x3,x4,hs,bN⟩:=Gm hb;by_cases dE:j<p.edges.length
    ·obtain ⟨b,o,rfl,aH,c0,c1⟩:=(h.below bN).edge dE;obtain ⟨f1,f2,f3,f4⟩:=H8 he dE;rw [HT.out] at f2 f4;have ht:=Bq (show esL (p.edges.take (j+1))=esL (p.edges.take j) ++ [(p.edges[j].fr.toNat,p.edges[j].to.toNat)] by unfold esL;rw [Cy _ j dE,List.map_append];rfl);generalize p.edges[j].fr=fx at *
     generalize p.edges[j].to=tx at *
     obtain ⟨a,rfl⟩:=Aq f1;obtain ⟨d,rfl⟩:=Aq f3;have kR:(Pg.Mf (esL (p.edges.take j)) (Pg.Lt (Dr p) k (List.replicate T 0))).length=T:=by rw [Pg.Yj,Pg.Mg,List.length_replicate]
     have hnext:Hid (Pg.Mf (esL (p.edges.take (j+1))) (Pg.Lt (Dr p) k (List.replicate T 0))=Pg.Qh (Pg.Mf (esL (p.edges.take j)) (Pg.Lt (Dr p) k (List.replicate T 0))) (a,d)):=by
      show Pg.Mf _ _=_;rw [ht.out];simp only [Ap];unfold Pg.Mf;rw [List.foldl_append];rfl
     have aX:∀ x∈Pg.Mf (esL (p.edges.take j)) (Pg.Lt (Dr p) k (List.replicate T 0)),x<2 ^ T:=by
      refine Pg.Aft T _ _ ?_ (Pg.Ad4 T _ _ ?_ ?_ k)
      ·intro e he';simp only [esL,List.mem_map] at he';obtain ⟨y,hy,rfl⟩:=he'
       have:=(Lv he).2 (y.fr.toNat,y.to.toNat) (by simp only [Dr,esL,List.mem_map];exact ⟨y,List.mem_of_mem_take hy,rfl⟩)
       rw [HT.out] at this;simpa using this
      ·have:=(Lv he).2
       rw [HT.out] at this;simpa using this
      ·intro x hx
       have:=List.eq_of_mem_replicate hx
       subst this;exact Nat.two_pow_pos T
     generalize hO:Pg.Mf (esL (p.edges.take j)) (Pg.Lt (Dr p) k (List.replicate T 0))=O at *
     have HO:=Bq hO;clear hO ht;have hol':=Bq kR;have ha:a<O.length:=Bl;have hd:d<O.length:=Bl;clear kR;have rM:=hown.blk.2;have n0:(wr.alloc (.cells #[.int .i64 (a:Int),.int .i64 (d:Int)] 206)).cell? ⟨wr,0,Ac⟩=Ad (.int .i64 (a:Int)):=by go_simp
     have n1:(wr.alloc (.cells #[.int .i64 (a:Int),.int .i64 (d:Int)] 206)).cell? ⟨wr,1,Ac⟩=Ad (.int .i64 (d:Int)):=by go_simp
     have hown2:=Ow.below hown ((Br _ _).alloc (Bs _) (.cells #[.int .i64 (a:Int),.int .i64 (d:Int)] 206));have aJ:=hb.alloc hb.size (.cells #[.int .i64 (a:Int),.int .i64 (d:Int)] 206);go_wp2;generalize wr.alloc (.cells #[.int .i64 (a:Int),.int .i64 (d:Int)] 206)=W2 at *
     have hcf:=hown2.free;have ca:=hown2.nat ha;have cd:=hown2.nat hd;go_still_tail 16,Bm;go_wp2;have hda:O[d]<2 ^ T:=aX _ (Ax hd);have haa:O[a]<2 ^ T:=aX _ (Ax ha);have hpT:2 ^ T<=2 ^ 12:=Nat.pow_le_pow_right Bl fK;have hpd:1 <<< d<2 ^ 12:=by rw [Nat.shiftLeft_eq,Nat.one_mul];exact Nat.pow_lt_pow_of_lt Bl Bl
     have hor:1 <<< d ||| O[d]<2 ^ 12:=Nat.or_lt_two_pow hpd (Aj hda hpT)
     have sD:∀ {x:Nat},x<2 ^ 12->x<9223372036854775808:=fun h=>Aj h Bp;rw [Aij d Bl,Ahe (1 <<< d) O[d] (sD hpd) (sD (Aj hda hpT)),Ahe O[a] (1 <<< d ||| O[d]) (sD (Aj haa hpT)) (sD hor)];clear hpd hor sD hda haa hpT;have cP:=Ow.put hown2 (n:=T) hol'.out a Bl (O[a] ||| (1 <<< d ||| O[d]));have bL:O.set a (O[a] ||| (1 <<< d ||| O[d]))=Pg.Qh O (a,d):=by
      simp [Pg.Qh,List.getD_eq_getElem?_getD,ha,hd]
     rw [bL,<-hnext.out] at cP;simp only [En,Nat.mul_one] at cP;refine ⟨⟨j+1,Bl,by go_num,cP.1,((aJ.grown cP.2 aJ.size (fun g hg=>?_))).drew⟩,clM⟩;rw [Fw];simp at hg;omega
    ·have hj':j=p.edges.length:=Bl;subst hj';rw [List.take_length] at hown;go_wp2;exact ⟨⟨k+1,Bl,by go_num,hown,hb⟩,clM⟩
  ·have aC:¬ (k:Int)<p.tasks:=by rw [HT.out];omega
   go_wp2;go_ret;refine ⟨_,rfl,?_,bN⟩;have:k=T:=Bl;subst this;rw [HT.out];exact hown.more Bl
theorem Cq (n lo hi:Int) (w:World):Calls An 72 #[J Ab n,J Ab lo,J Ab hi] w fun e w'=>e = .returned (.bool (inB n lo hi))/\w=w':=by
 by_cases h1:lo<=n
 ·have t1:decide (lo<=n)=true:=by simpa using h1
  go_enter func72,ntmps72;go_wp2;go_ret;exact ⟨Bx (by simp [inB,t1]),rfl⟩
 ·have t1:decide (lo<=n)=false:=by simpa using h1
  go_enter func72,ntmps72;go_wp2;go_ret;exact ⟨Bx (by simp [inB,t1]),rfl⟩
theorem Cl (n lo hi:Int) (w:World):Calls An 90 #[J Ab n,J Ab lo,J Ab hi] w fun e w'=>e = .returned (.bool (inB n lo hi))/\w=w':=by
 by_cases h1:lo<=n
 ·have t1:decide (lo<=n)=true:=by simpa using h1
  go_enter func90,ntmps90;go_wp2;go_ret;exact ⟨Bx (by simp [inB,t1]),rfl⟩
 ·have t1:decide (lo<=n)=false:=by simpa using h1
  go_enter func90,ntmps90;go_wp2;go_ret;exact ⟨Bx (by simp [inB,t1]),rfl⟩
theorem Cu (n:Int) (w:World):Calls An 161 #[J Ab n] w fun e w'=>e = .returned (.bool (inB n 0 1000000000))/\w=w':=by
 go_enter func161,ntmps161;go_wp2_with (go_at_call 90;refine (Cl _ _ _ _).mono ?_;rintro e w' ⟨rfl,rfl⟩)
 go_ret;exact ⟨rfl,rfl⟩
def He {α:Type} (p:α->Bool) (l:List α):Int:=match l.findIdx? p with | some i=>i | none=>-1
theorem It {α:Type} {p:α->Bool} {l:List α} {k:Nat} (hk:k<l.length) (h:∀ j (hj:j<k),p (l[j]' Bl)=false) (hp:p l[k]=true):He p l=k:=by
 have:l.findIdx? p=Ad k:=by
  rw [List.findIdx?_eq_some_iff_getElem];exact ⟨hk,hp,fun j hj=>by simp [h j hj]⟩
 simp [He,this]
theorem Jd {α:Type} {p:α->Bool} {l:List α} (h:∀ j (hj:j<l.length),p l[j]=false):He p l = -1:=by
 have:l.findIdx? p=Ac:=by
  rw [List.findIdx?_eq_none_iff];intro x hx;obtain ⟨j,hj,rfl⟩:=List.getElem_of_mem hx;exact h j hj
 simp [He,this]
def Ajb (v:Value) (lo hi:Nat):Prop:=∀ g,v.ownBlock=Ad g->lo<=g/\g<hi
theorem Ow.within {α:Type} {e:Enc α} {E:TypeId} {w:World} {base:Nat} {v:Value} {l:List α} (h:Ow e E w base v l):Ajb v base w:=by
 intro g hg;rcases h.form with ⟨rfl,_⟩ | ⟨g',cap,rfl,h1,h2,_⟩
 ·simp [Value.ownBlock] at hg
 ·have:g'=g:=by simpa [Value.ownBlock] using hg
  omega
structure BoxAt (b:Nat) (p:Plan) (v:Value) (w:World):Prop where
 cells:w.cell? ⟨b,0,none⟩=some (.int .i64 p.prio)/\w.cell? ⟨b,1,none⟩=some (.int .i64 p.most)/\w.cell? ⟨b,2,none⟩=some (.int .i64 p.wait) /\
  w.cell? ⟨b,3,none⟩=some (.int .i64 p.tasks)/\w.cell? ⟨b,4,none⟩=some v/\b<w
 free:∀ j,w.frozen? ⟨b,j,none⟩=false
theorem BoxAt.lt {b:Nat} {p:Plan} {v:Value} {w:World} (h:BoxAt b p v w):b<w:=h.cells.2.2.2.2.2
theorem BoxAt.new' (T:TypeId) (p:Plan) (v:Value) (w:World) {b:Nat} (hb:b=w):BoxAt b p v (w.alloc (.cells #[J Ab p.prio,J Ab p.most,J Ab p.wait,J Ab p.tasks,v] T)):=by
 subst hb;refine ⟨⟨?_,?_,?_,?_,?_,Bn⟩,fun j=>?_⟩;all_goals simp [go_sem]
theorem BoxAt.new (T:TypeId) (p:Plan) (v:Value) (w:World):BoxAt w p v (El T p v w):=BoxAt.new' T p v w rfl
theorem BoxAt.keep {b:Nat} {p:Plan} {v:Value} {w w':World} (h:BoxAt b p v w) (hs:w.heap.size<=w'.heap.size) (hk:∀ j,w'.cell? ⟨b,j,Ac⟩=w.cell? ⟨b,j,Ac⟩) (hf:∀ j,w'.frozen? ⟨b,j,Ac⟩=w.frozen? ⟨b,j,Ac⟩):BoxAt b p v w':=by
 obtain ⟨h0,h1,h2,h3,h4,h5⟩:=h.cells;exact ⟨⟨(hk 0).trans h0,(hk 1).trans h1,(hk 2).trans h2,(hk 3).trans h3,(hk 4).trans h4,Aj h5 hs⟩,fun j=>(hf j).trans (h.free j)⟩
theorem BoxAt.upto {B b:Nat} {p:Plan} {v:Value} {w w':World} (h:BoxAt b p v w) (hb:Below B w w') (aB:b<B):BoxAt b p v w' :=
 h.keep hb.size (fun j=>hb.cell (p:=⟨b,j,Ac⟩) aB) (fun j=>hb.frozen (p:=⟨b,j,Ac⟩) aB)
theorem BoxAt.below {b:Nat} {p:Plan} {v:Value} {w w':World} (h:BoxAt b p v w) (hb:Below w w w'):BoxAt b p v w':=h.upto hb h.lt
theorem BoxAt.far {b:Nat} {p:Plan} {v:Value} {w w':World} {row:Option Nat} (h:BoxAt b p v w) (hg:w.grownBy w' row) (aE:Ad b≠row):BoxAt b p v w' :=
 h.keep hg.size (fun j=>hg.cell_far ⟨b,j,Ac⟩ h.lt aE) (fun j=>hg.frozen_far ⟨b,j,Ac⟩ h.lt aE)
theorem BoxAt.other {b:Nat} {p:Plan} {v:Value} {w:World} (h:BoxAt b p v w) {a:Addr} (aE:b≠a.block) (u:Value):BoxAt b p v (w.setCell a u) :=
 h.keep (by simp [World.setCell]) (fun j=>World.cell?_of_block (Below.heap_setCell w a u b aE)) (fun j=>World.frozen?_of_block (Below.heap_setCell w a u b aE))
theorem BoxAt.setTasks {b:Nat} {p:Plan} {v:Value} {w:World} (h:BoxAt b p v w) (t:Int):BoxAt b { p with tasks:=t } v (w.setCell ⟨b,3,Ac⟩ (J Ab t)):=by
 obtain ⟨h0,h1,h2,h3,h4,h5⟩:=h.cells;have hf:=h.free;refine ⟨⟨?_,?_,?_,?_,?_,by simpa [World.setCell] using h5⟩,fun j=>?_⟩;all_goals simp [go_sem,h0,h1,h2,h3,h4,hf]
theorem BoxAt.setEdges {b:Nat} {p:Plan} {v:Value} {w:World} (h:BoxAt b p v w) (l:List Edge) (v':Value):BoxAt b { p with edges:=l } v' (w.setCell ⟨b,4,Ac⟩ v'):=by
 obtain ⟨h0,h1,h2,h3,h4,h5⟩:=h.cells;have hf:=h.free;refine ⟨⟨?_,?_,?_,?_,?_,by simpa [World.setCell] using h5⟩,fun j=>?_⟩;all_goals simp [go_sem,h0,h1,h2,h3,h4,hf]
theorem Qj (w:World) (a:Addr) (u:Value):w.grownBy (w.setCell a u) (Ad a.block) :=
 ⟨rfl,rfl,rfl,by simp [World.setCell],fun k _ aE=>Below.heap_setCell w a u k (fun e=>aE (by rw [e]))⟩
theorem Ow.setOther {α:Type} {e:Enc α} {E:TypeId} {w:World} {base:Nat} {v:Value} {l:List α} (h:Ow e E w base v l) {a:Addr} (aE:v.ownBlock≠Ad a.block) (u:Value):Ow e E (w.setCell a u) base v l :=
 h.grown (Qj w a u) (.inr aE)
structure EdgeAt (b:Nat) (e:Edge) (w:World):Prop where
 cells:w.cell? ⟨b,0,none⟩=some (.int .i64 e.fr)/\w.cell? ⟨b,1,none⟩=some (.int .i64 e.to)/\b<w
theorem EdgeAt.new (T:TypeId) (e:Edge) (w:World):EdgeAt w e (w.alloc (.cells #[J Ab e.fr,J Ab e.to] T)):=by
 refine ⟨?_,?_,Bn⟩;all_goals simp [go_sem]
theorem Af0:(An.info? 4).map (fun i=>(i.zero,i.size,i.bytes))=Ad (Ad (.bool false),1,1):=Bm
def Ahh (p:Plan) (t:Nat) (w:World) (e:Ending) (w':World):Prop :=
 ∃ v O,e = .returned v/\Ow Vz 4 w' w v O/\Below w w w'/\O.length=p.tasks.toNat /\ ∀ y,O.getD y false=true ↔ Pg.Reach (Dr p) t y
theorem Ahi (p:Plan) (ve:Value) (t:Nat) (w:World) (hm:Eg p=true) (he:Ht p) (ht:(t:Int)<p.tasks) (h:Rd Gd w w ve p.edges) :
  Calls An 288 #[Gl p ve,.int .i64 (t:Int)] w (Ahh p t w):=by
 obtain ⟨A,c,rfl,-⟩:=id h;obtain ⟨t1,t2⟩:=Dx hm;have aK:=Es hm;obtain ⟨T,hT⟩:=Aq (show 0<=p.tasks by omega);have HT:=Bq hT;have fK:T<=12:=Bl;have htT:t<T:=Bl;obtain ⟨i0,aQ,aW,aU,aR⟩:=info_parts Af0;obtain ⟨j0,bZ,jz0,jz1,jz2⟩:=info_parts Kg;have pK:∀ w:World,(Instr.makeSlice 295 (.int .i64 p.tasks) (.int .i64 p.tasks)).run An w = .ok (.slice (Ad ⟨w,0,Ac⟩) T T) (w.alloc (.cells (madeCells #[.bool false] (T * 1)) 4)):=by
  intro w
  have:=run_make (P:=An) w 295 4 i0 _ underlying295 aQ aW .i64 .i64 T T Bl Bl (by rw [aR];omega) Bl
  rw [aU] at this;rw [hT];simpa [Value.cells] using this
 have mG:(∀ e∈Dr p,e.1<T)/\(∀ e∈Dr p,e.2<T):=by
  have:=Lv he
  rw [hT] at this;simpa using this
 clear hT;unfold Gl;go_enter func288,ntmps288;go_wp2;go_loopw [6,7] (fun vl i wr=>∃ (k:Nat) (s:List Bool×List Nat),Hid (Pg.Bat (Dr p) T t k s)/\i = .int .i64 k/\Ow Vz 4 wr (w+1) (.slice (Ad ⟨w+1,0,Ac⟩) T T) s.1/\Ow En 3 wr (w+1) vl s.2 /\
   Below (El 43 p (.slice A p.edges.length c) w) (El 43 p (.slice A p.edges.length c) w) wr) (fun _ i _=>T+2 - (intOf i).toNat)
 case atStart =>
  refine ⟨0,_,Pg.Bat.start (Dr p) T t,rfl,?_,?_,?_⟩
  ·have:=Ow.made Vz 4 (El 43 p (.slice A p.edges.length c) w) false T Bp (by simp [maxLen];omega) (z:=#[.bool false]) rfl (m:=T) (by simp [Vz])
   rw [Fw] at this;exact this.below (Bt)
  ·have:=World.ownsRow_lit (base:=w+1) (e:=3) (size:=1) ((El 43 p (.slice A p.edges.length c) w).alloc (.cells (madeCells #[.bool false] T) 4)) #[.int .i64 (t:Int)] 1 (by simp [Fw]) (by simp [maxLen]) rfl
   simp only [World.size_alloc,Fw] at this;exact this
  ·exact (Bt).alloc Bn _
 case round =>
  obtain ⟨k,s,kB,rfl,ho,hl,hb⟩:=hrel;obtain ⟨x0,x1,x2,x3,x4,hs,bN⟩:=Gm hb;have bG:w.heap.size<wr.heap.size:=Bl;have hkT:=kB.out.inv.lt;have kP:=kB.out.le;have kR:=Bq kB.out.inv.size;rcases hl.form with ⟨_,e0⟩ | ⟨gl,cap,rfl,hgl0,rM,aN,pZ,hlf,hlcell⟩
  ·exfalso;obtain ⟨l,hh,_⟩:=kB.out.inv.head;rw [hh] at e0;cases e0
  clear hlcell hlf;by_cases aB:k<s.2.length
  ·have aC:(k:Int)<(s.2.length:Int):=Bl;obtain ⟨wo,rfl⟩:∃ wo:World,wo=wr:=⟨_,rfl⟩
   have kK:s.2[k]? = Ad s.2[k]:=List.getElem?_eq_getElem aB;have gC:=Bq (kB.out.next mG.2 kK);clear kK;go_wp2;go_loopw [6,8] (fun vl i wr=>∃ (j:Nat),j<=p.edges.length/\i = .int .i64 j/\Ow Vz 4 wr (w+1) (.slice (Ad ⟨w+1,0,Ac⟩) T T) (Pg.Ot (esL (p.edges.take j)) s.2[k] s).1/\Ow En 3 wr (w+1) vl (Pg.Ot (esL (p.edges.take j)) s.2[k] s).2 /\
    Below (El 43 p (.slice A p.edges.length c) w) (El 43 p (.slice A p.edges.length c) w) wr) (fun _ i _=>p.edges.length - (intOf i).toNat)
   case atStart=>exact ⟨0,Ah _,rfl,ho,hl,hb⟩
   case round =>
    clear ho hl hb x0 x1 x2 x3 x4 hs bN bG hgl0 rM aN pZ;obtain ⟨j,hj,rfl,ho,hl,hb⟩:=hrel;obtain ⟨x0,x1,x2,x3,x4,hs,bN⟩:=Gm hb;have bG:w.heap.size<wr.heap.size:=Bl;by_cases dE:j<p.edges.length
    ·have gL:(j:Int)<(p.edges.length:Int):=Bl;obtain ⟨b,o,rfl,aH,c0,c1⟩:=(h.below bN).edge dE;obtain ⟨f1,f2,f3,f4⟩:=H8 he dE;rw [HT.out] at f2 f4;have cU:=Bq (show esL (p.edges.take (j+1))=esL (p.edges.take j) ++ [(p.edges[j].fr.toNat,p.edges[j].to.toNat)] by unfold esL;rw [Cy _ j dE,List.map_append];rfl);generalize p.edges[j].fr=fx at *
     generalize p.edges[j].to=tx at *
     obtain ⟨a,rfl⟩:=Aq f1;obtain ⟨d,rfl⟩:=Aq f3;have aF:Hid (Pg.Ot (esL (p.edges.take (j+1))) s.2[k] s=Pg.Nc s.2[k] (Pg.Ot (esL (p.edges.take j)) s.2[k] s) (a,d)):=by
      show Pg.Ot _ _ _=_;rw [cU.out];simp only [Ap];unfold Pg.Ot;rw [List.foldl_append];rfl
     have kG:=Pg.Aif (esL (p.edges.take j)) s.2[k] s;rw [kR.out] at kG;obtain ⟨r,hr⟩:=Pg.Afw (esL (p.edges.take j)) s.2[k] s;have hgk:(Pg.Ot (esL (p.edges.take j)) s.2[k] s).2[k]? = Ad s.2[k]:=by rw [hr,List.getElem?_append_left aB,List.getElem?_eq_getElem aB]
     have hlen2:s.2.length<=(Pg.Ot (esL (p.edges.take j)) s.2[k] s).2.length:=by rw [hr];simp
     clear hr cU;generalize hS:Pg.Ot (esL (p.edges.take j)) s.2[k] s=S at *
     have HS:=Bq hS;clear hS;generalize hx:s.2[k]=x at *
     have HX:=Bq hx;clear hx;rcases hl.form with ⟨_,e0⟩ | ⟨gl',cap',rfl,hgl0,rM,aN,pZ,hlf,hlcell⟩
     ·exfalso
      have:=congrArg List.length e0
      simp only [List.length_nil] at this;omega
     have hkS:k<S.2.length:=Bl;have hSk:Hid (S.2[k]=x):=by
      rw [List.getElem?_eq_getElem hkS] at hgk;exact Option.some.inj hgk
     have cx:=hl.nat hkS;rw [hSk.out] at cx;have hHbl:=Bq kG;have hdO:d<S.1.length:=by rw [kG];omega
     have cO:=ho.bool hdO;have hgO:=ho.blk.2;have hkSI:(k:Int)<(S.2.length:Int):=Bl;clear kG hgk hlcell;by_cases qH:a=x
     ·subst qH;have dC:S.1.getD d true=S.1[d]:=by rw [List.getD_eq_getElem?_getD,List.getElem?_eq_getElem hdO];rfl
      have jU:((a:Int) == (a:Int))=true:=Bn;cases hO:S.1[d]
      ·rw [hO] at cO;have eA:Hid (Pg.Ot (esL (p.edges.take (j+1))) a s=(S.1.set d true,S.2 ++ [d])):=by
        show Pg.Ot _ _ _=_;rw [aF.out];unfold Pg.Nc;rw [if_pos ⟨rfl,by rw [dC,hO]⟩]
       clear dC hO aF;have e1:(wr.alloc (.cells #[.int .i64 (a:Int),.int .i64 (d:Int)] 206)).cell? ⟨wr,1,Ac⟩=Ad (.int .i64 (d:Int)):=by go_simp
       go_wp2;go_quiet (fail);have hW:=Du ((Br wr wr).alloc (Bs _) (.cells #[.int .i64 (a:Int),.int .i64 (d:Int)] 206)) nq;have aJ:=Du (hb.alloc hb.size (.cells #[.int .i64 (a:Int),.int .i64 (d:Int)] 206)) nq;have e2:((wr.alloc (.cells #[.int .i64 (a:Int),.int .i64 (d:Int)] 206)).drewN nq).cell? ⟨wr,1,Ac⟩=Ad (.int .i64 (d:Int)):=e1;have hwn:wr.heap.size<((wr.alloc (.cells #[.int .i64 (a:Int),.int .i64 (d:Int)] 206)).drewN nq).heap.size:=Bn;clear e1 c0 c1 cx cO;generalize (wr.alloc (.cells #[.int .i64 (a:Int),.int .i64 (d:Int)] 206)).drewN nq=W2 at *
       have jC:=ho.below hW;have eS:=hl.below hW;have cO2:=jC.bool hdO;have hof:=jC.free;have cP:=Ow.put jC (n:=T) (by rw [hHbl.out]) d Bl true;simp only [Vz,Nat.mul_one] at cP;have qS:Ow En 3 (W2.setCell ⟨w+1,d,Ac⟩ (.bool true)) (w+1) (.slice (Ad ⟨gl',0,Ac⟩) S.2.length cap') S.2:=eS.grown cP.2 (by
        have:=eS.ne_ jC Bp
        simpa [Value.ownBlock] using this)
       have hkp:=Fw 43 p (.slice (Ad ⟨b,o,Ac⟩) p.edges.length c) w;have bU:=aJ.grown cP.2 aJ.size (fun g hg=>by rw [Fw];simp at hg;omega);have uZ:=cP.1;have hl4:=qS.below ((Br _ _).alloc (Bs _) (.cells #[.int .i64 (d:Int)] 3));have hwz:w.heap.size+1<=W2.heap.size:=Bl;have cL:=bU.alloc bU.size (.cells #[.int .i64 (d:Int)] 3);clear cP;have hSl:S.2.length<=3000000:=by
        have:=(Pg.Afx (x:=a) (esL (p.edges.take j)) kB.out.inv (by rw [<-HX.out];exact Ax aB) (fun e he'=>by
         simp only [esL,List.mem_map] at he';obtain ⟨y,hy,rfl⟩:=he';simp only [Dr,esL,List.mem_map];exact ⟨y,List.mem_of_mem_take hy,rfl⟩) (fun e he'=>by
         simp only [esL,List.mem_map] at he';obtain ⟨y,hy,rfl⟩:=he';exact mG.2 _ (by simp only [Dr,esL,List.mem_map];exact ⟨y,List.mem_of_mem_take hy,rfl⟩))).lt
        rw [HS.out] at this;omega
       go_wp2_with (at_builtin;refine Lf (v:=.slice (Ad ⟨gl',0,Ac⟩) S.2.length cap') En Bp rfl (.tmp 52) (.tmp 55) rfl underlying26 bZ jz0 jz1 jz2 rfl d rfl hl4 ⟨W2,0,Ac⟩ 1 rfl (Oq _ #[.int .i64 (d:Int)] _ Bn) hSl Bp (by simp;omega) ?_;intro v' w3 hown3 hgrow3)
       have dH:=uZ.below ((Br _ _).alloc (Bs _) (.cells #[.int .i64 (d:Int)] 3));have ho5:=dH.grown hgrow3 (dH.ne_ hl4 Bp);have dM:=cL.grown hgrow3 cL.size (fun g hg=>by
        have hgg:gl'=g:=by simpa [Value.ownBlock] using hg
        have hgl1:=eS.blk.1;omega)
       exact ⟨⟨j+1,Bl,by go_num,by rw [eA.out];exact ho5,by rw [eA.out];exact hown3,dM⟩,clM⟩
      ·rw [hO] at cO;have aM:Hid (Pg.Ot (esL (p.edges.take (j+1))) a s=S):=by
        show Pg.Ot _ _ _=_;rw [aF.out];unfold Pg.Nc;rw [if_neg (fun h=>by rw [dC,hO] at h;exact absurd h.2 Bn)]
       clear dC hO;go_wp2;go_quiet (fail);go_wp2;exact ⟨⟨j+1,Bl,by go_num,by rw [aM.out];exact (ho.below (Du ((Br wr wr).alloc (Bs _) _) _)),by rw [aM.out];exact (hl.below (Du ((Br wr wr).alloc (Bs _) _) _)),Du (hb.alloc hb.size _) _⟩,clM⟩
     ·have jU:((a:Int) == (x:Int))=false:=beq_eq_false_iff_ne.2 Bl;have aM:Hid (Pg.Ot (esL (p.edges.take (j+1))) x s=S):=by
       show Pg.Ot _ _ _=_;rw [aF.out];unfold Pg.Nc;rw [if_neg (fun h=>qH h.1)]
      clear qH;go_wp2;go_quiet (fail);go_wp2;exact ⟨⟨j+1,Bl,by go_num,by rw [aM.out];exact (ho.below (Du ((Br wr wr).alloc (Bs _) _) _)),by rw [aM.out];exact (hl.below (Du ((Br wr wr).alloc (Bs _) _) _)),Du (hb.alloc hb.size _) _⟩,clM⟩
    ·have gL:¬ (j:Int)<(p.edges.length:Int):=Bl;have hj':j=p.edges.length:=Bl;subst hj';rw [List.take_length] at ho hl;go_wp2;refine ⟨⟨k+1,_,gC.out,by go_num,ho,hl,hb⟩,clM⟩
  ·have aC:¬ (k:Int)<(s.2.length:Int):=Bl;have bE:k=s.2.length:=Bl;go_wp2;go_ret;refine ⟨_,s.1,rfl,ho.more Bl,bN,?_,fun y=>?_⟩
   ·rw [kR.out,HT.out];rfl
   ·exact Pg.Bat.iff (by rw [<-bE];exact kB.out) y
end Go.Proofs.YtecnbnbopcblgaaGreat
